/- A region that draws its order: an invariant that holds whatever stands behind. No program in sight. -/
import Derived.Test.YtcdaelgnankmfaaVRgBox
namespace Go.VRg
open Go.RowKit

theorem any_inv {P : Program} {ops : Array Oper} {Q : Exit → Act → World → Prop} (I : Array Bool → Act → World → Prop) (F : Fine ops)
    (hstep : ∀ (L : Array Bool) a W i, L.size = ops.size → i ∈ Region.ready .any ops L → I L a W → wpOp P ops Q i (I (L.setIfInBounds i true)) a W)
    (hfin : ∀ (L : Array Bool) a W, L.size = ops.size → (∀ i, i < ops.size → L.getD i false = true) → I L a W → Q .normal a W) :
    ∀ (fuel : Nat) (L : Array Bool) (a : Act) (W : World), L.size = ops.size → ((List.range ops.size).filter fun i => !L.getD i false).length ≤ fuel → I L a W → wpAny P .any ops Q fuel L a W := by
  have hdone : ∀ (L : Array Bool) (a : Act) (W : World), L.size = ops.size → I L a W → Region.ready .any ops L = [] → Q .normal a W := by
    intro L a W hs hI hnone
    refine hfin L a W hs ?_ hI
    intro i
    induction i using Nat.strongRecOn with
    | _ i ih =>
      intro hi
      cases hl : L.getD i false with
      | true => rfl
      | false =>
        have ho : ops[i]? = some ops[i] := by simp
        have hmem : i ∈ Region.ready .any ops L := by
          rw [mem_ready]
          refine ⟨?_, _, ho, fun e he hb => ?_⟩
          · have h1 : i < L.size := by rw [hs]; exact hi
            simpa [h1] using hl
          · have := F.back _ _ _ ho he hb
            exact ih _ this (by omega)
        rw [hnone] at hmem; cases hmem
  intro fuel
  induction fuel with
  | zero =>
    intro L a W hs hf hI
    have hnone : Region.ready .any ops L = [] := by
      rw [List.eq_nil_iff_forall_not_mem]
      intro i hi
      obtain ⟨hun, o, ho, _⟩ := mem_ready.1 hi
      have hlt : i < ops.size := (Array.getElem?_eq_some_iff.1 ho).1
      have hunf : L.getD i false = false := by
        have h1 : i < L.size := by rw [hs]; exact hlt
        simpa [h1] using hun
      have : i ∈ (List.range ops.size).filter fun i => !L.getD i false := by
        rw [List.mem_filter, List.mem_range]; exact ⟨hlt, by rw [hunf]; rfl⟩
      have hlen := List.length_pos_of_mem this
      omega
    exact ⟨hnone, hdone L a W hs hI hnone⟩
  | succ fuel ih =>
    intro L a W hs hf hI
    refine ⟨hdone L a W hs hI, fun i hr => ?_⟩
    obtain ⟨hun, o, ho, hall⟩ := mem_ready.1 hr
    have hlt : i < ops.size := (Array.getElem?_eq_some_iff.1 ho).1
    have hunf : L.getD i false = false := by
      have h1 : i < L.size := by rw [hs]; exact hlt
      simpa [h1] using hun
    have hfuel : ((List.range ops.size).filter fun k => !(L.setIfInBounds i true).getD k false).length ≤ fuel := by
      have hsub : ((List.range ops.size).filter fun k => !(L.setIfInBounds i true).getD k false) = (((List.range ops.size).filter fun k => !L.getD k false)).filter (fun k => k != i) := by
        rw [List.filter_filter]
        apply List.filter_congr
        intro k _
        by_cases hki : k = i
        · subst hki
          have h1 : k < L.size := by rw [hs]; exact hlt
          simp [h1]
        · rw [getD_set_ne false (Ne.symm hki)]; simp [hki]
      rw [hsub]
      have hmem : i ∈ (List.range ops.size).filter fun k => !L.getD k false := by
        rw [List.mem_filter, List.mem_range]; exact ⟨hlt, by rw [hunf]; rfl⟩
      have hlt2 : (((List.range ops.size).filter fun k => !L.getD k false).filter (fun k => k != i)).length < ((List.range ops.size).filter fun k => !L.getD k false).length := by
        rw [List.length_filter_lt_length_iff_exists]
        exact ⟨i, hmem, by simp⟩
      omega
    exact wpOp_mono (fun a' W' h => ih _ a' W' (by simpa using hs) hfuel h) (hstep L a W i hs hr hI)
theorem wp_region_inv {P : Program} {ops : Array Oper} {id : Nat} {a : Act} {w : World} {Q : Exit → Act → World → Prop} (hm : P.follows .mixedOrders = true) (hf : fine ops = true) (I : Array Bool → Act → World → Prop)
    (hstep : ∀ (L : Array Bool) a W i, L.size = ops.size → i ∈ Region.ready .any ops L → I L a W → wpOp P ops Q i (I (L.setIfInBounds i true)) a W)
    (hfin : ∀ (L : Array Bool) a W, L.size = ops.size → (∀ i, i < ops.size → L.getD i false = true) → I L a W → Q .normal a W)
    (h0 : I (Array.replicate ops.size false) a w.drew) : (Code.region id ops true).wp P Q a w :=
  wp_region_any hm (any_inv I (Fine.of hf) hstep hfin _ _ _ _ (by simp) (by
    have := List.length_filter_le (fun i => !(Array.replicate ops.size false).getD i false) (List.range ops.size)
    rw [List.length_range] at this
    exact this) h0)

/-- An act whose four temporaries are set. -/
def act4 (a0 : Act) (p q r s : Tmp) (v5 v6 v22 v23 : Value) : Act := { a0 with tmps := (((a0.tmps.setIfInBounds p v5).setIfInBounds q v6).setIfInBounds r v22).setIfInBounds s v23 }
theorem eval_tmp (a : Act) (t : Tmp) : a.eval (.tmp t) = a.tmps.getD t undef := rfl
theorem act4_put {a0 : Act} {p q r s : Tmp} (h1 : p ≠ q) (h2 : p ≠ r) (h3 : p ≠ s) (h4 : q ≠ r) (h5 : q ≠ s) (h6 : r ≠ s) (v5 v6 v22 v23 v : Value) :
    (act4 a0 p q r s v5 v6 v22 v23).put (some p) v = act4 a0 p q r s v v6 v22 v23 ∧ (act4 a0 p q r s v5 v6 v22 v23).put (some q) v = act4 a0 p q r s v5 v v22 v23 ∧
    (act4 a0 p q r s v5 v6 v22 v23).put (some r) v = act4 a0 p q r s v5 v6 v v23 ∧ (act4 a0 p q r s v5 v6 v22 v23).put (some s) v = act4 a0 p q r s v5 v6 v22 v := by
  unfold act4 Act.put
  simp only [Act.mk.injEq, and_true]
  refine ⟨?_, ?_, ?_, ?_⟩ <;> (apply Array.ext_getElem?; intro i; simp only [Array.getElem?_setIfInBounds, Array.size_setIfInBounds]; repeat' split) <;> simp_all
theorem act4_eval {a0 : Act} {p q r s : Tmp} (h1 : p ≠ q) (h2 : p ≠ r) (h3 : p ≠ s) (h4 : q ≠ r) (h5 : q ≠ s) (h6 : r ≠ s) (hp : p < a0.tmps.size) (hq : q < a0.tmps.size) (hr : r < a0.tmps.size) (hs : s < a0.tmps.size) (v5 v6 v22 v23 : Value) :
    (act4 a0 p q r s v5 v6 v22 v23).eval (.tmp p) = v5 ∧ (act4 a0 p q r s v5 v6 v22 v23).eval (.tmp q) = v6 ∧ (act4 a0 p q r s v5 v6 v22 v23).eval (.tmp r) = v22 ∧ (act4 a0 p q r s v5 v6 v22 v23).eval (.tmp s) = v23 ∧
    (∀ t, t ≠ p → t ≠ q → t ≠ r → t ≠ s → (act4 a0 p q r s v5 v6 v22 v23).eval (.tmp t) = a0.eval (.tmp t)) := by
  unfold act4
  simp only [eval_tmp]
  refine ⟨?_, ?_, ?_, ?_, fun t g1 g2 g3 g4 => ?_⟩ <;> simp [Array.getD_eq_getD_getElem?, Array.getElem?_setIfInBounds, *, Ne.symm h1, Ne.symm h2, Ne.symm h3, Ne.symm h4, Ne.symm h5, Ne.symm h6]
  simp [Ne.symm g1, Ne.symm g2, Ne.symm g3, Ne.symm g4]
end Go.VRg
