/- group.Has and group.List. -/
import Derived.Test.YtkmkfkpblkhpmaaVGrpList
import Derived.Test.YtkmkfkpblkhpmaaVOwnIn
import Derived.Test.YtkmkfkpblkhpmaaVPutOk
import Derived.Test.YtkmkfkpblkhpmaaVGet
namespace Go.Proofs.Ytkmkfkpblkhpmaa.VGrp
open Go.RowKit Go.VBase Go.VOct Go.VSeq VOct

theorem has_and {g : Nat} (n : Int) : hasN g n = decide (0 < g &&& onlyN n) := by
  unfold hasN onlyN
  by_cases h : 0 ≤ n ∧ n ≤ 15
  · rw [decide_eq_true h, if_pos h, Bool.true_and, decide_eq_decide]
    have hb : g.testBit n.toNat = decide (g / 2 ^ n.toNat % 2 = 1) := Nat.testBit_eq_decide_div_mod_eq
    constructor
    · intro h1
      rw [decide_eq_true h1] at hb
      have : (g &&& 2 ^ n.toNat).testBit n.toNat = true := by rw [Nat.testBit_and, hb, Nat.testBit_two_pow]; simp
      rcases Nat.eq_zero_or_pos (g &&& 2 ^ n.toNat) with h0 | h0
      · rw [h0] at this; simp at this
      · omega
    · intro h1
      by_cases h2 : g / 2 ^ n.toNat % 2 = 1
      · exact h2
      · rw [decide_eq_false h2] at hb
        have h0 : g &&& 2 ^ n.toNat = 0 := by
          apply Nat.eq_of_testBit_eq
          intro i
          rw [Nat.testBit_and, Nat.testBit_two_pow]
          by_cases hi : n.toNat = i
          · subst hi; simp [hb]
          · simp [hi]
        rw [h0] at h1; simp at h1
  · rw [decide_eq_false h, if_neg h]; simp

set_option maxHeartbeats 1000000 in
theorem Has_calls (g : Nat) (n : Int) (w : World) (hg : g < 65536) : Calls Try.prog 30 #[.int .u16 (g : Int), .int .i64 n] w fun e w' => e = .returned (.bool (hasN g n)) ∧ w = w' := by
  rw [has_and]
  have hO := fun w => only_calls n w
  have hl := onlyN_lt n
  generalize onlyN n = o at *
  have hb := u16_and_nat g o hg hl
  generalize (g &&& o) = z at *
  go_enter Try.func30, Try.ntmps30
  go_wp2_with fail
  refine (hO w).mono ?_
  rintro e w' ⟨rfl, rfl⟩
  go_wp2_with fail
  go_ret
  exact ⟨rfl, rfl⟩

set_option maxHeartbeats 400000 in
theorem after_calls (n : Int) (w : World) :
    Calls Try.prog 51 #[.int .i64 n] w fun e w' => e = .returned (.func (.func 65) #[] #[.pointer (some ⟨w.heap.size, 0, none⟩)]) ∧ w' = w.alloc (.cells #[.int .i64 n] 3) := by
  go_enter Try.func51, Try.ntmps51
  go_wp2_with fail
  go_ret
  exact ⟨rfl, rfl⟩

def encA (j : Fin 16) : Array Value := #[.int .i64 (j.val : Int)]
def nd (i : Nat) : Fin 16 := ⟨i % 16, Nat.mod_lt _ (by decide)⟩
def nds : List (Fin 16) := (List.range 16).map nd
theorem nds_len : nds.length = 16 := by unfold nds; rw [List.length_map, List.length_range]
theorem nds_get {i : Nat} (h : i < 16) : nds[i]? = some (nd i) := by unfold nds; rw [List.getElem?_map, List.getElem?_range h]; rfl

attribute [local go_sem] Oper.semAt_some

set_option maxRecDepth 100000 in
set_option maxHeartbeats 1000000 in
theorem after1_in (l Bn : Nat) (J Jx : List (Fin 16) → World → Prop)
    (hY : ∀ pre x W, J pre W → pre.length < 16 → YieldAt Fence.wide 7 Try.prog l (encA x) W fun e W' =>
      (e = .returned (.bool true) ∧ J (pre ++ [x]) W' ∧ KpB Bn W W') ∨ (e = .returned (.bool false) ∧ Jx (pre ++ [x]) W'))
    (W : World) (hBn : W.heap[Bn]? = some (.cells #[.int .i64 15] 3)) (h0 : J [] W) :
    CallsIn Fence.wide 8 Try.prog 65 #[.func (.yield l) #[] #[], .pointer (some ⟨Bn, 0, none⟩)] W fun e W' => (∃ v, e = .returned v) ∧
      ((∃ ys, ys = nds ∧ J ys W') ∨ (∃ pre, pre <+: nds ∧ Jx pre W')) := by
  refine callsIn_of_wp Try.func65 rfl trivial ?_ rfl
  simp only [Try.ntmps65, List.size_toArray, List.length_cons, List.length_nil, Nat.reduceAdd, Nat.reduceSub, Array.replicate_succ, Array.replicate_zero, List.push_toArray, List.append_toArray, List.nil_append, List.cons_append]
  gi_wp2
  gi_loopw [4] (fun i wr => ∃ j : Nat, j ≤ 16 ∧ i = .int .i64 (j : Int) ∧ J (nds.take j) wr ∧ wr.heap[Bn]? = some (.cells #[.int .i64 15] 3)) (fun i _ => 16 - (intOf i).toNat)
  case atStart => exact ⟨0, by omega, rfl, by rw [List.take_zero]; exact h0, hBn⟩
  case round =>
    obtain ⟨j, hj, rfl, hJ, hb⟩ := hrel
    by_cases hlt : j < 16
    · have hcr : wr.cell? ⟨Bn, 0, none⟩ = some (.int .i64 15) := cell_of_row wr Bn 0 _ _ _ hb
      obtain ⟨fn, tmps, assign, body, hy, hR⟩ := hY _ (nd j) wr hJ (by rw [List.length_take, nds_len]; omega)
      have hd : decide ((j : Int) < 16) = true := decide_eq_true (by omega)
      have hm : ((16 : Int) + (j : Int)).tmod 16 = (j : Int) := by rw [Int.tmod_eq_emod_of_nonneg (by omega)]; omega
      have he : encA (nd j) = #[.int .i64 (j : Int)] := by
        unfold encA nd
        simp only
        rw [Nat.mod_eq_of_lt hlt]
      rw [he] at hy
      have hsn := take_snoc (nds_get hlt)
      rw [← hsn] at hR
      have HB := Lib.hid hb
      clear he hsn hb hY hBn h0 hJ
      gi_wp2
      refine hR.mono ?_
      rintro e W3 (⟨rfl, hJ3, hk3⟩ | ⟨rfl, hJx3⟩)
      · have HK := Lib.hid (hk3.trans HB.out)
        clear hk3 hy
        gi_wp2
        go_roundw
        case rel => exact ⟨j + 1, by omega, by go_num, hJ3, HK.out⟩
        case measure => simp [intOf]; omega
      · clear hy
        gi_wp2
        refine bodyPost_ret (results_none rfl _ _ _) rfl ?_
        exact ⟨⟨_, rfl⟩, .inr ⟨_, List.take_prefix _ _, hJx3⟩⟩
    · have hjk : j = 16 := by omega
      have hd : decide ((j : Int) < 16) = false := decide_eq_false (by omega)
      clear hY hBn h0 hb
      gi_wp2
      go_end0
      exact ⟨⟨_, rfl⟩, .inl ⟨_, rfl, by rw [hjk, List.take_of_length_le (by rw [nds_len]; exact Nat.le_refl _)] at hJ; exact hJ⟩⟩
theorem after_stops (w : World) (Bn : Nat) (hb : w.heap[Bn]? = some (.cells #[.int .i64 15] 3)) :
    SeqStopsK Fence.wide 8 Try.prog 65 #[.pointer (some ⟨Bn, 0, none⟩)] encA (KpB Bn) (· = nds) (· <+: nds) 16 w :=
  fun l J Jx W hW _ _ hY h0 => after1_in l Bn J Jx hY W ((Below.block hW Bn (Array.getElem?_eq_some_iff.1 hb).1).trans hb) h0

/-- Those of a group among these. -/
def outL (g : Nat) (pre : List (Fin 16)) : List Int := pre.flatMap fun j => if hasN g (j.val : Int) then [(j.val : Int)] else []
theorem lsN_range (g : Nat) : ∀ n, lsN g n = (List.range n).flatMap fun (i : Nat) => if hasN g (i : Int) then [(i : Int)] else []
  | 0 => rfl
  | n + 1 => by
    rw [List.range_succ, List.flatMap_append, ← lsN_range g n, show lsN g (n + 1) = lsN g n ++ (if hasN g (n : Int) then [(n : Int)] else []) from rfl]
    simp
theorem outL_all (g : Nat) : outL g nds = lsN g 16 := by
  rw [lsN_range]
  unfold outL nds
  rw [List.flatMap_map]
  rfl
theorem outL_len (g : Nat) (pre : List (Fin 16)) : (outL g pre).length ≤ pre.length := by
  unfold outL
  induction pre with
  | nil => exact Nat.le_refl _
  | cons j pre ih =>
    rw [List.flatMap_cons, List.length_append]
    have : (if hasN g (j.val : Int) then [(j.val : Int)] else []).length ≤ 1 := by split <;> simp
    simp only [List.length_cons]; omega

/-- What holds between two rounds. -/
def LstI (w : World) (g : Nat) (pre : List (Fin 16)) (W : World) : Prop :=
  w.heap.size + 3 ≤ W.heap.size ∧ W.heap[w.heap.size]? = some (.cells #[.int .u16 (g : Int)] 23) ∧ Ext w W ∧ ∃ v, W.heap[w.heap.size + 1]? = some (.cells #[v] 57) ∧ OwnI W (w.heap.size + 3) 3 v (outL g pre)
theorem lstI_own (w : World) (g : Nat) (n0 : Nat) (hn0 : w.heap.size ≤ n0) : OwnFrom n0 (LstI w g) := by
  rintro pre W W' row ⟨h0, h1, h2, v, h3, h4⟩ hg hr
  have hr' : ∀ r, row = some r → ∃ o : Obj, W.heap[r]? = some o ∧ o.isCells = false := fun k hk => (hr k hk).2
  refine ⟨Nat.le_trans h0 hg.size, cells_of_not hg hr' h1, Below.trans h2 (grown_below hg h2.size (fun k hk => by have := (hr k hk).1; omega)), v, cells_of_not hg hr' h3, h4.grown hg ?_⟩
  cases hv : v.ownBlock with
  | none => exact .inl rfl
  | some k =>
    right; intro e
    obtain ⟨o, ho, hoc⟩ := hr' k e.symm
    rw [ownG_cells h4 hv ho] at hoc; cases hoc

set_option maxRecDepth 100000 in
set_option maxHeartbeats 2000000 in
theorem List_calls (g : Nat) (w : World) (hg : g < 65536) : Calls Try.prog 29 #[.int .u16 (g : Int)] w fun e w' => ∃ v, e = .returned v ∧ OwnI w' w.heap.size 3 v (lsN g 16) ∧ Ext w w' := by
  have hH := fun n w => Has_calls g n w hg
  refine calls_of_marks Try.func29 rfl ?_
  simp only [Try.ntmps29, List.size_toArray, List.length_cons, List.length_nil, Nat.reduceAdd, Nat.reduceSub, Array.replicate_succ, Array.replicate_zero, List.push_toArray, List.append_toArray, List.nil_append, List.cons_append]
  go_wp2_with fail
  refine (after_calls 15 _).mono ?_
  rintro e w' ⟨rfl, rfl⟩
  go_wp2_with fail
  have hI0 : LstI w g [] (((w.alloc (.cells #[.int .u16 (g : Int)] 23)).alloc (.cells #[.slice none 0 0] 57)).alloc (.cells #[.int .i64 15] 3)) :=
    ⟨by simp, (Ext.alloc _ _).block (heap_alloc2_old w _ _), ((Ext.alloc _ _).thenAlloc _).thenAlloc _, _, (Ext.alloc _ _).block (heap_alloc2_new w _ _), OwnG.nil _ _ _⟩
  have hb15 := heap_alloc_at ((w.alloc (.cells #[.int .u16 (g : Int)] 23)).alloc (.cells #[.slice none 0 0] 57)) (.cells #[.int .i64 15] 3) (n := w.heap.size + 1 + 1) (by simp)
  have hsz : (((w.alloc (.cells #[.int .u16 (g : Int)] 23)).alloc (.cells #[.slice none 0 0] 57)).alloc (.cells #[.int .i64 15] 3)).heap.size = w.heap.size + 3 := by simp
  generalize ((w.alloc (.cells #[.int .u16 (g : Int)] 23)).alloc (.cells #[.slice none 0 0] 57)).alloc (.cells #[.int .i64 15] 3) = W0 at *
  refine wp_rangeFunc1 (α := Fin 16) (p := 6) (q := 4) (enc := fun j => .int .i64 (j.val : Int)) (gf := 65) (lb := #[.pointer (some ⟨w.heap.size + 1 + 1, 0, none⟩)]) rfl (fun args w => by go_simp) (after_stops _ (w.heap.size + 1 + 1) hb15)
    (fun h1 h2 => h2.trans h1) (fun W n o o' hn ho hc hwk => ?_) (LstI w g) (fun _ _ _ => False) (lstI_own w g _ (by omega)) (fun _ _ _ _ _ hF => hF.elim) hI0 (fun l x W K hK => ?_) (fun l1 pre x W hI hpre => ?_) (fun D xs W hD hS hI hk => ?_) (fun _ _ _ _ _ _ hF => hF.elim)
  · show (W.putObj n o').heap[w.heap.size + 1 + 1]? = _
    have : w.heap.size + 1 + 1 ≠ n := by omega
    simp [World.putObj, this.symm]
  · simp only [List.setIfInBounds_toArray, List.set_cons_zero, List.set_cons_succ] at hK ⊢
    gi_wp2
    exact hK
  · simp only [List.setIfInBounds_toArray, List.set_cons_zero, List.set_cons_succ]
    obtain ⟨h0, h1, h2, v, h3, h4⟩ := hI
    have hx := x.isLt
    obtain ⟨xi, hxi⟩ : ∃ xi : Int, (x.val : Int) = xi := ⟨_, rfl⟩
    have hout : outL g (pre ++ [x]) = outL g pre ++ (if hasN g xi then [xi] else []) := by rw [← hxi]; unfold outL; rw [List.flatMap_append]; simp
    rw [hxi]
    have hpl := outL_len g pre
    have hHx := fun (n : Nat) w => CallsIn.inRound l1 (callsIn_wide (n := n).2 (hH xi w))
    have hc1 : W.cell? ⟨w.heap.size, 0, none⟩ = some (.int .u16 (g : Int)) := cell_of_row W _ 0 _ _ _ h1
    have hc3 : W.cell? ⟨w.heap.size + 1, 0, none⟩ = some v := cell_of_row W _ 0 _ _ _ h3
    have HB := Lib.hid (And.intro h1 h3)
    clear h1 h3 hI0 hb15 hsz
    cases hb : hasN g xi with
    | false =>
      rw [hb] at hHx hout
      gi_wp2
      refine ⟨trivial, (hHx 6 _).mono ?_⟩
      rintro e w2 ⟨rfl, rfl⟩
      gi_wp2
      refine ⟨KeepsOthers.refl _, rfl, h0, HB.out.1, h2, v, HB.out.2, ?_⟩
      rw [hout]
      simpa using h4
    | true =>
      rw [hb] at hHx hout
      obtain ⟨a1, cap1, rfl⟩ := h4.slice
      gi_wp2
      refine ⟨trivial, (hHx 6 _).mono ?_⟩
      rintro e w2 ⟨rfl, rfl⟩
      gi_wp2_with (gi_at_builtin; refine wpListIn_append_G intSl (by decide) encI_len encI_one rfl _ _ rfl xi (by rfl) (by rfl) (h4.alloc _) ?hx ?hl ?hl2 ?hb ?hk)
      case hx =>
        intro j u hu
        match j, hu with
        | 0, hu => cases hu; exact cell_new_mark _ _ _ (0, 0) 0
      case hl => omega
      case hl2 => omega
      case hb => simp; omega
      case hk =>
      intro v' w' ho hg
      have hrow := h4.lt
      have hs0 : w.heap.size < W.heap.size := by omega
      have hs1 : w.heap.size + 1 < W.heap.size := by omega
      have r0 := (hg.block w.heap.size (by simp; omega) (fun e => by have := hrow _ e.symm; omega)).trans ((Ext.alloc W _).block HB.out.1)
      have r1 := (hg.block (w.heap.size + 1) (by simp; omega) (fun e => by have := hrow _ e.symm; omega)).trans ((Ext.alloc W _).block HB.out.2)
      have hk : KeepsOthers W w' := (KeepsOthers.alloc W _).trans (KeepsOthers.of_grownBy hg (fun j o hj ho' => ownG_cells (h4.alloc _) hj ho'))
      have hX : Ext w w' := Below.trans (h2.thenAlloc _) (grown_below hg (by simp; omega) (fun k hk => by have := hrow k hk; omega))
      have hB : w'.heap[w.heap.size + 1 + 1]? = W.heap[w.heap.size + 1 + 1]? := (hg.block (w.heap.size + 1 + 1) (by simp; omega) (fun e => by have := hrow _ e.symm; omega)).trans (Below.block (Ext.alloc W _) (w.heap.size + 1 + 1) (by omega))
      have hsz := hg.size
      simp only [World.size_alloc] at hsz
      have hc4 : w'.cell? ⟨w.heap.size + 1, 0, none⟩ = some (.slice a1 (outL g pre).length cap1) := cell_of_row w' _ 0 _ _ _ r1
      have hf4 : w'.frozen? ⟨w.heap.size + 1, 0, none⟩ = false := frozen_of_row w' _ 0 _ _ r1
      have HR := Lib.hid (And.intro r0 r1)
      clear r0 r1 hc1 hc3
      have hlt := ho.lt
      obtain ⟨a', cap', rfl⟩ := ho.slice
      simp only [List.length_append, List.length_singleton] at ho hlt
      gi_wp2
      refine ⟨hk.trans (KeepsOthers.setCell _ _ _), (heap_setCell_other w' _ _ _ (by show w.heap.size + 1 + 1 ≠ w.heap.size + 1; omega)).trans hB, by simp; omega, (heap_setCell_other w' _ _ _ (by show w.heap.size ≠ w.heap.size + 1; omega)).trans HR.out.1, Below.setCell hX (by simp) _, .slice a' ((outL g pre).length + 1) cap', ?_, ?_⟩
      · rw [heap_setCell_same _ _ _ _ _ _ HR.out.2]; rfl
      · rw [hout]
        simp only [if_true]
        refine ho.grown (row := some (w.heap.size + 1)) ⟨rfl, rfl, rfl, by simp, fun k hk hne => heap_setCell_other w' _ k _ (fun e => hne (by rw [e]))⟩ ?_
        cases hv : (Value.slice a' ((outL g pre).length + 1) cap').ownBlock with
        | none => exact .inl rfl
        | some k => right; intro e; have := hlt k hv; simp at e; omega
  · obtain ⟨h0, h1, h2, v, h3, h4⟩ := hI
    subst hS
    rw [outL_all] at h4
    have hc3 : W.cell? ⟨w.heap.size + 1, 0, none⟩ = some v := cell_of_row W _ 0 _ _ _ h3
    have HB := Lib.hid (And.intro h1 h3)
    clear h1 h3 hI0 hb15
    go_wp2_with fail
    refine leave1 rfl hk (results_tmp rfl _ _ _) ?_
    obtain ⟨_, _, g2, v', g3, g4⟩ := lstI_own w g (w.heap.size) (Nat.le_refl _) nds W (W.putObj D (.deferred none)) (some D) ⟨h0, HB.out.1, h2, v, HB.out.2, by rw [outL_all]; exact h4⟩ (grownBy_putObj' W D _) (fun g hg => by cases hg; exact ⟨by omega, _, hk, rfl⟩)
    rw [outL_all] at g4
    have e : v' = v := by
      have h5 : (W.putObj D (.deferred none)).heap[w.heap.size + 1]? = W.heap[w.heap.size + 1]? := by
        have : w.heap.size + 1 ≠ D := by omega
        simp [World.putObj, this.symm]
      rw [HB.out.2, g3] at h5
      simpa using h5
    subst e
    exact ⟨_, rfl, ⟨g4.1, g4.2.imp id (fun ⟨g, cap, cur, h1, h2, h3⟩ => ⟨g, cap, cur, h1, by omega, h3⟩)⟩, g2⟩
end Go.Proofs.Ytkmkfkpblkhpmaa.VGrp
