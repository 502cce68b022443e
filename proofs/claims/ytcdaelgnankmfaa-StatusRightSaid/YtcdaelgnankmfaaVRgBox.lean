/- A region that draws its order, where boxes are made: they are unlike one another, whatever the order. No program in sight. -/
import Derived.Test.YtcdaelgnankmfaaVRgCut
namespace Go.VRg
open Go.RowKit

/-- Boxes are unlike. -/
def Apart (Fs : List Nat) (n : Nat) (σ : Nat → Value) : Prop := ∀ i ∈ Fs, ∀ j ∈ Fs, i < n → j < n → i ≠ j → σ i ≠ σ j
def Fresh (Fs : List Nat) (listed : Array Bool) (σ : Nat → Value) (W : World) : Prop :=
  ∀ i ∈ Fs, listed.getD i false = true → ∃ b, σ i = .pointer (some ⟨b, 0, none⟩) ∧ b < W.heap.size ∧ ∀ j ∈ Fs, j ≠ i → listed.getD j false = true → σ j ≠ σ i

section
variable {P : Program} {ops : Array Oper} {R N : World → World → Prop} {Ps : List (Nat × Kind R)} {a₀ : Act} {w₀ : World}

theorem run_any2 (F : Fine ops) (hL : lastOk Ps ops = true) (hsub : ∀ a b, N a b → R a b) (hnrefl : ∀ W, N W W) (hntr : ∀ a b c, N a b → N b c → N a c) (hrefl : ∀ W, R W W) (htr : ∀ a b c, R a b → R b c → R a c) {Q : Exit → Act → World → Prop}
    (hgrow : ∀ a b, R a b → a.heap.size ≤ b.heap.size) (Fs : List Nat) (hFs : ∀ i ∈ Fs, isEff Ps i = true ∧ ∀ o, ops[i]? = some o → ∃ ob, ∀ (a : Act) (W : World), (execOp a.eval o).run P W = .ok (.value (.pointer (some ⟨W.heap.size, 0, none⟩))) (W.alloc ob))
    (H : ∀ σ, RG P ops R N Ps w₀ (fun e a W => Apart Fs ops.size σ → Q e a W) σ ops.toList 0 a₀) : ∀ (fuel : Nat) (listed : Array Bool) (σ : Nat → Value) (a : Act) (W : World),
      ((List.range ops.size).filter fun i => !listed.getD i false).length ≤ fuel → Inv P ops R N Ps a₀ w₀ listed σ a W → Fresh Fs listed σ W → wpAny P .any ops Q fuel listed a W := by
  have hdone : ∀ (listed : Array Bool) (σ : Nat → Value) (a : Act) (W : World), Inv P ops R N Ps a₀ w₀ listed σ a W → Fresh Fs listed σ W → Region.ready .any ops listed = [] → Q .normal a W := by
    intro listed σ a W I hfr hnone
    have hall : ∀ i, i < ops.size → listed.getD i false = true := by
      intro i
      induction i using Nat.strongRecOn with
      | _ i ih =>
        intro hi
        cases hl : listed.getD i false with
        | true => rfl
        | false =>
          have ho : ops[i]? = some ops[i] := by simp
          have hmem : i ∈ Region.ready .any ops listed := by
            rw [mem_ready]
            refine ⟨?_, _, ho, fun e he hb => ?_⟩
            · have h1 : i < listed.size := by rw [I.size]; exact hi
              simpa [h1] using hl
            · have := F.back _ _ _ ho he hb
              exact ih _ this (by omega)
          rw [hnone] at hmem; cases hmem
    have h2 := (RG.at (hrefl w₀) σ ops.toList 0 rfl (H σ)).2 W I.far (fun j hj hlt => I.post j hj (hall j hlt))
    rw [fr_puts σ ops.size (Nat.le_refl _)] at h2
    rw [I.frame]
    have : wr (val P ops R Ps a₀ w₀ σ) ops.size (fun i => listed.getD i false) ops = wr (val P ops R Ps a₀ w₀ σ) ops.size (fun _ => true) ops :=
      wr_congr _ (Nat.le_refl _) fun i hi => ⟨hall i hi, fun _ => rfl⟩
    rw [this]
    exact h2 fun i hi j hj hin hjn hne => by
      obtain ⟨b, _, _, h3⟩ := hfr i hi (hall i hin)
      exact fun e => h3 j hj (fun e2 => hne e2.symm) (hall j hjn) e.symm
  intro fuel
  induction fuel with
  | zero =>
    intro listed σ a W hf I hfr
    have hnone : Region.ready .any ops listed = [] := by
      apply List.eq_nil_iff_forall_not_mem.2
      intro i hi
      obtain ⟨hun, o, ho, _⟩ := mem_ready.1 hi
      have hlt : i < ops.size := (Array.getElem?_eq_some_iff.1 ho).1
      have : i ∈ (List.range ops.size).filter fun i => !listed.getD i false := by
        rw [List.mem_filter, List.mem_range]
        refine ⟨hlt, ?_⟩
        have h1 : i < listed.size := by rw [I.size]; exact hlt
        have : listed.getD i false = false := by simpa [h1] using hun
        rw [this]; rfl
      have hlen := List.length_pos_of_mem this
      omega
    exact ⟨hnone, hdone listed σ a W I hfr hnone⟩
  | succ fuel ih =>
    intro listed σ a W hf I hfr
    refine ⟨hdone listed σ a W I hfr, fun i hr => ?_⟩
    obtain ⟨hun, o, ho, hall⟩ := mem_ready.1 hr
    have hlt : i < ops.size := (Array.getElem?_eq_some_iff.1 ho).1
    have hunf : listed.getD i false = false := by
      have h1 : i < listed.size := by rw [I.size]; exact hlt
      simpa [h1] using hun
    have hag := I.agree F ho hr
    have hpl : ∀ k, Path ops k i → listed.getD k false = true := by
      intro k hk
      cases hk with
      | one h1 he hb hj => rw [ho] at h1; cases h1; subst hj; exact hall _ he hb
      | more h1 he hb h => rw [ho] at h1; cases h1; exact I.path h (hall _ he hb)
    have hfuel : ((List.range ops.size).filter fun k => !(listed.setIfInBounds i true).getD k false).length ≤ fuel := by
      have hsub : ((List.range ops.size).filter fun k => !(listed.setIfInBounds i true).getD k false) = (((List.range ops.size).filter fun k => !listed.getD k false)).filter (fun k => k != i) := by
        rw [List.filter_filter]
        apply List.filter_congr
        intro k _
        by_cases hki : k = i
        · subst hki
          have h1 : k < listed.size := by rw [I.size]; exact hlt
          simp [h1]
        · rw [getD_set_ne false (Ne.symm hki)]; simp [hki]
      rw [hsub]
      have hmem : i ∈ (List.range ops.size).filter fun k => !listed.getD k false := by
        rw [List.mem_filter, List.mem_range]; exact ⟨hlt, by rw [hunf]; rfl⟩
      have hlt2 : (((List.range ops.size).filter fun k => !listed.getD k false).filter (fun k => k != i)).length < ((List.range ops.size).filter fun k => !listed.getD k false).length := by
        rw [List.length_filter_lt_length_iff_exists]
        exact ⟨i, hmem, by simp⟩
      omega
    obtain ⟨hE, hPu⟩ := (RG.at (hrefl w₀) σ ops.toList 0 rfl (H σ)).1 i o (Nat.zero_le _) ho
    unfold wpOp
    simp only [ho]
    cases he : isEff Ps i with
    | true =>
      have hEi := hE he W (I.near fun k hk => by
        cases hlk : listed.getD k false with
        | false => rfl
        | true =>
          by_cases hik : i = k
          · subst hik; rw [hunf] at hlk; cases hlk
          · have := I.path (path_of_last hL hk he hik) hlk
            rw [hunf] at this; cases this) (fun j hj hp => I.post j hj (hpl j hp))
      have hw : Region.wanted o (yielded ops a.tmps) = true := by
        have := want_agree (o := o) hag
        unfold want at this
        rw [← this]; exact hEi.1
      rw [if_pos hw]
      refine .inl ?_
      unfold Oper.wp
      have hex := exec_agree (F.plain i o ho) hag
      rw [← hex]
      have fin : ∀ v W', (if isLast Ps i then R else N) W W' → postOf Ps i v W' → (i ∈ Fs → v = .pointer (some ⟨W.heap.size, 0, none⟩) ∧ W.heap.size < W'.heap.size) → wpAny P .any ops Q fuel (listed.setIfInBounds i true) (a.put o.dst v) W' := by
        intro v W' hRW hp hnew
        have hτ : ∀ j, j ≠ i → (fun k => if k = i then v else σ k) j = σ j := fun j hj => by simp [hj]
        have hev : effVal Ps (fun k => if k = i then v else σ k) i = v := effVal_of_post hp he _ (by simp)
        have I' := I.step F hL hsub hntr htr ho hr (τ := fun k => if k = i then v else σ k) hτ hRW (fun _ => by rw [hev]; exact hp) (fun h => by rw [he] at h; cases h)
        have hv : val P ops R Ps a₀ w₀ (fun k => if k = i then v else σ k) i = v := by
          simp only [val, ho, he, if_true]; exact hev
        rw [hv] at I'
        have hR : R W W' := by
          by_cases hl : isLast Ps i = true
          · rw [if_pos hl] at hRW; exact hRW
          · rw [if_neg hl] at hRW; exact hsub _ _ hRW
        have hg := hgrow _ _ hR
        refine ih _ _ _ _ hfuel I' fun k hk hlk => ?_
        have hset : ∀ k, k ≠ i → (listed.setIfInBounds i true).getD k false = listed.getD k false := fun k hk => getD_set_ne false (Ne.symm hk)
        by_cases hki : k = i
        · subst hki
          obtain ⟨hv1, hv2⟩ := hnew hk
          refine ⟨W.heap.size, by simp [hv1], hv2, fun j hj hjk hlj => ?_⟩
          rw [hset j hjk] at hlj
          obtain ⟨b, hb, hlt', _⟩ := hfr j hj hlj
          simp only [hjk, if_false, if_true, hb, hv1]
          intro e
          cases e
          omega
        · rw [hset k hki] at hlk
          obtain ⟨b, hb, hlt', hd⟩ := hfr k hk hlk
          refine ⟨b, by simp [hki, hb], by omega, fun j hj hjk hlj => ?_⟩
          by_cases hji : j = i
          · subst hji
            obtain ⟨hv1, hv2⟩ := hnew hj
            simp only [hki, if_false, if_true, hb, hv1]
            intro e
            cases e
            omega
          · rw [hset j hji] at hlj
            simp only [hki, hji, if_false]
            exact hd j hj hjk hlj
      by_cases hin : i ∈ Fs
      · obtain ⟨ob, hob⟩ := (hFs i hin).2 o ho
        have h2 := hEi.2
        rw [hob] at h2 ⊢
        exact fin _ _ h2.1 h2.2 fun _ => ⟨rfl, by simp⟩
      · exact effOut_upon hEi.2 fun v W' hRW hp => fin v W' hRW hp fun h => absurd h hin
    | false =>
      have hP := hPu he
      have hex := exec_agree (F.plain i o ho) hag
      have hwant := want_agree (o := o) hag
      unfold want at hwant
      have I' := I.step F hL hsub hntr htr ho hr (τ := σ) (fun _ _ => rfl) (by split; exact hrefl W; exact hnrefl W) (fun h => by rw [he] at h; cases h) (fun _ => rfl)
      have hnext := ih _ _ _ _ hfuel I' (fun k hk hlk => by
        have hki : k ≠ i := fun e => by subst e; rw [(hFs k hk).1] at he; cases he
        have hset : ∀ k, k ≠ i → (listed.setIfInBounds i true).getD k false = listed.getD k false := fun k hk => getD_set_ne false (Ne.symm hk)
        rw [hset k hki] at hlk
        obtain ⟨b, hb, hlt', hd⟩ := hfr k hk hlk
        refine ⟨b, hb, hlt', fun j hj hjk hlj => ?_⟩
        have hji : j ≠ i := fun e => by subst e; rw [(hFs j hj).1] at he; cases he
        rw [hset j hji] at hlj
        exact hd j hj hjk hlj)
      rcases hP with ⟨h1, h2⟩ | ⟨h1, h2⟩
      · unfold want at h1
        rw [if_pos (by rw [← hwant]; exact h1)]
        refine .inl ?_
        unfold Oper.wp
        rw [← hex, h2 W I.far]
        exact hnext
      · unfold want at h1
        rw [if_neg (by rw [← hwant, h1]; simp), ← h2]
        exact hnext

end

theorem any_box {P : Program} {ops : Array Oper} {a : Act} {w : World} {Q : Exit → Act → World → Prop} (R N : World → World → Prop) (Ps : List (Nat × Kind R)) (Fs : List Nat)
    (hf : fine ops = true) (hL : lastOk Ps ops = true) (hsub : ∀ a b, N a b → R a b) (hnrefl : ∀ W, N W W) (hntr : ∀ a b c, N a b → N b c → N a c) (hrefl : ∀ W, R W W) (htr : ∀ a b c, R a b → R b c → R a c)
    (hgrow : ∀ a b, R a b → a.heap.size ≤ b.heap.size) (hFs : ∀ i ∈ Fs, isEff Ps i = true ∧ ∀ o, ops[i]? = some o → ∃ ob, ∀ (a : Act) (W : World), (execOp a.eval o).run P W = .ok (.value (.pointer (some ⟨W.heap.size, 0, none⟩))) (W.alloc ob))
    (H : ∀ σ, RG P ops R N Ps w (fun e a W => Apart Fs ops.size σ → Q e a W) σ ops.toList 0 a) : wpAny P .any ops Q ops.size (Array.replicate ops.size false) a w := by
  refine run_any2 (a₀ := a) (w₀ := w) (Fine.of hf) hL hsub hnrefl hntr hrefl htr hgrow Fs hFs H ops.size _ (fun _ => undef) a _ ?_ ?_ ?_
  · exact Nat.le_trans (List.length_filter_le _ _) (by simp)
  · refine ⟨hrefl _, fun _ => hnrefl _, by simp, ?_, ?_, ?_⟩
    · intro i o e h
      simp [Array.getElem?_replicate] at h
      split at h <;> simp at h
    · have : wr (val P ops R Ps a w fun _ => undef) ops.size (fun i => (Array.replicate ops.size false).getD i false) ops = [] := by
        unfold wr
        rw [List.map_eq_nil_iff, List.filter_eq_nil_iff]
        intro x _
        simp [Array.getElem?_replicate]
        split <;> simp
      rw [this]; rfl
    · intro j _ h
      simp [Array.getElem?_replicate] at h
      split at h <;> simp at h
  · intro j _ h
    simp [Array.getElem?_replicate] at h
    split at h <;> simp at h

/-- From 'm' on the operations stand in one order, and each of these stands behind all ahead of 'm'. -/
def cutOk2 (l : List Oper) (m : Nat) : Bool :=
  decide (m ≤ l.length) && (l.zipIdx.all fun (o, t) => (o.after.toList.all fun e => !Region.binds .any e || decide (e.on < t)) && (match o.guard with | some (g, _) => decide (g < t) | none => true) &&
    (decide (t < m) || (List.range m).all fun i => ahead (masks l.toArray) i t)) &&
  Region.seqB .any l.toArray (l.length - m) m (Array.replicate m true ++ Array.replicate (l.length - m) false)
def Closed (l : List Oper) (L : Array Bool) : Prop := ∀ i o e, L.getD i false = true → l[i]? = some o → e ∈ o.after → Region.binds .any e = true → L.getD e.on false = true
theorem path_closed {l : List Oper} {L : Array Bool} (hcl : Closed l L) {j i : Nat} (h : Path l.toArray j i) : L.getD i false = true → L.getD j false = true := by
  induction h with
  | one hi he hb hj => subst hj; exact fun hl => hcl _ _ _ hl (by simpa using hi) he hb
  | more hi he hb _ ih => exact fun hl => ih (hcl _ _ _ hl (by simpa using hi) he hb)
section
variable {P : Program} {l : List Oper} {m : Nat}
theorem cut_any2 (hc : cutOk2 l m = true) {T : Act → World → Prop} {Q : Exit → Act → World → Prop} (hT : ∀ a w, T a w → wpList P l.toArray Q (l.drop m) a w) :
    ∀ (f : Nat) (L : Array Bool) (a : Act) (w : World), L.size = m → Closed l L → wpAny P .any (l.take m).toArray (onlyN T) f L a w → wpAny P .any l.toArray Q (f + (l.length - m)) (L ++ Array.replicate (l.length - m) false) a w := by
  simp only [cutOk2, Bool.and_eq_true, decide_eq_true_eq, List.all_eq_true] at hc
  obtain ⟨⟨hle, hall⟩, hseq⟩ := hc
  have hmem : ∀ (t : Nat) (o : Oper), l[t]? = some o → (o, t) ∈ l.zipIdx := fun t o h => by rw [List.mk_mem_zipIdx_iff_getElem?]; exact h
  have hback : ∀ (t : Nat) (o : Oper) (e : Edge), l[t]? = some o → e ∈ o.after → Region.binds .any e = true → e.on < t := by
    intro t o e ho he hb
    have := (hall _ (hmem t o ho)).1.1 e (by simpa using he)
    simp only [hb, Bool.not_true, Bool.false_or, decide_eq_true_eq] at this
    exact this
  have hget : ∀ (i : Nat), i < m → (l.take m).toArray[i]? = l.toArray[i]? := fun i hi => by simp [List.getElem?_take, hi]
  have hnone : ∀ (i : Nat), m ≤ i → (l.take m).toArray[i]? = none := fun i hi => by simp; omega
  have hdone : ∀ (L : Array Bool) (a : Act) (w : World), L.size = m → Region.ready .any (l.take m).toArray L = [] → T a w → wpAny P .any l.toArray Q (l.length - m) (L ++ Array.replicate (l.length - m) false) a w := by
    intro L a w hs hno h
    have hfull : ∀ i, i < m → L.getD i false = true := by
      intro i
      induction i using Nat.strongRecOn with
      | _ i ih =>
        intro hi
        cases hl : L.getD i false with
        | true => rfl
        | false =>
          have hil : i < l.length := by omega
          have ho : (l.take m).toArray[i]? = some l[i] := by rw [hget i hi]; simp
          have hmm : i ∈ Region.ready .any (l.take m).toArray L := by
            rw [mem_ready]
            refine ⟨?_, _, ho, fun e he hb => ?_⟩
            · have h1 : i < L.size := by omega
              simpa [h1] using hl
            · have := hback i l[i] e (by simp) he hb
              exact ih _ this (by omega)
          rw [hno] at hmm; cases hmm
    have hL : L = Array.replicate m true := by
      apply Array.ext
      · simp [hs]
      · intro i h1 h2
        have := hfull i (by omega)
        simp only [Array.getD, h1, dif_pos] at this
        simpa using this
    subst hL
    have hlen : (l.drop m).length = l.length - m := by simp
    have := wpAny_of_seq (P := P) (ops := l.toArray) (md := .any) (Q' := Q) (l.drop m) m (Array.replicate m true ++ Array.replicate (l.length - m) false) a w (fun j => by simp) (by rw [hlen]; exact hseq) (hT a w h)
    rwa [hlen] at this
  intro f
  induction f with
  | zero =>
    intro L a w hs hcl h
    have := hdone L a w hs h.1 h.2
    rwa [Nat.zero_add]
  | succ f ih =>
    intro L a w hs hcl h
    by_cases hno : Region.ready .any (l.take m).toArray L = []
    · have := wpAny_more' (f + 1) _ _ _ _ (hdone L a w hs hno (h.1 hno))
      rwa [Nat.add_comm] at this
    · rw [show f + 1 + (l.length - m) = (f + (l.length - m)) + 1 by omega]
      obtain ⟨i0, hi0⟩ := List.exists_mem_of_ne_nil _ hno
      obtain ⟨hun0, o0, ho0, _⟩ := mem_ready.1 hi0
      have hi0m : i0 < m := by
        rcases Nat.lt_or_ge i0 m with h' | h'
        · exact h'
        · rw [hnone i0 h'] at ho0; cases ho0
      have hrd : ∀ i, i ∈ Region.ready .any l.toArray (L ++ Array.replicate (l.length - m) false) → i ∈ Region.ready .any (l.take m).toArray L ∧ i < m := by
        intro i hi
        obtain ⟨hun, o, ho, hw⟩ := mem_ready.1 hi
        have him : i < m := by
          rcases Nat.lt_or_ge i m with h' | h'
          · exact h'
          · exfalso
            have h1 := (hall _ (hmem i o (by simpa using ho))).2
            simp only [Bool.or_eq_true, decide_eq_true_eq, List.all_eq_true] at h1
            rcases h1 with h1 | h1
            · omega
            · have hp := path_of_ahead (h1 i0 (List.mem_range.2 hi0m))
              have h0 : L.getD i0 false = true := by
                cases hp with
                | one h1 he hb hj =>
                  rw [ho] at h1; cases h1
                  have := hw _ he hb
                  rwa [hj, cut_listed hs] at this
                | more h1 he hb h2 =>
                  rw [ho] at h1; cases h1
                  have := hw _ he hb
                  rw [cut_listed hs] at this
                  exact path_closed hcl h2 this
              rw [getD_both hun0] at h0
              cases h0
        refine ⟨mem_ready.2 ⟨?_, o, by rw [hget i him]; exact ho, fun e he hb => by have := hw e he hb; rwa [cut_listed hs] at this⟩, him⟩
        have h1 := getD_both hun
        rw [cut_listed hs] at h1
        exact getD_in (by omega) h1
      refine ⟨fun h0 => ?_, fun i hi => ?_⟩
      · exfalso
        have : i0 ∈ Region.ready .any l.toArray (L ++ Array.replicate (l.length - m) false) := by
          rw [mem_ready]
          obtain ⟨hun, o, ho, hw⟩ := mem_ready.1 hi0
          refine ⟨?_, o, by rw [← hget i0 hi0m]; exact ho, fun e he hb => by rw [cut_listed hs]; exact hw e he hb⟩
          apply getD_in
          · simp; omega
          · rw [cut_listed hs]; exact getD_both hun
        rw [h0] at this; cases this
      · obtain ⟨hi', him⟩ := hrd i hi
        have hop := h.2 i hi'
        unfold wpOp at hop ⊢
        rw [hget i him] at hop
        have hset : (L ++ Array.replicate (l.length - m) false).setIfInBounds i true = L.setIfInBounds i true ++ Array.replicate (l.length - m) false := by
          rw [Array.setIfInBounds_append_left (by omega)]
        obtain ⟨_, o, ho, hwi⟩ := mem_ready.1 hi
        have hcl' : Closed l (L.setIfInBounds i true) := by
          intro k ok e hk hok he hb
          by_cases hki : k = i
          · subst hki
            rw [show l[k]? = l.toArray[k]? by simp, ho] at hok; cases hok
            have := hwi e he hb
            rw [cut_listed hs] at this
            exact getD_set_true this
          · rw [getD_set_ne false (Ne.symm hki)] at hk
            exact getD_set_true (hcl k ok e hk hok he hb)
        rw [ho] at hop ⊢
        simp only at hop ⊢
        rw [hset]
        have hwant : Region.wanted o (yielded (l.take m).toArray a.tmps) = Region.wanted o (yielded l.toArray a.tmps) := by
          have h1 := (hall _ (hmem i o (by simpa using ho))).1.2
          unfold Region.wanted
          cases hg : o.guard with
          | none => rfl
          | some gb =>
            obtain ⟨g, b⟩ := gb
            rw [hg] at h1
            simp only [decide_eq_true_eq] at h1
            simp only
            unfold yielded
            rw [hget g (by omega)]
        rw [hwant] at hop
        by_cases hw : Region.wanted o (yielded l.toArray a.tmps) = true
        · rw [if_pos hw] at hop ⊢
          rcases hop with hop | hop
          · exact .inl (upon_turn (fun a' w' h' => ih _ a' w' (by simp [hs]) hcl' h') hop)
          · exact (letsOut_onlyN hop.2).elim
        · rw [if_neg hw] at hop ⊢
          exact ih _ _ _ (by simp [hs]) hcl' hop
end

/-- The region: boxes (Fs) among the first m operations; the others stand in one order. -/
theorem wp_region_box_tail {P : Program} {l : List Oper} {id : Nat} {a : Act} {w : World} {Q : Exit → Act → World → Prop} (m : Nat) (R N : World → World → Prop) (Ps : List (Nat × Kind R)) (Fs : List Nat) (hm : P.follows .mixedOrders = true) (hc : cutOk2 l m = true)
    (hf : fine (l.take m).toArray = true) (hL : lastOk Ps (l.take m).toArray = true) (hsub : ∀ a b, N a b → R a b) (hnrefl : ∀ W, N W W) (hntr : ∀ a b c, N a b → N b c → N a c) (hrefl : ∀ W, R W W) (htr : ∀ a b c, R a b → R b c → R a c)
    (hgrow : ∀ a b, R a b → a.heap.size ≤ b.heap.size) (hFs : ∀ i ∈ Fs, isEff Ps i = true ∧ ∀ o, (l.take m).toArray[i]? = some o → ∃ ob, ∀ (a : Act) (W : World), (execOp a.eval o).run P W = .ok (.value (.pointer (some ⟨W.heap.size, 0, none⟩))) (W.alloc ob))
    (H : ∀ σ, RG P (l.take m).toArray R N Ps w.drew (fun e a W => Apart Fs (l.take m).toArray.size σ → onlyN (wpList P l.toArray Q (l.drop m)) e a W) σ (l.take m) 0 a) : (Code.region id l.toArray true).wp P Q a w := by
  refine wp_region_any hm ?_
  have h1 := any_box R N Ps Fs hf hL hsub hnrefl hntr hrefl htr hgrow hFs H
  have hle : m ≤ l.length := by simp only [cutOk2, Bool.and_eq_true, decide_eq_true_eq] at hc; exact hc.1.1
  have hsz : (l.take m).toArray.size = m := by simp [hle]
  rw [hsz] at h1
  have h2 := cut_any2 hc (fun _ _ h => h) m (Array.replicate m false) a w.drew (by simp) (fun i o e hi => by simp [Array.getElem?_replicate] at hi; split at hi <;> simp at hi) h1
  have e : m + (l.length - m) = l.length := by omega
  have e2 : Array.replicate m false ++ Array.replicate (l.length - m) false = Array.replicate l.length false := by
    rw [Array.replicate_append_replicate, e]
  rw [e, e2] at h2
  simpa using h2
end Go.VRg
