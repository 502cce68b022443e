/- frame.has. -/
import Derived.Test.YtcdaelgnankmfaaVFrmP
import Derived.Test.YtcdaelgnankmfaaVPutOk
import Derived.Scope
import Derived.Test.YtcdaelgnankmfaaVGet
namespace Go.VSeq
open Go.RowKit
/-- One variable, which the round's code finds in the slot q1. -/
theorem wp_rangeFunc1_nx {P : Program} {α : Type} {g : Operand} {p1 q1 : Tmp} {assign body : Code} {Q : Exit → Act → World → Prop} {a : Act} {w : World}
    {gf : Nat} {lb : Array Value} (hg : a.eval g = .func (.func gf) #[] lb) (eg : ∀ args w, (callFunc gf args).run P w = .ok (.enter gf args) w)
    {e1 : α → Value} {Nx : List α → α → Prop} {Kp : World → World → Prop} {S Sp : List α → Prop} (hseq : SeqNx P gf lb (fun x => #[e1 x]) Nx Kp S Sp w)
    (hKt : ∀ {A B C : World}, Kp A B → Kp B C → Kp A C) (hKb : ∀ (W : World) (l : Nat) (o o' : Obj), w.heap.size ≤ l → W.heap[l]? = some o → o.isCells = false → o.isWalk = false → Kp W (W.putObj l o'))
    (I : List α → World → Prop) (Ix : Code → List α → World → Prop) (hI : OwnFrom w.heap.size I) (hIx : ∀ c, OwnFrom w.heap.size (Ix c)) (h0 : I [] w)
    (hassign : ∀ (l : Nat) (x : α) (W : World) (K : Act → World → Prop), K { tmps := (a.tmps.setIfInBounds p1 (e1 x)).setIfInBounds q1 (e1 x), defers := [] } W →
      assign.wpIn (Fence.wide.inRound l) 7 P (Exit.then K (fun _ _ _ => False)) { tmps := a.tmps.setIfInBounds p1 (e1 x), defers := [] } W)
    (hbody : ∀ (l : Nat) (pre : List α) (x : α) (W : World), I pre W → Nx pre x → body.wpIn (Fence.wide.inRound l) 7 P (ownPostK Kp I Ix (pre ++ [x]) W) { tmps := (a.tmps.setIfInBounds p1 (e1 x)).setIfInBounds q1 (e1 x), defers := [] } W)
    (hdone : ∀ (D : Nat) (xs : List α) (W : World), w.heap.size ≤ D → S xs → I xs W → W.heap[D]? = some (.deferred (some [])) → Q .normal { a with defers := { target := .collected D, args := #[] } :: a.defers } W)
    (hstop : ∀ (D : Nat) (c : Code) (pre : List α) (W : World), w.heap.size ≤ D → Sp pre → Ix c pre W → W.heap[D]? = some (.deferred (some [])) → c.wp P Q { a with defers := { target := .collected D, args := #[] } :: a.defers } W) :
    (Code.rangeFunc g #[p1] assign body).wp P Q a w :=
  wp_rangeFunc_nx hg eg hseq hKt hKb (fun x => rfl) I Ix hI hIx h0 (fun x => { tmps := (a.tmps.setIfInBounds p1 (e1 x)).setIfInBounds q1 (e1 x), defers := [] })
    (fun l x W K hK => by have := hassign l x W K hK; simpa using this) hbody hdone hstop
end Go.VSeq
namespace Go.Proofs.Ytcdaelgnankmfaa.VSta
open Go.RowKit Go.VBase Go.VRg Go.VSeq Go.VOct VOct

def HsI (w : World) (p : Int) (pre : List Int) (W : World) : Prop :=
  p ∉ pre ∧ w.heap.size + 2 ≤ W.heap.size ∧ W.heap[w.heap.size]? = some (.cells #[.int .i64 p] 93) ∧ W.heap[w.heap.size + 1]? = some (.cells #[.bool false] 4) ∧ Ext w W
def HsX (w : World) (p : Int) (c : Code) (pre : List Int) (W : World) : Prop :=
  c = .exit 0 ∧ p ∈ pre ∧ W.heap[w.heap.size + 1]? = some (.cells #[.bool true] 4) ∧ Ext w W
theorem hsI_own (w : World) (p : Int) (n0 : Nat) (hn0 : w.heap.size ≤ n0) : OwnFrom n0 (HsI w p) := by
  rintro pre W W' row ⟨h0, h1, h2, h3, h4⟩ hg hr
  have hr' : ∀ r, row = some r → ∃ o : Obj, W.heap[r]? = some o ∧ o.isCells = false := fun k hk => (hr k hk).2
  exact ⟨h0, Nat.le_trans h1 hg.size, cells_of_not hg hr' h2, cells_of_not hg hr' h3, Below.trans h4 (grown_below hg h4.size (fun k hk => by have := (hr k hk).1; omega))⟩
theorem hsX_own (w : World) (p : Int) (n0 : Nat) (hn0 : w.heap.size ≤ n0) (c : Code) : OwnFrom n0 (HsX w p c) := by
  rintro pre W W' row ⟨h0, h1, h2, h3⟩ hg hr
  have hr' : ∀ r, row = some r → ∃ o : Obj, W.heap[r]? = some o ∧ o.isCells = false := fun k hk => (hr k hk).2
  exact ⟨h0, h1, cells_of_not hg hr' h2, Below.trans h3 (grown_below hg h3.size (fun k hk => by have := (hr k hk).1; omega))⟩
attribute [local go_sem] Oper.semAt_some

set_option maxRecDepth 100000 in
set_option maxHeartbeats 4000000 in
theorem has_calls (k p : Int) (w : World) : Calls Try.prog 67 #[.int .i64 k, .int .i64 p] w fun e w' => e = .returned (.bool (hasB k p)) ∧ Ext w w' := by
  refine calls_of_marks Try.func67 rfl ?_
  simp only [Try.ntmps67, List.size_toArray, List.length_cons, List.length_nil, Nat.reduceAdd, Nat.reduceSub, Array.replicate_succ, Array.replicate_zero, List.push_toArray, List.append_toArray, List.nil_append, List.cons_append]
  have hI0 : HsI w p [] (((w.alloc (.cells #[.int .i64 p] 93)).alloc (.cells #[.bool false] 4)).alloc (.cells #[.int .i64 k] 3)) :=
    ⟨by simp, by simp, (Ext.alloc _ _).block (heap_alloc2_old w _ _), (Ext.alloc _ _).block (heap_alloc2_new w _ _), ((Ext.alloc _ _).thenAlloc _).thenAlloc _⟩
  have hb2 := heap_alloc_at ((w.alloc (.cells #[.int .i64 p] 93)).alloc (.cells #[.bool false] 4)) (.cells #[.int .i64 k] 3) (n := w.heap.size + 1 + 1) (by simp)
  have hsz : (((w.alloc (.cells #[.int .i64 p] 93)).alloc (.cells #[.bool false] 4)).alloc (.cells #[.int .i64 k] 3)).heap.size = w.heap.size + 3 := by simp
  obtain ⟨W0, hW0⟩ : ∃ W0, W0 = ((w.alloc (.cells #[.int .i64 p] 93)).alloc (.cells #[.bool false] 4)).alloc (.cells #[.int .i64 k] 3) := ⟨_, rfl⟩
  have kc := fun w => parts_calls k w
  rw [← hW0] at hI0 hb2 hsz
  go_wp2_with fail
  refine wp_scope_straight ?_
  go_wp2_with fail
  refine wp_label ?_
  go_wp2_with fail
  refine (kc _).mono ?_
  rintro e w' ⟨rfl, rfl⟩
  go_wp2_with fail
  rw [← hW0]
  clear hW0
  refine wp_rangeFunc1_nx (α := Int) (p1 := 9) (q1 := 6) (e1 := fun (x : Int) => .int .i64 x) (gf := 72) (lb := #[.pointer (some ⟨w.heap.size + 1 + 1, 0, none⟩)]) rfl (fun args w => by go_simp) (parts_seq k W0 (w.heap.size + 1 + 1) hb2)
    (fun _ _ => trivial) (fun _ _ _ _ _ _ _ _ => trivial) (HsI w p) (HsX w p) (hsI_own w p _ (by omega)) (hsX_own w p _ (by omega)) hI0 (fun l x W K hK => ?_) (fun l1 pre x W hI hnx => ?_) (fun D xs W hD hS hI hk => ?_) (fun D c pre W hD hS hI hk => ?_)
  · simp only [List.setIfInBounds_toArray, List.set_cons_zero, List.set_cons_succ] at hK ⊢
    gi_wp2
    exact hK
  · simp only [List.setIfInBounds_toArray, List.set_cons_zero, List.set_cons_succ]
    obtain ⟨hni, h2, h3, h4, h5⟩ := hI
    have c0 : W.cell? ⟨w.heap.size, 0, none⟩ = some (.int .i64 p) := cell_of_row W _ 0 _ _ _ h3
    have c1 : W.cell? ⟨w.heap.size + 1, 0, none⟩ = some (.bool false) := cell_of_row W _ 0 _ _ _ h4
    have hf : W.frozen? ⟨w.heap.size + 1, 0, none⟩ = false := frozen_of_row W _ 0 _ _ h4
    have HB := Lib.hid (And.intro hni (And.intro h3 (And.intro h4 (And.intro h5 h2))))
    have HZ := Lib.hid (And.intro hsz hb2)
    clear hni h3 h4 h5 hI0 hb2 hsz h2
    cases hb : (p == x) with
    | false =>
      gi_wp2
      refine ⟨KeepsOthers.setCell _ _ _, trivial, ?_, ?_, (heap_setCell_other _ _ _ _ (by simp)).trans HB.out.2.1, ?_, Below.setCell HB.out.2.2.2.1 (by simp) _⟩
      · have := HB.out.1
        have hne : ¬ p = x := by simpa using hb
        simp [this, hne]
      · rw [World.size_setCell]; exact HB.out.2.2.2.2
      · exact (heap_setCell_same _ _ _ _ _ _ HB.out.2.2.1).trans rfl
    | true =>
      gi_wp2
      refine ⟨KeepsOthers.setCell _ _ _, rfl, ?_, (heap_setCell_same _ _ _ _ _ _ HB.out.2.2.1).trans rfl, Below.setCell HB.out.2.2.2.1 (by simp) _⟩
      have hne : p = x := by simpa using hb
      simp [hne]
  · subst hS
    have hp := hsI_own w p w.heap.size (Nat.le_refl _) (partsL k) W (W.putObj D (.deferred none)) (some D) hI (grownBy_putObj' W D _) (fun g hg => by cases hg; exact ⟨by omega, _, hk, rfl⟩)
    obtain ⟨hni, h2, h3, h4, h5⟩ := hI
    have hf : hasB k p = false := by unfold hasB; simpa using hni
    have HF := Lib.hid hf
    have hc1 : W.cell? ⟨w.heap.size + 1, 0, none⟩ = some (.bool false) := cell_of_row W _ 0 _ _ _ h4
    have HP := Lib.hid hp
    clear h2 h3 h4 h5 hf hI0 hb2 hp hni
    go_wp2_with fail
    refine leave1 rfl hk (results_tmp rfl _ _ _) ?_
    exact ⟨by rw [HF.out]; rfl, HP.out.2.2.2.2⟩
  · have hp := hsX_own w p w.heap.size (Nat.le_refl _) c pre W (W.putObj D (.deferred none)) (some D) hI (grownBy_putObj' W D _) (fun g hg => by cases hg; exact ⟨by omega, _, hk, rfl⟩)
    obtain ⟨rfl, hin, h3, h4⟩ := hI
    have hf : hasB k p = true := by unfold hasB; simpa using hS.subset hin
    have HF := Lib.hid hf
    have hc1 : W.cell? ⟨w.heap.size + 1, 0, none⟩ = some (.bool true) := cell_of_row W _ 0 _ _ _ h3
    have HP := Lib.hid hp
    clear h3 h4 hf hI0 hb2 hp hin
    go_wp2_with fail
    refine leave1 rfl hk (results_tmp rfl _ _ _) ?_
    exact ⟨by rw [HF.out]; rfl, HP.out.2.2.2⟩
end Go.Proofs.Ytcdaelgnankmfaa.VSta
