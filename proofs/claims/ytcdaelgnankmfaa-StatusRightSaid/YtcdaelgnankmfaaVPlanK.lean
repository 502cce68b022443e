/- plan: Fails and Check. -/
import Derived.Test.YtcdaelgnankmfaaVPlanC
import Derived.Test.YtcdaelgnankmfaaVPutOk
import Derived.Scope
import Derived.Test.YtcdaelgnankmfaaVGet
namespace Go.Proofs.Ytcdaelgnankmfaa.VPlan
open Go.RowKit Go.VBase Go.VRg Go.VPlan Go.VSeq Go.VOct VOct

/-- What holds between two rounds. -/
def FlI (w : World) (p : PlanD) (pre : List Nat) (W : World) : Prop :=
  (∀ i, 1 ≤ i → i ≤ pre.length → cN p i = true) ∧ w.heap.size + 2 ≤ W.heap.size ∧ W.heap[w.heap.size + 1]? = some (.cells #[.int .i64 0] 3) ∧ Ext w W
def FlX (w : World) (p : PlanD) (c : Code) (_ : List Nat) (W : World) : Prop :=
  c = .exit 0 ∧ ∃ m, 1 ≤ m ∧ m ≤ 11 ∧ (∀ i, 1 ≤ i → i < m → cN p i = true) ∧ cN p m = false ∧ W.heap[w.heap.size + 1]? = some (.cells #[.int .i64 (m : Int)] 3) ∧ Ext w W
theorem flI_own (w : World) (p : PlanD) (n0 : Nat) (hn0 : w.heap.size ≤ n0) : OwnFrom n0 (FlI w p) := by
  rintro pre W W' row ⟨h0, h1, h2, h3⟩ hg hr
  have hr' : ∀ r, row = some r → ∃ o : Obj, W.heap[r]? = some o ∧ o.isCells = false := fun k hk => (hr k hk).2
  exact ⟨h0, Nat.le_trans h1 hg.size, cells_of_not hg hr' h2, Below.trans h3 (grown_below hg h3.size (fun k hk => by have := (hr k hk).1; omega))⟩
theorem flX_own (w : World) (p : PlanD) (n0 : Nat) (hn0 : w.heap.size ≤ n0) (c : Code) : OwnFrom n0 (FlX w p c) := by
  rintro pre W W' row ⟨hc, m, h1, h2, h3, h4, h5, h6⟩ hg hr
  have hr' : ∀ r, row = some r → ∃ o : Obj, W.heap[r]? = some o ∧ o.isCells = false := fun k hk => (hr k hk).2
  exact ⟨hc, m, h1, h2, h3, h4, cells_of_not hg hr' h5, Below.trans h6 (grown_below hg h6.size (fun k hk => by have := (hr k hk).1; omega))⟩

theorem condF_enter (x : Nat) (h1 : 1 ≤ x) (h2 : x ≤ 11) (args : Array Value) (w : World) : (callFunc (condF x) args).run Try.prog w = .ok (.enter (condF x) args) w := by
  rcases (show x = 1 ∨ x = 2 ∨ x = 3 ∨ x = 4 ∨ x = 5 ∨ x = 6 ∨ x = 7 ∨ x = 8 ∨ x = 9 ∨ x = 10 ∨ x = 11 by omega) with rfl | rfl | rfl | rfl | rfl | rfl | rfl | rfl | rfl | rfl | rfl
  all_goals
    simp only [condF]
    go_simp
attribute [local go_sem] Oper.semAt_some

set_option maxRecDepth 100000 in
set_option maxHeartbeats 4000000 in
theorem Fails_calls (p : PlanD) (w : World) : Calls Try.prog 65 #[planV p] w fun e w' => e = .returned (.int .i64 (failsN p : Int)) ∧ Ext w w' := by
  refine calls_of_marks Try.func65 rfl ?_
  simp only [Try.ntmps65, List.size_toArray, List.length_cons, List.length_nil, Nat.reduceAdd, Nat.reduceSub, Array.replicate_succ, Array.replicate_zero, List.push_toArray, List.append_toArray, List.nil_append, List.cons_append]
  have hfr : ∀ (c : Code), w.heap.size ≤ w.heap.size := fun _ => Nat.le_refl _
  have hI0 : FlI w p [] (((w.alloc (.cells (planC p) 35)).alloc (.cells #[.int .i64 0] 3)).alloc (.cells (planC p) 110)) :=
    ⟨fun i h1 h2 => by simp at h2; omega, by simp, (Ext.alloc _ _).block (heap_alloc2_new w _ _), ((Ext.alloc _ _).thenAlloc _).thenAlloc _⟩
  have hb2 := heap_alloc_at ((w.alloc (.cells (planC p) 35)).alloc (.cells #[.int .i64 0] 3)) (.cells (planC p) 110) (n := w.heap.size + 1 + 1) (by simp)
  have hsz : (((w.alloc (.cells (planC p) 35)).alloc (.cells #[.int .i64 0] 3)).alloc (.cells (planC p) 110)).heap.size = w.heap.size + 3 := by simp
  obtain ⟨W0, hW0⟩ : ∃ W0, W0 = ((w.alloc (.cells (planC p) 35)).alloc (.cells #[.int .i64 0] 3)).alloc (.cells (planC p) 110) := ⟨_, rfl⟩
  have kc := fun w => conditions_calls p w
  rw [← hW0] at hI0 hb2 hsz
  have r0 := (Ext.alloc _ (.cells #[.int .i64 0] 3)).block (heap_alloc_new w (.cells (planC p) 35))
  unfold planC at kc
  unfold planV planC
  go_wp2_with fail
  refine wp_scope_straight ?_
  go_wp2_with fail
  refine wp_label ?_
  go_wp2_with (refine loadPlanP r0 rfl rfl rfl ?_; simp only [planV, planC])
  refine (kc _).mono ?_
  rintro e w' ⟨rfl, rfl⟩
  go_wp2_with fail
  clear r0
  unfold planC at hW0
  rw [← hW0]
  clear hW0 hfr
  refine wp_rangeFunc2_nx (α := Nat) (p1 := 9) (p2 := 10) (q1 := 4) (q2 := 5) (e1 := fun (x : Nat) => .int .i64 (x : Int)) (e2 := fun (x : Nat) => condV p x) (gf := 105) (lb := #[.pointer (some ⟨w.heap.size + 1 + 1, 0, none⟩)]) rfl (fun args w => by go_simp) (conditions_stops p W0 (w.heap.size + 1 + 1) hb2)
    (fun h1 h2 => h1.trans h2) (fun W n o o' hn ho hc hwk => KpC.put W n o o' ho hc) (FlI w p) (FlX w p) (flI_own w p _ (by omega)) (flX_own w p _ (by omega)) hI0 (fun l x W K hK => ?_) (fun l1 pre x W hI hnx => ?_) (fun D xs W hD hS hI hk => ?_) (fun D c pre W hD hS hI hk => ?_)
  · simp only [List.setIfInBounds_toArray, List.set_cons_zero, List.set_cons_succ] at hK ⊢
    gi_wp2
    exact hK
  · simp only [List.setIfInBounds_toArray, List.set_cons_zero, List.set_cons_succ]
    obtain ⟨hpre, hxe, hx11⟩ := hnx
    obtain ⟨hall, h2, h3, h4⟩ := hI
    have hcc := fun (n : Nat) w => CallsIn.inRound l1 (callsIn_wide (n := n).2 (cond_calls p x (by omega) hx11 (fun i a b => hall i a (by omega)) w))
    have hlen : (pre ++ [x]).length = x := by simp; omega
    have hc1 : W.cell? ⟨w.heap.size + 1, 0, none⟩ = some (.int .i64 0) := cell_of_row W _ 0 _ _ _ h3
    have HB := Lib.hid (And.intro hall h3)
    have heg := condF_enter x (by omega) hx11
    unfold condV
    obtain ⟨F, hF⟩ : ∃ F, F = condF x := ⟨_, rfl⟩
    obtain ⟨V, hV⟩ : ∃ V, V = planV p := ⟨_, rfl⟩
    rw [← hF] at heg
    rw [← hF, ← hV] at hcc ⊢
    have HN := Lib.hid (And.intro hpre hxe)
    clear hall h3 hI0 hb2 hsz hF hV hpre hxe
    cases hb : cN p x with
    | true =>
      rw [hb] at hcc
      gi_wp2
      refine ⟨trivial, (hcc 6 _).mono ?_⟩
      rintro e w2 ⟨rfl, h5⟩
      have hc2 := h5.cell hc1
      have h6 := h5.block HB.out.2
      clear hcc
      gi_wp2
      refine ⟨⟨h5.size, fun k o hk _ => h5.block hk⟩, fun k o hk _ => h5.block hk, ?_, Nat.le_trans h2 h5.size, h6, h4.trans h5⟩
      intro i a b
      rw [hlen] at b
      by_cases e : i = x
      · subst e; exact hb
      · exact HB.out.1 i a (by have := HN.out.2; omega)
    | false =>
      rw [hb] at hcc
      gi_wp2
      refine ⟨trivial, (hcc 6 _).mono ?_⟩
      rintro e w2 ⟨rfl, h5⟩
      have hc2 := h5.cell hc1
      have h6 := h5.block HB.out.2
      have hf : w2.frozen? ⟨w.heap.size + 1, 0, none⟩ = false := frozen_of_row w2 _ 0 _ _ h6
      clear hcc
      have HX := Lib.hid (And.intro (h4.trans h5) h6)
      have HK := Lib.hid (show KeepsOthers W w2 from ⟨h5.size, fun k o hk _ => h5.block hk⟩)
      have HL := Lib.hid (show w.heap.size ≤ W.heap.size ∧ w.heap.size + 2 ≤ W.heap.size ∧ W.heap.size ≤ w2.heap.size from ⟨h4.size, h2, h5.size⟩)
      clear h4 h5 h6 h2
      gi_wp2
      refine ⟨HK.out.trans (KeepsOthers.setCell _ _ _), rfl, x, by have := HN.out.2; omega, hx11, fun i a b => HB.out.1 i a (by have := HN.out.2; omega), hb, ?_, Below.setCell HX.out.1 (by simp) _⟩
      rw [heap_setCell_same _ _ _ _ _ _ HX.out.2]; rfl
  · subst hS
    obtain ⟨hall, h2, h3, h4⟩ := hI
    have hf : failsN p = 0 := firstFrom_ok fun j a b => hall j a (by rw [ns_len]; omega)
    have HF := Lib.hid hf
    have hc1 : W.cell? ⟨w.heap.size + 1, 0, none⟩ = some (.int .i64 0) := cell_of_row W _ 0 _ _ _ h3
    have HI := Lib.hid (And.intro hall (And.intro h2 (And.intro h3 h4)))
    clear hall h2 h3 h4 hf hI0 hb2
    go_wp2_with fail
    refine leave1 rfl hk (results_tmp rfl _ _ _) ?_
    have hp := flI_own w p w.heap.size (Nat.le_refl _) ns W (W.putObj D (.deferred none)) (some D) HI.out (grownBy_putObj' W D _) (fun g hg => by cases hg; exact ⟨by omega, _, hk, rfl⟩)
    exact ⟨by rw [HF.out]; rfl, hp.2.2.2⟩
  · obtain ⟨rfl, m, m1, m2, m3, m4, h5, h6⟩ := hI
    have hf : failsN p = m := firstFrom_at m1 (by omega) (fun j a b => m3 j a b) m4
    have HF := Lib.hid hf
    have hc1 : W.cell? ⟨w.heap.size + 1, 0, none⟩ = some (.int .i64 (m : Int)) := cell_of_row W _ 0 _ _ _ h5
    have HI := Lib.hid (And.intro h5 h6)
    have HM := Lib.hid (And.intro m1 (And.intro m2 (And.intro m3 m4)))
    clear hf hI0 hb2 h5 h6 m1 m2 m3 m4
    go_wp2_with fail
    refine leave1 rfl hk (results_tmp rfl _ _ _) ?_
    have hp := flX_own w p w.heap.size (Nat.le_refl _) (.exit 0) [] W (W.putObj D (.deferred none)) (some D) ⟨rfl, m, HM.out.1, HM.out.2.1, HM.out.2.2.1, HM.out.2.2.2, HI.out.1, HI.out.2⟩ (grownBy_putObj' W D _) (fun g hg => by cases hg; exact ⟨by omega, _, hk, rfl⟩)
    obtain ⟨_, _, _, _, _, _, _, hp⟩ := hp
    exact ⟨by rw [HF.out]; rfl, hp⟩

set_option maxHeartbeats 1000000 in
theorem Check_calls (p : PlanD) (w : World) : Calls Try.prog 44 #[planV p] w fun e w' => e = .returned (.int .i64 (if planOk p then 0 else 70)) ∧ Ext w w' := by
  have hx0 := Ext.alloc w (.cells (planC p) 35)
  have r0 := heap_alloc_new w (.cells (planC p) 35)
  have kf := fun W => Fails_calls p W
  cases hb : planOk p with
  | false =>
    have hd : ((failsN p : Int) != 0) = true := by unfold planOk at hb; simp at hb ⊢; omega
    generalize (failsN p : Int) = FN at *
    unfold planV planC
    go_enter Try.func44, Try.ntmps44
    go_wp2_with (refine loadPlanP r0 rfl rfl rfl ?_)
    refine (kf _).mono ?_
    rintro e w1 ⟨rfl, h1⟩
    have hx1 := hx0.trans h1
    clear hx0 h1 r0
    go_wp2_with fail
    go_ret
    exact ⟨rfl, hx1⟩
  | true =>
    have hd : (failsN p : Int) = 0 := by unfold planOk at hb; simp at hb; omega
    rw [hd] at kf
    unfold planV planC
    go_enter Try.func44, Try.ntmps44
    go_wp2_with (refine loadPlanP r0 rfl rfl rfl ?_)
    refine (kf _).mono ?_
    rintro e w1 ⟨rfl, h1⟩
    have hx1 := hx0.trans h1
    clear hx0 h1 r0
    go_wp2_with fail
    go_ret
    exact ⟨rfl, hx1⟩
end Go.Proofs.Ytcdaelgnankmfaa.VPlan
