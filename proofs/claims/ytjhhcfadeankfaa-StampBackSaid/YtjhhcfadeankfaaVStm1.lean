/- stamp: keyOf, may, Check, and the document's Check. -/
import Derived.Test.YtjhhcfadeankfaaVMsgs
import Derived.Test.YtjhhcfadeankfaaVPlanK
import Derived.Test.YtjhhcfadeankfaaVPlanR
namespace Go.Proofs.Ytjhhcfadeankfaa.VMsg
open Go.RowKit Go.VBase Go.VRg Go.VEq VCst Go.VPlan VPlan

def keyV (m : MsgD) : Value := .agg #[.int .i64 m.st, .int .i64 m.se, .int .i64 m.nu]
/-- Numbers as memory has them. -/
def Wfm (m : MsgD) : Prop := (Lit.int .i64 m.st).wf = true ∧ (Lit.int .i64 m.se).wf = true ∧ (Lit.int .i64 m.nu).wf = true
def mayB (p : PlanD) (m : MsgD) : Bool :=
  decide (0 ≤ m.st) && decide (m.st ≤ 4294967296) && decide (0 ≤ m.se) && decide (m.se < p.nodes) && decide (0 ≤ m.nu) && decide (m.nu ≤ 2147483647) && decide ((m.b.length : Int) ≤ p.payload)

theorem loadMsg {ops : Array Oper} {rest : List Oper} {o : Oper} {a : Act} {Q : Exit → Act → World → Prop} {W : World} {t : Tmp} {b : Nat} {T' : TypeId} {mk : Nat × Nat} {m : MsgD} {s : Sl3}
    (h : W.heap[b]? = some (.cells #[.int .i64 m.st, .int .i64 m.se, .int .i64 m.nu, slV s] T' mk)) (hgd : o.guard = none) (ho : o.op = .load TMsg (.tmp t)) (hx : a.eval (.tmp t) = .pointer (some ⟨b, 0, none⟩))
    (hk : wpList Try.prog ops Q rest (a.put o.dst (msgV m (slV s))) W) : wpList Try.prog ops Q (o :: rest) a W := wpList_load_row hgd _ _ ho _ hx _ _ _ _ h Try.underlying24 rfl (by kernel_rfl) hk
theorem loadMsgw {ops : Array Oper} {rest : List Oper} {o : Oper} {a : Act} {Q : Exit → Act → World → Prop} {W : World} {t : Tmp} {b : Nat} {T' : TypeId} {mk : Nat × Nat} {m : MsgD} {s : Sl3}
    (h : W.heap[b]? = some (.cells #[.int .i64 m.st, .int .i64 m.se, .int .i64 m.nu, slV s] T' mk)) (hw : Region.wanted o (yielded ops a.tmps) = true) (ho : o.op = .load TMsg (.tmp t)) (hx : a.eval (.tmp t) = .pointer (some ⟨b, 0, none⟩))
    (hk : wpList Try.prog ops Q rest (a.put o.dst (msgV m (slV s))) W) : wpList Try.prog ops Q (o :: rest) a W :=
  wpList_step fun K hK => by
    simp only [hw, if_true]
    exact wp_load_row _ _ ho _ hx _ _ _ _ h Try.underlying24 rfl (by kernel_rfl) (hK _ _ hk)
theorem loadPlanPw {ops : Array Oper} {rest : List Oper} {o : Oper} {a : Act} {Q : Exit → Act → World → Prop} {W : World} {t : Tmp} {b : Nat} {T' : TypeId} {mk : Nat × Nat} {p : PlanD}
    (h : W.heap[b]? = some (.cells (planC p) T' mk)) (hw : Region.wanted o (yielded ops a.tmps) = true) (ho : o.op = .load 32 (.tmp t)) (hx : a.eval (.tmp t) = .pointer (some ⟨b, 0, none⟩))
    (hk : wpList Try.prog ops Q rest (a.put o.dst (planV p)) W) : wpList Try.prog ops Q (o :: rest) a W :=
  wpList_step fun K hK => by
    simp only [hw, if_true]
    exact wp_load_row _ _ ho _ hx _ _ _ _ h Try.underlying32 rfl (by kernel_rfl) (hK _ _ hk)

set_option maxRecDepth 100000 in
set_option maxHeartbeats 2000000 in
theorem may_calls (p : PlanD) (m : MsgD) (s : Sl3) (hs : s.2.1 = m.b.length) (w : World) : Calls Try.prog 46 #[planV p, msgV m (slV s)] w fun e w' => e = .returned (.bool (mayB p m)) ∧ Ext w w' := by
  obtain ⟨x0, x1, x2, xb⟩ := m
  obtain ⟨sa, sn, sc⟩ := s
  simp only at hs
  subst hs
  have hx0 := ((Ext.alloc w (.cells (planC p) 32)).thenAlloc (.cells #[.int .i64 x0, .int .i64 x1, .int .i64 x2, .slice sa xb.length sc] TMsg))
  unfold msgV slV planV planC
  unfold planC at hx0
  simp only
  go_enter Try.func46, Try.ntmps46
  go_wp2_with fail
  all_goals go_ret
  all_goals
    refine ⟨?_, hx0⟩
    unfold mayB
    apply ret_bool
    simp only
    rw [Bool.eq_iff_iff]
    simp only [Bool.and_eq_true, decide_eq_true_eq, Bool.false_eq_true, false_iff]
    omega

def smpB (p : PlanD) (m : MsgD) : Bool := planOk p && mayB p m
set_option maxRecDepth 100000 in
set_option maxHeartbeats 2000000 in
theorem stampCheck_calls (p : PlanD) (m : MsgD) (s : Sl3) (hs : s.2.1 = m.b.length) (w : World) : Calls Try.prog 24 #[planV p, msgV m (slV s)] w fun e w' => e = .returned (.int .i64 (if smpB p m then 0 else 230)) ∧ Ext w w' := by
  obtain ⟨sa, sn, sc⟩ := s
  have km := fun W => may_calls p m (sa, sn, sc) hs W
  simp only at hs
  subst hs
  have kc := fun W => Check_calls p W
  have r0 := (Ext.alloc _ (.cells #[.int .i64 m.st, .int .i64 m.se, .int .i64 m.nu, slV (sa, m.b.length, sc)] TMsg)).block (heap_alloc_new w (.cells (planC p) 32))
  have r1 := heap_alloc_new (w.alloc (.cells (planC p) 32)) (.cells #[.int .i64 m.st, .int .i64 m.se, .int .i64 m.nu, slV (sa, m.b.length, sc)] TMsg)
  rw [World.size_alloc] at r1
  have x0 := (Ext.alloc w (.cells (planC p) 32)).thenAlloc (.cells #[.int .i64 m.st, .int .i64 m.se, .int .i64 m.nu, slV (sa, m.b.length, sc)] TMsg)
  obtain ⟨W0, hW0⟩ : ∃ W0, W0 = (w.alloc (.cells (planC p) 32)).alloc (.cells #[.int .i64 m.st, .int .i64 m.se, .int .i64 m.nu, slV (sa, m.b.length, sc)] TMsg) := ⟨_, rfl⟩
  rw [← hW0] at r0 r1 x0
  have H0 := Lib.hid hW0
  clear hW0
  obtain ⟨x, hx⟩ : ∃ x, planOk p = x := ⟨_, rfl⟩
  obtain ⟨y, hy⟩ : ∃ y, mayB p m = y := ⟨_, rfl⟩
  unfold smpB
  rw [hx] at kc
  rw [hy] at km
  rw [hx, hy]
  clear hx hy
  unfold msgV planV planC slV
  simp only
  go_enter Try.func24, Try.ntmps24
  refine wp_seq_k fun K hK => ?_
  have HK := Lib.hid hK
  clear hK
  go_wp2_with fail
  refine HK.out _ _ ?_
  clear HK
  show Code.wp _ _ _ _ ((w.alloc (.cells (planC p) 32)).alloc (.cells #[.int .i64 m.st, .int .i64 m.se, .int .i64 m.nu, slV (sa, m.b.length, sc)] TMsg))
  rw [← H0.out]
  clear H0
  go_wp2_with (refine loadPlanP r0 rfl rfl rfl ?_)
  refine (kc _).mono ?_
  rintro e w1 ⟨rfl, h1⟩
  have r01 := h1.block r0
  have r11 := h1.block r1
  have x1 := x0.trans h1
  clear r0 r1 x0 h1 kc
  cases x with
  | false =>
    rw [show (if false = true then (0 : Int) else 70) = 70 from rfl]
    go_wp2_with fail
    go_ret
    exact ⟨rfl, x1⟩
  | true =>
    rw [show (if true = true then (0 : Int) else 70) = 0 from rfl]
    go_wp2_with (first | (refine loadPlanPw r01 rfl rfl rfl ?_) | (refine loadMsgw r11 rfl rfl rfl ?_))
    refine (km _).mono ?_
    rintro e w2 ⟨rfl, h2⟩
    have x2 := x1.trans h2
    clear r01 r11 x1 h2 km
    cases y with
    | false =>
      go_wp2_with fail
      go_ret
      exact ⟨rfl, x2⟩
    | true =>
      go_wp2_with fail
      go_ret
      exact ⟨rfl, x2⟩

set_option maxRecDepth 100000 in
set_option maxHeartbeats 4000000 in
theorem refStampCheck_calls (p : PlanD) (m : MsgD) (s : Sl3) (hs : s.2.1 = m.b.length) (w : World) : Calls Try.prog 25 #[planV p, msgV m (slV s)] w fun e w' => e = .returned (.int .i64 (if smpB p m then 0 else 230)) ∧ Ext w w' := by
  have kc := fun W => refCheck_calls p W
  obtain ⟨x0, x1, x2, xb⟩ := m
  obtain ⟨sa, sn, sc⟩ := s
  simp only at hs
  subst hs
  have r0 := (Ext.alloc _ (.cells #[.int .i64 x0, .int .i64 x1, .int .i64 x2, .slice sa xb.length sc] TMsg)).block (heap_alloc_new w (.cells (planC p) 32))
  have r1 := heap_alloc_new (w.alloc (.cells (planC p) 32)) (.cells #[.int .i64 x0, .int .i64 x1, .int .i64 x2, .slice sa xb.length sc] TMsg)
  rw [World.size_alloc] at r1
  have y0 := (Ext.alloc w (.cells (planC p) 32)).thenAlloc (.cells #[.int .i64 x0, .int .i64 x1, .int .i64 x2, .slice sa xb.length sc] TMsg)
  obtain ⟨W0, hW0⟩ : ∃ W0, W0 = (w.alloc (.cells (planC p) 32)).alloc (.cells #[.int .i64 x0, .int .i64 x1, .int .i64 x2, .slice sa xb.length sc] TMsg) := ⟨_, rfl⟩
  rw [← hW0] at r0 r1 y0
  have H0 := Lib.hid hW0
  clear hW0
  obtain ⟨r, hr⟩ : ∃ r : Int, (if smpB p ⟨x0, x1, x2, xb⟩ = true then 0 else 230) = r := ⟨_, rfl⟩
  rw [hr]
  have HR := Lib.hid hr
  clear hr
  obtain ⟨x, hx⟩ : ∃ x, planOk p = x := ⟨_, rfl⟩
  rw [hx] at kc
  have HX := Lib.hid hx
  clear hx
  unfold msgV planV planC slV
  simp only
  go_enter Try.func25, Try.ntmps25
  refine wp_seq_k fun K hK => ?_
  have HK := Lib.hid hK
  clear hK
  go_wp2_with fail
  refine HK.out _ _ ?_
  clear HK
  show Code.wp _ _ _ _ ((w.alloc (.cells (planC p) 32)).alloc (.cells #[.int .i64 x0, .int .i64 x1, .int .i64 x2, .slice sa xb.length sc] TMsg))
  rw [← H0.out]
  clear H0
  go_wp2_with (refine loadPlanP r0 rfl rfl rfl ?_)
  refine (kc _).mono ?_
  rintro e w1 ⟨rfl, h1⟩
  have r01 := h1.block r0
  obtain ⟨d0, d1, d2, d3⟩ := row4m (h1.block r1)
  have z1 := y0.trans h1
  clear r0 r1 y0 h1 kc
  have c0 : w1.cell? ⟨w.heap.size, 0, none⟩ = some (.int .i64 p.nodes) := planCell r01 rfl
  have c14 : w1.cell? ⟨w.heap.size, 14, none⟩ = some (.int .i64 p.payload) := planCell r01 rfl
  clear r01
  cases x with
  | false =>
    rw [show (if false = true then (0 : Int) else 70) = 70 from rfl]
    go_wp2_with fail
    go_ret
    exact ⟨by rw [← HR.out]; unfold smpB; rw [HX.out]; rfl, z1⟩
  | true =>
    rw [show (if true = true then (0 : Int) else 70) = 0 from rfl]
    go_wp2_with fail
    all_goals go_ret
    all_goals
      refine ⟨?_, z1⟩
      clear c0 c14 d0 d1 d2 d3 z1
      apply ret_int
      rw [← HR.out]
      unfold smpB mayB
      rw [HX.out, Bool.true_and]
      clear HR HX
      split
      · rename_i hb
        simp only [Bool.and_eq_true, decide_eq_true_eq] at hb
        omega
      · rename_i hb
        simp only [Bool.and_eq_true, decide_eq_true_eq] at hb
        omega
end Go.Proofs.Ytjhhcfadeankfaa.VMsg
