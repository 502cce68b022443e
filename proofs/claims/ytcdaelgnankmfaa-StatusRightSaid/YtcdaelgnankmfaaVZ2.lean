/- Bundled out of VPlanF VPlanG VStatA VOwn VStatH VChB VStatL. -/
import Derived.Test.YtcdaelgnankmfaaVPlanC
import Derived.Laws.ResultCell
import Derived.Test.YtcdaelgnankmfaaVPlanK
import Derived.Test.YtcdaelgnankmfaaVZ1
import Derived.Test.YtcdaelgnankmfaaVFrmE
import Derived.Test.YtcdaelgnankmfaaVBase
import Derived.Test.YtcdaelgnankmfaaVCh
import Derived.Test.YtcdaelgnankmfaaVRgBox
/- plan: known, least and Fit. -/
namespace Go.Proofs.Ytcdaelgnankmfaa.VPlan
open Go.RowKit Go.VBase Go.VRg Go.VPlan Go.VSeq

theorem loadPlanLw {ops : Array Oper} {rest : List Oper} {o : Oper} {a : Act} {Q : Exit → Act → World → Prop} {W : World} {t : Tmp} {b : Nat} {T' : TypeId} {mk : Nat × Nat} {p : PlanD}
    (h : W.heap[b]? = some (.cells (planC p) T' mk)) (hw : Region.wanted o (yielded ops a.tmps) = true) (ho : o.op = .load 110 (.tmp t)) (hx : a.eval (.tmp t) = .pointer (some ⟨b, 0, none⟩))
    (hk : wpList Try.prog ops Q rest (a.put o.dst (planV p)) W) : wpList Try.prog ops Q (o :: rest) a W :=
  wpList_step fun K hK => by
    simp only [hw, if_true]
    exact wp_load_row _ _ ho _ hx _ _ _ _ h Try.underlying110 rfl (by kernel_rfl) (hK _ _ hk)

set_option maxRecDepth 100000 in
set_option maxHeartbeats 2000000 in
theorem known_calls (p : PlanD) (w : World) : Calls Try.prog 61 #[planV p] w fun e w' => e = .returned (.bool (known p)) ∧ Ext w w' := by
  have kn := fun W => nodes_calls p W
  have ka := fun W => air_calls p W
  have ks := fun W => slot_calls p W
  have hx0 := Ext.alloc w (.cells (planC p) 110)
  have r0 := heap_alloc_new w (.cells (planC p) 110)
  unfold known
  unfold planV planC
  go_enter Try.func61, Try.ntmps61
  go_wp2_with (refine loadPlanL r0 rfl rfl rfl ?_)
  refine (kn _).mono ?_
  rintro e w1 ⟨rfl, h1⟩
  have hx1 := hx0.trans h1
  have r1 := h1.block r0
  clear hx0 r0 h1
  cases hb1 : c1 p with
  | false =>
    go_wp2_with fail
    go_ret
    exact ⟨by simp [hb1], hx1⟩
  | true =>
  go_wp2_with (refine loadPlanLw r1 rfl rfl rfl ?_)
  refine (ka _).mono ?_
  rintro e w2 ⟨rfl, h2⟩
  have hx2 := hx1.trans h2
  have r2 := h2.block r1
  clear hx1 r1 h2
  cases hb2 : c2 p with
  | false =>
    go_wp2_with fail
    go_ret
    exact ⟨by simp [hb1, hb2], hx2⟩
  | true =>
  go_wp2_with (refine loadPlanLw r2 rfl rfl rfl ?_)
  refine (ks _).mono ?_
  rintro e w3 ⟨rfl, h3⟩
  have hx3 := hx2.trans h3
  clear hx2 r2 h3
  go_wp2_with fail
  go_ret
  exact ⟨by simp [hb1, hb2], hx3⟩

/-! ### The least -/
def leastD (p : PlanD) : PlanD :=
  let p1 := { p with pi := lPi p }
  let p2 := { p1 with window := lWin p1 }
  let p3 := { p2 with cap := lCap p2 }
  let p4 := { p3 with sendOff := lOff p3 }
  let p5 := { p4 with delta := lDelta p4 }
  { p5 with horizon := 40 * rd p5 }
theorem Known.of {p q : PlanD} (h : Known p) (e1 : q.nodes = p.nodes) (e2 : q.k = p.k) (e3 : q.air = p.air) (e4 : q.dmin = p.dmin) (e5 : q.dmax = p.dmax) (e6 : q.slot = p.slot) (e7 : q.rho = p.rho) : Known q := by
  obtain ⟨h1, h2, h3, h4, h5, h6, h7, h8, h9, h10, h11, h12, h13⟩ := h
  constructor <;> simp only [e1, e2, e3, e4, e5, e6, e7] <;> assumption
theorem lPi_b {p : PlanD} (h : Known p) : 0 ≤ lPi p ∧ lPi p ≤ 1073741824 := by
  have := h.eb; have := h.gb; have := h.ab; unfold lPi; omega
theorem lCap_b {p : PlanD} (h : Known p) : 0 ≤ lCap p ∧ lCap p ≤ 1073741824 := by
  have := h.eb; have := h.gb; have := h.ab; unfold lCap; omega

set_option maxRecDepth 100000 in
set_option maxHeartbeats 8000000 in
theorem least_calls (p : PlanD) (hk : Known p) (hq0 : 1 ≤ p.queue) (hq1 : p.queue ≤ 64) (hb0 : 1 ≤ p.burst) (hb1 : p.burst ≤ 8) (B : Nat) (w : World) (hB : w.heap[B]? = some (.cells (planC p) 110)) :
    Calls Try.prog 63 #[.pointer (some ⟨B, 0, none⟩)] w fun e w' => e = .returned (.tuple #[]) ∧ w'.heap[B]? = some (.cells (planC (leastD p)) 110) ∧ Below B w w' := by
  obtain ⟨p1, hp1⟩ : ∃ q, q = { p with pi := lPi p } := ⟨_, rfl⟩
  obtain ⟨p2, hp2⟩ : ∃ q, q = { p1 with window := lWin p1 } := ⟨_, rfl⟩
  obtain ⟨p3, hp3⟩ : ∃ q, q = { p2 with cap := lCap p2 } := ⟨_, rfl⟩
  obtain ⟨p4, hp4⟩ : ∃ q, q = { p3 with sendOff := lOff p3 } := ⟨_, rfl⟩
  obtain ⟨p5, hp5⟩ : ∃ q, q = { p4 with delta := lDelta p4 } := ⟨_, rfl⟩
  obtain ⟨p6, hp6⟩ : ∃ q, q = { p5 with horizon := 40 * rd p5 } := ⟨_, rfl⟩
  have hl : leastD p = p6 := by rw [hp6, hp5, hp4, hp3, hp2, hp1]; rfl
  rw [hl]
  have k1 : Known p1 := by rw [hp1]; exact Known.of hk rfl rfl rfl rfl rfl rfl rfl
  have k2 : Known p2 := by rw [hp2]; exact Known.of k1 rfl rfl rfl rfl rfl rfl rfl
  have k3 : Known p3 := by rw [hp3]; exact Known.of k2 rfl rfl rfl rfl rfl rfl rfl
  have k4 : Known p4 := by rw [hp4]; exact Known.of k3 rfl rfl rfl rfl rfl rfl rfl
  have k5 : Known p5 := by rw [hp5]; exact Known.of k4 rfl rfl rfl rfl rfl rfl rfl
  have b1 := lPi_b hk
  have f1 : p1.pi = lPi p := by rw [hp1]
  have f2 : p2.pi = p1.pi := by rw [hp2]
  have f2w : p2.window = p1.pi + eP p1 := by rw [hp2]; rfl
  have e1 := k1.eb
  have f3 : p3.pi = p2.pi := by rw [hp3]
  have f3w : p3.window = p2.window := by rw [hp3]
  have f3c : p3.cap = lCap p2 := by rw [hp3]
  have b3 := lCap_b k2
  have f4 : p4.pi = p3.pi := by rw [hp4]
  have f4q : p4.queue = p.queue := by rw [hp4, hp3, hp2, hp1]
  have f4b : p4.burst = p.burst := by rw [hp4, hp3, hp2, hp1]
  have c1 := fun W => leastPi_calls p hk W
  have c2 := fun W => leastWindow_calls p1 k1 (by omega) (by omega) W
  have c3 := fun W => leastCap_calls p2 k2 W
  have c4 := fun W => leastOff_calls p3 (by omega) (by omega) (by omega) (by omega) (by omega) (by omega) W
  have c5 := fun W => leastDelta_calls p4 k4 (by omega) (by omega) (by omega) (by omega) (by omega) (by omega) W
  have c6 := fun W => round_calls p5 k5 W
  have c7 : IntKind.i64.wrap (40 * rd p5) = 40 * rd p5 := by have := k5.rd; rw [IntKind.wrap_i64]; omega
  have s1 : ∀ W : World, W.heap[B]? = some (.cells (planC p) 110) → (W.setCell ⟨B, 9, none⟩ (.int .i64 (lPi p))).heap[B]? = some (.cells (planC p1) 110) := fun W h => by
    rw [heap_setCell_same _ _ _ _ _ _ h, hp1]; rfl
  have s2 : ∀ W : World, W.heap[B]? = some (.cells (planC p1) 110) → (W.setCell ⟨B, 4, none⟩ (.int .i64 (lWin p1))).heap[B]? = some (.cells (planC p2) 110) := fun W h => by
    rw [heap_setCell_same _ _ _ _ _ _ h, hp2]; rfl
  have s3 : ∀ W : World, W.heap[B]? = some (.cells (planC p2) 110) → (W.setCell ⟨B, 10, none⟩ (.int .i64 (lCap p2))).heap[B]? = some (.cells (planC p3) 110) := fun W h => by
    rw [heap_setCell_same _ _ _ _ _ _ h, hp3]; rfl
  have s4 : ∀ W : World, W.heap[B]? = some (.cells (planC p3) 110) → (W.setCell ⟨B, 3, none⟩ (.int .i64 (lOff p3))).heap[B]? = some (.cells (planC p4) 110) := fun W h => by
    rw [heap_setCell_same _ _ _ _ _ _ h, hp4]; rfl
  have s5 : ∀ W : World, W.heap[B]? = some (.cells (planC p4) 110) → (W.setCell ⟨B, 11, none⟩ (.int .i64 (lDelta p4))).heap[B]? = some (.cells (planC p5) 110) := fun W h => by
    rw [heap_setCell_same _ _ _ _ _ _ h, hp5]; rfl
  have s6 : ∀ W : World, W.heap[B]? = some (.cells (planC p5) 110) → (W.setCell ⟨B, 15, none⟩ (.int .i64 (40 * rd p5))).heap[B]? = some (.cells (planC p6) 110) := fun W h => by
    rw [heap_setCell_same _ _ _ _ _ _ h, hp6]; rfl
  clear b1 f1 f2 f2w e1 f3 f3w f3c b3 f4 f4q f4b k1 k2 k3 k4 k5 hk hq0 hq1 hb0 hb1 hl hp1 hp2 hp3 hp4 hp5 hp6
  generalize lPi p = X1 at *
  generalize lWin p1 = X2 at *
  generalize lCap p2 = X3 at *
  generalize lOff p3 = X4 at *
  generalize lDelta p4 = X5 at *
  generalize rd p5 = X6 at *
  have hlt := (Array.getElem?_eq_some_iff.1 hB).1
  have hbel := Below.refl B w
  go_enter Try.func63, Try.ntmps63
  refine wp_seq_k fun K hK => ?_
  have HK := Lib.hid hK
  clear hK
  go_wp2_with (refine loadPlanL hB rfl rfl rfl ?_)
  refine (c1 _).mono ?_
  rintro e w1 ⟨rfl, h1⟩
  have hB1 := h1.block hB
  have hbel1 := hbel.trans (Below.mono h1 (Nat.le_of_lt hlt))
  have hlt1 := Nat.lt_of_lt_of_le hlt h1.size
  clear hB hbel hlt c1 h1
  have hfz : w1.frozen? ⟨B, 9, none⟩ = false := frozen_of_row w1 B 9 _ _ hB1
  have hce : w1.cell? ⟨B, 9, none⟩ = some (.int .i64 p.pi) := planCell hB1 rfl
  have hB := s1 _ hB1
  have hbel := Below.setCell (p := ⟨B, 9, none⟩) hbel1 (Nat.le_refl B) (.int .i64 X1)
  have hlt := hlt1
  rw [← World.size_setCell (w := w1) (a := ⟨B, 9, none⟩) (v := .int .i64 X1)] at hlt
  clear s1 hB1 hbel1 hlt1
  go_wp2_with fail
  refine HK.out _ _ ?_
  clear HK
  generalize w1.setCell ⟨B, 9, none⟩ (.int .i64 X1) = v1 at *
  clear hfz hce
  refine wp_seq_k fun K hK => ?_
  have HK := Lib.hid hK
  clear hK
  go_wp2_with (refine loadPlanL hB rfl rfl rfl ?_)
  refine (c2 _).mono ?_
  rintro e w2 ⟨rfl, h2⟩
  have hB2 := h2.block hB
  have hbel2 := hbel.trans (Below.mono h2 (Nat.le_of_lt hlt))
  have hlt2 := Nat.lt_of_lt_of_le hlt h2.size
  clear hB hbel hlt c2 h2
  have hfz : w2.frozen? ⟨B, 4, none⟩ = false := frozen_of_row w2 B 4 _ _ hB2
  have hce : w2.cell? ⟨B, 4, none⟩ = some (.int .i64 p1.window) := planCell hB2 rfl
  have hB := s2 _ hB2
  have hbel := Below.setCell (p := ⟨B, 4, none⟩) hbel2 (Nat.le_refl B) (.int .i64 X2)
  have hlt := hlt2
  rw [← World.size_setCell (w := w2) (a := ⟨B, 4, none⟩) (v := .int .i64 X2)] at hlt
  clear s2 hB2 hbel2 hlt2
  go_wp2_with fail
  refine HK.out _ _ ?_
  clear HK
  generalize w2.setCell ⟨B, 4, none⟩ (.int .i64 X2) = v2 at *
  clear hfz hce
  refine wp_seq_k fun K hK => ?_
  have HK := Lib.hid hK
  clear hK
  go_wp2_with (refine loadPlanL hB rfl rfl rfl ?_)
  refine (c3 _).mono ?_
  rintro e w3 ⟨rfl, h3⟩
  have hB3 := h3.block hB
  have hbel3 := hbel.trans (Below.mono h3 (Nat.le_of_lt hlt))
  have hlt3 := Nat.lt_of_lt_of_le hlt h3.size
  clear hB hbel hlt c3 h3
  have hfz : w3.frozen? ⟨B, 10, none⟩ = false := frozen_of_row w3 B 10 _ _ hB3
  have hce : w3.cell? ⟨B, 10, none⟩ = some (.int .i64 p2.cap) := planCell hB3 rfl
  have hB := s3 _ hB3
  have hbel := Below.setCell (p := ⟨B, 10, none⟩) hbel3 (Nat.le_refl B) (.int .i64 X3)
  have hlt := hlt3
  rw [← World.size_setCell (w := w3) (a := ⟨B, 10, none⟩) (v := .int .i64 X3)] at hlt
  clear s3 hB3 hbel3 hlt3
  go_wp2_with fail
  refine HK.out _ _ ?_
  clear HK
  generalize w3.setCell ⟨B, 10, none⟩ (.int .i64 X3) = v3 at *
  clear hfz hce
  refine wp_seq_k fun K hK => ?_
  have HK := Lib.hid hK
  clear hK
  go_wp2_with (refine loadPlanL hB rfl rfl rfl ?_)
  refine (c4 _).mono ?_
  rintro e w4 ⟨rfl, h4⟩
  have hB4 := h4.block hB
  have hbel4 := hbel.trans (Below.mono h4 (Nat.le_of_lt hlt))
  have hlt4 := Nat.lt_of_lt_of_le hlt h4.size
  clear hB hbel hlt c4 h4
  have hfz : w4.frozen? ⟨B, 3, none⟩ = false := frozen_of_row w4 B 3 _ _ hB4
  have hce : w4.cell? ⟨B, 3, none⟩ = some (.int .i64 p3.sendOff) := planCell hB4 rfl
  have hB := s4 _ hB4
  have hbel := Below.setCell (p := ⟨B, 3, none⟩) hbel4 (Nat.le_refl B) (.int .i64 X4)
  have hlt := hlt4
  rw [← World.size_setCell (w := w4) (a := ⟨B, 3, none⟩) (v := .int .i64 X4)] at hlt
  clear s4 hB4 hbel4 hlt4
  go_wp2_with fail
  refine HK.out _ _ ?_
  clear HK
  generalize w4.setCell ⟨B, 3, none⟩ (.int .i64 X4) = v4 at *
  clear hfz hce
  refine wp_seq_k fun K hK => ?_
  have HK := Lib.hid hK
  clear hK
  go_wp2_with (refine loadPlanL hB rfl rfl rfl ?_)
  refine (c5 _).mono ?_
  rintro e w5 ⟨rfl, h5⟩
  have hB5 := h5.block hB
  have hbel5 := hbel.trans (Below.mono h5 (Nat.le_of_lt hlt))
  have hlt5 := Nat.lt_of_lt_of_le hlt h5.size
  clear hB hbel hlt c5 h5
  have hfz : w5.frozen? ⟨B, 11, none⟩ = false := frozen_of_row w5 B 11 _ _ hB5
  have hce : w5.cell? ⟨B, 11, none⟩ = some (.int .i64 p4.delta) := planCell hB5 rfl
  have hB := s5 _ hB5
  have hbel := Below.setCell (p := ⟨B, 11, none⟩) hbel5 (Nat.le_refl B) (.int .i64 X5)
  have hlt := hlt5
  rw [← World.size_setCell (w := w5) (a := ⟨B, 11, none⟩) (v := .int .i64 X5)] at hlt
  clear s5 hB5 hbel5 hlt5
  go_wp2_with fail
  refine HK.out _ _ ?_
  clear HK
  generalize w5.setCell ⟨B, 11, none⟩ (.int .i64 X5) = v5 at *
  clear hfz hce
  go_wp2_with (refine loadPlanL hB rfl rfl rfl ?_)
  refine (c6 _).mono ?_
  rintro e w6 ⟨rfl, h6⟩
  have hB6 := h6.block hB
  have hbel6 := hbel.trans (Below.mono h6 (Nat.le_of_lt hlt))
  have hlt6 := Nat.lt_of_lt_of_le hlt h6.size
  clear hB hbel hlt c6 h6
  have hfz : w6.frozen? ⟨B, 15, none⟩ = false := frozen_of_row w6 B 15 _ _ hB6
  have hce : w6.cell? ⟨B, 15, none⟩ = some (.int .i64 p5.horizon) := planCell hB6 rfl
  have hB := s6 _ hB6
  have hbel := Below.setCell (p := ⟨B, 15, none⟩) hbel6 (Nat.le_refl B) (.int .i64 (40 * X6))
  have hlt := hlt6
  rw [← World.size_setCell (w := w6) (a := ⟨B, 15, none⟩) (v := .int .i64 (40 * X6))] at hlt
  clear s6 hB6 hbel6 hlt6
  go_wp2_with fail
  first | go_end0 | refine bodyPost_ret (results_none rfl _ _ _) rfl ?_
  exact ⟨rfl, hB, hbel⟩
end Go.Proofs.Ytcdaelgnankmfaa.VPlan

/- plan: Fit, where its course is known. -/
namespace Go.Proofs.Ytcdaelgnankmfaa.VPlan
open Go.RowKit Go.VBase Go.VRg Go.VPlan Go.VSeq Go.VOct VOct

def zeroD : PlanD := ⟨0, 0, 0, 0, 0, 0, 0, 0, 0, 0, 0, 0, 0, 0, 0, 0⟩
def baseD (w : PlanD) : PlanD := { zeroD with nodes := w.nodes, k := w.k, slot := 1, air := w.air, dmin := w.dmin, dmax := w.dmax, rho := w.rho, queue := w.queue, burst := w.burst, payload := w.payload }
def stepD (s : PlanD) : PlanD := leastD { s with slot := lSlot s }
def seqD (b : PlanD) : Nat → PlanD
  | 0 => leastD b
  | n + 1 => stepD (seqD b n)
def mildB (s : PlanD) : Bool := inP s.pi (-1099511627776) 1099511627776 && inP s.window (-1099511627776) 1099511627776 && inP s.cap (-1099511627776) 1099511627776 && inP s.sendOff (-1099511627776) 1099511627776
def fitB (wi : PlanD) (N : Nat) : Bool :=
  known (baseD wi) && c9 (baseD wi) && ((List.range (N + 1)).all fun j => known (seqD (baseD wi) j) && mildB (seqD (baseD wi) j)) &&
  ((List.range N).all fun j => decide ((seqD (baseD wi) j).slot < lSlot (seqD (baseD wi) j)) && decide (lSlot (seqD (baseD wi) j) ≤ 1048576)) &&
  decide (lSlot (seqD (baseD wi) N) ≤ (seqD (baseD wi) N).slot) && planOk (seqD (baseD wi) N)
theorem mild_of {s : PlanD} (h : mildB s = true) : Mild s := by
  unfold mildB at h
  simp only [Bool.and_eq_true, inP_iff] at h
  obtain ⟨⟨⟨⟨h1, h2⟩, h3, h4⟩, h5, h6⟩, h7, h8⟩ := h
  exact ⟨h1, h2, h3, h4, h5, h6, h7, h8⟩
theorem seq_queue (b : PlanD) : ∀ n, (seqD b n).queue = b.queue ∧ (seqD b n).burst = b.burst
  | 0 => ⟨rfl, rfl⟩
  | n + 1 => seq_queue b n

theorem storePlan {ops : Array Oper} {rest : List Oper} {o : Oper} {a : Act} {Q : Exit → Act → World → Prop} {W : World} {x y : Operand} {b : Nat} {T' : TypeId} {p q : PlanD}
    (h : W.heap[b]? = some (.cells (planC q) T')) (hgd : o.guard = none) (ho : o.op = .store 35 x y) (hx : a.eval x = .pointer (some ⟨b, 0, none⟩)) (hy : a.eval y = planV p)
    (hk : wpList Try.prog ops Q rest (a.put o.dst undef) (W.setRow b (planC p))) : wpList Try.prog ops Q (o :: rest) a W :=
  wpList_store_row hgd _ _ _ ho b (planC p) hx hy T' (planC q) h (by kernel_rfl) rfl (by unfold planC; simp [Value.oneCell']) hk
theorem buildP {T : TypeId} {ops : Array Oper} {rest : List Oper} {o : Oper} {a : Act} {Q : Exit → Act → World → Prop} {W : World} {parts : Array (Nat × Operand)} {q : PlanD}
    (hgd : o.guard = none) (ho : o.op = .build T parts) (hb : Try.prog.built T (parts.map fun (i, x) => (i, a.eval x)).toList = some (planC q))
    (hk : wpList Try.prog ops Q rest (a.put o.dst (planV q)) W) : wpList Try.prog ops Q (o :: rest) a W :=
  wpList_build hgd T parts ho (by rw [hb]; rfl) (by rw [hb]; exact hk)
theorem resPlan {fn : Func} {p u : Tmp} {T' : TypeId} {mk : Nat × Nat} {q : PlanD} {b : Nat} (h : fn.results = #[.cell p 35, .tmp u]) (tmps : Array Value) (w : World) (hp : tmps.getD p undef = .pointer (some ⟨b, 0, none⟩)) (hb : w.heap[b]? = some (.cells (planC q) T' mk)) :
    (results fn tmps).run Try.prog w = .ok (.tuple #[planV q, tmps.getD u undef]) w := by
  rw [results_cell_tmp h, hp]
  simp only [asAddr, Sem.run_pure, Result.andThen_ok, run_loadVar_row w b T' 35 (planC q) mk _ hb Try.underlying35 rfl (by kernel_rfl)]
  rfl
/-- The slot that lies in block B. -/
def slotOf (B : Nat) (W : World) : Int := match W.cell? ⟨B, 2, none⟩ with | some (.int _ z) => z | _ => 0

set_option maxRecDepth 100000 in
set_option maxHeartbeats 8000000 in
theorem Fit_calls (wi : PlanD) (N : Nat) (hfit : fitB wi N = true) (w : World) : Calls Try.prog 41 #[planV wi] w fun e w' => e = .returned (.tuple #[planV (seqD (baseD wi) N), .int .i64 0]) ∧ Ext w w' := by
  obtain ⟨b, hb⟩ : ∃ b, b = baseD wi := ⟨_, rfl⟩
  unfold fitB at hfit
  rw [← hb] at hfit ⊢
  simp only [Bool.and_eq_true, List.all_eq_true, List.mem_range, decide_eq_true_eq] at hfit
  obtain ⟨⟨⟨⟨⟨f1, f2⟩, f3⟩, f4⟩, f5⟩, f6⟩ := hfit
  have hkn := fun W => known_calls b W
  have hqu := fun W => queue_calls b W
  rw [f1] at hkn
  rw [f2] at hqu
  have g9 : (1 ≤ b.queue ∧ b.queue ≤ 64) ∧ (1 ≤ b.burst ∧ b.burst ≤ 8) := by
    unfold c9 at f2
    simp only [Bool.and_eq_true, inP_iff] at f2
    exact f2.1
  have hl0 := fun B W h => least_calls b (known_iff.1 f1) g9.1.1 g9.1.2 g9.2.1 g9.2.2 B W h
  have x0 := Ext.alloc w (.cells (planC wi) 35)
  have r0 := heap_alloc_new w (.cells (planC wi) 35)
  have s0 : (w.alloc (.cells (planC wi) 35)).heap.size = w.heap.size + 1 := by simp
  obtain ⟨W0, hW0⟩ : ∃ W0, W0 = w.alloc (.cells (planC wi) 35) := ⟨_, rfl⟩
  rw [← hW0] at x0 r0 s0
  have x1 := x0.thenAlloc (.cells (planC zeroD) 35)
  have r1 := heap_alloc_at W0 (.cells (planC zeroD) 35) s0
  have r10 := (Ext.alloc W0 (.cells (planC zeroD) 35)).block r0
  have s1 : (W0.alloc (.cells (planC zeroD) 35)).heap.size = w.heap.size + 1 + 1 := by simp [s0]
  obtain ⟨W1, hW1⟩ : ∃ W1, W1 = W0.alloc (.cells (planC zeroD) 35) := ⟨_, rfl⟩
  rw [← hW1] at x1 r1 r10 s1
  have x2 := x1.thenAlloc (.cells (planC zeroD) 35)
  have r2 := heap_alloc_at W1 (.cells (planC zeroD) 35) s1
  have r21 := (Ext.alloc W1 (.cells (planC zeroD) 35)).block r1
  have s2 : (W1.alloc (.cells (planC zeroD) 35)).heap.size = w.heap.size + 1 + 1 + 1 := by simp [s1]
  have x3 : Ext w ((W1.alloc (.cells (planC zeroD) 35)).setRow (w.heap.size + 1 + 1) (planC wi)) := x2.setRow (by omega) _
  have r3 := setRow_heap (W1.alloc (.cells (planC zeroD) 35)) (w.heap.size + 1 + 1) _ (planC wi) _ _ r2
  have r31 := (setRow_other (W1.alloc (.cells (planC zeroD) 35)) (w.heap.size + 1 + 1) (w.heap.size + 1) (planC wi) (by omega)).trans r21
  have s3 : ((W1.alloc (.cells (planC zeroD) 35)).setRow (w.heap.size + 1 + 1) (planC wi)).heap.size = w.heap.size + 1 + 1 + 1 := by simp [s1]
  obtain ⟨W3, hW3⟩ : ∃ W3, W3 = (W1.alloc (.cells (planC zeroD) 35)).setRow (w.heap.size + 1 + 1) (planC wi) := ⟨_, rfl⟩
  rw [← hW3] at x3 r3 r31 s3
  have HF := Lib.hid (And.intro f3 (And.intro f4 (And.intro f5 (And.intro f6 (And.intro g9 hb)))))
  clear f1 f2 f3 f4 f5 f6 g9 hb
  have H0 := Lib.hid hW0
  have H1 := Lib.hid hW1
  have H3 := Lib.hid hW3
  clear hW0 hW1 hW3 r21 x2 s2
  unfold planV planC
  go_enter Try.func41, Try.ntmps41
  refine wp_seq_k fun K hK => ?_
  have HK := Lib.hid hK
  clear hK
  go_wp2_with fail
  refine HK.out _ _ ?_
  clear HK
  show Code.wp _ _ _ _ ((w.alloc (.cells (planC wi) 35)).alloc (.cells (planC zeroD) 35))
  rw [← H0.out, ← H1.out]
  clear H0 H1 x0 x1 r0
  refine wp_seq_k fun K hK => ?_
  have HK := Lib.hid hK
  clear hK
  go_wp2_with (first | (refine loadPlanP r10 rfl rfl rfl ?_) | (refine storePlan (p := wi) r2 rfl rfl rfl rfl ?_))
  refine HK.out _ _ ?_
  clear HK
  show Code.wp _ _ _ _ ((W1.alloc (.cells (planC zeroD) 35)).setRow (w.heap.size + 1 + 1) (planC wi))
  rw [← H3.out]
  clear H3 r2 r10 s1 r1
  have c0 : W3.cell? ⟨w.heap.size + 1 + 1, 0, none⟩ = some (.int .i64 wi.nodes) := planCell r3 rfl
  have c1 : W3.cell? ⟨w.heap.size + 1 + 1, 1, none⟩ = some (.int .i64 wi.k) := planCell r3 rfl
  have c5 : W3.cell? ⟨w.heap.size + 1 + 1, 5, none⟩ = some (.int .i64 wi.air) := planCell r3 rfl
  have c6 : W3.cell? ⟨w.heap.size + 1 + 1, 6, none⟩ = some (.int .i64 wi.dmin) := planCell r3 rfl
  have c7 : W3.cell? ⟨w.heap.size + 1 + 1, 7, none⟩ = some (.int .i64 wi.dmax) := planCell r3 rfl
  have c8 : W3.cell? ⟨w.heap.size + 1 + 1, 8, none⟩ = some (.int .i64 wi.rho) := planCell r3 rfl
  have c12 : W3.cell? ⟨w.heap.size + 1 + 1, 12, none⟩ = some (.int .i64 wi.queue) := planCell r3 rfl
  have c13 : W3.cell? ⟨w.heap.size + 1 + 1, 13, none⟩ = some (.int .i64 wi.burst) := planCell r3 rfl
  have c14 : W3.cell? ⟨w.heap.size + 1 + 1, 14, none⟩ = some (.int .i64 wi.payload) := planCell r3 rfl
  have x4 := x3.thenAlloc (.cells (planC b) 110)
  have r4 := heap_alloc_at W3 (.cells (planC b) 110) s3
  have r41 := (Ext.alloc W3 (.cells (planC b) 110)).block r31
  have s4 : (W3.alloc (.cells (planC b) 110)).heap.size = w.heap.size + 1 + 1 + 1 + 1 := by simp [s3]
  obtain ⟨W4, hW4⟩ : ∃ W4, W4 = W3.alloc (.cells (planC b) 110) := ⟨_, rfl⟩
  rw [← hW4] at x4 r4 r41 s4
  have H4 := Lib.hid hW4
  clear hW4 r3
  refine wp_seq_k fun K hK => ?_
  have HK := Lib.hid hK
  clear hK
  go_wp2_with (first | (refine buildP (T := 35) (q := baseD wi) rfl rfl (by rfl) ?_) | (refine buildP (T := 110) (q := baseD wi) rfl rfl (by rfl) ?_))
  refine HK.out _ _ ?_
  clear HK c0 c1 c5 c6 c7 c8 c12 c13 c14
  show Code.wp _ _ _ _ (W3.alloc (.cells (planC (baseD wi)) 110))
  rw [← HF.out.2.2.2.2.2, ← H4.out]
  clear H4 x3 r31
  refine wp_seq_k fun K hK => ?_
  have HK := Lib.hid hK
  clear hK
  go_wp2_with (refine loadPlanL r4 rfl rfl rfl ?_)
  refine (hkn _).mono ?_
  rintro e W5 ⟨rfl, h5⟩
  have r5 := h5.block r4
  have r51 := h5.block r41
  have x5 := x4.trans h5
  clear hkn h5 r4 r41 x4 s3
  go_wp2_with (refine loadPlanLw r5 rfl rfl rfl ?_)
  refine (hqu _).mono ?_
  rintro e W6 ⟨rfl, h6⟩
  have r6 := h6.block r5
  have r61 := h6.block r51
  have x6 := x5.trans h6
  clear hqu h6 r5 r51 x5
  go_wp2_with fail
  refine HK.out _ _ ?_
  clear HK
  refine wp_seq_k fun K hK => ?_
  have HK := Lib.hid hK
  clear hK
  go_wp2_with fail
  refine (hl0 _ _ r6).mono ?_
  rintro e W7 ⟨rfl, r7, b7⟩
  clear hl0 r6
  have HB := Lib.hid (And.intro r61 x6)
  clear r61 x6
  go_wp2_with fail
  go_loopw [52] (fun _ wr => ∃ j, j ≤ N ∧ wr.heap[w.heap.size + 1 + 1 + 1]? = some (.cells (planC (seqD b j)) 110) ∧ Below (w.heap.size + 1 + 1 + 1) W6 wr) (fun _ wr => (1048577 - slotOf (w.heap.size + 1 + 1 + 1) wr).toNat)
  case atStart => exact ⟨0, Nat.zero_le _, r7, b7⟩
  case round =>
    clear r7 b7
    obtain ⟨j, hj, hr, hbel⟩ := hrel
    have hkm := HF.out.1 j (by omega)
    obtain ⟨s, hs⟩ : ∃ s, s = seqD b j := ⟨_, rfl⟩
    have kls := fun W => leastSlot_calls s (known_iff.1 (by rw [hs]; exact hkm.1)) (mild_of (by rw [hs]; exact hkm.2)) W
    rw [← hs] at hr
    have K0 := Lib.hid (show ∀ W, Ext wr.drew W → W.heap[w.heap.size + 1 + 1 + 1]? = some (.cells (planC s) 110) from fun W h => h.block hr)
    have HS := Lib.hid hs
    have HR := Lib.hid (And.intro hr hbel)
    clear hkm hs hr hbel
    by_cases hlt : j < N
    · have hlt2 := HF.out.2.1 j hlt
      rw [← HS.out] at hlt2
      have d1 : decide (s.slot < lSlot s) = true := decide_eq_true hlt2.1
      have d2 : decide (1048576 < lSlot s) = false := decide_eq_false (by omega)
      have H2 := Lib.hid (And.intro hlt2 hlt)
      clear hlt2 hlt hj
      go_wp2_with fail
      refine wp_region_rg Ext [(8, .known (.int .i64 (lSlot s)))] (by kernel_rfl) (by kernel_rfl) (by kernel_rfl) Ext.refl (fun _ _ _ => Ext.trans) ?_
      intro σ
      simp only
      refine rg_pure (x := ?_) rfl (by rfl) (fun W hW => ?_) ?_; rotate_left
      · go_simp; with_reducible rfl
      simp only [Nat.reduceAdd, Act.put, List.setIfInBounds_toArray, List.set_cons_zero, List.set_cons_succ]
      refine rg_pure (x := ?_) rfl (by rfl) (fun W hW => ?_) ?_; rotate_left
      · go_simp; with_reducible rfl
      simp only [Nat.reduceAdd, Act.put, List.setIfInBounds_toArray, List.set_cons_zero, List.set_cons_succ]
      refine rg_pure (x := ?_) rfl (by rfl) (fun W hW => ?_) ?_; rotate_left
      · go_simp; with_reducible rfl
      simp only [Nat.reduceAdd, Act.put, List.setIfInBounds_toArray, List.set_cons_zero, List.set_cons_succ]
      refine rg_pure (x := ?_) rfl (by rfl) (fun W hW => ?_) ?_; rotate_left
      · go_simp; with_reducible rfl
      simp only [Nat.reduceAdd, Act.put, List.setIfInBounds_toArray, List.set_cons_zero, List.set_cons_succ]
      refine rg_pure (x := .int .i64 s.slot) rfl (by rfl) (fun W hW => exec_load (b := .pointer (some ⟨w.heap.size + 1 + 1 + 1, 2, none⟩)) rfl rfl (loadI64 (planCell (K0.out W hW) (i := 2) rfl))) ?_
      simp only [Nat.reduceAdd, Act.put, List.setIfInBounds_toArray, List.set_cons_zero, List.set_cons_succ]
      refine rg_pure (x := ?_) rfl (by rfl) (fun W hW => ?_) ?_; rotate_left
      · go_simp; with_reducible rfl
      simp only [Nat.reduceAdd, Act.put, List.setIfInBounds_toArray, List.set_cons_zero, List.set_cons_succ]
      refine rg_pure (x := ?_) rfl (by rfl) (fun W hW => ?_) ?_; rotate_left
      · go_simp; with_reducible rfl
      simp only [Nat.reduceAdd, Act.put, List.setIfInBounds_toArray, List.set_cons_zero, List.set_cons_succ]
      refine rg_pure (x := planV s) rfl (by rfl) (fun W hW => exec_load (b := .pointer (some ⟨w.heap.size + 1 + 1 + 1, 0, none⟩)) rfl rfl (loadLook (K0.out W hW))) ?_
      simp only [Nat.reduceAdd, Act.put, List.setIfInBounds_toArray, List.set_cons_zero, List.set_cons_succ]
      refine rg_known rfl (by rfl) (fun W hW hF => ?_) ?_
      · go_simp
        refine (kls W).mono ?_
        rintro e W' ⟨rfl, h⟩
        exact ⟨_, rfl, h, rfl⟩
      simp only [Nat.reduceAdd, Act.put, List.setIfInBounds_toArray, List.set_cons_zero, List.set_cons_succ]
      refine rg_pure (x := ?_) rfl (by rfl) (fun W hW => ?_) ?_; rotate_left
      · go_simp; with_reducible rfl
      simp only [Nat.reduceAdd, Act.put, List.setIfInBounds_toArray, List.set_cons_zero, List.set_cons_succ]
      refine rg_done fun wq hW hF => ?_
      have hxq := Ext.of_drew hW
      have rq := hxq.block HR.out.1
      have hbq := HR.out.2.trans (Below.mono hxq (by have := (Array.getElem?_eq_some_iff.1 HR.out.1).1; omega))
      have hlq := (Array.getElem?_eq_some_iff.1 rq).1
      clear hF hW K0 hxq
      go_wp2_with (refine loadPlanL rq rfl rfl rfl ?_)
      refine (kls _).mono ?_
      rintro e wp ⟨rfl, hp⟩
      have rp := hp.block rq
      have hbp := hbq.trans (Below.mono hp (by omega))
      have hlp := (Array.getElem?_eq_some_iff.1 rp).1
      have hfz : wp.frozen? ⟨w.heap.size + 1 + 1 + 1, 2, none⟩ = false := frozen_of_row wp _ 2 _ _ rp
      have hce : wp.cell? ⟨w.heap.size + 1 + 1 + 1, 2, none⟩ = some (.int .i64 s.slot) := planCell rp rfl
      have rs : (wp.setCell ⟨w.heap.size + 1 + 1 + 1, 2, none⟩ (.int .i64 (lSlot s))).heap[w.heap.size + 1 + 1 + 1]? = some (.cells (planC { s with slot := lSlot s }) 110) := by
        rw [heap_setCell_same _ _ _ _ _ _ rp]; rfl
      have hbs : Below (w.heap.size + 1 + 1 + 1) W6 (wp.setCell ⟨w.heap.size + 1 + 1 + 1, 2, none⟩ (.int .i64 (lSlot s))) := Below.setCell hbp (Nat.le_refl _) _
      have HP := Lib.hid (And.intro rs hbs)
      clear kls hp rq hbq hlq rp hbp hlp rs hbs
      go_wp2_with fail
      have hkn : Known { s with slot := lSlot s } := by
        have h1 := known_iff.1 (HF.out.1 (j + 1) (by have := H2.out.2; omega)).1
        rw [HS.out]
        exact Known.of h1 rfl rfl rfl rfl rfl rfl rfl
      have g9 := HF.out.2.2.2.2.1
      have hqs := seq_queue b j
      rw [← HS.out] at hqs
      refine (least_calls { s with slot := lSlot s } hkn (by show 1 ≤ s.queue; rw [hqs.1]; exact g9.1.1) (by show s.queue ≤ 64; rw [hqs.1]; exact g9.1.2) (by show 1 ≤ s.burst; rw [hqs.2]; exact g9.2.1) (by show s.burst ≤ 8; rw [hqs.2]; exact g9.2.2) _ _ HP.out.1).mono ?_
      rintro e w9 ⟨rfl, r9, b9⟩
      have b10 := HP.out.2.trans b9
      clear b9 hkn g9 hqs hfz hce
      have H9 := Lib.hid (And.intro r9 b10)
      clear r9 b10
      go_wp2_with fail
      go_roundw
      case rel =>
        refine ⟨j + 1, H2.out.2, ?_, H9.out.2⟩
        rw [H9.out.1, HS.out]; rfl
      case measure =>
        have e1 : slotOf (w.heap.size + 1 + 1 + 1) w9 = lSlot s := by
          have : w9.cell? ⟨w.heap.size + 1 + 1 + 1, 2, none⟩ = some (.int .i64 (leastD { s with slot := lSlot s }).slot) := planCell H9.out.1 rfl
          unfold slotOf; rw [this]; rfl
        have e2 : slotOf (w.heap.size + 1 + 1 + 1) wr = s.slot := by
          have : wr.cell? ⟨w.heap.size + 1 + 1 + 1, 2, none⟩ = some (.int .i64 s.slot) := planCell HR.out.1 rfl
          unfold slotOf; rw [this]
        rw [e1, e2]
        have := H2.out.1
        omega
    · have hjn : j = N := by omega
      subst hjn
      have d1 : decide (s.slot < lSlot s) = false := decide_eq_false (by rw [HS.out]; have := HF.out.2.2.1; omega)
      have kF : ∀ W, Calls Try.prog 65 #[planV s] W fun e w' => e = .returned (.int .i64 0) ∧ Ext W w' := fun W => by
        have hok := HF.out.2.2.2.1
        rw [← HS.out] at hok
        have := Fails_calls s W
        rw [show failsN s = 0 by unfold planOk at hok; simpa using hok] at this
        exact this
      clear hlt hj
      go_wp2_with fail
      refine wp_region_rg Ext [(8, .known (.int .i64 (lSlot s)))] (by kernel_rfl) (by kernel_rfl) (by kernel_rfl) Ext.refl (fun _ _ _ => Ext.trans) ?_
      intro σ
      simp only
      refine rg_pure (x := ?_) rfl (by rfl) (fun W hW => ?_) ?_; rotate_left
      · go_simp; with_reducible rfl
      simp only [Nat.reduceAdd, Act.put, List.setIfInBounds_toArray, List.set_cons_zero, List.set_cons_succ]
      refine rg_pure (x := ?_) rfl (by rfl) (fun W hW => ?_) ?_; rotate_left
      · go_simp; with_reducible rfl
      simp only [Nat.reduceAdd, Act.put, List.setIfInBounds_toArray, List.set_cons_zero, List.set_cons_succ]
      refine rg_pure (x := ?_) rfl (by rfl) (fun W hW => ?_) ?_; rotate_left
      · go_simp; with_reducible rfl
      simp only [Nat.reduceAdd, Act.put, List.setIfInBounds_toArray, List.set_cons_zero, List.set_cons_succ]
      refine rg_pure (x := ?_) rfl (by rfl) (fun W hW => ?_) ?_; rotate_left
      · go_simp; with_reducible rfl
      simp only [Nat.reduceAdd, Act.put, List.setIfInBounds_toArray, List.set_cons_zero, List.set_cons_succ]
      refine rg_pure (x := .int .i64 s.slot) rfl (by rfl) (fun W hW => exec_load (b := .pointer (some ⟨w.heap.size + 1 + 1 + 1, 2, none⟩)) rfl rfl (loadI64 (planCell (K0.out W hW) (i := 2) rfl))) ?_
      simp only [Nat.reduceAdd, Act.put, List.setIfInBounds_toArray, List.set_cons_zero, List.set_cons_succ]
      refine rg_pure (x := ?_) rfl (by rfl) (fun W hW => ?_) ?_; rotate_left
      · go_simp; with_reducible rfl
      simp only [Nat.reduceAdd, Act.put, List.setIfInBounds_toArray, List.set_cons_zero, List.set_cons_succ]
      refine rg_pure (x := ?_) rfl (by rfl) (fun W hW => ?_) ?_; rotate_left
      · go_simp; with_reducible rfl
      simp only [Nat.reduceAdd, Act.put, List.setIfInBounds_toArray, List.set_cons_zero, List.set_cons_succ]
      refine rg_pure (x := planV s) rfl (by rfl) (fun W hW => exec_load (b := .pointer (some ⟨w.heap.size + 1 + 1 + 1, 0, none⟩)) rfl rfl (loadLook (K0.out W hW))) ?_
      simp only [Nat.reduceAdd, Act.put, List.setIfInBounds_toArray, List.set_cons_zero, List.set_cons_succ]
      refine rg_known rfl (by rfl) (fun W hW hF => ?_) ?_
      · go_simp
        refine (kls W).mono ?_
        rintro e W' ⟨rfl, h⟩
        exact ⟨_, rfl, h, rfl⟩
      simp only [Nat.reduceAdd, Act.put, List.setIfInBounds_toArray, List.set_cons_zero, List.set_cons_succ]
      refine rg_pure (x := ?_) rfl (by rfl) (fun W hW => ?_) ?_; rotate_left
      · go_simp; with_reducible rfl
      simp only [Nat.reduceAdd, Act.put, List.setIfInBounds_toArray, List.set_cons_zero, List.set_cons_succ]
      refine rg_done fun wq hW hF => ?_
      have hxq := Ext.of_drew hW
      have rq := hxq.block HR.out.1
      have hbq := HR.out.2.trans (Below.mono hxq (by have := (Array.getElem?_eq_some_iff.1 HR.out.1).1; omega))
      have hl6 : w.heap.size + 1 < W6.heap.size := (Array.getElem?_eq_some_iff.1 HB.out.1).1
      have r1q := (Below.block hbq (w.heap.size + 1) (by omega)).trans HB.out.1
      have xq : Ext w wq := Below.trans HB.out.2 (Below.mono hbq (by omega))
      clear hF hW K0 hxq hbq kls
      go_wp2_with fail
      refine HK.out _ _ ?_
      clear HK
      go_wp2_with (refine loadPlanP rq rfl rfl rfl ?_)
      refine (kF _).mono ?_
      rintro e wf ⟨rfl, hf⟩
      have rf := hf.block rq
      have r1f := hf.block r1q
      have xf := xq.trans hf
      have rz := setRow_heap wf (w.heap.size + 1) _ (planC s) _ _ r1f
      have xz : Ext w (wf.setRow (w.heap.size + 1) (planC s)) := xf.setRow (by omega) _
      clear rq r1q xq kF hf
      go_wp2_with (first | (refine loadPlanP rf rfl rfl rfl ?_) | (refine storePlan (p := s) r1f rfl rfl rfl rfl ?_))
      refine bodyPost_ret (resPlan (q := s) (b := w.heap.size + 1) rfl _ _ (by rfl) rz) rfl ?_
      exact ⟨by rw [HS.out]; rfl, xz⟩
end Go.Proofs.Ytcdaelgnankmfaa.VPlan

/- status's laws: least, look, made. -/
namespace Go.Proofs.Ytcdaelgnankmfaa.VSta
open Go.RowKit Go.VBase Go.VRg Go.VSeq Go.VPlan VPlan Go.VOct VOct VCst Go.Proofs.Ytcdaelgnankmfaa.VCrc _root_.Go.VCrc VMsg

def leastW : PlanD := ⟨4, 1, 0, 0, 0, 1, 1, 3, 100000, 0, 0, 0, 2, 1, 8, 0⟩
def leastP : PlanD := seqD (baseD leastW) 1
theorem least_fit : fitB leastW 1 = true := by decide +kernel
theorem leastP_ok : planOk leastP = true := by decide +kernel
theorem leastP_exp : expP leastP 0 0 = 250 := by decide +kernel

set_option maxRecDepth 100000 in
set_option maxHeartbeats 4000000 in
theorem least_calls (w : World) : Calls Try.prog 27 #[] w fun e w' => e = .returned (planV leastP) ∧ Ext w w' := by
  have kF := fun W => Fit_calls leastW 1 least_fit W
  rw [show seqD (baseD leastW) 1 = leastP from rfl] at kF
  generalize hD : leastP = D at *
  have r0 := heap_alloc_new w (.cells (planC zeroD) 35)
  have x0 := Ext.alloc w (.cells (planC zeroD) 35)
  clear hD
  go_enter Try.func27, Try.ntmps27
  go_wp2_with (refine buildP (T := 35) (q := leastW) rfl rfl (by rfl) ?_)
  refine (kF _).mono ?_
  rintro e w2 ⟨rfl, h⟩
  have r2 := h.block r0
  have x2 := x0.trans h
  have hlt : w.heap.size < w2.heap.size := (Array.getElem?_eq_some_iff.1 r2).1
  have ra := heap_alloc_new w2 (.cells (planC zeroD) 35)
  have ra0 := (Ext.alloc w2 (.cells (planC zeroD) 35)).block r2
  have rb := setRow_heap (w2.alloc (.cells (planC zeroD) 35)) w2.heap.size _ (planC D) _ _ ra
  have rc := (setRow_other (w2.alloc (.cells (planC zeroD) 35)) w2.heap.size w.heap.size (planC D) (by omega)).trans ra0
  have rd := setRow_heap ((w2.alloc (.cells (planC zeroD) 35)).setRow w2.heap.size (planC D)) w.heap.size _ (planC D) _ _ rc
  have xd : Ext w (((w2.alloc (.cells (planC zeroD) 35)).setRow w2.heap.size (planC D)).setRow w.heap.size (planC D)) := ((x2.thenAlloc _).setRow (by omega) _).setRow (Nat.le_refl _) _
  clear r0 x0 kF h r2 ra0
  go_wp2_with (first | (refine storePlan (p := D) ra rfl rfl rfl rfl ?_) | (refine loadPlanP rb rfl rfl rfl ?_) | (refine storePlan (p := D) rc rfl rfl rfl rfl ?_))
  refine bodyPost_ret (results_cell_row rfl _ _ w.heap.size _ _ _ _ (by rfl) rd Try.underlying35 rfl (by kernel_rfl)) rfl ?_
  exact ⟨rfl, xd⟩

set_option maxRecDepth 100000 in
set_option maxHeartbeats 2000000 in
theorem look_calls (r s v : Int) (w : World) : Calls Try.prog 15 #[plV r s, .int .u16 v] w fun e w' => e = .returned (.agg #[.int .i64 r, .int .i64 s, .int .i64 0, .int .u16 v]) ∧ Ext w w' := by
  have x0 := fun o o' b cs => ((((Ext.alloc w o).thenAlloc o').setRow (g := w.heap.size + b) (by omega) cs))
  have r1 := heap_alloc_at (w.alloc (.cells #[.int .i64 r, .int .i64 s] 37)) (.cells #[.int .i64 0, .int .i64 0, .int .i64 0, .int .u16 0] 25) (n := w.heap.size + 1) (by simp)
  have rd := setRow_heap _ (w.heap.size + 1) _ #[.int .i64 r, .int .i64 s, .int .i64 0, .int .u16 v] _ _ r1
  unfold plV
  go_enter Try.func15, Try.ntmps15
  go_wp2_with (refine wpList_store_row rfl _ _ _ rfl (w.heap.size + 1) _ rfl rfl _ _ r1 (by kernel_rfl) rfl (by simp [Value.oneCell']) ?_)
  refine bodyPost_ret (results_cell_row rfl _ _ (w.heap.size + 1) _ _ _ _ (by rfl) rd Try.underlying25 rfl (by kernel_rfl)) rfl ?_
  exact ⟨rfl, x0 _ _ _ _⟩

def madeF (k r s m v : Int) (l : List UInt8) : FrmD := ⟨k, r, s, m, v, if k = 2 then [] else l⟩
set_option maxRecDepth 100000 in
set_option maxHeartbeats 2000000 in
theorem made_calls (k r s m v : Int) (l : List UInt8) (sx : Sl3) (w : World) (hx : Bys w (slV sx) l) (hv0 : 0 ≤ v) (hv : v < 65536) :
    Calls Try.prog 14 #[.int .i64 k, .agg #[.int .i64 r, .int .i64 s, .int .i64 m, .int .u16 v], slV sx] w (MadeB w TB ((encF (madeF k r s m v l)).getD [])) := by
  have x0 := Ext.alloc w (.cells #[.int .i64 r, .int .i64 s, .int .i64 m, .int .u16 v] 25)
  by_cases h2 : k = 2
  · have e : madeF k r s m v l = ⟨k, r, s, m, v, []⟩ := by unfold madeF; rw [if_pos h2]
    have kE := frmEncode_calls ⟨k, r, s, m, v, []⟩ (none, 0, 0) _ (Bys.nil (w.alloc (.cells #[.int .i64 r, .int .i64 s, .int .i64 m, .int .u16 v] 25))) hv0 hv
    rw [e]
    unfold EncFPost at kE
    generalize encF ⟨k, r, s, m, v, []⟩ = x at *
    obtain ⟨z, hz⟩ : ∃ z : Int, (if x.isSome then 0 else 50) = z := ⟨_, rfl⟩
    rw [hz] at kE
    subst h2
    clear hx hv0 hv hz e
    obtain ⟨sa, sn, sc⟩ := sx
    unfold frmC at kE
    unfold slV at *
    simp only at *
    go_enter Try.func14, Try.ntmps14
    go_wp2_with fail
    refine kE.mono ?_
    rintro e w1 ⟨u, rfl, hu, h1, -⟩
    have x1 := x0.trans h1
    have hs := x0.size
    clear kE x0 h1
    go_wp2_with fail
    go_ret
    exact ⟨u, rfl, hu.mono hs, x1⟩
  · have e : madeF k r s m v l = ⟨k, r, s, m, v, l⟩ := by unfold madeF; rw [if_neg h2]
    have kE := frmEncode_calls ⟨k, r, s, m, v, l⟩ sx _ (hx.ext x0) hv0 hv
    rw [e]
    have hd : (k == 2) = false := beq_false_of_ne h2
    unfold EncFPost at kE
    generalize encF ⟨k, r, s, m, v, l⟩ = x at *
    obtain ⟨z, hz⟩ : ∃ z : Int, (if x.isSome then 0 else 50) = z := ⟨_, rfl⟩
    rw [hz] at kE
    clear hx hv0 hv hz e h2
    obtain ⟨sa, sn, sc⟩ := sx
    unfold frmC at kE
    unfold slV at *
    simp only at *
    go_enter Try.func14, Try.ntmps14
    go_wp2_with fail
    refine kE.mono ?_
    rintro e w1 ⟨u, rfl, hu, h1, -⟩
    have x1 := x0.trans h1
    have hs := x0.size
    clear kE x0 h1
    go_wp2_with fail
    go_ret
    exact ⟨u, rfl, hu.mono hs, x1⟩
end Go.Proofs.Ytcdaelgnankmfaa.VSta

/- Rows of a call's own, of elements of any kind: append of one. No program in sight. -/
namespace Go.VBase
open Go.RowKit

/-- A slice of the call's own: block 'base' or beyond; each element is 's' cells. -/
def OwnG {α : Type} (enc : α → List Value) (s : Nat) (w : World) (base e : Nat) (v : Value) (l : List α) : Prop := w.ownsRow base e s v l.length (l.flatMap enc)
/-- A type of slices, as the program's tables have it. -/
def ElemTy (P : Program) (t e : TypeId) (z : Value) (s by' : Nat) : Prop := P.underlying t = some (.slice e) ∧ ∃ i, P.info? e = some i ∧ i.zero = some z ∧ i.size = s ∧ i.bytes = by' ∧ z.cells.size = s

section
variable {α : Type} {enc : α → List Value} {s : Nat}
theorem OwnG.nil (w : World) (base e : Nat) : OwnG enc s w base e (.slice none 0 0) [] := World.ownsRow_nil _ _ _ _
theorem OwnG.alloc {w : World} {base e : Nat} {v : Value} {l : List α} (h : OwnG enc s w base e v l) (o : Obj) : OwnG enc s (w.alloc o) base e v l := World.ownsRow.alloc h o
theorem OwnG.drew {w : World} {base e : Nat} {v : Value} {l : List α} (h : OwnG enc s w base e v l) : OwnG enc s w.drew base e v l := h
theorem OwnG.slice {w : World} {base e : Nat} {v : Value} {l : List α} (h : OwnG enc s w base e v l) : ∃ a cap, v = .slice a l.length cap := by
  rcases h.2 with ⟨rfl, h0⟩ | ⟨g, cap, cur, rfl, _⟩
  · exact ⟨none, 0, by rw [h0]⟩
  · exact ⟨_, _, rfl⟩
theorem OwnG.lt {w : World} {base e : Nat} {v : Value} {l : List α} (h : OwnG enc s w base e v l) : ∀ k, v.ownBlock = some k → base ≤ k := fun k hk => (World.ownsRow.lt h k hk).1
theorem OwnG.ext {w w' : World} {base e : Nat} {v : Value} {l : List α} (h : OwnG enc s w base e v l) (x : Ext w w') : OwnG enc s w' base e v l :=
  World.ownsRow.kept h (ext_grown none _ _ x) (by cases v.ownBlock <;> simp)
theorem OwnG.grown {w w' : World} {base e : Nat} {v : Value} {l : List α} {row : Option Nat} (h : OwnG enc s w base e v l) (hg : w.grownBy w' row) (hne : v.ownBlock = none ∨ v.ownBlock ≠ row) : OwnG enc s w' base e v l := World.ownsRow.kept h hg hne
theorem flatMap_get1 {β : Type} (f : α → List β) : ∀ (l : List α) (i : Nat) (x : α) (y : β), (∀ a, (f a).length = 1) → l[i]? = some x → f x = [y] → (l.flatMap f)[i]? = some y
  | [], i, x, y, _, h, _ => by simp at h
  | a :: l, 0, x, y, hf, h, hy => by
    simp at h; subst h
    rw [List.flatMap_cons, hy]; rfl
  | a :: l, i + 1, x, y, hf, h, hy => by
    obtain ⟨b, hb⟩ : ∃ b, f a = [b] := List.length_eq_one_iff.1 (hf a)
    rw [List.flatMap_cons, hb]
    simp only [List.cons_append, List.nil_append, List.getElem?_cons_succ]
    exact flatMap_get1 f l i x y hf (by simpa using h) hy
/-- An element's cells. -/
theorem flatMap_get {β : Type} (f : α → List β) (s : Nat) (hf : ∀ a, (f a).length = s) : ∀ (l : List α) (i j : Nat) (x : α), l[i]? = some x → j < s → (l.flatMap f)[i * s + j]? = (f x)[j]?
  | [], i, j, x, h, _ => by simp at h
  | a :: l, 0, j, x, h, hj => by
    simp at h; subst h
    rw [List.flatMap_cons, Nat.zero_mul, Nat.zero_add, List.getElem?_append_left (by rw [hf]; exact hj)]
  | a :: l, i + 1, j, x, h, hj => by
    rw [List.flatMap_cons, List.getElem?_append_right (by rw [hf, Nat.succ_mul]; omega), hf]
    rw [show (i + 1) * s + j - s = i * s + j from by rw [Nat.succ_mul]; omega]
    exact flatMap_get f s hf l i j x (by simpa using h) hj
theorem OwnG.cell {w : World} {base e : Nat} {b off n cap : Nat} {sp : Option _} {l : List α} (hf : ∀ a, (enc a).length = s) (h : OwnG enc s w base e (.slice (some ⟨b, off, sp⟩) n cap) l) {i j : Nat} {x : α} {u : Value} (hi : l[i]? = some x) (hj : (enc x)[j]? = some u) :
    off = 0 ∧ sp = none ∧ w.cell? ⟨b, i * s + j, none⟩ = some u := by
  have hjs : j < s := by rw [← hf x]; exact (List.getElem?_eq_some_iff.1 hj).1
  rcases h.2 with ⟨hv, h0⟩ | ⟨g, cap', cur, hv, rest⟩
  · cases hv
  · cases hv
    have hc := World.ownsRow.cells h (g := b) rfl (i * s + j) u (by rw [flatMap_get enc s hf l i j x hi hjs]; exact hj)
    have e' : (Addr.add ⟨b, 0, none⟩ (i * s + j)) = ⟨b, i * s + j, none⟩ := by
      unfold Addr.add; split
      · rename_i h0; rw [h0]
      · simp
    rw [e'] at hc
    exact ⟨rfl, rfl, hc⟩
theorem OwnG.there {w : World} {base e : Nat} {v : Value} {l : List α} (h : OwnG enc s w base e v l) (hl : l ≠ []) : ∃ b cap, v = .slice (some ⟨b, 0, none⟩) l.length cap ∧ base ≤ b ∧ b < w.heap.size := by
  rcases h.2 with ⟨rfl, h0⟩ | ⟨g, cap, cur, rfl, hb, hg, _⟩
  · exact absurd (List.length_eq_zero_iff.1 h0) hl
  · exact ⟨g, cap, rfl, hb, (Array.getElem?_eq_some_iff.1 hg).1⟩
end

/-- An append of one to a row of the call's own. -/
theorem run_append_G {α : Type} {enc : α → List Value} {s by' : Nat} {z : Value} {P : Program} {t e : TypeId} (hT : ElemTy P t e z s by') (hs : 0 < s) (hf : ∀ a, (enc a).length = s) (h1 : ∀ a, ∀ u ∈ enc a, u.oneCell' = true) (ty : TypeId) {W : World} {base : Nat} {v : Value} {l : List α} {x : α} {ad : Addr} {c : Nat} (h : OwnG enc s W base e v l)
    (hx : ∀ j u, (enc x)[j]? = some u → W.cell? (ad.add j) = some u) (hlen : (l.length + 1) * by' ≤ 140737488355328) (hl2 : l.length < 140737488355328) (hb : base ≤ W.heap.size) :
    ∃ v' w', (Builtin.append_ #[t, t] ty #[v, .slice (some ad) 1 c]).run P W = .ok v' w' ∧ OwnG enc s w' base e v' (l ++ [x]) ∧ W.grownBy w' v.ownBlock := by
  obtain ⟨ht, i, hi, hz, hsz, hby, hzs⟩ := hT
  obtain ⟨v', w', hr, ho, hg, _⟩ := run_append_own (P := P) W base t ty e i z s by' ht hi hz hsz hby hzs hs v l.length (l.flatMap enc) h ad 1 c (enc x) (by rw [hf]; omega) hx (h1 x) (by unfold maxLen; omega) hlen hb
  refine ⟨v', w', hr, ?_, hg⟩
  unfold OwnG
  rw [List.length_append, List.flatMap_append]
  simpa using ho
theorem wpList_append_G {α : Type} {enc : α → List Value} {s by' : Nat} {z : Value} {P : Program} {t e : TypeId} (hT : ElemTy P t e z s by') (hs : 0 < s) (hf : ∀ a, (enc a).length = s) (h1 : ∀ a, ∀ u ∈ enc a, u.oneCell' = true)
    {ops : Array Oper} {rest : List Oper} {o : Oper} {a : Act} {Q : Exit → Act → World → Prop} (hgd : o.guard = none) (sl x : Operand)
    (ho : o.op = .call { callee := .builtin .append, args := #[sl, x], argTypes := #[t, t] })
    {W : World} {base : Nat} {v : Value} {l : List α} (y : α) {ad : Addr} {c : Nat} (hsl : a.eval sl = v) (hxe : a.eval x = .slice (some ad) 1 c) (h : OwnG enc s W base e v l)
    (hx : ∀ j u, (enc y)[j]? = some u → W.cell? (ad.add j) = some u) (hlen : (l.length + 1) * by' ≤ 140737488355328) (hl2 : l.length < 140737488355328) (hb : base ≤ W.heap.size)
    (hk : ∀ v' w', OwnG enc s w' base e v' (l ++ [y]) → W.grownBy w' v.ownBlock → wpList P ops Q rest (a.put o.dst v') w') : wpList P ops Q (o :: rest) a W := by
  refine wpList_plain hgd fun K hK => ?_
  obtain ⟨v', w', hr, h1, h2⟩ := run_append_G hT hs hf h1 o.type h hx hlen hl2 hb
  unfold Oper.wp execOp
  simp only [ho, resolve, invoke, builtin, Sem.run_bind, Sem.run_pure, Result.andThen_ok, List.map_toArray, List.map_cons, List.map_nil, hsl, hxe]
  rw [hr]
  exact hK _ _ (hk _ _ h1 h2)

/-- Integers. -/
def encI (n : Int) : List Value := [.int .i64 n]
abbrev OwnI (w : World) (base e : Nat) (v : Value) (l : List Int) : Prop := OwnG encI 1 w base e v l
theorem encI_len (n : Int) : (encI n).length = 1 := rfl
theorem encI_one (n : Int) : ∀ u ∈ encI n, u.oneCell' = true := by intro u hu; simp [encI] at hu; subst hu; rfl
end Go.VBase

/- status's laws: heard. -/
namespace Go.Proofs.Ytcdaelgnankmfaa.VSta
open Go.RowKit Go.VBase Go.VRg Go.VSeq Go.VPlan VPlan Go.VOct VOct VCst Go.Proofs.Ytcdaelgnankmfaa.VCrc _root_.Go.VCrc VMsg

def encCs (c : CsD) : List Value := [.int .i64 c.1, .int .i64 c.2.1, .int .i64 c.2.2.1, .int .u16 c.2.2.2]
theorem encCs_len (c : CsD) : (encCs c).length = 4 := rfl
theorem encCs_one (c : CsD) : ∀ u ∈ encCs c, u.oneCell' = true := by
  intro u hu
  simp [encCs] at hu
  rcases hu with rfl | rfl | rfl | rfl <;> rfl
theorem csSl : ElemTy Try.prog 48 25 (.agg #[.int .i64 0, .int .i64 0, .int .i64 0, .int .u16 0]) 4 32 := by
  obtain ⟨i, h0, h1, h2, h3⟩ := info_parts (P := Try.prog) (e := 25) (z := .agg #[.int .i64 0, .int .i64 0, .int .i64 0, .int .u16 0]) (size := 4) (bytes := 32) (by kernel_rfl)
  exact ⟨Try.underlying48, i, h0, h1, h2, h3, rfl⟩
theorem looks_of_own {w : World} {base : Nat} {v : Value} {l : List CsD} (h : OwnG encCs 4 w base 25 v l) : LooksE w v l := by
  have h0 := h
  rcases h.2 with ⟨rfl, hl⟩ | ⟨g, cap, cur, rfl, hg, hgg, hn, hcm, hcs, ht⟩
  · have : l = [] := List.eq_nil_of_length_eq_zero hl
    subst this
    exact ⟨none, 0, rfl, Nat.le_refl _, Nat.zero_le _, fun i x hx => by simp at hx⟩
  · refine ⟨_, cap, rfl, hn, hcm, fun i x hx => ⟨g, 0, rfl, ?_⟩⟩
    have hc := fun k u (hk : (encCs x)[k]? = some u) => (OwnG.cell encCs_len h0 hx hk).2.2
    rw [Nat.zero_add]
    exact ⟨hc 0 _ rfl, hc 1 _ rfl, hc 2 _ rfl, hc 3 _ rfl⟩
/-- A slice reads as these vectors. -/
def VecE (w : World) (v : Value) (l : List Int) : Prop :=
  ∃ a cap, v = .slice a l.length cap ∧ ∀ (i : Nat) (x : Int), l[i]? = some x → ∃ b off, a = some ⟨b, off, none⟩ ∧ w.cell? ⟨b, off + i, none⟩ = some (.int .u16 x)
theorem VecE.ext {w w' : World} {v : Value} {l : List Int} (h : VecE w v l) (e : Ext w w') : VecE w' v l := by
  obtain ⟨a, cap, h1, h4⟩ := h
  refine ⟨a, cap, h1, fun i x hx => ?_⟩
  obtain ⟨b, off, h5, h6⟩ := h4 i x hx
  exact ⟨b, off, h5, e.cell h6⟩
theorem cellNew {w : World} {C : Array Value} {t : TypeId} {n i : Nat} {v : Value} (hn : n = w.heap.size) (hv : C[i]? = some v) : (w.alloc (.cells C t)).cell? ⟨n, i, none⟩ = some v := by
  subst hn
  exact (cell_of_row _ _ i _ _ _ (heap_alloc_new w (.cells C t))).trans hv
def lookD (r s v : Int) : CsD := (r, s, 0, v)
def heardS (p : PlanD) (r s : Int) (vl : List Int) (raw : List UInt8) (x : Int) : StaD :=
  if (judS p r s (vl.map (lookD r s)) raw x).2 = 0 then (judS p r s (vl.map (lookD r s)) raw x).1 else sta0 (-1)
attribute [local go_sem] Oper.semAt_some
set_option maxRecDepth 100000 in
set_option maxHeartbeats 8000000 in
theorem heard_calls (p : PlanD) (r s x : Int) (raw : List UInt8) (rv vv : Value) (vl : List Int) (w : World) (hraw : Bys w rv raw) (hrl : raw.length ≤ 100000) (hV : VecE w vv vl) (hl : vl.length ≤ 1000) (hvl : ∀ v ∈ vl, 0 ≤ v ∧ v < 65536) :
    Calls Try.prog 16 #[planV p, plV r s, rv, .int .i64 x, vv] w fun e w' =>
      ∃ sl : Sl3, e = .returned (.agg (staC (heardS p r s vl raw x) (slV sl))) ∧ OwnB w' w.heap.size TB (slV sl) (heardS p r s vl raw x).f.b ∧ Ext w w' := by
  have kJ := fun va vc W h hL => stJudge_calls p r s (vl.map (lookD r s)) va vc raw rv x W h hrl hL (by rw [List.length_map]; exact hl) (fun c hc => by
    obtain ⟨v, hv, rfl⟩ := List.mem_map.1 hc
    exact hvl v hv)
  rw [List.length_map] at kJ
  have kL := fun v W => look_calls r s v W
  obtain ⟨ra, rc, rfl⟩ : ∃ a c, rv = .slice a raw.length c := by obtain ⟨a, c, h, _⟩ := hraw; exact ⟨a, c, h⟩
  obtain ⟨H, hH⟩ : ∃ H, heardS p r s vl raw x = H := ⟨_, rfl⟩
  rw [hH]
  unfold heardS at hH
  generalize judS p r s (vl.map (lookD r s)) raw x = X at *
  have HX := Lib.hid hH
  clear hH
  have x0 := ((Ext.alloc w (.cells (planC p) 35)).thenAlloc (.cells #[.int .i64 r, .int .i64 s] 37)).thenAlloc (.cells #[.int .i64 0, .int .i64 0, .int .i64 0, .int .i64 0, .int .i64 0, .int .i64 0, .int .i64 0, .int .u16 0, .slice none 0 0] TSta)
  have r0 := ((Ext.alloc _ (.cells #[.int .i64 r, .int .i64 s] 37)).thenAlloc (.cells #[.int .i64 0, .int .i64 0, .int .i64 0, .int .i64 0, .int .i64 0, .int .i64 0, .int .i64 0, .int .u16 0, .slice none 0 0] TSta)).block (heap_alloc_new w (.cells (planC p) 35))
  have r1 := (Ext.alloc _ (.cells #[.int .i64 0, .int .i64 0, .int .i64 0, .int .i64 0, .int .i64 0, .int .i64 0, .int .i64 0, .int .u16 0, .slice none 0 0] TSta)).block (heap_alloc_at (w.alloc (.cells (planC p) 35)) (.cells #[.int .i64 r, .int .i64 s] 37) (n := w.heap.size + 1) (by simp))
  have r2 := heap_alloc_at ((w.alloc (.cells (planC p) 35)).alloc (.cells #[.int .i64 r, .int .i64 s] 37)) (.cells #[.int .i64 0, .int .i64 0, .int .i64 0, .int .i64 0, .int .i64 0, .int .i64 0, .int .i64 0, .int .u16 0, .slice none 0 0] TSta) (n := w.heap.size + 2) (by simp)
  obtain ⟨W0, hW0⟩ : ∃ W0, W0 = ((w.alloc (.cells (planC p) 35)).alloc (.cells #[.int .i64 r, .int .i64 s] 37)).alloc (.cells #[.int .i64 0, .int .i64 0, .int .i64 0, .int .i64 0, .int .i64 0, .int .i64 0, .int .i64 0, .int .u16 0, .slice none 0 0] TSta) := ⟨_, rfl⟩
  rw [← hW0] at r0 r1 r2 x0
  have H0 := Lib.hid hW0
  clear hW0
  have hV0 := hV.ext x0
  have hR0 := hraw.ext x0
  clear hraw hV hvl hrl
  obtain ⟨va, vc, rfl, hop⟩ := hV0
  have HOP := Lib.hid hop
  clear hop
  unfold plV at kL ⊢
  unfold planV planC at ⊢
  go_enter Try.func16, Try.ntmps16
  refine wp_seq_k fun K hK => ?_
  have HK := Lib.hid hK
  clear hK
  go_wp2_with fail
  refine HK.out _ _ ?_
  clear HK
  show Code.wp _ _ _ _ (((w.alloc (.cells (planC p) 35)).alloc (.cells #[.int .i64 r, .int .i64 s] 37)).alloc (.cells #[.int .i64 0, .int .i64 0, .int .i64 0, .int .i64 0, .int .i64 0, .int .i64 0, .int .i64 0, .int .u16 0, .slice none 0 0] TSta))
  rw [← H0.out]
  clear H0
  go_wp2_with fail
  go_loopw [11, 13, 18] (fun sl _ i wr => ∃ j : Nat, j ≤ vl.length ∧ i = .int .i64 (j : Int) ∧ OwnG encCs 4 wr W0.heap.size 25 sl ((vl.take j).map (lookD r s)) ∧ Ext W0 wr) (fun _ _ i _ => vl.length - (intOf i).toNat)
  case atStart => exact ⟨0, Nat.zero_le _, rfl, OwnG.nil _ _ _, Ext.refl _⟩
  case round =>
    obtain ⟨j, hj, rfl, hO, hE⟩ := hrel
    by_cases hlt : j < vl.length
    · obtain ⟨v, hv⟩ := get_some hlt
      obtain ⟨b, off, rfl, d0⟩ := HOP.out j v hv
      have hjw : (j : Int) < (vl.length : Int) := by omega
      have d1 := hE.cell d0
      have e0 : wr.cell? ⟨w.heap.size + 1, 0, none⟩ = some (.int .i64 r) := cell_of_row _ _ 0 _ _ _ (hE.block r1)
      have e1 : wr.cell? ⟨w.heap.size + 1, 1, none⟩ = some (.int .i64 s) := cell_of_row _ _ 1 _ _ _ (hE.block r1)
      obtain ⟨mva, mvc, rfl⟩ := hO.slice
      have hml : ((vl.take j).map (lookD r s)).length = j := by simp; omega
      rw [hml] at hO ⊢
      have HV := Lib.hid hv
      clear d0 hv
      go_wp2_with fail
      refine (kL v _).mono ?_
      rintro e w2 ⟨rfl, h2⟩
      have hE2 := hE.trans h2
      have hO2 := hO.ext h2
      clear e0 e1 d1 h2
      have HL := Lib.hid (And.intro hml hl)
      have hbs : W0.heap.size ≤ w2.heap.size := hE2.size
      clear hml hl
      go_wp2_with (at_builtin; go_loud (refine wpList_append_G csSl (by decide) encCs_len encCs_one rfl _ _ rfl (lookD r s v) (by rfl) (by rfl) (hO2.alloc _) ?hx ?hl ?hl2 ?hb ?hk))
      case hx =>
        intro i u hi
        have hi4 : i < 4 := (List.getElem?_eq_some_iff.1 hi).1
        match i, hi with
        | 0, hi => simp [encCs, lookD] at hi; subst hi; exact cellNew (i := 0) (by simp) rfl
        | 1, hi => simp [encCs, lookD] at hi; subst hi; exact cellNew (i := 1) (by simp) rfl
        | 2, hi => simp [encCs, lookD] at hi; subst hi; exact cellNew (i := 2) (by simp) rfl
        | 3, hi => simp [encCs, lookD] at hi; subst hi; exact cellNew (i := 3) (by simp) rfl
      case hl => have := HL.out; omega
      case hl2 => have := HL.out; omega
      case hb => exact Nat.le_trans hbs (by simp)
      case hk =>
      intro v' w' ho hg
      have hEw : Ext W0 w' := (hE2.thenAlloc _).below.trans (grown_below hg (hE2.thenAlloc _).size hO.lt)
      obtain ⟨va', vc', rfl⟩ := ho.slice
      have HF := Lib.hid hEw
      clear hEw hg hO hO2 hE2 hE
      have hl9 := HL.out.2
      go_wp2_with fail
      go_roundw
      case rel =>
        refine ⟨j + 1, by omega, by go_num, ?_, HF.out⟩
        rw [take_snoc HV.out, List.map_append, List.map_take]
        exact ho
      case measure => simp [intOf]; omega
    · have hjl : j = vl.length := by omega
      subst hjl
      rw [List.take_length] at hO
      obtain ⟨mva, mvc, rfl⟩ := hO.slice
      have hLk := looks_of_own hO
      rw [List.length_map] at hLk ⊢
      have hRr := hR0.ext hE
      have kJ2 := kJ _ _ _ hRr hLk
      obtain ⟨Y, c⟩ := X
      have e0 : wr.cell? ⟨w.heap.size + 1, 0, none⟩ = some (.int .i64 r) := cell_of_row _ _ 0 _ _ _ (hE.block r1)
      have e1 : wr.cell? ⟨w.heap.size + 1, 1, none⟩ = some (.int .i64 s) := cell_of_row _ _ 1 _ _ _ (hE.block r1)
      have rp := hE.block r0
      have rq := hE.block r2
      have xw := x0.trans hE
      unfold plV at kJ2
      clear kJ hO hLk hRr hR0 r0 r1 r2 x0 hE hj hlt HOP kL hl
      go_wp2_with (refine loadPlanP rp rfl rfl rfl ?_)
      refine kJ2.mono ?_
      rintro e w3 hJ
      obtain ⟨sl, rfl, hu, h3⟩ := hJ
      have hu3 := hu.mono xw.size
      have x3 := xw.trans h3
      have rq3 := h3.block rq
      have hlt3 : w.heap.size + 2 < w3.heap.size := (Array.getElem?_eq_some_iff.1 rq3).1
      clear kJ2 hu xw h3 rp rq e0 e1
      have ra := heap_alloc_new w3 (.cells #[.int .i64 0, .int .i64 0, .int .i64 0, .int .i64 0, .int .i64 0, .int .i64 0, .int .i64 0, .int .u16 0, .slice none 0 0] TSta)
      have rb := setRow_heap (w3.alloc (.cells #[.int .i64 0, .int .i64 0, .int .i64 0, .int .i64 0, .int .i64 0, .int .i64 0, .int .i64 0, .int .u16 0, .slice none 0 0] TSta)) w3.heap.size _ (staC Y (slV sl)) _ _ ra
      have rc := (setRow_other (w3.alloc (.cells #[.int .i64 0, .int .i64 0, .int .i64 0, .int .i64 0, .int .i64 0, .int .i64 0, .int .i64 0, .int .u16 0, .slice none 0 0] TSta)) w3.heap.size (w.heap.size + 2) (staC Y (slV sl)) (by omega)).trans ((Ext.alloc w3 _).block rq3)
      have xe : Ext w3 ((w3.alloc (.cells #[.int .i64 0, .int .i64 0, .int .i64 0, .int .i64 0, .int .i64 0, .int .i64 0, .int .i64 0, .int .u16 0, .slice none 0 0] TSta)).setRow w3.heap.size (staC Y (slV sl))) := (Ext.alloc _ _).setRow (Nat.le_refl _) _
      have xf := x3.trans xe
      have hue := hu3.ext xe
      clear x3 rq3 hu3 xe
      by_cases hc : c = 0
      · subst hc
        have hy : H = Y := HX.out.symm
        subst hy
        have rd := setRow_heap _ (w.heap.size + 2) _ (staC H (slV sl)) _ _ rc
        have HE := Lib.hid (And.intro (own_turn hue (own_type hue rc (by decide)) (fun k hk => setRow_other _ _ (cs := staC H (slV sl)) _ hk)) (xf.setRow (g := w.heap.size + 2) (by omega) (staC H (slV sl))))
        clear hue xf HX
        go_wp2_with (first | (refine storeStaB (m := H) (sl := sl) ra rfl rfl rfl rfl rfl ?_; clear ra) | (refine loadStaB rb rfl rfl rfl ?_; clear rb) | refine storeStaB (m := H) (sl := sl) rc rfl rfl rfl rfl rfl ?_)
        refine bodyPost_ret (results_cell_row rfl _ _ (w.heap.size + 2) _ _ _ _ (by rfl) rd Try.underlying30 rfl (by kernel_rfl)) rfl ?_
        exact ⟨sl, rfl, HE.out.1, HE.out.2⟩
      · have hy : H = sta0 (-1) := by have := HX.out; rw [if_neg hc] at this; exact this.symm
        subst hy
        have hd : (c != 0) = true := bne_iff_ne.2 hc
        have rd := setRow_heap _ (w.heap.size + 2) _ (staC (sta0 (-1)) (slV (none, 0, 0))) _ _ rc
        have HE := Lib.hid (xf.setRow (g := w.heap.size + 2) (by omega) (staC (sta0 (-1)) (slV (none, 0, 0))))
        clear hue xf HX rb
        go_wp2_with (first | (refine storeStaB (m := Y) (sl := sl) ra rfl rfl rfl rfl rfl ?_; clear ra) | refine storeStaB (m := sta0 (-1)) (sl := (none, 0, 0)) rc rfl rfl rfl rfl rfl ?_)
        refine bodyPost_ret (results_cell_row rfl _ _ (w.heap.size + 2) _ _ _ _ (by rfl) rd Try.underlying30 rfl (by kernel_rfl)) rfl ?_
        exact ⟨(none, 0, 0), rfl, OwnB.nil _ _ _, HE.out⟩
end Go.Proofs.Ytcdaelgnankmfaa.VSta

/- A region whose order Go leaves open, with a chain of calls that turn memory, and boxes that are made in it: the boxes are unlike one another, whatever the order, and the state may speak of them. No program in sight. -/
namespace Go.VRg
open Go.RowKit

theorem CInv.re {P : Program} {ops : Array Oper} {R : World → World → Prop} {Ps : List (Nat × Kind R)} {C : List Nat} {S S' : List Value → World → Prop} {a₀ : Act} {w₀ : World} {listed : Array Bool} {σ : Nat → Value} {a : Act} {W : World}
    (I : CInv P ops R Ps C S a₀ w₀ listed σ a W) (h : ∃ m, m ≤ C.length ∧ (∀ (i c : Nat), C[i]? = some c → (listed.getD c false = true ↔ i < m)) ∧ S' ((C.take m).map (effVal Ps σ)) W) : CInv P ops R Ps C S' a₀ w₀ listed σ a W :=
  ⟨I.far, I.size, I.closed, I.frame, I.post, h⟩
theorem Fresh.new {Fs : List Nat} {listed : Array Bool} {σ : Nat → Value} {W W' : World} {i : Nat} (hfr : Fresh Fs listed σ W) (hg : W.heap.size ≤ W'.heap.size) (v : Value) (hnew : i ∈ Fs → v = .pointer (some ⟨W.heap.size, 0, none⟩) ∧ W.heap.size < W'.heap.size) :
    Fresh Fs (listed.setIfInBounds i true) (fun k => if k = i then v else σ k) W' := by
  intro k hk hlk
  have hset : ∀ k, k ≠ i → (listed.setIfInBounds i true).getD k false = listed.getD k false := fun k hk => getD_set_ne false (Ne.symm hk)
  by_cases hki : k = i
  · subst hki
    obtain ⟨hv1, hv2⟩ := hnew hk
    refine ⟨W.heap.size, by simp [hv1], hv2, fun j hj hjk hlj => ?_⟩
    rw [hset j hjk] at hlj
    obtain ⟨b, hb, hlt', _⟩ := hfr j hj hlj
    simp only [hjk, if_false, if_true, hb, hv1]
    intro e
    cases e
    omega
  · rw [hset k hki] at hlk
    obtain ⟨b, hb, hlt', hd⟩ := hfr k hk hlk
    refine ⟨b, by simp [hki, hb], by omega, fun j hj hjk hlj => ?_⟩
    by_cases hji : j = i
    · subst hji
      obtain ⟨hv1, hv2⟩ := hnew hj
      simp only [hki, if_false, if_true, hb, hv1]
      intro e
      cases e
      omega
    · rw [hset j hji] at hlj
      simp only [hki, hji, if_false]
      exact hd j hj hjk hlj
theorem Fresh.pure {Fs : List Nat} {listed : Array Bool} {σ : Nat → Value} {W : World} {i : Nat} (hfr : Fresh Fs listed σ W) (hi : i ∉ Fs) : Fresh Fs (listed.setIfInBounds i true) σ W := by
  intro k hk hlk
  have hki : k ≠ i := fun e => hi (e ▸ hk)
  have hset : ∀ k, k ≠ i → (listed.setIfInBounds i true).getD k false = listed.getD k false := fun k hk => getD_set_ne false (Ne.symm hk)
  rw [hset k hki] at hlk
  obtain ⟨b, hb, hlt', hd⟩ := hfr k hk hlk
  refine ⟨b, hb, hlt', fun j hj hjk hlj => ?_⟩
  rw [hset j (fun e => hi (e ▸ hj))] at hlj
  exact hd j hj hjk hlj

section
variable (P : Program) (ops : Array Oper) (R N : World → World → Prop) (Ps : List (Nat × Kind R)) (C Fs : List Nat) (S : (Nat → Value) → List Value → World → Prop) (a₀ : Act) (w₀ : World)
/-- An operation with an effect: one of the chain carries the state on; any other one leaves it. -/
def CEffB (σ : Nat → Value) (k : Nat) (o : Oper) (a : Act) : Prop :=
  ∀ W, R w₀ W → (∀ j, isEff Ps j = true → Path ops j k → postOf Ps j (effVal Ps σ j) W) →
    (∀ i ∈ Fs, ∀ j ∈ Fs, Path ops i k → Path ops j k → i ≠ j → σ i ≠ σ j) → ∀ m, (∀ (i c : Nat), C[i]? = some c → Path ops c k → i < m) → S σ ((C.take m).map (effVal Ps σ)) W →
      (k ∉ C → want ops o a = true ∧ EffOut P N (postOf Ps k) W ((execOp a.eval o).run P W)) ∧
      (C[m]? = some k → want ops o a = true ∧ EffOut P R (fun v W' => postOf Ps k v W' ∧ S σ ((C.take m).map (effVal Ps σ) ++ [v]) W') W ((execOp a.eval o).run P W))

/-- The obligations, in the order of the text. -/
def CGB (Q : Exit → Act → World → Prop) (σ : Nat → Value) : List Oper → Nat → Act → Prop
  | [], _, a => ∀ W, R w₀ W → (∀ j, isEff Ps j = true → j < ops.size → postOf Ps j (effVal Ps σ j) W) → S σ (C.map (effVal Ps σ)) W → Apart Fs ops.size σ → Q .normal a W
  | o :: rest, k, a =>
    if isEff Ps k = true then CEffB P ops R N Ps C Fs S w₀ σ k o a ∧ CGB Q σ rest (k + 1) (a.put o.dst (effVal Ps σ k))
    else ∃ x, PureOb P ops R w₀ o a x ∧ CGB Q σ rest (k + 1) (a.put o.dst x)
end

section
variable {P : Program} {ops : Array Oper} {R N : World → World → Prop} {Ps : List (Nat × Kind R)} {C Fs : List Nat} {S : (Nat → Value) → List Value → World → Prop} {a₀ : Act} {w₀ : World}

theorem CGB.at {Q : Exit → Act → World → Prop} (hr : R w₀ w₀) (σ : Nat → Value) : ∀ (rest : List Oper) (k : Nat), ops.toList.drop k = rest → CGB P ops R N Ps C Fs S w₀ Q σ rest k (fr P ops R Ps a₀ w₀ σ k) →
    (∀ i o, k ≤ i → ops[i]? = some o →
      (isEff Ps i = true → CEffB P ops R N Ps C Fs S w₀ σ i o (fr P ops R Ps a₀ w₀ σ i)) ∧
      (isEff Ps i = false → PureOb P ops R w₀ o (fr P ops R Ps a₀ w₀ σ i) (val P ops R Ps a₀ w₀ σ i))) ∧
    (∀ W, R w₀ W → (∀ j, isEff Ps j = true → j < ops.size → postOf Ps j (effVal Ps σ j) W) → S σ (C.map (effVal Ps σ)) W → Apart Fs ops.size σ → Q .normal (fr P ops R Ps a₀ w₀ σ ops.size) W) := by
  intro rest
  induction rest with
  | nil =>
    intro k hk h
    have hsz : ops.size ≤ k := by
      have := congrArg List.length hk
      simp at this; omega
    have hfr : ∀ m, fr P ops R Ps a₀ w₀ σ (ops.size + m) = fr P ops R Ps a₀ w₀ σ ops.size := by
      intro m
      induction m with
      | zero => rfl
      | succ m ih =>
        show fr P ops R Ps a₀ w₀ σ ((ops.size + m) + 1) = _
        rw [← ih]
        simp only [fr]
        rw [Array.getElem?_eq_none (by omega)]
    refine ⟨fun i o hi ho => ?_, ?_⟩
    · rw [Array.getElem?_eq_none (by omega)] at ho; cases ho
    · have e : k = ops.size + (k - ops.size) := by omega
      rw [e, hfr] at h
      exact h
  | cons o rest ih =>
    intro k hk h
    have ho : ops[k]? = some o := by
      rw [← Array.getElem?_toList]
      have := congrArg (fun l => l[0]?) hk
      simpa using this
    have hdrop : ops.toList.drop (k + 1) = rest := by
      rw [← List.drop_drop, hk]; rfl
    have hval : ∀ x, val P ops R Ps a₀ w₀ σ k = x → CGB P ops R N Ps C Fs S w₀ Q σ rest (k + 1) ((fr P ops R Ps a₀ w₀ σ k).put o.dst x) → CGB P ops R N Ps C Fs S w₀ Q σ rest (k + 1) (fr P ops R Ps a₀ w₀ σ (k + 1)) := by
      intro x hx hh; rw [fr_succ σ ho, hx]; exact hh
    unfold CGB at h
    by_cases he : isEff Ps k = true
    · rw [if_pos he] at h
      have hv : val P ops R Ps a₀ w₀ σ k = effVal Ps σ k := by simp only [val, ho, he, if_true]
      obtain ⟨h1, h2⟩ := ih (k + 1) hdrop (hval _ hv h.2)
      refine ⟨fun i oi hi hoi => ?_, h2⟩
      by_cases hik : i = k
      · subst hik
        rw [ho] at hoi; cases hoi
        exact ⟨fun _ => h.1, fun hf => by rw [he] at hf; cases hf⟩
      · exact h1 i oi (by omega) hoi
    · rw [if_neg he] at h
      obtain ⟨x, hp, hrest⟩ := h
      have hv : val P ops R Ps a₀ w₀ σ k = x := by
        simp only [val, ho, if_neg he]; exact hp.val_eq hr
      obtain ⟨h1, h2⟩ := ih (k + 1) hdrop (hval _ hv hrest)
      refine ⟨fun i oi hi hoi => ?_, h2⟩
      by_cases hik : i = k
      · subst hik
        rw [ho] at hoi; cases hoi
        exact ⟨fun ht => absurd ht he, fun _ => by rw [hv]; exact hp⟩
      · exact h1 i oi (by omega) hoi

theorem run_chainB (F : Fine ops) (hL : noLast Ps = true) (hC : chainOk ops Ps C = true) (hsub : ∀ a b, N a b → R a b) (hSN : ∀ σ vs W W', N W W' → S σ vs W → S σ vs W') (hgrow : ∀ a b, R a b → a.heap.size ≤ b.heap.size) (hFs : ∀ i ∈ Fs, isEff Ps i = true ∧ i ∉ C ∧ ∀ o, ops[i]? = some o → ∃ ob, ∀ (a : Act) (W : World), (execOp a.eval o).run P W = .ok (.value (.pointer (some ⟨W.heap.size, 0, none⟩))) (W.alloc ob))
    (hdep : ∀ σ τ vs W, (∀ (j c i : Nat), C[i]? = some c → i < vs.length → ahead (masks ops) j c = true → σ j = τ j) → S σ vs W → S τ vs W) (hCs : ∀ c ∈ C, c < ops.size) (hrefl : ∀ W, R W W) (htr : ∀ a b c, R a b → R b c → R a c) {Q : Exit → Act → World → Prop}
    (H : ∀ σ, CGB P ops R N Ps C Fs S w₀ Q σ ops.toList 0 a₀) : ∀ (fuel : Nat) (listed : Array Bool) (σ : Nat → Value) (a : Act) (W : World),
      ((List.range ops.size).filter fun i => !listed.getD i false).length ≤ fuel → CInv P ops R Ps C (S σ) a₀ w₀ listed σ a W → Fresh Fs listed σ W → wpAny P .any ops Q fuel listed a W := by
  have hdone : ∀ (listed : Array Bool) (σ : Nat → Value) (a : Act) (W : World), CInv P ops R Ps C (S σ) a₀ w₀ listed σ a W → Fresh Fs listed σ W → Region.ready .any ops listed = [] → Q .normal a W := by
    intro listed σ a W I hfr hnone
    have hall : ∀ i, i < ops.size → listed.getD i false = true := by
      intro i
      induction i using Nat.strongRecOn with
      | _ i ih =>
        intro hi
        cases hl : listed.getD i false with
        | true => rfl
        | false =>
          have ho : ops[i]? = some ops[i] := by simp
          have hmem : i ∈ Region.ready .any ops listed := by
            rw [mem_ready]
            refine ⟨?_, _, ho, fun e he hb => ?_⟩
            · have h1 : i < listed.size := by rw [I.size]; exact hi
              simpa [h1] using hl
            · have := F.back _ _ _ ho he hb
              exact ih _ this (by omega)
          rw [hnone] at hmem; cases hmem
    have h2 := (CGB.at (hrefl w₀) σ ops.toList 0 rfl (H σ)).2 W I.far (fun j hj hlt => I.post j hj (hall j hlt)) (by
      obtain ⟨m, hm, hmi, hS⟩ := I.state
      have : m = C.length := by
        rcases Nat.lt_or_ge m C.length with h | h
        · have h1 : C[m]? = some C[m] := by simp [h]
          have := (hmi m _ h1).1 (hall _ (hCs _ (List.getElem_mem h)))
          omega
        · omega
      subst this
      rwa [List.take_length] at hS) (fun i hi j hj hin hjn hne => by
      obtain ⟨b, _, _, h3⟩ := hfr i hi (hall i hin)
      exact fun e => h3 j hj (fun e2 => hne e2.symm) (hall j hjn) e.symm)
    rw [fr_puts σ ops.size (Nat.le_refl _)] at h2
    rw [I.frame]
    have : wr (val P ops R Ps a₀ w₀ σ) ops.size (fun i => listed.getD i false) ops = wr (val P ops R Ps a₀ w₀ σ) ops.size (fun _ => true) ops :=
      wr_congr _ (Nat.le_refl _) fun i hi => ⟨hall i hi, fun _ => rfl⟩
    rw [this]; exact h2
  intro fuel
  induction fuel with
  | zero =>
    intro listed σ a W hf I hfr
    have hnone : Region.ready .any ops listed = [] := by
      apply List.eq_nil_iff_forall_not_mem.2
      intro i hi
      obtain ⟨hun, o, ho, _⟩ := mem_ready.1 hi
      have hlt : i < ops.size := (Array.getElem?_eq_some_iff.1 ho).1
      have : i ∈ (List.range ops.size).filter fun i => !listed.getD i false := by
        rw [List.mem_filter, List.mem_range]
        refine ⟨hlt, ?_⟩
        have h1 : i < listed.size := by rw [I.size]; exact hlt
        have : listed.getD i false = false := by simpa [h1] using hun
        rw [this]; rfl
      have hlen := List.length_pos_of_mem this
      omega
    exact ⟨hnone, hdone listed σ a W I hfr hnone⟩
  | succ fuel ih =>
    intro listed σ a W hf I hfr
    refine ⟨hdone listed σ a W I hfr, fun i hr => ?_⟩
    obtain ⟨hun, o, ho, hall⟩ := mem_ready.1 hr
    have hlt : i < ops.size := (Array.getElem?_eq_some_iff.1 ho).1
    have hunf : listed.getD i false = false := by
      have h1 : i < listed.size := by rw [I.size]; exact hlt
      simpa [h1] using hun
    have hag := I.agree F ho hr
    have hpl : ∀ k, Path ops k i → listed.getD k false = true := by
      intro k hk
      cases hk with
      | one h1 he hb hj => rw [ho] at h1; cases h1; subst hj; exact hall _ he hb
      | more h1 he hb h => rw [ho] at h1; cases h1; exact I.path h (hall _ he hb)
    have hfuel : ((List.range ops.size).filter fun k => !(listed.setIfInBounds i true).getD k false).length ≤ fuel := by
      have hsub : ((List.range ops.size).filter fun k => !(listed.setIfInBounds i true).getD k false) = (((List.range ops.size).filter fun k => !listed.getD k false)).filter (fun k => k != i) := by
        rw [List.filter_filter]
        apply List.filter_congr
        intro k _
        by_cases hki : k = i
        · subst hki
          have h1 : k < listed.size := by rw [I.size]; exact hlt
          simp [h1]
        · rw [getD_set_ne false (Ne.symm hki)]; simp [hki]
      rw [hsub]
      have hmem : i ∈ (List.range ops.size).filter fun k => !listed.getD k false := by
        rw [List.mem_filter, List.mem_range]; exact ⟨hlt, by rw [hunf]; rfl⟩
      have hlt2 : (((List.range ops.size).filter fun k => !listed.getD k false).filter (fun k => k != i)).length < ((List.range ops.size).filter fun k => !listed.getD k false).length := by
        rw [List.length_filter_lt_length_iff_exists]
        exact ⟨i, hmem, by simp⟩
      omega
    obtain ⟨hE, hPu⟩ := (CGB.at (hrefl w₀) σ ops.toList 0 rfl (H σ)).1 i o (Nat.zero_le _) ho
    unfold wpOp
    simp only [ho]
    cases he : isEff Ps i with
    | true =>
      obtain ⟨m, hm, hmi, hS⟩ := I.state
      have hEi := hE he W I.far (fun j hj hp => I.post j hj (hpl j hp)) (fun i' hi' j' hj' p1 p2 hne => by
        obtain ⟨b, _, _, h3⟩ := hfr i' hi' (hpl i' p1)
        exact fun e => h3 j' hj' (fun e2 => hne e2.symm) (hpl j' p2) e.symm) m (fun k c hk hp => (hmi k c hk).1 (hpl c hp)) hS
      have hex := exec_agree (F.plain i o ho) hag
      have hfre : ∀ (j c : Nat), (listed.setIfInBounds i true).getD c false = true → ahead (masks ops) j c = true → j ≠ i := fun j c hc ha e => by
        have hp := path_of_ahead ha
        by_cases hci : c = i
        · subst hci; subst e; exact absurd (Path.lt F hp) (Nat.lt_irrefl _)
        · rw [getD_set_ne false (Ne.symm hci)] at hc
          have := I.path hp hc
          rw [e, hunf] at this; cases this
      have conv : ∀ (v : Value) (a' : Act) (W' : World), CInv P ops R Ps C (S σ) a₀ w₀ (listed.setIfInBounds i true) (fun k => if k = i then v else σ k) a' W' → CInv P ops R Ps C (S fun k => if k = i then v else σ k) a₀ w₀ (listed.setIfInBounds i true) (fun k => if k = i then v else σ k) a' W' := fun v a' W' I' => I'.re (by
        obtain ⟨m', hm', hmi', hS'⟩ := I'.state
        refine ⟨m', hm', hmi', hdep σ _ _ _ (fun j c i' hc hlt ha => ?_) hS'⟩
        have hlt2 : i' < m' := by rw [List.length_map, List.length_take] at hlt; omega
        have hji := hfre j c ((hmi' i' c hc).2 hlt2) ha
        simp [hji])
      have hwantA := want_agree (o := o) hag
      unfold want at hwantA
      by_cases hin : i ∈ C
      · obtain ⟨k, hk⟩ := List.mem_iff_getElem?.1 hin
        have hkm : k = m := by
          have h1 : ¬ k < m := fun h => by have := (hmi k i hk).2 h; rw [hunf] at this; cases this
          rcases Nat.lt_or_ge m k with h | h
          · have hml : m < C.length := Nat.lt_of_lt_of_le h (Nat.le_of_lt (List.getElem?_eq_some_iff.1 hk).1)
            have h2 : C[m]? = some C[m] := by simp [hml]
            have := (hmi m _ h2).1 (hpl _ (chain_path hC h h2 hk))
            omega
          · omega
        subst hkm
        obtain ⟨hw1, hEo⟩ := hEi.2 hk
        have hw : Region.wanted o (yielded ops a.tmps) = true := by rw [← hwantA]; unfold want at hw1; exact hw1
        rw [if_pos hw]
        refine .inl ?_
        unfold Oper.wp
        rw [← hex]
        refine effOut_upon hEo fun v W' hRW hp => ?_
        have hτ : ∀ j, j ≠ i → (fun k => if k = i then v else σ k) j = σ j := fun j hj => by simp [hj]
        have hev : effVal Ps (fun k => if k = i then v else σ k) i = v := effVal_of_post hp.1 he _ (by simp)
        have hnd : ∀ (j c : Nat), C[j]? = some c → j ≠ k → c ≠ i := fun j c hj hne e => by
          subst e
          rcases Nat.lt_or_ge j k with h | h
          · exact absurd (Path.lt F (chain_path hC h hj hk)) (Nat.lt_irrefl _)
          · exact absurd (Path.lt F (chain_path hC (show k < j by omega) hk hj)) (Nat.lt_irrefl _)
        have hlsz : i < listed.size := by rw [I.size]; exact hlt
        have I' := I.step F hL htr ho hr (τ := fun k => if k = i then v else σ k) hτ hRW (fun _ => by rw [hev]; exact hp.1) (fun h => by rw [he] at h; cases h) ⟨k + 1, (List.getElem?_eq_some_iff.1 hk).1, fun j c hj => by
            by_cases hjk : j = k
            · subst hjk; rw [hk] at hj; cases hj
              simp [hlsz]
            · have hci := hnd j c hj hjk
              rw [getD_set_ne false (Ne.symm hci), hmi j c hj]
              omega, by
            rw [List.take_add_one, hk, Option.toList_some, List.map_append, List.map_cons, List.map_nil, hev]
            have : (C.take k).map (effVal Ps fun k => if k = i then v else σ k) = (C.take k).map (effVal Ps σ) := by
              apply List.map_congr_left
              intro c hc
              obtain ⟨j, hj⟩ := List.mem_iff_getElem?.1 hc
              have hjl := (List.getElem?_eq_some_iff.1 hj).1
              rw [List.length_take] at hjl
              rw [List.getElem?_take_of_lt (by omega)] at hj
              exact effVal_congr (hτ c (hnd j c hj (by omega)))
            rw [this]; exact hp.2⟩
        have hv : val P ops R Ps a₀ w₀ (fun k => if k = i then v else σ k) i = v := by
          simp only [val, ho, he, if_true]; exact hev
        rw [hv] at I'
        exact ih _ _ _ _ hfuel (conv _ _ _ I') (hfr.new (hgrow _ _ hRW) v (fun hf => absurd hin (hFs i hf).2.1))
      · obtain ⟨hw1, hEo⟩ := hEi.1 hin
        have hw : Region.wanted o (yielded ops a.tmps) = true := by rw [← hwantA]; unfold want at hw1; exact hw1
        rw [if_pos hw]
        refine .inl ?_
        unfold Oper.wp
        rw [← hex]
        have fin : ∀ v W', N W W' → postOf Ps i v W' → (i ∈ Fs → v = .pointer (some ⟨W.heap.size, 0, none⟩) ∧ W.heap.size < W'.heap.size) → wpAny P .any ops Q fuel (listed.setIfInBounds i true) (a.put o.dst v) W' := by
          intro v W' hRW hp hnew
          have hτ : ∀ j, j ≠ i → (fun k => if k = i then v else σ k) j = σ j := fun j hj => by simp [hj]
          have hev : effVal Ps (fun k => if k = i then v else σ k) i = v := effVal_of_post hp he _ (by simp)
          have I' := I.step F hL htr ho hr (τ := fun k => if k = i then v else σ k) hτ (hsub _ _ hRW) (fun _ => by rw [hev]; exact hp) (fun h => by rw [he] at h; cases h) ⟨m, hm, fun j c hj => by
              have hci : c ≠ i := fun e => hin (e ▸ List.mem_of_getElem? hj)
              rw [getD_set_ne false (Ne.symm hci), hmi j c hj], by
              have : (C.take m).map (effVal Ps fun k => if k = i then v else σ k) = (C.take m).map (effVal Ps σ) := by
                apply List.map_congr_left
                intro c hc
                have hci : c ≠ i := fun e => hin (e ▸ List.mem_of_mem_take hc)
                exact effVal_congr (hτ c hci)
              rw [this]; exact hSN _ _ _ _ hRW hS⟩
          have hv : val P ops R Ps a₀ w₀ (fun k => if k = i then v else σ k) i = v := by
            simp only [val, ho, he, if_true]; exact hev
          rw [hv] at I'
          exact ih _ _ _ _ hfuel (conv _ _ _ I') (hfr.new (hgrow _ _ (hsub _ _ hRW)) v hnew)
        by_cases hif : i ∈ Fs
        · obtain ⟨ob, hob⟩ := (hFs i hif).2.2 o ho
          have h2 := hEo
          rw [hob] at h2 ⊢
          exact fin _ _ h2.1 h2.2 fun _ => ⟨rfl, by simp⟩
        · exact effOut_upon hEo fun v W' hRW hp => fin v W' hRW hp fun h => absurd h hif
    | false =>
      have hP := hPu he
      have hex := exec_agree (F.plain i o ho) hag
      have hwant := want_agree (o := o) hag
      unfold want at hwant
      have I' := I.step F hL htr ho hr (τ := σ) (fun _ _ => rfl) (hrefl W) (fun h => by rw [he] at h; cases h) (fun _ => rfl) (by
        obtain ⟨m, hm, hmi, hS⟩ := I.state
        refine ⟨m, hm, fun j c hj => ?_, hS⟩
        have hci : c ≠ i := fun e => by
          have := chain_eff hC c (List.mem_of_getElem? hj)
          rw [e, he] at this; cases this
        rw [getD_set_ne false (Ne.symm hci), hmi j c hj])
      have hnext := ih _ _ _ _ hfuel I' (hfr.pure (fun hf => by have := (hFs i hf).1; rw [he] at this; cases this))
      rcases hP with ⟨h1, h2⟩ | ⟨h1, h2⟩
      · unfold want at h1
        rw [if_pos (by rw [← hwant]; exact h1)]
        refine .inl ?_
        unfold Oper.wp
        rw [← hex, h2 W I.far]
        exact hnext
      · unfold want at h1
        rw [if_neg (by rw [← hwant, h1]; simp), ← h2]
        exact hnext

end
/-- Before the region's own law. 'N': what an effect outside of the chain does; 'R': what any does; 'S': the state behind the chain's values so far. -/
theorem any_chainB {P : Program} {ops : Array Oper} {a : Act} {w : World} {Q : Exit → Act → World → Prop} (R N : World → World → Prop) (Ps : List (Nat × Kind R)) (C Fs : List Nat) (S : (Nat → Value) → List Value → World → Prop)
    (hf : fine ops = true) (hL : noLast Ps = true) (hC : (chainOk ops Ps C && C.all (fun c => decide (c < ops.size))) = true) (hsub : ∀ a b, N a b → R a b) (hSN : ∀ σ vs W W', N W W' → S σ vs W → S σ vs W') (hgrow : ∀ a b, R a b → a.heap.size ≤ b.heap.size) (hFs : ∀ i ∈ Fs, isEff Ps i = true ∧ i ∉ C ∧ ∀ o, ops[i]? = some o → ∃ ob, ∀ (a : Act) (W : World), (execOp a.eval o).run P W = .ok (.value (.pointer (some ⟨W.heap.size, 0, none⟩))) (W.alloc ob))
    (hdep : ∀ σ τ vs W, (∀ (j c i : Nat), C[i]? = some c → i < vs.length → ahead (masks ops) j c = true → σ j = τ j) → S σ vs W → S τ vs W) (hrefl : ∀ W, R W W) (htr : ∀ a b c, R a b → R b c → R a c) (h0 : ∀ σ, S σ [] w)
    (H : ∀ σ, CGB P ops R N Ps C Fs S w Q σ ops.toList 0 a) : wpAny P .any ops Q ops.size (Array.replicate ops.size false) a w := by
  simp only [Bool.and_eq_true, List.all_eq_true, decide_eq_true_eq] at hC
  refine run_chainB (a₀ := a) (w₀ := w) (Fine.of hf) hL hC.1 hsub hSN hgrow hFs hdep hC.2 hrefl htr H ops.size _ (fun _ => undef) a _ ?_ ?_ ?_
  · exact Nat.le_trans (List.length_filter_le _ _) (by simp)
  · refine ⟨hrefl _, by simp, ?_, ?_, ?_, ⟨0, Nat.zero_le _, fun i c _ => ?_, h0 _⟩⟩
    · intro i o e h
      simp [Array.getElem?_replicate] at h
      split at h <;> simp at h
    · have : wr (val P ops R Ps a w fun _ => undef) ops.size (fun i => (Array.replicate ops.size false).getD i false) ops = [] := by
        unfold wr
        rw [List.map_eq_nil_iff, List.filter_eq_nil_iff]
        intro x _
        simp [Array.getElem?_replicate]
        split <;> simp
      rw [this]; rfl
    · intro j _ h
      simp [Array.getElem?_replicate] at h
      split at h <;> simp at h
    · rw [getD_replicate_false]; simp
  · intro i _ h
    rw [getD_replicate_false] at h; cases h

/-- THE LAW. -/
theorem wp_region_chainB {P : Program} {ops : Array Oper} {id : Nat} {a : Act} {w : World} {Q : Exit → Act → World → Prop} (R N : World → World → Prop) (Ps : List (Nat × Kind R)) (C Fs : List Nat) (S : (Nat → Value) → List Value → World → Prop)
    (hm : P.follows .mixedOrders = true) (hf : fine ops = true) (hL : noLast Ps = true) (hC : (chainOk ops Ps C && C.all (fun c => decide (c < ops.size))) = true) (hsub : ∀ a b, N a b → R a b) (hSN : ∀ σ vs W W', N W W' → S σ vs W → S σ vs W') (hgrow : ∀ a b, R a b → a.heap.size ≤ b.heap.size) (hFs : ∀ i ∈ Fs, isEff Ps i = true ∧ i ∉ C ∧ ∀ o, ops[i]? = some o → ∃ ob, ∀ (a : Act) (W : World), (execOp a.eval o).run P W = .ok (.value (.pointer (some ⟨W.heap.size, 0, none⟩))) (W.alloc ob))
    (hdep : ∀ σ τ vs W, (∀ (j c i : Nat), C[i]? = some c → i < vs.length → ahead (masks ops) j c = true → σ j = τ j) → S σ vs W → S τ vs W) (hrefl : ∀ W, R W W) (htr : ∀ a b c, R a b → R b c → R a c) (h0 : ∀ σ, S σ [] w.drew)
    (H : ∀ σ, CGB P ops R N Ps C Fs S w.drew Q σ ops.toList 0 a) : (Code.region id ops true).wp P Q a w :=
  wp_region_any hm (any_chainB R N Ps C Fs S hf hL hC hsub hSN hgrow hFs hdep hrefl htr h0 H)

/-! ### The moves -/
section
variable {P : Program} {ops : Array Oper} {R N : World → World → Prop} {Ps : List (Nat × Kind R)} {C Fs : List Nat} {S : (Nat → Value) → List Value → World → Prop} {w₀ : World} {Q : Exit → Act → World → Prop} {σ : Nat → Value} {o : Oper} {rest : List Oper} {k : Nat} {a : Act}

theorem cb_pure {x : Value} (he : isEff Ps k = false) (hw : want ops o a = true) (h : ∀ W, R w₀ W → (execOp a.eval o).run P W = .ok (.value x) W)
    (hn : CGB P ops R N Ps C Fs S w₀ Q σ rest (k + 1) (a.put o.dst x)) : CGB P ops R N Ps C Fs S w₀ Q σ (o :: rest) k a := by
  unfold CGB; rw [if_neg (by rw [he]; decide)]; exact ⟨x, .inl ⟨hw, h⟩, hn⟩
theorem cb_skip (he : isEff Ps k = false) (hw : want ops o a = false) (hn : CGB P ops R N Ps C Fs S w₀ Q σ rest (k + 1) (a.put o.dst undef)) : CGB P ops R N Ps C Fs S w₀ Q σ (o :: rest) k a := by
  unfold CGB; rw [if_neg (by rw [he]; decide)]; exact ⟨undef, .inr ⟨hw, rfl⟩, hn⟩
/-- One outside of the chain, whose value is told. -/
theorem cb_known {x : Value} (hl : Ps.lookup k = some (.known x)) (hk : C.contains k = false) (hw : want ops o a = true)
    (h : ∀ W, R w₀ W → (∀ j p hs, Ps.lookup j = some (.unk p hs) → ahead (masks ops) j k = true → p (σ j) W) → (∃ m, (∀ (i c : Nat), C[i]? = some c → ahead (masks ops) c k = true → i < m) ∧ S σ ((C.take m).map (effVal Ps σ)) W) → EffOut P N (fun v _ => v = x) W ((execOp a.eval o).run P W))
    (hn : CGB P ops R N Ps C Fs S w₀ Q σ rest (k + 1) (a.put o.dst x)) : CGB P ops R N Ps C Fs S w₀ Q σ (o :: rest) k a := by
  have he : isEff Ps k = true := by unfold isEff; rw [hl]; rfl
  have hk' : k ∉ C := fun h => by simp [h] at hk
  unfold CGB; rw [if_pos he]
  refine ⟨fun W hW hF _ m hm hS => ⟨fun _ => ⟨hw, ?_⟩, fun hc => absurd (List.mem_of_getElem? hc) hk'⟩, ?_⟩
  · have := h W hW (facts_of hF) ⟨m, fun i c hi hp => hm i c hi (path_of_ahead hp), hS⟩
    have e : postOf Ps k = fun v _ => v = x := by funext v w; unfold postOf; rw [hl]
    rw [e]; exact this
  · have e : effVal Ps σ k = x := by unfold effVal; rw [hl]
    rw [e]; exact hn
theorem cb_unk {p : Value → World → Prop} {hs : ∀ v W W', R W W' → p v W → p v W'} (hl : Ps.lookup k = some (.unk p hs)) (hk : C.contains k = false) (hw : want ops o a = true)
    (h : ∀ W, R w₀ W → (∀ j p hs, Ps.lookup j = some (.unk p hs) → ahead (masks ops) j k = true → p (σ j) W) → (∃ m, (∀ (i c : Nat), C[i]? = some c → ahead (masks ops) c k = true → i < m) ∧ S σ ((C.take m).map (effVal Ps σ)) W) → EffOut P N p W ((execOp a.eval o).run P W))
    (hn : CGB P ops R N Ps C Fs S w₀ Q σ rest (k + 1) (a.put o.dst (σ k))) : CGB P ops R N Ps C Fs S w₀ Q σ (o :: rest) k a := by
  have he : isEff Ps k = true := by unfold isEff; rw [hl]; rfl
  have hk' : k ∉ C := fun h => by simp [h] at hk
  unfold CGB; rw [if_pos he]
  refine ⟨fun W hW hF _ m hm hS => ⟨fun _ => ⟨hw, ?_⟩, fun hc => absurd (List.mem_of_getElem? hc) hk'⟩, ?_⟩
  · have := h W hW (facts_of hF) ⟨m, fun i c hi hp => hm i c hi (path_of_ahead hp), hS⟩
    have e : postOf Ps k = p := by funext v w; unfold postOf; rw [hl]
    rw [e]; exact this
  · have e : effVal Ps σ k = σ k := by unfold effVal; rw [hl]
    rw [e]; exact hn
/-- One of the chain, whose value is told. -/
theorem cb_call {x : Value} (m : Nat) {vs : List Value} (hl : Ps.lookup k = some (.known x)) (hm : C[m]? = some k) (hd : C.Nodup) (hv : (C.take m).map (effVal Ps σ) = vs) (hw : want ops o a = true)
    (h : ∀ W, R w₀ W → (∀ j p hs, Ps.lookup j = some (.unk p hs) → ahead (masks ops) j k = true → p (σ j) W) → (∀ i ∈ Fs, ∀ j ∈ Fs, ahead (masks ops) i k = true → ahead (masks ops) j k = true → i ≠ j → σ i ≠ σ j) → S σ vs W → EffOut P R (fun v W' => v = x ∧ S σ (vs ++ [x]) W') W ((execOp a.eval o).run P W))
    (hn : CGB P ops R N Ps C Fs S w₀ Q σ rest (k + 1) (a.put o.dst x)) : CGB P ops R N Ps C Fs S w₀ Q σ (o :: rest) k a := by
  have he : isEff Ps k = true := by unfold isEff; rw [hl]; rfl
  subst hv
  unfold CGB; rw [if_pos he]
  refine ⟨fun W hW hF hA m' hm' hS => ⟨fun hk => absurd (List.mem_of_getElem? hm) hk, fun hc => ⟨hw, ?_⟩⟩, ?_⟩
  · obtain rfl := nodup_get hd hm hc
    have := h W hW (facts_of hF) (fun i hi j hj p1 p2 hne => hA i hi j hj (path_of_ahead p1) (path_of_ahead p2) hne) hS
    have e : postOf Ps k = fun v _ => v = x := by funext v w; unfold postOf; rw [hl]
    rw [e]
    have e2 : (fun v W' => v = x ∧ S σ ((C.take m).map (effVal Ps σ) ++ [v]) W') = (fun v W' => v = x ∧ S σ ((C.take m).map (effVal Ps σ) ++ [x]) W') := by
      funext v W'; apply propext; constructor <;> (rintro ⟨rfl, h'⟩; exact ⟨rfl, h'⟩)
    rw [e2]; exact this
  · have e : effVal Ps σ k = x := by unfold effVal; rw [hl]
    rw [e]; exact hn
/-- One of the chain, of whose value something is told. -/
theorem cb_call' {p : Value → World → Prop} {hs : ∀ v W W', R W W' → p v W → p v W'} (m : Nat) {vs : List Value} (hl : Ps.lookup k = some (.unk p hs)) (hm : C[m]? = some k) (hd : C.Nodup) (hv : (C.take m).map (effVal Ps σ) = vs) (hw : want ops o a = true)
    (h : ∀ W, R w₀ W → (∀ j p hs, Ps.lookup j = some (.unk p hs) → ahead (masks ops) j k = true → p (σ j) W) → (∀ i ∈ Fs, ∀ j ∈ Fs, ahead (masks ops) i k = true → ahead (masks ops) j k = true → i ≠ j → σ i ≠ σ j) → S σ vs W → EffOut P R (fun v W' => p v W' ∧ S σ (vs ++ [v]) W') W ((execOp a.eval o).run P W))
    (hn : CGB P ops R N Ps C Fs S w₀ Q σ rest (k + 1) (a.put o.dst (σ k))) : CGB P ops R N Ps C Fs S w₀ Q σ (o :: rest) k a := by
  have he : isEff Ps k = true := by unfold isEff; rw [hl]; rfl
  subst hv
  unfold CGB; rw [if_pos he]
  refine ⟨fun W hW hF hA m' hm' hS => ⟨fun hk => absurd (List.mem_of_getElem? hm) hk, fun hc => ⟨hw, ?_⟩⟩, ?_⟩
  · obtain rfl := nodup_get hd hm hc
    have := h W hW (facts_of hF) (fun i hi j hj p1 p2 hne => hA i hi j hj (path_of_ahead p1) (path_of_ahead p2) hne) hS
    have e : postOf Ps k = p := by funext v w; unfold postOf; rw [hl]
    rw [e]; exact this
  · have e : effVal Ps σ k = σ k := by unfold effVal; rw [hl]
    rw [e]; exact hn
theorem cb_done {vs : List Value} (hv : C.map (effVal Ps σ) = vs) (h : ∀ W, R w₀ W → (∀ j p hs, Ps.lookup j = some (.unk p hs) → j < ops.size → p (σ j) W) → Apart Fs ops.size σ → S σ vs W → Q .normal a W) : CGB P ops R N Ps C Fs S w₀ Q σ [] k a := by
  subst hv
  unfold CGB
  intro W hW hF hS hA
  refine h W hW (fun j p hs hl hj => ?_) hA hS
  have := hF j (by unfold isEff; rw [hl]; rfl) hj
  unfold postOf effVal at this
  rw [hl] at this
  exact this
end

end Go.VRg

/- status's laws: alive. -/
namespace Go.Proofs.Ytcdaelgnankmfaa.VSta
open Go.RowKit Go.VBase Go.VRg Go.VSeq Go.VPlan VPlan Go.VOct VOct VCst Go.Proofs.Ytcdaelgnankmfaa.VCrc _root_.Go.VCrc VMsg

def rawA : List UInt8 := (encF (madeF 2 0 0 0 15 [])).getD []
def heA : StaD := heardS leastP 0 0 [15] rawA 250
def heB : StaD := heardS leastP 0 0 [7] rawA 251
def heC : StaD := heardS leastP 0 0 [15] rawA 400
theorem rawA_len : rawA.length ≤ 1000 := by decide +kernel
theorem heA_is : heA.k = 3 ∧ heA.l = 2 ∧ heA.d = 0 ∧ heA.f.r = 0 ∧ heA.f.s = 0 ∧ heA.f.m = 0 ∧ heA.f.v = 15 := by decide +kernel
theorem heB_is : heB.k = 2 ∧ heB.l = 1 ∧ heB.d = 1 := by decide +kernel
theorem heC_is : heC.k = 1 := by decide +kernel

/-- What a step of 'a, b, c := heard(), heard(), heard()' may do. -/
def StR (n : Nat) (A B : World) : Prop :=
  A.heap.size ≤ B.heap.size ∧ (n ≤ A.heap.size → Below n A B) ∧ (∀ (k : Nat) (o : Obj), A.heap[k]? = some o → (∀ c, o ≠ .cells c TSta) → B.heap[k]? = some o) ∧
    (∀ (k : Nat) (c : Array Value), A.heap[k]? = some (.cells c TSta) → c.size = 9 → ∃ c' : Array Value, c'.size = 9 ∧ B.heap[k]? = some (.cells c' TSta))
theorem StR.refl (n : Nat) (A : World) : StR n A A := ⟨Nat.le_refl _, fun _ => Below.refl _ _, fun _ _ h _ => h, fun _ c h hc => ⟨c, hc, h⟩⟩
theorem StR.trans {n : Nat} {A B C : World} (h : StR n A B) (k : StR n B C) : StR n A C :=
  ⟨Nat.le_trans h.1 k.1, fun hn => Below.trans (h.2.1 hn) (k.2.1 (Nat.le_trans hn h.1)), fun i o hi ho => k.2.2.1 i o (h.2.2.1 i o hi ho) ho, fun i c hi hc => by
    obtain ⟨c1, h1, h2⟩ := h.2.2.2 i c hi hc
    exact k.2.2.2 i c1 h2 h1⟩
theorem StR.ext {n : Nat} {A B : World} (h : Ext A B) : StR n A B :=
  ⟨h.size, fun hn => Below.mono h hn, fun _ _ hk _ => h.block hk, fun _ c hk hc => ⟨c, hc, h.block hk⟩⟩
theorem StR.set {n b : Nat} {A : World} {c c' : Array Value} (hn : n ≤ b) (h : A.heap[b]? = some (.cells c TSta)) (hc : c'.size = 9) : StR n A (A.setRow b c') := by
  refine ⟨by simp, fun _ => ⟨rfl, rfl, rfl, by simp, fun k hk => setRow_other _ _ _ _ (by omega)⟩, fun k o hk ho => ?_, fun k d hk hd => ?_⟩
  · by_cases e : k = b
    · subst e; rw [h] at hk; cases hk; exact absurd rfl (ho c)
    · exact (setRow_other _ _ _ _ e).trans hk
  · by_cases e : k = b
    · subst e; exact ⟨c', hc, setRow_heap _ _ _ _ _ _ h⟩
    · exact ⟨d, hd, (setRow_other _ _ _ _ e).trans hk⟩
/-- A box of a status's cells. -/
def StBox (n : Nat) (v : Value) (W : World) : Prop := ∃ (b : Nat) (c : Array Value), v = .pointer (some ⟨b, 0, none⟩) ∧ n ≤ b ∧ c.size = 9 ∧ W.heap[b]? = some (.cells c TSta)
theorem StBox.keep {n m : Nat} (v : Value) (W W' : World) (h : StR n W W') : StBox m v W → StBox m v W' := by
  rintro ⟨b, c, h1, h2, h3, h4⟩
  obtain ⟨c', h5, h6⟩ := h.2.2.2 b c h4 h3
  exact ⟨b, c', h1, h2, h5, h6⟩
/-- A slice of one vector. -/
def VecB (z : Int) (v : Value) (W : World) : Prop := ∃ b, v = .slice (some ⟨b, 0, none⟩) 1 1 ∧ W.heap[b]? = some (.cells #[.int .u16 z] 23)
theorem VecB.keep {n : Nat} {z : Int} (v : Value) (W W' : World) (h : StR n W W') : VecB z v W → VecB z v W' := by
  rintro ⟨b, h1, h2⟩
  exact ⟨b, h1, h.2.2.1 b _ h2 (fun c e => by cases e)⟩
theorem VecB.vec {z : Int} {v : Value} {W : World} (h : VecB z v W) : VecE W v [z] := by
  obtain ⟨b, rfl, h2⟩ := h
  refine ⟨_, 1, rfl, fun i x hx => ⟨b, 0, rfl, ?_⟩⟩
  match i, hx with
  | 0, hx => cases hx; exact cell_of_row W b 0 _ _ _ h2
def StVal (X : StaD) (v : Value) (_ : World) : Prop := ∃ sl : Sl3, v = .agg (staC X (slV sl))
/-- A box that holds this status. -/
def StHas (n : Nat) (X : StaD) (v : Value) (W : World) : Prop := ∃ (b : Nat) (sl : Sl3), v = .pointer (some ⟨b, 0, none⟩) ∧ n ≤ b ∧ W.heap[b]? = some (.cells (staC X (slV sl)) TSta)
theorem StHas.ext {n : Nat} {X : StaD} {v : Value} {W W' : World} (h : StHas n X v W) (e : Ext W W') : StHas n X v W' := by
  obtain ⟨b, sl, h1, h2, h3⟩ := h
  exact ⟨b, sl, h1, h2, e.block h3⟩
def LiS (n : Nat) (σ : Nat → Value) (vs : List Value) (W : World) : Prop :=
  (4 ≤ vs.length → StHas n heA (σ 15) W) ∧ (5 ≤ vs.length → StHas n heB (σ 16) W) ∧ (6 ≤ vs.length → StHas n heC (σ 17) W)
theorem exec_loadPlanE {W : World} {o : Oper} {a : Act} {t : Tmp} {b : Nat} {p : PlanD} {T : TypeId} {mk : Nat × Nat} (h : W.heap[b]? = some (.cells (planC p) T mk)) (ho : o.op = .load 35 (.tmp t)) (hx : a.eval (.tmp t) = .pointer (some ⟨b, 0, none⟩)) :
    (execOp a.eval o).run Try.prog W = .ok (.value (planV p)) W := by
  unfold execOp
  simp only [ho, hx, Instr.loadAt, Instr.sureAddr, Sem.run_bind, Sem.run_pure, Result.andThen_ok, run_loadVar_row W b T 35 (planC p) mk _ h Try.underlying35 rfl (by kernel_rfl)]
  rfl
theorem exec_storeStaE {W : World} {o : Oper} {a : Act} {t t' : Tmp} {b : Nat} {m : StaD} {sl : Sl3} {old : Array Value} {T' : TypeId} (h : W.heap[b]? = some (.cells old T')) (hold : old.size = 9) (ho : o.op = .store 30 (.tmp t) (.tmp t')) (hx : a.eval (.tmp t) = .pointer (some ⟨b, 0, none⟩)) (hy : a.eval (.tmp t') = .agg (staC m (slV sl))) :
    (execOp a.eval o).run Try.prog W = .ok .skip (W.setRow b (staC m (slV sl))) := by
  unfold execOp
  simp only [ho, hx, hy, Instr.storeAt, Instr.sureAddr, Sem.run_bind, Sem.run_pure, Result.andThen_ok, run_storeVar_row (P := Try.prog) W b T' 30 old (staC m (slV sl)) h (by kernel_rfl) (by rw [hold]; rfl) (by unfold staC slV; simp [Value.oneCell'])]
theorem eff_storeStaE {R : World → World → Prop} {q : Value → World → Prop} {W : World} {o : Oper} {a : Act} {t t' : Tmp} {b : Nat} {m : StaD} {sl : Sl3} {old : Array Value} {T' : TypeId} (h : W.heap[b]? = some (.cells old T')) (hold : old.size = 9) (ho : o.op = .store 30 (.tmp t) (.tmp t')) (hx : a.eval (.tmp t) = .pointer (some ⟨b, 0, none⟩)) (hy : a.eval (.tmp t') = .agg (staC m (slV sl)))
    (hR : R W (W.setRow b (staC m (slV sl)))) (hq : q undef (W.setRow b (staC m (slV sl)))) : EffOut Try.prog R q W ((execOp a.eval o).run Try.prog W) := by
  rw [exec_storeStaE h hold ho hx hy]; exact ⟨hR, hq⟩
theorem LiS.low (n : Nat) (σ : Nat → Value) (vs : List Value) (W : World) (h : vs.length ≤ 3) : LiS n σ vs W := ⟨fun k => by omega, fun k => by omega, fun k => by omega⟩
theorem LiS.ext {n : Nat} {σ : Nat → Value} {vs : List Value} {W W' : World} (h : LiS n σ vs W) (e : Ext W W') : LiS n σ vs W' := ⟨fun k => (h.1 k).ext e, fun k => (h.2.1 k).ext e, fun k => (h.2.2 k).ext e⟩
/-- Another box is filled. -/
theorem StHas.set {n b : Nat} {X : StaD} {v : Value} {W : World} {c : Array Value} (h : StHas n X v W) (hne : v ≠ .pointer (some ⟨b, 0, none⟩)) : StHas n X v (W.setRow b c) := by
  obtain ⟨b', sl, rfl, h2, h3⟩ := h
  exact ⟨b', sl, rfl, h2, (setRow_other _ _ _ _ (fun e => hne (by rw [e]))).trans h3⟩
theorem StHas.mk' {n b : Nat} {X : StaD} {sl : Sl3} {v : Value} {W : World} {c : Array Value} (hn : n ≤ b) (h : W.heap[b]? = some (.cells c TSta)) (hv : v = .pointer (some ⟨b, 0, none⟩)) : StHas n X v (W.setRow b (staC X (slV sl))) :=
  ⟨b, sl, hv, hn, setRow_heap _ _ _ _ _ _ h⟩
set_option maxRecDepth 100000 in
set_option maxHeartbeats 8000000 in
theorem stAlive_calls (w : World) : Calls Try.prog 11 #[] w fun e w' => e = .returned (.bool true) ∧ Ext w w' := by
  have kP := fun W => least_calls W
  have kL := fun r s v W => look_calls r s v W
  have kM := fun W => made_calls 2 0 0 0 15 [] (none, 0, 0) W (Bys.nil W) (by decide) (by decide)
  have hRA : (encF (madeF 2 0 0 0 15 [])).getD [] = rawA := rfl
  rw [hRA] at kM
  unfold MadeB at kM
  clear hRA
  have kA := fun q vv W h1 h2 => heard_calls leastP 0 0 250 rawA q vv [15] W h1 (Nat.le_trans rawA_len (by decide)) h2 (by decide) (by decide)
  have kB := fun q vv W h1 h2 => heard_calls leastP 0 0 251 rawA q vv [7] W h1 (Nat.le_trans rawA_len (by decide)) h2 (by decide) (by decide)
  have kC := fun q vv W h1 h2 => heard_calls leastP 0 0 400 rawA q vv [15] W h1 (Nat.le_trans rawA_len (by decide)) h2 (by decide) (by decide)
  rw [show heardS leastP 0 0 [15] rawA 250 = heA from rfl] at kA
  rw [show heardS leastP 0 0 [7] rawA 251 = heB from rfl] at kB
  rw [show heardS leastP 0 0 [15] rawA 400 = heC from rfl] at kC
  unfold plV at kA kB kC
  generalize hD : leastP = D at *
  have HD := Lib.hid hD
  clear hD
  unfold plV at kL
  unfold slV at kM
  simp only at kM
  go_enter Try.func11, Try.ntmps11
  go_wp2_with fail
  refine (kP _).mono ?_
  rintro e w1 ⟨rfl, x1⟩
  have ra := (Ext.alloc _ (.cells #[.int .i64 0, .int .i64 0] 37)).block (heap_alloc_new w1 (.cells (planC zeroD) 35))
  have rb := heap_alloc_at (w1.alloc (.cells (planC zeroD) 35)) (.cells #[.int .i64 0, .int .i64 0] 37) (n := w1.heap.size + 1) (by simp)
  have sa := setRow_heap _ w1.heap.size _ (planC D) _ _ ra
  have sb := (setRow_other _ w1.heap.size (w1.heap.size + 1) (planC D) (by omega)).trans rb
  have ta := (setRow_other _ (w1.heap.size + 1) w1.heap.size #[.int .i64 0, .int .i64 0] (by omega)).trans sa
  have tb := setRow_heap _ (w1.heap.size + 1) _ #[.int .i64 0, .int .i64 0] _ _ sb
  have xE : Ext w ((((w1.alloc (.cells (planC zeroD) 35)).alloc (.cells #[.int .i64 0, .int .i64 0] 37)).setRow w1.heap.size (planC D)).setRow (w1.heap.size + 1) #[.int .i64 0, .int .i64 0]) :=
    (((x1.thenAlloc _).thenAlloc _).setRow x1.size _).setRow (g := w1.heap.size + 1) (Nat.le_succ_of_le x1.size) _
  clear kP rb sa
  go_wp2_with (first | (refine storePlan (p := D) ra rfl rfl rfl rfl ?_; clear ra) | (refine wpList_store_row rfl _ _ _ rfl (w1.heap.size + 1) #[.int .i64 0, .int .i64 0] rfl rfl _ _ sb (by kernel_rfl) rfl (by simp [Value.oneCell']) ?_; clear sb) | (refine wpList_load_row rfl _ _ rfl (w1.heap.size + 1) rfl _ _ _ _ tb Try.underlying37 rfl (by kernel_rfl) ?_))
  refine (kL 0 0 15 _).mono ?_
  rintro e w2 ⟨rfl, h2⟩
  have x2 := xE.trans h2
  have ua := h2.block ta
  have ub := h2.block tb
  clear xE h2 ta tb x1
  go_wp2_with fail
  refine (kM _).mono ?_
  rintro e w3 ⟨u, rfl, hu, h3⟩
  have x3 := x2.trans h3
  have va := h3.block ua
  have vb := h3.block ub
  have hRaw := hu.bys (Nat.le_trans rawA_len (by decide))
  obtain ⟨ra, rc, rfl⟩ := hu.slice
  clear x2 h3 ua ub hu kM
  go_wp2_with fail
  have hap : ∀ W, StR w3.heap.size w3.drew W → W.heap[w1.heap.size]? = some (.cells (planC D) 35) ∧ W.heap[w1.heap.size + 1]? = some (.cells #[.int .i64 0, .int .i64 0] 37) := fun W hW =>
    ⟨hW.2.2.1 _ _ va (fun c e => by cases e), hW.2.2.1 _ _ vb (fun c e => by cases e)⟩
  have kr : ∀ W, StR w3.heap.size w3.drew W → W.heap[w1.heap.size]? = some (.cells (planC D) 35) ∧ W.cell? ⟨w1.heap.size + 1, 0, none⟩ = some (.int .i64 0) ∧ W.cell? ⟨w1.heap.size + 1, 1, none⟩ = some (.int .i64 0) ∧ Bys W (.slice ra rawA.length rc) rawA := fun W hW =>
    ⟨(hap W hW).1, cell_of_row _ _ 0 _ _ _ (hap W hW).2, cell_of_row _ _ 1 _ _ _ (hap W hW).2, hRaw.drew.ext (hW.2.1 (Nat.le_refl _))⟩
  refine wp_region_chainB (StR w3.heap.size) Ext [(3, .unk (VecB 15) VecB.keep), (4, .unk (StVal heA) (fun _ _ _ _ h => h)), (8, .unk (VecB 7) VecB.keep), (9, .unk (StVal heB) (fun _ _ _ _ h => h)), (13, .unk (VecB 15) VecB.keep), (14, .unk (StVal heC) (fun _ _ _ _ h => h)),
      (15, .unk (StBox w3.heap.size) StBox.keep), (16, .unk (StBox w3.heap.size) StBox.keep), (17, .unk (StBox w3.heap.size) StBox.keep), (18, .known undef), (19, .known undef), (20, .known undef)] [4, 9, 14, 18, 19, 20] [15, 16, 17] (LiS w3.heap.size)
    (by kernel_rfl) (by kernel_rfl) (by kernel_rfl) (by kernel_rfl) (fun _ _ h => StR.ext h) (fun _ _ _ _ e h => h.ext e) (fun _ _ h => h.1) ?_ ?_ (StR.refl _) (fun _ _ _ => StR.trans) (fun σ => LiS.low _ _ _ _ (by simp)) ?_
  · intro i hi
    simp at hi
    rcases hi with rfl | rfl | rfl
    · exact ⟨rfl, by decide, fun o ho => by cases ho; exact ⟨_, fun a W => by go_simp; rfl⟩⟩
    · exact ⟨rfl, by decide, fun o ho => by cases ho; exact ⟨_, fun a W => by go_simp; rfl⟩⟩
    · exact ⟨rfl, by decide, fun o ho => by cases ho; exact ⟨_, fun a W => by go_simp; rfl⟩⟩
  · intro σ τ vs W h hS
    refine ⟨fun k => ?_, fun k => ?_, fun k => ?_⟩
    · rw [← h 15 18 3 rfl (by omega) (by kernel_rfl)]; exact hS.1 k
    · rw [← h 16 19 4 rfl (by omega) (by kernel_rfl)]; exact hS.2.1 k
    · rw [← h 17 20 5 rfl (by omega) (by kernel_rfl)]; exact hS.2.2 k
  intro σ
  simp only
  refine cb_pure (x := planV D) rfl (by rfl) (fun W hW => exec_loadPlanE (kr W hW).1 rfl rfl) ?_
  simp only [Nat.reduceAdd, Act.put, List.setIfInBounds_toArray, List.set_cons_zero, List.set_cons_succ]
  refine cb_pure (x := .agg #[.int .i64 0, .int .i64 0]) rfl (by rfl) (fun W hW => by obtain ⟨-, f1, f2, -⟩ := kr W hW; go_simp <;> rfl) ?_
  simp only [Nat.reduceAdd, Act.put, List.setIfInBounds_toArray, List.set_cons_zero, List.set_cons_succ]
  refine cb_pure (x := .slice ra rawA.length rc) rfl (by rfl) (fun W hW => by go_simp <;> rfl) ?_
  simp only [Nat.reduceAdd, Act.put, List.setIfInBounds_toArray, List.set_cons_zero, List.set_cons_succ]
  refine cb_unk rfl (by decide) (by rfl) (fun W hW hF hS => ?_) ?_
  · go_simp; exact ⟨Ext.alloc _ _, _, rfl, heap_alloc_new _ _⟩
  simp only [Nat.reduceAdd, Act.put, List.setIfInBounds_toArray, List.set_cons_zero, List.set_cons_succ]
  refine cb_call' 0 rfl rfl (by decide) rfl (by rfl) (fun W hW hF hA hS => ?_) ?_
  · have hv := (hF 3 _ _ rfl (by kernel_rfl)).vec
    have hb := (kr W hW).2.2.2
    go_simp
    refine (kA _ _ W hb hv).mono ?_
    rintro e W' ⟨sl, rfl, -, hx⟩
    exact ⟨_, rfl, StR.ext hx, ⟨sl, rfl⟩, LiS.low _ _ _ _ (by simp)⟩
  simp only [Nat.reduceAdd, Act.put, List.setIfInBounds_toArray, List.set_cons_zero, List.set_cons_succ]
  refine cb_pure (x := planV D) rfl (by rfl) (fun W hW => exec_loadPlanE (kr W hW).1 rfl rfl) ?_
  simp only [Nat.reduceAdd, Act.put, List.setIfInBounds_toArray, List.set_cons_zero, List.set_cons_succ]
  refine cb_pure (x := .agg #[.int .i64 0, .int .i64 0]) rfl (by rfl) (fun W hW => by obtain ⟨-, f1, f2, -⟩ := kr W hW; go_simp <;> rfl) ?_
  simp only [Nat.reduceAdd, Act.put, List.setIfInBounds_toArray, List.set_cons_zero, List.set_cons_succ]
  refine cb_pure (x := .slice ra rawA.length rc) rfl (by rfl) (fun W hW => by go_simp <;> rfl) ?_
  simp only [Nat.reduceAdd, Act.put, List.setIfInBounds_toArray, List.set_cons_zero, List.set_cons_succ]
  refine cb_unk rfl (by decide) (by rfl) (fun W hW hF hS => ?_) ?_
  · go_simp; exact ⟨Ext.alloc _ _, _, rfl, heap_alloc_new _ _⟩
  simp only [Nat.reduceAdd, Act.put, List.setIfInBounds_toArray, List.set_cons_zero, List.set_cons_succ]
  refine cb_call' 1 rfl rfl (by decide) rfl (by rfl) (fun W hW hF hA hS => ?_) ?_
  · have hv := (hF 8 _ _ rfl (by kernel_rfl)).vec
    have hb := (kr W hW).2.2.2
    go_simp
    refine (kB _ _ W hb hv).mono ?_
    rintro e W' ⟨sl, rfl, -, hx⟩
    exact ⟨_, rfl, StR.ext hx, ⟨sl, rfl⟩, LiS.low _ _ _ _ (by simp)⟩
  simp only [Nat.reduceAdd, Act.put, List.setIfInBounds_toArray, List.set_cons_zero, List.set_cons_succ]
  refine cb_pure (x := planV D) rfl (by rfl) (fun W hW => exec_loadPlanE (kr W hW).1 rfl rfl) ?_
  simp only [Nat.reduceAdd, Act.put, List.setIfInBounds_toArray, List.set_cons_zero, List.set_cons_succ]
  refine cb_pure (x := .agg #[.int .i64 0, .int .i64 0]) rfl (by rfl) (fun W hW => by obtain ⟨-, f1, f2, -⟩ := kr W hW; go_simp <;> rfl) ?_
  simp only [Nat.reduceAdd, Act.put, List.setIfInBounds_toArray, List.set_cons_zero, List.set_cons_succ]
  refine cb_pure (x := .slice ra rawA.length rc) rfl (by rfl) (fun W hW => by go_simp <;> rfl) ?_
  simp only [Nat.reduceAdd, Act.put, List.setIfInBounds_toArray, List.set_cons_zero, List.set_cons_succ]
  refine cb_unk rfl (by decide) (by rfl) (fun W hW hF hS => ?_) ?_
  · go_simp; exact ⟨Ext.alloc _ _, _, rfl, heap_alloc_new _ _⟩
  simp only [Nat.reduceAdd, Act.put, List.setIfInBounds_toArray, List.set_cons_zero, List.set_cons_succ]
  refine cb_call' 2 rfl rfl (by decide) rfl (by rfl) (fun W hW hF hA hS => ?_) ?_
  · have hv := (hF 13 _ _ rfl (by kernel_rfl)).vec
    have hb := (kr W hW).2.2.2
    go_simp
    refine (kC _ _ W hb hv).mono ?_
    rintro e W' ⟨sl, rfl, -, hx⟩
    exact ⟨_, rfl, StR.ext hx, ⟨sl, rfl⟩, LiS.low _ _ _ _ (by simp)⟩
  simp only [Nat.reduceAdd, Act.put, List.setIfInBounds_toArray, List.set_cons_zero, List.set_cons_succ]
  refine cb_unk rfl (by decide) (by rfl) (fun W hW hF hS => ?_) ?_
  · go_simp; exact ⟨Ext.alloc _ _, _, _, rfl, hW.1, rfl, heap_alloc_new _ _⟩
  simp only [Nat.reduceAdd, Act.put, List.setIfInBounds_toArray, List.set_cons_zero, List.set_cons_succ]
  refine cb_unk rfl (by decide) (by rfl) (fun W hW hF hS => ?_) ?_
  · go_simp; exact ⟨Ext.alloc _ _, _, _, rfl, hW.1, rfl, heap_alloc_new _ _⟩
  simp only [Nat.reduceAdd, Act.put, List.setIfInBounds_toArray, List.set_cons_zero, List.set_cons_succ]
  refine cb_unk rfl (by decide) (by rfl) (fun W hW hF hS => ?_) ?_
  · go_simp; exact ⟨Ext.alloc _ _, _, _, rfl, hW.1, rfl, heap_alloc_new _ _⟩
  simp only [Nat.reduceAdd, Act.put, List.setIfInBounds_toArray, List.set_cons_zero, List.set_cons_succ]
  refine cb_call 3 rfl rfl (by decide) rfl (by rfl) (fun W hW hF hA hS => ?_) ?_
  · obtain ⟨b, c, hb, hn, hc, hrow⟩ := hF 15 _ _ rfl (by kernel_rfl)
    obtain ⟨sl, hsl⟩ := hF 4 _ _ rfl (by kernel_rfl)
    exact eff_storeStaE (m := heA) (sl := sl) hrow hc rfl hb hsl (StR.set hn hrow rfl) ⟨rfl, fun _ => StHas.mk' hn hrow hb, fun h => absurd h (by simp), fun h => absurd h (by simp)⟩
  simp only [Nat.reduceAdd, Act.put, List.setIfInBounds_toArray, List.set_cons_zero, List.set_cons_succ]
  refine cb_call 4 rfl rfl (by decide) rfl (by rfl) (fun W hW hF hA hS => ?_) ?_
  · obtain ⟨b, c, hb, hn, hc, hrow⟩ := hF 16 _ _ rfl (by kernel_rfl)
    obtain ⟨sl, hsl⟩ := hF 9 _ _ rfl (by kernel_rfl)
    have a0 : σ 15 ≠ .pointer (some ⟨b, 0, none⟩) := fun e => hA 15 (by decide) 16 (by decide) (by kernel_rfl) (by kernel_rfl) (by decide) (e.trans hb.symm)
    exact eff_storeStaE (m := heB) (sl := sl) hrow hc rfl hb hsl (StR.set hn hrow rfl) ⟨rfl, fun _ => (hS.1 (by simp)).set a0, fun _ => StHas.mk' hn hrow hb, fun h => absurd h (by simp)⟩
  simp only [Nat.reduceAdd, Act.put, List.setIfInBounds_toArray, List.set_cons_zero, List.set_cons_succ]
  refine cb_call 5 rfl rfl (by decide) rfl (by rfl) (fun W hW hF hA hS => ?_) ?_
  · obtain ⟨b, c, hb, hn, hc, hrow⟩ := hF 17 _ _ rfl (by kernel_rfl)
    obtain ⟨sl, hsl⟩ := hF 14 _ _ rfl (by kernel_rfl)
    have a0 : σ 15 ≠ .pointer (some ⟨b, 0, none⟩) := fun e => hA 15 (by decide) 17 (by decide) (by kernel_rfl) (by kernel_rfl) (by decide) (e.trans hb.symm)
    have a1 : σ 16 ≠ .pointer (some ⟨b, 0, none⟩) := fun e => hA 16 (by decide) 17 (by decide) (by kernel_rfl) (by kernel_rfl) (by decide) (e.trans hb.symm)
    exact eff_storeStaE (m := heC) (sl := sl) hrow hc rfl hb hsl (StR.set hn hrow rfl) ⟨rfl, fun _ => (hS.1 (by simp)).set a0, fun _ => (hS.2.1 (by simp)).set a1, fun _ => StHas.mk' hn hrow hb⟩
  simp only [Nat.reduceAdd, Act.put, List.setIfInBounds_toArray, List.set_cons_zero, List.set_cons_succ]
  refine cb_done rfl (fun W4 hW4 hF hA hS => ?_)
  obtain ⟨b1, s1, e1, n1, r1⟩ := hS.1 (by simp)
  obtain ⟨b2, s2, e2, n2, r2⟩ := hS.2.1 (by simp)
  obtain ⟨b3, s3, e3, n3, r3⟩ := hS.2.2 (by simp)
  have hap4 := (hap W4 hW4).2
  have hB4 : Ext w3 W4 := Ext.of_drew (hW4.2.1 (Nat.le_refl _))
  clear hS hA hF hap kr kA kB kC va vb hRaw HD
  simp only [e1, e2, e3]
  obtain ⟨y0, y1, y2, y3, y4, y5, y6⟩ := heA_is
  obtain ⟨z0, z1, z2⟩ := heB_is
  have u0 := heC_is
  unfold staC at r1 r2 r3
  rw [y0, y1, y2, y3, y4, y5, y6] at r1
  rw [z0, z1, z2] at r2
  rw [u0] at r3
  generalize slV s1 = q1 at *
  generalize slV s2 = q2 at *
  generalize slV s3 = q3 at *
  generalize heA.f.k = j1 at *
  generalize heB.f = j2 at *
  generalize heC.l = j3 at *
  generalize heC.d = j4 at *
  generalize heC.f = j5 at *
  clear y0 y1 y2 y3 y4 y5 y6 z0 z1 z2 u0 e1 e2 e3
  generalize hHS : w3.heap.size = hs at *
  go_wp2_with fail
  have k0 : ∀ W, Ext W4.drew W → (W.cell? ⟨b1, 0, none⟩ = some (.int .i64 3) ∧ W.cell? ⟨b1, 1, none⟩ = some (.int .i64 2) ∧ W.cell? ⟨b1, 2, none⟩ = some (.int .i64 0)) ∧ (W.cell? ⟨b1, 4, none⟩ = some (.int .i64 0) ∧ W.cell? ⟨b1, 5, none⟩ = some (.int .i64 0) ∧ W.cell? ⟨b1, 6, none⟩ = some (.int .i64 0) ∧ W.cell? ⟨b1, 7, none⟩ = some (.int .u16 15)) ∧
      (W.cell? ⟨b2, 0, none⟩ = some (.int .i64 2) ∧ W.cell? ⟨b2, 1, none⟩ = some (.int .i64 1) ∧ W.cell? ⟨b2, 2, none⟩ = some (.int .i64 1)) ∧ W.cell? ⟨b3, 0, none⟩ = some (.int .i64 1) ∧ W.cell? ⟨w1.heap.size + 1, 0, none⟩ = some (.int .i64 0) ∧ W.cell? ⟨w1.heap.size + 1, 1, none⟩ = some (.int .i64 0) := fun W h => by
    have t1 := (Ext.of_drew h).block r1
    have t2 := (Ext.of_drew h).block r2
    have t3 := (Ext.of_drew h).block r3
    have t4 := (Ext.of_drew h).block hap4
    exact ⟨⟨cell_of_row _ _ 0 _ _ _ t1, cell_of_row _ _ 1 _ _ _ t1, cell_of_row _ _ 2 _ _ _ t1⟩, ⟨cell_of_row _ _ 4 _ _ _ t1, cell_of_row _ _ 5 _ _ _ t1, cell_of_row _ _ 6 _ _ _ t1, cell_of_row _ _ 7 _ _ _ t1⟩,
      ⟨cell_of_row _ _ 0 _ _ _ t2, cell_of_row _ _ 1 _ _ _ t2, cell_of_row _ _ 2 _ _ _ t2⟩, cell_of_row _ _ 0 _ _ _ t3, cell_of_row _ _ 0 _ _ _ t4, cell_of_row _ _ 1 _ _ _ t4⟩
  refine wp_region_rg Ext [(18, .known (.agg #[.int .i64 0, .int .i64 0, .int .i64 0, .int .u16 15]))] (by kernel_rfl) (by kernel_rfl) (by kernel_rfl) Ext.refl (fun _ _ _ => Ext.trans) ?_
  intro σ2
  simp only
  repeat (refine rg_pure (x := ?_) rfl (by rfl) (fun W hW => ?_) ?_; rotate_left; (· obtain ⟨⟨f0, f1, f2⟩, ⟨f3, f4, f5, f6⟩, ⟨f7, f8, f9⟩, f10, f11, f12⟩ := k0 W hW; go_simp; with_reducible rfl); simp only [Nat.reduceAdd, Act.put, List.setIfInBounds_toArray, List.set_cons_zero, List.set_cons_succ])
  refine rg_known rfl (by rfl) (fun W hW hno => ?_) ?_
  · go_simp
    refine (kL 0 0 15 W).mono ?_
    rintro e W' ⟨rfl, h⟩
    exact ⟨_, rfl, h, rfl⟩
  simp only [Nat.reduceAdd, Act.put, List.setIfInBounds_toArray, List.set_cons_zero, List.set_cons_succ]
  repeat (refine rg_pure (x := ?_) rfl (by rfl) (fun W hW => ?_) ?_; rotate_left; (· obtain ⟨⟨f0, f1, f2⟩, ⟨f3, f4, f5, f6⟩, ⟨f7, f8, f9⟩, f10, f11, f12⟩ := k0 W hW; go_simp; with_reducible rfl); simp only [Nat.reduceAdd, Act.put, List.setIfInBounds_toArray, List.set_cons_zero, List.set_cons_succ])
  refine rg_done fun W hW hno => ?_
  have hEnd := (x3.trans hB4).trans (Ext.of_drew hW)
  clear hno
  go_wp2_with fail
  go_ret
  exact ⟨rfl, hEnd⟩
end Go.Proofs.Ytcdaelgnankmfaa.VSta
