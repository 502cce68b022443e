/- plan: known, least and Fit. -/
import Derived.Test.YtjhhcfadeankfaaVPlanC
import Derived.Laws.ResultCell
namespace Go.Proofs.Ytjhhcfadeankfaa.VPlan
open Go.RowKit Go.VBase Go.VRg Go.VPlan Go.VSeq

theorem loadPlanLw {ops : Array Oper} {rest : List Oper} {o : Oper} {a : Act} {Q : Exit → Act → World → Prop} {W : World} {t : Tmp} {b : Nat} {T' : TypeId} {mk : Nat × Nat} {p : PlanD}
    (h : W.heap[b]? = some (.cells (planC p) T' mk)) (hw : Region.wanted o (yielded ops a.tmps) = true) (ho : o.op = .load 97 (.tmp t)) (hx : a.eval (.tmp t) = .pointer (some ⟨b, 0, none⟩))
    (hk : wpList Try.prog ops Q rest (a.put o.dst (planV p)) W) : wpList Try.prog ops Q (o :: rest) a W :=
  wpList_step fun K hK => by
    simp only [hw, if_true]
    exact wp_load_row _ _ ho _ hx _ _ _ _ h Try.underlying97 rfl (by kernel_rfl) (hK _ _ hk)

set_option maxRecDepth 100000 in
set_option maxHeartbeats 2000000 in
theorem known_calls (p : PlanD) (w : World) : Calls Try.prog 64 #[planV p] w fun e w' => e = .returned (.bool (known p)) ∧ Ext w w' := by
  have kn := fun W => nodes_calls p W
  have ka := fun W => air_calls p W
  have ks := fun W => slot_calls p W
  have hx0 := Ext.alloc w (.cells (planC p) 97)
  have r0 := heap_alloc_new w (.cells (planC p) 97)
  unfold known
  unfold planV planC
  go_enter Try.func64, Try.ntmps64
  go_wp2_with (refine loadPlanL r0 rfl rfl rfl ?_)
  refine (kn _).mono ?_
  rintro e w1 ⟨rfl, h1⟩
  have hx1 := hx0.trans h1
  have r1 := h1.block r0
  clear hx0 r0 h1
  cases hb1 : c1 p with
  | false =>
    go_wp2_with fail
    go_ret
    exact ⟨by simp [hb1], hx1⟩
  | true =>
  go_wp2_with (refine loadPlanLw r1 rfl rfl rfl ?_)
  refine (ka _).mono ?_
  rintro e w2 ⟨rfl, h2⟩
  have hx2 := hx1.trans h2
  have r2 := h2.block r1
  clear hx1 r1 h2
  cases hb2 : c2 p with
  | false =>
    go_wp2_with fail
    go_ret
    exact ⟨by simp [hb1, hb2], hx2⟩
  | true =>
  go_wp2_with (refine loadPlanLw r2 rfl rfl rfl ?_)
  refine (ks _).mono ?_
  rintro e w3 ⟨rfl, h3⟩
  have hx3 := hx2.trans h3
  clear hx2 r2 h3
  go_wp2_with fail
  go_ret
  exact ⟨by simp [hb1, hb2], hx3⟩

/-! ### The least -/
def leastD (p : PlanD) : PlanD :=
  let p1 := { p with pi := lPi p }
  let p2 := { p1 with window := lWin p1 }
  let p3 := { p2 with cap := lCap p2 }
  let p4 := { p3 with sendOff := lOff p3 }
  let p5 := { p4 with delta := lDelta p4 }
  { p5 with horizon := 40 * rd p5 }
theorem Known.of {p q : PlanD} (h : Known p) (e1 : q.nodes = p.nodes) (e2 : q.k = p.k) (e3 : q.air = p.air) (e4 : q.dmin = p.dmin) (e5 : q.dmax = p.dmax) (e6 : q.slot = p.slot) (e7 : q.rho = p.rho) : Known q := by
  obtain ⟨h1, h2, h3, h4, h5, h6, h7, h8, h9, h10, h11, h12, h13⟩ := h
  constructor <;> simp only [e1, e2, e3, e4, e5, e6, e7] <;> assumption
theorem lPi_b {p : PlanD} (h : Known p) : 0 ≤ lPi p ∧ lPi p ≤ 1073741824 := by
  have := h.eb; have := h.gb; have := h.ab; unfold lPi; omega
theorem lCap_b {p : PlanD} (h : Known p) : 0 ≤ lCap p ∧ lCap p ≤ 1073741824 := by
  have := h.eb; have := h.gb; have := h.ab; unfold lCap; omega

set_option maxRecDepth 100000 in
set_option maxHeartbeats 8000000 in
theorem least_calls (p : PlanD) (hk : Known p) (hq0 : 1 ≤ p.queue) (hq1 : p.queue ≤ 64) (hb0 : 1 ≤ p.burst) (hb1 : p.burst ≤ 8) (B : Nat) (w : World) (hB : w.heap[B]? = some (.cells (planC p) 97)) :
    Calls Try.prog 66 #[.pointer (some ⟨B, 0, none⟩)] w fun e w' => e = .returned (.tuple #[]) ∧ w'.heap[B]? = some (.cells (planC (leastD p)) 97) ∧ Below B w w' := by
  obtain ⟨p1, hp1⟩ : ∃ q, q = { p with pi := lPi p } := ⟨_, rfl⟩
  obtain ⟨p2, hp2⟩ : ∃ q, q = { p1 with window := lWin p1 } := ⟨_, rfl⟩
  obtain ⟨p3, hp3⟩ : ∃ q, q = { p2 with cap := lCap p2 } := ⟨_, rfl⟩
  obtain ⟨p4, hp4⟩ : ∃ q, q = { p3 with sendOff := lOff p3 } := ⟨_, rfl⟩
  obtain ⟨p5, hp5⟩ : ∃ q, q = { p4 with delta := lDelta p4 } := ⟨_, rfl⟩
  obtain ⟨p6, hp6⟩ : ∃ q, q = { p5 with horizon := 40 * rd p5 } := ⟨_, rfl⟩
  have hl : leastD p = p6 := by rw [hp6, hp5, hp4, hp3, hp2, hp1]; rfl
  rw [hl]
  have k1 : Known p1 := by rw [hp1]; exact Known.of hk rfl rfl rfl rfl rfl rfl rfl
  have k2 : Known p2 := by rw [hp2]; exact Known.of k1 rfl rfl rfl rfl rfl rfl rfl
  have k3 : Known p3 := by rw [hp3]; exact Known.of k2 rfl rfl rfl rfl rfl rfl rfl
  have k4 : Known p4 := by rw [hp4]; exact Known.of k3 rfl rfl rfl rfl rfl rfl rfl
  have k5 : Known p5 := by rw [hp5]; exact Known.of k4 rfl rfl rfl rfl rfl rfl rfl
  have b1 := lPi_b hk
  have f1 : p1.pi = lPi p := by rw [hp1]
  have f2 : p2.pi = p1.pi := by rw [hp2]
  have f2w : p2.window = p1.pi + eP p1 := by rw [hp2]; rfl
  have e1 := k1.eb
  have f3 : p3.pi = p2.pi := by rw [hp3]
  have f3w : p3.window = p2.window := by rw [hp3]
  have f3c : p3.cap = lCap p2 := by rw [hp3]
  have b3 := lCap_b k2
  have f4 : p4.pi = p3.pi := by rw [hp4]
  have f4q : p4.queue = p.queue := by rw [hp4, hp3, hp2, hp1]
  have f4b : p4.burst = p.burst := by rw [hp4, hp3, hp2, hp1]
  have c1 := fun W => leastPi_calls p hk W
  have c2 := fun W => leastWindow_calls p1 k1 (by omega) (by omega) W
  have c3 := fun W => leastCap_calls p2 k2 W
  have c4 := fun W => leastOff_calls p3 (by omega) (by omega) (by omega) (by omega) (by omega) (by omega) W
  have c5 := fun W => leastDelta_calls p4 k4 (by omega) (by omega) (by omega) (by omega) (by omega) (by omega) W
  have c6 := fun W => round_calls p5 k5 W
  have c7 : IntKind.i64.wrap (40 * rd p5) = 40 * rd p5 := by have := k5.rd; rw [IntKind.wrap_i64]; omega
  have s1 : ∀ W : World, W.heap[B]? = some (.cells (planC p) 97) → (W.setCell ⟨B, 9, none⟩ (.int .i64 (lPi p))).heap[B]? = some (.cells (planC p1) 97) := fun W h => by
    rw [heap_setCell_same _ _ _ _ _ _ h, hp1]; rfl
  have s2 : ∀ W : World, W.heap[B]? = some (.cells (planC p1) 97) → (W.setCell ⟨B, 4, none⟩ (.int .i64 (lWin p1))).heap[B]? = some (.cells (planC p2) 97) := fun W h => by
    rw [heap_setCell_same _ _ _ _ _ _ h, hp2]; rfl
  have s3 : ∀ W : World, W.heap[B]? = some (.cells (planC p2) 97) → (W.setCell ⟨B, 10, none⟩ (.int .i64 (lCap p2))).heap[B]? = some (.cells (planC p3) 97) := fun W h => by
    rw [heap_setCell_same _ _ _ _ _ _ h, hp3]; rfl
  have s4 : ∀ W : World, W.heap[B]? = some (.cells (planC p3) 97) → (W.setCell ⟨B, 3, none⟩ (.int .i64 (lOff p3))).heap[B]? = some (.cells (planC p4) 97) := fun W h => by
    rw [heap_setCell_same _ _ _ _ _ _ h, hp4]; rfl
  have s5 : ∀ W : World, W.heap[B]? = some (.cells (planC p4) 97) → (W.setCell ⟨B, 11, none⟩ (.int .i64 (lDelta p4))).heap[B]? = some (.cells (planC p5) 97) := fun W h => by
    rw [heap_setCell_same _ _ _ _ _ _ h, hp5]; rfl
  have s6 : ∀ W : World, W.heap[B]? = some (.cells (planC p5) 97) → (W.setCell ⟨B, 15, none⟩ (.int .i64 (40 * rd p5))).heap[B]? = some (.cells (planC p6) 97) := fun W h => by
    rw [heap_setCell_same _ _ _ _ _ _ h, hp6]; rfl
  clear b1 f1 f2 f2w e1 f3 f3w f3c b3 f4 f4q f4b k1 k2 k3 k4 k5 hk hq0 hq1 hb0 hb1 hl hp1 hp2 hp3 hp4 hp5 hp6
  generalize lPi p = X1 at *
  generalize lWin p1 = X2 at *
  generalize lCap p2 = X3 at *
  generalize lOff p3 = X4 at *
  generalize lDelta p4 = X5 at *
  generalize rd p5 = X6 at *
  have hlt := (Array.getElem?_eq_some_iff.1 hB).1
  have hbel := Below.refl B w
  go_enter Try.func66, Try.ntmps66
  refine wp_seq_k fun K hK => ?_
  have HK := Lib.hid hK
  clear hK
  go_wp2_with (refine loadPlanL hB rfl rfl rfl ?_)
  refine (c1 _).mono ?_
  rintro e w1 ⟨rfl, h1⟩
  have hB1 := h1.block hB
  have hbel1 := hbel.trans (Below.mono h1 (Nat.le_of_lt hlt))
  have hlt1 := Nat.lt_of_lt_of_le hlt h1.size
  clear hB hbel hlt c1 h1
  have hfz : w1.frozen? ⟨B, 9, none⟩ = false := frozen_of_row w1 B 9 _ _ hB1
  have hce : w1.cell? ⟨B, 9, none⟩ = some (.int .i64 p.pi) := planCell hB1 rfl
  have hB := s1 _ hB1
  have hbel := Below.setCell (p := ⟨B, 9, none⟩) hbel1 (Nat.le_refl B) (.int .i64 X1)
  have hlt := hlt1
  rw [← World.size_setCell (w := w1) (a := ⟨B, 9, none⟩) (v := .int .i64 X1)] at hlt
  clear s1 hB1 hbel1 hlt1
  go_wp2_with fail
  refine HK.out _ _ ?_
  clear HK
  generalize w1.setCell ⟨B, 9, none⟩ (.int .i64 X1) = v1 at *
  clear hfz hce
  refine wp_seq_k fun K hK => ?_
  have HK := Lib.hid hK
  clear hK
  go_wp2_with (refine loadPlanL hB rfl rfl rfl ?_)
  refine (c2 _).mono ?_
  rintro e w2 ⟨rfl, h2⟩
  have hB2 := h2.block hB
  have hbel2 := hbel.trans (Below.mono h2 (Nat.le_of_lt hlt))
  have hlt2 := Nat.lt_of_lt_of_le hlt h2.size
  clear hB hbel hlt c2 h2
  have hfz : w2.frozen? ⟨B, 4, none⟩ = false := frozen_of_row w2 B 4 _ _ hB2
  have hce : w2.cell? ⟨B, 4, none⟩ = some (.int .i64 p1.window) := planCell hB2 rfl
  have hB := s2 _ hB2
  have hbel := Below.setCell (p := ⟨B, 4, none⟩) hbel2 (Nat.le_refl B) (.int .i64 X2)
  have hlt := hlt2
  rw [← World.size_setCell (w := w2) (a := ⟨B, 4, none⟩) (v := .int .i64 X2)] at hlt
  clear s2 hB2 hbel2 hlt2
  go_wp2_with fail
  refine HK.out _ _ ?_
  clear HK
  generalize w2.setCell ⟨B, 4, none⟩ (.int .i64 X2) = v2 at *
  clear hfz hce
  refine wp_seq_k fun K hK => ?_
  have HK := Lib.hid hK
  clear hK
  go_wp2_with (refine loadPlanL hB rfl rfl rfl ?_)
  refine (c3 _).mono ?_
  rintro e w3 ⟨rfl, h3⟩
  have hB3 := h3.block hB
  have hbel3 := hbel.trans (Below.mono h3 (Nat.le_of_lt hlt))
  have hlt3 := Nat.lt_of_lt_of_le hlt h3.size
  clear hB hbel hlt c3 h3
  have hfz : w3.frozen? ⟨B, 10, none⟩ = false := frozen_of_row w3 B 10 _ _ hB3
  have hce : w3.cell? ⟨B, 10, none⟩ = some (.int .i64 p2.cap) := planCell hB3 rfl
  have hB := s3 _ hB3
  have hbel := Below.setCell (p := ⟨B, 10, none⟩) hbel3 (Nat.le_refl B) (.int .i64 X3)
  have hlt := hlt3
  rw [← World.size_setCell (w := w3) (a := ⟨B, 10, none⟩) (v := .int .i64 X3)] at hlt
  clear s3 hB3 hbel3 hlt3
  go_wp2_with fail
  refine HK.out _ _ ?_
  clear HK
  generalize w3.setCell ⟨B, 10, none⟩ (.int .i64 X3) = v3 at *
  clear hfz hce
  refine wp_seq_k fun K hK => ?_
  have HK := Lib.hid hK
  clear hK
  go_wp2_with (refine loadPlanL hB rfl rfl rfl ?_)
  refine (c4 _).mono ?_
  rintro e w4 ⟨rfl, h4⟩
  have hB4 := h4.block hB
  have hbel4 := hbel.trans (Below.mono h4 (Nat.le_of_lt hlt))
  have hlt4 := Nat.lt_of_lt_of_le hlt h4.size
  clear hB hbel hlt c4 h4
  have hfz : w4.frozen? ⟨B, 3, none⟩ = false := frozen_of_row w4 B 3 _ _ hB4
  have hce : w4.cell? ⟨B, 3, none⟩ = some (.int .i64 p3.sendOff) := planCell hB4 rfl
  have hB := s4 _ hB4
  have hbel := Below.setCell (p := ⟨B, 3, none⟩) hbel4 (Nat.le_refl B) (.int .i64 X4)
  have hlt := hlt4
  rw [← World.size_setCell (w := w4) (a := ⟨B, 3, none⟩) (v := .int .i64 X4)] at hlt
  clear s4 hB4 hbel4 hlt4
  go_wp2_with fail
  refine HK.out _ _ ?_
  clear HK
  generalize w4.setCell ⟨B, 3, none⟩ (.int .i64 X4) = v4 at *
  clear hfz hce
  refine wp_seq_k fun K hK => ?_
  have HK := Lib.hid hK
  clear hK
  go_wp2_with (refine loadPlanL hB rfl rfl rfl ?_)
  refine (c5 _).mono ?_
  rintro e w5 ⟨rfl, h5⟩
  have hB5 := h5.block hB
  have hbel5 := hbel.trans (Below.mono h5 (Nat.le_of_lt hlt))
  have hlt5 := Nat.lt_of_lt_of_le hlt h5.size
  clear hB hbel hlt c5 h5
  have hfz : w5.frozen? ⟨B, 11, none⟩ = false := frozen_of_row w5 B 11 _ _ hB5
  have hce : w5.cell? ⟨B, 11, none⟩ = some (.int .i64 p4.delta) := planCell hB5 rfl
  have hB := s5 _ hB5
  have hbel := Below.setCell (p := ⟨B, 11, none⟩) hbel5 (Nat.le_refl B) (.int .i64 X5)
  have hlt := hlt5
  rw [← World.size_setCell (w := w5) (a := ⟨B, 11, none⟩) (v := .int .i64 X5)] at hlt
  clear s5 hB5 hbel5 hlt5
  go_wp2_with fail
  refine HK.out _ _ ?_
  clear HK
  generalize w5.setCell ⟨B, 11, none⟩ (.int .i64 X5) = v5 at *
  clear hfz hce
  go_wp2_with (refine loadPlanL hB rfl rfl rfl ?_)
  refine (c6 _).mono ?_
  rintro e w6 ⟨rfl, h6⟩
  have hB6 := h6.block hB
  have hbel6 := hbel.trans (Below.mono h6 (Nat.le_of_lt hlt))
  have hlt6 := Nat.lt_of_lt_of_le hlt h6.size
  clear hB hbel hlt c6 h6
  have hfz : w6.frozen? ⟨B, 15, none⟩ = false := frozen_of_row w6 B 15 _ _ hB6
  have hce : w6.cell? ⟨B, 15, none⟩ = some (.int .i64 p5.horizon) := planCell hB6 rfl
  have hB := s6 _ hB6
  have hbel := Below.setCell (p := ⟨B, 15, none⟩) hbel6 (Nat.le_refl B) (.int .i64 (40 * X6))
  have hlt := hlt6
  rw [← World.size_setCell (w := w6) (a := ⟨B, 15, none⟩) (v := .int .i64 (40 * X6))] at hlt
  clear s6 hB6 hbel6 hlt6
  go_wp2_with fail
  first | go_end0 | refine bodyPost_ret (results_none rfl _ _ _) rfl ?_
  exact ⟨rfl, hB, hbel⟩
end Go.Proofs.Ytjhhcfadeankfaa.VPlan
