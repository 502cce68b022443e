/- plan: the document's conditions are the program's. -/
import Derived.Test.YtjhhcfadeankfaaVPlanC
namespace Go.Proofs.Ytjhhcfadeankfaa.VPlan
open Go.RowKit Go.VBase Go.VRg Go.VPlan Go.VSeq

def firstN (p : PlanD) : Int := if c1 p then (if c2 p then (if c3 p then 0 else 3) else 2) else 1
set_option maxRecDepth 100000 in
set_option maxHeartbeats 4000000 in
theorem refFirst_calls (p : PlanD) (w : World) : Calls Try.prog 73 #[planV p] w fun e w' => e = .returned (.int .i64 (firstN p)) ∧ Ext w w' := by
  unfold planV planC
  go_enter Try.func73, Try.ntmps73
  go_wp2_with fail
  all_goals go_ret
  all_goals
    refine ⟨?_, Ext.alloc _ _⟩
    unfold firstN c1 c2 c3 inP
    simp only [Bool.and_eq_true, decide_eq_true_eq]
    apply ret_int
    (try simp only [IntKind.wrap_i64] at *)
    repeat' split
    all_goals omega
set_option maxHeartbeats 2000000 in
theorem refNumbers_calls (p : PlanD) (hk : Known p) (w : World) : Calls Try.prog 74 #[planV p] w fun e w' => e = .returned (.tuple #[.int .i64 (eP p), .int .i64 (gP p), .int .i64 (aP p)]) ∧ Ext w w' := by
  obtain ⟨b0, b1⟩ := hk.rd
  obtain ⟨b2, b3⟩ := hk.q
  obtain ⟨b6, b7⟩ := hk.eb
  obtain ⟨b8, b9⟩ := hk.gb
  have h4 := hk.r0
  have h5 := hk.r1
  have d0 := hk.d0
  have d1 := hk.d1
  have d2 := hk.d2
  have q : IntKind.i64.wrap (p.nodes * p.slot) = rd p := by rw [show p.nodes * p.slot = rd p from rfl, IntKind.wrap_i64]; omega
  have q0 : IntKind.i64.wrap (2 * rd p) = 2 * rd p := by rw [IntKind.wrap_i64]; omega
  have q1 : IntKind.i64.wrap ((2 * rd p).tdiv p.rho) = 2 * rd p / p.rho := by rw [Int.tdiv_eq_ediv_of_nonneg (by omega), IntKind.wrap_i64]; omega
  have q2 : IntKind.i64.wrap (2 * rd p / p.rho + 4) = 2 * rd p / p.rho + 4 := by rw [IntKind.wrap_i64]; omega
  have q3 : IntKind.i64.wrap (2 * (2 * rd p / p.rho + 4)) = gP p := by unfold gP; rw [IntKind.wrap_i64]; omega
  have q4 : ¬ p.rho = 0 := by omega
  have q5 : IntKind.i64.wrap (p.dmax - p.dmin) = p.dmax - p.dmin := by rw [IntKind.wrap_i64]; omega
  have q6 : IntKind.i64.wrap (p.dmax - p.dmin + 6) = eP p := by unfold eP; rw [IntKind.wrap_i64]; omega
  have q7 : IntKind.i64.wrap (eP p + gP p) = eP p + gP p := by rw [IntKind.wrap_i64]; omega
  have q8 : IntKind.i64.wrap (2 * (eP p + gP p)) = aP p := by unfold aP; rw [IntKind.wrap_i64]; omega
  clear b0 b1 b2 b3 b6 b7 b8 b9 h4 h5 d0 d1 d2 hk
  generalize aP p = Z at *
  generalize gP p = G at *
  generalize eP p = E at *
  generalize 2 * rd p / p.rho = Q at *
  generalize rd p = R at *
  unfold planV planC
  go_enter Try.func74, Try.ntmps74
  go_wp2_with fail
  refine bodyPost_ret (results_tmp3 rfl _ _ _) rfl ?_
  exact ⟨rfl, Ext.alloc _ _⟩

theorem failsN_known (p : PlanD) (h : known p = true) : (failsN p : Int) =
    if lPi p ≤ p.pi ∧ p.pi ≤ 1048576 then if lWin p ≤ p.window ∧ p.window ≤ 1048576 then if lCap p ≤ p.cap ∧ p.cap ≤ 1048576 then if lOff p ≤ p.sendOff ∧ p.sendOff ≤ 1048576 then
    if lSlot p ≤ p.slot then if (1 ≤ p.queue ∧ p.queue ≤ 64) ∧ (1 ≤ p.burst ∧ p.burst ≤ 8) ∧ (1 ≤ p.payload ∧ p.payload ≤ 32) then if lDelta p ≤ p.delta ∧ p.delta ≤ 64 * rd p then
    if 40 * rd p ≤ p.horizon ∧ p.horizon ≤ 2147483648 then 0 else 11 else 10 else 9 else 8 else 7 else 6 else 5 else 4 := by
  unfold known at h
  simp only [Bool.and_eq_true] at h
  obtain ⟨⟨h1, h2⟩, h3⟩ := h
  unfold failsN
  simp only [firstFrom, cN, h1, h2, h3, if_true, Nat.reduceAdd]
  unfold c4 c5 c6 c7 c8 c9 c10 c11
  simp only [Bool.and_eq_true, inP_iff, decide_eq_true_eq, and_assoc]
  repeat' split
  all_goals first | rfl | omega

set_option maxRecDepth 100000 in
set_option maxHeartbeats 8000000 in
theorem refFails_known (p : PlanD) (hkn : known p = true) (w : World) : Calls Try.prog 63 #[planV p] w fun e w' => e = .returned (.int .i64 (failsN p : Int)) ∧ Ext w w' := by
  have hx0 := Ext.alloc w (.cells (planC p) 32)
  have r0 := heap_alloc_new w (.cells (planC p) 32)
  have hk := known_iff.1 hkn
  have hf0 : firstN p = 0 := by
    unfold known at hkn
    simp only [Bool.and_eq_true] at hkn
    unfold firstN
    rw [hkn.1.1, hkn.1.2, hkn.2]; rfl
  have kf := fun W => refFirst_calls p W
  rw [hf0] at kf
  have kn := fun W => refNumbers_calls p hk W
  have hfk := failsN_known p hkn
  obtain ⟨b0, b1⟩ := hk.rd
  obtain ⟨b2, b3⟩ := hk.eb
  obtain ⟨b4, b5⟩ := hk.gb
  obtain ⟨b6, b7⟩ := hk.ab
  have a0 := hk.a0
  have a1 := hk.a1
  have d0 := hk.d0
  have d1 := hk.d1
  have d2 := hk.d2
  have qr : IntKind.i64.wrap (p.nodes * p.slot) = rd p := by rw [show p.nodes * p.slot = rd p from rfl, IntKind.wrap_i64]; omega
  have dl : lPi p = 2 * (aP p + gP p) + eP p := rfl
  have dw : lWin p = p.pi + eP p := rfl
  have dc : lCap p = aP p + 2 * gP p + 2 * eP p := rfl
  have dof : lOff p = p.window + p.cap + p.pi := rfl
  have ds : lSlot p = p.sendOff + p.window + 2 * (p.dmax + p.air) + p.cap + p.pi + 8 := rfl
  have q0 : IntKind.i64.wrap (aP p + gP p) = aP p + gP p := by rw [IntKind.wrap_i64]; omega
  have q1 : IntKind.i64.wrap (2 * (aP p + gP p)) = 2 * (aP p + gP p) := by rw [IntKind.wrap_i64]; omega
  have q2 : IntKind.i64.wrap (2 * (aP p + gP p) + eP p) = lPi p := by rw [IntKind.wrap_i64]; omega
  have q3 : IntKind.i64.wrap (2 * gP p) = 2 * gP p := by rw [IntKind.wrap_i64]; omega
  have q4 : IntKind.i64.wrap (aP p + 2 * gP p) = aP p + 2 * gP p := by rw [IntKind.wrap_i64]; omega
  have q5 : IntKind.i64.wrap (2 * eP p) = 2 * eP p := by rw [IntKind.wrap_i64]; omega
  have q6 : IntKind.i64.wrap (aP p + 2 * gP p + 2 * eP p) = lCap p := by rw [IntKind.wrap_i64]; omega
  have q7 : IntKind.i64.wrap (2 * p.dmax) = 2 * p.dmax := by rw [IntKind.wrap_i64]; omega
  have q8 : IntKind.i64.wrap (2 * p.air) = 2 * p.air := by rw [IntKind.wrap_i64]; omega
  have q9 : IntKind.i64.wrap (64 * rd p) = 64 * rd p := by rw [IntKind.wrap_i64]; omega
  have q10 : IntKind.i64.wrap (40 * rd p) = 40 * rd p := by rw [IntKind.wrap_i64]; omega
  have q11 : lPi p ≤ p.pi → p.pi ≤ 1048576 → IntKind.i64.wrap (p.pi + eP p) = lWin p := by intros; rw [IntKind.wrap_i64]; omega
  have q12 : lPi p ≤ p.pi → p.pi ≤ 1048576 → IntKind.i64.wrap (2 * p.pi) = 2 * p.pi := by intros; rw [IntKind.wrap_i64]; omega
  have q13 : lPi p ≤ p.pi → p.pi ≤ 1048576 → lWin p ≤ p.window → p.window ≤ 1048576 → lCap p ≤ p.cap → p.cap ≤ 1048576 → IntKind.i64.wrap (p.window + p.cap) = p.window + p.cap := by intros; rw [IntKind.wrap_i64]; omega
  have q14 : lPi p ≤ p.pi → p.pi ≤ 1048576 → lWin p ≤ p.window → p.window ≤ 1048576 → lCap p ≤ p.cap → p.cap ≤ 1048576 → IntKind.i64.wrap (p.window + p.cap + p.pi) = lOff p := by intros; rw [IntKind.wrap_i64]; omega
  have q15 : lPi p ≤ p.pi → p.pi ≤ 1048576 → lWin p ≤ p.window → p.window ≤ 1048576 → lCap p ≤ p.cap → p.cap ≤ 1048576 → lOff p ≤ p.sendOff → p.sendOff ≤ 1048576 → IntKind.i64.wrap (p.sendOff + p.window) = p.sendOff + p.window := by intros; rw [IntKind.wrap_i64]; omega
  have q16 : lPi p ≤ p.pi → p.pi ≤ 1048576 → lWin p ≤ p.window → p.window ≤ 1048576 → lCap p ≤ p.cap → p.cap ≤ 1048576 → lOff p ≤ p.sendOff → p.sendOff ≤ 1048576 → IntKind.i64.wrap (p.sendOff + p.window + 2 * p.dmax) = p.sendOff + p.window + 2 * p.dmax := by intros; rw [IntKind.wrap_i64]; omega
  have q17 : lPi p ≤ p.pi → p.pi ≤ 1048576 → lWin p ≤ p.window → p.window ≤ 1048576 → lCap p ≤ p.cap → p.cap ≤ 1048576 → lOff p ≤ p.sendOff → p.sendOff ≤ 1048576 → IntKind.i64.wrap (p.sendOff + p.window + 2 * p.dmax + 2 * p.air) = p.sendOff + p.window + 2 * p.dmax + 2 * p.air := by intros; rw [IntKind.wrap_i64]; omega
  have q18 : lPi p ≤ p.pi → p.pi ≤ 1048576 → lWin p ≤ p.window → p.window ≤ 1048576 → lCap p ≤ p.cap → p.cap ≤ 1048576 → lOff p ≤ p.sendOff → p.sendOff ≤ 1048576 → IntKind.i64.wrap (p.sendOff + p.window + 2 * p.dmax + 2 * p.air + p.cap) = p.sendOff + p.window + 2 * p.dmax + 2 * p.air + p.cap := by intros; rw [IntKind.wrap_i64]; omega
  have q19 : lPi p ≤ p.pi → p.pi ≤ 1048576 → lWin p ≤ p.window → p.window ≤ 1048576 → lCap p ≤ p.cap → p.cap ≤ 1048576 → lOff p ≤ p.sendOff → p.sendOff ≤ 1048576 → IntKind.i64.wrap (p.sendOff + p.window + 2 * p.dmax + 2 * p.air + p.cap + p.pi) = p.sendOff + p.window + 2 * p.dmax + 2 * p.air + p.cap + p.pi := by intros; rw [IntKind.wrap_i64]; omega
  have q20 : lPi p ≤ p.pi → p.pi ≤ 1048576 → lWin p ≤ p.window → p.window ≤ 1048576 → lCap p ≤ p.cap → p.cap ≤ 1048576 → lOff p ≤ p.sendOff → p.sendOff ≤ 1048576 → IntKind.i64.wrap (p.sendOff + p.window + 2 * p.dmax + 2 * p.air + p.cap + p.pi + 8) = lSlot p := by intros; rw [IntKind.wrap_i64]; omega
  obtain ⟨qq, hqq⟩ : ∃ q, q = p.queue / p.burst := ⟨_, rfl⟩
  have Q : 1 ≤ p.queue → p.queue ≤ 64 → 1 ≤ p.burst → p.burst ≤ 8 → (0 ≤ qq ∧ qq ≤ 64) ∧ (0 ≤ qq * p.burst ∧ qq * p.burst ≤ p.queue) ∧ ((p.queue + p.burst - 1) / p.burst = if qq * p.burst < p.queue then qq + 1 else qq) := by
    intro h1 h2 h3 h4
    have hq1 : 0 ≤ qq := by rw [hqq]; exact Int.ediv_nonneg (by omega) (by omega)
    have hq2 : qq ≤ 64 := by rw [hqq]; have := Int.ediv_le_self p.burst (a := p.queue) (by omega); omega
    have hq3 : qq * p.burst ≤ p.queue := by rw [hqq]; exact Int.ediv_mul_le _ (by omega)
    have hq4 : 0 ≤ qq * p.burst := Int.mul_nonneg hq1 (by omega)
    refine ⟨⟨hq1, hq2⟩, ⟨hq4, hq3⟩, ?_⟩
    have hlt : p.queue < (qq + 1) * p.burst := by rw [hqq]; exact Int.lt_ediv_add_one_mul_self p.queue (b := p.burst) (by omega)
    rw [Int.add_mul, Int.one_mul] at hlt
    split
    · apply Int.le_antisymm
      · apply Int.le_of_lt_add_one
        apply Int.ediv_lt_of_lt_mul (by omega)
        rw [Int.add_mul, Int.add_mul, Int.one_mul]; omega
      · apply Int.le_ediv_of_mul_le (by omega)
        rw [Int.add_mul, Int.one_mul]; omega
    · apply Int.le_antisymm
      · apply Int.le_of_lt_add_one
        apply Int.ediv_lt_of_lt_mul (by omega)
        rw [Int.add_mul, Int.one_mul]; omega
      · apply Int.le_ediv_of_mul_le (by omega)
        omega
  have M : 1 ≤ p.queue → p.queue ≤ 64 → 1 ≤ p.burst → p.burst ≤ 8 → (0 ≤ (qq + 3) * rd p ∧ (qq + 3) * rd p ≤ 67 * 16777216) ∧ 0 ≤ (qq + 1 + 3) * rd p ∧ (qq + 1 + 3) * rd p ≤ 68 * 16777216 := by
    intro h1 h2 h3 h4
    obtain ⟨⟨hq1, hq2⟩, _⟩ := Q h1 h2 h3 h4
    exact ⟨⟨Int.mul_nonneg (by omega) (by omega), Int.mul_le_mul (by omega) b1 (by omega) (by omega)⟩, Int.mul_nonneg (by omega) (by omega), Int.mul_le_mul (by omega) b1 (by omega) (by omega)⟩
  have D : 1 ≤ p.queue → p.queue ≤ 64 → 1 ≤ p.burst → p.burst ≤ 8 → lDelta p = (if qq * p.burst < p.queue then (qq + 1 + 3) * rd p else (qq + 3) * rd p) + 2 * p.pi := by
    intro h1 h2 h3 h4
    unfold lDelta; rw [(Q h1 h2 h3 h4).2.2]; split <;> rfl
  have u0 : 1 ≤ p.burst → ¬ p.burst = 0 := by intro h; omega
  have u1 : 1 ≤ p.queue → p.queue ≤ 64 → 1 ≤ p.burst → p.burst ≤ 8 → IntKind.i64.wrap (p.queue.tdiv p.burst) = qq := by
    intro h1 h2 h3 h4
    have := Q h1 h2 h3 h4
    rw [Int.tdiv_eq_ediv_of_nonneg (by omega), ← hqq, IntKind.wrap_i64]; omega
  have u2 : 1 ≤ p.queue → p.queue ≤ 64 → 1 ≤ p.burst → p.burst ≤ 8 → IntKind.i64.wrap (qq * p.burst) = qq * p.burst := by
    intro h1 h2 h3 h4
    have := Q h1 h2 h3 h4
    rw [IntKind.wrap_i64]; omega
  have u3 : 1 ≤ p.queue → p.queue ≤ 64 → 1 ≤ p.burst → p.burst ≤ 8 → IntKind.i64.wrap (qq + 1) = qq + 1 := by
    intro h1 h2 h3 h4
    have := Q h1 h2 h3 h4
    rw [IntKind.wrap_i64]; omega
  have u4 : 1 ≤ p.queue → p.queue ≤ 64 → 1 ≤ p.burst → p.burst ≤ 8 → IntKind.i64.wrap (qq + 3) = qq + 3 := by
    intro h1 h2 h3 h4
    have := Q h1 h2 h3 h4
    rw [IntKind.wrap_i64]; omega
  have u5 : 1 ≤ p.queue → p.queue ≤ 64 → 1 ≤ p.burst → p.burst ≤ 8 → IntKind.i64.wrap (qq + 1 + 3) = qq + 1 + 3 := by
    intro h1 h2 h3 h4
    have := Q h1 h2 h3 h4
    rw [IntKind.wrap_i64]; omega
  have u6 : 1 ≤ p.queue → p.queue ≤ 64 → 1 ≤ p.burst → p.burst ≤ 8 → IntKind.i64.wrap ((qq + 3) * rd p) = (qq + 3) * rd p := by
    intro h1 h2 h3 h4
    have := M h1 h2 h3 h4
    rw [IntKind.wrap_i64]; omega
  have u7 : 1 ≤ p.queue → p.queue ≤ 64 → 1 ≤ p.burst → p.burst ≤ 8 → IntKind.i64.wrap ((qq + 1 + 3) * rd p) = (qq + 1 + 3) * rd p := by
    intro h1 h2 h3 h4
    have := M h1 h2 h3 h4
    rw [IntKind.wrap_i64]; omega
  have u8 : 1 ≤ p.queue → p.queue ≤ 64 → 1 ≤ p.burst → p.burst ≤ 8 → lPi p ≤ p.pi → p.pi ≤ 1048576 → IntKind.i64.wrap ((qq + 3) * rd p + 2 * p.pi) = (qq + 3) * rd p + 2 * p.pi := by
    intro h1 h2 h3 h4 h5 h6
    have := M h1 h2 h3 h4
    rw [IntKind.wrap_i64]; omega
  have u9 : 1 ≤ p.queue → p.queue ≤ 64 → 1 ≤ p.burst → p.burst ≤ 8 → lPi p ≤ p.pi → p.pi ≤ 1048576 → IntKind.i64.wrap ((qq + 1 + 3) * rd p + 2 * p.pi) = (qq + 1 + 3) * rd p + 2 * p.pi := by
    intro h1 h2 h3 h4 h5 h6
    have := M h1 h2 h3 h4
    rw [IntKind.wrap_i64]; omega
  have HD := Lib.hid D
  have HF := Lib.hid hfk
  clear D M Q hqq hfk b0 b1 b2 b3 b4 b5 b6 b7 a0 a1 d0 d1 d2 dl dw dc dof ds hk hkn hf0
  have C := Lib.hid (And.intro q11 (And.intro q12 (And.intro q13 (And.intro q14 (And.intro q15 (And.intro q16 (And.intro q17 (And.intro q18 (And.intro q19 q20)))))))))
  have U := Lib.hid (And.intro u0 (And.intro u1 (And.intro u2 (And.intro u3 (And.intro u4 (And.intro u5 (And.intro u6 (And.intro u7 (And.intro u8 u9)))))))))
  clear q11 q12 q13 q14 q15 q16 q17 q18 q19 q20 u0 u1 u2 u3 u4 u5 u6 u7 u8 u9
  unfold planV planC
  go_enter Try.func63, Try.ntmps63
  refine wp_seq_k fun K hK => ?_
  have HK := Lib.hid hK
  clear hK
  go_wp2_with fail
  refine HK.out _ _ ?_
  clear HK
  refine wp_seq_k fun K hK => ?_
  have HK := Lib.hid hK
  clear hK
  go_wp2_with (refine loadPlanP r0 rfl rfl rfl ?_)
  refine (kf _).mono ?_
  rintro e w1 ⟨rfl, h1⟩
  have hx1 := hx0.trans h1
  have r1 := h1.block r0
  clear r0 hx0 h1 kf
  go_wp2_with fail
  refine HK.out _ _ ?_
  clear HK
  refine wp_seq_k fun K hK => ?_
  have HK := Lib.hid hK
  clear hK
  go_wp2_with fail
  refine HK.out _ _ ?_
  clear HK
  refine wp_seq_k fun K hK => ?_
  have HK := Lib.hid hK
  clear hK
  go_wp2_with (refine loadPlanP r1 rfl rfl rfl ?_)
  refine (kn _).mono ?_
  rintro e w2 ⟨rfl, h2⟩
  have hx2 := hx1.trans h2
  have k1 := planBox (p := p) (h2.block r1)
  unfold PlanCells at k1
  clear r1 hx1 h2 kn
  obtain ⟨e0, e1, e2, e3, e4, e5, e6, e7, e8, e9, e10, e11, e12, e13, e14, e15⟩ := k1
  generalize aP p = Z at *
  generalize gP p = G at *
  generalize eP p = E at *
  generalize rd p = R at *
  go_wp2_with fail
  refine HK.out _ _ ?_
  clear HK
  refine wp_seq_k fun K hK => ?_
  have HK := Lib.hid hK
  clear hK
  go_wp2_with fail
  refine HK.out _ _ ?_
  clear HK
  refine wp_seq_k fun K hK => ?_
  have HK := Lib.hid hK
  clear hK
  go_wp2_with fail
  all_goals first
    | (go_ret
       refine ⟨?_, hx2⟩
       apply ret_int
       rw [HF.out]
       clear HF HD C U e0 e1 e2 e3 e4 e5 e6 e7 e8 e9 e10 e11 e12 e13 e14 e15
       ((repeat' split) <;> first | rfl | omega))
    | skip
  have n4 : lPi p ≤ p.pi ∧ p.pi ≤ 1048576 := by omega
  have q11 := C.out.1 n4.1 n4.2
  refine HK.out _ _ ?_
  clear HK
  refine wp_seq_k fun K hK => ?_
  have HK := Lib.hid hK
  clear hK
  go_wp2_with fail
  all_goals first
    | (go_ret
       refine ⟨?_, hx2⟩
       apply ret_int
       rw [HF.out]
       clear HF HD C U e0 e1 e2 e3 e4 e5 e6 e7 e8 e9 e10 e11 e12 e13 e14 e15
       ((repeat' split) <;> first | rfl | omega))
    | skip
  have n5 : lWin p ≤ p.window ∧ p.window ≤ 1048576 := by omega
  refine HK.out _ _ ?_
  clear HK
  refine wp_seq_k fun K hK => ?_
  have HK := Lib.hid hK
  clear hK
  go_wp2_with fail
  all_goals first
    | (go_ret
       refine ⟨?_, hx2⟩
       apply ret_int
       rw [HF.out]
       clear HF HD C U e0 e1 e2 e3 e4 e5 e6 e7 e8 e9 e10 e11 e12 e13 e14 e15
       ((repeat' split) <;> first | rfl | omega))
    | skip
  have n6 : lCap p ≤ p.cap ∧ p.cap ≤ 1048576 := by omega
  have q13 := C.out.2.2.1 n4.1 n4.2 n5.1 n5.2 n6.1 n6.2
  have q14 := C.out.2.2.2.1 n4.1 n4.2 n5.1 n5.2 n6.1 n6.2
  refine HK.out _ _ ?_
  clear HK
  refine wp_seq_k fun K hK => ?_
  have HK := Lib.hid hK
  clear hK
  go_wp2_with fail
  all_goals first
    | (go_ret
       refine ⟨?_, hx2⟩
       apply ret_int
       rw [HF.out]
       clear HF HD C U e0 e1 e2 e3 e4 e5 e6 e7 e8 e9 e10 e11 e12 e13 e14 e15
       ((repeat' split) <;> first | rfl | omega))
    | skip
  have n7 : lOff p ≤ p.sendOff ∧ p.sendOff ≤ 1048576 := by omega
  have q15 := C.out.2.2.2.2.1 n4.1 n4.2 n5.1 n5.2 n6.1 n6.2 n7.1 n7.2
  have q16 := C.out.2.2.2.2.2.1 n4.1 n4.2 n5.1 n5.2 n6.1 n6.2 n7.1 n7.2
  have q17 := C.out.2.2.2.2.2.2.1 n4.1 n4.2 n5.1 n5.2 n6.1 n6.2 n7.1 n7.2
  have q18 := C.out.2.2.2.2.2.2.2.1 n4.1 n4.2 n5.1 n5.2 n6.1 n6.2 n7.1 n7.2
  have q19 := C.out.2.2.2.2.2.2.2.2.1 n4.1 n4.2 n5.1 n5.2 n6.1 n6.2 n7.1 n7.2
  have q20 := C.out.2.2.2.2.2.2.2.2.2 n4.1 n4.2 n5.1 n5.2 n6.1 n6.2 n7.1 n7.2
  refine HK.out _ _ ?_
  clear HK
  refine wp_seq_k fun K hK => ?_
  have HK := Lib.hid hK
  clear hK
  go_wp2_with fail
  all_goals first
    | (go_ret
       refine ⟨?_, hx2⟩
       apply ret_int
       rw [HF.out]
       clear HF HD C U e0 e1 e2 e3 e4 e5 e6 e7 e8 e9 e10 e11 e12 e13 e14 e15
       ((repeat' split) <;> first | rfl | omega))
    | skip
  have n8 : lSlot p ≤ p.slot := by omega
  refine HK.out _ _ ?_
  clear HK
  refine wp_seq_k fun K hK => ?_
  have HK := Lib.hid hK
  clear hK
  go_wp2_with fail
  all_goals first
    | (go_ret
       refine ⟨?_, hx2⟩
       apply ret_int
       rw [HF.out]
       clear HF HD C U e0 e1 e2 e3 e4 e5 e6 e7 e8 e9 e10 e11 e12 e13 e14 e15
       ((repeat' split) <;> first | rfl | omega))
    | skip
  have n9 : (1 ≤ p.queue ∧ p.queue ≤ 64) ∧ (1 ≤ p.burst ∧ p.burst ≤ 8) ∧ (1 ≤ p.payload ∧ p.payload ≤ 32) := by omega
  have v0 := U.out.1 n9.2.1.1
  have v1 := U.out.2.1 n9.1.1 n9.1.2 n9.2.1.1 n9.2.1.2
  have v2 := U.out.2.2.1 n9.1.1 n9.1.2 n9.2.1.1 n9.2.1.2
  have v3 := U.out.2.2.2.1 n9.1.1 n9.1.2 n9.2.1.1 n9.2.1.2
  have v4 := U.out.2.2.2.2.1 n9.1.1 n9.1.2 n9.2.1.1 n9.2.1.2
  have v5 := U.out.2.2.2.2.2.1 n9.1.1 n9.1.2 n9.2.1.1 n9.2.1.2
  have v6 := U.out.2.2.2.2.2.2.1 n9.1.1 n9.1.2 n9.2.1.1 n9.2.1.2
  have v7 := U.out.2.2.2.2.2.2.2.1 n9.1.1 n9.1.2 n9.2.1.1 n9.2.1.2
  have v8 := U.out.2.2.2.2.2.2.2.2.1 n9.1.1 n9.1.2 n9.2.1.1 n9.2.1.2 n4.1 n4.2
  have v9 := U.out.2.2.2.2.2.2.2.2.2 n9.1.1 n9.1.2 n9.2.1.1 n9.2.1.2 n4.1 n4.2
  have dd := HD.out n9.1.1 n9.1.2 n9.2.1.1 n9.2.1.2
  have q12 := C.out.2.1 n4.1 n4.2
  have HDD := Lib.hid dd
  clear dd
  refine HK.out _ _ ?_
  clear HK
  refine wp_seq_k fun K hK => ?_
  have HK := Lib.hid hK
  clear hK
  go_wp2_with fail
  refine HK.out _ _ ?_
  clear HK
  refine wp_seq_k fun K hK => ?_
  have HK := Lib.hid hK
  clear hK
  go_wp2_with fail
  all_goals
    refine HK.out _ _ ?_
    clear HK
    refine wp_seq_k fun K hK => ?_
    have HK := Lib.hid hK
    clear hK
    go_wp2_with fail
    all_goals first
      | (go_ret
         refine ⟨?_, hx2⟩
         apply ret_int
         rw [HF.out]
         have dd := HDD.out
         clear HF HD C U e0 e1 e2 e3 e4 e5 e6 e7 e8 e9 e10 e11 e12 e13 e14 e15
         ((repeat' split) <;> first | rfl | omega))
      | skip
    have n10 : lDelta p ≤ p.delta ∧ p.delta ≤ 64 * R := by have dd := HDD.out; clear C U e0 e1 e2 e3 e4 e5 e6 e7 e8 e9 e10 e11 e12 e13 e14 e15; (try (split at dd)) <;> omega
    refine HK.out _ _ ?_
    clear HK
    refine wp_seq_k fun K hK => ?_
    have HK := Lib.hid hK
    clear hK
    go_wp2_with fail
    all_goals first
      | (go_ret
         refine ⟨?_, hx2⟩
         apply ret_int
         rw [HF.out]
         have dd := HDD.out
         clear HF HD C U e0 e1 e2 e3 e4 e5 e6 e7 e8 e9 e10 e11 e12 e13 e14 e15
         ((repeat' split) <;> first | rfl | omega))
      | skip
    have n11 : 40 * R ≤ p.horizon ∧ p.horizon ≤ 2147483648 := by have dd := HDD.out; clear C U e0 e1 e2 e3 e4 e5 e6 e7 e8 e9 e10 e11 e12 e13 e14 e15; (try (split at dd)) <;> omega
    refine HK.out _ _ ?_
    clear HK
    go_wp2_with fail
    go_ret
    refine ⟨?_, hx2⟩
    apply ret_int
    rw [HF.out]
    clear HF HD C U e0 e1 e2 e3 e4 e5 e6 e7 e8 e9 e10 e11 e12 e13 e14 e15
    ((repeat' split) <;> first | rfl | omega)

set_option maxRecDepth 100000 in
set_option maxHeartbeats 1000000 in
theorem refFails_calls (p : PlanD) (w : World) : Calls Try.prog 63 #[planV p] w fun e w' => e = .returned (.int .i64 (failsN p : Int)) ∧ Ext w w' := by
  cases hkn : known p with
  | true => exact refFails_known p hkn w
  | false =>
    have hx0 := Ext.alloc w (.cells (planC p) 32)
    have r0 := heap_alloc_new w (.cells (planC p) 32)
    have kf := fun W => refFirst_calls p W
    have hm : failsN p = (firstN p).toNat ∧ 0 < firstN p := by
      unfold known at hkn
      unfold firstN failsN
      cases h1 : c1 p with
      | false => exact ⟨firstFrom_at (m := 1) (by omega) (by omega) (fun j a b => by omega) h1, by simp⟩
      | true =>
        cases h2 : c2 p with
        | false => exact ⟨firstFrom_at (m := 2) (by omega) (by omega) (fun j a b => by obtain rfl : j = 1 := (by omega); exact h1) h2, by simp⟩
        | true =>
          cases h3 : c3 p with
          | false =>
            refine ⟨firstFrom_at (m := 3) (by omega) (by omega) (fun j a b => ?_) h3, by simp⟩
            rcases (show j = 1 ∨ j = 2 by omega) with e | e
            · subst e; exact h1
            · subst e; exact h2
          | true => rw [h1, h2, h3] at hkn; cases hkn
    rw [hm.1]
    have hd : decide (0 < firstN p) = true := decide_eq_true hm.2
    have hn : ((firstN p).toNat : Int) = firstN p := by omega
    rw [hn]
    clear hm hn hkn
    generalize firstN p = FN at *
    unfold planV planC
    go_enter Try.func63, Try.ntmps63
    go_wp2_with (refine loadPlanP r0 rfl rfl rfl ?_)
    refine (kf _).mono ?_
    rintro e w1 ⟨rfl, h1⟩
    have hx1 := hx0.trans h1
    clear hx0 h1 r0
    go_wp2_with fail
    go_ret
    exact ⟨rfl, hx1⟩

set_option maxRecDepth 100000 in
set_option maxHeartbeats 1000000 in
theorem refCheck_calls (p : PlanD) (w : World) : Calls Try.prog 47 #[planV p] w fun e w' => e = .returned (.int .i64 (if planOk p then 0 else 70)) ∧ Ext w w' := by
  have hx0 := Ext.alloc w (.cells (planC p) 32)
  have r0 := heap_alloc_new w (.cells (planC p) 32)
  have kf := fun W => refFails_calls p W
  cases hb : planOk p with
  | false =>
    have hd : decide ((0 : Int) < (failsN p : Int)) = true := decide_eq_true (by unfold planOk at hb; simp at hb; omega)
    generalize (failsN p : Int) = FN at *
    unfold planV planC
    go_enter Try.func47, Try.ntmps47
    go_wp2_with (refine loadPlanP r0 rfl rfl rfl ?_)
    refine (kf _).mono ?_
    rintro e w1 ⟨rfl, h1⟩
    have hx1 := hx0.trans h1
    clear hx0 h1 r0
    go_wp2_with fail
    go_ret
    exact ⟨rfl, hx1⟩
  | true =>
    have hd : (failsN p : Int) = 0 := by unfold planOk at hb; simp at hb; omega
    rw [hd] at kf
    unfold planV planC
    go_enter Try.func47, Try.ntmps47
    go_wp2_with (refine loadPlanP r0 rfl rfl rfl ?_)
    refine (kf _).mono ?_
    rintro e w1 ⟨rfl, h1⟩
    have hx1 := hx0.trans h1
    clear hx0 h1 r0
    go_wp2_with fail
    go_ret
    exact ⟨rfl, hx1⟩
end Go.Proofs.Ytjhhcfadeankfaa.VPlan
