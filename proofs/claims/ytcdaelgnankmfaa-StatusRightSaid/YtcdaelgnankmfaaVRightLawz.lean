/- Bundled out of VRightLaw. -/
import Derived.Test.YtcdaelgnankmfaaVR1
import Derived.Test.YtcdaelgnankmfaaVA4
import Derived.Test.YtcdaelgnankmfaaVFrmU
import Derived.Deep.CutRange
/- StatusRight: the walk. -/
namespace Go.Proofs.Ytcdaelgnankmfaa.VSta
open Go.RowKit Go.VBase Go.VRg Go.VSeq Go.VPlan VPlan Go.VOct VOct VCst Go.Proofs.Ytcdaelgnankmfaa.VCrc _root_.Go.VCrc VMsg

theorem vec_two (w : World) (a b : Int) : VecE (w.alloc (.cells #[.int .u16 a, .int .u16 b] 23)) (.slice (some ⟨w.heap.size, 0, none⟩) 2 2) [a, b] := by
  refine ⟨_, 2, rfl, fun i x hx => ⟨w.heap.size, 0, rfl, ?_⟩⟩
  match i, hx with
  | 0, hx => cases hx; exact cellNew (i := 0) rfl rfl
  | 1, hx => cases hx; exact cellNew (i := 1) rfl rfl
attribute [local go_sem] Oper.semAt_some
set_option maxRecDepth 100000 in
set_option maxHeartbeats 16000000 in
theorem Right_any (p : PlanD) (r s v a b off : Int) (data : List UInt8) (da : Option Addr) (dc : Nat) (w : World) (hdata : Bys w (.slice da data.length dc) data) (hv0 : 0 ≤ v) (hv : v < 65536) (ha0 : 0 ≤ a) (ha : a < 65536) (hb0 : 0 ≤ b) (hb : b < 65536) (ho0 : -2147483648 ≤ off) (ho1 : off ≤ 2147483647) :
    Calls Try.prog 4 #[planV p, plV r s, .int .u16 v, .int .u16 a, .int .u16 b, .slice da data.length dc, .int .i32 off] w fun e w' => e = .returned (.bool true) ∧ Ext w w' := by
  have kA := fun W => stAlive_calls W
  have kE := fun W => Expected_calls p r s W
  have x0 := (Ext.alloc w (.cells (planC p) 35)).thenAlloc (.cells #[.int .i64 r, .int .i64 s] 37)
  have r0 := (Ext.alloc _ (.cells #[.int .i64 r, .int .i64 s] 37)).block (heap_alloc_new w (.cells (planC p) 35))
  have r1 := heap_alloc_at (w.alloc (.cells (planC p) 35)) (.cells #[.int .i64 r, .int .i64 s] 37) (n := w.heap.size + 1) (by simp)
  obtain ⟨W0, hW0⟩ : ∃ W0, W0 = (w.alloc (.cells (planC p) 35)).alloc (.cells #[.int .i64 r, .int .i64 s] 37) := ⟨_, rfl⟩
  rw [← hW0] at r0 r1 x0
  have H0 := Lib.hid hW0
  have HD := Lib.hid hdata
  clear hW0 hdata
  unfold plV at kE ⊢
  unfold planV planC at ⊢
  go_enter Try.func4, Try.ntmps4
  refine wp_seq_k fun K hK => ?_
  have HK := Lib.hid hK
  clear hK
  go_wp2_with fail
  refine HK.out _ _ ?_
  clear HK
  show Code.wp _ _ _ _ ((w.alloc (.cells (planC p) 35)).alloc (.cells #[.int .i64 r, .int .i64 s] 37))
  rw [← H0.out]
  clear H0
  go_wp2_with fail
  refine (kA _).mono ?_
  rintro e w1 ⟨rfl, h1⟩
  have x1 := x0.trans h1
  have q0 := h1.block r0
  have q1 := h1.block r1
  have e0 : w1.cell? ⟨w.heap.size + 1, 0, none⟩ = some (.int .i64 r) := cell_of_row _ _ 0 _ _ _ q1
  have e1 : w1.cell? ⟨w.heap.size + 1, 1, none⟩ = some (.int .i64 s) := cell_of_row _ _ 1 _ _ _ q1
  clear kA h1 x0 r0 r1
  cases hh : hasP p r s with
  | false =>
    simp only [hh, Bool.false_eq_true, if_false] at kE
    by_cases hl : data.length ≤ 100
    · have dA : decide ((100 : Int) < (data.length : Int)) = false := decide_eq_false (by omega)
      go_wp2_with (refine loadPlanP q0 rfl rfl rfl ?_)
      refine (kE _).mono ?_
      rintro e w2 ⟨rfl, h2⟩
      have x2 := x1.trans h2
      clear kE h2 x1 q0 e0 e1
      go_wp2_with fail
      go_ret
      exact ⟨rfl, x2⟩
    · have dA : decide ((100 : Int) < (data.length : Int)) = true := decide_eq_true (by omega)
      go_wp2_with (refine loadPlanP q0 rfl rfl rfl ?_)
      refine (kE _).mono ?_
      rintro e w2 ⟨rfl, h2⟩
      have x2 := x1.trans h2
      clear kE h2 x1 q0 e0 e1
      go_wp2_with fail
      go_ret
      exact ⟨rfl, x2⟩
  | true =>
  simp only [hh, if_true] at kE
  by_cases hl : data.length ≤ 100
  rotate_left
  · have dA : decide ((100 : Int) < (data.length : Int)) = true := decide_eq_true (by omega)
    go_wp2_with (refine loadPlanP q0 rfl rfl rfl ?_)
    refine (kE _).mono ?_
    rintro e w2 ⟨rfl, h2⟩
    have x2 := x1.trans h2
    clear kE h2 x1 q0 e0 e1
    go_wp2_with fail
    go_ret
    exact ⟨rfl, x2⟩
  have dA : decide ((100 : Int) < (data.length : Int)) = false := decide_eq_false (by omega)
  go_wp2_with (refine loadPlanP q0 rfl rfl rfl ?_)
  refine (kE _).mono ?_
  rintro e w2 ⟨rfl, h2⟩
  have x2 := x1.trans h2
  have q02 := h2.block q0
  have q12 := h2.block q1
  clear kE h2 x1 q0 q1 e0 e1
  go_upto_region 5 with fail
  go_cut [20] from 20 to 20 (fun s20 wx => s20 = .int .i64 1 ∧ wx = w2)
  case first =>
    go_wp2_with fail
    go_meet
    exact ⟨rfl, rfl⟩
  case rest =>
  obtain ⟨rfl, hwc⟩ := hcut
  have hwc := hwc.symm
  subst hwc
  go_step
  go_step
  have kFu := fun W => Full_calls p r s W
  unfold plV at kFu
  have e0 : w2.cell? ⟨w.heap.size + 1, 0, none⟩ = some (.int .i64 r) := cell_of_row _ _ 0 _ _ _ q12
  have e1 : w2.cell? ⟨w.heap.size + 1, 1, none⟩ = some (.int .i64 s) := cell_of_row _ _ 1 _ _ _ q12
  go_cut [20] from 46 to 51 (fun s20 wx => s20 = .int .i64 (kdF p r s data) ∧ Ext w2 wx)
  case first =>
    cases hfu : fullP p r s with
    | false =>
      simp only [hfu] at kFu
      go_wp2_with (refine loadPlanP q02 rfl rfl rfl ?_)
      refine (kFu _).mono ?_
      rintro e w5 ⟨rfl, h5⟩
      go_wp2_with fail
      go_meet
      exact ⟨by unfold kdF; rw [hfu]; rfl, h5⟩
    | true =>
      simp only [hfu] at kFu
      by_cases hd0 : data = []
      · have dz : decide ((0 : Int) < (data.length : Int)) = false := by rw [hd0]; rfl
        have dz2 : ¬ (0 < data.length) := by rw [hd0]; simp
        have HD0 := Lib.hid hd0
        clear hd0
        go_wp2_with (refine loadPlanP q02 rfl rfl rfl ?_)
        refine (kFu _).mono ?_
        rintro e w5 ⟨rfl, h5⟩
        go_wp2_with fail
        go_meet
        exact ⟨by unfold kdF; rw [hfu, if_pos rfl, if_pos HD0.out], h5⟩
      · have hpos := List.length_pos_iff.2 hd0
        have dz : decide ((0 : Int) < (data.length : Int)) = true := decide_eq_true (by omega)
        go_wp2_with (refine loadPlanP q02 rfl rfl rfl ?_)
        refine (kFu _).mono ?_
        rintro e w5 ⟨rfl, h5⟩
        go_wp2_with fail
        go_meet
        exact ⟨by unfold kdF; rw [hfu, if_pos rfl, if_neg hd0], h5⟩
  case rest =>
  obtain ⟨rfl, hE5⟩ := hcut
  obtain ⟨W5, hW5⟩ : ∃ W5, W5 = wc := ⟨_, rfl⟩
  subst hW5
  have x5 := x2.trans hE5
  have q05 := hE5.block q02
  have q15 := hE5.block q12
  clear x2 q02 q12 e0 e1 kFu hE5 dA hwc
  have hHas := has_of hh
  have hw0 := hHas.w0
  have hw1 := hHas.w1
  have hexp : 0 ≤ expP p r s ∧ expP p r s ≤ 36028797021061120 := by
    have h1 := hHas.beg
    have h2 := hHas.mid
    have a := hHas.f0; have b := hHas.f1
    unfold expP senP
    omega
  obtain ⟨k1, k2, k3⟩ := kdF_cases p r s data
  have hchk := made_chk (v := v) hh k1 hl
  have hraw : (encF (madeF (kdF p r s data) r s 0 v data)).getD [] = frmBy (madeF (kdF p r s data) r s 0 v data) := by unfold encF; rw [if_pos hchk]; rfl
  have hrl : (frmBy (madeF (kdF p r s data) r s 0 v data)).length ≤ 1000 ∧ (frmBy (madeF (kdF p r s data) r s 0 v data)).length ≠ 0 ∧ (frmBy (madeF (kdF p r s data) r s 0 v data)).length ≠ 1 := by
    have hb : (madeF (kdF p r s data) r s 0 v data).b = data := made_b k2
    rw [frm_len hchk]
    unfold longF
    rw [hb]
    have hk : (madeF (kdF p r s data) r s 0 v data).k = kdF p r s data := rfl
    rw [hk]
    rcases k1 with e | e | e <;> rw [e] <;> simp <;> omega
  have hcut := cut_none hchk
  have hin := fun by' h0 h1 => (heard_in (vl := [a, b]) (v := v) (by' := by') (l := data) (chk_two hh) hh hl hv0 hv h0 h1).trans (look_two hh hl hv0 hv ha0 ha hb0 hb _)
  have hout := fun by' raw h0 h1 hr hx => heard_out (vl := [a, b]) (raw := raw) (by' := by') (chk_two hh) hh h0 h1 hr hx
  have hnull := fun x => heard_null (vl := [a, b]) (x := x) (chk_two (a := a) (b := b) hh)
  have hgk : (noC (madeF (kdF p r s data) r s 0 v data)).k = kdF p r s data := by rw [noC_k]; rfl
  have hgb : (noC (madeF (kdF p r s data) r s 0 v data)).b = data := by rw [noC_b]; exact made_b k2
  have kM := fun W h => made_calls (kdF p r s data) r s 0 v data (da, data.length, dc) W h hv0 hv
  rw [hraw] at kM
  generalize frmBy (madeF (kdF p r s data) r s 0 v data) = R at *
  generalize noC (madeF (kdF p r s data) r s 0 v data) = G at *
  generalize kdF p r s data = kd at *
  clear hraw hchk k1 k2 k3
  have kL := fun W => look_calls r s v W
  unfold plV at kL
  unfold slV at kM
  simp only at kM
  unfold MadeB at kM
  have e0 : W5.cell? ⟨w.heap.size + 1, 0, none⟩ = some (.int .i64 r) := cell_of_row _ _ 0 _ _ _ q15
  have e1 : W5.cell? ⟨w.heap.size + 1, 1, none⟩ = some (.int .i64 s) := cell_of_row _ _ 1 _ _ _ q15
  have HK2 := Lib.hid (And.intro hin (And.intro hout (And.intro hnull (And.intro hgk (And.intro hgb (And.intro hcut hrl))))))
  clear hin hout hnull hgk hgb hcut hrl
  go_wp2_with fail
  refine (kL _).mono ?_
  rintro e w6 ⟨rfl, h6⟩
  have x6 := x5.trans h6
  have q06 := h6.block q05
  have q16 := h6.block q15
  clear kL h6 x5 q05 q15 e0 e1
  go_wp2_with fail
  refine (kM _ (HD.out.ext x6)).mono ?_
  rintro e w7 ⟨u7, rfl, hu7, h7⟩
  have x7 := x6.trans h7
  have q07 := h7.block q06
  have q17 := h7.block q16
  have hrl := HK2.out.2.2.2.2.2.2
  have hub7 := hu7.bys (by unfold maxLen; omega)
  obtain ⟨ua, uc, rfl⟩ := hu7.slice
  clear kM h7 x6 q06 q16 hu7
  have c4 : w7.cell? ⟨w.heap.size, 4, none⟩ = some (.int .i64 p.window) := cell_of_row _ _ 4 _ _ _ q07
  have e0 : w7.cell? ⟨w.heap.size + 1, 0, none⟩ = some (.int .i64 r) := cell_of_row _ _ 0 _ _ _ q17
  have e1 : w7.cell? ⟨w.heap.size + 1, 1, none⟩ = some (.int .i64 s) := cell_of_row _ _ 1 _ _ _ q17
  have wo : IntKind.i64.wrap off = off := by rw [IntKind.wrap_i64]; omega
  have ww : IntKind.i64.wrap (p.window + 1) = p.window + 1 := by rw [IntKind.wrap_i64]; omega
  have wz : ¬ (p.window + 1 = 0) := by omega
  obtain ⟨bv, hbv⟩ : ∃ bv, off.tmod (p.window + 1) = bv := ⟨_, rfl⟩
  have hb1 : bv ≤ p.window := by have := Int.tmod_lt_of_pos off (show 0 < p.window + 1 by omega); omega
  have hb0' : -p.window ≤ bv := by
    have := Int.tmod_lt_of_pos (-off) (show 0 < p.window + 1 by omega)
    rw [Int.neg_tmod] at this
    omega
  have wb : IntKind.i64.wrap bv = bv := by rw [IntKind.wrap_i64]; omega
  have we : IntKind.i64.wrap (expP p r s + bv) = expP p r s + bv := by rw [IntKind.wrap_i64]; omega
  have kH := fun raw x q vv W h1 h2 h3 => heard_calls p r s x raw q vv [a, b] W h1 h2 h3 (by simp) (by intro y hy; simp at hy; rcases hy with rfl | rfl <;> omega)
  unfold plV at kH
  have hX := HK2.out.1 bv hb0' hb1
  go_upto_region 12 with fail
  obtain ⟨X, hXe⟩ : ∃ X, heardS p r s [a, b] R (expP p r s + bv) = X := ⟨_, rfl⟩
  rw [hXe] at hX
  have HXX := Lib.hid hX
  clear hX
  have q08 := (Ext.alloc _ (.cells #[.int .u16 a, .int .u16 b] 23)).block q07
  have kH1 := kH R (expP p r s + bv) _ (.slice (some ⟨w7.heap.size, 0, none⟩) 2 2) (w7.alloc (.cells #[.int .u16 a, .int .u16 b] 23)) (hub7.alloc _) (by omega) (vec_two w7 a b)
  rw [hXe] at kH1
  clear hexp
  go_wp2_with (refine loadPlanP q07 rfl rfl rfl ?_)
  refine kH1.mono ?_
  rintro e w8 ⟨sl, rfl, hsl, h8⟩
  have x8 : Ext w w8 := x7.trans ((Ext.alloc _ _).trans h8)
  have q09 := h8.block q08
  have q19 := h8.block ((Ext.alloc _ (.cells #[.int .u16 a, .int .u16 b] 23)).block q17)
  have hub8 := (hub7.alloc (.cells #[.int .u16 a, .int .u16 b] 23)).ext h8
  clear kH1 h8 x7 q08 q07 q17 hub7 c4 e0 e1 hXe
  have ra' := heap_alloc_new w8 (.cells #[.int .i64 0, .int .i64 0, .int .i64 0, .int .i64 0, .int .i64 0, .int .i64 0, .int .i64 0, .int .u16 0, .slice none 0 0] TSta)
  have rb := setRow_heap (w8.alloc (.cells #[.int .i64 0, .int .i64 0, .int .i64 0, .int .i64 0, .int .i64 0, .int .i64 0, .int .i64 0, .int .u16 0, .slice none 0 0] TSta)) w8.heap.size _ (staC X (slV sl)) _ _ ra'
  have xe : Ext w8 ((w8.alloc (.cells #[.int .i64 0, .int .i64 0, .int .i64 0, .int .i64 0, .int .i64 0, .int .i64 0, .int .i64 0, .int .u16 0, .slice none 0 0] TSta)).setRow w8.heap.size (staC X (slV sl))) := (Ext.alloc _ _).setRow (Nat.le_refl _) _
  have hsl9 := hsl.ext xe
  have x9 := x8.trans xe
  have q0a := xe.block q09
  have q1a := xe.block q19
  have hub9 := hub8.ext xe
  clear xe hsl x8 q09 q19 hub8
  go_upto_region 13 with (refine storeStaB (m := X) (sl := sl) ra' rfl rfl rfl rfl rfl ?_; clear ra')
  generalize hVV : (w8.alloc (.cells #[.int .i64 0, .int .i64 0, .int .i64 0, .int .i64 0, .int .i64 0, .int .i64 0, .int .i64 0, .int .u16 0, .slice none 0 0] TSta)).setRow w8.heap.size (staC X (slV sl)) = V at *
  clear hVV
  simp only [Act.put]
  go_cut [24] from 24 to 24 (fun s24 wx => s24 = .int .i64 1 ∧ wx = V)
  case first =>
    go_wp2_with fail
    go_meet
    exact ⟨rfl, rfl⟩
  case rest =>
  obtain ⟨rfl, hwc⟩ := hcut
  have hwc := hwc.symm
  subst hwc
  go_step
  go_step
  go_cut [24] from 74 to 79 (fun s24 wx => s24 = .int .i64 (if v = a then 2 else if v = b then 3 else 1) ∧ wx = V)
  case first =>
    by_cases e1 : v = a
    · have t1 : (v == a) = true := by rw [e1]; simp
      have HE1 := Lib.hid e1
      clear e1
      go_wp2_with fail
      go_meet
      exact ⟨by rw [if_pos HE1.out], rfl⟩
    · have t1 : (v == a) = false := beq_eq_false_iff_ne.2 e1
      by_cases e2 : v = b
      · have t2 : (v == b) = true := by rw [e2]; simp
        have HE1 := Lib.hid (And.intro e1 e2)
        clear e1 e2
        go_wp2_with fail
        go_meet
        exact ⟨by rw [if_neg HE1.out.1, if_pos HE1.out.2], rfl⟩
      · have t2 : (v == b) = false := beq_eq_false_iff_ne.2 e2
        have HE1 := Lib.hid (And.intro e1 e2)
        clear e1 e2
        go_wp2_with fail
        go_meet
        exact ⟨by rw [if_neg HE1.out.1, if_neg HE1.out.2], rfl⟩
  case rest =>
  obtain ⟨rfl, hwc⟩ := hcut
  have hwc := hwc.symm
  subst hwc
  go_step
  go_step
  have c0 : V.cell? ⟨w8.heap.size, 0, none⟩ = some (.int .i64 X.k) := cell_of_row _ _ 0 _ _ _ rb
  have c1 : V.cell? ⟨w8.heap.size, 1, none⟩ = some (.int .i64 X.l) := cell_of_row _ _ 1 _ _ _ rb
  have c2 : V.cell? ⟨w8.heap.size, 2, none⟩ = some (.int .i64 X.d) := cell_of_row _ _ 2 _ _ _ rb
  have c3 : V.cell? ⟨w8.heap.size, 3, none⟩ = some (.int .i64 X.f.k) := cell_of_row _ _ 3 _ _ _ rb
  have c7 : V.cell? ⟨w8.heap.size, 7, none⟩ = some (.int .u16 X.f.v) := cell_of_row _ _ 7 _ _ _ rb
  have c8 : V.cell? ⟨w8.heap.size, 8, none⟩ = some (slV sl) := cell_of_row _ _ 8 _ _ _ rb
  have dz : decide ((R.length : Int) = 0) = false := decide_eq_false (by omega)
  have dz2 : ((R.length : Int) == 0) = false := by rw [beq_eq_false_iff_ne]; omega
  have hrl1 := hrl.1
  have hrl2 := hrl.2.1
  have hrl3 := hrl.2.2
  have HR := Lib.hid hrl
  clear hrl
  go_cut [24] from 80 to 102 (fun s24 wx => s24 = .int .i64 (if v = a then 2 else if v = b then 3 else 1) ∧ wx = V)
  case first =>
    by_cases e1 : v = a
    · have hX := HXX.out
      rw [if_pos e1] at hX ⊢
      clear HXX
      subst hX
      simp only at c0 c1 c2
      have HE1 := Lib.hid e1
      clear c3 c7 c8 rb hsl9 e1
      go_wp2_with fail
      go_meet
      exact ⟨by rw [if_pos HE1.out], rfl⟩
    · have hX := HXX.out
      rw [if_neg e1] at hX ⊢
      clear HXX
      by_cases e2 : v = b
      · rw [if_pos e2] at hX ⊢
        subst hX
        simp only at c0 c1 c2
        have HE1 := Lib.hid (And.intro e1 e2)
        clear c3 c7 c8 rb hsl9 e1 e2
        go_wp2_with fail
        go_meet
        exact ⟨by rw [if_neg HE1.out.1, if_pos HE1.out.2], rfl⟩
      · rw [if_neg e2] at hX ⊢
        subst hX
        simp only at c0 c1 c2
        have HE1 := Lib.hid (And.intro e1 e2)
        clear c3 c7 c8 rb hsl9 e1 e2
        go_wp2_with fail
        go_meet
        exact ⟨by rw [if_neg HE1.out.1, if_neg HE1.out.2], rfl⟩
  case rest =>
  obtain ⟨rfl, hwc⟩ := hcut
  have hwc := hwc.symm
  subst hwc
  clear c0 c1 c2
  go_step
  go_step
  go_cut [24] from 103 to 128 (fun s24 wx => wx = V)
  case first =>
    have ks := fun (W : World) (v : Value) (l : List UInt8) (h : Bys W v l) => run_string_bys (P := Try.prog) Try.underlying26 Try.underlying5 Try.underlying9 h
    have kd1 := ks V _ _ (HD.out.ext x9)
    have hgk := HK2.out.2.2.2.1
    have hgb := HK2.out.2.2.2.2.1
    by_cases e1 : v = a
    · have hX := HXX.out
      rw [if_pos e1] at hX ⊢
      clear HXX
      subst hX
      have hsb := hsl9.bys (by show G.b.length ≤ _; rw [hgb]; unfold maxLen; omega)
      have hsb : Bys V (slV sl) G.b := hsb
      rw [hgb] at hsb
      obtain ⟨fa, fc, hfs⟩ : ∃ x y, slV sl = .slice x data.length y := by obtain ⟨x, y, h, _⟩ := hsb; exact ⟨x, y, h⟩
      rw [hfs] at hsb c8
      have kd2 := ks V _ _ hsb
      replace c3 : V.cell? ⟨w8.heap.size, 3, none⟩ = some (.int .i64 kd) := by rw [c3]; show some (Value.int .i64 G.k) = _; rw [hgk]
      replace c7 : V.cell? ⟨w8.heap.size, 7, none⟩ = some (.int .u16 v) := by rw [c7, e1]; rfl
      clear rb hsl9 e1 hsb hfs hgk hgb
      go_wp2_with fail
      go_meet
      rfl
    · have hX := HXX.out
      rw [if_neg e1] at hX ⊢
      clear HXX
      by_cases e2 : v = b
      · rw [if_pos e2] at hX ⊢
        subst hX
        have hsb := hsl9.bys (by show G.b.length ≤ _; rw [hgb]; unfold maxLen; omega)
        have hsb : Bys V (slV sl) G.b := hsb
        rw [hgb] at hsb
        obtain ⟨fa, fc, hfs⟩ : ∃ x y, slV sl = .slice x data.length y := by obtain ⟨x, y, h, _⟩ := hsb; exact ⟨x, y, h⟩
        rw [hfs] at hsb c8
        have kd2 := ks V _ _ hsb
        replace c3 : V.cell? ⟨w8.heap.size, 3, none⟩ = some (.int .i64 kd) := by rw [c3]; show some (Value.int .i64 G.k) = _; rw [hgk]
        replace c7 : V.cell? ⟨w8.heap.size, 7, none⟩ = some (.int .u16 v) := by rw [c7, e2]; rfl
        clear rb hsl9 e1 e2 hsb hfs hgk hgb
        go_wp2_with fail
        go_meet
        rfl
      · rw [if_neg e2] at hX ⊢
        clear rb hsl9 e1 e2 hX c3 c7 c8 hgk hgb
        go_wp2_with fail
        go_meet
        rfl
  case rest =>
  obtain rfl := hcut.symm
  clear c3 c7 c8 rb hsl9 HXX
  go_wp2_with fail
  have hcutn := HK2.out.2.2.2.2.2.1
  have hout := HK2.out.2.1
  have hnull := HK2.out.2.2.1
  have hE := has_of hh
  have hexp : 0 ≤ expP p r s ∧ expP p r s ≤ 36028797021061120 := by
    have h1 := hE.beg
    have h2 := hE.mid
    have a := hE.f0; have b := hE.f1
    unfold expP senP
    omega
  have hA1 : heardS p r s [a, b] (R.take (R.length - 1)) (expP p r s + bv) = sta0 1 := hout bv _ (by omega) (by omega) (by rw [List.length_take]; omega) (.inl hcutn)
  have hA2 : heardS p r s [a, b] R (expP p r s - p.window - 1) = sta0 1 := by
    rw [show expP p r s - p.window - 1 = expP p r s + (-p.window - 1) by omega]
    exact hout (-p.window - 1) R (by omega) (by omega) hrl2 (.inr (.inl (by omega)))
  have hA3 : heardS p r s [a, b] R (expP p r s + p.window + 1) = sta0 1 := by
    rw [show expP p r s + p.window + 1 = expP p r s + (p.window + 1) by omega]
    exact hout (p.window + 1) R (by omega) (by omega) hrl2 (.inr (.inr (by omega)))
  have hA4 := hnull (expP p r s)
  have wm : IntKind.i64.wrap (expP p r s - p.window - 1) = expP p r s - p.window - 1 := by rw [IntKind.wrap_i64]; omega
  have wp' : IntKind.i64.wrap (expP p r s + p.window + 1) = expP p r s + p.window + 1 := by rw [IntKind.wrap_i64]; omega
  have kC := fun W h => frmCut_calls (.slice ua R.length uc) R W h (by omega)
  unfold MadeB at kC
  have kr : ∀ W, Ext V.drew W → W.heap[w.heap.size]? = some (.cells (planC p) 35) ∧ W.cell? ⟨w.heap.size + 1, 0, none⟩ = some (.int .i64 r) ∧ W.cell? ⟨w.heap.size + 1, 1, none⟩ = some (.int .i64 s) ∧ Ext V W := fun W h => by
    have he := Ext.of_drew h
    exact ⟨he.block q0a, cell_of_row _ _ 0 _ _ _ (he.block q1a), cell_of_row _ _ 1 _ _ _ (he.block q1a), he⟩
  clear hcutn hout hnull hE hexp HK2 HR dz dz2
  refine wp_region_rg Ext [(5, .unk (fun v W => Bys W v (R.take (R.length - 1))) (fun _ _ _ x h => h.ext x)), (11, .unk (fun v W => VecE W v [a, b]) (fun _ _ _ x h => h.ext x)), (12, .unk (StVal (sta0 1)) (fun _ _ _ _ h => h)), (13, .known (.int .i64 1)),
      (24, .unk (fun v W => VecE W v [a, b]) (fun _ _ _ x h => h.ext x)), (25, .unk (StVal (sta0 1)) (fun _ _ _ _ h => h)), (26, .known (.int .i64 1)), (37, .unk (fun v W => VecE W v [a, b]) (fun _ _ _ x h => h.ext x)), (38, .unk (StVal (sta0 1)) (fun _ _ _ _ h => h)), (39, .known (.int .i64 1)),
      (48, .unk (fun v W => VecE W v [a, b]) (fun _ _ _ x h => h.ext x)), (49, .unk (StVal (sta0 0)) (fun _ _ _ _ h => h)), (50, .known (.int .i64 0))] (by kernel_rfl) (by kernel_rfl) (by kernel_rfl) Ext.refl (fun _ _ _ => Ext.trans) ?_
  intro σ
  simp only
  refine rg_pure (x := ?_) rfl (by rfl) (fun W hW => ?_) ?_
  rotate_left
  · obtain ⟨-, f1, f2, -⟩ := kr W hW; go_simp; with_reducible rfl
  simp only [Nat.reduceAdd, Act.put, List.setIfInBounds_toArray, List.set_cons_zero, List.set_cons_succ]
  refine rg_pure (x := ?_) rfl (by rfl) (fun W hW => ?_) ?_
  rotate_left
  · obtain ⟨-, f1, f2, -⟩ := kr W hW; go_simp; with_reducible rfl
  simp only [Nat.reduceAdd, Act.put, List.setIfInBounds_toArray, List.set_cons_zero, List.set_cons_succ]
  refine rg_pure (x := planV p) rfl (by rfl) (fun W hW => exec_loadPlanE (kr W hW).1 rfl rfl) ?_
  simp only [Nat.reduceAdd, Act.put, List.setIfInBounds_toArray, List.set_cons_zero, List.set_cons_succ]
  refine rg_pure (x := ?_) rfl (by rfl) (fun W hW => ?_) ?_
  rotate_left
  · obtain ⟨-, f1, f2, -⟩ := kr W hW; go_simp; with_reducible rfl
  simp only [Nat.reduceAdd, Act.put, List.setIfInBounds_toArray, List.set_cons_zero, List.set_cons_succ]
  refine rg_pure (x := ?_) rfl (by rfl) (fun W hW => ?_) ?_
  rotate_left
  · obtain ⟨-, f1, f2, -⟩ := kr W hW; go_simp; with_reducible rfl
  simp only [Nat.reduceAdd, Act.put, List.setIfInBounds_toArray, List.set_cons_zero, List.set_cons_succ]
  refine rg_unk rfl (by rfl) (fun W hW hF => ?_) ?_
  · have he := (kr W hW).2.2.2
    go_simp
    refine (kC W (hub9.ext he)).mono ?_
    rintro e W' ⟨u, rfl, ho, hx⟩
    exact ⟨_, rfl, hx, ho.bys (by rw [List.length_take]; unfold maxLen; omega)⟩
  simp only [Nat.reduceAdd, Act.put, List.setIfInBounds_toArray, List.set_cons_zero, List.set_cons_succ]
  refine rg_pure (x := ?_) rfl (by rfl) (fun W hW => ?_) ?_
  rotate_left
  · obtain ⟨-, f1, f2, -⟩ := kr W hW; go_simp; with_reducible rfl
  simp only [Nat.reduceAdd, Act.put, List.setIfInBounds_toArray, List.set_cons_zero, List.set_cons_succ]
  refine rg_pure (x := ?_) rfl (by rfl) (fun W hW => ?_) ?_
  rotate_left
  · obtain ⟨-, f1, f2, -⟩ := kr W hW; go_simp; with_reducible rfl
  simp only [Nat.reduceAdd, Act.put, List.setIfInBounds_toArray, List.set_cons_zero, List.set_cons_succ]
  refine rg_pure (x := ?_) rfl (by rfl) (fun W hW => ?_) ?_
  rotate_left
  · obtain ⟨-, f1, f2, -⟩ := kr W hW; go_simp; with_reducible rfl
  simp only [Nat.reduceAdd, Act.put, List.setIfInBounds_toArray, List.set_cons_zero, List.set_cons_succ]
  refine rg_pure (x := ?_) rfl (by rfl) (fun W hW => ?_) ?_
  rotate_left
  · obtain ⟨-, f1, f2, -⟩ := kr W hW; go_simp; with_reducible rfl
  simp only [Nat.reduceAdd, Act.put, List.setIfInBounds_toArray, List.set_cons_zero, List.set_cons_succ]
  refine rg_pure (x := ?_) rfl (by rfl) (fun W hW => ?_) ?_
  rotate_left
  · obtain ⟨-, f1, f2, -⟩ := kr W hW; go_simp; with_reducible rfl
  simp only [Nat.reduceAdd, Act.put, List.setIfInBounds_toArray, List.set_cons_zero, List.set_cons_succ]
  refine rg_unk rfl (by rfl) (fun W hW hF => ?_) ?_
  · go_simp; exact ⟨Ext.alloc _ _, vec_two W a b⟩
  simp only [Nat.reduceAdd, Act.put, List.setIfInBounds_toArray, List.set_cons_zero, List.set_cons_succ]
  refine rg_unk rfl (by rfl) (fun W hW hF => ?_) ?_
  · have he := (kr W hW).2.2.2
    have hvv : VecE W (σ 11) [a, b] := hF 11 _ _ rfl (by kernel_rfl)
    have hrw : Bys W (σ 5) (R.take (R.length - 1)) := hF 5 _ _ rfl (by kernel_rfl)
    go_simp
    refine (kH (R.take (R.length - 1)) (expP p r s + bv) _ _ W hrw (by rw [List.length_take]; omega) hvv).mono ?_
    rintro e W' ⟨sl', rfl, ho, hx⟩
    rw [hA1] at ho ⊢
    exact ⟨_, rfl, hx, sl', rfl⟩
  simp only [Nat.reduceAdd, Act.put, List.setIfInBounds_toArray, List.set_cons_zero, List.set_cons_succ]
  refine rg_known rfl (by rfl) (fun W hW hF => ?_) ?_
  · obtain ⟨sl', hs'⟩ := hF 12 _ _ rfl (by kernel_rfl)
    have hs' : σ 12 = .agg (staC (sta0 1) (slV sl')) := hs'
    unfold staC at hs'
    go_simp
    exact ⟨Ext.refl _, rfl⟩
  simp only [Nat.reduceAdd, Act.put, List.setIfInBounds_toArray, List.set_cons_zero, List.set_cons_succ]
  refine rg_pure (x := ?_) rfl (by rfl) (fun W hW => ?_) ?_
  rotate_left
  · obtain ⟨-, f1, f2, -⟩ := kr W hW; go_simp; with_reducible rfl
  simp only [Nat.reduceAdd, Act.put, List.setIfInBounds_toArray, List.set_cons_zero, List.set_cons_succ]
  refine rg_pure (x := ?_) rfl (by rfl) (fun W hW => ?_) ?_
  rotate_left
  · obtain ⟨-, f1, f2, -⟩ := kr W hW; go_simp; with_reducible rfl
  simp only [Nat.reduceAdd, Act.put, List.setIfInBounds_toArray, List.set_cons_zero, List.set_cons_succ]
  refine rg_pure (x := ?_) rfl (by rfl) (fun W hW => ?_) ?_
  rotate_left
  · obtain ⟨-, f1, f2, -⟩ := kr W hW; go_simp; with_reducible rfl
  simp only [Nat.reduceAdd, Act.put, List.setIfInBounds_toArray, List.set_cons_zero, List.set_cons_succ]
  refine rg_pure (x := planV p) rfl (by rfl) (fun W hW => exec_loadPlanE (kr W hW).1 rfl rfl) ?_
  simp only [Nat.reduceAdd, Act.put, List.setIfInBounds_toArray, List.set_cons_zero, List.set_cons_succ]
  refine rg_pure (x := ?_) rfl (by rfl) (fun W hW => ?_) ?_
  rotate_left
  · obtain ⟨-, f1, f2, -⟩ := kr W hW; go_simp; with_reducible rfl
  simp only [Nat.reduceAdd, Act.put, List.setIfInBounds_toArray, List.set_cons_zero, List.set_cons_succ]
  refine rg_pure (x := ?_) rfl (by rfl) (fun W hW => ?_) ?_
  rotate_left
  · obtain ⟨-, f1, f2, -⟩ := kr W hW; go_simp; with_reducible rfl
  simp only [Nat.reduceAdd, Act.put, List.setIfInBounds_toArray, List.set_cons_zero, List.set_cons_succ]
  refine rg_pure (x := ?_) rfl (by rfl) (fun W hW => ?_) ?_
  rotate_left
  · obtain ⟨-, f1, f2, -⟩ := kr W hW; go_simp; with_reducible rfl
  simp only [Nat.reduceAdd, Act.put, List.setIfInBounds_toArray, List.set_cons_zero, List.set_cons_succ]
  refine rg_pure (x := ?_) rfl (by rfl) (fun W hW => ?_) ?_
  rotate_left
  · obtain ⟨-, f1, f2, -⟩ := kr W hW; go_simp; with_reducible rfl
  simp only [Nat.reduceAdd, Act.put, List.setIfInBounds_toArray, List.set_cons_zero, List.set_cons_succ]
  refine rg_pure (x := ?_) rfl (by rfl) (fun W hW => ?_) ?_
  rotate_left
  · obtain ⟨-, f1, f2, -⟩ := kr W hW; go_simp; with_reducible rfl
  simp only [Nat.reduceAdd, Act.put, List.setIfInBounds_toArray, List.set_cons_zero, List.set_cons_succ]
  refine rg_pure (x := ?_) rfl (by rfl) (fun W hW => ?_) ?_
  rotate_left
  · obtain ⟨-, f1, f2, -⟩ := kr W hW; go_simp; with_reducible rfl
  simp only [Nat.reduceAdd, Act.put, List.setIfInBounds_toArray, List.set_cons_zero, List.set_cons_succ]
  refine rg_unk rfl (by rfl) (fun W hW hF => ?_) ?_
  · go_simp; exact ⟨Ext.alloc _ _, vec_two W a b⟩
  simp only [Nat.reduceAdd, Act.put, List.setIfInBounds_toArray, List.set_cons_zero, List.set_cons_succ]
  refine rg_unk rfl (by rfl) (fun W hW hF => ?_) ?_
  · have he := (kr W hW).2.2.2
    have hvv : VecE W (σ 24) [a, b] := hF 24 _ _ rfl (by kernel_rfl)
    have hrw := hub9.ext he
    go_simp
    refine (kH R (expP p r s - p.window - 1) _ _ W hrw (by omega) hvv).mono ?_
    rintro e W' ⟨sl', rfl, ho, hx⟩
    rw [hA2] at ho ⊢
    exact ⟨_, rfl, hx, sl', rfl⟩
  simp only [Nat.reduceAdd, Act.put, List.setIfInBounds_toArray, List.set_cons_zero, List.set_cons_succ]
  refine rg_known rfl (by rfl) (fun W hW hF => ?_) ?_
  · obtain ⟨sl', hs'⟩ := hF 25 _ _ rfl (by kernel_rfl)
    have hs' : σ 25 = .agg (staC (sta0 1) (slV sl')) := hs'
    unfold staC at hs'
    go_simp
    exact ⟨Ext.refl _, rfl⟩
  simp only [Nat.reduceAdd, Act.put, List.setIfInBounds_toArray, List.set_cons_zero, List.set_cons_succ]
  refine rg_pure (x := ?_) rfl (by rfl) (fun W hW => ?_) ?_
  rotate_left
  · obtain ⟨-, f1, f2, -⟩ := kr W hW; go_simp; with_reducible rfl
  simp only [Nat.reduceAdd, Act.put, List.setIfInBounds_toArray, List.set_cons_zero, List.set_cons_succ]
  refine rg_pure (x := ?_) rfl (by rfl) (fun W hW => ?_) ?_
  rotate_left
  · obtain ⟨-, f1, f2, -⟩ := kr W hW; go_simp; with_reducible rfl
  simp only [Nat.reduceAdd, Act.put, List.setIfInBounds_toArray, List.set_cons_zero, List.set_cons_succ]
  refine rg_pure (x := ?_) rfl (by rfl) (fun W hW => ?_) ?_
  rotate_left
  · obtain ⟨-, f1, f2, -⟩ := kr W hW; go_simp; with_reducible rfl
  simp only [Nat.reduceAdd, Act.put, List.setIfInBounds_toArray, List.set_cons_zero, List.set_cons_succ]
  refine rg_pure (x := planV p) rfl (by rfl) (fun W hW => exec_loadPlanE (kr W hW).1 rfl rfl) ?_
  simp only [Nat.reduceAdd, Act.put, List.setIfInBounds_toArray, List.set_cons_zero, List.set_cons_succ]
  refine rg_pure (x := ?_) rfl (by rfl) (fun W hW => ?_) ?_
  rotate_left
  · obtain ⟨-, f1, f2, -⟩ := kr W hW; go_simp; with_reducible rfl
  simp only [Nat.reduceAdd, Act.put, List.setIfInBounds_toArray, List.set_cons_zero, List.set_cons_succ]
  refine rg_pure (x := ?_) rfl (by rfl) (fun W hW => ?_) ?_
  rotate_left
  · obtain ⟨-, f1, f2, -⟩ := kr W hW; go_simp; with_reducible rfl
  simp only [Nat.reduceAdd, Act.put, List.setIfInBounds_toArray, List.set_cons_zero, List.set_cons_succ]
  refine rg_pure (x := ?_) rfl (by rfl) (fun W hW => ?_) ?_
  rotate_left
  · obtain ⟨-, f1, f2, -⟩ := kr W hW; go_simp; with_reducible rfl
  simp only [Nat.reduceAdd, Act.put, List.setIfInBounds_toArray, List.set_cons_zero, List.set_cons_succ]
  refine rg_pure (x := ?_) rfl (by rfl) (fun W hW => ?_) ?_
  rotate_left
  · obtain ⟨-, f1, f2, -⟩ := kr W hW; go_simp; with_reducible rfl
  simp only [Nat.reduceAdd, Act.put, List.setIfInBounds_toArray, List.set_cons_zero, List.set_cons_succ]
  refine rg_pure (x := ?_) rfl (by rfl) (fun W hW => ?_) ?_
  rotate_left
  · obtain ⟨-, f1, f2, -⟩ := kr W hW; go_simp; with_reducible rfl
  simp only [Nat.reduceAdd, Act.put, List.setIfInBounds_toArray, List.set_cons_zero, List.set_cons_succ]
  refine rg_pure (x := ?_) rfl (by rfl) (fun W hW => ?_) ?_
  rotate_left
  · obtain ⟨-, f1, f2, -⟩ := kr W hW; go_simp; with_reducible rfl
  simp only [Nat.reduceAdd, Act.put, List.setIfInBounds_toArray, List.set_cons_zero, List.set_cons_succ]
  refine rg_unk rfl (by rfl) (fun W hW hF => ?_) ?_
  · go_simp; exact ⟨Ext.alloc _ _, vec_two W a b⟩
  simp only [Nat.reduceAdd, Act.put, List.setIfInBounds_toArray, List.set_cons_zero, List.set_cons_succ]
  refine rg_unk rfl (by rfl) (fun W hW hF => ?_) ?_
  · have he := (kr W hW).2.2.2
    have hvv : VecE W (σ 37) [a, b] := hF 37 _ _ rfl (by kernel_rfl)
    have hrw := hub9.ext he
    go_simp
    refine (kH R (expP p r s + p.window + 1) _ _ W hrw (by omega) hvv).mono ?_
    rintro e W' ⟨sl', rfl, ho, hx⟩
    rw [hA3] at ho ⊢
    exact ⟨_, rfl, hx, sl', rfl⟩
  simp only [Nat.reduceAdd, Act.put, List.setIfInBounds_toArray, List.set_cons_zero, List.set_cons_succ]
  refine rg_known rfl (by rfl) (fun W hW hF => ?_) ?_
  · obtain ⟨sl', hs'⟩ := hF 38 _ _ rfl (by kernel_rfl)
    have hs' : σ 38 = .agg (staC (sta0 1) (slV sl')) := hs'
    unfold staC at hs'
    go_simp
    exact ⟨Ext.refl _, rfl⟩
  simp only [Nat.reduceAdd, Act.put, List.setIfInBounds_toArray, List.set_cons_zero, List.set_cons_succ]
  refine rg_pure (x := ?_) rfl (by rfl) (fun W hW => ?_) ?_
  rotate_left
  · obtain ⟨-, f1, f2, -⟩ := kr W hW; go_simp; with_reducible rfl
  simp only [Nat.reduceAdd, Act.put, List.setIfInBounds_toArray, List.set_cons_zero, List.set_cons_succ]
  refine rg_pure (x := ?_) rfl (by rfl) (fun W hW => ?_) ?_
  rotate_left
  · obtain ⟨-, f1, f2, -⟩ := kr W hW; go_simp; with_reducible rfl
  simp only [Nat.reduceAdd, Act.put, List.setIfInBounds_toArray, List.set_cons_zero, List.set_cons_succ]
  refine rg_pure (x := ?_) rfl (by rfl) (fun W hW => ?_) ?_
  rotate_left
  · obtain ⟨-, f1, f2, -⟩ := kr W hW; go_simp; with_reducible rfl
  simp only [Nat.reduceAdd, Act.put, List.setIfInBounds_toArray, List.set_cons_zero, List.set_cons_succ]
  refine rg_pure (x := planV p) rfl (by rfl) (fun W hW => exec_loadPlanE (kr W hW).1 rfl rfl) ?_
  simp only [Nat.reduceAdd, Act.put, List.setIfInBounds_toArray, List.set_cons_zero, List.set_cons_succ]
  refine rg_pure (x := ?_) rfl (by rfl) (fun W hW => ?_) ?_
  rotate_left
  · obtain ⟨-, f1, f2, -⟩ := kr W hW; go_simp; with_reducible rfl
  simp only [Nat.reduceAdd, Act.put, List.setIfInBounds_toArray, List.set_cons_zero, List.set_cons_succ]
  refine rg_pure (x := ?_) rfl (by rfl) (fun W hW => ?_) ?_
  rotate_left
  · obtain ⟨-, f1, f2, -⟩ := kr W hW; go_simp; with_reducible rfl
  simp only [Nat.reduceAdd, Act.put, List.setIfInBounds_toArray, List.set_cons_zero, List.set_cons_succ]
  refine rg_pure (x := ?_) rfl (by rfl) (fun W hW => ?_) ?_
  rotate_left
  · obtain ⟨-, f1, f2, -⟩ := kr W hW; go_simp; with_reducible rfl
  simp only [Nat.reduceAdd, Act.put, List.setIfInBounds_toArray, List.set_cons_zero, List.set_cons_succ]
  refine rg_pure (x := ?_) rfl (by rfl) (fun W hW => ?_) ?_
  rotate_left
  · obtain ⟨-, f1, f2, -⟩ := kr W hW; go_simp; with_reducible rfl
  simp only [Nat.reduceAdd, Act.put, List.setIfInBounds_toArray, List.set_cons_zero, List.set_cons_succ]
  refine rg_unk rfl (by rfl) (fun W hW hF => ?_) ?_
  · go_simp; exact ⟨Ext.alloc _ _, vec_two W a b⟩
  simp only [Nat.reduceAdd, Act.put, List.setIfInBounds_toArray, List.set_cons_zero, List.set_cons_succ]
  refine rg_unk rfl (by rfl) (fun W hW hF => ?_) ?_
  · have he := (kr W hW).2.2.2
    have hvv : VecE W (σ 48) [a, b] := hF 48 _ _ rfl (by kernel_rfl)
    have hrw := Bys.nil W
    go_simp
    refine (kH [] (expP p r s) _ _ W hrw (by simp) hvv).mono ?_
    rintro e W' ⟨sl', rfl, ho, hx⟩
    rw [hA4] at ho ⊢
    exact ⟨_, rfl, hx, sl', rfl⟩
  simp only [Nat.reduceAdd, Act.put, List.setIfInBounds_toArray, List.set_cons_zero, List.set_cons_succ]
  refine rg_known rfl (by rfl) (fun W hW hF => ?_) ?_
  · obtain ⟨sl', hs'⟩ := hF 49 _ _ rfl (by kernel_rfl)
    have hs' : σ 49 = .agg (staC (sta0 0) (slV sl')) := hs'
    unfold staC at hs'
    go_simp
    exact ⟨Ext.refl _, rfl⟩
  simp only [Nat.reduceAdd, Act.put, List.setIfInBounds_toArray, List.set_cons_zero, List.set_cons_succ]
  refine rg_pure (x := ?_) rfl (by rfl) (fun W hW => ?_) ?_
  rotate_left
  · obtain ⟨-, f1, f2, -⟩ := kr W hW; go_simp; with_reducible rfl
  simp only [Nat.reduceAdd, Act.put, List.setIfInBounds_toArray, List.set_cons_zero, List.set_cons_succ]
  refine rg_pure (x := ?_) rfl (by rfl) (fun W hW => ?_) ?_
  rotate_left
  · obtain ⟨-, f1, f2, -⟩ := kr W hW; go_simp; with_reducible rfl
  simp only [Nat.reduceAdd, Act.put, List.setIfInBounds_toArray, List.set_cons_zero, List.set_cons_succ]
  refine rg_pure (x := ?_) rfl (by rfl) (fun W hW => ?_) ?_
  rotate_left
  · obtain ⟨-, f1, f2, -⟩ := kr W hW; go_simp; with_reducible rfl
  simp only [Nat.reduceAdd, Act.put, List.setIfInBounds_toArray, List.set_cons_zero, List.set_cons_succ]
  refine rg_done fun W hW _ => ?_
  have xe := x9.trans (Ext.of_drew hW)
  go_wp2_with fail
  go_ret
  exact ⟨rfl, xe⟩
end Go.Proofs.Ytcdaelgnankmfaa.VSta
