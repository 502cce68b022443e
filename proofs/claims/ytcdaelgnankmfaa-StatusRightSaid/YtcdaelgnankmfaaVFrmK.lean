/- frame.Check. -/
import Derived.Test.YtcdaelgnankmfaaVFrmH
namespace Go.Proofs.Ytcdaelgnankmfaa.VSta
open Go.RowKit Go.VBase Go.VRg Go.VEq VCst VMsg

set_option maxRecDepth 100000 in
set_option maxHeartbeats 4000000 in
theorem frmCheck_calls (f : FrmD) (sx : Sl3) (hn : sx.2.1 = f.b.length) (w : World) :
    Calls Try.prog 45 #[.agg (frmC f (slV sx))] w fun e w' => e = .returned (.int .i64 (if chkF f then 0 else 50)) ∧ Ext w w' := by
  obtain ⟨sa, sn, sc⟩ := sx
  simp only at hn
  subst hn
  obtain ⟨fk, fr, fs, fm, fv, fb⟩ := f
  have hE := Lib.hid (Ext.alloc w (.cells (frmC ⟨fk, fr, fs, fm, fv, fb⟩ (slV (sa, fb.length, sc))) TFrm))
  have HR := Lib.hid (heap_alloc_new w (.cells (frmC ⟨fk, fr, fs, fm, fv, fb⟩ (slV (sa, fb.length, sc))) TFrm))
  obtain ⟨r, hr⟩ : ∃ r, r = Value.int .i64 (if chkF ⟨fk, fr, fs, fm, fv, fb⟩ then 0 else 50) := ⟨_, rfl⟩
  rw [← hr]
  have HV := Lib.hid hr
  clear hr
  have kC := fun W => Check_calls fr fs fm fv W
  unfold CheckPost cst at kC
  have kH := fun W => has_calls fk 1 W
  unfold frmC slV at *
  simp only at *
  have neg : ∀ e W', chkF ⟨fk, fr, fs, fm, fv, fb⟩ = false → Ext w W' → e = Ending.returned (.int .i64 50) → e = .returned r ∧ Ext w W' := fun e W' h x he => ⟨by rw [HV.out, h]; exact he, x⟩
  have pos : ∀ e W', chkF ⟨fk, fr, fs, fm, fv, fb⟩ = true → Ext w W' → e = Ending.returned (.int .i64 0) → e = .returned r ∧ Ext w W' := fun e W' h x he => ⟨by rw [HV.out, h]; exact he, x⟩
  have HN := Lib.hid (And.intro neg pos)
  clear neg pos
  by_cases hA : 1 ≤ fk ∧ fk ≤ 4
  rotate_left
  · have hF : chkF ⟨fk, fr, fs, fm, fv, fb⟩ = false := by
      unfold chkF
      have : (decide (1 ≤ fk) && decide (fk ≤ 4)) = false := by simpa using hA
      rw [this]; rfl
    have HF := Lib.hid hF
    clear hF kC kH
    by_cases h1 : 1 ≤ fk
    · have d1 : decide (1 ≤ fk) = true := decide_eq_true h1
      have d2 : decide (fk ≤ 4) = false := decide_eq_false (by omega)
      clear hA h1
      go_enter Try.func45, Try.ntmps45
      go_wp2_with fail
      go_ret
      exact HN.out.1 _ _ HF.out hE.out rfl
    · have d1 : decide (1 ≤ fk) = false := decide_eq_false h1
      clear hA h1
      go_enter Try.func45, Try.ntmps45
      go_wp2_with fail
      go_ret
      exact HN.out.1 _ _ HF.out hE.out rfl
  have d1 : decide (1 ≤ fk) = true := decide_eq_true hA.1
  have d2 : decide (fk ≤ 4) = true := decide_eq_true hA.2
  have hF1 : chkF ⟨fk, fr, fs, fm, fv, fb⟩ = (chkB fr fs fm && (decide (fb.length ≤ 1024) && ((decide (fb.length = 0) || hasB fk 1) && (!(fk == 4) || ((fr == 0) && (fm == 0) && (fv == 0)))))) := by
    unfold chkF; rw [d1, d2]; rfl
  have HF := Lib.hid hF1
  clear hF1 hA
  cases hB : chkB fr fs fm with
  | false =>
    rw [hB] at kC
    rw [show (if false = true then (0 : Int) else 40) = 40 from rfl] at kC
    go_enter Try.func45, Try.ntmps45
    go_wp2_with fail
    refine (kC _).mono ?_
    rintro e w1 ⟨rfl, h1⟩
    have x1 := hE.out.trans h1
    clear kC kH h1
    go_wp2_with fail
    go_ret
    exact HN.out.1 _ _ (by rw [HF.out, hB]; rfl) x1 rfl
  | true =>
  rw [hB] at kC
  rw [show (if true = true then (0 : Int) else 40) = 0 from rfl] at kC
  have HB := Lib.hid hB
  clear hB
  by_cases hl : fb.length ≤ 1024
  rotate_left
  · have d3 : decide ((1024 : Int) < (fb.length : Int)) = true := decide_eq_true (by omega)
    have HL := Lib.hid (show decide (fb.length ≤ 1024) = false from decide_eq_false hl)
    clear hl
    go_enter Try.func45, Try.ntmps45
    go_wp2_with fail
    refine (kC _).mono ?_
    rintro e w1 ⟨rfl, h1⟩
    have x1 := hE.out.trans h1
    have c5 := cell_of_row w1 _ 5 _ _ _ (h1.block HR.out)
    clear kC kH h1
    go_wp2_with fail
    go_ret
    exact HN.out.1 _ _ (by rw [HF.out, HB.out, HL.out]; rfl) x1 rfl
  have d3 : decide ((1024 : Int) < (fb.length : Int)) = false := decide_eq_false (by omega)
  have HL := Lib.hid (show decide (fb.length ≤ 1024) = true from decide_eq_true hl)
  clear hl
  -- the data, the kind of a cold start
  have last : ∀ (a : Bool), (∀ w1, Ext w w1 → True) → True := fun _ _ => trivial
  clear last
  by_cases h0 : fb.length = 0
  · have d4 : decide (0 < fb.length) = false := decide_eq_false (by omega)
    have d4n : ¬ (0 < fb.length) := by omega
    have HD := Lib.hid (show (decide (fb.length = 0) || hasB fk 1) = true by rw [decide_eq_true h0]; rfl)
    clear h0 kH
    by_cases h4 : fk = 4
    rotate_left
    · have d5 : (fk == 4) = false := by simpa using h4
      have HX := Lib.hid d5
      clear h4
      go_enter Try.func45, Try.ntmps45
      go_wp2_with fail
      refine (kC _).mono ?_
      rintro e w1 ⟨rfl, h1⟩
      have x1 := hE.out.trans h1
      have r1 := h1.block HR.out
      have c0 := cell_of_row w1 _ 0 _ _ _ r1
      have c1 := cell_of_row w1 _ 1 _ _ _ r1
      have c2 := cell_of_row w1 _ 2 _ _ _ r1
      have c3 := cell_of_row w1 _ 3 _ _ _ r1
      have c4 := cell_of_row w1 _ 4 _ _ _ r1
      have c5 := cell_of_row w1 _ 5 _ _ _ r1
      clear kC h1
      go_wp2_with fail
      go_ret
      exact HN.out.2 _ _ (by rw [HF.out, HB.out, HL.out, HD.out, HX.out]; rfl) x1 rfl
    subst h4
    have HX := Lib.hid (show ((4 : Int) == 4) = true from rfl)
    clear d1 d2
    cases hz : ((fr == 0) && (fm == 0) && (fv == 0)) with
    | true =>
      have HZ := Lib.hid hz
      simp only [Bool.and_eq_true, beq_iff_eq] at hz
      obtain ⟨⟨rfl, rfl⟩, rfl⟩ := hz
      go_enter Try.func45, Try.ntmps45
      go_wp2_with fail
      refine (kC _).mono ?_
      rintro e w1 ⟨rfl, h1⟩
      have x1 := hE.out.trans h1
      have r1 := h1.block HR.out
      have c0 := cell_of_row w1 _ 0 _ _ _ r1
      have c1 := cell_of_row w1 _ 1 _ _ _ r1
      have c2 := cell_of_row w1 _ 2 _ _ _ r1
      have c3 := cell_of_row w1 _ 3 _ _ _ r1
      have c4 := cell_of_row w1 _ 4 _ _ _ r1
      have c5 := cell_of_row w1 _ 5 _ _ _ r1
      clear kC h1
      go_wp2_with fail
      all_goals
        go_ret
        first
          | exact HN.out.2 _ _ (by rw [HF.out, HB.out, HL.out, HD.out, HX.out, HZ.out]; rfl) x1 rfl
          | exfalso; simp_all
    | false =>
      have HZ := Lib.hid hz
      go_enter Try.func45, Try.ntmps45
      go_wp2_with fail
      refine (kC _).mono ?_
      rintro e w1 ⟨rfl, h1⟩
      have x1 := hE.out.trans h1
      have r1 := h1.block HR.out
      have c0 := cell_of_row w1 _ 0 _ _ _ r1
      have c1 := cell_of_row w1 _ 1 _ _ _ r1
      have c2 := cell_of_row w1 _ 2 _ _ _ r1
      have c3 := cell_of_row w1 _ 3 _ _ _ r1
      have c4 := cell_of_row w1 _ 4 _ _ _ r1
      have c5 := cell_of_row w1 _ 5 _ _ _ r1
      clear kC h1
      go_wp2_with fail
      all_goals
        go_ret
        first
          | exact HN.out.1 _ _ (by rw [HF.out, HB.out, HL.out, HD.out, HX.out, HZ.out]; rfl) x1 rfl
          | (exfalso; simp_all)
  have d4 : decide (0 < fb.length) = true := decide_eq_true (by omega)
  have d4n : 0 < fb.length := by omega
  cases hH : hasB fk 1 with
  | false =>
    rw [hH] at kH
    have HD := Lib.hid (show (decide (fb.length = 0) || hasB fk 1) = false by rw [decide_eq_false h0, hH]; rfl)
    clear h0 hH
    go_enter Try.func45, Try.ntmps45
    go_wp2_with fail
    refine (kC _).mono ?_
    rintro e w1 ⟨rfl, h1⟩
    have x1 := hE.out.trans h1
    have c0 := cell_of_row w1 _ 0 _ _ _ (h1.block HR.out)
    have c5 := cell_of_row w1 _ 5 _ _ _ (h1.block HR.out)
    clear kC h1
    go_wp2_with fail
    refine (kH _).mono ?_
    rintro e w2 ⟨rfl, h2⟩
    have x2 := x1.trans h2
    clear kH h2 x1
    go_wp2_with fail
    go_ret
    exact HN.out.1 _ _ (by rw [HF.out, HB.out, HL.out, HD.out]; rfl) x2 rfl
  | true =>
  rw [hH] at kH
  have HD := Lib.hid (show (decide (fb.length = 0) || hasB fk 1) = true by rw [hH]; simp)
  clear h0 hH
  by_cases h4 : fk = 4
  rotate_left
  · have d5 : (fk == 4) = false := by simpa using h4
    have HX := Lib.hid d5
    clear h4
    go_enter Try.func45, Try.ntmps45
    go_wp2_with fail
    refine (kC _).mono ?_
    rintro e w1 ⟨rfl, h1⟩
    have x1 := hE.out.trans h1
    have r1 := h1.block HR.out
    have c0 := cell_of_row w1 _ 0 _ _ _ r1
    have c1 := cell_of_row w1 _ 1 _ _ _ r1
    have c2 := cell_of_row w1 _ 2 _ _ _ r1
    have c3 := cell_of_row w1 _ 3 _ _ _ r1
    have c4 := cell_of_row w1 _ 4 _ _ _ r1
    have c5 := cell_of_row w1 _ 5 _ _ _ r1
    clear kC h1 c1 c2 c3 c4
    go_wp2_with fail
    refine (kH _).mono ?_
    rintro e w2 ⟨rfl, h2⟩
    have x2 := x1.trans h2
    replace r1 := h2.block r1
    clear c0 c5
    have c0 := cell_of_row w2 _ 0 _ _ _ r1
    have c1 := cell_of_row w2 _ 1 _ _ _ r1
    have c2 := cell_of_row w2 _ 2 _ _ _ r1
    have c3 := cell_of_row w2 _ 3 _ _ _ r1
    have c4 := cell_of_row w2 _ 4 _ _ _ r1
    clear kH h2 x1 r1
    go_wp2_with fail
    go_ret
    exact HN.out.2 _ _ (by rw [HF.out, HB.out, HL.out, HD.out, HX.out]; rfl) x2 rfl
  subst h4
  have HX := Lib.hid (show ((4 : Int) == 4) = true from rfl)
  clear d1 d2
  cases hz : ((fr == 0) && (fm == 0) && (fv == 0)) with
  | true =>
    have HZ := Lib.hid hz
    simp only [Bool.and_eq_true, beq_iff_eq] at hz
    obtain ⟨⟨rfl, rfl⟩, rfl⟩ := hz
    go_enter Try.func45, Try.ntmps45
    go_wp2_with fail
    refine (kC _).mono ?_
    rintro e w1 ⟨rfl, h1⟩
    have x1 := hE.out.trans h1
    have r1 := h1.block HR.out
    have c0 := cell_of_row w1 _ 0 _ _ _ r1
    have c1 := cell_of_row w1 _ 1 _ _ _ r1
    have c2 := cell_of_row w1 _ 2 _ _ _ r1
    have c3 := cell_of_row w1 _ 3 _ _ _ r1
    have c4 := cell_of_row w1 _ 4 _ _ _ r1
    have c5 := cell_of_row w1 _ 5 _ _ _ r1
    clear kC h1 c1 c2 c3 c4
    go_wp2_with fail
    refine (kH _).mono ?_
    rintro e w2 ⟨rfl, h2⟩
    have x2 := x1.trans h2
    replace r1 := h2.block r1
    clear c0 c5
    have c0 := cell_of_row w2 _ 0 _ _ _ r1
    have c1 := cell_of_row w2 _ 1 _ _ _ r1
    have c2 := cell_of_row w2 _ 2 _ _ _ r1
    have c3 := cell_of_row w2 _ 3 _ _ _ r1
    have c4 := cell_of_row w2 _ 4 _ _ _ r1
    clear kH h2 x1 r1
    go_wp2_with fail
    all_goals
      go_ret
      first
        | exact HN.out.2 _ _ (by rw [HF.out, HB.out, HL.out, HD.out, HX.out, HZ.out]; rfl) x2 rfl
        | exfalso; simp_all
  | false =>
    have HZ := Lib.hid hz
    go_enter Try.func45, Try.ntmps45
    go_wp2_with fail
    refine (kC _).mono ?_
    rintro e w1 ⟨rfl, h1⟩
    have x1 := hE.out.trans h1
    have r1 := h1.block HR.out
    have c0 := cell_of_row w1 _ 0 _ _ _ r1
    have c1 := cell_of_row w1 _ 1 _ _ _ r1
    have c2 := cell_of_row w1 _ 2 _ _ _ r1
    have c3 := cell_of_row w1 _ 3 _ _ _ r1
    have c4 := cell_of_row w1 _ 4 _ _ _ r1
    have c5 := cell_of_row w1 _ 5 _ _ _ r1
    clear kC h1 c1 c2 c3 c4
    go_wp2_with fail
    refine (kH _).mono ?_
    rintro e w2 ⟨rfl, h2⟩
    have x2 := x1.trans h2
    replace r1 := h2.block r1
    clear c0 c5
    have c0 := cell_of_row w2 _ 0 _ _ _ r1
    have c1 := cell_of_row w2 _ 1 _ _ _ r1
    have c2 := cell_of_row w2 _ 2 _ _ _ r1
    have c3 := cell_of_row w2 _ 3 _ _ _ r1
    have c4 := cell_of_row w2 _ 4 _ _ _ r1
    clear kH h2 x1 r1
    go_wp2_with fail
    all_goals
      go_ret
      first
        | exact HN.out.1 _ _ (by rw [HF.out, HB.out, HL.out, HD.out, HX.out, HZ.out]; rfl) x2 rfl
        | (exfalso; simp_all)
end Go.Proofs.Ytcdaelgnankmfaa.VSta
