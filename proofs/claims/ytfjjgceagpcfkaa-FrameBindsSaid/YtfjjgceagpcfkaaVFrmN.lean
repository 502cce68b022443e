/- FrameBinds: the walk. -/
import Derived.Test.YtfjjgceagpcfkaaVFrmF
import Derived.Test.YtfjjgceagpcfkaaVFrmA
import Derived.Test.YtfjjgceagpcfkaaVFrmArg
namespace Go.Proofs.Ytfjjgceagpcfkaa.VSta
open Go.RowKit Go.VBase Go.VRg Go.VSeq Go.VOct VOct VCst Go.Proofs.Ytfjjgceagpcfkaa.VCrc _root_.Go.VCrc VMsg

set_option maxRecDepth 100000 in
set_option maxHeartbeats 8000000 in
theorem Binds_any (f : FrmD) (sx : Sl3) (v : Int) (w : World) (hx : Bys w (slV sx) f.b) (hv0 : 0 ≤ f.v) (hv : f.v < 65536) (h0 : 0 ≤ v) (h1 : v < 65536) :
    Calls Try.prog 7 #[.agg (frmC f (slV sx)), .int .u16 v] w fun e w' => e = .returned (.bool true) ∧ Ext w w' := by
  have hn : sx.2.1 = f.b.length := by
    obtain ⟨a, c, h, _⟩ := hx
    unfold slV at h
    simp only [Value.slice.injEq] at h
    exact h.2.1
  have kA := fun W => alive_calls W
  have kE := fun W (h : Ext w W) => frmEncode_calls f sx W (hx.ext h) hv0 hv
  unfold EncFPost at kE
  have x0 := Ext.alloc w (.cells (frmC f (slV sx)) TFrm)
  have r0 := heap_alloc_new w (.cells (frmC f (slV sx)) TFrm)
  have hfit : ∀ l, encF f = some l → chkF f = true ∧ l = frmBy f ∧ f.b.length ≤ 1024 ∧ fitsF l f.r f.s f.m f.v = !(f.k == 4) ∧ fitsF l f.r f.s f.m v = (!(f.k == 4) && (v == f.v)) ∧ l.length ≤ 100000 := fun l h => by
    unfold encF at h
    by_cases hc : chkF f = true
    · rw [if_pos hc] at h
      cases h
      refine ⟨hc, rfl, (chkF_facts hc).2.2.1, ?_, fits_self hc hv0 hv v h0 h1, ?_⟩
      · rw [fits_self hc hv0 hv f.v hv0 hv]; simp
      · rw [frm_len hc]; have := (long_le hc).1; omega
    · rw [if_neg hc] at h; cases h
  have hnone : encF f = none → True := fun _ => trivial
  generalize encF f = xe at *
  obtain ⟨sa, sn, sc⟩ := sx
  simp only at hn
  subst hn
  have hst : ∀ (u : Value), frmC f u = #[.int .i64 f.k, .int .i64 f.r, .int .i64 f.s, .int .i64 f.m, .int .u16 f.v, u] := fun _ => rfl
  have hsl : slV (sa, f.b.length, sc) = .slice sa f.b.length sc := rfl
  rw [hst, hsl] at kE x0 r0 ⊢
  have HV := Lib.hid (And.intro hfit (And.intro hv0 (And.intro hv (And.intro h0 h1))))
  clear hst hsl hx hnone hfit hv0 hv h0 h1
  go_enter Try.func7, Try.ntmps7
  go_wp2_with fail
  refine (kA _).mono ?_
  rintro e w1 ⟨rfl, h1⟩
  have r1 := h1.block r0
  have x1 := x0.trans h1
  have c0 : w1.cell? ⟨w.heap.size, 0, none⟩ = some (.int .i64 f.k) := cell_of_row w1 _ 0 _ _ _ r1
  have c1 : w1.cell? ⟨w.heap.size, 1, none⟩ = some (.int .i64 f.r) := cell_of_row w1 _ 1 _ _ _ r1
  have c2 : w1.cell? ⟨w.heap.size, 2, none⟩ = some (.int .i64 f.s) := cell_of_row w1 _ 2 _ _ _ r1
  have c3 : w1.cell? ⟨w.heap.size, 3, none⟩ = some (.int .i64 f.m) := cell_of_row w1 _ 3 _ _ _ r1
  have c4 : w1.cell? ⟨w.heap.size, 4, none⟩ = some (.int .u16 f.v) := cell_of_row w1 _ 4 _ _ _ r1
  have c5 : w1.cell? ⟨w.heap.size, 5, none⟩ = some (.slice sa f.b.length sc) := cell_of_row w1 _ 5 _ _ _ r1
  clear kA h1 r0 x0
  go_wp2_with fail
  refine (kE _ x1).mono ?_
  rintro e w2 ⟨u, rfl, hu, h2, -⟩
  have x2 := x1.trans h2
  replace r1 := h2.block r1
  clear kE h2 x1 c0 c1 c2 c3 c4 c5
  have c0 : w2.cell? ⟨w.heap.size, 0, none⟩ = some (.int .i64 f.k) := cell_of_row w2 _ 0 _ _ _ r1
  have c1 : w2.cell? ⟨w.heap.size, 1, none⟩ = some (.int .i64 f.r) := cell_of_row w2 _ 1 _ _ _ r1
  have c2 : w2.cell? ⟨w.heap.size, 2, none⟩ = some (.int .i64 f.s) := cell_of_row w2 _ 2 _ _ _ r1
  have c3 : w2.cell? ⟨w.heap.size, 3, none⟩ = some (.int .i64 f.m) := cell_of_row w2 _ 3 _ _ _ r1
  have c4 : w2.cell? ⟨w.heap.size, 4, none⟩ = some (.int .u16 f.v) := cell_of_row w2 _ 4 _ _ _ r1
  have c5 : w2.cell? ⟨w.heap.size, 5, none⟩ = some (.slice sa f.b.length sc) := cell_of_row w2 _ 5 _ _ _ r1
  obtain ⟨ua, uc, rfl⟩ := hu.slice
  cases xe with
  | none =>
    obtain ⟨D, hD⟩ : ∃ D, decide ((1100 : Int) < (f.b.length : Int)) = D := ⟨_, rfl⟩
    simp only [Option.isSome_none, Bool.false_eq_true, if_false]
    clear hu r1
    go_wp2_with fail
    all_goals
      go_ret
      exact ⟨by simp_all, x2⟩
  | some l =>
    obtain ⟨hc, hl, hbl, hf1, hf2, hll⟩ := HV.out.1 l rfl
    have dA : decide ((1100 : Int) < (f.b.length : Int)) = false := decide_eq_false (by omega)
    have dA2 : ¬ ((1100 : Int) < (f.b.length : Int)) := by omega
    have hub : Bys w2 (.slice ua l.length uc) l := hu.bys (by show l.length ≤ _; unfold maxLen; omega)
    have kF := fun W (h : Ext w2 W) => frmFits_calls _ l f.r f.s f.m f.v W (hub.ext h) hll HV.out.2.1 HV.out.2.2.1
    have kG := fun W (h : Ext w2 W) => frmFits_calls _ l f.r f.s f.m v W (hub.ext h) hll HV.out.2.2.2.1 HV.out.2.2.2.2
    rw [hf1] at kF
    rw [hf2] at kG
    unfold cst at kF kG
    have HC := Lib.hid (And.intro hc r1)
    simp only [Option.getD_some, Option.isSome_some, if_true]
    clear hc hl hbl hf1 hf2 hll hub hu r1 HV
    generalize l.length = L at *
    have xa : Ext w2 (w2.alloc (.cells #[.int .i64 f.r, .int .i64 f.s, .int .i64 f.m, .int .u16 v] 25)) := Ext.alloc _ _
    have d0 := xa.cell c0
    have d1 := xa.cell c1
    have d2 := xa.cell c2
    have d3 := xa.cell c3
    have d4 := xa.cell c4
    have rn := heap_alloc_new w2 (.cells #[.int .i64 f.r, .int .i64 f.s, .int .i64 f.m, .int .u16 v] 25)
    cases hk4 : (f.k == 4) with
    | true =>
      rw [hk4] at kF kG
      simp only [Bool.not_true, Bool.false_and] at kF kG
      go_wp2_with fail
      refine (kF _ xa).mono ?_
      rintro e w3 ⟨rfl, h3⟩
      have xb := xa.trans h3
      have rm := h3.block rn
      have f0 : w3.cell? ⟨w2.heap.size, 0, none⟩ = some (.int .i64 f.r) := cell_of_row w3 _ 0 _ _ _ rm
      have f1 : w3.cell? ⟨w2.heap.size, 1, none⟩ = some (.int .i64 f.s) := cell_of_row w3 _ 1 _ _ _ rm
      have f2 : w3.cell? ⟨w2.heap.size, 2, none⟩ = some (.int .i64 f.m) := cell_of_row w3 _ 2 _ _ _ rm
      have f3 : w3.cell? ⟨w2.heap.size, 3, none⟩ = some (.int .u16 v) := cell_of_row w3 _ 3 _ _ _ rm
      clear kF d0 d1 d2 d3 d4 c0 c1 c2 c3 c4 c5 rn rm h3
      go_wp2_with fail
      refine (kG _ xb).mono ?_
      rintro e w4 ⟨rfl, h4⟩
      have x9 := (x2.trans xb).trans h4
      clear kG f0 f1 f2 f3 xb h4 xa
      go_wp2_with fail
      go_ret
      exact ⟨rfl, x9⟩
    | false =>
      rw [hk4] at kF kG
      simp only [Bool.not_false, Bool.true_and] at kF kG
      go_wp2_with fail
      have k0 : ∀ W, Ext (w2.alloc (.cells #[.int .i64 f.r, .int .i64 f.s, .int .i64 f.m, .int .u16 v] 25)).drew W → (W.cell? ⟨w.heap.size, 1, none⟩ = some (.int .i64 f.r) ∧ W.cell? ⟨w.heap.size, 2, none⟩ = some (.int .i64 f.s) ∧ W.cell? ⟨w.heap.size, 3, none⟩ = some (.int .i64 f.m) ∧ W.cell? ⟨w.heap.size, 4, none⟩ = some (.int .u16 f.v)) ∧
          (W.cell? ⟨w2.heap.size, 0, none⟩ = some (.int .i64 f.r) ∧ W.cell? ⟨w2.heap.size, 1, none⟩ = some (.int .i64 f.s) ∧ W.cell? ⟨w2.heap.size, 2, none⟩ = some (.int .i64 f.m) ∧ W.cell? ⟨w2.heap.size, 3, none⟩ = some (.int .u16 v)) ∧ Ext w2 W := fun W h =>
        ⟨⟨h.cell d1, h.cell d2, h.cell d3, h.cell d4⟩, ⟨h.cell (cell_of_row _ _ 0 _ _ _ rn), h.cell (cell_of_row _ _ 1 _ _ _ rn), h.cell (cell_of_row _ _ 2 _ _ _ rn), h.cell (cell_of_row _ _ 3 _ _ _ rn)⟩, xa.trans (Ext.of_drew h)⟩
      clear d0 d1 d2 d3 d4 c0 c1 c2 c3 c4 c5 rn
      refine wp_region_rg Ext [(5, .known (.bool true)), (10, .known (.bool (v == f.v)))] (by kernel_rfl) (by kernel_rfl) (by kernel_rfl) Ext.refl (fun _ _ _ => Ext.trans) ?_
      intro σ
      simp only
      repeat (first | (refine rg_pure (x := ?_) rfl (by rfl) (fun W hW => ?_) ?_; rotate_left; (· obtain ⟨⟨a1, a2, a3, a4⟩, ⟨b0, b1, b2, b3⟩, _⟩ := k0 W hW; go_simp; with_reducible rfl); simp only [Nat.reduceAdd, Act.put, List.setIfInBounds_toArray, List.set_cons_zero, List.set_cons_succ]))
      refine rg_known rfl (by rfl) (fun W hW hF => ?_) ?_
      · go_simp
        refine (kF W (k0 W hW).2.2).mono ?_
        rintro e W' ⟨rfl, h⟩
        exact ⟨_, rfl, h, rfl⟩
      simp only [Nat.reduceAdd, Act.put, List.setIfInBounds_toArray, List.set_cons_zero, List.set_cons_succ]
      repeat (first | (refine rg_pure (x := ?_) rfl (by rfl) (fun W hW => ?_) ?_; rotate_left; (· obtain ⟨⟨a1, a2, a3, a4⟩, ⟨b0, b1, b2, b3⟩, _⟩ := k0 W hW; go_simp; with_reducible rfl); simp only [Nat.reduceAdd, Act.put, List.setIfInBounds_toArray, List.set_cons_zero, List.set_cons_succ]))
      refine rg_known rfl (by rfl) (fun W hW hF => ?_) ?_
      · go_simp
        refine (kG W (k0 W hW).2.2).mono ?_
        rintro e W' ⟨rfl, h⟩
        exact ⟨_, rfl, h, rfl⟩
      simp only [Nat.reduceAdd, Act.put, List.setIfInBounds_toArray, List.set_cons_zero, List.set_cons_succ]
      repeat (first | (refine rg_pure (x := ?_) rfl (by rfl) (fun W hW => ?_) ?_; rotate_left; (· obtain ⟨⟨a1, a2, a3, a4⟩, ⟨b0, b1, b2, b3⟩, _⟩ := k0 W hW; go_simp; with_reducible rfl); simp only [Nat.reduceAdd, Act.put, List.setIfInBounds_toArray, List.set_cons_zero, List.set_cons_succ]))
      refine rg_done fun W hW hF => ?_
      have x9 := x2.trans (k0 W hW).2.2
      clear hF hW k0 kF kG xa
      go_wp2_with fail
      go_ret
      exact ⟨by simp, x9⟩
end Go.Proofs.Ytfjjgceagpcfkaa.VSta
