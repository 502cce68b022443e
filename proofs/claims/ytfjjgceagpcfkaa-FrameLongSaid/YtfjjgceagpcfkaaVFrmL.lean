/- FrameLong: the walk. -/
import Derived.Test.YtfjjgceagpcfkaaVFrmA
import Derived.Test.YtfjjgceagpcfkaaVFrmArg
namespace Go.Proofs.Ytfjjgceagpcfkaa.VSta
open Go.RowKit Go.VBase Go.VRg Go.VSeq Go.VOct VOct VCst Go.Proofs.Ytfjjgceagpcfkaa.VCrc _root_.Go.VCrc VMsg

set_option maxRecDepth 100000 in
set_option maxHeartbeats 8000000 in
theorem Long_any (f : FrmD) (sx : Sl3) (w : World) (hx : Bys w (slV sx) f.b) (hv0 : 0 ≤ f.v) (hv : f.v < 65536) :
    Calls Try.prog 3 #[.agg (frmC f (slV sx))] w fun e w' => e = .returned (.bool true) ∧ Ext w w' := by
  have hn : sx.2.1 = f.b.length := by
    obtain ⟨a, c, h, _⟩ := hx
    unfold slV at h
    simp only [Value.slice.injEq] at h
    exact h.2.1
  have kA := fun W => alive_calls W
  have kE := fun W (h : Ext w W) => frmEncode_calls f sx W (hx.ext h) hv0 hv
  unfold EncFPost at kE
  have x0 := Ext.alloc w (.cells (frmC f (slV sx)) TFrm)
  have r0 := heap_alloc_new w (.cells (frmC f (slV sx)) TFrm)
  have kC := fun W => Check_calls f.r f.s f.m f.v W
  unfold CheckPost cst at kC
  have hlen : ∀ l, encF f = some l → chkF f = true ∧ l.length = longF f := fun l h => by
    unfold encF at h
    by_cases hc : chkF f = true
    · rw [if_pos hc] at h; cases h; exact ⟨hc, frm_len hc⟩
    · rw [if_neg hc] at h; cases h
  generalize encF f = xe at *
  clear hx hv0 hv
  obtain ⟨sa, sn, sc⟩ := sx
  simp only at hn
  subst hn
  have hst : ∀ (u : Value), frmC f u = #[.int .i64 f.k, .int .i64 f.r, .int .i64 f.s, .int .i64 f.m, .int .u16 f.v, u] := fun _ => rfl
  have hsl : slV (sa, f.b.length, sc) = .slice sa f.b.length sc := rfl
  rw [hst, hsl] at kE x0 r0 ⊢
  clear hst hsl
  have HL := Lib.hid hlen
  clear hlen
  by_cases hl : f.b.length ≤ 1100
  rotate_left
  · have dA : decide ((1100 : Int) < (f.b.length : Int)) = true := decide_eq_true (by omega)
    clear hl kE kC
    go_enter Try.func3, Try.ntmps3
    go_wp2_with fail
    refine (kA _).mono ?_
    rintro e w1 ⟨rfl, h1⟩
    have c5 := cell_of_row w1 _ 5 _ _ _ (h1.block r0)
    have x1 := x0.trans h1
    clear kA h1 r0 x0
    go_wp2_with fail
    go_ret
    exact ⟨rfl, x1⟩
  have dA : decide ((1100 : Int) < (f.b.length : Int)) = false := decide_eq_false (by omega)
  have w6 : IntKind.i64.wrap (6 + (f.b.length : Int)) = 6 + (f.b.length : Int) := by rw [IntKind.wrap_i64]; omega
  have w14 : IntKind.i64.wrap (14 + (f.b.length : Int)) = 14 + (f.b.length : Int) := by rw [IntKind.wrap_i64]; omega
  have hk : f.k = 1 ∨ f.k = 2 ∨ f.k = 3 ∨ f.k = 4 ∨ (f.k ≠ 1 ∧ f.k ≠ 2 ∧ f.k ≠ 3 ∧ f.k ≠ 4) := by omega
  have HK := Lib.hid hk
  clear hl hk
  have bk : ∃ b1 b2 b3 b4, (f.k == 1) = b1 ∧ (f.k == 2) = b2 ∧ (f.k == 3) = b3 ∧ (f.k == 4) = b4 := ⟨_, _, _, _, rfl, rfl, rfl, rfl⟩
  go_enter Try.func3, Try.ntmps3
  go_wp2_with fail
  refine (kA _).mono ?_
  rintro e w1 ⟨rfl, h1⟩
  have r1 := h1.block r0
  have x1 := x0.trans h1
  have c0 := cell_of_row w1 _ 0 _ _ _ r1
  have c1 := cell_of_row w1 _ 1 _ _ _ r1
  have c2 := cell_of_row w1 _ 2 _ _ _ r1
  have c3 := cell_of_row w1 _ 3 _ _ _ r1
  have c4 := cell_of_row w1 _ 4 _ _ _ r1
  have c5 := cell_of_row w1 _ 5 _ _ _ r1
  clear kA h1 r0 x0
  go_wp2_with fail
  refine (kE _ x1).mono ?_
  rintro e w2 ⟨u, rfl, hu, h2, hnil⟩
  have x2 := x1.trans h2
  replace r1 := h2.block r1
  have c0 := cell_of_row w2 _ 0 _ _ _ r1
  have c1 := cell_of_row w2 _ 1 _ _ _ r1
  have c2 := cell_of_row w2 _ 2 _ _ _ r1
  have c3 := cell_of_row w2 _ 3 _ _ _ r1
  have c4 := cell_of_row w2 _ 4 _ _ _ r1
  have c5 := cell_of_row w2 _ 5 _ _ _ r1
  clear kE h2 x1 r1
  cases xe with
  | none =>
    have hun := hnil rfl
    subst hun
    clear hu hnil kC
    simp only [Option.isSome_none, Bool.false_eq_true, if_false]
    obtain ⟨b1, b2, b3, b4, e1, e2, e3, e4⟩ := bk
    cases b1 with
    | true =>
      go_wp2_with fail
      go_ret
      exact ⟨rfl, x2⟩
    | false =>
    cases b2 with
    | true =>
      go_wp2_with fail
      go_ret
      exact ⟨rfl, x2⟩
    | false =>
    cases b3 with
    | true =>
      go_wp2_with fail
      go_ret
      exact ⟨rfl, x2⟩
    | false =>
    cases b4 with
    | true =>
      go_wp2_with fail
      go_ret
      exact ⟨rfl, x2⟩
    | false =>
      go_wp2_with fail
      go_ret
      exact ⟨rfl, x2⟩
  | some l =>
    obtain ⟨hc, hll⟩ := HL.out l rfl
    obtain ⟨hk, hcb, -, -, -⟩ := chkF_facts hc
    rw [hcb] at kC
    rw [show (if true = true then (0 : Int) else 40) = 0 from rfl] at kC
    obtain ⟨ua, uc, rfl⟩ := hu.slice
    simp only [Option.getD_some] at hll ⊢
    have HQ := Lib.hid (And.intro hll (And.intro hk hcb))
    clear hu hnil hc hcb bk hll HL
    simp only [Option.isSome_some, if_true]
    rcases hk with hk | hk | hk | hk
    · have q : ((l.length : Int) == 6 + (f.b.length : Int)) = true := by
        have := HQ.out.1
        unfold longF at this
        simp [hk] at this
        simp
        omega
      have d1 : (f.k == 1) = true := by rw [hk]; rfl
      have d2 : (f.k == 2) = false := by rw [hk]; rfl
      have d3 : (f.k == 3) = false := by rw [hk]; rfl
      have d4 : (f.k == 4) = false := by rw [hk]; rfl
      clear hk
      generalize l.length = n at *
      go_wp2_with fail
      refine (kC _).mono ?_
      rintro e w3 ⟨rfl, h3⟩
      have x3 := x2.trans h3
      clear kC h3 x2
      go_wp2_with fail
      go_ret
      exact ⟨rfl, x3⟩
    · have q : ((l.length : Int) == 12) = true := by
        have := HQ.out.1
        unfold longF at this
        simp [hk] at this
        simp
        omega
      have d1 : (f.k == 1) = false := by rw [hk]; rfl
      have d2 : (f.k == 2) = true := by rw [hk]; rfl
      have d3 : (f.k == 3) = false := by rw [hk]; rfl
      have d4 : (f.k == 4) = false := by rw [hk]; rfl
      clear hk
      generalize l.length = n at *
      go_wp2_with fail
      refine (kC _).mono ?_
      rintro e w3 ⟨rfl, h3⟩
      have x3 := x2.trans h3
      clear kC h3 x2
      go_wp2_with fail
      go_ret
      exact ⟨rfl, x3⟩
    · have q : ((l.length : Int) == 14 + (f.b.length : Int)) = true := by
        have := HQ.out.1
        unfold longF at this
        simp [hk] at this
        simp
        omega
      have d1 : (f.k == 1) = false := by rw [hk]; rfl
      have d2 : (f.k == 2) = false := by rw [hk]; rfl
      have d3 : (f.k == 3) = true := by rw [hk]; rfl
      have d4 : (f.k == 4) = false := by rw [hk]; rfl
      clear hk
      generalize l.length = n at *
      go_wp2_with fail
      refine (kC _).mono ?_
      rintro e w3 ⟨rfl, h3⟩
      have x3 := x2.trans h3
      clear kC h3 x2
      go_wp2_with fail
      go_ret
      exact ⟨rfl, x3⟩
    · have q : ((l.length : Int) == 5) = true := by
        have := HQ.out.1
        unfold longF at this
        simp [hk] at this
        simp
        omega
      have d1 : (f.k == 1) = false := by rw [hk]; rfl
      have d2 : (f.k == 2) = false := by rw [hk]; rfl
      have d3 : (f.k == 3) = false := by rw [hk]; rfl
      have d4 : (f.k == 4) = true := by rw [hk]; rfl
      clear hk
      generalize l.length = n at *
      go_wp2_with fail
      refine (kC _).mono ?_
      rintro e w3 ⟨rfl, h3⟩
      have x3 := x2.trans h3
      clear kC h3 x2
      go_wp2_with fail
      go_ret
      exact ⟨rfl, x3⟩
end Go.Proofs.Ytfjjgceagpcfkaa.VSta
