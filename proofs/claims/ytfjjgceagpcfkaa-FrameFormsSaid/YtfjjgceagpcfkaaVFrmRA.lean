/- Merged out of VFrmR1 VFrmR2 VFrmR3. -/
import Derived.Test.YtfjjgceagpcfkaaVFrmH
import Derived.Test.YtfjjgceagpcfkaaVFrmD
import Derived.Test.YtfjjgceagpcfkaaVFrm
import Derived.Test.YtfjjgceagpcfkaaVRefEnc5
import Derived.Test.YtfjjgceagpcfkaaVRef01
import Derived.Test.YtfjjgceagpcfkaaVCrcRef
import Derived.Test.YtfjjgceagpcfkaaVFrmQ
import Derived.Test.YtfjjgceagpcfkaaVFrmE
/- The document's Check of a frame. -/
namespace Go.Proofs.Ytfjjgceagpcfkaa.VSta
open Go.RowKit Go.VBase Go.VRg Go.VEq VCst VMsg

set_option maxRecDepth 100000 in
set_option maxHeartbeats 8000000 in
theorem refFCheck_calls (f : FrmD) (sx : Sl3) (hn : sx.2.1 = f.b.length) (w : World) :
    Calls Try.prog 24 #[.agg (frmC f (slV sx))] w fun e w' => e = .returned (.int .i64 (if chkF f then 0 else 50)) ∧ Ext w w' := by
  obtain ⟨sa, sn, sc⟩ := sx
  simp only at hn
  subst hn
  obtain ⟨fk, fr, fs, fm, fv, fb⟩ := f
  have hE := Lib.hid (Ext.alloc w (.cells (frmC ⟨fk, fr, fs, fm, fv, fb⟩ (slV (sa, fb.length, sc))) TFrm))
  have HR := Lib.hid (heap_alloc_new w (.cells (frmC ⟨fk, fr, fs, fm, fv, fb⟩ (slV (sa, fb.length, sc))) TFrm))
  obtain ⟨r, hr⟩ : ∃ r, r = Value.int .i64 (if chkF ⟨fk, fr, fs, fm, fv, fb⟩ then 0 else 50) := ⟨_, rfl⟩
  rw [← hr]
  have HV := Lib.hid hr
  clear hr
  have kC := fun W => refCheck_calls fr fs fm fv W
  unfold CheckPost cst at kC
  unfold frmC slV at *
  simp only at *
  have neg : ∀ e W', chkF ⟨fk, fr, fs, fm, fv, fb⟩ = false → Ext w W' → e = Ending.returned (.int .i64 50) → e = .returned r ∧ Ext w W' := fun e W' h x he => ⟨by rw [HV.out, h]; exact he, x⟩
  have pos : ∀ e W', chkF ⟨fk, fr, fs, fm, fv, fb⟩ = true → Ext w W' → e = Ending.returned (.int .i64 0) → e = .returned r ∧ Ext w W' := fun e W' h x he => ⟨by rw [HV.out, h]; exact he, x⟩
  have HN := Lib.hid (And.intro neg pos)
  clear neg pos
  by_cases hA : 1 ≤ fk ∧ fk ≤ 4
  rotate_left
  · have hF : chkF ⟨fk, fr, fs, fm, fv, fb⟩ = false := by
      unfold chkF
      have : (decide (1 ≤ fk) && decide (fk ≤ 4)) = false := by simpa using hA
      rw [this]; rfl
    have HF := Lib.hid hF
    clear hF kC
    by_cases h1 : 1 ≤ fk
    · have d1 : decide (fk < 1) = false := decide_eq_false (by omega)
      have d2 : decide (4 < fk) = true := decide_eq_true (by omega)
      clear hA h1
      go_enter Try.func24, Try.ntmps24
      go_wp2_with fail
      go_ret
      exact HN.out.1 _ _ HF.out hE.out rfl
    · have d1 : decide (fk < 1) = true := decide_eq_true (by omega)
      clear hA h1
      go_enter Try.func24, Try.ntmps24
      go_wp2_with fail
      go_ret
      exact HN.out.1 _ _ HF.out hE.out rfl
  have d1 : decide (fk < 1) = false := decide_eq_false (by omega)
  have d2 : decide (4 < fk) = false := decide_eq_false (by omega)
  have hF1 : chkF ⟨fk, fr, fs, fm, fv, fb⟩ = (chkB fr fs fm && (decide (fb.length ≤ 1024) && ((decide (fb.length = 0) || hasB fk 1) && (!(fk == 4) || ((fr == 0) && (fm == 0) && (fv == 0)))))) := by
    unfold chkF; rw [decide_eq_true hA.1, decide_eq_true hA.2]; rfl
  have HF := Lib.hid hF1
  clear hF1
  cases hB : chkB fr fs fm with
  | false =>
    rw [hB] at kC
    rw [show (if false = true then (0 : Int) else 40) = 40 from rfl] at kC
    clear hA
    go_enter Try.func24, Try.ntmps24
    go_wp2_with fail
    refine (kC _).mono ?_
    rintro e w1 ⟨rfl, h1⟩
    have x1 := hE.out.trans h1
    clear kC h1
    go_wp2_with fail
    go_ret
    exact HN.out.1 _ _ (by rw [HF.out, hB]; rfl) x1 rfl
  | true =>
  rw [hB] at kC
  rw [show (if true = true then (0 : Int) else 40) = 0 from rfl] at kC
  have HB := Lib.hid hB
  clear hB
  by_cases hl : fb.length ≤ 1024
  rotate_left
  · have d3 : decide ((1024 : Int) < (fb.length : Int)) = true := decide_eq_true (by omega)
    have HL := Lib.hid (show decide (fb.length ≤ 1024) = false from decide_eq_false hl)
    clear hl hA
    go_enter Try.func24, Try.ntmps24
    go_wp2_with fail
    refine (kC _).mono ?_
    rintro e w1 ⟨rfl, h1⟩
    have x1 := hE.out.trans h1
    have c5 := cell_of_row w1 _ 5 _ _ _ (h1.block HR.out)
    clear kC h1
    go_wp2_with fail
    go_ret
    exact HN.out.1 _ _ (by rw [HF.out, HB.out, HL.out]; rfl) x1 rfl
  have d3 : decide ((1024 : Int) < (fb.length : Int)) = false := decide_eq_false (by omega)
  have HL := Lib.hid (show decide (fb.length ≤ 1024) = true from decide_eq_true hl)
  clear hl
  go_enter Try.func24, Try.ntmps24
  go_wp2_with fail
  refine (kC _).mono ?_
  rintro e w1 ⟨rfl, h1⟩
  have x1 := hE.out.trans h1
  have r1 := h1.block HR.out
  have c0 := cell_of_row w1 _ 0 _ _ _ r1
  have c1 := cell_of_row w1 _ 1 _ _ _ r1
  have c2 := cell_of_row w1 _ 2 _ _ _ r1
  have c3 := cell_of_row w1 _ 3 _ _ _ r1
  have c4 := cell_of_row w1 _ 4 _ _ _ r1
  have c5 := cell_of_row w1 _ 5 _ _ _ r1
  clear kC h1
  have xa : Ext w1 (w1.alloc (.cells #[.int .i64 fr, .int .i64 fs, .int .i64 fm, .int .u16 fv] 25)) := Ext.alloc _ _
  have e0 := xa.cell c0
  have rb := heap_alloc_new w1 (.cells #[.int .i64 fr, .int .i64 fs, .int .i64 fm, .int .u16 fv] 25)
  have b0 := cell_of_row _ _ 0 _ _ _ rb
  have b2 := cell_of_row _ _ 2 _ _ _ rb
  have b3 := cell_of_row _ _ 3 _ _ _ rb
  rw [show (#[Value.int .i64 fr, .int .i64 fs, .int .i64 fm, .int .u16 fv] : Array Value)[0]? = some (.int .i64 fr) from rfl] at b0
  rw [show (#[Value.int .i64 fr, .int .i64 fs, .int .i64 fm, .int .u16 fv] : Array Value)[2]? = some (.int .i64 fm) from rfl] at b2
  rw [show (#[Value.int .i64 fr, .int .i64 fs, .int .i64 fm, .int .u16 fv] : Array Value)[3]? = some (.int .u16 fv) from rfl] at b3
  have x2 := x1.trans xa
  by_cases h0 : fb.length = 0
  · have d4 : decide (0 < fb.length) = false := decide_eq_false (by omega)
    have d4n : ¬ (0 < fb.length) := by omega
    have HD := Lib.hid (show (decide (fb.length = 0) || hasB fk 1) = true by rw [decide_eq_true h0]; rfl)
    clear h0
    by_cases h4 : fk = 4
    rotate_left
    · have d5 : (fk == 4) = false := by simpa using h4
      have HX := Lib.hid d5
      clear hA
      go_wp2_with fail
      go_ret
      exact HN.out.2 _ _ (by rw [HF.out, HB.out, HL.out, HD.out, HX.out]; rfl) x2 rfl
    subst h4
    clear d1 d2 hA
    have HX := Lib.hid (show ((4 : Int) == 4) = true from rfl)
    cases hz : ((fr == 0) && (fm == 0) && (fv == 0)) with
    | true =>
      have HZ := Lib.hid hz
      simp only [Bool.and_eq_true, beq_iff_eq] at hz
      obtain ⟨⟨rfl, rfl⟩, rfl⟩ := hz
      go_wp2_with fail
      go_ret
      exact HN.out.2 _ _ (by rw [HF.out, HB.out, HL.out, HD.out, HX.out, HZ.out]; rfl) x2 rfl
    | false =>
      have HZ := Lib.hid hz
      by_cases z1 : fr = 0
      rotate_left
      · clear hz
        go_wp2_with fail
        go_ret
        exact HN.out.1 _ _ (by rw [HF.out, HB.out, HL.out, HD.out, HX.out, HZ.out]; rfl) x2 rfl
      subst z1
      by_cases z2 : fm = 0
      rotate_left
      · clear hz
        go_wp2_with fail
        go_ret
        exact HN.out.1 _ _ (by rw [HF.out, HB.out, HL.out, HD.out, HX.out, HZ.out]; rfl) x2 rfl
      subst z2
      have z3 : ¬ fv = 0 := by simpa using hz
      clear hz
      go_wp2_with fail
      go_ret
      exact HN.out.1 _ _ (by rw [HF.out, HB.out, HL.out, HD.out, HX.out, HZ.out]; rfl) x2 rfl
  have d4 : decide (0 < fb.length) = true := decide_eq_true (by omega)
  have d4n : 0 < fb.length := by omega
  have hd0 : decide (fb.length = 0) = false := decide_eq_false h0
  rcases (by omega : fk = 1 ∨ fk = 2 ∨ fk = 3 ∨ fk = 4) with rfl | rfl | rfl | rfl
  all_goals clear d1 d2 hA h0
  · go_wp2_with fail
    go_ret
    exact HN.out.2 _ _ (by rw [HF.out, HB.out, HL.out]; simp [hasB, partsL]) x2 rfl
  · go_wp2_with fail
    go_ret
    exact HN.out.1 _ _ (by rw [HF.out, HB.out, HL.out, hd0]; rfl) x1 rfl
  · go_wp2_with fail
    go_ret
    exact HN.out.2 _ _ (by rw [HF.out, HB.out, HL.out]; simp [hasB, partsL]) x2 rfl
  · go_wp2_with fail
    go_ret
    exact HN.out.1 _ _ (by rw [HF.out, HB.out, HL.out, hd0]; rfl) x1 rfl
end Go.Proofs.Ytfjjgceagpcfkaa.VSta

/- The document's bytes of a frame ahead of the sum. -/
namespace Go.Proofs.Ytfjjgceagpcfkaa.VSta
open Go.RowKit Go.VBase Go.VRg Go.VEq Go.VOct VOct VCst VMsg

theorem ownB_lit (W : World) (base : Nat) (e : TypeId) (C : Array Value) (cs : List UInt8) (n : Nat) (hC : C = (cs.map encB).toArray) (hn : n = cs.length) (hb : base ≤ W.heap.size) (hm : cs.length ≤ maxLen) :
    OwnB (W.alloc (.cells C e)) base e (.slice (some ⟨W.heap.size, 0, none⟩) n n) cs := by
  subst hC
  subst hn
  exact ⟨by simp, .inr ⟨W.heap.size, cs.length, _, rfl, hb, heap_alloc_new W _, Nat.le_refl _, hm, by simp, by rw [Nat.mul_one]; exact List.take_of_length_le (by simp)⟩⟩
theorem byte_enc {n : Nat} (h : n < 256) : encB (UInt8.ofNat n) = .int .u8 (n : Int) := by
  unfold encB
  have : (UInt8.ofNat n).toNat = n := by simp; omega
  rw [this]
theorem beB2 {n : Nat} (h : n < 65536) : beB 2 n = [UInt8.ofNat (n / 256), UInt8.ofNat (n % 256)] := by
  simp only [beB, List.nil_append, List.append_assoc, List.cons_append]
  rw [Nat.mod_eq_of_lt (show n / 256 < 256 by omega)]

set_option maxRecDepth 100000 in
set_option maxHeartbeats 4000000 in
theorem refFront4 (r s m : Int) (v : Nat) (b : List UInt8) (sx : Sl3) (w : World) (hx : Bys w (slV sx) b) (hc : chkF ⟨4, r, s, m, (v : Int), b⟩ = true) (hv : v < 65536) :
    Calls Try.prog 51 #[.agg (frmC ⟨4, r, s, m, (v : Int), b⟩ (slV sx))] w (MadeB w TB (frontF ⟨4, r, s, m, (v : Int), b⟩)) := by
  rw [front4 rfl]
  obtain ⟨-, hcb, hbl, hb2, h4z⟩ := chkF_facts hc
  simp only at hcb hbl hb2 h4z
  obtain ⟨a0, a1, a2, a3, a4, a5⟩ := chkB_facts hcb
  have hn : sx.2.1 = b.length := by
    obtain ⟨a, c, h, _⟩ := hx
    unfold slV at h
    simp only [Value.slice.injEq] at h
    exact h.2.1
  obtain ⟨sa, sn, sc⟩ := sx
  simp only at hn
  subst hn
  have kB := fun W => Bytes_calls r s m v hv hcb W
  unfold cst MadeB at kB
  have hcl := cstBy_len r s m v
  have hcf : cstF ⟨4, r, s, m, (v : Int), b⟩ = cstBy r s m v := rfl
  unfold frmC slV
  simp only
  have r0 := heap_alloc_new w (.cells #[.int .i64 4, .int .i64 r, .int .i64 s, .int .i64 m, .int .u16 (v : Int), .slice sa b.length sc] TFrm)
  have x0 := Ext.alloc w (.cells #[.int .i64 4, .int .i64 r, .int .i64 s, .int .i64 m, .int .u16 (v : Int), .slice sa b.length sc] TFrm)
  obtain ⟨W0, hW0⟩ : ∃ W0, W0 = w.alloc (.cells #[.int .i64 4, .int .i64 r, .int .i64 s, .int .i64 m, .int .u16 (v : Int), .slice sa b.length sc] TFrm) := ⟨_, rfl⟩
  rw [← hW0] at r0 x0
  have H0 := Lib.hid hW0
  clear hW0
  have HX := Lib.hid (And.intro hx (And.intro hbl hcl))
  clear hx hc hcb hb2 h4z hcl
  go_enter Try.func51, Try.ntmps51
  refine wp_seq_k fun K hK => ?_
  have HK := Lib.hid hK
  clear hK
  go_wp2_with fail
  refine HK.out _ _ ?_
  clear HK
  show Code.wp _ _ _ _ (w.alloc (.cells #[.int .i64 4, .int .i64 r, .int .i64 s, .int .i64 m, .int .u16 (v : Int), .slice sa b.length sc] TFrm))
  rw [← H0.out]
  clear H0
  have hL := ownB_lit W0 W0.heap.size TB #[.int .u8 4] [4] 1 rfl rfl (Nat.le_refl _) (by decide)
  have xL : Ext W0 (W0.alloc (.cells #[.int .u8 4] TB)) := Ext.alloc _ _
  have rL := xL.block r0
  have z0 : W0.cell? ⟨w.heap.size, 0, none⟩ = some (.int .i64 4) := cell_of_row _ _ 0 _ _ _ r0
  have c0 := cell_of_row (W0.alloc (.cells #[.int .u8 4] TB)) _ 0 _ _ _ rL
  rw [show (#[Value.int .i64 4, .int .i64 r, .int .i64 s, .int .i64 m, .int .u16 (v : Int), .slice sa b.length sc] : Array Value)[0]? = some (.int .i64 4) from rfl] at c0
  have c1 := cell_of_row (W0.alloc (.cells #[.int .u8 4] TB)) _ 1 _ _ _ rL
  rw [show (#[Value.int .i64 4, .int .i64 r, .int .i64 s, .int .i64 m, .int .u16 (v : Int), .slice sa b.length sc] : Array Value)[1]? = some (.int .i64 r) from rfl] at c1
  have c2 := cell_of_row (W0.alloc (.cells #[.int .u8 4] TB)) _ 2 _ _ _ rL
  rw [show (#[Value.int .i64 4, .int .i64 r, .int .i64 s, .int .i64 m, .int .u16 (v : Int), .slice sa b.length sc] : Array Value)[2]? = some (.int .i64 s) from rfl] at c2
  have c3 := cell_of_row (W0.alloc (.cells #[.int .u8 4] TB)) _ 3 _ _ _ rL
  rw [show (#[Value.int .i64 4, .int .i64 r, .int .i64 s, .int .i64 m, .int .u16 (v : Int), .slice sa b.length sc] : Array Value)[3]? = some (.int .i64 m) from rfl] at c3
  have c4 := cell_of_row (W0.alloc (.cells #[.int .u8 4] TB)) _ 4 _ _ _ rL
  rw [show (#[Value.int .i64 4, .int .i64 r, .int .i64 s, .int .i64 m, .int .u16 (v : Int), .slice sa b.length sc] : Array Value)[4]? = some (.int .u16 (v : Int)) from rfl] at c4
  have c5 := cell_of_row (W0.alloc (.cells #[.int .u8 4] TB)) _ 5 _ _ _ rL
  rw [show (#[Value.int .i64 4, .int .i64 r, .int .i64 s, .int .i64 m, .int .u16 (v : Int), .slice sa b.length sc] : Array Value)[5]? = some (.slice sa b.length sc) from rfl] at c5
  obtain ⟨q, rfl⟩ : ∃ q : Nat, s = (q : Int) := ⟨s.toNat, by omega⟩
  have hs : IntKind.u8.wrap (q : Int) = (q : Int) := by rw [IntKind.wrap_u8]; omega
  have hsb := byte_enc (n := q) (by omega)
  unfold encB at hsb
  have e1 : beB 1 ((q : Int)).toNat = [UInt8.ofNat q] := by simp [beB, Nat.mod_eq_of_lt (show q < 256 by omega)]
  rw [e1]
  have HS := Lib.hid hsb
  clear kB hsb e1 hcf
  go_wp2_with (at_builtin; (refine wpList_append_B VRef01.byteSl rfl _ _ rfl (by rfl) (by rfl) (hL.alloc _) (bys_new [UInt8.ofNat q] (by simp) (by rw [List.map_singleton, HS.out]) rfl (by simp [maxLen])) ?hl ?hb ?hk))
  case hl => simp
  case hb => simp; omega
  case hk =>
  intro u w2 hu hg _
  have x2 : Ext W0 w2 := Below.trans (xL.thenAlloc _) (grown_below hg (xL.thenAlloc _).size hL.lt)
  obtain ⟨ua, uc, rfl⟩ := hu.slice
  have hu' := hu.mono x0.size
  clear hu hg
  go_wp2_with fail
  go_ret
  exact ⟨_, rfl, hu', x0.trans x2⟩

set_option maxRecDepth 100000 in
set_option maxHeartbeats 4000000 in
theorem refFront2 (r s m : Int) (v : Nat) (b : List UInt8) (sx : Sl3) (w : World) (hx : Bys w (slV sx) b) (hc : chkF ⟨2, r, s, m, (v : Int), b⟩ = true) (hv : v < 65536) :
    Calls Try.prog 51 #[.agg (frmC ⟨2, r, s, m, (v : Int), b⟩ (slV sx))] w (MadeB w TB (frontF ⟨2, r, s, m, (v : Int), b⟩)) := by
  rw [front2 rfl]
  obtain ⟨-, hcb, hbl, hb2, h4z⟩ := chkF_facts hc
  simp only at hcb hbl hb2 h4z
  obtain ⟨a0, a1, a2, a3, a4, a5⟩ := chkB_facts hcb
  have hn : sx.2.1 = b.length := by
    obtain ⟨a, c, h, _⟩ := hx
    unfold slV at h
    simp only [Value.slice.injEq] at h
    exact h.2.1
  obtain ⟨sa, sn, sc⟩ := sx
  simp only at hn
  subst hn
  have kB := fun W => Bytes_calls r s m v hv hcb W
  unfold cst MadeB at kB
  have hcl := cstBy_len r s m v
  have hcf : cstF ⟨2, r, s, m, (v : Int), b⟩ = cstBy r s m v := rfl
  unfold frmC slV
  simp only
  have r0 := heap_alloc_new w (.cells #[.int .i64 2, .int .i64 r, .int .i64 s, .int .i64 m, .int .u16 (v : Int), .slice sa b.length sc] TFrm)
  have x0 := Ext.alloc w (.cells #[.int .i64 2, .int .i64 r, .int .i64 s, .int .i64 m, .int .u16 (v : Int), .slice sa b.length sc] TFrm)
  obtain ⟨W0, hW0⟩ : ∃ W0, W0 = w.alloc (.cells #[.int .i64 2, .int .i64 r, .int .i64 s, .int .i64 m, .int .u16 (v : Int), .slice sa b.length sc] TFrm) := ⟨_, rfl⟩
  rw [← hW0] at r0 x0
  have H0 := Lib.hid hW0
  clear hW0
  have HX := Lib.hid (And.intro hx (And.intro hbl hcl))
  clear hx hc hcb hb2 h4z hcl
  go_enter Try.func51, Try.ntmps51
  refine wp_seq_k fun K hK => ?_
  have HK := Lib.hid hK
  clear hK
  go_wp2_with fail
  refine HK.out _ _ ?_
  clear HK
  show Code.wp _ _ _ _ (w.alloc (.cells #[.int .i64 2, .int .i64 r, .int .i64 s, .int .i64 m, .int .u16 (v : Int), .slice sa b.length sc] TFrm))
  rw [← H0.out]
  clear H0
  have hL := ownB_lit W0 W0.heap.size TB #[.int .u8 2] [2] 1 rfl rfl (Nat.le_refl _) (by decide)
  have xL : Ext W0 (W0.alloc (.cells #[.int .u8 2] TB)) := Ext.alloc _ _
  have rL := xL.block r0
  have z0 : W0.cell? ⟨w.heap.size, 0, none⟩ = some (.int .i64 2) := cell_of_row _ _ 0 _ _ _ r0
  have c0 := cell_of_row (W0.alloc (.cells #[.int .u8 2] TB)) _ 0 _ _ _ rL
  rw [show (#[Value.int .i64 2, .int .i64 r, .int .i64 s, .int .i64 m, .int .u16 (v : Int), .slice sa b.length sc] : Array Value)[0]? = some (.int .i64 2) from rfl] at c0
  have c1 := cell_of_row (W0.alloc (.cells #[.int .u8 2] TB)) _ 1 _ _ _ rL
  rw [show (#[Value.int .i64 2, .int .i64 r, .int .i64 s, .int .i64 m, .int .u16 (v : Int), .slice sa b.length sc] : Array Value)[1]? = some (.int .i64 r) from rfl] at c1
  have c2 := cell_of_row (W0.alloc (.cells #[.int .u8 2] TB)) _ 2 _ _ _ rL
  rw [show (#[Value.int .i64 2, .int .i64 r, .int .i64 s, .int .i64 m, .int .u16 (v : Int), .slice sa b.length sc] : Array Value)[2]? = some (.int .i64 s) from rfl] at c2
  have c3 := cell_of_row (W0.alloc (.cells #[.int .u8 2] TB)) _ 3 _ _ _ rL
  rw [show (#[Value.int .i64 2, .int .i64 r, .int .i64 s, .int .i64 m, .int .u16 (v : Int), .slice sa b.length sc] : Array Value)[3]? = some (.int .i64 m) from rfl] at c3
  have c4 := cell_of_row (W0.alloc (.cells #[.int .u8 2] TB)) _ 4 _ _ _ rL
  rw [show (#[Value.int .i64 2, .int .i64 r, .int .i64 s, .int .i64 m, .int .u16 (v : Int), .slice sa b.length sc] : Array Value)[4]? = some (.int .u16 (v : Int)) from rfl] at c4
  have c5 := cell_of_row (W0.alloc (.cells #[.int .u8 2] TB)) _ 5 _ _ _ rL
  rw [show (#[Value.int .i64 2, .int .i64 r, .int .i64 s, .int .i64 m, .int .u16 (v : Int), .slice sa b.length sc] : Array Value)[5]? = some (.slice sa b.length sc) from rfl] at c5
  rw [hcf, show beB 1 2 = [2] from by decide]
  go_wp2_with fail
  refine (kB _).mono ?_
  rintro e w2 ⟨u, rfl, hu, h2⟩
  have hub := hu.bys (by have := HX.out.2.2; unfold maxLen; omega)
  have hL2 := hL.ext h2
  have x2 := xL.trans h2
  clear hu kB c0 c1 c2 c3 c4 c5 z0
  have c0 := cell_of_row w2 _ 0 _ _ _ (x2.block r0)
  rw [show (#[Value.int .i64 2, .int .i64 r, .int .i64 s, .int .i64 m, .int .u16 (v : Int), .slice sa b.length sc] : Array Value)[0]? = some (.int .i64 2) from rfl] at c0
  have c1 := cell_of_row w2 _ 1 _ _ _ (x2.block r0)
  rw [show (#[Value.int .i64 2, .int .i64 r, .int .i64 s, .int .i64 m, .int .u16 (v : Int), .slice sa b.length sc] : Array Value)[1]? = some (.int .i64 r) from rfl] at c1
  have c2 := cell_of_row w2 _ 2 _ _ _ (x2.block r0)
  rw [show (#[Value.int .i64 2, .int .i64 r, .int .i64 s, .int .i64 m, .int .u16 (v : Int), .slice sa b.length sc] : Array Value)[2]? = some (.int .i64 s) from rfl] at c2
  have c3 := cell_of_row w2 _ 3 _ _ _ (x2.block r0)
  rw [show (#[Value.int .i64 2, .int .i64 r, .int .i64 s, .int .i64 m, .int .u16 (v : Int), .slice sa b.length sc] : Array Value)[3]? = some (.int .i64 m) from rfl] at c3
  have c4 := cell_of_row w2 _ 4 _ _ _ (x2.block r0)
  rw [show (#[Value.int .i64 2, .int .i64 r, .int .i64 s, .int .i64 m, .int .u16 (v : Int), .slice sa b.length sc] : Array Value)[4]? = some (.int .u16 (v : Int)) from rfl] at c4
  have c5 := cell_of_row w2 _ 5 _ _ _ (x2.block r0)
  rw [show (#[Value.int .i64 2, .int .i64 r, .int .i64 s, .int .i64 m, .int .u16 (v : Int), .slice sa b.length sc] : Array Value)[5]? = some (.slice sa b.length sc) from rfl] at c5
  go_wp2_with (at_builtin; (refine wpList_append_B VRef01.byteSl rfl _ _ rfl (by rfl) (by rfl) hL2 hub ?hl ?hb ?hk))
  case hl => have := HX.out.2.2; simp only [List.length_cons, List.length_nil]; omega
  case hb => exact x2.size
  case hk =>
  intro u3 w3 hO hg _
  have x3 : Ext W0 w3 := Below.trans x2 (grown_below hg x2.size hL2.lt)
  obtain ⟨ua, uc, rfl⟩ := hO.slice
  have hlen : (2 :: cstBy r s m v).length = 9 := by rw [List.length_cons, HX.out.2.2]
  rw [hlen] at hO ⊢
  generalize hl3 : (2 :: cstBy r s m v) = L3 at *
  have HL3 := Lib.hid (And.intro hl3 hlen)
  clear c0 c1 c2 c3 c4 c5 hg hL2 hub h2 hL xL rL hlen hl3
  have c0 := cell_of_row w3 _ 0 _ _ _ (x3.block r0)
  rw [show (#[Value.int .i64 2, .int .i64 r, .int .i64 s, .int .i64 m, .int .u16 (v : Int), .slice sa b.length sc] : Array Value)[0]? = some (.int .i64 2) from rfl] at c0
  have c1 := cell_of_row w3 _ 1 _ _ _ (x3.block r0)
  rw [show (#[Value.int .i64 2, .int .i64 r, .int .i64 s, .int .i64 m, .int .u16 (v : Int), .slice sa b.length sc] : Array Value)[1]? = some (.int .i64 r) from rfl] at c1
  have c2 := cell_of_row w3 _ 2 _ _ _ (x3.block r0)
  rw [show (#[Value.int .i64 2, .int .i64 r, .int .i64 s, .int .i64 m, .int .u16 (v : Int), .slice sa b.length sc] : Array Value)[2]? = some (.int .i64 s) from rfl] at c2
  have c3 := cell_of_row w3 _ 3 _ _ _ (x3.block r0)
  rw [show (#[Value.int .i64 2, .int .i64 r, .int .i64 s, .int .i64 m, .int .u16 (v : Int), .slice sa b.length sc] : Array Value)[3]? = some (.int .i64 m) from rfl] at c3
  have c4 := cell_of_row w3 _ 4 _ _ _ (x3.block r0)
  rw [show (#[Value.int .i64 2, .int .i64 r, .int .i64 s, .int .i64 m, .int .u16 (v : Int), .slice sa b.length sc] : Array Value)[4]? = some (.int .u16 (v : Int)) from rfl] at c4
  have c5 := cell_of_row w3 _ 5 _ _ _ (x3.block r0)
  rw [show (#[Value.int .i64 2, .int .i64 r, .int .i64 s, .int .i64 m, .int .u16 (v : Int), .slice sa b.length sc] : Array Value)[5]? = some (.slice sa b.length sc) from rfl] at c5
  go_wp2_with fail
  go_ret
  exact ⟨_, rfl, by have h := hO.mono x0.size; rw [← HL3.out.1] at h; exact h, x0.trans x3⟩

set_option maxRecDepth 100000 in
set_option maxHeartbeats 4000000 in
theorem refFront1 (r s m : Int) (v : Nat) (b : List UInt8) (sx : Sl3) (w : World) (hx : Bys w (slV sx) b) (hc : chkF ⟨1, r, s, m, (v : Int), b⟩ = true) (hv : v < 65536) :
    Calls Try.prog 51 #[.agg (frmC ⟨1, r, s, m, (v : Int), b⟩ (slV sx))] w (MadeB w TB (frontF ⟨1, r, s, m, (v : Int), b⟩)) := by
  rw [front1 rfl]
  obtain ⟨-, hcb, hbl, hb2, h4z⟩ := chkF_facts hc
  simp only at hcb hbl hb2 h4z
  obtain ⟨a0, a1, a2, a3, a4, a5⟩ := chkB_facts hcb
  have hn : sx.2.1 = b.length := by
    obtain ⟨a, c, h, _⟩ := hx
    unfold slV at h
    simp only [Value.slice.injEq] at h
    exact h.2.1
  obtain ⟨sa, sn, sc⟩ := sx
  simp only at hn
  subst hn
  have kB := fun W => Bytes_calls r s m v hv hcb W
  unfold cst MadeB at kB
  have hcl := cstBy_len r s m v
  have hcf : cstF ⟨1, r, s, m, (v : Int), b⟩ = cstBy r s m v := rfl
  unfold frmC slV
  simp only
  have r0 := heap_alloc_new w (.cells #[.int .i64 1, .int .i64 r, .int .i64 s, .int .i64 m, .int .u16 (v : Int), .slice sa b.length sc] TFrm)
  have x0 := Ext.alloc w (.cells #[.int .i64 1, .int .i64 r, .int .i64 s, .int .i64 m, .int .u16 (v : Int), .slice sa b.length sc] TFrm)
  obtain ⟨W0, hW0⟩ : ∃ W0, W0 = w.alloc (.cells #[.int .i64 1, .int .i64 r, .int .i64 s, .int .i64 m, .int .u16 (v : Int), .slice sa b.length sc] TFrm) := ⟨_, rfl⟩
  rw [← hW0] at r0 x0
  have H0 := Lib.hid hW0
  clear hW0
  have HX := Lib.hid (And.intro hx (And.intro hbl hcl))
  clear hx hc hcb hb2 h4z hcl
  go_enter Try.func51, Try.ntmps51
  refine wp_seq_k fun K hK => ?_
  have HK := Lib.hid hK
  clear hK
  go_wp2_with fail
  refine HK.out _ _ ?_
  clear HK
  show Code.wp _ _ _ _ (w.alloc (.cells #[.int .i64 1, .int .i64 r, .int .i64 s, .int .i64 m, .int .u16 (v : Int), .slice sa b.length sc] TFrm))
  rw [← H0.out]
  clear H0
  have hL := ownB_lit W0 W0.heap.size TB #[.int .u8 1] [1] 1 rfl rfl (Nat.le_refl _) (by decide)
  have xL : Ext W0 (W0.alloc (.cells #[.int .u8 1] TB)) := Ext.alloc _ _
  have rL := xL.block r0
  have z0 : W0.cell? ⟨w.heap.size, 0, none⟩ = some (.int .i64 1) := cell_of_row _ _ 0 _ _ _ r0
  have c0 := cell_of_row (W0.alloc (.cells #[.int .u8 1] TB)) _ 0 _ _ _ rL
  rw [show (#[Value.int .i64 1, .int .i64 r, .int .i64 s, .int .i64 m, .int .u16 (v : Int), .slice sa b.length sc] : Array Value)[0]? = some (.int .i64 1) from rfl] at c0
  have c1 := cell_of_row (W0.alloc (.cells #[.int .u8 1] TB)) _ 1 _ _ _ rL
  rw [show (#[Value.int .i64 1, .int .i64 r, .int .i64 s, .int .i64 m, .int .u16 (v : Int), .slice sa b.length sc] : Array Value)[1]? = some (.int .i64 r) from rfl] at c1
  have c2 := cell_of_row (W0.alloc (.cells #[.int .u8 1] TB)) _ 2 _ _ _ rL
  rw [show (#[Value.int .i64 1, .int .i64 r, .int .i64 s, .int .i64 m, .int .u16 (v : Int), .slice sa b.length sc] : Array Value)[2]? = some (.int .i64 s) from rfl] at c2
  have c3 := cell_of_row (W0.alloc (.cells #[.int .u8 1] TB)) _ 3 _ _ _ rL
  rw [show (#[Value.int .i64 1, .int .i64 r, .int .i64 s, .int .i64 m, .int .u16 (v : Int), .slice sa b.length sc] : Array Value)[3]? = some (.int .i64 m) from rfl] at c3
  have c4 := cell_of_row (W0.alloc (.cells #[.int .u8 1] TB)) _ 4 _ _ _ rL
  rw [show (#[Value.int .i64 1, .int .i64 r, .int .i64 s, .int .i64 m, .int .u16 (v : Int), .slice sa b.length sc] : Array Value)[4]? = some (.int .u16 (v : Int)) from rfl] at c4
  have c5 := cell_of_row (W0.alloc (.cells #[.int .u8 1] TB)) _ 5 _ _ _ rL
  rw [show (#[Value.int .i64 1, .int .i64 r, .int .i64 s, .int .i64 m, .int .u16 (v : Int), .slice sa b.length sc] : Array Value)[5]? = some (.slice sa b.length sc) from rfl] at c5
  rw [show beB 1 1 = [1] from by decide, beB2 (show b.length < 65536 by omega)]
  clear kB hcf
  obtain ⟨L, hL0⟩ : ∃ L, b.length = L := ⟨_, rfl⟩
  rw [hL0] at hbl c5 ⊢
  have HBL := Lib.hid hL0
  clear rL
  have q1 : (L : Int) / 256 = ((L / 256 : Nat) : Int) := by omega
  have q2 : (L : Int) % 256 = ((L % 256 : Nat) : Int) := by omega
  have q3 : (L : Int).tdiv 256 = ((L / 256 : Nat) : Int) := by rw [Int.tdiv_eq_ediv_of_nonneg (by omega)]; omega
  have q4 : (L : Int).tmod 256 = ((L % 256 : Nat) : Int) := by rw [Int.tmod_eq_emod_of_nonneg (by omega)]; omega
  have v1 : IntKind.u8.wrap ((L / 256 : Nat) : Int) = ((L / 256 : Nat) : Int) := by rw [IntKind.wrap_u8]; omega
  have v2 : IntKind.u8.wrap ((L % 256 : Nat) : Int) = ((L % 256 : Nat) : Int) := by rw [IntKind.wrap_u8]; omega
  have s1 := byte_enc (n := L / 256) (by omega)
  have s2 := byte_enc (n := L % 256) (by omega)
  unfold encB at s1 s2
  have HS := Lib.hid (And.intro s1 s2)
  have hhi : L / 256 < 256 := by omega
  have hlo : L % 256 < 256 := by omega
  clear s1 s2
  generalize UInt8.ofNat (L / 256) = B1 at *
  generalize UInt8.ofNat (L % 256) = B2 at *
  generalize L / 256 = n1 at *
  generalize L % 256 = n2 at *
  go_wp2_with (at_builtin; (refine wpList_append_B VRef01.byteSl rfl _ _ rfl (by rfl) (by rfl) (hL.alloc _) (bys_new [B1, B2] (by simp) (by rw [List.map_cons, List.map_singleton, HS.out.1, HS.out.2]) rfl (by simp [maxLen])) ?hl ?hb ?hk))
  case hl => simp
  case hb => have := xL.size; simp at this ⊢; omega
  case hk =>
  intro u5 w5 hO5 hg5 _
  have x5 : Ext W0 w5 := Below.trans (xL.thenAlloc _) (grown_below hg5 (xL.thenAlloc _).size hL.lt)
  obtain ⟨ua5, uc5, rfl⟩ := hO5.slice
  clear c0 c1 c2 c3 c4 c5 hg5 hL
  have c0 := cell_of_row w5 _ 0 _ _ _ (x5.block r0)
  rw [show (#[Value.int .i64 1, .int .i64 r, .int .i64 s, .int .i64 m, .int .u16 (v : Int), .slice sa b.length sc] : Array Value)[0]? = some (.int .i64 1) from rfl] at c0
  have c1 := cell_of_row w5 _ 1 _ _ _ (x5.block r0)
  rw [show (#[Value.int .i64 1, .int .i64 r, .int .i64 s, .int .i64 m, .int .u16 (v : Int), .slice sa b.length sc] : Array Value)[1]? = some (.int .i64 r) from rfl] at c1
  have c2 := cell_of_row w5 _ 2 _ _ _ (x5.block r0)
  rw [show (#[Value.int .i64 1, .int .i64 r, .int .i64 s, .int .i64 m, .int .u16 (v : Int), .slice sa b.length sc] : Array Value)[2]? = some (.int .i64 s) from rfl] at c2
  have c3 := cell_of_row w5 _ 3 _ _ _ (x5.block r0)
  rw [show (#[Value.int .i64 1, .int .i64 r, .int .i64 s, .int .i64 m, .int .u16 (v : Int), .slice sa b.length sc] : Array Value)[3]? = some (.int .i64 m) from rfl] at c3
  have c4 := cell_of_row w5 _ 4 _ _ _ (x5.block r0)
  rw [show (#[Value.int .i64 1, .int .i64 r, .int .i64 s, .int .i64 m, .int .u16 (v : Int), .slice sa b.length sc] : Array Value)[4]? = some (.int .u16 (v : Int)) from rfl] at c4
  have c5 := cell_of_row w5 _ 5 _ _ _ (x5.block r0)
  rw [show (#[Value.int .i64 1, .int .i64 r, .int .i64 s, .int .i64 m, .int .u16 (v : Int), .slice sa b.length sc] : Array Value)[5]? = some (.slice sa b.length sc) from rfl] at c5
  have hb5 := HX.out.1.ext (x0.trans x5)
  unfold slV at hb5
  simp only at hb5
  rw [HBL.out] at hb5 c5
  have h5l : ([1, B1, B2]).length = 3 := by simp
  generalize hgl : ([1, B1, B2]) = L5 at *
  rw [h5l] at hO5 ⊢
  have HGL := Lib.hid (And.intro hgl h5l)
  clear hgl h5l q1 q2 q3 q4 v1 v2
  go_wp2_with (at_builtin; (refine wpList_append_B VRef01.byteSl rfl _ _ rfl (by rfl) (by rfl) hO5 hb5 ?hl ?hb ?hk))
  case hl => have := HGL.out.2; have := HX.out.2.1; omega
  case hb => exact x5.size
  case hk =>
  intro u6 w6 hO6 hg6 _
  have x6 : Ext W0 w6 := Below.trans x5 (grown_below hg6 x5.size hO5.lt)
  obtain ⟨ua6, uc6, rfl⟩ := hO6.slice
  have hO6' := hO6.mono x0.size
  have x06 := x0.trans x6
  clear hO6 hO5 hg6 c0 c1 c2 c3 c4 c5 hb5
  generalize hl6 : L5 ++ b = L6 at *
  have hfin : L6 = [1] ++ ([B1, B2] ++ b) := by rw [← hl6, ← HGL.out.1]; rfl
  have hO7 : OwnB w6 w.heap.size TB (.slice ua6 L6.length uc6) ([1] ++ ([B1, B2] ++ b)) := by rw [← hfin]; exact hO6'
  clear hl6 hfin hO6'
  go_wp2_with fail
  go_ret
  exact ⟨_, rfl, hO7, x06⟩

set_option maxRecDepth 100000 in
set_option maxHeartbeats 4000000 in
theorem refFront3 (r s m : Int) (v : Nat) (b : List UInt8) (sx : Sl3) (w : World) (hx : Bys w (slV sx) b) (hc : chkF ⟨3, r, s, m, (v : Int), b⟩ = true) (hv : v < 65536) :
    Calls Try.prog 51 #[.agg (frmC ⟨3, r, s, m, (v : Int), b⟩ (slV sx))] w (MadeB w TB (frontF ⟨3, r, s, m, (v : Int), b⟩)) := by
  rw [front3 rfl]
  obtain ⟨-, hcb, hbl, hb2, h4z⟩ := chkF_facts hc
  simp only at hcb hbl hb2 h4z
  obtain ⟨a0, a1, a2, a3, a4, a5⟩ := chkB_facts hcb
  have hn : sx.2.1 = b.length := by
    obtain ⟨a, c, h, _⟩ := hx
    unfold slV at h
    simp only [Value.slice.injEq] at h
    exact h.2.1
  obtain ⟨sa, sn, sc⟩ := sx
  simp only at hn
  subst hn
  have kB := fun W => Bytes_calls r s m v hv hcb W
  unfold cst MadeB at kB
  have hcl := cstBy_len r s m v
  have hcf : cstF ⟨3, r, s, m, (v : Int), b⟩ = cstBy r s m v := rfl
  unfold frmC slV
  simp only
  have r0 := heap_alloc_new w (.cells #[.int .i64 3, .int .i64 r, .int .i64 s, .int .i64 m, .int .u16 (v : Int), .slice sa b.length sc] TFrm)
  have x0 := Ext.alloc w (.cells #[.int .i64 3, .int .i64 r, .int .i64 s, .int .i64 m, .int .u16 (v : Int), .slice sa b.length sc] TFrm)
  obtain ⟨W0, hW0⟩ : ∃ W0, W0 = w.alloc (.cells #[.int .i64 3, .int .i64 r, .int .i64 s, .int .i64 m, .int .u16 (v : Int), .slice sa b.length sc] TFrm) := ⟨_, rfl⟩
  rw [← hW0] at r0 x0
  have H0 := Lib.hid hW0
  clear hW0
  have HX := Lib.hid (And.intro hx (And.intro hbl hcl))
  clear hx hc hcb hb2 h4z hcl
  go_enter Try.func51, Try.ntmps51
  refine wp_seq_k fun K hK => ?_
  have HK := Lib.hid hK
  clear hK
  go_wp2_with fail
  refine HK.out _ _ ?_
  clear HK
  show Code.wp _ _ _ _ (w.alloc (.cells #[.int .i64 3, .int .i64 r, .int .i64 s, .int .i64 m, .int .u16 (v : Int), .slice sa b.length sc] TFrm))
  rw [← H0.out]
  clear H0
  have hL := ownB_lit W0 W0.heap.size TB #[.int .u8 3] [3] 1 rfl rfl (Nat.le_refl _) (by decide)
  have xL : Ext W0 (W0.alloc (.cells #[.int .u8 3] TB)) := Ext.alloc _ _
  have rL := xL.block r0
  have z0 : W0.cell? ⟨w.heap.size, 0, none⟩ = some (.int .i64 3) := cell_of_row _ _ 0 _ _ _ r0
  have c0 := cell_of_row (W0.alloc (.cells #[.int .u8 3] TB)) _ 0 _ _ _ rL
  rw [show (#[Value.int .i64 3, .int .i64 r, .int .i64 s, .int .i64 m, .int .u16 (v : Int), .slice sa b.length sc] : Array Value)[0]? = some (.int .i64 3) from rfl] at c0
  have c1 := cell_of_row (W0.alloc (.cells #[.int .u8 3] TB)) _ 1 _ _ _ rL
  rw [show (#[Value.int .i64 3, .int .i64 r, .int .i64 s, .int .i64 m, .int .u16 (v : Int), .slice sa b.length sc] : Array Value)[1]? = some (.int .i64 r) from rfl] at c1
  have c2 := cell_of_row (W0.alloc (.cells #[.int .u8 3] TB)) _ 2 _ _ _ rL
  rw [show (#[Value.int .i64 3, .int .i64 r, .int .i64 s, .int .i64 m, .int .u16 (v : Int), .slice sa b.length sc] : Array Value)[2]? = some (.int .i64 s) from rfl] at c2
  have c3 := cell_of_row (W0.alloc (.cells #[.int .u8 3] TB)) _ 3 _ _ _ rL
  rw [show (#[Value.int .i64 3, .int .i64 r, .int .i64 s, .int .i64 m, .int .u16 (v : Int), .slice sa b.length sc] : Array Value)[3]? = some (.int .i64 m) from rfl] at c3
  have c4 := cell_of_row (W0.alloc (.cells #[.int .u8 3] TB)) _ 4 _ _ _ rL
  rw [show (#[Value.int .i64 3, .int .i64 r, .int .i64 s, .int .i64 m, .int .u16 (v : Int), .slice sa b.length sc] : Array Value)[4]? = some (.int .u16 (v : Int)) from rfl] at c4
  have c5 := cell_of_row (W0.alloc (.cells #[.int .u8 3] TB)) _ 5 _ _ _ rL
  rw [show (#[Value.int .i64 3, .int .i64 r, .int .i64 s, .int .i64 m, .int .u16 (v : Int), .slice sa b.length sc] : Array Value)[5]? = some (.slice sa b.length sc) from rfl] at c5
  rw [hcf, show beB 1 3 = [3] from by decide, beB2 (show b.length < 65536 by omega)]
  clear hcf
  obtain ⟨L, hL0⟩ : ∃ L, b.length = L := ⟨_, rfl⟩
  rw [hL0] at hbl c5 ⊢
  have HBL := Lib.hid hL0
  go_wp2_with fail
  refine (kB _).mono ?_
  rintro e w2 ⟨u, rfl, hu, h2⟩
  have hub := hu.bys (by have := HX.out.2.2; unfold maxLen; omega)
  have hL2 := hL.ext h2
  have x2 := xL.trans h2
  clear hu kB c0 c1 c2 c3 c4 c5 z0
  have c0 := cell_of_row w2 _ 0 _ _ _ (x2.block r0)
  rw [show (#[Value.int .i64 3, .int .i64 r, .int .i64 s, .int .i64 m, .int .u16 (v : Int), .slice sa b.length sc] : Array Value)[0]? = some (.int .i64 3) from rfl] at c0
  have c1 := cell_of_row w2 _ 1 _ _ _ (x2.block r0)
  rw [show (#[Value.int .i64 3, .int .i64 r, .int .i64 s, .int .i64 m, .int .u16 (v : Int), .slice sa b.length sc] : Array Value)[1]? = some (.int .i64 r) from rfl] at c1
  have c2 := cell_of_row w2 _ 2 _ _ _ (x2.block r0)
  rw [show (#[Value.int .i64 3, .int .i64 r, .int .i64 s, .int .i64 m, .int .u16 (v : Int), .slice sa b.length sc] : Array Value)[2]? = some (.int .i64 s) from rfl] at c2
  have c3 := cell_of_row w2 _ 3 _ _ _ (x2.block r0)
  rw [show (#[Value.int .i64 3, .int .i64 r, .int .i64 s, .int .i64 m, .int .u16 (v : Int), .slice sa b.length sc] : Array Value)[3]? = some (.int .i64 m) from rfl] at c3
  have c4 := cell_of_row w2 _ 4 _ _ _ (x2.block r0)
  rw [show (#[Value.int .i64 3, .int .i64 r, .int .i64 s, .int .i64 m, .int .u16 (v : Int), .slice sa b.length sc] : Array Value)[4]? = some (.int .u16 (v : Int)) from rfl] at c4
  have c5 := cell_of_row w2 _ 5 _ _ _ (x2.block r0)
  rw [show (#[Value.int .i64 3, .int .i64 r, .int .i64 s, .int .i64 m, .int .u16 (v : Int), .slice sa b.length sc] : Array Value)[5]? = some (.slice sa b.length sc) from rfl] at c5
  go_wp2_with (at_builtin; (refine wpList_append_B VRef01.byteSl rfl _ _ rfl (by rfl) (by rfl) hL2 hub ?hl ?hb ?hk))
  case hl => have := HX.out.2.2; simp only [List.length_cons, List.length_nil]; omega
  case hb => exact x2.size
  case hk =>
  intro u3 w3 hO hg _
  have x3 : Ext W0 w3 := Below.trans x2 (grown_below hg x2.size hL2.lt)
  obtain ⟨ua, uc, rfl⟩ := hO.slice
  have hlen : (3 :: cstBy r s m v).length = 9 := by rw [List.length_cons, HX.out.2.2]
  rw [hlen] at hO ⊢
  generalize hl3 : (3 :: cstBy r s m v) = L3 at *
  have HL3 := Lib.hid (And.intro hl3 hlen)
  clear c0 c1 c2 c3 c4 c5 hg hL2 hub h2 hL xL rL hlen hl3
  have c0 := cell_of_row w3 _ 0 _ _ _ (x3.block r0)
  rw [show (#[Value.int .i64 3, .int .i64 r, .int .i64 s, .int .i64 m, .int .u16 (v : Int), .slice sa b.length sc] : Array Value)[0]? = some (.int .i64 3) from rfl] at c0
  have c1 := cell_of_row w3 _ 1 _ _ _ (x3.block r0)
  rw [show (#[Value.int .i64 3, .int .i64 r, .int .i64 s, .int .i64 m, .int .u16 (v : Int), .slice sa b.length sc] : Array Value)[1]? = some (.int .i64 r) from rfl] at c1
  have c2 := cell_of_row w3 _ 2 _ _ _ (x3.block r0)
  rw [show (#[Value.int .i64 3, .int .i64 r, .int .i64 s, .int .i64 m, .int .u16 (v : Int), .slice sa b.length sc] : Array Value)[2]? = some (.int .i64 s) from rfl] at c2
  have c3 := cell_of_row w3 _ 3 _ _ _ (x3.block r0)
  rw [show (#[Value.int .i64 3, .int .i64 r, .int .i64 s, .int .i64 m, .int .u16 (v : Int), .slice sa b.length sc] : Array Value)[3]? = some (.int .i64 m) from rfl] at c3
  have c4 := cell_of_row w3 _ 4 _ _ _ (x3.block r0)
  rw [show (#[Value.int .i64 3, .int .i64 r, .int .i64 s, .int .i64 m, .int .u16 (v : Int), .slice sa b.length sc] : Array Value)[4]? = some (.int .u16 (v : Int)) from rfl] at c4
  have c5 := cell_of_row w3 _ 5 _ _ _ (x3.block r0)
  rw [show (#[Value.int .i64 3, .int .i64 r, .int .i64 s, .int .i64 m, .int .u16 (v : Int), .slice sa b.length sc] : Array Value)[5]? = some (.slice sa b.length sc) from rfl] at c5
  rw [HBL.out] at c5
  have q1 : (L : Int) / 256 = ((L / 256 : Nat) : Int) := by omega
  have q2 : (L : Int) % 256 = ((L % 256 : Nat) : Int) := by omega
  have q3 : (L : Int).tdiv 256 = ((L / 256 : Nat) : Int) := by rw [Int.tdiv_eq_ediv_of_nonneg (by omega)]; omega
  have q4 : (L : Int).tmod 256 = ((L % 256 : Nat) : Int) := by rw [Int.tmod_eq_emod_of_nonneg (by omega)]; omega
  have v1 : IntKind.u8.wrap ((L / 256 : Nat) : Int) = ((L / 256 : Nat) : Int) := by rw [IntKind.wrap_u8]; omega
  have v2 : IntKind.u8.wrap ((L % 256 : Nat) : Int) = ((L % 256 : Nat) : Int) := by rw [IntKind.wrap_u8]; omega
  have s1 := byte_enc (n := L / 256) (by omega)
  have s2 := byte_enc (n := L % 256) (by omega)
  unfold encB at s1 s2
  have HS := Lib.hid (And.intro s1 s2)
  have hhi : L / 256 < 256 := by omega
  have hlo : L % 256 < 256 := by omega
  clear s1 s2
  generalize UInt8.ofNat (L / 256) = B1 at *
  generalize UInt8.ofNat (L % 256) = B2 at *
  generalize L / 256 = n1 at *
  generalize L % 256 = n2 at *
  go_wp2_with (at_builtin; (refine wpList_append_B VRef01.byteSl rfl _ _ rfl (by rfl) (by rfl) (hO.alloc _) (bys_new [B1, B2] (by simp) (by rw [List.map_cons, List.map_singleton, HS.out.1, HS.out.2]) rfl (by simp [maxLen])) ?hl ?hb ?hk))
  case hl => simp; have := HL3.out.2; omega
  case hb => have := x3.size; simp at this ⊢; omega
  case hk =>
  intro u5 w5 hO5 hg5 _
  have x5 : Ext W0 w5 := Below.trans (x3.thenAlloc _) (grown_below hg5 (x3.thenAlloc _).size hO.lt)
  obtain ⟨ua5, uc5, rfl⟩ := hO5.slice
  clear c0 c1 c2 c3 c4 c5 hg5 hO
  have c0 := cell_of_row w5 _ 0 _ _ _ (x5.block r0)
  rw [show (#[Value.int .i64 3, .int .i64 r, .int .i64 s, .int .i64 m, .int .u16 (v : Int), .slice sa b.length sc] : Array Value)[0]? = some (.int .i64 3) from rfl] at c0
  have c1 := cell_of_row w5 _ 1 _ _ _ (x5.block r0)
  rw [show (#[Value.int .i64 3, .int .i64 r, .int .i64 s, .int .i64 m, .int .u16 (v : Int), .slice sa b.length sc] : Array Value)[1]? = some (.int .i64 r) from rfl] at c1
  have c2 := cell_of_row w5 _ 2 _ _ _ (x5.block r0)
  rw [show (#[Value.int .i64 3, .int .i64 r, .int .i64 s, .int .i64 m, .int .u16 (v : Int), .slice sa b.length sc] : Array Value)[2]? = some (.int .i64 s) from rfl] at c2
  have c3 := cell_of_row w5 _ 3 _ _ _ (x5.block r0)
  rw [show (#[Value.int .i64 3, .int .i64 r, .int .i64 s, .int .i64 m, .int .u16 (v : Int), .slice sa b.length sc] : Array Value)[3]? = some (.int .i64 m) from rfl] at c3
  have c4 := cell_of_row w5 _ 4 _ _ _ (x5.block r0)
  rw [show (#[Value.int .i64 3, .int .i64 r, .int .i64 s, .int .i64 m, .int .u16 (v : Int), .slice sa b.length sc] : Array Value)[4]? = some (.int .u16 (v : Int)) from rfl] at c4
  have c5 := cell_of_row w5 _ 5 _ _ _ (x5.block r0)
  rw [show (#[Value.int .i64 3, .int .i64 r, .int .i64 s, .int .i64 m, .int .u16 (v : Int), .slice sa b.length sc] : Array Value)[5]? = some (.slice sa b.length sc) from rfl] at c5
  have hb5 := HX.out.1.ext (x0.trans x5)
  unfold slV at hb5
  simp only at hb5
  rw [HBL.out] at hb5 c5
  have h5l : (L3 ++ [B1, B2]).length = 11 := by simp; have := HL3.out.2; omega
  generalize hgl : (L3 ++ [B1, B2]) = L5 at *
  rw [h5l] at hO5 ⊢
  have HGL := Lib.hid (And.intro hgl h5l)
  clear hgl h5l q1 q2 q3 q4 v1 v2
  go_wp2_with (at_builtin; (refine wpList_append_B VRef01.byteSl rfl _ _ rfl (by rfl) (by rfl) hO5 hb5 ?hl ?hb ?hk))
  case hl => have := HGL.out.2; have := HX.out.2.1; omega
  case hb => exact x5.size
  case hk =>
  intro u6 w6 hO6 hg6 _
  have x6 : Ext W0 w6 := Below.trans x5 (grown_below hg6 x5.size hO5.lt)
  obtain ⟨ua6, uc6, rfl⟩ := hO6.slice
  have hO6' := hO6.mono x0.size
  have x06 := x0.trans x6
  clear hO6 hO5 hg6 c0 c1 c2 c3 c4 c5 hb5
  generalize hl6 : L5 ++ b = L6 at *
  have hfin : L6 = [3] ++ (cstBy r s m v ++ ([B1, B2] ++ b)) := by rw [← hl6, ← HGL.out.1]; rw [← HL3.out.1]; simp
  have hO7 : OwnB w6 w.heap.size TB (.slice ua6 L6.length uc6) ([3] ++ (cstBy r s m v ++ ([B1, B2] ++ b))) := by rw [← hfin]; exact hO6'
  clear hl6 hfin hO6'
  go_wp2_with fail
  go_ret
  exact ⟨_, rfl, hO7, x06⟩

theorem refFront_calls (f : FrmD) (sx : Sl3) (w : World) (hx : Bys w (slV sx) f.b) (hc : chkF f = true) (hv0 : 0 ≤ f.v) (hv : f.v < 65536) :
    Calls Try.prog 51 #[.agg (frmC f (slV sx))] w (MadeB w TB (frontF f)) := by
  obtain ⟨k, r, s, m, v, b⟩ := f
  simp only at hx hv0 hv
  obtain ⟨n, rfl⟩ : ∃ n : Nat, v = (n : Int) := ⟨v.toNat, by omega⟩
  have hn : n < 65536 := by omega
  rcases (chkF_facts hc).1 with h | h | h | h
  all_goals
    simp only at h
    subst h
  · exact refFront1 r s m n b sx w hx hc hn
  · exact refFront2 r s m n b sx w hx hc hn
  · exact refFront3 r s m n b sx w hx hc hn
  · exact refFront4 r s m n b sx w hx hc hn
end Go.Proofs.Ytfjjgceagpcfkaa.VSta

/- The document's bytes of a frame. -/
namespace Go.Proofs.Ytfjjgceagpcfkaa.VSta
open Go.RowKit Go.VBase Go.VRg Go.VEq Go.VOct VOct VCst Go.Proofs.Ytfjjgceagpcfkaa.VCrc _root_.Go.VCrc VMsg

set_option maxRecDepth 100000 in
set_option maxHeartbeats 4000000 in
theorem refFBytes_calls (f : FrmD) (sx : Sl3) (w : World) (hx : Bys w (slV sx) f.b) (hc : chkF f = true) (hv0 : 0 ≤ f.v) (hv : f.v < 65536) :
    Calls Try.prog 37 #[.agg (frmC f (slV sx))] w (MadeB w TB (frmBy f)) := by
  have hn : sx.2.1 = f.b.length := by
    obtain ⟨a, c, h, _⟩ := hx
    unfold slV at h
    simp only [Value.slice.injEq] at h
    exact h.2.1
  have kF := fun W (h : Ext w W) => refFront_calls f sx W (hx.ext h) hc hv0 hv
  unfold MadeB at kF
  obtain ⟨g, hg⟩ : ∃ g : Nat, f.v = (g : Int) := ⟨f.v.toNat, by omega⟩
  have kB := fun W => Bytes_calls f.r f.s f.m g (by omega) (chkF_facts hc).2.1 W
  have hcf : cstF f = cstBy f.r f.s f.m g := by unfold cstF; rw [hg]; rfl
  rw [← hcf, ← hg] at kB
  unfold cst MadeB at kB
  have hcl : (cstF f).length = 8 := cstF_len f
  have hfl : (frontF f).length ≤ 2000 := by have := front_len hc; have := (long_le hc).1; omega
  have x0 := Ext.alloc w (.cells (frmC f (slV sx)) TFrm)
  have r0 := heap_alloc_new w (.cells (frmC f (slV sx)) TFrm)
  obtain ⟨sa, sn, sc⟩ := sx
  simp only at hn
  subst hn
  have hst : ∀ (u : Value), frmC f u = #[.int .i64 f.k, .int .i64 f.r, .int .i64 f.s, .int .i64 f.m, .int .u16 f.v, u] := fun _ => rfl
  have hsl : slV (sa, f.b.length, sc) = .slice sa f.b.length sc := rfl
  unfold frmBy boundF
  rw [hst, hsl] at kF x0 r0 ⊢
  have HL := Lib.hid hfl
  have HCL := Lib.hid hcl
  clear hst hsl hx hcf hcl hfl hg
  generalize frontF f = F at *
  generalize cstF f = D at *
  obtain ⟨E, hE⟩ : ∃ E, (if f.k = 1 then D else []) = E := ⟨_, rfl⟩
  rw [hE]
  have HE := Lib.hid hE
  clear hE
  go_enter Try.func37, Try.ntmps37
  go_wp2_with fail
  refine (kF _ x0).mono ?_
  rintro e w1 ⟨u, rfl, hu, h1⟩
  have x1 := x0.trans h1
  have r1 := h1.block r0
  have hub := hu.bys (by have := HL.out; unfold maxLen; omega)
  have hu := hu.mono x0.size
  obtain ⟨ua, uc, rfl⟩ := hu.slice
  clear kF h1 r0 x0
  go_wp2_with fail
  refine (VRef01.Twin_calls _ F _ hub (by have := HL.out; omega)).mono ?_
  rintro e w2 ⟨u2, rfl, hu2, h2⟩
  have x2 := x1.trans h2
  have r2 := h2.block r1
  have hU := hu.ext h2
  have hlu := (World.ownsRow.lt hu)
  obtain ⟨ua2, uc2, rfl⟩ := hu2.slice
  have c0 : (w2).cell? ⟨w.heap.size, 0, none⟩ = some (.int .i64 f.k) := cell_of_row _ _ 0 _ _ _ r2
  have c1 : (w2).cell? ⟨w.heap.size, 1, none⟩ = some (.int .i64 f.r) := cell_of_row _ _ 1 _ _ _ r2
  have c2 : (w2).cell? ⟨w.heap.size, 2, none⟩ = some (.int .i64 f.s) := cell_of_row _ _ 2 _ _ _ r2
  have c3 : (w2).cell? ⟨w.heap.size, 3, none⟩ = some (.int .i64 f.m) := cell_of_row _ _ 3 _ _ _ r2
  have c4 : (w2).cell? ⟨w.heap.size, 4, none⟩ = some (.int .u16 f.v) := cell_of_row _ _ 4 _ _ _ r2
  have c5 : (w2).cell? ⟨w.heap.size, 5, none⟩ = some (.slice sa f.b.length sc) := cell_of_row _ _ 5 _ _ _ r2
  clear hub r1 hu
  have HLU := Lib.hid hlu
  clear hlu
  by_cases hk : f.k = 1
  · have b1 : (f.k == 1) = true := by simpa using hk
    have hover : F ++ E = F ++ D := by have hED := HE.out; rw [if_pos hk] at hED; rw [← hED]
    have HOV := Lib.hid hover
    clear hk HE hover
    go_wp2_with fail
    refine (kB _).mono ?_
    rintro e w3 ⟨u3, rfl, hu3, h3⟩
    have x3 := x2.trans h3
    have hb3 := hu3.bys (by have := HCL.out; unfold maxLen; omega)
    have hU3 := hU.ext h3
    have hO3 := hu2.ext h3
    have hs12 := Nat.le_trans h2.size h3.size
    clear kB hU hu2 hu3 c0 c1 c2 c3 c4 c5 r2
    go_wp2_with (at_builtin; (refine wpList_append_B VRef01.byteSl rfl _ _ rfl (by rfl) (by rfl) hO3 hb3 ?hl ?hb ?hk))
    case hl => have := HL.out; have := HCL.out; omega
    case hb => exact hs12
    case hk =>
    intro u5 w5 hO5 hg5 _
    have x5 : Ext w w5 := Below.trans x3 (grown_below hg5 x3.size (fun k hk => Nat.le_trans x1.size (hO3.lt k hk)))
    have hU5 : OwnB w5 w.heap.size TB (.slice ua F.length uc) F := hU3.grown hg5 (by
      cases ho : (Value.slice ua F.length uc).ownBlock with
      | none => exact .inl rfl
      | some k =>
        right
        intro e
        have a1 := (HLU.out k ho).2
        have a2 := hO3.lt k e.symm
        omega)
    have hb5 := hO5.bys (by have := HL.out; have := HCL.out; rw [List.length_append]; unfold maxLen; omega)
    obtain ⟨ua5, uc5, rfl⟩ := hO5.slice
    generalize (F ++ D).length = N5 at *
    clear hO5 hg5 hO3 hU3 hb3 x3 h2 h3 hs12 HLU
    have hlt := ofN_lt (F ++ D)
    have hO := refOf_calls _ (F ++ D) w5 hb5
    have hb0 : beB 3 (ofN (F ++ E)) = beB 3 (ofN (F ++ D)) := by rw [HOV.out]
    have e1 : ((ofN (F ++ D) : Nat) : Int) / 65536 = ((ofN (F ++ D) / 65536 : Nat) : Int) := by omega
    generalize ofN (F ++ D) = n at *
    clear e1
    have e1 : (n : Int) / 65536 = ((n / 65536 : Nat) : Int) := by omega
    have e2 : (n : Int) / 256 % 256 = ((n / 256 % 256 : Nat) : Int) := by omega
    have e3 : (n : Int) % 256 = ((n % 256 : Nat) : Int) := by omega
    have hb : beB 3 n = [UInt8.ofNat (n / 65536), UInt8.ofNat (n / 256 % 256), UInt8.ofNat (n % 256)] := by
      have : n / 256 / 256 = n / 65536 := by omega
      simp only [beB, List.nil_append, List.append_assoc, List.cons_append, this]
      rw [Nat.mod_eq_of_lt (show n / 65536 < 256 by omega)]
    rw [hb] at hb0
    have HFIN := Lib.hid hb0
    clear hb0
    have d1 : (((UInt8.ofNat (n / 65536)).toNat : Nat) : Int) = ((n / 65536 : Nat) : Int) := by simp; omega
    have d2 : (((UInt8.ofNat (n / 256 % 256)).toNat : Nat) : Int) = ((n / 256 % 256 : Nat) : Int) := by simp
    have d3 : (((UInt8.ofNat (n % 256)).toNat : Nat) : Int) = ((n % 256 : Nat) : Int) := by simp
    have v1 : IntKind.u8.wrap ((n / 65536 : Nat) : Int) = ((n / 65536 : Nat) : Int) := by rw [IntKind.wrap_u8]; omega
    have v2 : IntKind.u8.wrap ((n / 256 % 256 : Nat) : Int) = ((n / 256 % 256 : Nat) : Int) := by rw [IntKind.wrap_u8]; omega
    have v3 : IntKind.u8.wrap ((n % 256 : Nat) : Int) = ((n % 256 : Nat) : Int) := by rw [IntKind.wrap_u8]; omega
    have H := Lib.hid (And.intro d1 (And.intro d2 d3))
    clear d1 d2 d3 hb
    generalize UInt8.ofNat (n / 65536) = B1 at *
    generalize UInt8.ofNat (n / 256 % 256) = B2 at *
    generalize UInt8.ofNat (n % 256) = B3 at *
    generalize n / 65536 = n1 at *
    generalize n / 256 % 256 = n2 at *
    generalize n % 256 = n3 at *
    go_wp2_with fail
    refine hO.mono ?_
    rintro e wz ⟨rfl, rfl⟩
    clear hO
    have hlow := hU5.lt
    go_wp2_with (at_builtin; go_loud (refine wpList_append_B VRef01.byteSl rfl _ _ rfl (by rfl) (by rfl) (hU5.alloc _) (bys_new [B1, B2, B3] rfl (by rw [← H.out.1, ← H.out.2.1, ← H.out.2.2]; rfl) rfl (by simp [maxLen])) ?hl ?hb ?hk))
    case hl => have := HL.out; simp only [List.length_cons, List.length_nil]; omega
    case hb => have := (x5).size; simp; omega
    case hk =>
    intro v4 w4 hv4 hg4 hrow4
    have hX4 := Below.trans ((x5).thenAlloc _) (grown_below hg4 (Nat.le_trans (x5).size (by simp)) hlow)
    obtain ⟨a4, cap4, rfl⟩ := hv4.slice
    go_wp2_with fail
    go_ret
    have hv5 : OwnB w4 w.heap.size TB (.slice a4 (F ++ [B1, B2, B3]).length cap4) (F ++ beB 3 (ofN (F ++ E))) := by rw [HFIN.out]; exact hv4
    exact ⟨_, rfl, hv5, hX4⟩
  · have b1 : (f.k == 1) = false := by simpa using hk
    have hover : F ++ E = F := by have hED := HE.out; rw [if_neg hk] at hED; rw [← hED, List.append_nil]
    have HOV := Lib.hid hover
    have hb5 := hu2.bys (by have := HL.out; unfold maxLen; omega)
    clear hk kB hu2 h2 HLU HE hover
    have hlt := ofN_lt (F)
    have hO := refOf_calls _ (F) w2 hb5
    have hb0 : beB 3 (ofN (F ++ E)) = beB 3 (ofN (F)) := by rw [HOV.out]
    have e1 : ((ofN (F) : Nat) : Int) / 65536 = ((ofN (F) / 65536 : Nat) : Int) := by omega
    generalize ofN (F) = n at *
    clear e1
    have e1 : (n : Int) / 65536 = ((n / 65536 : Nat) : Int) := by omega
    have e2 : (n : Int) / 256 % 256 = ((n / 256 % 256 : Nat) : Int) := by omega
    have e3 : (n : Int) % 256 = ((n % 256 : Nat) : Int) := by omega
    have hb : beB 3 n = [UInt8.ofNat (n / 65536), UInt8.ofNat (n / 256 % 256), UInt8.ofNat (n % 256)] := by
      have : n / 256 / 256 = n / 65536 := by omega
      simp only [beB, List.nil_append, List.append_assoc, List.cons_append, this]
      rw [Nat.mod_eq_of_lt (show n / 65536 < 256 by omega)]
    rw [hb] at hb0
    have HFIN := Lib.hid hb0
    clear hb0
    have d1 : (((UInt8.ofNat (n / 65536)).toNat : Nat) : Int) = ((n / 65536 : Nat) : Int) := by simp; omega
    have d2 : (((UInt8.ofNat (n / 256 % 256)).toNat : Nat) : Int) = ((n / 256 % 256 : Nat) : Int) := by simp
    have d3 : (((UInt8.ofNat (n % 256)).toNat : Nat) : Int) = ((n % 256 : Nat) : Int) := by simp
    have v1 : IntKind.u8.wrap ((n / 65536 : Nat) : Int) = ((n / 65536 : Nat) : Int) := by rw [IntKind.wrap_u8]; omega
    have v2 : IntKind.u8.wrap ((n / 256 % 256 : Nat) : Int) = ((n / 256 % 256 : Nat) : Int) := by rw [IntKind.wrap_u8]; omega
    have v3 : IntKind.u8.wrap ((n % 256 : Nat) : Int) = ((n % 256 : Nat) : Int) := by rw [IntKind.wrap_u8]; omega
    have H := Lib.hid (And.intro d1 (And.intro d2 d3))
    clear d1 d2 d3 hb
    generalize UInt8.ofNat (n / 65536) = B1 at *
    generalize UInt8.ofNat (n / 256 % 256) = B2 at *
    generalize UInt8.ofNat (n % 256) = B3 at *
    generalize n / 65536 = n1 at *
    generalize n / 256 % 256 = n2 at *
    generalize n % 256 = n3 at *
    go_wp2_with fail
    refine hO.mono ?_
    rintro e wz ⟨rfl, rfl⟩
    clear hO
    have hlow := hU.lt
    go_wp2_with (at_builtin; go_loud (refine wpList_append_B VRef01.byteSl rfl _ _ rfl (by rfl) (by rfl) (hU.alloc _) (bys_new [B1, B2, B3] rfl (by rw [← H.out.1, ← H.out.2.1, ← H.out.2.2]; rfl) rfl (by simp [maxLen])) ?hl ?hb ?hk))
    case hl => have := HL.out; simp only [List.length_cons, List.length_nil]; omega
    case hb => have := (x2).size; simp; omega
    case hk =>
    intro v4 w4 hv4 hg4 hrow4
    have hX4 := Below.trans ((x2).thenAlloc _) (grown_below hg4 (Nat.le_trans (x2).size (by simp)) hlow)
    obtain ⟨a4, cap4, rfl⟩ := hv4.slice
    go_wp2_with fail
    go_ret
    have hv5 : OwnB w4 w.heap.size TB (.slice a4 (F ++ [B1, B2, B3]).length cap4) (F ++ beB 3 (ofN (F ++ E))) := by rw [HFIN.out]; exact hv4
    exact ⟨_, rfl, hv5, hX4⟩

set_option maxRecDepth 100000 in
set_option maxHeartbeats 2000000 in
theorem refFEncode_calls (f : FrmD) (sx : Sl3) (w : World) (hx : Bys w (slV sx) f.b) (hv0 : 0 ≤ f.v) (hv : f.v < 65536) :
    Calls Try.prog 18 #[.agg (frmC f (slV sx))] w (EncFPost (encF f) w) := by
  have hn : sx.2.1 = f.b.length := by
    obtain ⟨a, c, h, _⟩ := hx
    unfold slV at h
    simp only [Value.slice.injEq] at h
    exact h.2.1
  have kC := fun W => refFCheck_calls f sx hn W
  have kB := fun W (h : Ext w W) hc => refFBytes_calls f sx W (hx.ext h) hc hv0 hv
  unfold MadeB at kB
  have x0 := Ext.alloc w (.cells (frmC f (slV sx)) TFrm)
  have r0 := heap_alloc_new w (.cells (frmC f (slV sx)) TFrm)
  obtain ⟨sa, sn, sc⟩ := sx
  simp only at hn
  subst hn
  have hst : ∀ (u : Value), frmC f u = #[.int .i64 f.k, .int .i64 f.r, .int .i64 f.s, .int .i64 f.m, .int .u16 f.v, u] := fun _ => rfl
  have hsl : slV (sa, f.b.length, sc) = .slice sa f.b.length sc := rfl
  unfold EncFPost encF
  rw [hst, hsl] at kC kB x0 r0 ⊢
  clear hst hsl hx
  cases hc : chkF f with
  | false =>
    rw [hc] at kC
    rw [show (if false = true then (0 : Int) else 50) = 50 from rfl] at kC
    clear kB
    simp only [Bool.false_eq_true, if_false, Option.isSome_none, Option.getD_none]
    go_enter Try.func18, Try.ntmps18
    go_wp2_with fail
    refine (kC _).mono ?_
    rintro e w1 ⟨rfl, h1⟩
    have x1 := x0.trans h1
    clear kC h1 r0
    go_wp2_with fail
    refine bodyPost_ret (results_tmp2 rfl _ _ _) rfl ?_
    exact ⟨_, rfl, OwnB.nil _ _ _, x1, fun _ => rfl⟩
  | true =>
    rw [hc] at kC
    rw [show (if true = true then (0 : Int) else 50) = 0 from rfl] at kC
    have kB := fun W h => kB W h hc
    simp only [if_true, Option.isSome_some, Option.getD_some]
    generalize frmBy f = F at *
    clear hc
    go_enter Try.func18, Try.ntmps18
    go_wp2_with fail
    refine (kC _).mono ?_
    rintro e w1 ⟨rfl, h1⟩
    have x1 := x0.trans h1
    have r1 := h1.block r0
    clear kC h1 r0

    have c0 : (w1).cell? ⟨w.heap.size, 0, none⟩ = some (.int .i64 f.k) := cell_of_row _ _ 0 _ _ _ r1
    have c1 : (w1).cell? ⟨w.heap.size, 1, none⟩ = some (.int .i64 f.r) := cell_of_row _ _ 1 _ _ _ r1
    have c2 : (w1).cell? ⟨w.heap.size, 2, none⟩ = some (.int .i64 f.s) := cell_of_row _ _ 2 _ _ _ r1
    have c3 : (w1).cell? ⟨w.heap.size, 3, none⟩ = some (.int .i64 f.m) := cell_of_row _ _ 3 _ _ _ r1
    have c4 : (w1).cell? ⟨w.heap.size, 4, none⟩ = some (.int .u16 f.v) := cell_of_row _ _ 4 _ _ _ r1
    have c5 : (w1).cell? ⟨w.heap.size, 5, none⟩ = some (.slice sa f.b.length sc) := cell_of_row _ _ 5 _ _ _ r1
    go_wp2_with fail
    refine (kB _ x1).mono ?_
    rintro e w2 ⟨u, rfl, hu, h2⟩
    have hu := hu.mono x1.size
    have x2 := x1.trans h2
    obtain ⟨ua, uc, rfl⟩ := hu.slice
    clear kB h2 c0 c1 c2 c3 c4 c5
    go_wp2_with fail
    refine bodyPost_ret (results_tmp2 rfl _ _ _) rfl ?_
    exact ⟨_, rfl, hu, x2, fun h => by cases h⟩
end Go.Proofs.Ytfjjgceagpcfkaa.VSta
