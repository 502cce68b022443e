/- FrameCuts: the walk. -/
import Derived.Test.YtfjjgceagpcfkaaVFrmY
import Derived.Test.YtfjjgceagpcfkaaVFrmU
import Derived.Test.YtfjjgceagpcfkaaVFrmF
import Derived.Test.YtfjjgceagpcfkaaVFrmA
import Derived.Test.YtfjjgceagpcfkaaVSet
namespace Go.Proofs.Ytfjjgceagpcfkaa.VSta
open Go.RowKit Go.VBase Go.VRg Go.VSeq Go.VOct VOct VCst Go.Proofs.Ytfjjgceagpcfkaa.VCrc _root_.Go.VCrc VMsg

set_option maxRecDepth 100000 in
set_option maxHeartbeats 8000000 in
theorem Cuts_any (f : FrmD) (sx : Sl3) (b : Value) (more : List UInt8) (bits : Nat) (w : World) (hx : Bys w (slV sx) f.b) (hb : Bys w b more) (hv0 : 0 ≤ f.v) (hv : f.v < 65536) (hbits : bits < 4294967296) :
    Calls Try.prog 9 #[.agg (frmC f (slV sx)), b, .int .u32 (bits : Int)] w fun e w' => e = .returned (.bool true) ∧ Ext w w' := by
  have hn : sx.2.1 = f.b.length := by
    obtain ⟨a, c, h, _⟩ := hx
    unfold slV at h
    simp only [Value.slice.injEq] at h
    exact h.2.1
  have kA := fun W => alive_calls W
  have kE := fun W (h : Ext w W) => frmEncode_calls f sx W (hx.ext h) hv0 hv
  unfold EncFPost at kE
  have x0 := Ext.alloc w (.cells (frmC f (slV sx)) TFrm)
  have r0 := heap_alloc_new w (.cells (frmC f (slV sx)) TFrm)
  have hfit : ∀ q, encF f = some q → chkF f = true ∧ q = frmBy f ∧ q.length ≤ 50000 := fun q h => by
    unfold encF at h
    by_cases hc : chkF f = true
    · rw [if_pos hc] at h
      cases h
      exact ⟨hc, rfl, by rw [frm_len hc]; have := (long_le hc).1; omega⟩
    · rw [if_neg hc] at h; cases h
  generalize encF f = xe at *
  obtain ⟨M, hM⟩ : ∃ M, more.length = M := ⟨_, rfl⟩
  obtain ⟨va, vc, rfl⟩ : ∃ a c, b = .slice a M c := by obtain ⟨a, c, h, _⟩ := hb; exact ⟨a, c, by rw [← hM]; exact h⟩
  obtain ⟨sa, sn, sc⟩ := sx
  simp only at hn
  subst hn
  have hst : ∀ (u : Value), frmC f u = #[.int .i64 f.k, .int .i64 f.r, .int .i64 f.s, .int .i64 f.m, .int .u16 f.v, u] := fun _ => rfl
  have hsl : slV (sa, f.b.length, sc) = .slice sa f.b.length sc := rfl
  rw [hst, hsl] at kE x0 r0 ⊢
  have HV := Lib.hid (And.intro hfit (And.intro hv0 (And.intro hv (And.intro hb (And.intro hbits hM)))))
  clear hst hsl hx hfit hv0 hv hb hM
  go_enter Try.func9, Try.ntmps9
  go_wp2_with fail
  refine (kA _).mono ?_
  rintro e w1 ⟨rfl, h1⟩
  have r1 := h1.block r0
  have x1 := x0.trans h1
  have c0 : (w1).cell? ⟨w.heap.size, 0, none⟩ = some (.int .i64 f.k) := cell_of_row _ _ 0 _ _ _ r1
  have c1 : (w1).cell? ⟨w.heap.size, 1, none⟩ = some (.int .i64 f.r) := cell_of_row _ _ 1 _ _ _ r1
  have c2 : (w1).cell? ⟨w.heap.size, 2, none⟩ = some (.int .i64 f.s) := cell_of_row _ _ 2 _ _ _ r1
  have c3 : (w1).cell? ⟨w.heap.size, 3, none⟩ = some (.int .i64 f.m) := cell_of_row _ _ 3 _ _ _ r1
  have c4 : (w1).cell? ⟨w.heap.size, 4, none⟩ = some (.int .u16 f.v) := cell_of_row _ _ 4 _ _ _ r1
  have c5 : (w1).cell? ⟨w.heap.size, 5, none⟩ = some (.slice sa f.b.length sc) := cell_of_row _ _ 5 _ _ _ r1
  clear kA h1 r0 x0
  go_wp2_with fail
  refine (kE _ x1).mono ?_
  rintro e w2 ⟨uE, rfl, huE, h2, -⟩
  have x2 := x1.trans h2
  have r2 := h2.block r1
  clear kE h2 x1 r1 c0 c1 c2 c3 c4 c5
  have c5 : w2.cell? ⟨w.heap.size, 5, none⟩ = some (.slice sa f.b.length sc) := cell_of_row _ _ 5 _ _ _ r2
  by_cases hA : 1100 < f.b.length
  · have dA : decide ((1100 : Int) < (f.b.length : Int)) = true := decide_eq_true (by omega)
    clear hA huE r2
    go_wp2_with fail
    all_goals
      go_ret
      exact ⟨rfl, x2⟩
  have dA : decide ((1100 : Int) < (f.b.length : Int)) = false := decide_eq_false (by omega)
  have dA2 : ¬ ((1100 : Int) < (f.b.length : Int)) := by omega
  by_cases hB : M = 0
  · subst hB
    clear hA huE r2
    go_wp2_with fail
    all_goals
      go_ret
      exact ⟨rfl, x2⟩
  have dB : ((M : Int) == 0) = false := by simpa using hB
  have dB2 : ¬ ((M : Int) = 0) := by omega
  by_cases hC : 50 < M
  · have dC : decide ((50 : Int) < (M : Int)) = true := decide_eq_true (by omega)
    clear hC hB hA huE r2
    go_wp2_with fail
    all_goals
      go_ret
      exact ⟨rfl, x2⟩
  have dC : decide ((50 : Int) < (M : Int)) = false := decide_eq_false (by omega)
  have dC2 : ¬ ((50 : Int) < (M : Int)) := by omega
  cases xe with
  | none =>
    simp only [Option.isSome_none, Bool.false_eq_true, if_false]
    clear huE r2 hA hB hC
    go_wp2_with fail
    all_goals
      go_ret
      exact ⟨rfl, x2⟩
  | some l =>
    obtain ⟨hc, hl, hll⟩ := HV.out.1 l rfl
    obtain ⟨hv0, hv, hb, hbits, hM⟩ := HV.out.2
    obtain ⟨p, q, r, hpq, hfin⟩ := cuts_last hc hv0 hv bits
    have hcut := cut_none hc
    have hmore := more_none hc (m := more) (fun h => hB (by rw [← hM, h]; rfl))
    rw [← hl] at hcut hmore hpq
    have hbM : Bys w (.slice va M vc) more := hb
    simp only [Option.getD_some, Option.isSome_some, if_true] at huE ⊢
    have hqb := huE.bys (by unfold maxLen; omega)
    obtain ⟨ea, ec, rfl⟩ := huE.slice
    have hLF : l.length = (frontF f).length + 3 := by rw [hpq]; exact tw_len _ _ _ _ _ _
    have kC := fun W (h : Ext w2 W) => frmCut_calls _ l W (hqb.ext h) (by omega)
    have htk : (l.take (l.length - 1)).length ≤ 100000 := by rw [List.length_take]; omega
    have kD1 := fun v W h => frmDecode_calls v (l.take (l.length - 1)) W h htk
    have hap : (l ++ more).length ≤ 100000 := by rw [List.length_append]; omega
    have kD2 := fun v W h => frmDecode_calls v (l ++ more) W h hap
    have kF1 := fun v W h => frmFits_calls v (l.take (l.length - 1)) f.r f.s f.m f.v W h htk hv0 hv
    have kF3 := fun v W h => frmFits_calls v (frontF f ++ twB p q r (bitB bits) 3) f.r f.s f.m f.v W h (by rw [tw_len]; omega) hv0 hv
    rw [hcut] at kD1
    rw [hmore] at kD2
    rw [fits_none hcut] at kF1
    rw [hfin] at kF3
    unfold DecFPost at kD1 kD2
    unfold MadeB at kC
    unfold cst at kF1 kF3
    simp only [Option.getD_none, Option.isSome_none, Bool.false_eq_true, if_false] at kD1 kD2
    obtain ⟨lc, hlc⟩ : ∃ lc, l.take (l.length - 1) = lc := ⟨_, rfl⟩
    rw [hlc] at kC kD1 kF1 htk
    obtain ⟨lm, hlm⟩ : ∃ lm, l ++ more = lm := ⟨_, rfl⟩
    rw [hlm] at kD2 hap
    have hlt : w.heap.size < w2.heap.size := (Array.getElem?_eq_some_iff.1 r2).1
    have HK := Lib.hid (And.intro kC (And.intro kD1 (And.intro kD2 (And.intro kF1 kF3))))
    have HP := Lib.hid (And.intro hbits (And.intro hbM (And.intro hqb (And.intro hpq (And.intro hLF (And.intro hll (And.intro hlm (And.intro htk (And.intro hap (And.intro hM hlt))))))))))
    have HL1 : l.length ≤ 100000 := by omega
    clear huE hc hl hll hv0 hv hb hbits hM hpq hfin hcut hmore hbM hqb hLF kC htk kD1 hap kD2 kF1 kF3 hlc hlm hlt hA hB hC HV
    generalize hL : l.length = L at *
    have HLL := Lib.hid hL
    clear hL
    go_wp2_with fail
    refine (HK.out.1 _ (Ext.refl _)).mono ?_
    rintro e w3 ⟨u3, rfl, hu3, h3⟩
    have x3 := x2.trans h3
    have hb3 := hu3.bys (by have := HP.out.2.2.2.2.2.2.2.1; unfold maxLen; omega)
    obtain ⟨a3, k3, rfl⟩ := hu3.slice
    clear hu3
    go_wp2_with fail
    refine (HK.out.2.1 _ _ hb3).mono ?_
    rintro e w4 ⟨u4, rfl, hu4, h4⟩
    obtain ⟨a4, k4, rfl⟩ := hu4.slice
    have rz := heap_alloc_new w4 (.cells #[.int .i64 0, .int .i64 0, .int .i64 0, .int .i64 0, .int .u16 0, .slice none 0 0] TFrm)
    have x24 : Ext w2 w4 := h3.trans h4
    have x25 : Ext w2 ((w4.alloc (.cells #[.int .i64 0, .int .i64 0, .int .i64 0, .int .i64 0, .int .u16 0, .slice none 0 0] TFrm)).setRow w4.heap.size (frmC (frm0 0) (.slice a4 (frm0 0).b.length k4))) := (x24.thenAlloc _).setRow x24.size _
    generalize hgen5 : ((w4.alloc (.cells #[.int .i64 0, .int .i64 0, .int .i64 0, .int .i64 0, .int .u16 0, .slice none 0 0] TFrm)).setRow w4.heap.size (frmC (frm0 0) (.slice a4 (frm0 0).b.length k4))) = V5 at *
    have HG5 := Lib.hid hgen5
    clear hgen5 hu4 h3 h4 x3 hb3 x24 c5
    have hqb5 := HP.out.2.2.1.ext x25
    go_wp2_with (first | (refine storeFrm (m := frm0 0) (sa := a4) (sn := (frm0 0).b.length) (sc := k4) rz rfl rfl rfl rfl rfl ?_; rw [HG5.out]) | (at_builtin; refine wpList_append_B VRef01.byteSl rfl _ _ rfl (by rfl) (by rfl) (OwnB.made0 V5 V5.heap.size _ (Nat.le_refl _)) (hqb5.alloc _) ?hl ?hb ?hk))
    case hl => have := HP.out.2.2.2.2.2.1; have := HLL.out; simp only [List.length_nil]; omega
    case hb => simp
    case hk =>
    intro u6 w6 hu6 hg6 _
    have x6 : Ext V5 w6 := Below.trans (Ext.alloc V5 _) (grown_below hg6 (by simp) (fun k h => by cases h; exact Nat.le_refl _))
    have hm6 := HP.out.2.1.ext (x2.trans (x25.trans x6))
    have hlt6 := hu6.lt
    go_wp2_with (at_builtin; refine wpList_append_B VRef01.byteSl rfl _ _ rfl (by rfl) (by rfl) hu6 hm6 ?hl ?hb ?hk)
    case hl => have := HP.out.2.2.2.2.2.2.2.2.1; rw [← HP.out.2.2.2.2.2.2.1, List.length_append] at this; omega
    case hb => exact x6.size
    case hk =>
    intro u7 w7 hu7 hg7 _
    rw [HP.out.2.2.2.2.2.2.1] at hu7
    have x7 : Ext V5 w7 := Below.trans x6 (grown_below hg7 x6.size hlt6)
    have hb7 := hu7.bys (by have := HP.out.2.2.2.2.2.2.2.2.1; unfold maxLen; omega)
    obtain ⟨a7, k7, rfl⟩ := hu7.slice
    clear hu7 hg7 hu6 hg6 hm6 hlt6 hqb5 rz
    go_wp2_with fail
    refine (HK.out.2.2.1 _ _ hb7).mono ?_
    rintro e w8 ⟨u8, rfl, hu8, h8⟩
    obtain ⟨a8, k8, rfl⟩ := hu8.slice
    have rz := heap_alloc_new w8 (.cells #[.int .i64 0, .int .i64 0, .int .i64 0, .int .i64 0, .int .u16 0, .slice none 0 0] TFrm)
    have x28 : Ext w2 w8 := (x25.trans x7).trans h8
    have x29 : Ext w2 ((w8.alloc (.cells #[.int .i64 0, .int .i64 0, .int .i64 0, .int .i64 0, .int .u16 0, .slice none 0 0] TFrm)).setRow w8.heap.size (frmC (frm0 0) (.slice a8 (frm0 0).b.length k8))) := (x28.thenAlloc _).setRow x28.size _
    generalize hgen8 : ((w8.alloc (.cells #[.int .i64 0, .int .i64 0, .int .i64 0, .int .i64 0, .int .u16 0, .slice none 0 0] TFrm)).setRow w8.heap.size (frmC (frm0 0) (.slice a8 (frm0 0).b.length k8))) = V8 at *
    have HG8 := Lib.hid hgen8
    clear hgen8 hu8 h8 hb7 x28 x7 x6 x25 HG5
    go_wp2_with (first | (refine storeFrm (m := frm0 0) (sa := a8) (sn := (frm0 0).b.length) (sc := k8) rz rfl rfl rfl rfl rfl ?_; rw [HG8.out]))
    have k0 : ∀ W, Ext V8.drew W → (W.cell? ⟨w.heap.size, 1, none⟩ = some (.int .i64 f.r) ∧ W.cell? ⟨w.heap.size, 2, none⟩ = some (.int .i64 f.s) ∧ W.cell? ⟨w.heap.size, 3, none⟩ = some (.int .i64 f.m) ∧ W.cell? ⟨w.heap.size, 4, none⟩ = some (.int .u16 f.v)) ∧ Ext w2 W := fun W h =>
      have y : Ext w2 W := x29.trans (Ext.of_drew h)
      have r := y.block r2
      ⟨⟨cell_of_row _ _ 1 _ _ _ r, cell_of_row _ _ 2 _ _ _ r, cell_of_row _ _ 3 _ _ _ r, cell_of_row _ _ 4 _ _ _ r⟩, y⟩
    refine wp_region_rg Ext [(8, .unk (fun v W => Bys W v lc) (fun _ _ _ e h => h.ext e)), (11, .known (.bool false))] (by kernel_rfl) (by kernel_rfl) (by kernel_rfl) Ext.refl (fun _ _ _ => Ext.trans) ?_
    intro σ
    simp only
    repeat (first | (refine rg_pure (x := ?_) rfl (by rfl) (fun W hW => ?_) ?_; rotate_left; (· obtain ⟨⟨a1, a2, a3, a4⟩, _⟩ := k0 W hW; go_simp; with_reducible rfl); simp only [Nat.reduceAdd, Act.put, List.setIfInBounds_toArray, List.set_cons_zero, List.set_cons_succ]))
    refine rg_unk rfl (by rfl) (fun W hW hF => ?_) ?_
    · go_simp
      refine (HK.out.1 W (k0 W hW).2).mono ?_
      rintro e W' ⟨u, rfl, h1, h2⟩
      exact ⟨_, rfl, h2, h1.bys (by have := HP.out.2.2.2.2.2.2.2.1; unfold maxLen; omega)⟩
    simp only [Nat.reduceAdd, Act.put, List.setIfInBounds_toArray, List.set_cons_zero, List.set_cons_succ]
    repeat (first | (refine rg_pure (x := ?_) rfl (by rfl) (fun W hW => ?_) ?_; rotate_left; (· obtain ⟨⟨a1, a2, a3, a4⟩, _⟩ := k0 W hW; go_simp; with_reducible rfl); simp only [Nat.reduceAdd, Act.put, List.setIfInBounds_toArray, List.set_cons_zero, List.set_cons_succ]))
    refine rg_known rfl (by rfl) (fun W hW hF => ?_) ?_
    · have hL := hF 8 _ _ rfl (by kernel_rfl)
      go_simp
      refine (HK.out.2.2.2.1 _ W hL).mono ?_
      rintro e W' ⟨rfl, h⟩
      exact ⟨_, rfl, h, rfl⟩
    simp only [Nat.reduceAdd, Act.put, List.setIfInBounds_toArray, List.set_cons_zero, List.set_cons_succ]
    repeat (first | (refine rg_pure (x := ?_) rfl (by rfl) (fun W hW => ?_) ?_; rotate_left; (· obtain ⟨⟨a1, a2, a3, a4⟩, _⟩ := k0 W hW; go_simp; with_reducible rfl); simp only [Nat.reduceAdd, Act.put, List.setIfInBounds_toArray, List.set_cons_zero, List.set_cons_succ]))
    refine rg_done fun W hW hF => ?_
    have xW : Ext w2 W := (k0 W hW).2
    have hqbW := HP.out.2.2.1.ext xW
    clear hF hW k0 rz x29 HG8
    go_wp2_with (at_builtin; refine wpList_append_B VRef01.byteSl rfl _ _ rfl (by rfl) (by rfl) (OwnB.made0 W W.heap.size _ (Nat.le_refl _)) (hqbW.alloc _) ?hl ?hb ?hk)
    case hl => have := HP.out.2.2.2.2.2.1; have := HLL.out; simp only [List.length_nil]; omega
    case hb => simp
    case hk =>
    intro u9 w9 hu9 hg9 _
    have x9 : Ext W w9 := Below.trans (Ext.alloc W _) (grown_below hg9 (by simp) (fun k h => by cases h; exact Nat.le_refl _))
    have hLF := HP.out.2.2.2.2.1
    rw [HP.out.2.2.2.1] at hu9
    have hszW : w.heap.size < W.heap.size := by have := xW.size; have := HP.out.2.2.2.2.2.2.2.2.2.2; omega
    obtain ⟨a9, k9, hu9e⟩ := hu9.slice
    rw [tw_len, ← hLF] at hu9e
    subst hu9e
    have HLF := Lib.hid hLF
    clear hLF
    have xw9 : Ext w w9 := (x2.trans xW).trans x9
    have r9 := (xW.trans x9).block r2
    clear hg9 hqbW x9 xW r2
    go_wp2_with fail
    go_loopw [15] (fun i wr => ∃ j : Nat, j ≤ 3 ∧ i = .int .i64 (j : Int) ∧ OwnB wr W.heap.size TB (.slice a9 L k9) (frontF f ++ twB p q r (bitB bits) j) ∧ wr.heap[w.heap.size]? = some (.cells (frmC f (.slice sa f.b.length sc)) TFrm) ∧ Ext w wr) (fun i _ => 3 - (intOf i).toNat)
    case atStart => exact ⟨0, by omega, rfl, hu9, r9, xw9⟩
    case round =>
      clear hu9 xw9 r9
      obtain ⟨j, hj, rfl, hu, hr, hx⟩ := hrel
      have hLF := HLF.out
      by_cases hlt : j < 3
      · have hd : decide ((j : Int) < 3) = true := decide_eq_true (by omega)
        obtain ⟨c, hce0, hset⟩ := tw_step (frontF f) p q r (bitB bits) hlt
        obtain ⟨ix, hix⟩ : ∃ ix, (frontF f).length + 2 - j = ix := ⟨_, rfl⟩
        rw [hix] at hce0 hset
        have hixl : ix < (frontF f ++ twB p q r (bitB bits) j).length := by rw [tw_len]; omega
        have hixL : ix < L := by omega
        have dix : (L : Int) - 1 - (j : Int) = (ix : Int) := by omega
        have dixb : (ix : Int) < (L : Int) := by omega
        obtain ⟨gx, cx', hv9, -, -, -, hcells⟩ := hu.row (by intro e; rw [e] at hce0; simp at hce0)
        rw [tw_len, ← hLF] at hv9
        simp only [Value.slice.injEq] at hv9
        obtain ⟨rfl, -, rfl⟩ := hv9
        obtain ⟨hce, hfr⟩ := hcells _ c hce0
        have hSx := hu.set ix hixl (c ^^^ bitB bits j)
        rw [hset] at hSx
        have hgb : W.heap.size ≤ gx := (OwnB.head hu rfl).1
        have hX' : Ext w (wr.setCell ⟨gx, ix, none⟩ (.int .u8 ((c ^^^ bitB bits j).toNat : Int))) := by
          have hgw : w.heap.size ≤ gx := by omega
          exact Below.setCell hx hgw _
        have hr' : (wr.setCell ⟨gx, ix, none⟩ (.int .u8 ((c ^^^ bitB bits j).toNat : Int))).heap[w.heap.size]? = some (.cells (frmC f (.slice sa f.b.length sc)) TFrm) := by
          have hne : w.heap.size ≠ gx := by omega
          rw [heap_setCell_other _ _ _ _ hne]; exact hr
        obtain ⟨z, hz⟩ : ∃ z : Nat, 8 * j = z := ⟨_, rfl⟩
        have hzi : (8 : Int) * (j : Int) = (z : Int) := by omega
        have hzb : z < 32 := by omega
        have hsh : (bits : Int) / 2 ^ z = ((bits / 2 ^ z : Nat) : Int) := by rw [Int.natCast_ediv, Int.natCast_pow]; rfl
        have hyl : bits / 2 ^ z < 4294967296 := Nat.lt_of_le_of_lt (Nat.div_le_self _ _) HP.out.1
        have hbn : (bitB bits j).toNat = bits / 2 ^ z % 256 := by rw [bitB_nat, hz]
        have hym : ((bits / 2 ^ z : Nat) : Int) % 256 = ((bitB bits j).toNat : Int) := by rw [hbn]; omega
        have hxo : Go.bits BinOp.xor IntKind.u8 (c.toNat : Int) ((bitB bits j).toNat : Int) = ((c ^^^ bitB bits j).toNat : Int) := by
          rw [u8_xor_nat _ _ c.toNat_lt (bitB bits j).toNat_lt, UInt8.toNat_xor]
        have hcl := c.toNat_lt
        have hcb := (bitB bits j).toNat_lt
        have HS := Lib.hid (And.intro hSx (And.intro hr' hX'))
        clear hSx hr' hX' hcells hu hr hx hset hbn hce0 hLF hixl hix
        generalize (c ^^^ bitB bits j).toNat = c1 at *
        generalize (bitB bits j).toNat = xx at *
        generalize c.toNat = c0 at *
        generalize bits / 2 ^ z = y at *
        go_wp2_with fail
        go_round
        · exact ⟨j + 1, by omega, by go_num, HS.out.1, HS.out.2.1, HS.out.2.2⟩
        · simp [intOf]; omega
      · have hd : decide ((j : Int) < 3) = false := decide_eq_false (by omega)
        obtain rfl : j = 3 := by omega
        have hbE := hu.bys (by rw [tw_len, ← hLF]; unfold maxLen; omega)
        clear hLF
        have hrem : (bits : Int).tmod 16777216 = ((bits % 16777216 : Nat) : Int) := by rw [Int.tmod_eq_emod_of_nonneg (by omega)]; rfl
        have kF3 := HK.out.2.2.2.2
        obtain ⟨R, hR⟩ : ∃ R, bits % 16777216 = R := ⟨_, rfl⟩
        rw [hR] at hrem kF3
        have d0 : (wr).cell? ⟨w.heap.size, 0, none⟩ = some (.int .i64 f.k) := cell_of_row _ _ 0 _ _ _ hr
        have d1 : (wr).cell? ⟨w.heap.size, 1, none⟩ = some (.int .i64 f.r) := cell_of_row _ _ 1 _ _ _ hr
        have d2 : (wr).cell? ⟨w.heap.size, 2, none⟩ = some (.int .i64 f.s) := cell_of_row _ _ 2 _ _ _ hr
        have d3 : (wr).cell? ⟨w.heap.size, 3, none⟩ = some (.int .i64 f.m) := cell_of_row _ _ 3 _ _ _ hr
        have d4 : (wr).cell? ⟨w.heap.size, 4, none⟩ = some (.int .u16 f.v) := cell_of_row _ _ 4 _ _ _ hr
        have d5 : (wr).cell? ⟨w.heap.size, 5, none⟩ = some (.slice sa f.b.length sc) := cell_of_row _ _ 5 _ _ _ hr
        clear hu
        cases hk4 : (f.k == 4) with
        | true =>
          have hk4e : f.k = 4 := by simpa using hk4
          rw [hk4] at kF3
          simp only [Bool.not_true, Bool.false_and] at kF3
          go_wp2_with fail
          refine (kF3 _ _ hbE).mono ?_
          rintro e wE ⟨rfl, hE⟩
          have xE := hx.trans hE
          clear kF3 hE hbE HK HP d0 d1 d2 d3 d4 d5
          go_wp2_with fail
          go_ret
          exact ⟨rfl, xE⟩
        | false =>
          have hk4e : ¬ f.k = 4 := by simpa using hk4
          rw [hk4] at kF3
          simp only [Bool.not_false, Bool.true_and] at kF3
          have hRb : ((R : Int) == 0) = (R == 0) := by rw [Bool.eq_iff_iff, beq_iff_eq, beq_iff_eq]; omega
          generalize (R == 0) = B at *
          go_wp2_with fail
          refine (kF3 _ _ hbE).mono ?_
          rintro e wE ⟨rfl, hE⟩
          have xE := hx.trans hE
          clear kF3 hE hbE HK HP d0 d1 d2 d3 d4 d5
          go_wp2_with fail
          go_ret
          exact ⟨by simp [hk4e], xE⟩
end Go.Proofs.Ytfjjgceagpcfkaa.VSta
