/- FrameForms: the walk. -/
import Derived.Test.YtfjjgceagpcfkaaVFrmRB
import Derived.Test.YtfjjgceagpcfkaaVFrmF
import Derived.Test.YtfjjgceagpcfkaaVFrmU
import Derived.Test.YtfjjgceagpcfkaaVSet
namespace Go.Proofs.Ytfjjgceagpcfkaa.VSta
open Go.RowKit Go.VBase Go.VRg Go.VEq Go.VOct VOct VCst Go.Proofs.Ytfjjgceagpcfkaa.VCrc _root_.Go.VCrc VMsg

theorem sameF_self (f : FrmD) : sameF f f = true := by unfold sameF; simp
set_option maxRecDepth 100000 in
set_option maxHeartbeats 16000000 in
theorem Forms_any (f g : FrmD) (sf sg : Sl3) (b : Value) (l : List UInt8) (w : World) (hf : Bys w (slV sf) f.b) (hg : Bys w (slV sg) g.b) (hb : Bys w b l) (hv0 : 0 ≤ f.v) (hv : f.v < 65536) :
    Calls Try.prog 5 #[.agg (frmC f (slV sf)), .agg (frmC g (slV sg)), b] w fun e w' => e = .returned (.bool true) ∧ Ext w w' := by
  have ks := fun (W : World) (v : Value) (l : List UInt8) (h : Bys W v l) => run_string_bys (P := Try.prog) Try.underlying26 Try.underlying5 Try.underlying9 h
  have hn1 : sf.2.1 = f.b.length := by
    obtain ⟨a, c, h, _⟩ := hf
    unfold slV at h
    simp only [Value.slice.injEq] at h
    exact h.2.1
  have hn2 : sg.2.1 = g.b.length := by
    obtain ⟨a, c, h, _⟩ := hg
    unfold slV at h
    simp only [Value.slice.injEq] at h
    exact h.2.1
  obtain ⟨sa, sn, sc⟩ := sf
  obtain ⟨ta, tn, tc⟩ := sg
  simp only at hn1 hn2
  subst hn1 hn2
  obtain ⟨ba, bc, rfl⟩ : ∃ a c, b = .slice a l.length c := by obtain ⟨a, c, h, _⟩ := hb; exact ⟨a, c, h⟩
  unfold slV at hf hg ⊢
  simp only at hf hg ⊢
  have hst : ∀ (x : FrmD) (u : Value), frmC x u = #[.int .i64 x.k, .int .i64 x.r, .int .i64 x.s, .int .i64 x.m, .int .u16 x.v, u] := fun _ _ => rfl
  rw [hst, hst]
  have x0 : Ext w ((w.alloc (.cells #[.int .i64 f.k, .int .i64 f.r, .int .i64 f.s, .int .i64 f.m, .int .u16 f.v, .slice sa f.b.length sc] TFrm)).alloc (.cells #[.int .i64 g.k, .int .i64 g.r, .int .i64 g.s, .int .i64 g.m, .int .u16 g.v, .slice ta g.b.length tc] TFrm)) := (Ext.alloc _ _).thenAlloc _
  have rf0 : ((w.alloc (.cells #[.int .i64 f.k, .int .i64 f.r, .int .i64 f.s, .int .i64 f.m, .int .u16 f.v, .slice sa f.b.length sc] TFrm)).alloc (.cells #[.int .i64 g.k, .int .i64 g.r, .int .i64 g.s, .int .i64 g.m, .int .u16 g.v, .slice ta g.b.length tc] TFrm)).heap[w.heap.size]? = some (.cells #[.int .i64 f.k, .int .i64 f.r, .int .i64 f.s, .int .i64 f.m, .int .u16 f.v, .slice sa f.b.length sc] TFrm) := (Ext.alloc _ _).block (heap_alloc_new w _)
  have rg0 : ((w.alloc (.cells #[.int .i64 f.k, .int .i64 f.r, .int .i64 f.s, .int .i64 f.m, .int .u16 f.v, .slice sa f.b.length sc] TFrm)).alloc (.cells #[.int .i64 g.k, .int .i64 g.r, .int .i64 g.s, .int .i64 g.m, .int .u16 g.v, .slice ta g.b.length tc] TFrm)).heap[w.heap.size + 1]? = some (.cells #[.int .i64 g.k, .int .i64 g.r, .int .i64 g.s, .int .i64 g.m, .int .u16 g.v, .slice ta g.b.length tc] TFrm) := by have h := heap_alloc_new (w.alloc (.cells #[.int .i64 f.k, .int .i64 f.r, .int .i64 f.s, .int .i64 f.m, .int .u16 f.v, .slice sa f.b.length sc] TFrm)) (.cells #[.int .i64 g.k, .int .i64 g.r, .int .i64 g.s, .int .i64 g.m, .int .u16 g.v, .slice ta g.b.length tc] TFrm); rwa [World.size_alloc] at h
  have a0 : (((w.alloc (.cells #[.int .i64 f.k, .int .i64 f.r, .int .i64 f.s, .int .i64 f.m, .int .u16 f.v, .slice sa f.b.length sc] TFrm)).alloc (.cells #[.int .i64 g.k, .int .i64 g.r, .int .i64 g.s, .int .i64 g.m, .int .u16 g.v, .slice ta g.b.length tc] TFrm))).cell? ⟨w.heap.size, 0, none⟩ = some (.int .i64 f.k) := cell_of_row _ _ 0 _ _ _ rf0
  have a1 : (((w.alloc (.cells #[.int .i64 f.k, .int .i64 f.r, .int .i64 f.s, .int .i64 f.m, .int .u16 f.v, .slice sa f.b.length sc] TFrm)).alloc (.cells #[.int .i64 g.k, .int .i64 g.r, .int .i64 g.s, .int .i64 g.m, .int .u16 g.v, .slice ta g.b.length tc] TFrm))).cell? ⟨w.heap.size, 1, none⟩ = some (.int .i64 f.r) := cell_of_row _ _ 1 _ _ _ rf0
  have a2 : (((w.alloc (.cells #[.int .i64 f.k, .int .i64 f.r, .int .i64 f.s, .int .i64 f.m, .int .u16 f.v, .slice sa f.b.length sc] TFrm)).alloc (.cells #[.int .i64 g.k, .int .i64 g.r, .int .i64 g.s, .int .i64 g.m, .int .u16 g.v, .slice ta g.b.length tc] TFrm))).cell? ⟨w.heap.size, 2, none⟩ = some (.int .i64 f.s) := cell_of_row _ _ 2 _ _ _ rf0
  have a3 : (((w.alloc (.cells #[.int .i64 f.k, .int .i64 f.r, .int .i64 f.s, .int .i64 f.m, .int .u16 f.v, .slice sa f.b.length sc] TFrm)).alloc (.cells #[.int .i64 g.k, .int .i64 g.r, .int .i64 g.s, .int .i64 g.m, .int .u16 g.v, .slice ta g.b.length tc] TFrm))).cell? ⟨w.heap.size, 3, none⟩ = some (.int .i64 f.m) := cell_of_row _ _ 3 _ _ _ rf0
  have a4 : (((w.alloc (.cells #[.int .i64 f.k, .int .i64 f.r, .int .i64 f.s, .int .i64 f.m, .int .u16 f.v, .slice sa f.b.length sc] TFrm)).alloc (.cells #[.int .i64 g.k, .int .i64 g.r, .int .i64 g.s, .int .i64 g.m, .int .u16 g.v, .slice ta g.b.length tc] TFrm))).cell? ⟨w.heap.size, 4, none⟩ = some (.int .u16 f.v) := cell_of_row _ _ 4 _ _ _ rf0
  have a5 : (((w.alloc (.cells #[.int .i64 f.k, .int .i64 f.r, .int .i64 f.s, .int .i64 f.m, .int .u16 f.v, .slice sa f.b.length sc] TFrm)).alloc (.cells #[.int .i64 g.k, .int .i64 g.r, .int .i64 g.s, .int .i64 g.m, .int .u16 g.v, .slice ta g.b.length tc] TFrm))).cell? ⟨w.heap.size, 5, none⟩ = some (.slice sa f.b.length sc) := cell_of_row _ _ 5 _ _ _ rf0
  have g0 : (((w.alloc (.cells #[.int .i64 f.k, .int .i64 f.r, .int .i64 f.s, .int .i64 f.m, .int .u16 f.v, .slice sa f.b.length sc] TFrm)).alloc (.cells #[.int .i64 g.k, .int .i64 g.r, .int .i64 g.s, .int .i64 g.m, .int .u16 g.v, .slice ta g.b.length tc] TFrm))).cell? ⟨w.heap.size + 1, 0, none⟩ = some (.int .i64 g.k) := cell_of_row _ _ 0 _ _ _ rg0
  have g1 : (((w.alloc (.cells #[.int .i64 f.k, .int .i64 f.r, .int .i64 f.s, .int .i64 f.m, .int .u16 f.v, .slice sa f.b.length sc] TFrm)).alloc (.cells #[.int .i64 g.k, .int .i64 g.r, .int .i64 g.s, .int .i64 g.m, .int .u16 g.v, .slice ta g.b.length tc] TFrm))).cell? ⟨w.heap.size + 1, 1, none⟩ = some (.int .i64 g.r) := cell_of_row _ _ 1 _ _ _ rg0
  have g2 : (((w.alloc (.cells #[.int .i64 f.k, .int .i64 f.r, .int .i64 f.s, .int .i64 f.m, .int .u16 f.v, .slice sa f.b.length sc] TFrm)).alloc (.cells #[.int .i64 g.k, .int .i64 g.r, .int .i64 g.s, .int .i64 g.m, .int .u16 g.v, .slice ta g.b.length tc] TFrm))).cell? ⟨w.heap.size + 1, 2, none⟩ = some (.int .i64 g.s) := cell_of_row _ _ 2 _ _ _ rg0
  have g3 : (((w.alloc (.cells #[.int .i64 f.k, .int .i64 f.r, .int .i64 f.s, .int .i64 f.m, .int .u16 f.v, .slice sa f.b.length sc] TFrm)).alloc (.cells #[.int .i64 g.k, .int .i64 g.r, .int .i64 g.s, .int .i64 g.m, .int .u16 g.v, .slice ta g.b.length tc] TFrm))).cell? ⟨w.heap.size + 1, 3, none⟩ = some (.int .i64 g.m) := cell_of_row _ _ 3 _ _ _ rg0
  have g4 : (((w.alloc (.cells #[.int .i64 f.k, .int .i64 f.r, .int .i64 f.s, .int .i64 f.m, .int .u16 f.v, .slice sa f.b.length sc] TFrm)).alloc (.cells #[.int .i64 g.k, .int .i64 g.r, .int .i64 g.s, .int .i64 g.m, .int .u16 g.v, .slice ta g.b.length tc] TFrm))).cell? ⟨w.heap.size + 1, 4, none⟩ = some (.int .u16 g.v) := cell_of_row _ _ 4 _ _ _ rg0
  have g5 : (((w.alloc (.cells #[.int .i64 f.k, .int .i64 f.r, .int .i64 f.s, .int .i64 f.m, .int .u16 f.v, .slice sa f.b.length sc] TFrm)).alloc (.cells #[.int .i64 g.k, .int .i64 g.r, .int .i64 g.s, .int .i64 g.m, .int .u16 g.v, .slice ta g.b.length tc] TFrm))).cell? ⟨w.heap.size + 1, 5, none⟩ = some (.slice ta g.b.length tc) := cell_of_row _ _ 5 _ _ _ rg0
  by_cases hA : 1100 < f.b.length
  · have dA : decide ((1100 : Int) < (f.b.length : Int)) = true := decide_eq_true (by omega)
    clear hA ks hf hg hb rf0 rg0 hst
    go_enter Try.func5, Try.ntmps5
    go_wp2_with fail
    go_ret
    exact ⟨rfl, x0⟩
  have dA : decide ((1100 : Int) < (f.b.length : Int)) = false := decide_eq_false (by omega)
  have dA2 : ¬ ((1100 : Int) < (f.b.length : Int)) := by omega
  by_cases hB : 1100 < g.b.length
  · have dB : decide ((1100 : Int) < (g.b.length : Int)) = true := decide_eq_true (by omega)
    clear hA hB ks hf hg hb rf0 rg0 hst
    go_enter Try.func5, Try.ntmps5
    go_wp2_with fail
    go_ret
    exact ⟨rfl, x0⟩
  have dB : decide ((1100 : Int) < (g.b.length : Int)) = false := decide_eq_false (by omega)
  have dB2 : ¬ ((1100 : Int) < (g.b.length : Int)) := by omega
  by_cases hC : 1200 < l.length
  · have dC : decide ((1200 : Int) < (l.length : Int)) = true := decide_eq_true (by omega)
    clear hA hB hC ks hf hg hb rf0 rg0 hst
    go_enter Try.func5, Try.ntmps5
    go_wp2_with fail
    go_ret
    exact ⟨rfl, x0⟩
  have dC : decide ((1200 : Int) < (l.length : Int)) = false := decide_eq_false (by omega)
  have hl : l.length ≤ 1200 := by omega
  have hfl : f.b.length ≤ 1100 := by omega
  have hgl : g.b.length ≤ 1100 := by omega
  clear hA hB hC
  -- what is called
  have kT := fun W (h : Ext w W) => twinF_calls f (sa, f.b.length, sc) W (hf.ext h) (by omega)
  have kE := fun u W (h : Bys W (slV u) f.b) => frmEncode_calls f u W h hv0 hv
  have kRE := fun W (h : Ext w W) => refFEncode_calls f (sa, f.b.length, sc) W (hf.ext h) hv0 hv
  have kD := fun v W (h : Bys W v l) => frmDecode_calls v l W h (by omega)
  have kRD := fun W (h : Ext w W) => refFDecode_calls _ l W (hb.ext h) (by omega)
  have kC := fun v W (h : Bys W v l) => frmCut_calls v l W h (by omega)
  have kRC := fun W (h : Ext w W) => refFCut_calls _ l W (hb.ext h) (by omega)
  have kK := fun u W (h : u.2.1 = f.b.length) => frmCheck_calls f u h W
  have kRK := fun W => refFCheck_calls f (sa, f.b.length, sc) rfl W
  have kS := fun x y u v W h1 h2 => frameSame_calls x y u v W h1 h2
  have kRS := fun x y u v W h1 h2 => refFrameSame_calls x y u v W h1 h2
  have hDl : ((decF l).getD (frm0 0)).b.length ≤ 1024 := by
    cases h : decF l with
    | none => simp [frm0]
    | some x => exact (chkF_facts (dec_back h).1).2.2.1
  have hEl : ((encF f).getD []).length ≤ 2000 := by
    unfold encF
    split
    · rename_i hc; simp only [Option.getD_some]; rw [frm_len hc]; have := (long_le hc).1; omega
    · simp
  unfold EncFPost at kE kRE
  unfold DecFPost at kD kRD
  unfold MadeB at kC kRC
  generalize (encF f).getD [] = X at *
  obtain ⟨ec, hec⟩ : ∃ ec : Int, (if (encF f).isSome = true then 0 else 50) = ec := ⟨_, rfl⟩
  rw [hec] at kE kRE
  generalize (decF l).getD (frm0 0) = D at *
  obtain ⟨dcd, hdcd⟩ : ∃ ec : Int, (if (decF l).isSome = true then 0 else 50) = ec := ⟨_, rfl⟩
  rw [hdcd] at kD kRD
  obtain ⟨ck, hck⟩ : ∃ ec : Int, (if chkF f = true then 0 else 50) = ec := ⟨_, rfl⟩
  rw [hck] at kK kRK
  clear hec hdcd hck
  have hcl : (l.take (l.length - 1)).length ≤ 1200 := by rw [List.length_take]; omega
  generalize l.take (l.length - 1) = lc at *
  have hN : (l ++ [(7 : UInt8)]).length = l.length + 1 := by rw [List.length_append, List.length_singleton]
  have htk : (l ++ [(7 : UInt8)]).take l.length = l := List.take_left
  have hcat := strB_snocF l 7
  have HT := Lib.hid (And.intro hN (And.intro htk hcat))
  have HL := Lib.hid (And.intro hl (And.intro hfl (And.intro hgl (And.intro hDl (And.intro hEl hcl)))))
  have HB := Lib.hid (And.intro hf (And.intro hg hb))
  have HK := Lib.hid (And.intro kT (And.intro kE (And.intro kRE (And.intro kD (And.intro kRD (And.intro kC (And.intro kRC (And.intro kK (And.intro kRK (And.intro kS (And.intro kRS ks)))))))))))
  clear hl hfl hgl hDl hEl hcl hN htk hcat hf hg hb kT kE kRE kD kRD kC kRC kK kRK kS kRS ks hv0 hv
  obtain ⟨hkT, hkE, hkRE, hkD, hkRD, hkC, hkRC, hkK, hkRK, hkS, hkRS, hks⟩ := HK.out
  have HKC := Lib.hid hkC
  have HKRC := Lib.hid hkRC
  have HKK := Lib.hid hkK
  have HKRK := Lib.hid hkRK
  have HKS := Lib.hid hkS
  have HKRS := Lib.hid hkRS
  have HKs := Lib.hid hks
  have HKE := Lib.hid hkE
  have HKRE := Lib.hid hkRE
  have HKD := Lib.hid hkD
  have HKRD := Lib.hid hkRD
  clear HK hkC hkRC hkK hkRK hkS hkRS hks hkE hkRE hkD hkRD
  rw [hst] at hkT
  go_enter Try.func5, Try.ntmps5
  go_wp2_with fail
  refine (hkT _ x0).mono ?_
  rintro e w1 ⟨u, rfl, hu, h1⟩
  have x1 := x0.trans h1
  have rf1 := h1.block rf0
  have rg1 := h1.block rg0
  have hu1 := hu.mono (show w.heap.size + 2 ≤ _ by simp)
  have hsz0 : w.heap.size ≤ w1.heap.size := x1.size
  obtain ⟨ua, uc, rfl⟩ := hu.slice
  clear hkT hu h1 rf0 rg0 x0 a0 a1 a2 a3 a4 a5 g0 g1 g2 g3 g4 g5
  go_wp2_with fail
  refine (VRef01.Twin_calls _ l _ (HB.out.2.2.ext x1) (by have := HL.out.1; omega)).mono ?_
  rintro e w2 ⟨u2, rfl, hu2, h2⟩
  have x2 := x1.trans h2
  have rf2 := h2.block rf1
  have rg2 := h2.block rg1
  have hlow := hu2.lt
  obtain ⟨oa, oc, rfl⟩ := hu2.slice
  have hs12 := h2.size
  clear x1
  go_wp2_with (at_builtin; refine wpList_append_B VRef01.byteSl rfl _ _ rfl (by rfl) (by rfl) (hu2.alloc _) (bys_new [7] rfl rfl rfl (by simp [maxLen])) ?hl ?hb ?hk)
  case hl => have := HL.out.1; simp only [List.length_cons, List.length_nil]; omega
  case hb => simp; omega
  case hk =>
  intro u3 w3 hu3 hg3 _
  have x23 : Ext w1 w3 := Below.trans (h2.thenAlloc _) (grown_below hg3 (by simp; omega) hlow)
  have x3 : Ext w w3 := Below.trans (x2.thenAlloc _) (grown_below hg3 (by have := x2.size; simp; omega) (fun k hk => by have := hlow k hk; have := x2.size; have := hsz0; omega))
  have rf3 := x23.block rf1
  have rg3 := x23.block rg1
  have huo3 := hu1.ext x23
  have hob3 := hu3.bys (by have := HL.out.1; have := HT.out.1; unfold maxLen; omega)
  obtain ⟨oa3, oc3, rfl⟩ := hu3.slice
  generalize (l ++ [(7 : UInt8)]).length = N at *
  have rz3 := heap_alloc_new w3 (.cells #[.int .i64 0, .int .i64 0, .int .i64 0, .int .i64 0, .int .u16 0, .slice none 0 0] TFrm)
  have ro3 := setRow_heap (w3.alloc (.cells #[.int .i64 0, .int .i64 0, .int .i64 0, .int .i64 0, .int .u16 0, .slice none 0 0] TFrm)) w3.heap.size _ (frmC f (.slice ua f.b.length uc)) _ _ rz3
  have xV3 : Ext w3 ((w3.alloc (.cells #[.int .i64 0, .int .i64 0, .int .i64 0, .int .i64 0, .int .u16 0, .slice none 0 0] TFrm)).setRow w3.heap.size (frmC f (.slice ua f.b.length uc))) := (Ext.alloc _ _).setRow (Nat.le_refl _) _
  have rf3 := xV3.block rf3
  have rg3 := xV3.block rg3
  have huo3 := huo3.ext xV3
  have hob3 := hob3.ext xV3
  have x3 := x3.trans xV3
  generalize hgen3 : ((w3.alloc (.cells #[.int .i64 0, .int .i64 0, .int .i64 0, .int .i64 0, .int .u16 0, .slice none 0 0] TFrm)).setRow w3.heap.size (frmC f (.slice ua f.b.length uc))) = V3 at *
  have HG3 := Lib.hid hgen3
  clear hgen3 xV3 x2 hu3 hg3 hu2 rf2 rg2 rf1 rg1 x23 hlow hu1 h2 hs12
  have hubo := huo3.bys (by have := HL.out.2.1; unfold maxLen; omega)
  go_wp2_with (first | (refine storeFrm (m := f) (sa := ua) (sn := f.b.length) (sc := uc) rz3 rfl rfl rfl rfl rfl ?_; rw [HG3.out]) | (refine loadFrm (b := w3.heap.size) (x := f) (u := .slice ua f.b.length uc) ro3 rfl rfl rfl ?_))
  refine (HKE.out (ua, f.b.length, uc) _ hubo).mono ?_
  rintro e w4 ⟨u4, rfl, hu4, h4, -⟩
  have x4 := x3.trans h4
  have rf4 := h4.block rf3
  have rg4 := h4.block rg3
  have ro4 := h4.block ro3
  have huo4 := huo3.ext h4
  have hob4 := hob3.ext h4
  have hX4 := hu4.bys (by have := HL.out.2.2.2.2.1; unfold maxLen; omega)
  obtain ⟨xa, xc, rfl⟩ := hu4.slice
  clear rf3 rg3 ro3 rz3 huo3 hob3 hu4 h4 x3 hubo
  go_wp2_with (first | (refine loadFrm (b := w.heap.size) (x := f) (u := .slice sa f.b.length sc) rf4 rfl rfl rfl ?_))
  refine (HKRE.out _ x4).mono ?_
  rintro e w5 ⟨u5, rfl, hu5, h5, -⟩
  have x5 := x4.trans h5
  have rf5 := h5.block rf4
  have rg5 := h5.block rg4
  have ro5 := h5.block ro4
  have huo5 := huo4.ext h5
  have hob5 := hob4.ext h5
  have hX5 := hX4.ext h5
  have hY5 := hu5.bys (by have := HL.out.2.2.2.2.1; unfold maxLen; omega)
  obtain ⟨ya, yc, rfl⟩ := hu5.slice
  clear rf4 rg4 ro4 huo4 hob4 hX4 hu5 h5 x4
  have hco : l.length ≤ oc3 := by obtain ⟨a, c, h, h2, _⟩ := hob5; cases h; have := HT.out.1; omega
  have hlk : (l.length : Int) ≤ (oc3 : Int) := by omega
  have hot5 := hob5.take (i := l.length) (by rw [List.length_append]; omega)
  rw [HT.out.2.1] at hot5
  go_wp2_with fail
  refine (HKD.out _ _ hot5).mono ?_
  rintro e w6 ⟨u6, rfl, hu6, h6⟩
  have hlt6 := World.ownsRow.lt hu6
  have hs56 := h6.size
  obtain ⟨da, dc, rfl⟩ := hu6.slice
  have rz6 := heap_alloc_new w6 (.cells #[.int .i64 0, .int .i64 0, .int .i64 0, .int .i64 0, .int .u16 0, .slice none 0 0] TFrm)
  have ru6 := setRow_heap (w6.alloc (.cells #[.int .i64 0, .int .i64 0, .int .i64 0, .int .i64 0, .int .u16 0, .slice none 0 0] TFrm)) w6.heap.size _ (frmC D (.slice da D.b.length dc)) _ _ rz6
  have xV6 : Ext w6 ((w6.alloc (.cells #[.int .i64 0, .int .i64 0, .int .i64 0, .int .i64 0, .int .u16 0, .slice none 0 0] TFrm)).setRow w6.heap.size (frmC D (.slice da D.b.length dc))) := (Ext.alloc _ _).setRow (Nat.le_refl _) _
  have x57 := h6.trans xV6
  have hu7 := hu6.ext xV6
  generalize hgen6 : ((w6.alloc (.cells #[.int .i64 0, .int .i64 0, .int .i64 0, .int .i64 0, .int .u16 0, .slice none 0 0] TFrm)).setRow w6.heap.size (frmC D (.slice da D.b.length dc))) = V6 at *
  have HG6 := Lib.hid hgen6
  have hlt67 : w6.heap.size < V6.heap.size := (Array.getElem?_eq_some_iff.1 ru6).1
  clear hgen6 xV6 hu6 h6
  go_wp2_with (first | (refine storeFrm (m := D) (sa := da) (sn := D.b.length) (sc := dc) rz6 rfl rfl rfl rfl rfl ?_; rw [HG6.out]))
  refine (HKRD.out _ (x5.trans x57)).mono ?_
  rintro e w8 ⟨u8, rfl, hu8, h8⟩
  have hs68 := h8.size
  obtain ⟨va, vc, rfl⟩ := hu8.slice
  have rz8 := heap_alloc_new w8 (.cells #[.int .i64 0, .int .i64 0, .int .i64 0, .int .i64 0, .int .u16 0, .slice none 0 0] TFrm)
  have rv8 := setRow_heap (w8.alloc (.cells #[.int .i64 0, .int .i64 0, .int .i64 0, .int .i64 0, .int .u16 0, .slice none 0 0] TFrm)) w8.heap.size _ (frmC D (.slice va D.b.length vc)) _ _ rz8
  have xV8 : Ext w8 ((w8.alloc (.cells #[.int .i64 0, .int .i64 0, .int .i64 0, .int .i64 0, .int .u16 0, .slice none 0 0] TFrm)).setRow w8.heap.size (frmC D (.slice va D.b.length vc))) := (Ext.alloc _ _).setRow (Nat.le_refl _) _
  have x79 := h8.trans xV8
  have x59 := x57.trans x79
  have hu9 := hu7.ext x79
  have ru9 := x79.block ru6
  have hv9 := (hu8.ext xV8).bys (by have := HL.out.2.2.2.1; unfold maxLen; omega)
  have hs89 := xV8.size
  generalize hgen8 : ((w8.alloc (.cells #[.int .i64 0, .int .i64 0, .int .i64 0, .int .i64 0, .int .u16 0, .slice none 0 0] TFrm)).setRow w8.heap.size (frmC D (.slice va D.b.length vc))) = V8 at *
  have HG8 := Lib.hid hgen8
  have hot9 := hot5.ext x59
  clear hgen8 xV8 hu8 h8 x57 hu7 ru6 rz6 HG6 x79
  go_wp2_with (first | (refine storeFrm (m := D) (sa := va) (sn := D.b.length) (sc := vc) rz8 rfl rfl rfl rfl rfl ?_; rw [HG8.out]))
  refine (HKC.out _ _ hot9).mono ?_
  rintro e w10 ⟨u10, rfl, hc10, h10⟩
  have x510 := x59.trans h10
  have hu10 := hu9.ext h10
  have ru10 := h10.block ru9
  have rv10 := h10.block rv8
  have hv10 := hv9.ext h10
  have hcb := hc10.bys (by have := HL.out.2.2.2.2.2; unfold maxLen; omega)
  obtain ⟨ca, cc, rfl⟩ := hc10.slice
  clear hu9 ru9 rv8 hv9 h10 hot9 rz8 HG8 x59 hot5
  go_wp2_with fail
  -- the comparison, in any order
  have hub10 := hu10.bys (by have := HL.out.2.2.2.1; unfold maxLen; omega)
  have hob10 := (huo5.bys (by have := HL.out.2.1; unfold maxLen; omega)).ext x510
  have x10 := x5.trans x510
  have q0 : ∀ W, Ext w10.drew W → (convert 26 9 (.slice xa X.length xc)).run Try.prog W = .ok (.string (strB X)) W := fun W h => HKs.out W _ _ (hX5.ext (x510.trans (Ext.of_drew h)))
  have q1 : ∀ W, Ext w10.drew W → (convert 26 9 (.slice ya X.length yc)).run Try.prog W = .ok (.string (strB X)) W := fun W h => HKs.out W _ _ (hY5.ext (x510.trans (Ext.of_drew h)))
  have q2 : ∀ W, Ext w10.drew W → (convert 26 9 (.slice ca lc.length cc)).run Try.prog W = .ok (.string (strB lc)) W := fun W h => HKs.out W _ _ (hcb.ext (Ext.of_drew h))
  have q3 : ∀ W v, Bys W v lc → (convert 26 9 v).run Try.prog W = .ok (.string (strB lc)) W := fun W v h => HKs.out W _ _ h
  generalize strB X = SX at *
  generalize strB lc = SC at *
  have HR := Lib.hid (show (∀ W, Ext w10.drew W → W.heap[w3.heap.size]? = some (.cells (frmC f (.slice ua f.b.length uc)) TFrm)) ∧ (∀ W, Ext w10.drew W → W.heap[w.heap.size]? = some (.cells (frmC f (.slice sa f.b.length sc)) TFrm)) ∧ (∀ W, Ext w10.drew W → W.heap[w.heap.size + 1]? = some (.cells (frmC g (.slice ta g.b.length tc)) TFrm)) ∧ (∀ W, Ext w10.drew W → W.heap[w6.heap.size]? = some (.cells (frmC D (.slice da D.b.length dc)) TFrm)) ∧ (∀ W, Ext w10.drew W → W.heap[w8.heap.size]? = some (.cells (frmC D (.slice va D.b.length vc)) TFrm)) from
    ⟨fun W h => (x510.trans (Ext.of_drew h)).block ro5, fun W h => (x510.trans (Ext.of_drew h)).block rf5, fun W h => (x510.trans (Ext.of_drew h)).block rg5, fun W h => (Ext.of_drew h).block ru10, fun W h => (Ext.of_drew h).block rv10⟩)
  have HBW := Lib.hid (show ∀ W, Ext w10.drew W → Bys W (.slice da D.b.length dc) D.b ∧ Bys W (.slice va D.b.length vc) D.b ∧ Bys W (.slice ua f.b.length uc) f.b ∧ Bys W (.slice sa f.b.length sc) f.b ∧ Bys W (.slice ta g.b.length tc) g.b ∧ Ext w W from fun W h =>
    have y := Ext.of_drew h
    ⟨hub10.ext y, hv10.ext y, hob10.ext y, HB.out.1.ext (x10.trans y), HB.out.2.1.ext (x10.trans y), x10.trans y⟩)
  have H5 := Lib.hid (And.intro x5 (And.intro rf5 (And.intro ro5 (And.intro huo5 (And.intro hob5 (And.intro hlt6 (And.intro hs56 (And.intro hlt67 (And.intro hs68 hs89)))))))))
  have H10 := Lib.hid (And.intro x510 (And.intro hu10 (And.intro ru10 hc10)))
  clear hub10 hv10 hob10 x10 hcb x5 rf5 rg5 ro5 huo5 hob5 hlt6 hs56 hlt67 hs68 hs89 x510 hu10 ru10 rv10 hc10 hX5 hY5
  obtain ⟨SFG, hSFG⟩ : ∃ B, sameF f g = B := ⟨_, rfl⟩
  refine wp_region_rg Ext [(13, .known (.bool true)), (25, .unk (fun v W => Bys W v lc) (fun _ _ _ e h => h.ext e)), (26, .known (.string SC)), (31, .known (.int .i64 ck)), (33, .known (.int .i64 ck)), (39, .known (.bool SFG)), (42, .known (.bool SFG)), (48, .known (.bool true))] (by kernel_rfl) (by kernel_rfl) (by kernel_rfl) Ext.refl (fun _ _ _ => Ext.trans) ?_
  intro σ
  simp only
  repeat (first | (refine rg_pure (x := ?_) rfl (by rfl) (fun W hW => ?_) ?_; rotate_left; (· have f0 := q0 W hW; have f1 := q1 W hW; have f2 := q2 W hW; go_simp; with_reducible rfl); simp only [Nat.reduceAdd, Act.put, List.setIfInBounds_toArray, List.set_cons_zero, List.set_cons_succ]) | (refine rg_pure (x := .agg (frmC f (.slice ua f.b.length uc))) rfl (by rfl) (fun W hW => exec_loadF (HR.out.1 W hW) rfl rfl) ?_; simp only [Nat.reduceAdd, Act.put, List.setIfInBounds_toArray, List.set_cons_zero, List.set_cons_succ]) | (refine rg_pure (x := .agg (frmC f (.slice sa f.b.length sc))) rfl (by rfl) (fun W hW => exec_loadF (HR.out.2.1 W hW) rfl rfl) ?_; simp only [Nat.reduceAdd, Act.put, List.setIfInBounds_toArray, List.set_cons_zero, List.set_cons_succ]) | (refine rg_pure (x := .agg (frmC g (.slice ta g.b.length tc))) rfl (by rfl) (fun W hW => exec_loadF (HR.out.2.2.1 W hW) rfl rfl) ?_; simp only [Nat.reduceAdd, Act.put, List.setIfInBounds_toArray, List.set_cons_zero, List.set_cons_succ]) | (refine rg_pure (x := .agg (frmC D (.slice da D.b.length dc))) rfl (by rfl) (fun W hW => exec_loadF (HR.out.2.2.2.1 W hW) rfl rfl) ?_; simp only [Nat.reduceAdd, Act.put, List.setIfInBounds_toArray, List.set_cons_zero, List.set_cons_succ]) | (refine rg_pure (x := .agg (frmC D (.slice va D.b.length vc))) rfl (by rfl) (fun W hW => exec_loadF (HR.out.2.2.2.2 W hW) rfl rfl) ?_; simp only [Nat.reduceAdd, Act.put, List.setIfInBounds_toArray, List.set_cons_zero, List.set_cons_succ]))
  refine rg_known rfl (by rfl) (fun W hW hF => ?_) ?_
  · go_simp
    refine (HKRS.out D D (da, D.b.length, dc) (va, D.b.length, vc) W (HBW.out W hW).1 (HBW.out W hW).2.1).mono ?_
    rintro e W' ⟨rfl, h⟩
    exact ⟨_, rfl, h, by rw [sameF_self]⟩
  simp only [Nat.reduceAdd, Act.put, List.setIfInBounds_toArray, List.set_cons_zero, List.set_cons_succ]
  repeat (first | (refine rg_pure (x := ?_) rfl (by rfl) (fun W hW => ?_) ?_; rotate_left; (· have f0 := q0 W hW; have f1 := q1 W hW; have f2 := q2 W hW; go_simp; with_reducible rfl); simp only [Nat.reduceAdd, Act.put, List.setIfInBounds_toArray, List.set_cons_zero, List.set_cons_succ]) | (refine rg_pure (x := .agg (frmC f (.slice ua f.b.length uc))) rfl (by rfl) (fun W hW => exec_loadF (HR.out.1 W hW) rfl rfl) ?_; simp only [Nat.reduceAdd, Act.put, List.setIfInBounds_toArray, List.set_cons_zero, List.set_cons_succ]) | (refine rg_pure (x := .agg (frmC f (.slice sa f.b.length sc))) rfl (by rfl) (fun W hW => exec_loadF (HR.out.2.1 W hW) rfl rfl) ?_; simp only [Nat.reduceAdd, Act.put, List.setIfInBounds_toArray, List.set_cons_zero, List.set_cons_succ]) | (refine rg_pure (x := .agg (frmC g (.slice ta g.b.length tc))) rfl (by rfl) (fun W hW => exec_loadF (HR.out.2.2.1 W hW) rfl rfl) ?_; simp only [Nat.reduceAdd, Act.put, List.setIfInBounds_toArray, List.set_cons_zero, List.set_cons_succ]) | (refine rg_pure (x := .agg (frmC D (.slice da D.b.length dc))) rfl (by rfl) (fun W hW => exec_loadF (HR.out.2.2.2.1 W hW) rfl rfl) ?_; simp only [Nat.reduceAdd, Act.put, List.setIfInBounds_toArray, List.set_cons_zero, List.set_cons_succ]) | (refine rg_pure (x := .agg (frmC D (.slice va D.b.length vc))) rfl (by rfl) (fun W hW => exec_loadF (HR.out.2.2.2.2 W hW) rfl rfl) ?_; simp only [Nat.reduceAdd, Act.put, List.setIfInBounds_toArray, List.set_cons_zero, List.set_cons_succ]))
  refine rg_unk rfl (by rfl) (fun W hW hF => ?_) ?_
  · go_simp
    refine (HKRC.out W (HBW.out W hW).2.2.2.2.2).mono ?_
    rintro e W' ⟨u, rfl, hu, h⟩
    exact ⟨_, rfl, h, hu.bys (by have := HL.out.2.2.2.2.2; unfold maxLen; omega)⟩
  simp only [Nat.reduceAdd, Act.put, List.setIfInBounds_toArray, List.set_cons_zero, List.set_cons_succ]
  refine rg_known rfl (by rfl) (fun W hW hF => ?_) ?_
  · have hq := q3 W _ (hF 25 _ _ rfl (by kernel_rfl))
    go_simp
    exact ⟨Ext.refl _, rfl⟩
  simp only [Nat.reduceAdd, Act.put, List.setIfInBounds_toArray, List.set_cons_zero, List.set_cons_succ]
  repeat (first | (refine rg_pure (x := ?_) rfl (by rfl) (fun W hW => ?_) ?_; rotate_left; (· have f0 := q0 W hW; have f1 := q1 W hW; have f2 := q2 W hW; go_simp; with_reducible rfl); simp only [Nat.reduceAdd, Act.put, List.setIfInBounds_toArray, List.set_cons_zero, List.set_cons_succ]) | (refine rg_pure (x := .agg (frmC f (.slice ua f.b.length uc))) rfl (by rfl) (fun W hW => exec_loadF (HR.out.1 W hW) rfl rfl) ?_; simp only [Nat.reduceAdd, Act.put, List.setIfInBounds_toArray, List.set_cons_zero, List.set_cons_succ]) | (refine rg_pure (x := .agg (frmC f (.slice sa f.b.length sc))) rfl (by rfl) (fun W hW => exec_loadF (HR.out.2.1 W hW) rfl rfl) ?_; simp only [Nat.reduceAdd, Act.put, List.setIfInBounds_toArray, List.set_cons_zero, List.set_cons_succ]) | (refine rg_pure (x := .agg (frmC g (.slice ta g.b.length tc))) rfl (by rfl) (fun W hW => exec_loadF (HR.out.2.2.1 W hW) rfl rfl) ?_; simp only [Nat.reduceAdd, Act.put, List.setIfInBounds_toArray, List.set_cons_zero, List.set_cons_succ]) | (refine rg_pure (x := .agg (frmC D (.slice da D.b.length dc))) rfl (by rfl) (fun W hW => exec_loadF (HR.out.2.2.2.1 W hW) rfl rfl) ?_; simp only [Nat.reduceAdd, Act.put, List.setIfInBounds_toArray, List.set_cons_zero, List.set_cons_succ]) | (refine rg_pure (x := .agg (frmC D (.slice va D.b.length vc))) rfl (by rfl) (fun W hW => exec_loadF (HR.out.2.2.2.2 W hW) rfl rfl) ?_; simp only [Nat.reduceAdd, Act.put, List.setIfInBounds_toArray, List.set_cons_zero, List.set_cons_succ]))
  refine rg_known rfl (by rfl) (fun W hW hF => ?_) ?_
  · go_simp
    refine (HKK.out (ua, f.b.length, uc) W rfl).mono ?_
    rintro e W' ⟨rfl, h⟩
    exact ⟨_, rfl, h, rfl⟩
  simp only [Nat.reduceAdd, Act.put, List.setIfInBounds_toArray, List.set_cons_zero, List.set_cons_succ]
  repeat (first | (refine rg_pure (x := ?_) rfl (by rfl) (fun W hW => ?_) ?_; rotate_left; (· have f0 := q0 W hW; have f1 := q1 W hW; have f2 := q2 W hW; go_simp; with_reducible rfl); simp only [Nat.reduceAdd, Act.put, List.setIfInBounds_toArray, List.set_cons_zero, List.set_cons_succ]) | (refine rg_pure (x := .agg (frmC f (.slice ua f.b.length uc))) rfl (by rfl) (fun W hW => exec_loadF (HR.out.1 W hW) rfl rfl) ?_; simp only [Nat.reduceAdd, Act.put, List.setIfInBounds_toArray, List.set_cons_zero, List.set_cons_succ]) | (refine rg_pure (x := .agg (frmC f (.slice sa f.b.length sc))) rfl (by rfl) (fun W hW => exec_loadF (HR.out.2.1 W hW) rfl rfl) ?_; simp only [Nat.reduceAdd, Act.put, List.setIfInBounds_toArray, List.set_cons_zero, List.set_cons_succ]) | (refine rg_pure (x := .agg (frmC g (.slice ta g.b.length tc))) rfl (by rfl) (fun W hW => exec_loadF (HR.out.2.2.1 W hW) rfl rfl) ?_; simp only [Nat.reduceAdd, Act.put, List.setIfInBounds_toArray, List.set_cons_zero, List.set_cons_succ]) | (refine rg_pure (x := .agg (frmC D (.slice da D.b.length dc))) rfl (by rfl) (fun W hW => exec_loadF (HR.out.2.2.2.1 W hW) rfl rfl) ?_; simp only [Nat.reduceAdd, Act.put, List.setIfInBounds_toArray, List.set_cons_zero, List.set_cons_succ]) | (refine rg_pure (x := .agg (frmC D (.slice va D.b.length vc))) rfl (by rfl) (fun W hW => exec_loadF (HR.out.2.2.2.2 W hW) rfl rfl) ?_; simp only [Nat.reduceAdd, Act.put, List.setIfInBounds_toArray, List.set_cons_zero, List.set_cons_succ]))
  refine rg_known rfl (by rfl) (fun W hW hF => ?_) ?_
  · go_simp
    refine (HKRK.out W).mono ?_
    rintro e W' ⟨rfl, h⟩
    exact ⟨_, rfl, h, rfl⟩
  simp only [Nat.reduceAdd, Act.put, List.setIfInBounds_toArray, List.set_cons_zero, List.set_cons_succ]
  repeat (first | (refine rg_pure (x := ?_) rfl (by rfl) (fun W hW => ?_) ?_; rotate_left; (· have f0 := q0 W hW; have f1 := q1 W hW; have f2 := q2 W hW; go_simp; with_reducible rfl); simp only [Nat.reduceAdd, Act.put, List.setIfInBounds_toArray, List.set_cons_zero, List.set_cons_succ]) | (refine rg_pure (x := .agg (frmC f (.slice ua f.b.length uc))) rfl (by rfl) (fun W hW => exec_loadF (HR.out.1 W hW) rfl rfl) ?_; simp only [Nat.reduceAdd, Act.put, List.setIfInBounds_toArray, List.set_cons_zero, List.set_cons_succ]) | (refine rg_pure (x := .agg (frmC f (.slice sa f.b.length sc))) rfl (by rfl) (fun W hW => exec_loadF (HR.out.2.1 W hW) rfl rfl) ?_; simp only [Nat.reduceAdd, Act.put, List.setIfInBounds_toArray, List.set_cons_zero, List.set_cons_succ]) | (refine rg_pure (x := .agg (frmC g (.slice ta g.b.length tc))) rfl (by rfl) (fun W hW => exec_loadF (HR.out.2.2.1 W hW) rfl rfl) ?_; simp only [Nat.reduceAdd, Act.put, List.setIfInBounds_toArray, List.set_cons_zero, List.set_cons_succ]) | (refine rg_pure (x := .agg (frmC D (.slice da D.b.length dc))) rfl (by rfl) (fun W hW => exec_loadF (HR.out.2.2.2.1 W hW) rfl rfl) ?_; simp only [Nat.reduceAdd, Act.put, List.setIfInBounds_toArray, List.set_cons_zero, List.set_cons_succ]) | (refine rg_pure (x := .agg (frmC D (.slice va D.b.length vc))) rfl (by rfl) (fun W hW => exec_loadF (HR.out.2.2.2.2 W hW) rfl rfl) ?_; simp only [Nat.reduceAdd, Act.put, List.setIfInBounds_toArray, List.set_cons_zero, List.set_cons_succ]))
  refine rg_known rfl (by rfl) (fun W hW hF => ?_) ?_
  · go_simp
    refine (HKS.out f g (ua, f.b.length, uc) (ta, g.b.length, tc) W (HBW.out W hW).2.2.1 (HBW.out W hW).2.2.2.2.1).mono ?_
    rintro e W' ⟨rfl, h⟩
    exact ⟨_, rfl, h, by rw [hSFG]⟩
  simp only [Nat.reduceAdd, Act.put, List.setIfInBounds_toArray, List.set_cons_zero, List.set_cons_succ]
  repeat (first | (refine rg_pure (x := ?_) rfl (by rfl) (fun W hW => ?_) ?_; rotate_left; (· have f0 := q0 W hW; have f1 := q1 W hW; have f2 := q2 W hW; go_simp; with_reducible rfl); simp only [Nat.reduceAdd, Act.put, List.setIfInBounds_toArray, List.set_cons_zero, List.set_cons_succ]) | (refine rg_pure (x := .agg (frmC f (.slice ua f.b.length uc))) rfl (by rfl) (fun W hW => exec_loadF (HR.out.1 W hW) rfl rfl) ?_; simp only [Nat.reduceAdd, Act.put, List.setIfInBounds_toArray, List.set_cons_zero, List.set_cons_succ]) | (refine rg_pure (x := .agg (frmC f (.slice sa f.b.length sc))) rfl (by rfl) (fun W hW => exec_loadF (HR.out.2.1 W hW) rfl rfl) ?_; simp only [Nat.reduceAdd, Act.put, List.setIfInBounds_toArray, List.set_cons_zero, List.set_cons_succ]) | (refine rg_pure (x := .agg (frmC g (.slice ta g.b.length tc))) rfl (by rfl) (fun W hW => exec_loadF (HR.out.2.2.1 W hW) rfl rfl) ?_; simp only [Nat.reduceAdd, Act.put, List.setIfInBounds_toArray, List.set_cons_zero, List.set_cons_succ]) | (refine rg_pure (x := .agg (frmC D (.slice da D.b.length dc))) rfl (by rfl) (fun W hW => exec_loadF (HR.out.2.2.2.1 W hW) rfl rfl) ?_; simp only [Nat.reduceAdd, Act.put, List.setIfInBounds_toArray, List.set_cons_zero, List.set_cons_succ]) | (refine rg_pure (x := .agg (frmC D (.slice va D.b.length vc))) rfl (by rfl) (fun W hW => exec_loadF (HR.out.2.2.2.2 W hW) rfl rfl) ?_; simp only [Nat.reduceAdd, Act.put, List.setIfInBounds_toArray, List.set_cons_zero, List.set_cons_succ]))
  refine rg_known rfl (by rfl) (fun W hW hF => ?_) ?_
  · go_simp
    refine (HKRS.out f g (sa, f.b.length, sc) (ta, g.b.length, tc) W (HBW.out W hW).2.2.2.1 (HBW.out W hW).2.2.2.2.1).mono ?_
    rintro e W' ⟨rfl, h⟩
    exact ⟨_, rfl, h, by rw [hSFG]⟩
  simp only [Nat.reduceAdd, Act.put, List.setIfInBounds_toArray, List.set_cons_zero, List.set_cons_succ]
  repeat (first | (refine rg_pure (x := ?_) rfl (by rfl) (fun W hW => ?_) ?_; rotate_left; (· have f0 := q0 W hW; have f1 := q1 W hW; have f2 := q2 W hW; go_simp; with_reducible rfl); simp only [Nat.reduceAdd, Act.put, List.setIfInBounds_toArray, List.set_cons_zero, List.set_cons_succ]) | (refine rg_pure (x := .agg (frmC f (.slice ua f.b.length uc))) rfl (by rfl) (fun W hW => exec_loadF (HR.out.1 W hW) rfl rfl) ?_; simp only [Nat.reduceAdd, Act.put, List.setIfInBounds_toArray, List.set_cons_zero, List.set_cons_succ]) | (refine rg_pure (x := .agg (frmC f (.slice sa f.b.length sc))) rfl (by rfl) (fun W hW => exec_loadF (HR.out.2.1 W hW) rfl rfl) ?_; simp only [Nat.reduceAdd, Act.put, List.setIfInBounds_toArray, List.set_cons_zero, List.set_cons_succ]) | (refine rg_pure (x := .agg (frmC g (.slice ta g.b.length tc))) rfl (by rfl) (fun W hW => exec_loadF (HR.out.2.2.1 W hW) rfl rfl) ?_; simp only [Nat.reduceAdd, Act.put, List.setIfInBounds_toArray, List.set_cons_zero, List.set_cons_succ]) | (refine rg_pure (x := .agg (frmC D (.slice da D.b.length dc))) rfl (by rfl) (fun W hW => exec_loadF (HR.out.2.2.2.1 W hW) rfl rfl) ?_; simp only [Nat.reduceAdd, Act.put, List.setIfInBounds_toArray, List.set_cons_zero, List.set_cons_succ]) | (refine rg_pure (x := .agg (frmC D (.slice va D.b.length vc))) rfl (by rfl) (fun W hW => exec_loadF (HR.out.2.2.2.2 W hW) rfl rfl) ?_; simp only [Nat.reduceAdd, Act.put, List.setIfInBounds_toArray, List.set_cons_zero, List.set_cons_succ]))
  refine rg_known rfl (by rfl) (fun W hW hF => ?_) ?_
  · go_simp
    refine (HKS.out f f (ua, f.b.length, uc) (sa, f.b.length, sc) W (HBW.out W hW).2.2.1 (HBW.out W hW).2.2.2.1).mono ?_
    rintro e W' ⟨rfl, h⟩
    exact ⟨_, rfl, h, by rw [sameF_self]⟩
  simp only [Nat.reduceAdd, Act.put, List.setIfInBounds_toArray, List.set_cons_zero, List.set_cons_succ]
  repeat (first | (refine rg_pure (x := ?_) rfl (by rfl) (fun W hW => ?_) ?_; rotate_left; (· have f0 := q0 W hW; have f1 := q1 W hW; have f2 := q2 W hW; go_simp; with_reducible rfl); simp only [Nat.reduceAdd, Act.put, List.setIfInBounds_toArray, List.set_cons_zero, List.set_cons_succ]) | (refine rg_pure (x := .agg (frmC f (.slice ua f.b.length uc))) rfl (by rfl) (fun W hW => exec_loadF (HR.out.1 W hW) rfl rfl) ?_; simp only [Nat.reduceAdd, Act.put, List.setIfInBounds_toArray, List.set_cons_zero, List.set_cons_succ]) | (refine rg_pure (x := .agg (frmC f (.slice sa f.b.length sc))) rfl (by rfl) (fun W hW => exec_loadF (HR.out.2.1 W hW) rfl rfl) ?_; simp only [Nat.reduceAdd, Act.put, List.setIfInBounds_toArray, List.set_cons_zero, List.set_cons_succ]) | (refine rg_pure (x := .agg (frmC g (.slice ta g.b.length tc))) rfl (by rfl) (fun W hW => exec_loadF (HR.out.2.2.1 W hW) rfl rfl) ?_; simp only [Nat.reduceAdd, Act.put, List.setIfInBounds_toArray, List.set_cons_zero, List.set_cons_succ]) | (refine rg_pure (x := .agg (frmC D (.slice da D.b.length dc))) rfl (by rfl) (fun W hW => exec_loadF (HR.out.2.2.2.1 W hW) rfl rfl) ?_; simp only [Nat.reduceAdd, Act.put, List.setIfInBounds_toArray, List.set_cons_zero, List.set_cons_succ]) | (refine rg_pure (x := .agg (frmC D (.slice va D.b.length vc))) rfl (by rfl) (fun W hW => exec_loadF (HR.out.2.2.2.2 W hW) rfl rfl) ?_; simp only [Nat.reduceAdd, Act.put, List.setIfInBounds_toArray, List.set_cons_zero, List.set_cons_succ]))
  refine rg_done fun W hW hF => ?_
  have yW : Ext w10 W := Ext.of_drew hW
  clear hF hW q0 q1 q2 q3 HR HBW HKE HKRE HKD HKRD HKC HKRC HKK HKRK HKS
  have ruW := yW.block H10.out.2.2.1
  have huW := H10.out.2.1.ext yW
  have hcW := H10.out.2.2.2.ext yW
  have xW := H10.out.1.trans yW
  have p5 : W.cell? ⟨w6.heap.size, 5, none⟩ = some (.slice da D.b.length dc) := cell_of_row _ _ 5 _ _ _ ruW
  clear H10 yW
  go_wp2_with fail
  generalize σ 25 = z25 at *
  clear p5
  go_loopw [123] (fun i wr => ∃ (j : Nat) (M : List UInt8), j ≤ D.b.length ∧ i = .int .i64 (j : Int) ∧ M.length = D.b.length ∧ OwnB wr w5.heap.size TB (.slice da D.b.length dc) M ∧ OwnB wr V8.heap.size TB (.slice ca lc.length cc) lc ∧ wr.heap[w6.heap.size]? = some (.cells (frmC D (.slice da D.b.length dc)) TFrm) ∧ Ext w5 wr) (fun i _ => D.b.length - (intOf i).toNat)
  case atStart => exact ⟨0, D.b, by omega, rfl, rfl, huW, hcW, ruW, xW⟩
  case round =>
    clear huW hcW ruW xW
    obtain ⟨j, M, hj, rfl, hMl, hu, hcr, hrow, hE⟩ := hrel
    have hD := HL.out.2.2.2.1
    have hLc := HL.out.2.2.2.2.2
    by_cases hlt : j < D.b.length
    · have hd2 : decide ((j : Int) < (D.b.length : Int)) = true := decide_eq_true (by omega)
      obtain ⟨c, hc⟩ := get_some (l := M) (k := j) (by omega)
      obtain ⟨gx, cx', hv0, hgb, -, hcap, hcells⟩ := hu.row (by intro e; subst e; simp at hc)
      simp only [Value.slice.injEq] at hv0
      obtain ⟨rfl, -, rfl⟩ := hv0
      obtain ⟨hce, hfr⟩ := hcells j c hc
      have hg6 : gx < w6.heap.size := (H5.out.2.2.2.2.2.1 gx rfl).2
      have hgV : gx < V8.heap.size := by have := H5.out.2.2.2.2.2.2.2.1; have := H5.out.2.2.2.2.2.2.2.2; omega
      have hneu : w6.heap.size ≠ gx := by omega
      have hSx := hu.set j (by omega) (c + 1)
      have hSc : OwnB (wr.setCell ⟨gx, j, none⟩ (.int .u8 ((c + 1).toNat : Int))) V8.heap.size TB (.slice ca lc.length cc) lc := ownsRow_setCell_below hcr hgV _
      have hSr : (wr.setCell ⟨gx, j, none⟩ (.int .u8 ((c + 1).toNat : Int))).heap[w6.heap.size]? = some (.cells (frmC D (.slice (some ⟨gx, 0, none⟩) D.b.length dc)) TFrm) := (heap_setCell_other wr ⟨gx, j, none⟩ _ _ hneu).trans hrow
      have hSe : Ext w5 (wr.setCell ⟨gx, j, none⟩ (.int .u8 ((c + 1).toNat : Int))) := Below.setCell hE hgb _
      have hcv : IntKind.u8.wrap ((c.toNat : Int) + 1) = ((c + 1).toNat : Int) := by rw [IntKind.wrap_u8, UInt8.toNat_add]; simp
      have hjx : (j : Int) < (D.b.length : Int) := by omega
      have p5 : wr.cell? ⟨w6.heap.size, 5, none⟩ = some (.slice (some ⟨gx, 0, none⟩) D.b.length dc) := cell_of_row _ _ 5 _ _ _ hrow
      have HS := Lib.hid (And.intro hSx (And.intro hSc (And.intro hSr hSe)))
      clear hSx hSc hSr hSe hu hcr hrow hE hcells hcap
      have hcl := c.toNat_lt
      generalize (c + 1).toNat = c1 at *
      generalize c.toNat = c0 at *
      go_wp2_with fail
      go_round
      · exact ⟨j + 1, M.set j (c + 1), by omega, by go_num, by simp [hMl], HS.out.1, HS.out.2.1, HS.out.2.2.1, HS.out.2.2.2⟩
      · simp [intOf]; omega
    · have hd2 : decide ((j : Int) < (D.b.length : Int)) = false := decide_eq_false (by omega)
      clear hu hrow
      go_wp2_with fail
      go_loopw [136] (fun i wr => ∃ (j : Nat) (M : List UInt8), j ≤ lc.length ∧ i = .int .i64 (j : Int) ∧ M.length = lc.length ∧ OwnB wr V8.heap.size TB (.slice ca lc.length cc) M ∧ Ext w5 wr) (fun i _ => lc.length - (intOf i).toNat)
      case atStart => exact ⟨0, lc, by omega, rfl, rfl, hcr, hE⟩
      case round =>
        clear hcr hE hMl hj hlt hd2
        obtain ⟨j, M, hj, rfl, hMl, hu, hE⟩ := hrel
        by_cases hlt : j < lc.length
        · have hd2 : decide ((j : Int) < (lc.length : Int)) = true := decide_eq_true (by omega)
          obtain ⟨c, hc⟩ := get_some (l := M) (k := j) (by omega)
          obtain ⟨gx, cx', hv0, hgb, -, hcap, hcells⟩ := hu.row (by intro e; subst e; simp at hc)
          simp only [Value.slice.injEq] at hv0
          obtain ⟨rfl, -, rfl⟩ := hv0
          obtain ⟨hce, hfr⟩ := hcells j c hc
          have hg5 : w5.heap.size ≤ gx := by have := H5.out.2.2.2.2.2.2.1; have := H5.out.2.2.2.2.2.2.2.1; have := H5.out.2.2.2.2.2.2.2.2; omega
          have hSx := hu.set j (by omega) (c + 1)
          have hSe : Ext w5 (wr.setCell ⟨gx, j, none⟩ (.int .u8 ((c + 1).toNat : Int))) := Below.setCell hE hg5 _
          have hcv : IntKind.u8.wrap ((c.toNat : Int) + 1) = ((c + 1).toNat : Int) := by rw [IntKind.wrap_u8, UInt8.toNat_add]; simp
          have hjx : (j : Int) < (lc.length : Int) := by omega
          have HS := Lib.hid (And.intro hSx hSe)
          clear hSx hSe hu hE hcells hcap
          have hcl := c.toNat_lt
          generalize (c + 1).toNat = c1 at *
          generalize c.toNat = c0 at *
          go_wp2_with fail
          go_round
          · exact ⟨j + 1, M.set j (c + 1), by omega, by go_num, by simp [hMl], HS.out.1, HS.out.2⟩
          · simp [intOf]; omega
        · have hd2 : decide ((j : Int) < (lc.length : Int)) = false := decide_eq_false (by omega)
          have xE := H5.out.1.trans hE
          have rfE := hE.block H5.out.2.1
          have roE := hE.block H5.out.2.2.1
          have hoE := (H5.out.2.2.2.1.bys (by have := HL.out.2.1; unfold maxLen; omega)).ext hE
          have hbE := H5.out.2.2.2.2.1.ext hE
          have kF := HKRS.out f f (ua, f.b.length, uc) (sa, f.b.length, sc) wr hoE (HB.out.1.ext xE)
          rw [sameF_self] at kF
          clear hu hoE
          go_wp2_with (first | (refine loadFrm (b := w3.heap.size) (x := f) (u := .slice ua f.b.length uc) roE rfl rfl rfl ?_) | (refine loadFrm (b := w.heap.size) (x := f) (u := .slice sa f.b.length sc) rfE rfl rfl rfl ?_))
          refine kF.mono ?_
          rintro e wz ⟨rfl, hz⟩
          have xZ := xE.trans hz
          have q1 := HKs.out wz _ _ (hbE.ext hz)
          have q2 := HKs.out wz _ _ (HB.out.2.2.ext xZ)
          have hcat := HT.out.2.2
          have hsz4 : (strB l).size ≤ 5000 := by have := HL.out.1; show (l.toArray).size ≤ 5000; simpa using (by omega : l.length ≤ 5000)
          have hsz4' : ¬ 9223372036854775807 < (strB l).size + 1 := by omega
          generalize strB (l ++ [7]) = S3 at *
          generalize strB l = S4 at *
          clear kF rfE roE hbE hE hz
          go_wp2_with fail
          go_ret
          exact ⟨rfl, xZ⟩
end Go.Proofs.Ytfjjgceagpcfkaa.VSta
