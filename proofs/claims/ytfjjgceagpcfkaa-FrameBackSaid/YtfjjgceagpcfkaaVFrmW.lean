/- FrameBack: the walk. -/
import Derived.Test.YtfjjgceagpcfkaaVFrmF
import Derived.Test.YtfjjgceagpcfkaaVFrmA
import Derived.Test.YtfjjgceagpcfkaaVFrmArg
import Derived.Deep.MidRow
namespace Go.Proofs.Ytfjjgceagpcfkaa.VSta
open Go.RowKit Go.VBase Go.VRg Go.VSeq Go.VOct VOct VCst Go.Proofs.Ytfjjgceagpcfkaa.VCrc _root_.Go.VCrc VMsg

def withC (g f : FrmD) : FrmD := { g with r := f.r, s := f.s, m := f.m, v := f.v }
theorem withC_noC {f : FrmD} (h : f.k = 1) : withC (noC f) f = f := by
  unfold withC noC
  rw [if_pos h]
theorem back_fit {l : List UInt8} {g f : FrmD} (h : decF l = some g) (hk : g.k = 1) (hf : fitsF l f.r f.s f.m f.v = true) : encF (withC g f) = some l := by
  obtain ⟨hc, _, _, _, ⟨t, ht, hl⟩, _⟩ := dec_back h
  unfold fitsF at hf
  rw [h] at hf
  simp only [Bool.and_eq_true] at hf
  obtain ⟨hcb, hb⟩ := hf
  rw [if_pos hk] at hb
  have hlen : l.length - 3 = (frontF g).length := by rw [hl, List.length_append, ht]; omega
  have ed : l.drop (l.length - 3) = t := by rw [hlen, hl, List.drop_left]
  have et : l.take (l.length - 3) = frontF g := by rw [hlen, hl, List.take_left]
  rw [ed, et] at hb
  have hb : boundF (frontF g) (cstBy f.r f.s f.m f.v.toNat) = t := by simpa using hb
  have hk' : (withC g f).k = 1 := hk
  have hfr : frontF (withC g f) = frontF g := by rw [front1 hk', front1 hk]; rfl
  have hchk : chkF (withC g f) = true := by
    obtain ⟨_, _, hbl, _, _⟩ := chkF_facts hc
    unfold chkF withC
    simp only [hk, hcb]
    have h3 : decide (g.b.length ≤ 1024) = true := decide_eq_true hbl
    rw [h3]
    have h4 : hasB 1 1 = true := by decide
    rw [h4]
    simp
  unfold encF
  rw [if_pos hchk]
  congr 1
  unfold frmBy
  rw [hfr, if_pos hk', show cstF (withC g f) = cstBy f.r f.s f.m f.v.toNat from rfl, hb, hl]
theorem back_enc {l : List UInt8} {g : FrmD} (h : decF l = some g) (hk : g.k ≠ 1) : encF g = some l := by
  obtain ⟨hc, _, _, _, _, hb⟩ := dec_back h
  unfold encF
  rw [if_pos hc, hb hk]
theorem setC_row {W : World} {b : Nat} {g : FrmD} {u : Value} {T : TypeId} (h : W.heap[b]? = some (.cells (frmC g u) T)) (f : FrmD) :
    ((((W.setCell ⟨b, 1, none⟩ (.int .i64 f.r)).setCell ⟨b, 2, none⟩ (.int .i64 f.s)).setCell ⟨b, 3, none⟩ (.int .i64 f.m)).setCell ⟨b, 4, none⟩ (.int .u16 f.v)).heap[b]? = some (.cells (frmC (withC g f) u) T) ∧
    (∀ k, k ≠ b → ((((W.setCell ⟨b, 1, none⟩ (.int .i64 f.r)).setCell ⟨b, 2, none⟩ (.int .i64 f.s)).setCell ⟨b, 3, none⟩ (.int .i64 f.m)).setCell ⟨b, 4, none⟩ (.int .u16 f.v)).heap[k]? = W.heap[k]?) ∧
    ∀ a, Ext a W → a.heap.size ≤ b → Ext a ((((W.setCell ⟨b, 1, none⟩ (.int .i64 f.r)).setCell ⟨b, 2, none⟩ (.int .i64 f.s)).setCell ⟨b, 3, none⟩ (.int .i64 f.m)).setCell ⟨b, 4, none⟩ (.int .u16 f.v)) := by
  have h1 := heap_setCell_same W b 1 _ _ (.int .i64 f.r) h
  have h2 := heap_setCell_same _ b 2 _ _ (.int .i64 f.s) h1
  have h3 := heap_setCell_same _ b 3 _ _ (.int .i64 f.m) h2
  have h4 := heap_setCell_same _ b 4 _ _ (.int .u16 f.v) h3
  refine ⟨h4.trans rfl, fun k e => ?_, fun a x hb => Below.setCell (Below.setCell (Below.setCell (Below.setCell x hb _) hb _) hb _) hb _⟩
  rw [heap_setCell_other _ _ _ _ e, heap_setCell_other _ _ _ _ e, heap_setCell_other _ _ _ _ e, heap_setCell_other _ _ _ _ e]

def cstL (f : FrmD) : Array Value := #[.int .i64 f.r, .int .i64 f.s, .int .i64 f.m, .int .u16 f.v]
theorem setC_rowS {W : World} {b : Nat} {g : FrmD} {u : Value} {T : TypeId} (h : W.heap[b]? = some (.cells (frmC g u) T)) (f : FrmD) :
    (W.setCells b 1 (cstL f).toList).heap[b]? = some (.cells (frmC (withC g f) u) T) ∧ (∀ k, k ≠ b → (W.setCells b 1 (cstL f).toList).heap[k]? = W.heap[k]?) ∧
    (∀ a, Ext a W → a.heap.size ≤ b → Ext a (W.setCells b 1 (cstL f).toList)) ∧ W.there b 1 4 := by
  obtain ⟨a1, a2, a3⟩ := setC_row h f
  refine ⟨a1, a2, a3, fun j hj => ⟨?_, frozen_of_row W b (1 + j) _ _ h⟩⟩
  rw [cell_of_row W b (1 + j) _ _ _ h]
  match j, hj with
  | 0, _ => rfl
  | 1, _ => rfl
  | 2, _ => rfl
  | 3, _ => rfl
theorem storeC {ops : Array Oper} {rest : List Oper} {o : Oper} {a : Act} {Q : Exit → Act → World → Prop} {W : World} (b off : Nat) (t t' : Tmp) (f : FrmD) (hgd : o.guard = none) (ho : o.op = .store 25 (.tmp t) (.tmp t')) (hx : a.eval (.tmp t) = .pointer (some ⟨b, off, none⟩)) (hy : a.eval (.tmp t') = .agg (cstL f)) (ht : W.there b off 4)
    (hk : wpList Try.prog ops Q rest (a.put o.dst undef) (W.setCells b off (cstL f).toList)) : wpList Try.prog ops Q (o :: rest) a W :=
  wpList_store_mid hgd _ _ _ ho b off (cstL f) hx hy ht (by kernel_rfl) (by unfold cstL; simp [Value.oneCell']) hk
set_option maxRecDepth 100000 in
set_option maxHeartbeats 8000000 in
theorem Back_any (f : FrmD) (sx : Sl3) (b : Value) (l : List UInt8) (w : World) (hx : Bys w (slV sx) f.b) (hb : Bys w b l) (hv0 : 0 ≤ f.v) (hv : f.v < 65536) :
    Calls Try.prog 6 #[.agg (frmC f (slV sx)), b] w fun e w' => e = .returned (.bool true) ∧ Ext w w' := by
  have hn : sx.2.1 = f.b.length := by
    obtain ⟨a, c, h, _⟩ := hx
    unfold slV at h
    simp only [Value.slice.injEq] at h
    exact h.2.1
  have kA := fun W => alive_calls W
  have kE := fun W (h : Ext w W) => frmEncode_calls f sx W (hx.ext h) hv0 hv
  unfold EncFPost at kE
  have x0 := Ext.alloc w (.cells (frmC f (slV sx)) TFrm)
  have r0 := heap_alloc_new w (.cells (frmC f (slV sx)) TFrm)
  have hfit : ∀ q, encF f = some q → decF q = some (noC f) ∧ q.length ≤ 100000 := fun q h => by
    unfold encF at h
    by_cases hc : chkF f = true
    · rw [if_pos hc] at h
      cases h
      exact ⟨dec_enc hc hv0 hv, by rw [frm_len hc]; have := (long_le hc).1; omega⟩
    · rw [if_neg hc] at h; cases h
  generalize encF f = xe at *
  obtain ⟨va, vc, rfl⟩ : ∃ a c, b = .slice a l.length c := by obtain ⟨a, c, h, _⟩ := hb; exact ⟨a, c, h⟩
  obtain ⟨sa, sn, sc⟩ := sx
  simp only at hn
  subst hn
  have hst : ∀ (u : Value), frmC f u = #[.int .i64 f.k, .int .i64 f.r, .int .i64 f.s, .int .i64 f.m, .int .u16 f.v, u] := fun _ => rfl
  have hsl : slV (sa, f.b.length, sc) = .slice sa f.b.length sc := rfl
  have hx' : Bys w (.slice sa f.b.length sc) f.b := hx
  rw [hst, hsl] at kE x0 r0 ⊢
  have HV := Lib.hid (And.intro hfit (And.intro hv0 (And.intro hv (And.intro hb hx'))))
  clear hst hsl hx hx' hfit hv0 hv hb
  by_cases hlen : f.b.length ≤ 1100 ∧ l.length ≤ 1200
  rotate_left
  · clear kE
    by_cases hA : 1100 < f.b.length
    · have dA : decide ((1100 : Int) < (f.b.length : Int)) = true := decide_eq_true (by omega)
      clear hlen hA
      go_enter Try.func6, Try.ntmps6
      go_wp2_with fail
      refine (kA _).mono ?_
      rintro e w1 ⟨rfl, h1⟩
      have c5 := cell_of_row w1 _ 5 _ _ _ (h1.block r0)
      have x1 := x0.trans h1
      clear kA h1 r0 x0
      go_wp2_with fail
      go_ret
      exact ⟨rfl, x1⟩
    · have dA : decide ((1100 : Int) < (f.b.length : Int)) = false := decide_eq_false (by omega)
      have dA2 : ¬ ((1100 : Int) < (f.b.length : Int)) := by omega
      have dB : decide ((1200 : Int) < (l.length : Int)) = true := decide_eq_true (by omega)
      clear hlen hA
      go_enter Try.func6, Try.ntmps6
      go_wp2_with fail
      refine (kA _).mono ?_
      rintro e w1 ⟨rfl, h1⟩
      have c5 := cell_of_row w1 _ 5 _ _ _ (h1.block r0)
      have x1 := x0.trans h1
      clear kA h1 r0 x0
      go_wp2_with fail
      go_ret
      exact ⟨rfl, x1⟩
  have dA : decide ((1100 : Int) < (f.b.length : Int)) = false := decide_eq_false (by omega)
  have dA2 : ¬ ((1100 : Int) < (f.b.length : Int)) := by omega
  have dB : decide ((1200 : Int) < (l.length : Int)) = false := decide_eq_false (by omega)
  have hl5 : l.length ≤ 100000 := by omega
  have hL48 : l.length ≤ maxLen := by unfold maxLen; omega
  have kD := fun v q W (h : Bys W v q) hq => frmDecode_calls v q W h hq
  have kB := fun W (h : Ext w W) => frmDecode_calls (.slice va l.length vc) l W (HV.out.2.2.2.1.ext h) hl5
  have kFt := fun W (h : Ext w W) => frmFits_calls (.slice va l.length vc) l f.r f.s f.m f.v W (HV.out.2.2.2.1.ext h) hl5 HV.out.2.1 HV.out.2.2.1
  have ks := fun (W : World) (v : Value) (q : List UInt8) (h : Bys W v q) => run_string_bys (P := Try.prog) Try.underlying26 Try.underlying5 Try.underlying9 h
  unfold DecFPost at kB kD
  unfold cst at kFt
  obtain ⟨ft, hft⟩ : ∃ t, fitsF l f.r f.s f.m f.v = t := ⟨_, rfl⟩
  rw [hft] at kFt
  obtain ⟨d2, hd2⟩ : ∃ d, decF l = d := ⟨_, rfl⟩
  rw [hd2] at kB
  have HP := Lib.hid (And.intro hft (And.intro hd2 (And.intro hl5 hL48)))
  have HK := Lib.hid (And.intro kD (And.intro kB (And.intro kFt ks)))
  clear hlen hft hd2 hl5 hL48 kD kB kFt ks
  go_enter Try.func6, Try.ntmps6
  go_wp2_with fail
  refine (kA _).mono ?_
  rintro e w1 ⟨rfl, h1⟩
  have r1 := h1.block r0
  have x1 := x0.trans h1
  have c5 := cell_of_row w1 _ 5 _ _ _ r1
  clear kA h1 r0 x0
  go_wp2_with (first | refine loadFrm (x := f) (u := .slice sa f.b.length sc) r1 rfl rfl rfl ?_)
  refine (kE _ x1).mono ?_
  rintro e w2 ⟨uE, rfl, huE, h2, -⟩
  have x2 := x1.trans h2
  have r2 := h2.block r1
  clear kE h2 x1 r1 c5
  cases xe with
  | none =>
    clear huE
    simp only [Option.isSome_none, Bool.false_eq_true, if_false]
    go_wp2_with fail
    -- the bytes that are handed in
    obtain ⟨-, kB, kFt, ks⟩ := HK.out
    refine (kB _ x2).mono ?_
    rintro e wB ⟨u, rfl, hu, hB⟩
    have xB := x2.trans hB
    have rB := hB.block r2
    obtain ⟨ua, uc, rfl⟩ := hu.slice
    clear kB hB r2
    cases d2 with
    | none =>
      have rz := heap_alloc_new wB (.cells #[.int .i64 0, .int .i64 0, .int .i64 0, .int .i64 0, .int .u16 0, .slice none 0 0] TFrm)
      simp only [Option.getD_none, Option.isSome_none, Bool.false_eq_true, if_false] at hu ⊢
      have r10 := setRow_heap (wB.alloc (.cells #[.int .i64 0, .int .i64 0, .int .i64 0, .int .i64 0, .int .u16 0, .slice none 0 0] TFrm)) wB.heap.size _ (frmC (frm0 0) (.slice ua (frm0 0).b.length uc)) _ _ rz
      have d0 : ((wB.alloc (.cells #[.int .i64 0, .int .i64 0, .int .i64 0, .int .i64 0, .int .u16 0, .slice none 0 0] TFrm)).setRow wB.heap.size (frmC (frm0 0) (.slice ua (frm0 0).b.length uc))).cell? ⟨wB.heap.size, 0, none⟩ = some (.int .i64 0) := cell_of_row _ _ 0 _ _ _ r10
      have d5 : ((wB.alloc (.cells #[.int .i64 0, .int .i64 0, .int .i64 0, .int .i64 0, .int .u16 0, .slice none 0 0] TFrm)).setRow wB.heap.size (frmC (frm0 0) (.slice ua (frm0 0).b.length uc))).cell? ⟨wB.heap.size, 5, none⟩ = some (.slice ua 0 uc) := cell_of_row _ _ 5 _ _ _ r10
      have x9 : Ext w ((wB.alloc (.cells #[.int .i64 0, .int .i64 0, .int .i64 0, .int .i64 0, .int .u16 0, .slice none 0 0] TFrm)).setRow wB.heap.size (frmC (frm0 0) (.slice ua (frm0 0).b.length uc))) := (xB.thenAlloc _).setRow xB.size _
      clear kFt ks hu r10
      go_wp2_with (first | refine storeFrm (m := frm0 0) (sa := ua) (sn := (frm0 0).b.length) (sc := uc) rz rfl rfl rfl rfl rfl ?_)
      go_ret
      exact ⟨rfl, x9⟩
    | some g =>
      simp only [Option.getD_some, Option.isSome_some, if_true] at hu ⊢
      have rz := heap_alloc_new wB (.cells #[.int .i64 0, .int .i64 0, .int .i64 0, .int .i64 0, .int .u16 0, .slice none 0 0] TFrm)
      have r10 := setRow_heap (wB.alloc (.cells #[.int .i64 0, .int .i64 0, .int .i64 0, .int .i64 0, .int .u16 0, .slice none 0 0] TFrm)) wB.heap.size _ (frmC g (.slice ua g.b.length uc)) _ _ rz
      have xC : Ext wB ((wB.alloc (.cells #[.int .i64 0, .int .i64 0, .int .i64 0, .int .i64 0, .int .u16 0, .slice none 0 0] TFrm)).setRow wB.heap.size (frmC g (.slice ua g.b.length uc))) := (Ext.alloc _ _).setRow (Nat.le_refl _) _
      have x3 := xB.trans xC
      have rC := xC.block rB
      have huC := hu.ext xC
      have hgl : g.b.length ≤ maxLen := by
        obtain ⟨hc, _⟩ := dec_back HP.out.2.1
        have := (chkF_facts hc).2.2.1
        unfold maxLen; omega
      have hgv : 0 ≤ g.v ∧ g.v < 65536 := by
        obtain ⟨_, h1, h2, _⟩ := dec_back HP.out.2.1
        exact ⟨h1, h2⟩
      have hltB : w.heap.size < wB.heap.size := (Array.getElem?_eq_some_iff.1 rB).1
      have d0 : (((wB.alloc (.cells #[.int .i64 0, .int .i64 0, .int .i64 0, .int .i64 0, .int .u16 0, .slice none 0 0] TFrm)).setRow wB.heap.size (frmC g (.slice ua g.b.length uc)))).cell? ⟨wB.heap.size, 0, none⟩ = some (.int .i64 g.k) := cell_of_row _ _ 0 _ _ _ r10
      have d1 : (((wB.alloc (.cells #[.int .i64 0, .int .i64 0, .int .i64 0, .int .i64 0, .int .u16 0, .slice none 0 0] TFrm)).setRow wB.heap.size (frmC g (.slice ua g.b.length uc)))).cell? ⟨wB.heap.size, 1, none⟩ = some (.int .i64 g.r) := cell_of_row _ _ 1 _ _ _ r10
      have d2 : (((wB.alloc (.cells #[.int .i64 0, .int .i64 0, .int .i64 0, .int .i64 0, .int .u16 0, .slice none 0 0] TFrm)).setRow wB.heap.size (frmC g (.slice ua g.b.length uc)))).cell? ⟨wB.heap.size, 2, none⟩ = some (.int .i64 g.s) := cell_of_row _ _ 2 _ _ _ r10
      have d3 : (((wB.alloc (.cells #[.int .i64 0, .int .i64 0, .int .i64 0, .int .i64 0, .int .u16 0, .slice none 0 0] TFrm)).setRow wB.heap.size (frmC g (.slice ua g.b.length uc)))).cell? ⟨wB.heap.size, 3, none⟩ = some (.int .i64 g.m) := cell_of_row _ _ 3 _ _ _ r10
      have d4 : (((wB.alloc (.cells #[.int .i64 0, .int .i64 0, .int .i64 0, .int .i64 0, .int .u16 0, .slice none 0 0] TFrm)).setRow wB.heap.size (frmC g (.slice ua g.b.length uc)))).cell? ⟨wB.heap.size, 4, none⟩ = some (.int .u16 g.v) := cell_of_row _ _ 4 _ _ _ r10
      have d5 : (((wB.alloc (.cells #[.int .i64 0, .int .i64 0, .int .i64 0, .int .i64 0, .int .u16 0, .slice none 0 0] TFrm)).setRow wB.heap.size (frmC g (.slice ua g.b.length uc)))).cell? ⟨wB.heap.size, 5, none⟩ = some (.slice ua g.b.length uc) := cell_of_row _ _ 5 _ _ _ r10
      have c0 : (((wB.alloc (.cells #[.int .i64 0, .int .i64 0, .int .i64 0, .int .i64 0, .int .u16 0, .slice none 0 0] TFrm)).setRow wB.heap.size (frmC g (.slice ua g.b.length uc)))).cell? ⟨w.heap.size, 0, none⟩ = some (.int .i64 f.k) := cell_of_row _ _ 0 _ _ _ rC
      have c1 : (((wB.alloc (.cells #[.int .i64 0, .int .i64 0, .int .i64 0, .int .i64 0, .int .u16 0, .slice none 0 0] TFrm)).setRow wB.heap.size (frmC g (.slice ua g.b.length uc)))).cell? ⟨w.heap.size, 1, none⟩ = some (.int .i64 f.r) := cell_of_row _ _ 1 _ _ _ rC
      have c2 : (((wB.alloc (.cells #[.int .i64 0, .int .i64 0, .int .i64 0, .int .i64 0, .int .u16 0, .slice none 0 0] TFrm)).setRow wB.heap.size (frmC g (.slice ua g.b.length uc)))).cell? ⟨w.heap.size, 2, none⟩ = some (.int .i64 f.s) := cell_of_row _ _ 2 _ _ _ rC
      have c3 : (((wB.alloc (.cells #[.int .i64 0, .int .i64 0, .int .i64 0, .int .i64 0, .int .u16 0, .slice none 0 0] TFrm)).setRow wB.heap.size (frmC g (.slice ua g.b.length uc)))).cell? ⟨w.heap.size, 3, none⟩ = some (.int .i64 f.m) := cell_of_row _ _ 3 _ _ _ rC
      have c4 : (((wB.alloc (.cells #[.int .i64 0, .int .i64 0, .int .i64 0, .int .i64 0, .int .u16 0, .slice none 0 0] TFrm)).setRow wB.heap.size (frmC g (.slice ua g.b.length uc)))).cell? ⟨w.heap.size, 4, none⟩ = some (.int .u16 f.v) := cell_of_row _ _ 4 _ _ _ rC
      have c5 : (((wB.alloc (.cells #[.int .i64 0, .int .i64 0, .int .i64 0, .int .i64 0, .int .u16 0, .slice none 0 0] TFrm)).setRow wB.heap.size (frmC g (.slice ua g.b.length uc)))).cell? ⟨w.heap.size, 5, none⟩ = some (.slice sa f.b.length sc) := cell_of_row _ _ 5 _ _ _ rC
      generalize hgenQ : ((wB.alloc (.cells #[.int .i64 0, .int .i64 0, .int .i64 0, .int .i64 0, .int .u16 0, .slice none 0 0] TFrm)).setRow wB.heap.size (frmC g (.slice ua g.b.length uc))) = VC at *
      have HGQ := Lib.hid hgenQ
      have HC := Lib.hid (And.intro x3 (And.intro huC (And.intro hgl (And.intro hgv hltB))))
      clear hu x3 huC hgl hgv hltB xC xB rB hgenQ
      by_cases hk1 : g.k = 1
      · have b1 : (g.k == 1) = true := by simpa using hk1
        have HK1 := Lib.hid hk1
        clear hk1
        go_wp2_with (first | refine storeFrm (m := g) (sa := ua) (sn := g.b.length) (sc := uc) rz rfl rfl rfl rfl rfl ?_; rw [HGQ.out])
        refine (kFt _ HC.out.1).mono ?_
        rintro e w4 ⟨rfl, h4⟩
        have x4 := HC.out.1.trans h4
        have r10' := h4.block r10
        have rC' := h4.block rC
        have hu4 := HC.out.2.1.ext h4
        clear kFt c0 c1 c2 c3 c4 c5 d0 d1 d2 d3 d4 d5 r10 rC h4 rz
        cases ft with
        | false =>
          have d40 : (w4).cell? ⟨wB.heap.size, 0, none⟩ = some (.int .i64 g.k) := cell_of_row _ _ 0 _ _ _ r10'
          have d41 : (w4).cell? ⟨wB.heap.size, 1, none⟩ = some (.int .i64 g.r) := cell_of_row _ _ 1 _ _ _ r10'
          have d42 : (w4).cell? ⟨wB.heap.size, 2, none⟩ = some (.int .i64 g.s) := cell_of_row _ _ 2 _ _ _ r10'
          have d43 : (w4).cell? ⟨wB.heap.size, 3, none⟩ = some (.int .i64 g.m) := cell_of_row _ _ 3 _ _ _ r10'
          have d44 : (w4).cell? ⟨wB.heap.size, 4, none⟩ = some (.int .u16 g.v) := cell_of_row _ _ 4 _ _ _ r10'
          have d45 : (w4).cell? ⟨wB.heap.size, 5, none⟩ = some (.slice ua g.b.length uc) := cell_of_row _ _ 5 _ _ _ r10'
          clear r10' rC' hu4 ks
          go_wp2_with fail
          go_ret
          exact ⟨rfl, x4⟩
        | true =>
          have d40 : (w4).cell? ⟨wB.heap.size, 0, none⟩ = some (.int .i64 g.k) := cell_of_row _ _ 0 _ _ _ r10'
          have d41 : (w4).cell? ⟨wB.heap.size, 1, none⟩ = some (.int .i64 g.r) := cell_of_row _ _ 1 _ _ _ r10'
          have d42 : (w4).cell? ⟨wB.heap.size, 2, none⟩ = some (.int .i64 g.s) := cell_of_row _ _ 2 _ _ _ r10'
          have d43 : (w4).cell? ⟨wB.heap.size, 3, none⟩ = some (.int .i64 g.m) := cell_of_row _ _ 3 _ _ _ r10'
          have d44 : (w4).cell? ⟨wB.heap.size, 4, none⟩ = some (.int .u16 g.v) := cell_of_row _ _ 4 _ _ _ r10'
          have d45 : (w4).cell? ⟨wB.heap.size, 5, none⟩ = some (.slice ua g.b.length uc) := cell_of_row _ _ 5 _ _ _ r10'
          have c40 : (w4).cell? ⟨w.heap.size, 0, none⟩ = some (.int .i64 f.k) := cell_of_row _ _ 0 _ _ _ rC'
          have c41 : (w4).cell? ⟨w.heap.size, 1, none⟩ = some (.int .i64 f.r) := cell_of_row _ _ 1 _ _ _ rC'
          have c42 : (w4).cell? ⟨w.heap.size, 2, none⟩ = some (.int .i64 f.s) := cell_of_row _ _ 2 _ _ _ rC'
          have c43 : (w4).cell? ⟨w.heap.size, 3, none⟩ = some (.int .i64 f.m) := cell_of_row _ _ 3 _ _ _ rC'
          have c44 : (w4).cell? ⟨w.heap.size, 4, none⟩ = some (.int .u16 f.v) := cell_of_row _ _ 4 _ _ _ rC'
          have c45 : (w4).cell? ⟨w.heap.size, 5, none⟩ = some (.slice sa f.b.length sc) := cell_of_row _ _ 5 _ _ _ rC'
          obtain ⟨s1, s2, s3⟩ := setC_row r10' f
          have x5 := s3 w x4 (by have := HC.out.2.2.2.2; omega)
          have z10 := fun j => frozen_of_row w4 wB.heap.size j _ _ r10'
          have hu5 := own_turn hu4 (own_type hu4 r10' (by decide)) s2
          have hb5 : Bys _ (slV (ua, g.b.length, uc)) g.b := hu5.bys HC.out.2.2.1
          have kE2 := frmEncode_calls (withC g f) (ua, g.b.length, uc) _ hb5 HV.out.2.1 HV.out.2.2.1
          rw [back_fit HP.out.2.1 HK1.out HP.out.1] at kE2
          unfold EncFPost slV at kE2
          simp only [Option.isSome_some, if_true, Option.getD_some] at kE2
          have HE2 := Lib.hid (And.intro kE2 (And.intro s1 (And.intro x5 ks)))
          clear hu4 r10' rC' hb5 hu5 s1 s2 s3 kE2 x4 x5 ks
          go_wp2_with fail
          refine HE2.out.1.mono ?_
          rintro e w6 ⟨u6, rfl, hu6, h6, -⟩
          have x6 := HE2.out.2.2.1.trans h6
          have ks := HE2.out.2.2.2
          have q1 := ks w6 _ _ (hu6.bys HP.out.2.2.2)
          have q2 := ks w6 _ _ (HV.out.2.2.2.1.ext x6)
          obtain ⟨a6, c6, rfl⟩ := hu6.slice
          clear hu6 h6 ks HE2 z10 d40 d41 d42 d43 d44 d45 c40 c41 c42 c43 c44 c45
          go_wp2_with fail
          go_ret
          exact ⟨rfl, x6⟩
      · have b1 : (g.k == 1) = false := by simpa using hk1
        have HK1 := Lib.hid hk1
        have hb5 : Bys VC (slV (ua, g.b.length, uc)) g.b := HC.out.2.1.bys HC.out.2.2.1
        have kE2 := frmEncode_calls g (ua, g.b.length, uc) _ hb5 HC.out.2.2.2.1.1 HC.out.2.2.2.1.2
        rw [back_enc HP.out.2.1 hk1] at kE2
        unfold EncFPost slV at kE2
        simp only [Option.isSome_some, if_true, Option.getD_some] at kE2
        have HE2 := Lib.hid (And.intro kE2 (And.intro r10 ks))
        clear hk1 kFt c0 c1 c2 c3 c4 c5 hb5 kE2 r10 ks rC
        go_wp2_with (first | refine storeFrm (m := g) (sa := ua) (sn := g.b.length) (sc := uc) rz rfl rfl rfl rfl rfl ?_; rw [HGQ.out])
        refine HE2.out.1.mono ?_
        rintro e w6 ⟨u6, rfl, hu6, h6, -⟩
        have ks := HE2.out.2.2
        have x6 := HC.out.1.trans h6
        have q1 := ks w6 _ _ (hu6.bys HP.out.2.2.2)
        have q2 := ks w6 _ _ (HV.out.2.2.2.1.ext x6)
        obtain ⟨a6, c6, rfl⟩ := hu6.slice
        clear HE2 hu6 h6 ks d0 d1 d2 d3 d4 d5 rz
        go_wp2_with fail
        go_ret
        exact ⟨rfl, x6⟩
  | some q =>
    obtain ⟨hdq, hql⟩ := HV.out.1 q rfl
    simp only [Option.getD_some, Option.isSome_some, if_true] at huE ⊢
    have hqb := huE.bys (by unfold maxLen; omega)
    obtain ⟨ea, ec, rfl⟩ := huE.slice
    have kDq := HK.out.1 _ q w2 hqb hql
    rw [hdq] at kDq
    simp only [Option.getD_some, Option.isSome_some, if_true] at kDq
    clear huE hqb hdq hql
    go_wp2_with fail
    refine kDq.mono ?_
    rintro e w3 ⟨u8, rfl, hu8, h3⟩
    have x3 := x2.trans h3
    have r3 := h3.block r2
    obtain ⟨ta, tc, rfl⟩ := hu8.slice
    have hs3 := x3.size
    have hlt3 : w.heap.size < w3.heap.size := (Array.getElem?_eq_some_iff.1 r3).1
    clear kDq h3 x2 r2
    have rz8 := heap_alloc_new w3 (.cells #[.int .i64 0, .int .i64 0, .int .i64 0, .int .i64 0, .int .u16 0, .slice none 0 0] TFrm)
    have r8 := setRow_heap (w3.alloc (.cells #[.int .i64 0, .int .i64 0, .int .i64 0, .int .i64 0, .int .u16 0, .slice none 0 0] TFrm)) w3.heap.size _ (frmC (noC f) (.slice ta (noC f).b.length tc)) _ _ rz8
    have xD : Ext w3 ((w3.alloc (.cells #[.int .i64 0, .int .i64 0, .int .i64 0, .int .i64 0, .int .u16 0, .slice none 0 0] TFrm)).setRow w3.heap.size (frmC (noC f) (.slice ta (noC f).b.length tc))) := (Ext.alloc _ _).setRow (Nat.le_refl _) _
    have x4 := x3.trans xD
    have r4 := xD.block r3
    have hu84 := hu8.ext xD
    have c0 : (((w3.alloc (.cells #[.int .i64 0, .int .i64 0, .int .i64 0, .int .i64 0, .int .u16 0, .slice none 0 0] TFrm)).setRow w3.heap.size (frmC (noC f) (.slice ta (noC f).b.length tc)))).cell? ⟨w.heap.size, 0, none⟩ = some (.int .i64 f.k) := cell_of_row _ _ 0 _ _ _ r4
    have c1 : (((w3.alloc (.cells #[.int .i64 0, .int .i64 0, .int .i64 0, .int .i64 0, .int .u16 0, .slice none 0 0] TFrm)).setRow w3.heap.size (frmC (noC f) (.slice ta (noC f).b.length tc)))).cell? ⟨w.heap.size, 1, none⟩ = some (.int .i64 f.r) := cell_of_row _ _ 1 _ _ _ r4
    have c2 : (((w3.alloc (.cells #[.int .i64 0, .int .i64 0, .int .i64 0, .int .i64 0, .int .u16 0, .slice none 0 0] TFrm)).setRow w3.heap.size (frmC (noC f) (.slice ta (noC f).b.length tc)))).cell? ⟨w.heap.size, 2, none⟩ = some (.int .i64 f.s) := cell_of_row _ _ 2 _ _ _ r4
    have c3 : (((w3.alloc (.cells #[.int .i64 0, .int .i64 0, .int .i64 0, .int .i64 0, .int .u16 0, .slice none 0 0] TFrm)).setRow w3.heap.size (frmC (noC f) (.slice ta (noC f).b.length tc)))).cell? ⟨w.heap.size, 3, none⟩ = some (.int .i64 f.m) := cell_of_row _ _ 3 _ _ _ r4
    have c4 : (((w3.alloc (.cells #[.int .i64 0, .int .i64 0, .int .i64 0, .int .i64 0, .int .u16 0, .slice none 0 0] TFrm)).setRow w3.heap.size (frmC (noC f) (.slice ta (noC f).b.length tc)))).cell? ⟨w.heap.size, 4, none⟩ = some (.int .u16 f.v) := cell_of_row _ _ 4 _ _ _ r4
    have c5 : (((w3.alloc (.cells #[.int .i64 0, .int .i64 0, .int .i64 0, .int .i64 0, .int .u16 0, .slice none 0 0] TFrm)).setRow w3.heap.size (frmC (noC f) (.slice ta (noC f).b.length tc)))).cell? ⟨w.heap.size, 5, none⟩ = some (.slice sa f.b.length sc) := cell_of_row _ _ 5 _ _ _ r4
    have hnb : (noC f).b = f.b := noC_b f
    have hnl : (noC f).b.length ≤ maxLen := by rw [hnb]; unfold maxLen; have := dA2; omega
    generalize hgen9 : ((w3.alloc (.cells #[.int .i64 0, .int .i64 0, .int .i64 0, .int .i64 0, .int .u16 0, .slice none 0 0] TFrm)).setRow w3.heap.size (frmC (noC f) (.slice ta (noC f).b.length tc))) = V8 at *
    have HG9 := Lib.hid hgen9
    have HN8 := Lib.hid (And.intro hnb (And.intro hnl (And.intro hs3 (And.intro hlt3 hu84))))
    clear hu8 xD x3 r3 hu84 hnb hnl hs3 hlt3 hgen9
    by_cases hk1 : f.k = 1
    · have b1 : (f.k == 1) = true := by simpa using hk1
      have HF1 := Lib.hid hk1
      obtain ⟨s1, s2, s3, s4⟩ := setC_rowS r8 f
      rw [withC_noC hk1] at s1
      have x5 := s3 w x4 HN8.out.2.2.1
      have r5 := (s2 w.heap.size (by have := HN8.out.2.2.2.1; omega)).trans r4
      have hu5 := own_turn HN8.out.2.2.2.2 (own_type HN8.out.2.2.2.2 r8 (by decide)) s2
      have hb5 := hu5.bys HN8.out.2.1
      have e90 : ((V8.setCells w3.heap.size 1 (cstL f).toList)).cell? ⟨w3.heap.size, 0, none⟩ = some (.int .i64 f.k) := cell_of_row _ _ 0 _ _ _ s1
      have e91 : ((V8.setCells w3.heap.size 1 (cstL f).toList)).cell? ⟨w3.heap.size, 1, none⟩ = some (.int .i64 f.r) := cell_of_row _ _ 1 _ _ _ s1
      have e92 : ((V8.setCells w3.heap.size 1 (cstL f).toList)).cell? ⟨w3.heap.size, 2, none⟩ = some (.int .i64 f.s) := cell_of_row _ _ 2 _ _ _ s1
      have e93 : ((V8.setCells w3.heap.size 1 (cstL f).toList)).cell? ⟨w3.heap.size, 3, none⟩ = some (.int .i64 f.m) := cell_of_row _ _ 3 _ _ _ s1
      have e94 : ((V8.setCells w3.heap.size 1 (cstL f).toList)).cell? ⟨w3.heap.size, 4, none⟩ = some (.int .u16 f.v) := cell_of_row _ _ 4 _ _ _ s1
      have e95 : ((V8.setCells w3.heap.size 1 (cstL f).toList)).cell? ⟨w3.heap.size, 5, none⟩ = some (.slice ta (noC f).b.length tc) := cell_of_row _ _ 5 _ _ _ s1
      have g90 : ((V8.setCells w3.heap.size 1 (cstL f).toList)).cell? ⟨w.heap.size, 0, none⟩ = some (.int .i64 f.k) := cell_of_row _ _ 0 _ _ _ r5
      have g91 : ((V8.setCells w3.heap.size 1 (cstL f).toList)).cell? ⟨w.heap.size, 1, none⟩ = some (.int .i64 f.r) := cell_of_row _ _ 1 _ _ _ r5
      have g92 : ((V8.setCells w3.heap.size 1 (cstL f).toList)).cell? ⟨w.heap.size, 2, none⟩ = some (.int .i64 f.s) := cell_of_row _ _ 2 _ _ _ r5
      have g93 : ((V8.setCells w3.heap.size 1 (cstL f).toList)).cell? ⟨w.heap.size, 3, none⟩ = some (.int .i64 f.m) := cell_of_row _ _ 3 _ _ _ r5
      have g94 : ((V8.setCells w3.heap.size 1 (cstL f).toList)).cell? ⟨w.heap.size, 4, none⟩ = some (.int .u16 f.v) := cell_of_row _ _ 4 _ _ _ r5
      have g95 : ((V8.setCells w3.heap.size 1 (cstL f).toList)).cell? ⟨w.heap.size, 5, none⟩ = some (.slice sa f.b.length sc) := cell_of_row _ _ 5 _ _ _ r5
      have kS := refFrameSame_calls f f (sa, f.b.length, sc) (ta, (noC f).b.length, tc) _ (HV.out.2.2.2.2.ext x5) (by unfold slV; have := hb5; rw [HN8.out.1] at this; rw [HN8.out.1]; exact this)
      rw [show sameF f f = true by unfold sameF; simp] at kS
      unfold slV at kS
      simp only at kS
      obtain ⟨V9, hgenS⟩ : ∃ V, V8.setCells w3.heap.size 1 (cstL f).toList = V := ⟨_, rfl⟩
      rw [hgenS] at kS x5 r5 e90 e91 e92 e93 e94 e95 g90 g91 g92 g93 g94 g95
      have HGS := Lib.hid hgenS
      have HE5 := Lib.hid (And.intro kS (And.intro x5 (And.intro r5 s4)))
      clear hk1 hu5 hb5 s1 s2 s3 s4 x4 r4 r5 x5 kS r8 hgenS
      go_wp2_with (first | (refine storeFrm (m := noC f) (sa := ta) (sn := (noC f).b.length) (sc := tc) rz8 rfl rfl rfl rfl rfl ?_; rw [HG9.out]) | (refine storeC w3.heap.size 1 46 45 f rfl rfl rfl rfl HE5.out.2.2.2 ?_; rw [HGS.out]))
      refine HE5.out.1.mono ?_
      rintro e w5 ⟨rfl, h5⟩
      have x2 := HE5.out.2.1.trans h5
      have r2 := h5.block HE5.out.2.2.1
      clear HE5 h5 rz8 c0 c1 c2 c3 c4 c5 e90 e91 e92 e93 e94 e95 g90 g91 g92 g93 g94 g95
      go_wp2_with fail
      -- the bytes that are handed in
      obtain ⟨-, kB, kFt, ks⟩ := HK.out
      refine (kB _ x2).mono ?_
      rintro e wB ⟨u, rfl, hu, hB⟩
      have xB := x2.trans hB
      have rB := hB.block r2
      obtain ⟨ua, uc, rfl⟩ := hu.slice
      clear kB hB r2
      cases d2 with
      | none =>
        have rz := heap_alloc_new wB (.cells #[.int .i64 0, .int .i64 0, .int .i64 0, .int .i64 0, .int .u16 0, .slice none 0 0] TFrm)
        simp only [Option.getD_none, Option.isSome_none, Bool.false_eq_true, if_false] at hu ⊢
        have r10 := setRow_heap (wB.alloc (.cells #[.int .i64 0, .int .i64 0, .int .i64 0, .int .i64 0, .int .u16 0, .slice none 0 0] TFrm)) wB.heap.size _ (frmC (frm0 0) (.slice ua (frm0 0).b.length uc)) _ _ rz
        have d0 : ((wB.alloc (.cells #[.int .i64 0, .int .i64 0, .int .i64 0, .int .i64 0, .int .u16 0, .slice none 0 0] TFrm)).setRow wB.heap.size (frmC (frm0 0) (.slice ua (frm0 0).b.length uc))).cell? ⟨wB.heap.size, 0, none⟩ = some (.int .i64 0) := cell_of_row _ _ 0 _ _ _ r10
        have d5 : ((wB.alloc (.cells #[.int .i64 0, .int .i64 0, .int .i64 0, .int .i64 0, .int .u16 0, .slice none 0 0] TFrm)).setRow wB.heap.size (frmC (frm0 0) (.slice ua (frm0 0).b.length uc))).cell? ⟨wB.heap.size, 5, none⟩ = some (.slice ua 0 uc) := cell_of_row _ _ 5 _ _ _ r10
        have x9 : Ext w ((wB.alloc (.cells #[.int .i64 0, .int .i64 0, .int .i64 0, .int .i64 0, .int .u16 0, .slice none 0 0] TFrm)).setRow wB.heap.size (frmC (frm0 0) (.slice ua (frm0 0).b.length uc))) := (xB.thenAlloc _).setRow xB.size _
        clear kFt ks hu r10
        go_wp2_with (first | refine storeFrm (m := frm0 0) (sa := ua) (sn := (frm0 0).b.length) (sc := uc) rz rfl rfl rfl rfl rfl ?_)
        go_ret
        exact ⟨rfl, x9⟩
      | some g =>
        simp only [Option.getD_some, Option.isSome_some, if_true] at hu ⊢
        have rz := heap_alloc_new wB (.cells #[.int .i64 0, .int .i64 0, .int .i64 0, .int .i64 0, .int .u16 0, .slice none 0 0] TFrm)
        have r10 := setRow_heap (wB.alloc (.cells #[.int .i64 0, .int .i64 0, .int .i64 0, .int .i64 0, .int .u16 0, .slice none 0 0] TFrm)) wB.heap.size _ (frmC g (.slice ua g.b.length uc)) _ _ rz
        have xC : Ext wB ((wB.alloc (.cells #[.int .i64 0, .int .i64 0, .int .i64 0, .int .i64 0, .int .u16 0, .slice none 0 0] TFrm)).setRow wB.heap.size (frmC g (.slice ua g.b.length uc))) := (Ext.alloc _ _).setRow (Nat.le_refl _) _
        have x3 := xB.trans xC
        have rC := xC.block rB
        have huC := hu.ext xC
        have hgl : g.b.length ≤ maxLen := by
          obtain ⟨hc, _⟩ := dec_back HP.out.2.1
          have := (chkF_facts hc).2.2.1
          unfold maxLen; omega
        have hgv : 0 ≤ g.v ∧ g.v < 65536 := by
          obtain ⟨_, h1, h2, _⟩ := dec_back HP.out.2.1
          exact ⟨h1, h2⟩
        have hltB : w.heap.size < wB.heap.size := (Array.getElem?_eq_some_iff.1 rB).1
        have d0 : (((wB.alloc (.cells #[.int .i64 0, .int .i64 0, .int .i64 0, .int .i64 0, .int .u16 0, .slice none 0 0] TFrm)).setRow wB.heap.size (frmC g (.slice ua g.b.length uc)))).cell? ⟨wB.heap.size, 0, none⟩ = some (.int .i64 g.k) := cell_of_row _ _ 0 _ _ _ r10
        have d1 : (((wB.alloc (.cells #[.int .i64 0, .int .i64 0, .int .i64 0, .int .i64 0, .int .u16 0, .slice none 0 0] TFrm)).setRow wB.heap.size (frmC g (.slice ua g.b.length uc)))).cell? ⟨wB.heap.size, 1, none⟩ = some (.int .i64 g.r) := cell_of_row _ _ 1 _ _ _ r10
        have d2 : (((wB.alloc (.cells #[.int .i64 0, .int .i64 0, .int .i64 0, .int .i64 0, .int .u16 0, .slice none 0 0] TFrm)).setRow wB.heap.size (frmC g (.slice ua g.b.length uc)))).cell? ⟨wB.heap.size, 2, none⟩ = some (.int .i64 g.s) := cell_of_row _ _ 2 _ _ _ r10
        have d3 : (((wB.alloc (.cells #[.int .i64 0, .int .i64 0, .int .i64 0, .int .i64 0, .int .u16 0, .slice none 0 0] TFrm)).setRow wB.heap.size (frmC g (.slice ua g.b.length uc)))).cell? ⟨wB.heap.size, 3, none⟩ = some (.int .i64 g.m) := cell_of_row _ _ 3 _ _ _ r10
        have d4 : (((wB.alloc (.cells #[.int .i64 0, .int .i64 0, .int .i64 0, .int .i64 0, .int .u16 0, .slice none 0 0] TFrm)).setRow wB.heap.size (frmC g (.slice ua g.b.length uc)))).cell? ⟨wB.heap.size, 4, none⟩ = some (.int .u16 g.v) := cell_of_row _ _ 4 _ _ _ r10
        have d5 : (((wB.alloc (.cells #[.int .i64 0, .int .i64 0, .int .i64 0, .int .i64 0, .int .u16 0, .slice none 0 0] TFrm)).setRow wB.heap.size (frmC g (.slice ua g.b.length uc)))).cell? ⟨wB.heap.size, 5, none⟩ = some (.slice ua g.b.length uc) := cell_of_row _ _ 5 _ _ _ r10
        have c0 : (((wB.alloc (.cells #[.int .i64 0, .int .i64 0, .int .i64 0, .int .i64 0, .int .u16 0, .slice none 0 0] TFrm)).setRow wB.heap.size (frmC g (.slice ua g.b.length uc)))).cell? ⟨w.heap.size, 0, none⟩ = some (.int .i64 f.k) := cell_of_row _ _ 0 _ _ _ rC
        have c1 : (((wB.alloc (.cells #[.int .i64 0, .int .i64 0, .int .i64 0, .int .i64 0, .int .u16 0, .slice none 0 0] TFrm)).setRow wB.heap.size (frmC g (.slice ua g.b.length uc)))).cell? ⟨w.heap.size, 1, none⟩ = some (.int .i64 f.r) := cell_of_row _ _ 1 _ _ _ rC
        have c2 : (((wB.alloc (.cells #[.int .i64 0, .int .i64 0, .int .i64 0, .int .i64 0, .int .u16 0, .slice none 0 0] TFrm)).setRow wB.heap.size (frmC g (.slice ua g.b.length uc)))).cell? ⟨w.heap.size, 2, none⟩ = some (.int .i64 f.s) := cell_of_row _ _ 2 _ _ _ rC
        have c3 : (((wB.alloc (.cells #[.int .i64 0, .int .i64 0, .int .i64 0, .int .i64 0, .int .u16 0, .slice none 0 0] TFrm)).setRow wB.heap.size (frmC g (.slice ua g.b.length uc)))).cell? ⟨w.heap.size, 3, none⟩ = some (.int .i64 f.m) := cell_of_row _ _ 3 _ _ _ rC
        have c4 : (((wB.alloc (.cells #[.int .i64 0, .int .i64 0, .int .i64 0, .int .i64 0, .int .u16 0, .slice none 0 0] TFrm)).setRow wB.heap.size (frmC g (.slice ua g.b.length uc)))).cell? ⟨w.heap.size, 4, none⟩ = some (.int .u16 f.v) := cell_of_row _ _ 4 _ _ _ rC
        have c5 : (((wB.alloc (.cells #[.int .i64 0, .int .i64 0, .int .i64 0, .int .i64 0, .int .u16 0, .slice none 0 0] TFrm)).setRow wB.heap.size (frmC g (.slice ua g.b.length uc)))).cell? ⟨w.heap.size, 5, none⟩ = some (.slice sa f.b.length sc) := cell_of_row _ _ 5 _ _ _ rC
        generalize hgenQ : ((wB.alloc (.cells #[.int .i64 0, .int .i64 0, .int .i64 0, .int .i64 0, .int .u16 0, .slice none 0 0] TFrm)).setRow wB.heap.size (frmC g (.slice ua g.b.length uc))) = VC at *
        have HGQ := Lib.hid hgenQ
        have HC := Lib.hid (And.intro x3 (And.intro huC (And.intro hgl (And.intro hgv hltB))))
        clear hu x3 huC hgl hgv hltB xC xB rB hgenQ
        by_cases hk1 : g.k = 1
        · have b1 : (g.k == 1) = true := by simpa using hk1
          have HK1 := Lib.hid hk1
          clear hk1
          go_wp2_with (first | refine storeFrm (m := g) (sa := ua) (sn := g.b.length) (sc := uc) rz rfl rfl rfl rfl rfl ?_; rw [HGQ.out])
          refine (kFt _ HC.out.1).mono ?_
          rintro e w4 ⟨rfl, h4⟩
          have x4 := HC.out.1.trans h4
          have r10' := h4.block r10
          have rC' := h4.block rC
          have hu4 := HC.out.2.1.ext h4
          clear kFt c0 c1 c2 c3 c4 c5 d0 d1 d2 d3 d4 d5 r10 rC h4 rz
          cases ft with
          | false =>
            have d40 : (w4).cell? ⟨wB.heap.size, 0, none⟩ = some (.int .i64 g.k) := cell_of_row _ _ 0 _ _ _ r10'
            have d41 : (w4).cell? ⟨wB.heap.size, 1, none⟩ = some (.int .i64 g.r) := cell_of_row _ _ 1 _ _ _ r10'
            have d42 : (w4).cell? ⟨wB.heap.size, 2, none⟩ = some (.int .i64 g.s) := cell_of_row _ _ 2 _ _ _ r10'
            have d43 : (w4).cell? ⟨wB.heap.size, 3, none⟩ = some (.int .i64 g.m) := cell_of_row _ _ 3 _ _ _ r10'
            have d44 : (w4).cell? ⟨wB.heap.size, 4, none⟩ = some (.int .u16 g.v) := cell_of_row _ _ 4 _ _ _ r10'
            have d45 : (w4).cell? ⟨wB.heap.size, 5, none⟩ = some (.slice ua g.b.length uc) := cell_of_row _ _ 5 _ _ _ r10'
            clear r10' rC' hu4 ks
            go_wp2_with fail
            go_ret
            exact ⟨rfl, x4⟩
          | true =>
            have d40 : (w4).cell? ⟨wB.heap.size, 0, none⟩ = some (.int .i64 g.k) := cell_of_row _ _ 0 _ _ _ r10'
            have d41 : (w4).cell? ⟨wB.heap.size, 1, none⟩ = some (.int .i64 g.r) := cell_of_row _ _ 1 _ _ _ r10'
            have d42 : (w4).cell? ⟨wB.heap.size, 2, none⟩ = some (.int .i64 g.s) := cell_of_row _ _ 2 _ _ _ r10'
            have d43 : (w4).cell? ⟨wB.heap.size, 3, none⟩ = some (.int .i64 g.m) := cell_of_row _ _ 3 _ _ _ r10'
            have d44 : (w4).cell? ⟨wB.heap.size, 4, none⟩ = some (.int .u16 g.v) := cell_of_row _ _ 4 _ _ _ r10'
            have d45 : (w4).cell? ⟨wB.heap.size, 5, none⟩ = some (.slice ua g.b.length uc) := cell_of_row _ _ 5 _ _ _ r10'
            have c40 : (w4).cell? ⟨w.heap.size, 0, none⟩ = some (.int .i64 f.k) := cell_of_row _ _ 0 _ _ _ rC'
            have c41 : (w4).cell? ⟨w.heap.size, 1, none⟩ = some (.int .i64 f.r) := cell_of_row _ _ 1 _ _ _ rC'
            have c42 : (w4).cell? ⟨w.heap.size, 2, none⟩ = some (.int .i64 f.s) := cell_of_row _ _ 2 _ _ _ rC'
            have c43 : (w4).cell? ⟨w.heap.size, 3, none⟩ = some (.int .i64 f.m) := cell_of_row _ _ 3 _ _ _ rC'
            have c44 : (w4).cell? ⟨w.heap.size, 4, none⟩ = some (.int .u16 f.v) := cell_of_row _ _ 4 _ _ _ rC'
            have c45 : (w4).cell? ⟨w.heap.size, 5, none⟩ = some (.slice sa f.b.length sc) := cell_of_row _ _ 5 _ _ _ rC'
            obtain ⟨s1, s2, s3⟩ := setC_row r10' f
            have x5 := s3 w x4 (by have := HC.out.2.2.2.2; omega)
            have z10 := fun j => frozen_of_row w4 wB.heap.size j _ _ r10'
            have hu5 := own_turn hu4 (own_type hu4 r10' (by decide)) s2
            have hb5 : Bys _ (slV (ua, g.b.length, uc)) g.b := hu5.bys HC.out.2.2.1
            have kE2 := frmEncode_calls (withC g f) (ua, g.b.length, uc) _ hb5 HV.out.2.1 HV.out.2.2.1
            rw [back_fit HP.out.2.1 HK1.out HP.out.1] at kE2
            unfold EncFPost slV at kE2
            simp only [Option.isSome_some, if_true, Option.getD_some] at kE2
            have HE2 := Lib.hid (And.intro kE2 (And.intro s1 (And.intro x5 ks)))
            clear hu4 r10' rC' hb5 hu5 s1 s2 s3 kE2 x4 x5 ks
            go_wp2_with fail
            refine HE2.out.1.mono ?_
            rintro e w6 ⟨u6, rfl, hu6, h6, -⟩
            have x6 := HE2.out.2.2.1.trans h6
            have ks := HE2.out.2.2.2
            have q1 := ks w6 _ _ (hu6.bys HP.out.2.2.2)
            have q2 := ks w6 _ _ (HV.out.2.2.2.1.ext x6)
            obtain ⟨a6, c6, rfl⟩ := hu6.slice
            clear hu6 h6 ks HE2 z10 d40 d41 d42 d43 d44 d45 c40 c41 c42 c43 c44 c45
            go_wp2_with fail
            go_ret
            exact ⟨rfl, x6⟩
        · have b1 : (g.k == 1) = false := by simpa using hk1
          have HK1 := Lib.hid hk1
          have hb5 : Bys VC (slV (ua, g.b.length, uc)) g.b := HC.out.2.1.bys HC.out.2.2.1
          have kE2 := frmEncode_calls g (ua, g.b.length, uc) _ hb5 HC.out.2.2.2.1.1 HC.out.2.2.2.1.2
          rw [back_enc HP.out.2.1 hk1] at kE2
          unfold EncFPost slV at kE2
          simp only [Option.isSome_some, if_true, Option.getD_some] at kE2
          have HE2 := Lib.hid (And.intro kE2 (And.intro r10 ks))
          clear hk1 kFt c0 c1 c2 c3 c4 c5 hb5 kE2 r10 ks rC
          go_wp2_with (first | refine storeFrm (m := g) (sa := ua) (sn := g.b.length) (sc := uc) rz rfl rfl rfl rfl rfl ?_; rw [HGQ.out])
          refine HE2.out.1.mono ?_
          rintro e w6 ⟨u6, rfl, hu6, h6, -⟩
          have ks := HE2.out.2.2
          have x6 := HC.out.1.trans h6
          have q1 := ks w6 _ _ (hu6.bys HP.out.2.2.2)
          have q2 := ks w6 _ _ (HV.out.2.2.2.1.ext x6)
          obtain ⟨a6, c6, rfl⟩ := hu6.slice
          clear HE2 hu6 h6 ks d0 d1 d2 d3 d4 d5 rz
          go_wp2_with fail
          go_ret
          exact ⟨rfl, x6⟩
    · have b1 : (f.k == 1) = false := by simpa using hk1
      have hnf : noC f = f := by unfold noC; rw [if_neg hk1]
      have hb5 := HN8.out.2.2.2.2.bys HN8.out.2.1
      have kS := refFrameSame_calls f (noC f) (sa, f.b.length, sc) (ta, (noC f).b.length, tc) _ (HV.out.2.2.2.2.ext x4) hb5
      rw [show sameF f (noC f) = true by rw [hnf]; unfold sameF; simp] at kS
      unfold slV at kS
      simp only at kS
      have f0 : (V8).cell? ⟨w3.heap.size, 0, none⟩ = some (.int .i64 (noC f).k) := cell_of_row _ _ 0 _ _ _ r8
      have f1 : (V8).cell? ⟨w3.heap.size, 1, none⟩ = some (.int .i64 (noC f).r) := cell_of_row _ _ 1 _ _ _ r8
      have f2 : (V8).cell? ⟨w3.heap.size, 2, none⟩ = some (.int .i64 (noC f).s) := cell_of_row _ _ 2 _ _ _ r8
      have f3 : (V8).cell? ⟨w3.heap.size, 3, none⟩ = some (.int .i64 (noC f).m) := cell_of_row _ _ 3 _ _ _ r8
      have f4 : (V8).cell? ⟨w3.heap.size, 4, none⟩ = some (.int .u16 (noC f).v) := cell_of_row _ _ 4 _ _ _ r8
      have f5 : (V8).cell? ⟨w3.heap.size, 5, none⟩ = some (.slice ta (noC f).b.length tc) := cell_of_row _ _ 5 _ _ _ r8
      have HE5 := Lib.hid (And.intro kS (And.intro x4 r4))
      clear hk1 hb5 hnf kS x4 r4 r8
      go_wp2_with (first | refine storeFrm (m := noC f) (sa := ta) (sn := (noC f).b.length) (sc := tc) rz8 rfl rfl rfl rfl rfl ?_; rw [HG9.out])
      refine HE5.out.1.mono ?_
      rintro e w5 ⟨rfl, h5⟩
      have x2 := HE5.out.2.1.trans h5
      have r2 := h5.block HE5.out.2.2
      clear HE5 h5 rz8 c0 c1 c2 c3 c4 c5 f0 f1 f2 f3 f4 f5
      go_wp2_with fail
      -- the bytes that are handed in
      obtain ⟨-, kB, kFt, ks⟩ := HK.out
      refine (kB _ x2).mono ?_
      rintro e wB ⟨u, rfl, hu, hB⟩
      have xB := x2.trans hB
      have rB := hB.block r2
      obtain ⟨ua, uc, rfl⟩ := hu.slice
      clear kB hB r2
      cases d2 with
      | none =>
        have rz := heap_alloc_new wB (.cells #[.int .i64 0, .int .i64 0, .int .i64 0, .int .i64 0, .int .u16 0, .slice none 0 0] TFrm)
        simp only [Option.getD_none, Option.isSome_none, Bool.false_eq_true, if_false] at hu ⊢
        have r10 := setRow_heap (wB.alloc (.cells #[.int .i64 0, .int .i64 0, .int .i64 0, .int .i64 0, .int .u16 0, .slice none 0 0] TFrm)) wB.heap.size _ (frmC (frm0 0) (.slice ua (frm0 0).b.length uc)) _ _ rz
        have d0 : ((wB.alloc (.cells #[.int .i64 0, .int .i64 0, .int .i64 0, .int .i64 0, .int .u16 0, .slice none 0 0] TFrm)).setRow wB.heap.size (frmC (frm0 0) (.slice ua (frm0 0).b.length uc))).cell? ⟨wB.heap.size, 0, none⟩ = some (.int .i64 0) := cell_of_row _ _ 0 _ _ _ r10
        have d5 : ((wB.alloc (.cells #[.int .i64 0, .int .i64 0, .int .i64 0, .int .i64 0, .int .u16 0, .slice none 0 0] TFrm)).setRow wB.heap.size (frmC (frm0 0) (.slice ua (frm0 0).b.length uc))).cell? ⟨wB.heap.size, 5, none⟩ = some (.slice ua 0 uc) := cell_of_row _ _ 5 _ _ _ r10
        have x9 : Ext w ((wB.alloc (.cells #[.int .i64 0, .int .i64 0, .int .i64 0, .int .i64 0, .int .u16 0, .slice none 0 0] TFrm)).setRow wB.heap.size (frmC (frm0 0) (.slice ua (frm0 0).b.length uc))) := (xB.thenAlloc _).setRow xB.size _
        clear kFt ks hu r10
        go_wp2_with (first | refine storeFrm (m := frm0 0) (sa := ua) (sn := (frm0 0).b.length) (sc := uc) rz rfl rfl rfl rfl rfl ?_)
        go_ret
        exact ⟨rfl, x9⟩
      | some g =>
        simp only [Option.getD_some, Option.isSome_some, if_true] at hu ⊢
        have rz := heap_alloc_new wB (.cells #[.int .i64 0, .int .i64 0, .int .i64 0, .int .i64 0, .int .u16 0, .slice none 0 0] TFrm)
        have r10 := setRow_heap (wB.alloc (.cells #[.int .i64 0, .int .i64 0, .int .i64 0, .int .i64 0, .int .u16 0, .slice none 0 0] TFrm)) wB.heap.size _ (frmC g (.slice ua g.b.length uc)) _ _ rz
        have xC : Ext wB ((wB.alloc (.cells #[.int .i64 0, .int .i64 0, .int .i64 0, .int .i64 0, .int .u16 0, .slice none 0 0] TFrm)).setRow wB.heap.size (frmC g (.slice ua g.b.length uc))) := (Ext.alloc _ _).setRow (Nat.le_refl _) _
        have x3 := xB.trans xC
        have rC := xC.block rB
        have huC := hu.ext xC
        have hgl : g.b.length ≤ maxLen := by
          obtain ⟨hc, _⟩ := dec_back HP.out.2.1
          have := (chkF_facts hc).2.2.1
          unfold maxLen; omega
        have hgv : 0 ≤ g.v ∧ g.v < 65536 := by
          obtain ⟨_, h1, h2, _⟩ := dec_back HP.out.2.1
          exact ⟨h1, h2⟩
        have hltB : w.heap.size < wB.heap.size := (Array.getElem?_eq_some_iff.1 rB).1
        have d0 : (((wB.alloc (.cells #[.int .i64 0, .int .i64 0, .int .i64 0, .int .i64 0, .int .u16 0, .slice none 0 0] TFrm)).setRow wB.heap.size (frmC g (.slice ua g.b.length uc)))).cell? ⟨wB.heap.size, 0, none⟩ = some (.int .i64 g.k) := cell_of_row _ _ 0 _ _ _ r10
        have d1 : (((wB.alloc (.cells #[.int .i64 0, .int .i64 0, .int .i64 0, .int .i64 0, .int .u16 0, .slice none 0 0] TFrm)).setRow wB.heap.size (frmC g (.slice ua g.b.length uc)))).cell? ⟨wB.heap.size, 1, none⟩ = some (.int .i64 g.r) := cell_of_row _ _ 1 _ _ _ r10
        have d2 : (((wB.alloc (.cells #[.int .i64 0, .int .i64 0, .int .i64 0, .int .i64 0, .int .u16 0, .slice none 0 0] TFrm)).setRow wB.heap.size (frmC g (.slice ua g.b.length uc)))).cell? ⟨wB.heap.size, 2, none⟩ = some (.int .i64 g.s) := cell_of_row _ _ 2 _ _ _ r10
        have d3 : (((wB.alloc (.cells #[.int .i64 0, .int .i64 0, .int .i64 0, .int .i64 0, .int .u16 0, .slice none 0 0] TFrm)).setRow wB.heap.size (frmC g (.slice ua g.b.length uc)))).cell? ⟨wB.heap.size, 3, none⟩ = some (.int .i64 g.m) := cell_of_row _ _ 3 _ _ _ r10
        have d4 : (((wB.alloc (.cells #[.int .i64 0, .int .i64 0, .int .i64 0, .int .i64 0, .int .u16 0, .slice none 0 0] TFrm)).setRow wB.heap.size (frmC g (.slice ua g.b.length uc)))).cell? ⟨wB.heap.size, 4, none⟩ = some (.int .u16 g.v) := cell_of_row _ _ 4 _ _ _ r10
        have d5 : (((wB.alloc (.cells #[.int .i64 0, .int .i64 0, .int .i64 0, .int .i64 0, .int .u16 0, .slice none 0 0] TFrm)).setRow wB.heap.size (frmC g (.slice ua g.b.length uc)))).cell? ⟨wB.heap.size, 5, none⟩ = some (.slice ua g.b.length uc) := cell_of_row _ _ 5 _ _ _ r10
        have c0 : (((wB.alloc (.cells #[.int .i64 0, .int .i64 0, .int .i64 0, .int .i64 0, .int .u16 0, .slice none 0 0] TFrm)).setRow wB.heap.size (frmC g (.slice ua g.b.length uc)))).cell? ⟨w.heap.size, 0, none⟩ = some (.int .i64 f.k) := cell_of_row _ _ 0 _ _ _ rC
        have c1 : (((wB.alloc (.cells #[.int .i64 0, .int .i64 0, .int .i64 0, .int .i64 0, .int .u16 0, .slice none 0 0] TFrm)).setRow wB.heap.size (frmC g (.slice ua g.b.length uc)))).cell? ⟨w.heap.size, 1, none⟩ = some (.int .i64 f.r) := cell_of_row _ _ 1 _ _ _ rC
        have c2 : (((wB.alloc (.cells #[.int .i64 0, .int .i64 0, .int .i64 0, .int .i64 0, .int .u16 0, .slice none 0 0] TFrm)).setRow wB.heap.size (frmC g (.slice ua g.b.length uc)))).cell? ⟨w.heap.size, 2, none⟩ = some (.int .i64 f.s) := cell_of_row _ _ 2 _ _ _ rC
        have c3 : (((wB.alloc (.cells #[.int .i64 0, .int .i64 0, .int .i64 0, .int .i64 0, .int .u16 0, .slice none 0 0] TFrm)).setRow wB.heap.size (frmC g (.slice ua g.b.length uc)))).cell? ⟨w.heap.size, 3, none⟩ = some (.int .i64 f.m) := cell_of_row _ _ 3 _ _ _ rC
        have c4 : (((wB.alloc (.cells #[.int .i64 0, .int .i64 0, .int .i64 0, .int .i64 0, .int .u16 0, .slice none 0 0] TFrm)).setRow wB.heap.size (frmC g (.slice ua g.b.length uc)))).cell? ⟨w.heap.size, 4, none⟩ = some (.int .u16 f.v) := cell_of_row _ _ 4 _ _ _ rC
        have c5 : (((wB.alloc (.cells #[.int .i64 0, .int .i64 0, .int .i64 0, .int .i64 0, .int .u16 0, .slice none 0 0] TFrm)).setRow wB.heap.size (frmC g (.slice ua g.b.length uc)))).cell? ⟨w.heap.size, 5, none⟩ = some (.slice sa f.b.length sc) := cell_of_row _ _ 5 _ _ _ rC
        generalize hgenQ : ((wB.alloc (.cells #[.int .i64 0, .int .i64 0, .int .i64 0, .int .i64 0, .int .u16 0, .slice none 0 0] TFrm)).setRow wB.heap.size (frmC g (.slice ua g.b.length uc))) = VC at *
        have HGQ := Lib.hid hgenQ
        have HC := Lib.hid (And.intro x3 (And.intro huC (And.intro hgl (And.intro hgv hltB))))
        clear hu x3 huC hgl hgv hltB xC xB rB hgenQ
        by_cases hk1 : g.k = 1
        · have b1 : (g.k == 1) = true := by simpa using hk1
          have HK1 := Lib.hid hk1
          clear hk1
          go_wp2_with (first | refine storeFrm (m := g) (sa := ua) (sn := g.b.length) (sc := uc) rz rfl rfl rfl rfl rfl ?_; rw [HGQ.out])
          refine (kFt _ HC.out.1).mono ?_
          rintro e w4 ⟨rfl, h4⟩
          have x4 := HC.out.1.trans h4
          have r10' := h4.block r10
          have rC' := h4.block rC
          have hu4 := HC.out.2.1.ext h4
          clear kFt c0 c1 c2 c3 c4 c5 d0 d1 d2 d3 d4 d5 r10 rC h4 rz
          cases ft with
          | false =>
            have d40 : (w4).cell? ⟨wB.heap.size, 0, none⟩ = some (.int .i64 g.k) := cell_of_row _ _ 0 _ _ _ r10'
            have d41 : (w4).cell? ⟨wB.heap.size, 1, none⟩ = some (.int .i64 g.r) := cell_of_row _ _ 1 _ _ _ r10'
            have d42 : (w4).cell? ⟨wB.heap.size, 2, none⟩ = some (.int .i64 g.s) := cell_of_row _ _ 2 _ _ _ r10'
            have d43 : (w4).cell? ⟨wB.heap.size, 3, none⟩ = some (.int .i64 g.m) := cell_of_row _ _ 3 _ _ _ r10'
            have d44 : (w4).cell? ⟨wB.heap.size, 4, none⟩ = some (.int .u16 g.v) := cell_of_row _ _ 4 _ _ _ r10'
            have d45 : (w4).cell? ⟨wB.heap.size, 5, none⟩ = some (.slice ua g.b.length uc) := cell_of_row _ _ 5 _ _ _ r10'
            clear r10' rC' hu4 ks
            go_wp2_with fail
            go_ret
            exact ⟨rfl, x4⟩
          | true =>
            have d40 : (w4).cell? ⟨wB.heap.size, 0, none⟩ = some (.int .i64 g.k) := cell_of_row _ _ 0 _ _ _ r10'
            have d41 : (w4).cell? ⟨wB.heap.size, 1, none⟩ = some (.int .i64 g.r) := cell_of_row _ _ 1 _ _ _ r10'
            have d42 : (w4).cell? ⟨wB.heap.size, 2, none⟩ = some (.int .i64 g.s) := cell_of_row _ _ 2 _ _ _ r10'
            have d43 : (w4).cell? ⟨wB.heap.size, 3, none⟩ = some (.int .i64 g.m) := cell_of_row _ _ 3 _ _ _ r10'
            have d44 : (w4).cell? ⟨wB.heap.size, 4, none⟩ = some (.int .u16 g.v) := cell_of_row _ _ 4 _ _ _ r10'
            have d45 : (w4).cell? ⟨wB.heap.size, 5, none⟩ = some (.slice ua g.b.length uc) := cell_of_row _ _ 5 _ _ _ r10'
            have c40 : (w4).cell? ⟨w.heap.size, 0, none⟩ = some (.int .i64 f.k) := cell_of_row _ _ 0 _ _ _ rC'
            have c41 : (w4).cell? ⟨w.heap.size, 1, none⟩ = some (.int .i64 f.r) := cell_of_row _ _ 1 _ _ _ rC'
            have c42 : (w4).cell? ⟨w.heap.size, 2, none⟩ = some (.int .i64 f.s) := cell_of_row _ _ 2 _ _ _ rC'
            have c43 : (w4).cell? ⟨w.heap.size, 3, none⟩ = some (.int .i64 f.m) := cell_of_row _ _ 3 _ _ _ rC'
            have c44 : (w4).cell? ⟨w.heap.size, 4, none⟩ = some (.int .u16 f.v) := cell_of_row _ _ 4 _ _ _ rC'
            have c45 : (w4).cell? ⟨w.heap.size, 5, none⟩ = some (.slice sa f.b.length sc) := cell_of_row _ _ 5 _ _ _ rC'
            obtain ⟨s1, s2, s3⟩ := setC_row r10' f
            have x5 := s3 w x4 (by have := HC.out.2.2.2.2; omega)
            have z10 := fun j => frozen_of_row w4 wB.heap.size j _ _ r10'
            have hu5 := own_turn hu4 (own_type hu4 r10' (by decide)) s2
            have hb5 : Bys _ (slV (ua, g.b.length, uc)) g.b := hu5.bys HC.out.2.2.1
            have kE2 := frmEncode_calls (withC g f) (ua, g.b.length, uc) _ hb5 HV.out.2.1 HV.out.2.2.1
            rw [back_fit HP.out.2.1 HK1.out HP.out.1] at kE2
            unfold EncFPost slV at kE2
            simp only [Option.isSome_some, if_true, Option.getD_some] at kE2
            have HE2 := Lib.hid (And.intro kE2 (And.intro s1 (And.intro x5 ks)))
            clear hu4 r10' rC' hb5 hu5 s1 s2 s3 kE2 x4 x5 ks
            go_wp2_with fail
            refine HE2.out.1.mono ?_
            rintro e w6 ⟨u6, rfl, hu6, h6, -⟩
            have x6 := HE2.out.2.2.1.trans h6
            have ks := HE2.out.2.2.2
            have q1 := ks w6 _ _ (hu6.bys HP.out.2.2.2)
            have q2 := ks w6 _ _ (HV.out.2.2.2.1.ext x6)
            obtain ⟨a6, c6, rfl⟩ := hu6.slice
            clear hu6 h6 ks HE2 z10 d40 d41 d42 d43 d44 d45 c40 c41 c42 c43 c44 c45
            go_wp2_with fail
            go_ret
            exact ⟨rfl, x6⟩
        · have b1 : (g.k == 1) = false := by simpa using hk1
          have HK1 := Lib.hid hk1
          have hb5 : Bys VC (slV (ua, g.b.length, uc)) g.b := HC.out.2.1.bys HC.out.2.2.1
          have kE2 := frmEncode_calls g (ua, g.b.length, uc) _ hb5 HC.out.2.2.2.1.1 HC.out.2.2.2.1.2
          rw [back_enc HP.out.2.1 hk1] at kE2
          unfold EncFPost slV at kE2
          simp only [Option.isSome_some, if_true, Option.getD_some] at kE2
          have HE2 := Lib.hid (And.intro kE2 (And.intro r10 ks))
          clear hk1 kFt c0 c1 c2 c3 c4 c5 hb5 kE2 r10 ks rC
          go_wp2_with (first | refine storeFrm (m := g) (sa := ua) (sn := g.b.length) (sc := uc) rz rfl rfl rfl rfl rfl ?_; rw [HGQ.out])
          refine HE2.out.1.mono ?_
          rintro e w6 ⟨u6, rfl, hu6, h6, -⟩
          have ks := HE2.out.2.2
          have x6 := HC.out.1.trans h6
          have q1 := ks w6 _ _ (hu6.bys HP.out.2.2.2)
          have q2 := ks w6 _ _ (HV.out.2.2.2.1.ext x6)
          obtain ⟨a6, c6, rfl⟩ := hu6.slice
          clear HE2 hu6 h6 ks d0 d1 d2 d3 d4 d5 rz
          go_wp2_with fail
          go_ret
          exact ⟨rfl, x6⟩
end Go.Proofs.Ytfjjgceagpcfkaa.VSta
