/- frame.Decode. -/
import Derived.Test.YtcdaelgnankmfaaVFrmO
namespace Go.Proofs.Ytcdaelgnankmfaa.VSta
open Go.RowKit Go.VBase Go.VRg Go.VSeq Go.VOct VOct VCst Go.Proofs.Ytcdaelgnankmfaa.VCrc _root_.Go.VCrc VMsg

def DecFPost (x : Option FrmD) (w : World) (e : Ending) (w' : World) : Prop :=
  ∃ u, e = .returned (.tuple #[.agg (frmC (x.getD (frm0 0)) u), .int .i64 (if x.isSome then 0 else 50)]) ∧ OwnB w' w.heap.size TB u (x.getD (frm0 0)).b ∧ Ext w w'
theorem loadFrm {ops : Array Oper} {rest : List Oper} {o : Oper} {a : Act} {Q : Exit → Act → World → Prop} {W : World} {t : Tmp} {b : Nat} {T' : TypeId} {mk : Nat × Nat} {x : FrmD} {u : Value}
    (h : W.heap[b]? = some (.cells (frmC x u) T' mk)) (hw : Region.wanted o (yielded ops a.tmps) = true) (ho : o.op = .load 28 (.tmp t)) (hx : a.eval (.tmp t) = .pointer (some ⟨b, 0, none⟩))
    (hk : wpList Try.prog ops Q rest (a.put o.dst (.agg (frmC x u))) W) : wpList Try.prog ops Q (o :: rest) a W :=
  wpList_step fun K hK => by
    simp only [hw, if_true]
    exact wp_load_row _ _ ho _ hx _ _ _ _ h Try.underlying28 rfl (by kernel_rfl) (hK _ _ hk)

set_option maxRecDepth 100000 in
set_option maxHeartbeats 4000000 in
theorem frmDecode_calls (v : Value) (l : List UInt8) (w : World) (hv : Bys w v l) (hl : l.length ≤ 100000) : Calls Try.prog 35 #[v] w (DecFPost (decF l) w) := by
  have kF := fun W h => form_calls v l W h hl
  have kO := fun W h => Open_calls v l W h (by omega)
  unfold FormPost at kF
  unfold OpenPost at kO
  obtain ⟨X, hX⟩ : ∃ X, decF l = X := ⟨_, rfl⟩
  rw [hX]
  have hXe : X = if (formF l).2 && ((formF l).1.k == 1 || (openB l).isSome) then some (formF l).1 else none := hX.symm
  rcases hq : formF l with ⟨f, is⟩
  rw [hq] at hXe kF
  simp only at hXe kF
  clear hX hq
  obtain ⟨o, ho⟩ : ∃ o, openB l = o := ⟨_, rfl⟩
  rw [ho] at hXe kO
  clear ho
  have HX := Lib.hid hXe
  clear hXe
  have x0 := Ext.alloc w (.cells (frmC (frm0 0) (.slice none 0 0)) TFrm)
  have r0 := heap_alloc_new w (.cells (frmC (frm0 0) (.slice none 0 0)) TFrm)
  have hst0 : frmC (frm0 0) (.slice none 0 0) = #[.int .i64 0, .int .i64 0, .int .i64 0, .int .i64 0, .int .u16 0, .slice none 0 0] := rfl
  obtain ⟨va, vc, rfl⟩ : ∃ a c, v = .slice a l.length c := by obtain ⟨a, c, h, _⟩ := hv; exact ⟨a, c, h⟩
  have hv0 := hv.ext x0
  rw [hst0] at x0 r0 hv0
  have HV := Lib.hid hv
  clear hv
  go_enter Try.func35, Try.ntmps35
  go_wp2_with fail
  refine (kF _ hv0).mono ?_
  rintro e w1 ⟨u, rfl, hu, h1⟩
  have x1 := x0.trans h1
  have r1 := h1.block r0
  have hu1 := hu.mono (show w.heap.size ≤ _ by simp)
  obtain ⟨ua, uc, rfl⟩ := hu.slice
  clear kF hv0 x0 r0 h1 hu
  have rz := heap_alloc_new w1 (.cells #[.int .i64 0, .int .i64 0, .int .i64 0, .int .i64 0, .int .u16 0, .slice none 0 0] TFrm)
  have r4 := setRow_heap (w1.alloc (.cells #[.int .i64 0, .int .i64 0, .int .i64 0, .int .i64 0, .int .u16 0, .slice none 0 0] TFrm)) w1.heap.size _ (frmC f (.slice ua f.b.length uc)) _ _ rz
  have x4 : Ext w1 ((w1.alloc (.cells #[.int .i64 0, .int .i64 0, .int .i64 0, .int .i64 0, .int .u16 0, .slice none 0 0] TFrm)).setRow w1.heap.size (frmC f (.slice ua f.b.length uc))) := (Ext.alloc _ _).setRow (Nat.le_refl _) _
  have c4 := cell_of_row _ _ 0 _ _ _ r4
  have hlt : w.heap.size < w1.heap.size := (Array.getElem?_eq_some_iff.1 r1).1
  have r1n := x4.block r1
  have x5 := x1.trans x4
  have hu4 := hu1.ext x4
  have hne : w.heap.size ≠ w1.heap.size := by omega
  have HU := Lib.hid (And.intro hu4 (And.intro x5 hl))
  clear r1 x1 hu1 x4 hu4 x5 hlt hst0
  obtain ⟨k1, hk1⟩ : ∃ k, (f.k == 1) = k := ⟨_, rfl⟩
  rw [hk1] at HX
  have c40 : ((w1.alloc (.cells #[.int .i64 0, .int .i64 0, .int .i64 0, .int .i64 0, .int .u16 0, .slice none 0 0] TFrm)).setRow w1.heap.size (frmC f (.slice ua f.b.length uc))).cell? ⟨w1.heap.size, 0, none⟩ = some (.int .i64 f.k) := c4
  clear c4
  -- the answers
  have fin0 : ∀ (W : World), X = none → Ext w W → W.heap[w.heap.size]? = some (.cells #[.int .i64 0, .int .i64 0, .int .i64 0, .int .i64 0, .int .u16 0, .slice none 0 0] TFrm) → DecFPost X w (.returned (.tuple #[.agg (frmC (frm0 0) (.slice none 0 0)), .int .i64 50])) (W.setRow w.heap.size (frmC (frm0 0) (.slice none 0 0))) := fun W hx hxw _ => by
    rw [hx]
    exact ⟨.slice none 0 0, rfl, OwnB.nil _ _ _, hxw.setRow (Nat.le_refl _) _⟩
  have fin1 : ∀ (W : World), X = some f → Ext w W → OwnB W w.heap.size TB (.slice ua f.b.length uc) f.b → W.heap[w.heap.size]? = some (.cells #[.int .i64 0, .int .i64 0, .int .i64 0, .int .i64 0, .int .u16 0, .slice none 0 0] TFrm) → DecFPost X w (.returned (.tuple #[.agg (frmC f (.slice ua f.b.length uc)), .int .i64 0])) (W.setRow w.heap.size (frmC f (.slice ua f.b.length uc))) := fun W hx hxw hv hr => by
    rw [hx]
    exact ⟨_, rfl, own_turn hv (own_type hv hr (by decide)) (fun k hk => setRow_other _ _ _ _ hk), hxw.setRow (Nat.le_refl _) _⟩
  have HF := Lib.hid (And.intro fin0 fin1)
  clear fin0 fin1
  cases is with
  | false =>
    have hx : X = none := by rw [HX.out]; rfl
    have HXN := Lib.hid hx
    clear hx kO
    go_wp2_with (first | refine storeFrm (m := f) (sa := ua) (sn := f.b.length) (sc := uc) rz rfl rfl rfl rfl rfl ?_ | refine storeFrm (m := frm0 0) (sa := none) (sn := 0) (sc := 0) r1n rfl rfl rfl rfl rfl ?_)
    have rd := setRow_heap ((w1.alloc (.cells #[.int .i64 0, .int .i64 0, .int .i64 0, .int .i64 0, .int .u16 0, .slice none 0 0] TFrm)).setRow w1.heap.size (frmC f (.slice ua f.b.length uc))) w.heap.size _ (frmC (frm0 0) (.slice none 0 0)) _ _ r1n
    refine bodyPost_ret (results_row_tmp rfl _ _ w.heap.size _ _ _ _ (by rfl) rd Try.underlying28 rfl (by kernel_rfl)) rfl ?_
    exact HF.out.1 _ HXN.out HU.out.2.1 r1n
  | true =>
  cases k1 with
  | true =>
    have hx : X = some f := by rw [HX.out]; rfl
    have HXN := Lib.hid hx
    clear hx kO
    go_wp2_with (first | refine storeFrm (m := f) (sa := ua) (sn := f.b.length) (sc := uc) rz rfl rfl rfl rfl rfl ?_ | refine storeFrm (m := f) (sa := ua) (sn := f.b.length) (sc := uc) r1n rfl rfl rfl rfl rfl ?_ | refine loadFrm (x := f) (u := .slice ua f.b.length uc) r4 rfl rfl rfl ?_)
    have rd := setRow_heap ((w1.alloc (.cells #[.int .i64 0, .int .i64 0, .int .i64 0, .int .i64 0, .int .u16 0, .slice none 0 0] TFrm)).setRow w1.heap.size (frmC f (.slice ua f.b.length uc))) w.heap.size _ (frmC f (.slice ua f.b.length uc)) _ _ r1n
    refine bodyPost_ret (results_row_tmp rfl _ _ w.heap.size _ _ _ _ (by rfl) rd Try.underlying28 rfl (by kernel_rfl)) rfl ?_
    exact HF.out.2 _ HXN.out HU.out.2.1 HU.out.1 r1n
  | false =>
    have hvb : Bys ((w1.alloc (.cells #[.int .i64 0, .int .i64 0, .int .i64 0, .int .i64 0, .int .u16 0, .slice none 0 0] TFrm)).setRow w1.heap.size (frmC f (.slice ua f.b.length uc))) (.slice va l.length vc) l := HV.out.ext HU.out.2.1
    have kO4 := kO ((w1.alloc (.cells #[.int .i64 0, .int .i64 0, .int .i64 0, .int .i64 0, .int .u16 0, .slice none 0 0] TFrm)).setRow w1.heap.size (frmC f (.slice ua f.b.length uc))) hvb
    clear kO hvb
    go_wp2_with (first | refine storeFrm (m := f) (sa := ua) (sn := f.b.length) (sc := uc) rz rfl rfl rfl rfl rfl ?_)
    refine kO4.mono ?_
    rintro e w2 ⟨uo, rfl, -, h2⟩
    have r1m := h2.block r1n
    have r4m := h2.block r4
    have x6 := HU.out.2.1.trans h2
    have hu6 := HU.out.1.ext h2
    have HU6 := Lib.hid (And.intro x6 hu6)
    clear kO4 h2 r1n r4 x6 hu6 rz c40
    cases o with
    | none =>
      have hx : X = none := by rw [HX.out]; rfl
      have HXN := Lib.hid hx
      clear hx
      go_wp2_with (first | refine storeFrm (m := frm0 0) (sa := none) (sn := 0) (sc := 0) r1m rfl rfl rfl rfl rfl ?_)
      have rd := setRow_heap w2 w.heap.size _ (frmC (frm0 0) (.slice none 0 0)) _ _ r1m
      refine bodyPost_ret (results_row_tmp rfl _ _ w.heap.size _ _ _ _ (by rfl) rd Try.underlying28 rfl (by kernel_rfl)) rfl ?_
      exact HF.out.1 _ HXN.out HU6.out.1 r1m
    | some ol =>
      have hx : X = some f := by rw [HX.out]; rfl
      have HXN := Lib.hid hx
      clear hx
      go_wp2_with (first | refine storeFrm (m := f) (sa := ua) (sn := f.b.length) (sc := uc) r1m rfl rfl rfl rfl rfl ?_ | refine loadFrm (x := f) (u := .slice ua f.b.length uc) r4m rfl rfl rfl ?_)
      have rd := setRow_heap w2 w.heap.size _ (frmC f (.slice ua f.b.length uc)) _ _ r1m
      refine bodyPost_ret (results_row_tmp rfl _ _ w.heap.size _ _ _ _ (by rfl) rd Try.underlying28 rfl (by kernel_rfl)) rfl ?_
      exact HF.out.2 _ HXN.out HU6.out.1 HU6.out.2 r1m
end Go.Proofs.Ytcdaelgnankmfaa.VSta
