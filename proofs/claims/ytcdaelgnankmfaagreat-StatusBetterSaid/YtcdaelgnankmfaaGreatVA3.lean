/- Bundled out of VArg VFrmArg VStaArg. -/
import Derived.Test.YtcdaelgnankmfaaGreatProg
import Derived.Test.YtcdaelgnankmfaaGreatVBase
import Derived.Lib.SmallJoins
import Derived.OpenShut
import Derived.Deep.Slices
import Derived.Deep.Fields
import Derived.ChangeSame
import Derived.SizedLaws
import Derived.Test.YtcdaelgnankmfaaGreatVFrm
import Derived.Deep.Strs
import Derived.Test.YtcdaelgnankmfaaGreatVSta
/- A slice of bytes that a law is handed. -/
namespace Go.Proofs.YtcdaelgnankmfaaGreat.VArg
open Go.RowKit Go.VBase Go.ChangeShapes Go.WideShapes Go.Deep

theorem bys_of_trod {H : Type} {enc : TypeId × Value → H} {w : World} {n : Nat} {v : Value} {x : DataW H × List MemPlace} (h : DataW.trod enc Tryz.prog w 0 (fun _ => true) true n 27 [v] = some x) (hw : ∀ n ∈ x.1.weights Tryz.prog 27, n ≤ reachBytes) :
    ∃ l : List UInt8, Bys w v l ∧ l.length ≤ 140737488351232 := by
  rcases open_ints Tryz.underlying27 Tryz.underlying5 (by kernel_rfl) h with ⟨hcs, _⟩ | ⟨y, l, c, zs, hcs, _, hl, hm, hz, hx, hcell, hwz⟩
  · simp at hcs; subst hcs
    exact ⟨[], Bys.nil _, by simp⟩
  · simp at hcs; subst hcs
    obtain ⟨m, hm1, hm2⟩ := bys_of_row (w := w) (a := some y) (len := l) (cap := c) (zs := zs) (.inr ⟨y, rfl, hl, hm, by simpa using hz, hcell, hwz⟩)
    refine ⟨m, hm2, ?_⟩
    have hb : Tryz.prog.bytesOf 5 = 1 := by kernel_rfl
    have := hw ((zs.take l).length * 1 + (zs.drop l).length * 1) (by
      rw [hx]
      simp only [DataW.weights, Tryz.underlying27, List.mem_cons]
      left
      rw [hb]; simp [lits])
    rw [List.length_take, List.length_drop] at this
    simp at hz
    have e : reachBytes = 140737488351232 := by decide
    omega

theorem bys_of_arg {H : Type} {enc : TypeId × Value → H} {w : World} {a : Option Addr} {len cap : Nat} {d : DataW H} {p : List MemPlace} (h : DataW.Trod enc Tryz.prog w 0 (fun _ => true) true 27 (.slice a len cap) d p) (hw : ∀ n ∈ d.weights Tryz.prog 27, n ≤ reachBytes) :
    ∃ l : List UInt8, Bys w (.slice a len cap) l ∧ l.length = len ∧ l.length ≤ 140737488351232 := by
  obtain ⟨fuel, hf⟩ := h
  obtain ⟨l, hb, hl⟩ := bys_of_trod (x := (d, p)) hf hw
  refine ⟨l, hb, ?_, hl⟩
  obtain ⟨a', cap', h1, _⟩ := hb
  cases h1; rfl
end Go.Proofs.YtcdaelgnankmfaaGreat.VArg

/- Frames that a law is handed. -/
namespace Go.Proofs.YtcdaelgnankmfaaGreat.VSta
open Go.RowKit Go.VBase Go.ChangeShapes Go.WideShapes Go.Deep VArg VMsg

def wfF (f : FrmD) : Prop := (Lit.int .i64 f.k).wf = true ∧ (Lit.int .i64 f.r).wf = true ∧ (Lit.int .i64 f.s).wf = true ∧ (Lit.int .i64 f.m).wf = true ∧ (Lit.int .u16 f.v).wf = true

set_option maxRecDepth 100000 in
theorem cst_cells {H : Type} {enc : TypeId × Value → H} {w : World} {n : Nat} {cs : List Value} {y : DataW H × List MemPlace} (h : DataW.trod enc Tryz.prog w 0 (fun _ => true) true n 32 cs = some y) :
    ∃ r s m v : Int, cs = [.int .i64 r, .int .i64 s, .int .i64 m, .int .u16 v] ∧ (Lit.int .i64 r).wf = true ∧ (Lit.int .i64 s).wf = true ∧ (Lit.int .i64 m).wf = true ∧ (Lit.int .u16 v).wf = true := by
  have hC : Tryz.prog.cellsOf 32 = 4 := by kernel_rfl
  have k1 : Tryz.prog.cellsOf 3 = 1 := by kernel_rfl
  have k2 : Tryz.prog.cellsOf 30 = 1 := by kernel_rfl
  obtain ⟨y0, y1, y2, y3, n', _, hl, t0, t1, t2, t3⟩ := Go.Joins.trod_struct4 Tryz.underlying32 h
  rw [hC] at hl
  match cs, hl with
  | [c0, c1, c2, c3], _ =>
    simp only [k1, k2, List.drop_zero, List.drop_succ_cons, List.take_succ_cons, List.take_zero] at t0 t1 t2 t3
    obtain ⟨z0, e0, _, w0⟩ := DataW.trod_int Tryz.underlying3 t0
    obtain ⟨z1, e1, _, w1⟩ := DataW.trod_int Tryz.underlying3 t1
    obtain ⟨z2, e2, _, w2⟩ := DataW.trod_int Tryz.underlying3 t2
    obtain ⟨z3, e3, _, w3⟩ := DataW.trod_int Tryz.underlying30 t3
    simp at e0 e1 e2 e3
    subst e0 e1 e2 e3
    exact ⟨z0, z1, z2, z3, rfl, w0, w1, w2, w3⟩

set_option maxRecDepth 100000 in
theorem frm_cells {H : Type} {enc : TypeId × Value → H} {w : World} {n : Nat} {cs : List Value} {y : DataW H × List MemPlace} (h : DataW.trod enc Tryz.prog w 0 (fun _ => true) true n 34 cs = some y) (hw : ∀ n ∈ y.1.weights Tryz.prog 34, n ≤ reachBytes) :
    ∃ (f : FrmD) (s : Sl3), cs = [.int .i64 f.k, .int .i64 f.r, .int .i64 f.s, .int .i64 f.m, .int .u16 f.v, slV s] ∧ Bys w (slV s) f.b ∧ wfF f := by
  have hC : Tryz.prog.cellsOf 34 = 6 := by kernel_rfl
  have k1 : Tryz.prog.cellsOf 3 = 1 := by kernel_rfl
  have k2 : Tryz.prog.cellsOf 32 = 4 := by kernel_rfl
  have k3 : Tryz.prog.cellsOf 27 = 1 := by kernel_rfl
  obtain ⟨y0, y1, y2, n', hy, hl, t0, t1, t2⟩ := Go.Deep.trod_struct3 Tryz.underlying34 h
  rw [hC] at hl
  match cs, hl with
  | [c0, c1, c2, c3, c4, c5], _ =>
    simp only [k1, k2, k3, List.drop_zero, List.drop_succ_cons, List.take_succ_cons, List.take_zero] at t0 t1 t2
    obtain ⟨z0, e0, _, w0⟩ := DataW.trod_int Tryz.underlying3 t0
    obtain ⟨r, s, m, v, e1, w1, w2, w3, w4⟩ := cst_cells t1
    simp only [List.cons.injEq, and_true] at e0 e1
    obtain ⟨rfl, rfl, rfl, rfl⟩ := e1
    subst e0
    obtain ⟨l, hb, _⟩ := VArg.bys_of_trod (x := y2) t2 (fun q hq => hw q (by
      rw [hy]
      simp only [DataW.weights, Tryz.underlying34]
      exact DataW.weights_mem_each (j := 2) (t := 27) (d := y2.1) rfl rfl q hq))
    obtain ⟨a, c, hv⟩ : ∃ a c, c5 = .slice a l.length c := by obtain ⟨a, c, h1, _⟩ := hb; exact ⟨a, c, h1⟩
    subst hv
    exact ⟨⟨z0, r, s, m, v, l⟩, (a, l.length, c), rfl, hb, w0, w1, w2, w3, w4⟩

set_option maxRecDepth 100000 in
theorem frm_of_arg {H : Type} {enc : TypeId × Value → H} {w : World} {base : Nat} {v : Value} {d : DataW H} {p : List MemPlace} (o : Value.okWide Tryz.prog w .any base 34 v) (h : DataW.Trod enc Tryz.prog w 0 (fun _ => true) true 34 v d p) (hw : ∀ n ∈ d.weights Tryz.prog 34, n ≤ reachBytes) :
    ∃ (f : FrmD) (s : Sl3), v = .agg (frmC f (slV s)) ∧ Bys w (slV s) f.b ∧ wfF f := by
  obtain ⟨cs, rfl, hsz⟩ := okWide_struct Tryz.underlying34 o
  obtain ⟨fuel, hf⟩ := h
  have hf : DataW.trod enc Tryz.prog w 0 (fun _ => true) true fuel 34 cs.toList = some (d, p) := hf
  obtain ⟨f, s, hcs, hb, hwf⟩ := frm_cells hf hw
  exact ⟨f, s, by rw [show cs = _ from Array.ext' hcs]; rfl, hb, hwf⟩
end Go.Proofs.YtcdaelgnankmfaaGreat.VSta

/- Statuses that a law is handed. -/
namespace Go.Proofs.YtcdaelgnankmfaaGreat.VSta
open Go.RowKit Go.VBase Go.ChangeShapes Go.WideShapes Go.Deep VArg VMsg

def wfS (x : StaD) : Prop := (Lit.int .i64 x.k).wf = true ∧ (Lit.int .i64 x.l).wf = true ∧ (Lit.int .i64 x.d).wf = true ∧ wfF x.f

set_option maxRecDepth 100000 in
theorem sta_of_arg {H : Type} {enc : TypeId × Value → H} {w : World} {base : Nat} {v : Value} {d : DataW H} {p : List MemPlace} (o : Value.okWide Tryz.prog w .any base 36 v) (h : DataW.Trod enc Tryz.prog w 0 (fun _ => true) true 36 v d p) (hw : ∀ n ∈ d.weights Tryz.prog 36, n ≤ reachBytes) :
    ∃ (x : StaD) (s : Sl3), v = .agg (staC x (slV s)) ∧ Bys w (slV s) x.f.b ∧ wfS x := by
  obtain ⟨cs, rfl, hsz⟩ := okWide_struct Tryz.underlying36 o
  obtain ⟨fuel, hf⟩ := h
  have hf : DataW.trod enc Tryz.prog w 0 (fun _ => true) true fuel 36 cs.toList = some (d, p) := hf
  have hC : Tryz.prog.cellsOf 36 = 9 := by kernel_rfl
  have k1 : Tryz.prog.cellsOf 3 = 1 := by kernel_rfl
  have k2 : Tryz.prog.cellsOf 2 = 1 := by kernel_rfl
  have k3 : Tryz.prog.cellsOf 34 = 6 := by kernel_rfl
  obtain ⟨y0, y1, y2, y3, n', hy, hl, t0, t1, t2, t3⟩ := Go.Joins.trod_struct4 Tryz.underlying36 hf
  rw [hC] at hl
  obtain ⟨c, hc⟩ : ∃ c, c = cs.toList := ⟨_, rfl⟩
  rw [← hc] at hl t0 t1 t2 t3
  match c, hl with
  | [c0, c1, c2, c3, c4, c5, c6, c7, c8], _ =>
    simp only [k1, k2, k3, List.drop_zero, List.drop_succ_cons, List.take_succ_cons, List.take_zero] at t0 t1 t2 t3
    obtain ⟨z0, e0, _, w0⟩ := DataW.trod_int Tryz.underlying3 t0
    obtain ⟨z1, e1, _, w1⟩ := DataW.trod_int Tryz.underlying3 t1
    obtain ⟨z2, e2, _, w2⟩ := DataW.trod_int Tryz.underlying2 t2
    simp only [List.cons.injEq, and_true] at e0 e1 e2
    subst e0 e1 e2
    obtain ⟨f, s, hcs, hb, hwf⟩ := frm_cells (y := y3) t3 (fun q hq => hw q (by
      simp only [Prod.mk.injEq] at hy
      rw [hy.1]
      simp only [DataW.weights, Tryz.underlying36]
      exact DataW.weights_mem_each (j := 3) (t := 34) (d := y3.1) rfl rfl q hq))
    simp only [List.cons.injEq, and_true] at hcs
    obtain ⟨rfl, rfl, rfl, rfl, rfl, rfl⟩ := hcs
    exact ⟨⟨z0, z1, z2, f⟩, s, by rw [show cs = _ from Array.ext' hc.symm]; rfl, hb, w0, w1, w2, hwf⟩
end Go.Proofs.YtcdaelgnankmfaaGreat.VSta
