/- Frames that a law is handed. -/
import Derived.Test.YtfjjgceagpcfkaaVFrm
import Derived.Test.YtfjjgceagpcfkaaVArg
import Derived.Deep.Strs
import Derived.Lib.SmallJoins
import Derived.OpenShut
import Derived.SizedLaws
namespace Go.Proofs.Ytfjjgceagpcfkaa.VSta
open Go.RowKit Go.VBase Go.ChangeShapes Go.WideShapes Go.Deep VArg VMsg

def wfF (f : FrmD) : Prop := (Lit.int .i64 f.k).wf = true ∧ (Lit.int .i64 f.r).wf = true ∧ (Lit.int .i64 f.s).wf = true ∧ (Lit.int .i64 f.m).wf = true ∧ (Lit.int .u16 f.v).wf = true

set_option maxRecDepth 100000 in
theorem cst_cells {H : Type} {enc : TypeId × Value → H} {w : World} {n : Nat} {cs : List Value} {y : DataW H × List MemPlace} (h : DataW.trod enc Try.prog w 0 (fun _ => true) true n 25 cs = some y) :
    ∃ r s m v : Int, cs = [.int .i64 r, .int .i64 s, .int .i64 m, .int .u16 v] ∧ (Lit.int .i64 r).wf = true ∧ (Lit.int .i64 s).wf = true ∧ (Lit.int .i64 m).wf = true ∧ (Lit.int .u16 v).wf = true := by
  have hC : Try.prog.cellsOf 25 = 4 := by kernel_rfl
  have k1 : Try.prog.cellsOf 3 = 1 := by kernel_rfl
  have k2 : Try.prog.cellsOf 23 = 1 := by kernel_rfl
  obtain ⟨y0, y1, y2, y3, n', _, hl, t0, t1, t2, t3⟩ := Go.Joins.trod_struct4 Try.underlying25 h
  rw [hC] at hl
  match cs, hl with
  | [c0, c1, c2, c3], _ =>
    simp only [k1, k2, List.drop_zero, List.drop_succ_cons, List.take_succ_cons, List.take_zero] at t0 t1 t2 t3
    obtain ⟨z0, e0, _, w0⟩ := DataW.trod_int Try.underlying3 t0
    obtain ⟨z1, e1, _, w1⟩ := DataW.trod_int Try.underlying3 t1
    obtain ⟨z2, e2, _, w2⟩ := DataW.trod_int Try.underlying3 t2
    obtain ⟨z3, e3, _, w3⟩ := DataW.trod_int Try.underlying23 t3
    simp at e0 e1 e2 e3
    subst e0 e1 e2 e3
    exact ⟨z0, z1, z2, z3, rfl, w0, w1, w2, w3⟩

set_option maxRecDepth 100000 in
theorem frm_cells {H : Type} {enc : TypeId × Value → H} {w : World} {n : Nat} {cs : List Value} {y : DataW H × List MemPlace} (h : DataW.trod enc Try.prog w 0 (fun _ => true) true n 28 cs = some y) (hw : ∀ n ∈ y.1.weights Try.prog 28, n ≤ reachBytes) :
    ∃ (f : FrmD) (s : Sl3), cs = [.int .i64 f.k, .int .i64 f.r, .int .i64 f.s, .int .i64 f.m, .int .u16 f.v, slV s] ∧ Bys w (slV s) f.b ∧ wfF f := by
  have hC : Try.prog.cellsOf 28 = 6 := by kernel_rfl
  have k1 : Try.prog.cellsOf 3 = 1 := by kernel_rfl
  have k2 : Try.prog.cellsOf 25 = 4 := by kernel_rfl
  have k3 : Try.prog.cellsOf 26 = 1 := by kernel_rfl
  obtain ⟨y0, y1, y2, n', hy, hl, t0, t1, t2⟩ := Go.Deep.trod_struct3 Try.underlying28 h
  rw [hC] at hl
  match cs, hl with
  | [c0, c1, c2, c3, c4, c5], _ =>
    simp only [k1, k2, k3, List.drop_zero, List.drop_succ_cons, List.take_succ_cons, List.take_zero] at t0 t1 t2
    obtain ⟨z0, e0, _, w0⟩ := DataW.trod_int Try.underlying3 t0
    obtain ⟨r, s, m, v, e1, w1, w2, w3, w4⟩ := cst_cells t1
    simp only [List.cons.injEq, and_true] at e0 e1
    obtain ⟨rfl, rfl, rfl, rfl⟩ := e1
    subst e0
    obtain ⟨l, hb, _⟩ := VArg.bys_of_trod (x := y2) t2 (fun q hq => hw q (by
      rw [hy]
      simp only [DataW.weights, Try.underlying28]
      exact DataW.weights_mem_each (j := 2) (t := 26) (d := y2.1) rfl rfl q hq))
    obtain ⟨a, c, hv⟩ : ∃ a c, c5 = .slice a l.length c := by obtain ⟨a, c, h1, _⟩ := hb; exact ⟨a, c, h1⟩
    subst hv
    exact ⟨⟨z0, r, s, m, v, l⟩, (a, l.length, c), rfl, hb, w0, w1, w2, w3, w4⟩

set_option maxRecDepth 100000 in
theorem frm_of_arg {H : Type} {enc : TypeId × Value → H} {w : World} {base : Nat} {v : Value} {d : DataW H} {p : List MemPlace} (o : Value.okWide Try.prog w .any base 28 v) (h : DataW.Trod enc Try.prog w 0 (fun _ => true) true 28 v d p) (hw : ∀ n ∈ d.weights Try.prog 28, n ≤ reachBytes) :
    ∃ (f : FrmD) (s : Sl3), v = .agg (frmC f (slV s)) ∧ Bys w (slV s) f.b ∧ wfF f := by
  obtain ⟨cs, rfl, hsz⟩ := okWide_struct Try.underlying28 o
  obtain ⟨fuel, hf⟩ := h
  have hf : DataW.trod enc Try.prog w 0 (fun _ => true) true fuel 28 cs.toList = some (d, p) := hf
  obtain ⟨f, s, hcs, hb, hwf⟩ := frm_cells hf hw
  exact ⟨f, s, by rw [show cs = _ from Array.ext' hcs]; rfl, hb, hwf⟩
end Go.Proofs.Ytfjjgceagpcfkaa.VSta
