/- Statuses that a law is handed. -/
import Derived.Test.YtcdaelgnankmfaaVSta
import Derived.Test.YtcdaelgnankmfaaVFrmArg
namespace Go.Proofs.Ytcdaelgnankmfaa.VSta
open Go.RowKit Go.VBase Go.ChangeShapes Go.WideShapes Go.Deep VArg VMsg

def wfS (x : StaD) : Prop := (Lit.int .i64 x.k).wf = true ∧ (Lit.int .i64 x.l).wf = true ∧ (Lit.int .i64 x.d).wf = true ∧ wfF x.f

set_option maxRecDepth 100000 in
theorem sta_of_arg {H : Type} {enc : TypeId × Value → H} {w : World} {base : Nat} {v : Value} {d : DataW H} {p : List MemPlace} (o : Value.okWide Try.prog w .any base 30 v) (h : DataW.Trod enc Try.prog w 0 (fun _ => true) true 30 v d p) (hw : ∀ n ∈ d.weights Try.prog 30, n ≤ reachBytes) :
    ∃ (x : StaD) (s : Sl3), v = .agg (staC x (slV s)) ∧ Bys w (slV s) x.f.b ∧ wfS x := by
  obtain ⟨cs, rfl, hsz⟩ := okWide_struct Try.underlying30 o
  obtain ⟨fuel, hf⟩ := h
  have hf : DataW.trod enc Try.prog w 0 (fun _ => true) true fuel 30 cs.toList = some (d, p) := hf
  have hC : Try.prog.cellsOf 30 = 9 := by kernel_rfl
  have k1 : Try.prog.cellsOf 3 = 1 := by kernel_rfl
  have k2 : Try.prog.cellsOf 2 = 1 := by kernel_rfl
  have k3 : Try.prog.cellsOf 28 = 6 := by kernel_rfl
  obtain ⟨y0, y1, y2, y3, n', hy, hl, t0, t1, t2, t3⟩ := Go.Joins.trod_struct4 Try.underlying30 hf
  rw [hC] at hl
  obtain ⟨c, hc⟩ : ∃ c, c = cs.toList := ⟨_, rfl⟩
  rw [← hc] at hl t0 t1 t2 t3
  match c, hl with
  | [c0, c1, c2, c3, c4, c5, c6, c7, c8], _ =>
    simp only [k1, k2, k3, List.drop_zero, List.drop_succ_cons, List.take_succ_cons, List.take_zero] at t0 t1 t2 t3
    obtain ⟨z0, e0, _, w0⟩ := DataW.trod_int Try.underlying3 t0
    obtain ⟨z1, e1, _, w1⟩ := DataW.trod_int Try.underlying3 t1
    obtain ⟨z2, e2, _, w2⟩ := DataW.trod_int Try.underlying2 t2
    simp only [List.cons.injEq, and_true] at e0 e1 e2
    subst e0 e1 e2
    obtain ⟨f, s, hcs, hb, hwf⟩ := frm_cells (y := y3) t3 (fun q hq => hw q (by
      simp only [Prod.mk.injEq] at hy
      rw [hy.1]
      simp only [DataW.weights, Try.underlying30]
      exact DataW.weights_mem_each (j := 3) (t := 28) (d := y3.1) rfl rfl q hq))
    simp only [List.cons.injEq, and_true] at hcs
    obtain ⟨rfl, rfl, rfl, rfl, rfl, rfl⟩ := hcs
    exact ⟨⟨z0, z1, z2, f⟩, s, by rw [show cs = _ from Array.ext' hc.symm]; rfl, hb, w0, w1, w2, hwf⟩
end Go.Proofs.Ytcdaelgnankmfaa.VSta
