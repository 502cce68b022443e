/- A C-state that a law is handed. -/
import Derived.Test.YtfjjgceagpcfkaaVCst
import Derived.Lib.SmallJoins
import Derived.OpenShut
namespace Go.Proofs.Ytfjjgceagpcfkaa.VCst
open Go.RowKit Go.VBase Go.Joins Go.ChangeShapes Go.WideShapes Go.Deep

set_option maxRecDepth 100000 in
theorem cst_of_arg {H : Type} {enc : TypeId × Value → H} {w : World} {base : Nat} {v : Value} {d : DataW H} {p : List MemPlace} (o : Value.okWide Try.prog w .any base 25 v) (h : DataW.Trod enc Try.prog w 0 (fun _ => true) true 25 v d p) :
    ∃ r s m g : Int, v = cst r s m g ∧ (Lit.int .i64 r).wf = true ∧ (Lit.int .i64 s).wf = true ∧ (Lit.int .i64 m).wf = true ∧ (Lit.int .u16 g).wf = true := by
  obtain ⟨v0, v1, v2, v3, y0, y1, y2, y3, n, rfl, _, _, t0, t1, t2, t3⟩ := open_agg4 Try.underlying25 (by kernel_rfl) (by kernel_rfl) o h
  obtain ⟨z0, e0, _, w0⟩ := DataW.trod_int Try.underlying3 t0
  obtain ⟨z1, e1, _, w1⟩ := DataW.trod_int Try.underlying3 t1
  obtain ⟨z2, e2, _, w2⟩ := DataW.trod_int Try.underlying3 t2
  obtain ⟨z3, e3, _, w3⟩ := DataW.trod_int Try.underlying23 t3
  simp at e0 e1 e2 e3
  subst e0 e1 e2 e3
  exact ⟨z0, z1, z2, z3, rfl, w0, w1, w2, w3⟩
end Go.Proofs.Ytfjjgceagpcfkaa.VCst
