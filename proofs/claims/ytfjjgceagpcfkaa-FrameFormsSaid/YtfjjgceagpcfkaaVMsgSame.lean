/- Messages: whether they are the same; copies of bytes. -/
import Derived.Test.YtfjjgceagpcfkaaVMsg
import Derived.Test.YtfjjgceagpcfkaaVRef01
import Derived.Test.YtfjjgceagpcfkaaVEq
import Derived.Lib.LazyBuf
import Derived.Lib.SliceRun
namespace Go.Proofs.Ytfjjgceagpcfkaa.VMsg
open Go.RowKit Go.VBase Go.VRg Go.VEq VCst

theorem results_cell {fn : Func} {p : Tmp} {ty : TypeId} (h : fn.results = #[.cell p ty]) (tmps : Array Value) (P : Program) (w : World) :
    (results fn tmps).run P w = ((asAddr (tmps.getD p undef)).run P w).andThen fun a w₁ => (loadVar ty a).run P w₁ := by
  simp only [results, h]
  simp [Sem.run_bind, Result.andThen]

set_option maxHeartbeats 1000000 in
theorem bytesEqual_calls (v u : Value) (l m : List UInt8) (w : World) (hv : Bys w v l) (hu : Bys w u m) : Calls Try.prog 35 #[v, u] w fun e w' => e = .returned (.bool (l == m)) ∧ w = w' := by
  have k1 := run_string_bys (P := Try.prog) Try.underlying26 Try.underlying5 Try.underlying9 hv
  have k2 := run_string_bys (P := Try.prog) Try.underlying26 Try.underlying5 Try.underlying9 hu
  have hb : ((strB l).toList == (strB m).toList) = (l == m) := by rw [strB_toList, strB_toList]
  obtain ⟨a, cap, rfl, _⟩ := hv
  obtain ⟨a', cap', rfl, _⟩ := hu
  rw [← hb]
  clear hb
  generalize strB l = s1 at *
  generalize strB m = s2 at *
  go_enter Try.func35, Try.ntmps35
  go_wp2_with fail
  go_ret
  exact ⟨rfl, rfl⟩

end Go.Proofs.Ytfjjgceagpcfkaa.VMsg
