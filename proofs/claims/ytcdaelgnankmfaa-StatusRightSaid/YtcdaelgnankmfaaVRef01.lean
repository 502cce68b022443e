/- What the reference's Twin comes to. -/
import Derived.Test.YtcdaelgnankmfaaProg
import Derived.Test.YtcdaelgnankmfaaVBase
namespace Go.Proofs.Ytcdaelgnankmfaa.VRef01
open Go.RowKit Go.VBase

theorem byteSl : ByteSl Try.prog 26 5 := ⟨Try.underlying26, info_parts (by kernel_rfl)⟩

set_option maxHeartbeats 400000 in
theorem Twin_calls (v : Value) (l : List UInt8) (w : World) (hv : Bys w v l) (hl : l.length ≤ 140737488355328) :
    Calls Try.prog 19 #[v] w (MadeB w 5 l) := by
  have hv' := hv
  obtain ⟨a, cap, rfl, _⟩ := hv
  go_enter Try.func19, Try.ntmps19
  go_wp2_with (at_builtin; refine wpList_append_B byteSl rfl _ _ rfl (by rfl) (by rfl) (OwnB.nil w w.heap.size _) hv' ?hl (Nat.le_refl _) ?hk)
  case hl => simpa using hl
  case hk =>
  intro u w' ho hg _
  obtain ⟨a', cap', rfl⟩ := ho.slice
  go_wp2_with fail
  go_ret
  exact ⟨_, rfl, ho, grown_below hg (Nat.le_refl _) (fun k h => by cases h)⟩
end Go.Proofs.Ytcdaelgnankmfaa.VRef01
