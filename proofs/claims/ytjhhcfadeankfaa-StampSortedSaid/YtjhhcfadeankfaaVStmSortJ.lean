/- StampSorted: the cases joined. -/
import Derived.Test.YtjhhcfadeankfaaVStmSortZ
import Derived.Test.YtjhhcfadeankfaaVStmSortN
import Derived.Test.YtjhhcfadeankfaaVStmSortP
namespace Go.Proofs.Ytjhhcfadeankfaa.VMsg
open Go.RowKit Go.VBase Go.VRg Go.VEq VCst Go.VPlan VPlan
theorem Sorted_any (x y z : MsgD) (sx sy sz : Sl3) (w : World) (hx : Bys w (slV sx) x.b) (hy : Bys w (slV sy) y.b) :
    Calls Try.prog 6 #[msgV x (slV sx), msgV y (slV sy), msgV z (slV sz)] w fun e w' => e = .returned (.bool true) ∧ Ext w w' := by
  rcases cmpM_vals x y with h | h | h
  · exact Sorted_N x y z sx sy sz w h hx hy
  · exact Sorted_Z x y z sx sy sz w h hx hy
  · exact Sorted_P x y z sx sy sz w h hx hy
end Go.Proofs.Ytjhhcfadeankfaa.VMsg
