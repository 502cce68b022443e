/- cmp.Or on ints, of two. -/
import Derived.Test.YtfjjgceagpcfkaaVCmp
namespace Go.Proofs.Ytfjjgceagpcfkaa.VCst
open Go.RowKit Go.VBase

def orB (a b : Int) : Int := if a = 0 then b else a

end Go.Proofs.Ytfjjgceagpcfkaa.VCst
