/- cmp.Compare on ints. -/
import Derived.Test.YtfjjgceagpcfkaaProg
import Derived.Test.YtfjjgceagpcfkaaVBase
import Derived.Outline
namespace Go.Proofs.Ytfjjgceagpcfkaa.VCst
open Go.RowKit Go.VBase

def cmpB (a b : Int) : Int := if a < b then -1 else if b < a then 1 else 0

end Go.Proofs.Ytfjjgceagpcfkaa.VCst
