/- A slice of two numbers. -/
import Derived.Test.YtcdaelgnankmfaaVCmpOr
namespace Go.Proofs.Ytcdaelgnankmfaa.VCst
open Go.RowKit Go.VBase Go.VRg

def Two (a b : Int) (v : Value) (W : World) : Prop := ∃ q, v = .slice (some ⟨q, 0, none⟩) 2 2 ∧ W.cell? ⟨q, 0, none⟩ = some (.int .i64 a) ∧ W.cell? ⟨q, 1, none⟩ = some (.int .i64 b)
theorem Two.ext {a b : Int} (v : Value) (W W' : World) (x : Ext W W') : Two a b v W → Two a b v W' := fun ⟨q, h1, h2, h3⟩ => ⟨q, h1, x.cell h2, x.cell h3⟩
end Go.Proofs.Ytcdaelgnankmfaa.VCst
