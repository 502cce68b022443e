/- Statuses: the better one of two. -/
import Derived.Test.YtcdaelgnankmfaaVStaM
namespace Go.Proofs.Ytcdaelgnankmfaa.VSta
open Go.RowKit Go.VBase Go.VRg Go.VEq VCst VMsg

/-- Whether the second one is better. -/
def betB (x y : StaD) : Bool := decide (0 < orB (cmpB (rankN x.l) (rankN y.l)) (cmpB y.k x.k))
theorem betB_worth (x y : StaD) : betB x y = (decide (worthN x.l < worthN y.l) || (decide (worthN y.l = worthN x.l) && decide (x.k < y.k))) := by
  have key : ∀ l, (worthN l = 4 ∧ rankN l = 0) ∨ (worthN l = 3 ∧ rankN l = 1) ∨ (worthN l = 2 ∧ rankN l = 2) ∨ (worthN l = 1 ∧ rankN l = 3) ∨ (worthN l = 0 ∧ rankN l = 16) := by
    intro l
    unfold worthN rankN
    repeat' split
    all_goals simp
  have k1 := key x.l
  have k2 := key y.l
  unfold betB
  generalize worthN x.l = a at *
  generalize worthN y.l = b at *
  generalize rankN x.l = c at *
  generalize rankN y.l = d at *
  rw [Bool.eq_iff_iff]
  simp only [decide_eq_true_eq, Bool.or_eq_true, Bool.and_eq_true]
  unfold orB cmpB
  rcases k1 with ⟨rfl, rfl⟩ | ⟨rfl, rfl⟩ | ⟨rfl, rfl⟩ | ⟨rfl, rfl⟩ | ⟨rfl, rfl⟩ <;> rcases k2 with ⟨rfl, rfl⟩ | ⟨rfl, rfl⟩ | ⟨rfl, rfl⟩ | ⟨rfl, rfl⟩ | ⟨rfl, rfl⟩ <;> simp
  all_goals
    repeat' split
    all_goals omega
end Go.Proofs.Ytcdaelgnankmfaa.VSta
