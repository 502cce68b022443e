/- StampSorted: the walk. -/
import Derived.Test.YtjhhcfadeankfaaVStmAlive
namespace Go.Proofs.Ytjhhcfadeankfaa.VMsg
open Go.RowKit Go.VBase Go.VRg Go.VEq VCst Go.VPlan VPlan

theorem cmpM_vals (x y : MsgD) : cmpM x y = -1 ∨ cmpM x y = 0 ∨ cmpM x y = 1 := by
  unfold cmpM or3B cmpB
  repeat' split
  all_goals omega
theorem cmpM_neg (x y : MsgD) : cmpM y x = - cmpM x y := by
  unfold cmpM or3B cmpB
  repeat' split
  all_goals omega
theorem cmpM_lt (x y : MsgD) : cmpM x y = -1 ↔ x.st < y.st ∨ (x.st = y.st ∧ (x.se < y.se ∨ (x.se = y.se ∧ x.nu < y.nu))) := by
  unfold cmpM or3B cmpB
  repeat' split
  all_goals omega
theorem cmpM_trans (x y z : MsgD) : (cmpM x y = -1 → cmpM y z = -1 → cmpM x z = -1) ∧ (cmpM x y = 1 → cmpM y z = 1 → cmpM x z = 1) ∧ (cmpM x y = 0 → cmpM x z = cmpM y z) := by
  refine ⟨fun a b => ?_, fun a b => ?_, fun a => ?_⟩
  · rw [cmpM_lt] at *
    omega
  · have a' : cmpM y x = -1 := by rw [cmpM_neg]; omega
    have b' : cmpM z y = -1 := by rw [cmpM_neg]; omega
    have c' : cmpM z x = -1 := by
      rw [cmpM_lt] at *
      omega
    rw [cmpM_neg z x]; omega
  · obtain ⟨h1, h2, h3⟩ := cmpM_zero.1 a
    unfold cmpM
    rw [h1, h2, h3]

end Go.Proofs.Ytjhhcfadeankfaa.VMsg
