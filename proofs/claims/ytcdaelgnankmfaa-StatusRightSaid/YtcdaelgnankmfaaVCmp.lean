/- cmp.Compare on ints. -/
import Derived.Test.YtcdaelgnankmfaaProg
import Derived.Test.YtcdaelgnankmfaaVBase
import Derived.Outline
namespace Go.Proofs.Ytcdaelgnankmfaa.VCst
open Go.RowKit Go.VBase

def cmpB (a b : Int) : Int := if a < b then -1 else if b < a then 1 else 0

set_option maxHeartbeats 1000000 in
theorem isNaN_calls (a : Int) (w : World) : Calls Try.prog 38 #[.int .i64 a] w fun e w' => e = .returned (.bool false) ∧ w = w' := by
  go_enter Try.func38, Try.ntmps38
  go_wp2_with fail
  go_ret
  exact ⟨by simp, rfl⟩

set_option maxHeartbeats 1000000 in
theorem cmp_calls (a b : Int) (w : World) : Calls Try.prog 22 #[.int .i64 a, .int .i64 b] w fun e w' => e = .returned (.int .i64 (cmpB a b)) ∧ w = w' := by
  unfold cmpB
  have hc : a < b ∨ (¬ a < b ∧ b < a) ∨ (¬ a < b ∧ ¬ b < a) := by omega
  rcases hc with h1 | ⟨h1, h2⟩ | ⟨h1, h2⟩
  · rw [if_pos h1]
    have k1 : decide (a < b) = true := decide_eq_true h1
    go_enter Try.func22, Try.ntmps22
    go_wp2_with fail
    refine (isNaN_calls a w).mono ?_
    rintro e w' ⟨rfl, rfl⟩
    go_wp2_with fail
    refine (isNaN_calls b w).mono ?_
    rintro e w' ⟨rfl, rfl⟩
    go_wp2_with fail
    go_ret
    exact ⟨rfl, rfl⟩
  · rw [if_neg h1, if_pos h2]
    have k1 : decide (a < b) = false := decide_eq_false h1
    have k2 : decide (b < a) = true := decide_eq_true h2
    go_enter Try.func22, Try.ntmps22
    go_wp2_with fail
    refine (isNaN_calls a w).mono ?_
    rintro e w' ⟨rfl, rfl⟩
    go_wp2_with fail
    refine (isNaN_calls b w).mono ?_
    rintro e w' ⟨rfl, rfl⟩
    go_wp2_with fail
    go_ret
    exact ⟨rfl, rfl⟩
  · rw [if_neg h1, if_neg h2]
    have k1 : decide (a < b) = false := decide_eq_false h1
    have k2 : decide (b < a) = false := decide_eq_false h2
    go_enter Try.func22, Try.ntmps22
    go_wp2_with fail
    refine (isNaN_calls a w).mono ?_
    rintro e w' ⟨rfl, rfl⟩
    go_wp2_with fail
    refine (isNaN_calls b w).mono ?_
    rintro e w' ⟨rfl, rfl⟩
    go_wp2_with fail
    go_ret
    exact ⟨rfl, rfl⟩
end Go.Proofs.Ytcdaelgnankmfaa.VCst
