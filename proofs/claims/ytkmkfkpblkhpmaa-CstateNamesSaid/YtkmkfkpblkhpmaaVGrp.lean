/- Groups: node, only, With, Without, and the document's. -/
import Derived.Test.YtkmkfkpblkhpmaaProg
import Derived.Test.YtkmkfkpblkhpmaaVBase
import Derived.Outline
import Derived.Laws.BitsAllLaws
namespace Go.Proofs.Ytkmkfkpblkhpmaa.VGrp
open Go.RowKit Go.VBase

/-- The group of a node alone. -/
def onlyN (n : Int) : Nat := if 0 ≤ n ∧ n ≤ 15 then 2 ^ n.toNat else 0
theorem onlyN_lt (n : Int) : onlyN n < 65536 := by
  unfold onlyN
  split
  · rename_i h
    calc 2 ^ n.toNat ≤ 2 ^ 15 := Nat.pow_le_pow_right (by decide) (by omega)
      _ < 65536 := by decide
  · decide

set_option maxHeartbeats 1000000 in
theorem node_calls (n : Int) (w : World) : Calls Try.prog 66 #[.int .i64 n] w fun e w' => e = .returned (.bool (decide (0 ≤ n) && decide (n ≤ 15))) ∧ w = w' := by
  by_cases h : 0 ≤ n
  · have h' : decide (0 ≤ n) = true := decide_eq_true h
    rw [h']
    go_enter Try.func66, Try.ntmps66
    go_wp2_with fail
    go_ret
    refine ⟨?_, rfl⟩
    simp
    omega
  · have h' : decide (0 ≤ n) = false := decide_eq_false h
    rw [h']
    go_enter Try.func66, Try.ntmps66
    go_wp2_with fail
    go_ret
    exact ⟨by simp, rfl⟩

set_option maxHeartbeats 1000000 in
theorem only_calls (n : Int) (w : World) : Calls Try.prog 52 #[.int .i64 n] w fun e w' => e = .returned (.int .u16 (onlyN n : Int)) ∧ w = w' := by
  by_cases h : 0 ≤ n ∧ n ≤ 15
  · have hb : (decide (0 ≤ n) && decide (n ≤ 15)) = true := by simp; omega
    have hcase : n = 0 ∨ n = 1 ∨ n = 2 ∨ n = 3 ∨ n = 4 ∨ n = 5 ∨ n = 6 ∨ n = 7 ∨ n = 8 ∨ n = 9 ∨ n = 10 ∨ n = 11 ∨ n = 12 ∨ n = 13 ∨ n = 14 ∨ n = 15 := by omega
    go_enter Try.func52, Try.ntmps52
    go_wp2_with fail
    refine (node_calls n w).mono ?_
    rintro e w' ⟨rfl, rfl⟩
    rw [hb]
    clear hb h
    rcases hcase with rfl | rfl | rfl | rfl | rfl | rfl | rfl | rfl | rfl | rfl | rfl | rfl | rfl | rfl | rfl | rfl
    all_goals
      go_wp2_with fail
      go_ret
      exact ⟨rfl, rfl⟩
  · have hb : (decide (0 ≤ n) && decide (n ≤ 15)) = false := by simp; omega
    have ho : onlyN n = 0 := by unfold onlyN; rw [if_neg h]
    rw [ho]
    go_enter Try.func52, Try.ntmps52
    go_wp2_with fail
    refine (node_calls n w).mono ?_
    rintro e w' ⟨rfl, rfl⟩
    rw [hb]
    go_wp2_with fail
    go_ret
    exact ⟨rfl, rfl⟩

set_option maxHeartbeats 1000000 in
theorem With_calls (g : Nat) (n : Int) (w : World) (hg : g < 65536) : Calls Try.prog 38 #[.int .u16 (g : Int), .int .i64 n] w fun e w' => e = .returned (.int .u16 ((g ||| onlyN n : Nat) : Int)) ∧ w = w' := by
  have hO := fun w => only_calls n w
  have hl := onlyN_lt n
  generalize onlyN n = o at *
  have hb := u16_or_nat g o hg hl
  generalize (g ||| o) = z at *
  go_enter Try.func38, Try.ntmps38
  go_wp2_with fail
  refine (hO w).mono ?_
  rintro e w' ⟨rfl, rfl⟩
  go_wp2_with fail
  go_ret
  exact ⟨rfl, rfl⟩

set_option maxHeartbeats 1000000 in
theorem Without_calls (g : Nat) (n : Int) (w : World) (hg : g < 65536) : Calls Try.prog 39 #[.int .u16 (g : Int), .int .i64 n] w fun e w' => e = .returned (.int .u16 ((g &&& (65535 - onlyN n) : Nat) : Int)) ∧ w = w' := by
  have hO := fun w => only_calls n w
  have hl := onlyN_lt n
  generalize onlyN n = o at *
  have hb := u16_andNot_nat g o hg hl
  generalize (g &&& (65535 - o)) = z at *
  go_enter Try.func39, Try.ntmps39
  go_wp2_with fail
  refine (hO w).mono ?_
  rintro e w' ⟨rfl, rfl⟩
  go_wp2_with fail
  go_ret
  exact ⟨rfl, rfl⟩
end Go.Proofs.Ytkmkfkpblkhpmaa.VGrp
