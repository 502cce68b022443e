/- Groups: the document's Has, one, With, Without. -/
import Derived.Test.YtkmkfkpblkhpmaaVGrp
namespace Go.Proofs.Ytkmkfkpblkhpmaa.VGrp
open Go.RowKit Go.VBase

def hasN (g : Nat) (n : Int) : Bool := decide (0 ≤ n ∧ n ≤ 15) && decide (g / 2 ^ n.toNat % 2 = 1)

set_option maxHeartbeats 1000000 in
theorem refOne_calls (n : Int) (w : World) : Calls Try.prog 56 #[.int .i64 n] w fun e w' => e = .returned (.int .u16 (onlyN n : Int)) ∧ w = w' := by
  by_cases h : 0 ≤ n ∧ n ≤ 15
  · have h1 : decide (n < 0) = false := by apply decide_eq_false; omega
    have h2 : decide (15 < n) = false := by apply decide_eq_false; omega
    obtain ⟨k, rfl⟩ : ∃ k : Nat, n = (k : Int) := ⟨n.toNat, by omega⟩
    have hk : k ≤ 15 := by omega
    obtain ⟨P, hP⟩ : ∃ P, P = 2 ^ k := ⟨_, rfl⟩
    have ho : onlyN (k : Int) = P := by unfold onlyN; rw [if_pos h, hP]; rfl
    rw [ho]
    have HP := Lib.hid hP
    clear ho h hP
    go_enter Try.func56, Try.ntmps56
    go_wp2_with fail
    go_loop [3, 4] (fun g i => ∃ (j z : Nat), j ≤ k ∧ i = .int .i64 (j : Int) ∧ g = .int .u16 (z : Int) ∧ z = 2 ^ j) (fun _ i => k - (intOf i).toNat)
    case atStart => exact ⟨0, 1, Nat.zero_le _, rfl, rfl, rfl⟩
    case round =>
      obtain ⟨j, z, hj, rfl, rfl, hz⟩ := hrel
      by_cases hlt : j < k
      · have hjw : (j : Int) < (k : Int) := by omega
        have hzl : z ≤ 16384 := by
          rw [hz]
          exact Nat.le_trans (Nat.pow_le_pow_right (by decide) (show j ≤ 14 by omega)) (by decide)
        have HZ := Lib.hid hz
        clear hz
        go_wp2_with fail
        go_round
        · exact ⟨j + 1, 2 * z, by omega, by go_num, by go_num, by rw [HZ.out, Nat.pow_succ, Nat.mul_comm]⟩
        · simp [intOf]; omega
      · have hjk : j = k := by omega
        subst hjk
        have e : z = P := by rw [hz, HP.out]
        subst e
        clear hz
        go_wp2_with fail
        go_ret
        exact ⟨rfl, rfl⟩
  · have ho : onlyN n = 0 := by unfold onlyN; rw [if_neg h]
    rw [ho]
    have hc : (n < 0) ∨ (¬ n < 0 ∧ 15 < n) := by omega
    rcases hc with h1 | ⟨h1, h2⟩
    · have h1' : decide (n < 0) = true := decide_eq_true h1
      go_enter Try.func56, Try.ntmps56
      go_wp2_with fail
      go_ret
      exact ⟨rfl, rfl⟩
    · have h1' : decide (n < 0) = false := decide_eq_false h1
      have h2' : decide (15 < n) = true := decide_eq_true h2
      go_enter Try.func56, Try.ntmps56
      go_wp2_with fail
      go_ret
      exact ⟨rfl, rfl⟩

set_option maxHeartbeats 1000000 in
theorem refHas_calls (g : Nat) (n : Int) (w : World) (hg : g < 65536) : Calls Try.prog 55 #[.int .u16 (g : Int), .int .i64 n] w fun e w' => e = .returned (.bool (hasN g n)) ∧ w = w' := by
  by_cases h : 0 ≤ n ∧ n ≤ 15
  · have h1 : decide (n < 0) = false := by apply decide_eq_false; omega
    have h2 : decide (15 < n) = false := by apply decide_eq_false; omega
    obtain ⟨k, rfl⟩ : ∃ k : Nat, n = (k : Int) := ⟨n.toNat, by omega⟩
    have hk : k ≤ 15 := by omega
    obtain ⟨P, hP⟩ : ∃ P, P = decide (g / 2 ^ k % 2 = 1) := ⟨_, rfl⟩
    have ho : hasN g (k : Int) = P := by unfold hasN; rw [decide_eq_true h, hP]; rfl
    rw [ho]
    have HP := Lib.hid hP
    clear ho h hP
    go_enter Try.func55, Try.ntmps55
    go_wp2_with fail
    go_loop [0, 5] (fun x i => ∃ (j z : Nat), j ≤ k ∧ i = .int .i64 (j : Int) ∧ x = .int .u16 (z : Int) ∧ z = g / 2 ^ j ∧ z < 65536) (fun _ i => k - (intOf i).toNat)
    case atStart => exact ⟨0, g, Nat.zero_le _, rfl, rfl, by simp, hg⟩
    case round =>
      obtain ⟨j, z, hj, rfl, rfl, hz, hzl⟩ := hrel
      by_cases hlt : j < k
      · have hjw : (j : Int) < (k : Int) := by omega
        have hd : (z : Int).tdiv 2 = ((z / 2 : Nat) : Int) := by rw [Int.tdiv_eq_ediv_of_nonneg (by omega)]; rfl
        obtain ⟨y, hy⟩ : ∃ y, z / 2 = y := ⟨_, rfl⟩
        rw [hy] at hd
        have hyl : y < 65536 := by omega
        have HZ := Lib.hid (And.intro hz hy)
        clear hz hy
        go_wp2_with fail
        go_round
        · exact ⟨j + 1, y, by omega, by go_num, by go_num, by rw [← HZ.out.2, HZ.out.1, Nat.pow_succ, Nat.div_div_eq_div_mul], hyl⟩
        · simp [intOf]; omega
      · have hjk : j = k := by omega
        subst hjk
        have hd : (z : Int).tmod 2 = ((z % 2 : Nat) : Int) := by rw [Int.tmod_eq_emod_of_nonneg (by omega)]; rfl
        have hq : (((z % 2 : Nat) : Int) == 1) = P := by rw [HP.out, ← hz, Bool.eq_iff_iff]; simp; omega
        obtain ⟨y, hy⟩ : ∃ y, z % 2 = y := ⟨_, rfl⟩
        rw [hy] at hd hq
        clear hz hy
        go_wp2_with fail
        go_ret
        exact ⟨rfl, rfl⟩
  · have ho : hasN g n = false := by unfold hasN; rw [decide_eq_false h]; rfl
    rw [ho]
    have hc : (n < 0) ∨ (¬ n < 0 ∧ 15 < n) := by omega
    rcases hc with h1 | ⟨h1, h2⟩
    · have h1' : decide (n < 0) = true := decide_eq_true h1
      go_enter Try.func55, Try.ntmps55
      go_wp2_with fail
      go_ret
      exact ⟨rfl, rfl⟩
    · have h1' : decide (n < 0) = false := decide_eq_false h1
      have h2' : decide (15 < n) = true := decide_eq_true h2
      go_enter Try.func55, Try.ntmps55
      go_wp2_with fail
      go_ret
      exact ⟨rfl, rfl⟩
end Go.Proofs.Ytkmkfkpblkhpmaa.VGrp
