/- One bit of a number. No program in sight. -/
namespace Go.VBit
theorem or_set {g k : Nat} (h : g / 2 ^ k % 2 = 1) : g ||| 2 ^ k = g := by
  apply Nat.eq_of_testBit_eq
  intro i
  rw [Nat.testBit_or, Nat.testBit_two_pow]
  by_cases hi : k = i
  · subst hi
    have : g.testBit k = true := by rw [Nat.testBit_eq_decide_div_mod_eq]; exact decide_eq_true h
    simp [this]
  · simp [hi]
theorem or_unset {g k : Nat} (h : g / 2 ^ k % 2 = 0) : g ||| 2 ^ k = g + 2 ^ k := by
  have hp : 0 < 2 ^ k := Nat.pow_pos (by decide)
  obtain ⟨lo, hlo⟩ : ∃ lo, g % 2 ^ k = lo := ⟨_, rfl⟩
  obtain ⟨hi, hhi⟩ : ∃ hi, g / 2 ^ k / 2 = hi := ⟨_, rfl⟩
  have hll : lo < 2 ^ k := by rw [← hlo]; exact Nat.mod_lt _ hp
  have hq : g / 2 ^ k = 2 * hi := by omega
  have hg : g = 2 ^ (k + 1) * hi + lo := by
    have := Nat.div_add_mod g (2 ^ k)
    rw [hq, hlo] at this
    rw [← this, Nat.pow_succ, Nat.mul_assoc]
  have e1 : 2 ^ (k + 1) * hi + lo = 2 ^ (k + 1) * hi ||| lo := Nat.two_pow_add_eq_or_of_lt (by rw [Nat.pow_succ]; omega) hi
  have e2 : 2 ^ k * 1 + lo = 2 ^ k * 1 ||| lo := Nat.two_pow_add_eq_or_of_lt hll 1
  have e3 : 2 ^ (k + 1) * hi + (2 ^ k * 1 + lo) = 2 ^ (k + 1) * hi ||| (2 ^ k * 1 + lo) := Nat.two_pow_add_eq_or_of_lt (by rw [Nat.pow_succ]; omega) hi
  have e4 : g + 2 ^ k = 2 ^ (k + 1) * hi + (2 ^ k * 1 + lo) := by omega
  rw [e4, e3, e2, hg, e1, Nat.mul_one, Nat.or_assoc, Nat.or_comm lo]
theorem andNot_unset {g k : Nat} (hg : g < 65536) (hk : k ≤ 15) (h : g / 2 ^ k % 2 = 0) : g &&& (65535 - 2 ^ k) = g := by
  apply Nat.eq_of_testBit_eq
  intro i
  have hb : g.testBit k = false := by rw [Nat.testBit_eq_decide_div_mod_eq]; exact decide_eq_false (by omega)
  have hlt : 2 ^ k < 2 ^ 16 := Nat.pow_lt_pow_right (by decide) (by omega)
  rw [Nat.testBit_and, show 65535 - 2 ^ k = 2 ^ 16 - (2 ^ k + 1) by omega, Nat.testBit_two_pow_sub_succ hlt, Nat.testBit_two_pow]
  by_cases hi : k = i
  · subst hi; simp [hb]
  · by_cases h16 : i < 16
    · simp [hi, h16]
    · have : g.testBit i = false := Nat.testBit_lt_two_pow (Nat.lt_of_lt_of_le hg (by rw [show 65536 = 2 ^ 16 from rfl]; exact Nat.pow_le_pow_right (by decide) (by omega)))
      simp [this]
theorem andNot_set {g k : Nat} (hg : g < 65536) (hk : k ≤ 15) (h : g / 2 ^ k % 2 = 1) : g &&& (65535 - 2 ^ k) = g - 2 ^ k := by
  have hp : 0 < 2 ^ k := Nat.pow_pos (by decide)
  have hle : 2 ^ k ≤ g := by
    rcases Nat.lt_or_ge g (2 ^ k) with h1 | h1
    · rw [Nat.div_eq_of_lt h1] at h; cases h
    · exact h1
  obtain ⟨y, hy⟩ : ∃ y, g = y + 2 ^ k := ⟨g - 2 ^ k, by omega⟩
  have hyb : y / 2 ^ k % 2 = 0 := by
    rw [hy, Nat.add_div_right _ hp] at h; omega
  have e := or_unset hyb
  rw [hy, Nat.add_sub_cancel, ← e, Nat.and_or_distrib_right, andNot_unset (by omega) hk hyb]
  have : 2 ^ k &&& (65535 - 2 ^ k) = 0 := by
    apply Nat.eq_of_testBit_eq
    intro i
    have hlt : 2 ^ k < 2 ^ 16 := Nat.pow_lt_pow_right (by decide) (by omega)
    rw [Nat.testBit_and, show 65535 - 2 ^ k = 2 ^ 16 - (2 ^ k + 1) by omega, Nat.testBit_two_pow_sub_succ hlt, Nat.testBit_two_pow]
    by_cases hi : k = i <;> simp [hi]
  rw [this, Nat.or_zero]
end Go.VBit
