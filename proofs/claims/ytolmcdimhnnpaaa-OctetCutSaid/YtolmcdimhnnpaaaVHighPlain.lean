/- The bytes of numbers stand in their order. No program in sight. -/
import Derived.Test.YtolmcdimhnnpaaaVOctDef
import Derived.Laws.Strings
namespace Go.VOct
open Go.VBase

theorem bytesLess_irr (x : List UInt8) : Op.bytesLess x x = false := by
  induction x with
  | nil => rfl
  | cons a x ih => simp [Op.bytesLess, ih]
theorem bytesLess_snoc : ∀ (x y : List UInt8) (a b : UInt8), x.length = y.length → Op.bytesLess (x ++ [a]) (y ++ [b]) = (Op.bytesLess x y || (x == y && decide (a < b)))
  | [], [], a, b, _ => by simp [Op.bytesLess]
  | [], _ :: _, _, _, h => by simp at h
  | _ :: _, [], _, _, h => by simp at h
  | c :: x, d :: y, a, b, h => by
    have ih := bytesLess_snoc x y a b (by simpa using h)
    simp only [List.cons_append, Op.bytesLess, ih]
    by_cases h1 : c < d
    · simp [h1]
    · by_cases h2 : c = d
      · subst h2; simp
      · have : (c == d) = false := by simpa using h2
        simp [h1, this]
theorem beB_eq : ∀ (k n m : Nat), n < 256 ^ k → m < 256 ^ k → (beB k n = beB k m ↔ n = m)
  | 0, n, m, hn, hm => by simp at hn hm; subst hn hm; simp
  | k + 1, n, m, hn, hm => by
    have hn' : n / 256 < 256 ^ k := by rw [Nat.pow_succ] at hn; omega
    have hm' : m / 256 < 256 ^ k := by rw [Nat.pow_succ] at hm; omega
    have ih := beB_eq k (n / 256) (m / 256) hn' hm'
    constructor
    · intro h
      simp only [beB] at h
      obtain ⟨h1, h2⟩ := List.append_inj h (by rw [beB_len, beB_len])
      have h3 := ih.1 h1
      have h4 : UInt8.ofNat (n % 256) = UInt8.ofNat (m % 256) := by simpa using h2
      have h5 := congrArg UInt8.toNat h4
      simp only [UInt8.toNat_ofNat'] at h5
      omega
    · rintro rfl; rfl
theorem beB_less : ∀ (k n m : Nat), n < 256 ^ k → m < 256 ^ k → Op.bytesLess (beB k n) (beB k m) = decide (n < m)
  | 0, n, m, hn, hm => by simp at hn hm; subst hn hm; rfl
  | k + 1, n, m, hn, hm => by
    have hn' : n / 256 < 256 ^ k := by rw [Nat.pow_succ] at hn; omega
    have hm' : m / 256 < 256 ^ k := by rw [Nat.pow_succ] at hm; omega
    simp only [beB]
    rw [bytesLess_snoc _ _ _ _ (by rw [beB_len, beB_len]), beB_less k _ _ hn' hm']
    have e1 : (beB k (n / 256) == beB k (m / 256)) = decide (n / 256 = m / 256) := by
      rw [Bool.eq_iff_iff]; simp [beB_eq k _ _ hn' hm']
    have e2 : (UInt8.ofNat (n % 256) < UInt8.ofNat (m % 256)) ↔ n % 256 < m % 256 := by
      rw [UInt8.lt_iff_toNat_lt]; simp only [UInt8.toNat_ofNat']; omega
    rw [e1, Bool.eq_iff_iff]
    simp only [Bool.or_eq_true, Bool.and_eq_true, decide_eq_true_eq, e2]
    omega
theorem beB_mod : ∀ (j n : Nat), beB j (n % 256 ^ j) = beB j n
  | 0, n => rfl
  | j + 1, n => by
    simp only [beB]
    have h1 : n % 256 ^ (j + 1) / 256 = n / 256 % 256 ^ j := by rw [Nat.pow_succ, Nat.mul_comm, Nat.mod_mul_right_div_self]
    have h2 : n % 256 ^ (j + 1) % 256 = n % 256 := by rw [Nat.pow_succ, Nat.mul_comm]; exact Nat.mod_mul_right_mod _ _ _
    rw [h1, h2, beB_mod j]
theorem beB_add : ∀ (i j n : Nat), beB (i + j) n = beB i (n / 256 ^ j) ++ beB j n
  | i, 0, n => by simp [beB]
  | i, j + 1, n => by
    have ih := beB_add i j (n / 256)
    rw [← Nat.add_assoc]
    simp only [beB]
    rw [ih, Nat.div_div_eq_div_mul, Nat.pow_succ, Nat.mul_comm 256, List.append_assoc]
theorem strB_toList (l : List UInt8) : (strB l).toList = l := ByteArray.toList_mk l
end Go.VOct
