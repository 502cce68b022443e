/- Numbers of four bytes, written and cut. No program in sight but octet's contracts' words. -/
import Derived.Test.YtolmcdimhnnpaaaVGet
import Derived.Test.YtolmcdimhnnpaaaVHighPlain
namespace Go.Proofs.Ytolmcdimhnnpaaa.VOct
open Go.RowKit Go.VBase Go.VOct

theorem numB_beB : ∀ (k n : Nat), numB (beB k n) = n % 256 ^ k
  | 0, n => by simp [beB, numB, Nat.mod_one]
  | k + 1, n => by
    rw [beB, numB_snoc, numB_beB k]
    have : (UInt8.ofNat (n % 256)).toNat = n % 256 := by simp
    rw [this, Nat.pow_succ, Nat.mul_comm (256 ^ k) 256, Nat.mod_mul]; omega

/-- Numbers' bytes, four each. -/
def wr4 (l : List Nat) : List UInt8 := l.flatMap (beB 4)
theorem wr4_len (l : List Nat) : (wr4 l).length = 4 * l.length := by
  induction l with
  | nil => rfl
  | cons a l ih => rw [wr4, List.flatMap_cons, List.length_append, beB_len, List.length_cons]; have : (l.flatMap (beB 4)).length = 4 * l.length := ih; omega
theorem wr4_snoc (l : List Nat) (a : Nat) : wr4 (l ++ [a]) = wr4 l ++ beB 4 a := by simp [wr4]
theorem wr4_drop (l : List Nat) : ∀ j, j ≤ l.length → (wr4 l).drop (4 * j) = wr4 (l.drop j) := by
  intro j hj
  have e : wr4 l = wr4 (l.take j) ++ wr4 (l.drop j) := by
    unfold wr4
    rw [← List.flatMap_append, List.take_append_drop]
  have hl : (wr4 (l.take j)).length = 4 * j := by rw [wr4_len, List.length_take, Nat.min_eq_left hj]
  rw [e, ← hl, List.drop_left]

/-- What is left of bytes that are cut behind j numbers. -/
def cutSt (l : List Nat) (n j : Nat) : Option (List UInt8) := if 4 * j ≤ n then some (((wr4 l).take n).drop (4 * j)) else none
theorem cut_whole {l : List Nat} {n j c : Nat} (hj : l[j]? = some c) (hc : c < 4294967296) (hn : n ≤ 4 * l.length) (hw : 4 * j + 4 ≤ n) : inTake (cutSt l n j) 4 = (beB 4 c, cutSt l n (j + 1)) ∧ numB (beB 4 c) = c := by
  have hjl : j < l.length := (List.getElem?_eq_some_iff.1 hj).1
  refine ⟨?_, by rw [numB_beB]; exact Nat.mod_eq_of_lt hc⟩
  unfold cutSt
  rw [if_pos (by omega), if_pos (by omega)]
  have hlen : (((wr4 l).take n).drop (4 * j)).length = n - 4 * j := by rw [List.length_drop, List.length_take, wr4_len]; omega
  unfold inTake
  simp only
  rw [if_pos ⟨by decide, by rw [hlen]; omega⟩]
  have e4 : (4 : Int).toNat = 4 := rfl
  rw [e4, List.drop_drop, show 4 * j + 4 = 4 * (j + 1) by omega]
  congr 1
  rw [List.drop_take, List.take_take, Nat.min_eq_left (by omega), wr4_drop l j (by omega)]
  obtain ⟨_, hget⟩ := List.getElem?_eq_some_iff.1 hj
  rw [List.drop_eq_getElem_cons hjl, hget, wr4, List.flatMap_cons]
  exact List.take_left' (beB_len 4 c)
theorem cut_short {l : List Nat} {n j : Nat} (hn : n ≤ 4 * l.length) (hw : n < 4 * j + 4) : inTake (cutSt l n j) 4 = ([], none) ∧ cutSt l n (j + 1) = none := by
  refine ⟨?_, by unfold cutSt; rw [if_neg (by omega)]⟩
  unfold cutSt
  by_cases h : 4 * j ≤ n
  · rw [if_pos h]
    have hlen : (((wr4 l).take n).drop (4 * j)).length = n - 4 * j := by rw [List.length_drop, List.length_take, wr4_len]; omega
    unfold inTake
    simp only
    rw [if_neg (by rw [hlen]; omega)]
  · rw [if_neg h]; rfl
theorem cut_none {l : List Nat} {n j : Nat} : (cutSt l n j).isNone = !decide (4 * j ≤ n) := by
  unfold cutSt; by_cases h : 4 * j ≤ n <;> simp [h]
theorem cut_end {l : List Nat} {n : Nat} (hn : n ≤ 4 * l.length) : (cutSt l n l.length == some []) = decide (n = 4 * l.length) := by
  unfold cutSt
  by_cases h : 4 * l.length ≤ n
  · have : n = 4 * l.length := by omega
    subst this
    have e : ((wr4 l).take (4 * l.length)).drop (4 * l.length) = [] := by apply List.drop_eq_nil_iff.2; rw [List.length_take]; omega
    rw [if_pos (Nat.le_refl _), e]; simp
  · have : ¬ n = 4 * l.length := by omega
    rw [if_neg h]; simp [this]
theorem put4 (l : List Nat) (a : Nat) (ha : a < 4294967296) : stPut (some (wr4 l)) 4 a = some (wr4 (l ++ [a])) := by
  unfold stPut putB
  rw [if_pos ⟨by decide, by simpa using ha⟩, wr4_snoc]; rfl
end Go.Proofs.Ytolmcdimhnnpaaa.VOct
