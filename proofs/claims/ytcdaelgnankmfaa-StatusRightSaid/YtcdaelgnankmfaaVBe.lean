/- A C-state's bytes, there and back. No program in sight. -/
import Derived.Test.YtcdaelgnankmfaaVDec
namespace Go.Proofs.Ytcdaelgnankmfaa.VCst
open Go.RowKit Go.VBase Go.VOct Go.VRg VOct

theorem numB_be : ∀ (k n : Nat), n < 256 ^ k → numB (beB k n) = n
  | 0, n, h => by simp at h; subst h; rfl
  | k + 1, n, h => by
    have h1 : n / 256 < 256 ^ k := by rw [Nat.pow_succ] at h; exact Nat.div_lt_of_lt_mul (by omega)
    rw [beB, numB_snoc, numB_be k (n / 256) h1]
    simp
    omega
theorem be_numB (l : List UInt8) : ∀ k, l.length = k → beB k (numB l) = l := by
  intro k
  induction k generalizing l with
  | zero => intro h; rw [List.length_eq_zero_iff.1 h]; rfl
  | succ k ih =>
    intro h
    have hne : l ≠ [] := by intro e; subst e; simp at h
    obtain ⟨init, a, rfl⟩ : ∃ init a, l = init ++ [a] := ⟨l.dropLast, l.getLast hne, (List.dropLast_concat_getLast hne).symm⟩
    have hi : init.length = k := by simp at h; omega
    rw [numB_snoc, beB]
    have ha := a.toNat_lt
    rw [show (256 * numB init + a.toNat) / 256 = numB init by omega, show (256 * numB init + a.toNat) % 256 = a.toNat by omega, ih init hi]
    simp
theorem parts {a b c d : List UInt8} (ha : a.length = 4) (hb : b.length = 1) (hc : c.length = 1) :
    (a ++ b ++ c ++ d).take 4 = a ∧ ((a ++ b ++ c ++ d).drop 4).take 1 = b ∧ ((a ++ b ++ c ++ d).drop 5).take 1 = c ∧ (a ++ b ++ c ++ d).drop 6 = d ∧ (a ++ b ++ c ++ d).take 6 = a ++ b ++ c := by
  refine ⟨?_, ?_, ?_, ?_, ?_⟩
  · rw [List.append_assoc, List.append_assoc, List.take_left' ha]
  · rw [List.append_assoc, List.append_assoc, List.drop_left' ha, List.take_left' hb]
  · rw [List.append_assoc (a ++ b), List.drop_left' (by simp; omega), List.take_left' hc]
  · rw [List.drop_left' (by simp; omega)]
  · rw [List.take_left' (by simp; omega)]
theorem whole {l : List UInt8} : l.take 4 ++ (l.drop 4).take 1 ++ (l.drop 5).take 1 ++ l.drop 6 = l := by
  have e1 : (l.drop 5).take 1 ++ l.drop 6 = l.drop 5 := by
    have := List.take_append_drop 1 (l.drop 5)
    rwa [List.drop_drop] at this
  have e2 : (l.drop 4).take 1 ++ l.drop 5 = l.drop 4 := by
    have := List.take_append_drop 1 (l.drop 4)
    rwa [List.drop_drop] at this
  rw [List.append_assoc, List.append_assoc, e1, e2, List.take_append_drop]
/-- What is read of any bytes has just these. -/
theorem enc_of_dec {l : List UInt8} {r s m : Int} {g : Nat} (h : decC l = some (r, s, m, g)) : encC r s m g = some l ∧ g < 65536 := by
  unfold decC at h
  split at h
  · rename_i hc
    obtain ⟨h8, hk⟩ := hc
    simp only [Option.some.injEq, Prod.mk.injEq] at h
    obtain ⟨rfl, rfl, rfl, rfl⟩ := h
    unfold encC
    rw [if_pos hk]
    unfold cstBy
    simp only [Int.toNat_natCast]
    rw [be_numB _ 4 (by rw [List.length_take]; omega), be_numB _ 1 (by rw [List.length_take, List.length_drop]; omega), be_numB _ 1 (by rw [List.length_take, List.length_drop]; omega), be_numB _ 2 (by rw [List.length_drop]; omega), whole]
    refine ⟨rfl, Nat.lt_of_lt_of_le (numB_lt _) ?_⟩
    rw [List.length_drop, h8]
    decide
  · cases h
/-- It is read from its bytes as it was. -/
theorem dec_of_enc {l : List UInt8} {r s m : Int} {g : Nat} (hg : g < 65536) (h : encC r s m g = some l) : decC l = some (r, s, m, g) ∧ l.length = 8 ∧ l = cstBy r s m g ∧ chkB r s m = true := by
  unfold encC at h
  split at h
  · rename_i hk
    obtain ⟨b0, b1, b2, b3, b4, b5⟩ := chkB_facts hk
    simp only [Option.some.injEq] at h
    subst h
    refine ⟨?_, cstBy_len _ _ _ _, rfl, hk⟩
    have p := parts (a := beB 4 r.toNat) (b := beB 1 s.toNat) (c := beB 1 m.toNat) (d := beB 2 g) (beB_len _ _) (beB_len _ _) (beB_len _ _)
    unfold decC
    rw [cstBy_len]
    unfold cstBy
    have q1 : r.toNat < 256 ^ 4 := by have : r.toNat < 4294967296 := by omega
                                      simpa using this
    have q2 : s.toNat < 256 ^ 1 := by have : s.toNat < 256 := by omega
                                      simpa using this
    have q3 : m.toNat < 256 ^ 1 := by have : m.toNat < 256 := by omega
                                      simpa using this
    rw [p.1, p.2.1, p.2.2.1, p.2.2.2.1, numB_be 4 _ q1, numB_be 1 _ q2, numB_be 1 _ q3, numB_be 2 _ (by simpa using hg)]
    rw [Int.toNat_of_nonneg b0, Int.toNat_of_nonneg b2, Int.toNat_of_nonneg b4, if_pos ⟨rfl, hk⟩]
  · cases h
/-- Vectors stand in the last two bytes, and just there. -/
theorem vec_last (r s m : Int) {g v : Nat} (hg : g < 65536) (hv : v < 65536) : (cstBy r s m g).take 6 = (cstBy r s m v).take 6 ∧ (cstBy r s m g = cstBy r s m v ↔ g = v) := by
  have p := fun x => parts (a := beB 4 r.toNat) (b := beB 1 s.toNat) (c := beB 1 m.toNat) (d := beB 2 x) (beB_len _ _) (beB_len _ _) (beB_len _ _)
  refine ⟨?_, fun h => ?_, fun h => by rw [h]⟩
  · unfold cstBy; rw [(p g).2.2.2.2, (p v).2.2.2.2]
  · have : numB ((cstBy r s m g).drop 6) = numB ((cstBy r s m v).drop 6) := by rw [h]
    unfold cstBy at this
    rw [(p g).2.2.2.1, (p v).2.2.2.1, numB_be 2 _ (by simpa using hg), numB_be 2 _ (by simpa using hv)] at this
    exact this
end Go.Proofs.Ytcdaelgnankmfaa.VCst
