/- One Out of a call's own. -/
import Derived.Test.YtcdaelgnankmfaaVPutOk
import Derived.Test.YtcdaelgnankmfaaVGet
namespace Go.Proofs.Ytcdaelgnankmfaa.VOct
open Go.RowKit Go.VBase Go.VOct

/-- An Out that was made since the world w. -/
structure OutI (w W : World) (B : Nat) (r : Option Nat) (st : Option (List UInt8)) : Prop where
  out : OutAt W TOut TB B r st
  ext : Ext w W
  rge : ∀ g, r = some g → w.heap.size ≤ g
  le : w.heap.size ≤ B
theorem OutI.turn {w W W' : World} {B : Nat} {r : Option Nat} {st st' : Option (List UInt8)} {e : Ending} (h : OutI w W B r st) (hp : TailPost W B r st' e W') :
    e = .returned (.pointer (some ⟨B, 0, none⟩)) ∧ ∃ r', OutI w W' B r' st' := by
  obtain ⟨he, r', ho, ht, hn⟩ := hp
  refine ⟨he, r', ho, Below.trans h.ext (ht.below h.ext.size h.le h.rge), fun g hg => ?_, h.le⟩
  rcases hn g hg with h1 | h1
  · exact h.rge g h1
  · exact Nat.le_trans h.ext.size h1
theorem OutI.later {w W W' : World} {B : Nat} {r : Option Nat} {st : Option (List UInt8)} (h : OutI w W B r st) (x : Ext W W') : OutI w W' B r st := ⟨h.out.ext x, h.ext.trans x, h.rge, h.le⟩
theorem OutI.new {w : World} : OutI w (w.alloc (.cells #[.slice none 0 0, .bool false] TOut)) w.heap.size none (some []) := ⟨OutAt.new w _ _, Ext.alloc _ _, fun _ h => (by cases h), Nat.le_refl _⟩

/-- A number's bytes, there and back. -/
theorem numB_beB' : ∀ (k n : Nat), n < 256 ^ k → numB (beB k n) = n
  | 0, n, h => by simp at h; subst h; rfl
  | k + 1, n, h => by
    have h1 : n / 256 < 256 ^ k := by rw [Nat.pow_succ] at h; exact Nat.div_lt_of_lt_mul (by omega)
    rw [beB, numB_snoc, numB_beB' k (n / 256) h1]
    simp
    omega
theorem beB_numB' (l : List UInt8) : ∀ k, l.length = k → beB k (numB l) = l := by
  intro k
  induction k generalizing l with
  | zero => intro h; rw [List.length_eq_zero_iff.1 h]; rfl
  | succ k ih =>
    intro h
    have hne : l ≠ [] := by intro e; subst e; simp at h
    obtain ⟨init, a, rfl⟩ : ∃ init a, l = init ++ [a] := ⟨l.dropLast, l.getLast hne, (List.dropLast_concat_getLast hne).symm⟩
    have hi : init.length = k := by simp at h; omega
    rw [numB_snoc, beB]
    have ha := a.toNat_lt
    rw [show (256 * numB init + a.toNat) / 256 = numB init by omega, show (256 * numB init + a.toNat) % 256 = a.toNat by omega, ih init hi]
    simp
theorem numB_from : ∀ (l : List UInt8) (n : Nat), l.foldl (fun n b => 256 * n + b.toNat) n = n * 256 ^ l.length + numB l
  | [], n => by simp [numB]
  | c :: l, n => by
    rw [List.foldl_cons, numB_from l, List.length_cons, Nat.pow_succ]
    have h : numB (c :: l) = c.toNat * 256 ^ l.length + numB l := by
      unfold numB
      rw [List.foldl_cons, show 256 * 0 + c.toNat = c.toNat by omega]
      exact numB_from l c.toNat
    rw [h, Nat.add_mul, Nat.mul_comm 256 n, Nat.mul_assoc, Nat.mul_comm 256]
    omega
theorem numB_append (l m : List UInt8) : numB (l ++ m) = numB l * 256 ^ m.length + numB m := by
  unfold numB
  rw [List.foldl_append]
  exact numB_from m _
end Go.Proofs.Ytcdaelgnankmfaa.VOct
