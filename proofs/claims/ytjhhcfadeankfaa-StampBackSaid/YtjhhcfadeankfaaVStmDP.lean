/- stamp: what bytes say, in plain words. -/
import Derived.Test.YtjhhcfadeankfaaVStmEnc
import Derived.Test.YtjhhcfadeankfaaVGet
namespace Go.Proofs.Ytjhhcfadeankfaa.VMsg
open Go.RowKit Go.VBase Go.VRg Go.VEq VCst Go.VPlan VPlan Go.VOct VOct

theorem inT_some (l : List UInt8) (k : Nat) : inTake (some l) (k : Int) = if k ≤ l.length then (l.take k, some (l.drop k)) else ([], none) := by
  show (if 0 ≤ (k : Int) ∧ (k : Int) ≤ l.length then (l.take (k : Int).toNat, some (l.drop (k : Int).toNat)) else ([], none)) = _
  by_cases h : k ≤ l.length
  · rw [if_pos h, if_pos ⟨by omega, by omega⟩]; rfl
  · rw [if_neg h, if_neg (by omega)]
theorem inT_none (k : Int) : inTake none k = ([], none) := rfl
def s64 (n : Nat) : Int := IntKind.i64.wrap (n : Int)
/-- How many bytes a payload has. -/
def payN (l : List UInt8) : Nat := numB ((l.drop 13).take 1)
/-- The first message of bytes, and what is left. -/
def rdL (l : List UInt8) : Option (MsgD × List UInt8) :=
  if 14 + payN l ≤ l.length ∧ 14 ≤ l.length then
    some (⟨s64 (numB (l.take 8)), (numB ((l.drop 8).take 1) : Int), (numB ((l.drop 9).take 4) : Int), (l.drop 14).take (payN l)⟩, l.drop (14 + payN l))
  else none
def t8 (l : List UInt8) := inTake (some l) 8
def t9 (l : List UInt8) := inTake (t8 l).2 1
def t13 (l : List UInt8) := inTake (t9 l).2 4
def t14 (l : List UInt8) := inTake (t13 l).2 1
def tPay (l : List UInt8) := inTake (t14 l).2 (numB (t14 l).1 : Int)
theorem numB_nil : numB [] = 0 := rfl
/-- Five readings, one behind the other. -/
theorem rd_chain (l : List UInt8) : (∃ m rest, rdL l = some (m, rest) ∧ s64 (numB (t8 l).1) = m.st ∧ (numB (t9 l).1 : Int) = m.se ∧ (numB (t13 l).1 : Int) = m.nu ∧ tPay l = (m.b, some rest)) ∨ (rdL l = none ∧ (tPay l).2 = none) := by
  by_cases h8 : 8 ≤ l.length
  · have e8 : t8 l = (l.take 8, some (l.drop 8)) := by
      have := inT_some l 8
      rw [if_pos h8] at this; exact this
    by_cases h9 : 9 ≤ l.length
    · have e9 : t9 l = ((l.drop 8).take 1, some (l.drop 9)) := by
        have := inT_some (l.drop 8) 1
        rw [if_pos (by rw [List.length_drop]; omega), List.drop_drop] at this
        unfold t9; rw [e8]; exact this
      by_cases h13 : 13 ≤ l.length
      · have e13 : t13 l = ((l.drop 9).take 4, some (l.drop 13)) := by
          have := inT_some (l.drop 9) 4
          rw [if_pos (by rw [List.length_drop]; omega), List.drop_drop] at this
          unfold t13; rw [e9]; exact this
        by_cases h14 : 14 ≤ l.length
        · have e14 : t14 l = ((l.drop 13).take 1, some (l.drop 14)) := by
            have := inT_some (l.drop 13) 1
            rw [if_pos (by rw [List.length_drop]; omega), List.drop_drop] at this
            unfold t14; rw [e13]; exact this
          have eP : tPay l = if payN l ≤ (l.drop 14).length then ((l.drop 14).take (payN l), some ((l.drop 14).drop (payN l))) else ([], none) := by
            unfold tPay; rw [e14]; exact inT_some _ _
          by_cases hp : 14 + payN l ≤ l.length
          · left
            rw [if_pos (by rw [List.length_drop]; omega), List.drop_drop] at eP
            exact ⟨_, _, by unfold rdL; rw [if_pos ⟨hp, h14⟩], by rw [e8], by rw [e9], by rw [e13], eP⟩
          · right
            rw [if_neg (by rw [List.length_drop]; omega)] at eP
            exact ⟨by unfold rdL; rw [if_neg (fun h => hp h.1)], by rw [eP]⟩
        · right
          have e14 : t14 l = ([], none) := by
            have := inT_some (l.drop 13) 1
            rw [if_neg (by rw [List.length_drop]; omega)] at this
            unfold t14; rw [e13]; exact this
          exact ⟨by unfold rdL; rw [if_neg (fun h => h14 h.2)], by unfold tPay; rw [e14]; rfl⟩
      · right
        have e13 : t13 l = ([], none) := by
          have := inT_some (l.drop 9) 4
          rw [if_neg (by rw [List.length_drop]; omega)] at this
          unfold t13; rw [e9]; exact this
        exact ⟨by unfold rdL; rw [if_neg (by omega)], by unfold tPay t14; rw [e13]; rfl⟩
    · right
      have e9 : t9 l = ([], none) := by
        have := inT_some (l.drop 8) 1
        rw [if_neg (by rw [List.length_drop]; omega)] at this
        unfold t9; rw [e8]; exact this
      exact ⟨by unfold rdL; rw [if_neg (by omega)], by unfold tPay t14 t13; rw [e9]; rfl⟩
  · right
    have e8 : t8 l = ([], none) := by
      have := inT_some l 8
      rw [if_neg h8] at this; exact this
    exact ⟨by unfold rdL; rw [if_neg (by omega)], by unfold tPay t14 t13 t9; rw [e8]; rfl⟩
theorem rdL_len {l rest : List UInt8} {m : MsgD} (h : rdL l = some (m, rest)) : rest.length + 14 + m.b.length = l.length := by
  unfold rdL at h
  split at h
  · rename_i hc
    cases h
    simp only [List.length_drop, List.length_take]
    omega
  · cases h
/-- These messages have been read of b, l is left. -/
inductive RunM (b : List UInt8) : List MsgD → List UInt8 → Prop
  | nil : RunM b [] b
  | snoc {pre l m rest} : RunM b pre l → rdL l = some (m, rest) → RunM b (pre ++ [m]) rest
def parseN : Nat → List UInt8 → Option (List MsgD)
  | 0, l => if l = [] then some [] else none
  | n + 1, l => match rdL l with
    | some (m, rest) => (parseN n rest).map (m :: ·)
    | none => none
theorem RunM.parse {b : List UInt8} {pre : List MsgD} {l : List UInt8} (h : RunM b pre l) : ∀ k, parseN (pre.length + k) b = (parseN k l).map (pre ++ ·) := by
  induction h with
  | nil => intro k; simp
  | @snoc pre l m rest h1 h2 ih =>
    intro k
    rw [List.length_append, List.length_singleton, Nat.add_assoc, ih (1 + k), Nat.add_comm 1 k]
    show Option.map _ (match rdL l with | some (m, rest) => (parseN k rest).map (m :: ·) | none => none) = _
    rw [h2]
    show Option.map _ (Option.map _ (parseN k rest)) = _
    rw [Option.map_map]
    congr 1
    funext x
    simp
theorem RunM.split {b : List UInt8} {pre : List MsgD} {l : List UInt8} (h : RunM b pre l) : ∀ n, n < pre.length → ∃ p' l' m rest, RunM b p' l' ∧ p'.length = n ∧ rdL l' = some (m, rest) := by
  induction h with
  | nil => intro n hn; simp at hn
  | @snoc pre l m rest h1 h2 ih =>
    intro n hn
    rw [List.length_append, List.length_singleton] at hn
    by_cases e : n = pre.length
    · exact ⟨pre, l, m, rest, h1, e.symm, h2⟩
    · exact ih n (by omega)
theorem rdL_nil : rdL [] = none := by decide
theorem RunM.short {b : List UInt8} {pre : List MsgD} {l : List UInt8} (h : RunM b pre l) (n : Nat) (hn : n < pre.length) : parseN n b = none := by
  obtain ⟨p', l', m, rest, h1, h2, h3⟩ := h.split n hn
  have := h1.parse 0
  rw [Nat.add_zero, h2] at this
  rw [this]
  have : l' ≠ [] := by rintro rfl; rw [rdL_nil] at h3; cases h3
  show Option.map _ (if l' = [] then some [] else none) = none
  rw [if_neg this]; rfl
/-- All has been read. -/
theorem RunM.whole {b : List UInt8} {pre : List MsgD} (h : RunM b pre []) (n : Nat) : parseN n b = if pre.length = n then some pre else none := by
  by_cases e : pre.length = n
  · rw [if_pos e]
    have := h.parse 0
    rw [Nat.add_zero, e] at this
    rw [this]; simp [parseN]
  · rw [if_neg e]
    rcases Nat.lt_or_ge n pre.length with h1 | h1
    · exact h.short n h1
    · obtain ⟨k, rfl⟩ : ∃ k, n = pre.length + (k + 1) := ⟨n - pre.length - 1, by omega⟩
      rw [h.parse (k + 1)]
      show Option.map _ (match rdL [] with | some (m, rest) => (parseN k rest).map (m :: ·) | none => none) = none
      rw [rdL_nil]; rfl
/-- What is left is no message. -/
theorem RunM.stuck {b : List UInt8} {pre : List MsgD} {l : List UInt8} (h : RunM b pre l) (hl : l ≠ []) (hr : rdL l = none) (n : Nat) : parseN n b = none := by
  rcases Nat.lt_or_ge n pre.length with h1 | h1
  · exact h.short n h1
  · obtain ⟨k, rfl⟩ : ∃ k, n = pre.length + k := ⟨n - pre.length, by omega⟩
    rw [h.parse k]
    cases k with
    | zero => show Option.map _ (if l = [] then some [] else none) = none; rw [if_neg hl]; rfl
    | succ k =>
      show Option.map _ (match rdL l with | some (m, rest) => (parseN k rest).map (m :: ·) | none => none) = none
      rw [hr]; rfl
/-- What bytes say, by the program. -/
def decSM (p : PlanD) (b : List UInt8) : Option (List MsgD) :=
  match b with
  | [] => if togB p [] then some [] else none
  | c :: b => if c.toNat = 0 then none else match parseN c.toNat b with
    | some xs => if togB p xs then some xs else none
    | none => none
end Go.Proofs.Ytjhhcfadeankfaa.VMsg
