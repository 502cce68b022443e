/- stamp: messages' bytes, there and back. -/
import Derived.Test.YtjhhcfadeankfaaVStmDP
import Derived.Test.YtjhhcfadeankfaaVOutI
namespace Go.Proofs.Ytjhhcfadeankfaa.VMsg
open Go.RowKit Go.VBase Go.VRg Go.VEq VCst Go.VPlan VPlan Go.VOct VOct

/-- A message that bytes can say. -/
def Sayable (m : MsgD) : Prop := 0 ≤ m.st ∧ m.st < 9223372036854775808 ∧ 0 ≤ m.se ∧ m.se < 256 ∧ 0 ≤ m.nu ∧ m.nu < 4294967296 ∧ m.b.length < 256
theorem sayable_of {p : PlanD} {m : MsgD} (hp : planOk p = true) (hm : mayB p m = true) : Sayable m := by
  have a := mayB_facts hm
  have b := planOk_facts hp
  unfold Sayable
  omega
theorem rdL_msgB {m : MsgD} (h : Sayable m) (rest : List UInt8) : rdL (msgB m ++ rest) = some (m, rest) := by
  obtain ⟨h0, h1, h2, h3, h4, h5, h6⟩ := h
  obtain ⟨st, se, nu, b⟩ := m
  simp only at h0 h1 h2 h3 h4 h5 h6
  have e : msgB ⟨st, se, nu, b⟩ ++ rest = beB 8 st.toNat ++ (beB 1 se.toNat ++ (beB 4 nu.toNat ++ (beB 1 b.length ++ (b ++ rest)))) := by
    unfold msgB; simp only [List.append_assoc]
  have l8 := beB_len 8 st.toNat
  have l1 := beB_len 1 se.toNat
  have l4 := beB_len 4 nu.toNat
  have lb := beB_len 1 b.length
  have d8 : (msgB ⟨st, se, nu, b⟩ ++ rest).drop 8 = beB 1 se.toNat ++ (beB 4 nu.toNat ++ (beB 1 b.length ++ (b ++ rest))) := by rw [e, List.drop_left' l8]
  have d9 : (msgB ⟨st, se, nu, b⟩ ++ rest).drop 9 = beB 4 nu.toNat ++ (beB 1 b.length ++ (b ++ rest)) := by
    have : (msgB ⟨st, se, nu, b⟩ ++ rest).drop 9 = ((msgB ⟨st, se, nu, b⟩ ++ rest).drop 8).drop 1 := by rw [List.drop_drop]
    rw [this, d8, List.drop_left' l1]
  have d13 : (msgB ⟨st, se, nu, b⟩ ++ rest).drop 13 = beB 1 b.length ++ (b ++ rest) := by
    have : (msgB ⟨st, se, nu, b⟩ ++ rest).drop 13 = ((msgB ⟨st, se, nu, b⟩ ++ rest).drop 9).drop 4 := by rw [List.drop_drop]
    rw [this, d9, List.drop_left' l4]
  have d14 : (msgB ⟨st, se, nu, b⟩ ++ rest).drop 14 = b ++ rest := by
    have : (msgB ⟨st, se, nu, b⟩ ++ rest).drop 14 = ((msgB ⟨st, se, nu, b⟩ ++ rest).drop 13).drop 1 := by rw [List.drop_drop]
    rw [this, d13, List.drop_left' lb]
  have hp : payN (msgB ⟨st, se, nu, b⟩ ++ rest) = b.length := by
    unfold payN
    rw [d13, List.take_left' lb, numB_beB' _ _ (by omega)]
  have hlen : (msgB ⟨st, se, nu, b⟩ ++ rest).length = 14 + b.length + rest.length := by rw [List.length_append, msgB_len]
  have hd : (msgB ⟨st, se, nu, b⟩ ++ rest).drop (14 + b.length) = rest := by
    rw [List.drop_left' (by rw [msgB_len])]
  unfold rdL
  rw [hp, if_pos ⟨by omega, by omega⟩, d8, d9, d14, hd, List.take_left' l1, List.take_left' l4, List.take_left' rfl]
  have t8' : (msgB ⟨st, se, nu, b⟩ ++ rest).take 8 = beB 8 st.toNat := by rw [e, List.take_left' l8]
  rw [t8', numB_beB' _ _ (by have : (256 : Nat) ^ 8 = 18446744073709551616 := by decide
                             omega), numB_beB' _ _ (by omega), numB_beB' _ _ (by have : (256 : Nat) ^ 4 = 4294967296 := by decide
                                                                                 omega)]
  have hs : s64 st.toNat = st := by unfold s64; rw [IntKind.wrap_i64]; omega
  rw [hs, Int.toNat_of_nonneg h2, Int.toNat_of_nonneg h4]
theorem parseN_succ (n : Nat) (l : List UInt8) : parseN (n + 1) l = (rdL l).bind fun x => (parseN n x.2).map (x.1 :: ·) := by
  simp only [parseN]
  cases rdL l <;> rfl
theorem parse_flat (l : List MsgD) (h : ∀ m ∈ l, Sayable m) : parseN l.length (l.flatMap msgB) = some l := by
  induction l with
  | nil => rfl
  | cons m l ih =>
    rw [List.flatMap_cons, List.length_cons]
    rw [parseN_succ, rdL_msgB (h m (by simp)), Option.bind_some]
    simp only
    rw [ih (fun x hx => h x (by simp [hx]))]; rfl
theorem tog_facts {p : PlanD} {l : List MsgD} (h : togB p l = true) : planOk p = true ∧ l.length ≤ 8 ∧ ∀ m ∈ l, Sayable m ∧ m.b.length ≤ 32 := by
  unfold togB at h
  have h := of_decide_eq_true h
  obtain ⟨h1, h2, h3, _⟩ := h
  have b := planOk_facts h1
  refine ⟨h1, by omega, fun m hm => ⟨sayable_of h1 (h3 m hm), ?_⟩⟩
  have := mayB_facts (h3 m hm)
  omega
theorem beB_one (n : Nat) (h : n < 256) : ∃ c : UInt8, beB 1 n = [c] ∧ c.toNat = n := by
  refine ⟨UInt8.ofNat (n % 256), rfl, ?_⟩
  simp
  omega
theorem decS_enc {p : PlanD} {l : List MsgD} {c : List UInt8} (h : encS p l = some c) : decSM p c = some l ∧ c.length ≤ 1024 := by
  unfold encS at h
  by_cases ht : togB p l = true
  · rw [if_pos ht] at h
    cases h
    obtain ⟨h1, h2, h3⟩ := tog_facts ht
    unfold stB
    by_cases hl : l = []
    · subst hl
      rw [if_pos rfl]
      exact ⟨by unfold decSM; rw [if_pos ht], by simp⟩
    · rw [if_neg hl]
      obtain ⟨x, e1, e2⟩ := beB_one l.length (by omega)
      have hpos := List.length_pos_iff.2 hl
      refine ⟨?_, ?_⟩
      · rw [e1]
        show (if x.toNat = 0 then none else match parseN x.toNat (l.flatMap msgB) with
          | some xs => if togB p xs then some xs else none
          | none => none) = some l
        rw [if_neg (by omega), e2, parse_flat l (fun m hm => (h3 m hm).1)]
        show (if togB p l then some l else none) = some l
        rw [if_pos ht]
      · have := flat_len l (fun m hm => (h3 m hm).2)
        rw [List.length_append, beB_len]
        omega
  · rw [if_neg ht] at h; cases h
theorem s64_nat {n : Nat} (h : n < 256 ^ 8) (h0 : 0 ≤ s64 n) : (s64 n).toNat = n := by
  have h : n < 18446744073709551616 := h
  unfold s64 at h0 ⊢
  rw [IntKind.wrap_i64] at h0 ⊢
  omega
set_option maxHeartbeats 1000000 in
theorem rdL_inv {l rest : List UInt8} {m : MsgD} (h : rdL l = some (m, rest)) (h0 : 0 ≤ m.st) : msgB m ++ rest = l := by
  unfold rdL at h
  split at h
  · rename_i hc
    cases h
    have l8 : (l.take 8).length = 8 := by rw [List.length_take]; omega
    have l1 : ((l.drop 8).take 1).length = 1 := by rw [List.length_take, List.length_drop]; omega
    have l4 : ((l.drop 9).take 4).length = 4 := by rw [List.length_take, List.length_drop]; omega
    have lb : ((l.drop 13).take 1).length = 1 := by rw [List.length_take, List.length_drop]; omega
    have lp : ((l.drop 14).take (payN l)).length = payN l := by rw [List.length_take, List.length_drop]; omega
    have hst : (s64 (numB (l.take 8))).toNat = numB (l.take 8) := s64_nat (by have h := numB_lt (l.take 8); rw [l8] at h; exact h) h0
    unfold msgB
    show beB 8 (s64 (numB (l.take 8))).toNat ++ beB 1 ((numB ((l.drop 8).take 1) : Nat) : Int).toNat ++ beB 4 ((numB ((l.drop 9).take 4) : Nat) : Int).toNat ++ beB 1 ((l.drop 14).take (payN l)).length ++ (l.drop 14).take (payN l) ++ l.drop (14 + payN l) = l
    rw [hst, Int.toNat_natCast, Int.toNat_natCast, lp, beB_numB' _ 8 l8, beB_numB' _ 1 l1, beB_numB' _ 4 l4]
    have hpb : beB 1 (payN l) = (l.drop 13).take 1 := by unfold payN; rw [beB_numB' _ 1 lb]
    rw [hpb]
    have a5 : (l.drop 14).take (payN l) ++ l.drop (14 + payN l) = l.drop 14 := by
      have := List.take_append_drop (payN l) (l.drop 14)
      rwa [List.drop_drop] at this
    have a4 : (l.drop 13).take 1 ++ l.drop 14 = l.drop 13 := by
      have := List.take_append_drop 1 (l.drop 13)
      rwa [List.drop_drop] at this
    have a3 : (l.drop 9).take 4 ++ l.drop 13 = l.drop 9 := by
      have := List.take_append_drop 4 (l.drop 9)
      rwa [List.drop_drop] at this
    have a2 : (l.drop 8).take 1 ++ l.drop 9 = l.drop 8 := by
      have := List.take_append_drop 1 (l.drop 8)
      rwa [List.drop_drop] at this
    simp only [List.append_assoc]
    rw [a5, a4, a3, a2, List.take_append_drop]
  · cases h
theorem parse_inv : ∀ (n : Nat) (b : List UInt8) (xs : List MsgD), parseN n b = some xs → (∀ m ∈ xs, 0 ≤ m.st) → xs.length = n ∧ xs.flatMap msgB = b
  | 0, b, xs, h, _ => by
    unfold parseN at h
    split at h
    · rename_i hb; cases h; exact ⟨rfl, hb.symm⟩
    · cases h
  | n + 1, b, xs, h, h0 => by
    rw [parseN_succ] at h
    cases hr : rdL b with
    | none => rw [hr] at h; cases h
    | some x =>
      obtain ⟨m, rest⟩ := x
      rw [hr, Option.bind_some] at h
      simp only at h
      cases hp : parseN n rest with
      | none => rw [hp] at h; cases h
      | some ys =>
        rw [hp] at h
        cases h
        obtain ⟨i1, i2⟩ := parse_inv n rest ys hp (fun y hy => h0 y (by simp [hy]))
        refine ⟨by rw [List.length_cons, i1], ?_⟩
        rw [List.flatMap_cons, i2]
        exact rdL_inv hr (h0 m (by simp))
theorem encS_dec {p : PlanD} {l : List MsgD} {b : List UInt8} (h : decSM p b = some l) : encS p l = some b := by
  unfold decSM at h
  cases b with
  | nil =>
    simp only at h
    split at h
    · rename_i ht
      cases h
      unfold encS; rw [if_pos ht]; rfl
    · cases h
  | cons c b =>
    simp only at h
    split at h
    · cases h
    · rename_i hc
      cases hp : parseN c.toNat b with
      | none => rw [hp] at h; cases h
      | some xs =>
        rw [hp] at h
        simp only at h
        split at h
        · rename_i ht
          cases h
          obtain ⟨h1, h2, h3⟩ := tog_facts ht
          obtain ⟨i1, i2⟩ := parse_inv _ _ _ hp (fun m hm => (h3 m hm).1.1)
          unfold encS stB
          have hne : l ≠ [] := by rintro rfl; simp at i1; omega
          rw [if_pos ht, if_neg hne, i2, i1]
          have := beB_numB' [c] 1 rfl
          have hnc : numB [c] = c.toNat := by show 256 * 0 + c.toNat = _; omega
          rw [hnc] at this
          rw [this]; rfl
        · cases h
end Go.Proofs.Ytjhhcfadeankfaa.VMsg
