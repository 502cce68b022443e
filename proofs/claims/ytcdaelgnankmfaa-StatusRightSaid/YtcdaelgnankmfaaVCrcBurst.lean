/- A burst within 24 bits turns a sum. No program in sight. -/
import Derived.Test.YtcdaelgnankmfaaVCrcOpen
namespace Go.Proofs.Ytcdaelgnankmfaa.VCrc
open Go.RowKit Go.VBase Go.VCrc Go.VOct VOct

/-- A number of few bits, and zeros behind: its sum, on from 0. -/
theorem onN_burst (l : List UInt8) : ∀ (W j : Nat), W < 16777216 → numB l = W * 2 ^ j → onN 0 l = stn (24 + j) W := by
  induction h : l.length generalizing l with
  | zero =>
    intro W j hW he
    rw [List.length_eq_zero_iff.1 h] at he ⊢
    have h0 : W * 2 ^ j = 0 := he.symm
    have : W = 0 := by
      rcases Nat.mul_eq_zero.1 h0 with h1 | h1
      · exact h1
      · exact absurd h1 (Nat.ne_of_gt (Nat.pow_pos (by decide)))
    subst this
    rw [stn_zero]; rfl
  | succ n ih =>
    intro W j hW he
    have hne : l ≠ [] := by intro e; subst e; simp at h
    obtain ⟨init, c, rfl⟩ : ∃ init a, l = init ++ [a] := ⟨l.dropLast, l.getLast hne, (List.dropLast_concat_getLast hne).symm⟩
    have hi : init.length = n := by simp at h; omega
    rw [numB_snoc] at he
    have hc := c.toNat_lt
    rw [onN_snoc, byteN_eq (onN_lt 0 init)]
    by_cases h8 : 8 ≤ j
    · have hj : 2 ^ j = 2 ^ (j - 8) * 256 := by rw [show 256 = 2 ^ 8 from rfl, ← Nat.pow_add]; congr 1; omega
      have hq : 256 * numB init + c.toNat = 256 * (W * 2 ^ (j - 8)) := by rw [he, hj, ← Nat.mul_assoc, Nat.mul_comm]
      have h1 : numB init = W * 2 ^ (j - 8) := by omega
      have h2 : c.toNat = 0 := by omega
      rw [ih init hi W (j - 8) hW h1, h2, Nat.zero_mul, Nat.xor_zero, ← stn_add]
      congr 1; omega
    · have hj : j < 8 := by omega
      have hp : 2 ^ (8 - j) * 2 ^ j = 256 := by rw [← Nat.pow_add, show 8 - j + j = 8 by omega]
      have hpj : 0 < 2 ^ j := Nat.pow_pos (by decide)
      have hpk : 0 < 2 ^ (8 - j) := Nat.pow_pos (by decide)
      obtain ⟨H, hH⟩ : ∃ z, W / 2 ^ (8 - j) = z := ⟨_, rfl⟩
      obtain ⟨L, hL⟩ : ∃ z, W % 2 ^ (8 - j) = z := ⟨_, rfl⟩
      have hLl : L < 2 ^ (8 - j) := by rw [← hL]; exact Nat.mod_lt _ hpk
      have hW2 : W = H * 2 ^ (8 - j) + L := by rw [← hH, ← hL, Nat.mul_comm]; exact (Nat.div_add_mod W _).symm
      have hHW : H * 2 ^ (8 - j) ≤ W := by omega
      have hHl : H < 16777216 := Nat.lt_of_le_of_lt (by rw [← hH]; exact Nat.div_le_self _ _) hW
      have hLj : L * 2 ^ j < 256 := by
        rw [← hp]; exact Nat.mul_lt_mul_of_pos_right hLl hpj
      have hq : 256 * numB init + c.toNat = 256 * H + L * 2 ^ j := by
        rw [he, hW2, Nat.add_mul, Nat.mul_assoc, hp, Nat.mul_comm]
      have h1 : numB init = H * 2 ^ 0 := by rw [Nat.pow_zero, Nat.mul_one]; omega
      have h2 : c.toNat = L * 2 ^ j := by omega
      rw [ih init hi H 0 hHl h1, h2]
      have e1 : stn (24 + j) (H * 2 ^ (8 - j)) = stn 8 (stn 24 H) := by
        rw [← stn_low (n := 8 - j) (s := H) (by omega), ← stn_add, ← stn_add]
        congr 1; omega
      have e2 : stn (24 + j) L = stn 8 (L * 2 ^ j * 65536) := by
        have hLL : L * 2 ^ (16 + j) = L * 2 ^ j * 65536 := by
          rw [Nat.pow_add, Nat.mul_assoc, Nat.mul_comm (2 ^ 16)]
        have h3 : stn (16 + j) L = L * 2 ^ (16 + j) := stn_low (by rw [hLL]; omega)
        rw [← hLL, ← h3, ← stn_add]
        congr 1; omega
      rw [hW2, add_xor H L (8 - j) hLl, stn_xor (24 + j), e1, e2, ← stn_xor]

theorem numB_over : ∀ (l m : List UInt8), l.length = m.length → numB (over l m) = numB l ^^^ numB m := by
  intro l
  induction h : l.length generalizing l with
  | zero =>
    intro m hm
    have hl := List.length_eq_zero_iff.1 h
    have hm' := List.length_eq_zero_iff.1 hm.symm
    subst hl hm'
    rfl
  | succ n ih =>
    intro m hm
    have hne : l ≠ [] := by intro e; subst e; simp at h
    have hne' : m ≠ [] := by intro e; subst e; simp at hm
    obtain ⟨li, a, rfl⟩ : ∃ init a, l = init ++ [a] := ⟨l.dropLast, l.getLast hne, (List.dropLast_concat_getLast hne).symm⟩
    obtain ⟨mi, b, rfl⟩ : ∃ init a, m = init ++ [a] := ⟨m.dropLast, m.getLast hne', (List.dropLast_concat_getLast hne').symm⟩
    have h1 : li.length = n := by simp at h; omega
    have h2 : n = mi.length := by simp at hm; omega
    have e : over (li ++ [a]) (mi ++ [b]) = over li mi ++ [a ^^^ b] := by unfold over; rw [List.zipWith_append (by omega)]; rfl
    rw [e, numB_snoc, numB_snoc, numB_snoc, ih li h1 mi h2, UInt8.toNat_xor]
    have ha := a.toNat_lt
    have hb := b.toNat_lt
    generalize numB li = x
    generalize numB mi = y
    generalize a.toNat = p at *
    generalize b.toNat = q at *
    rw [Nat.mul_comm 256, Nat.mul_comm 256, Nat.mul_comm 256, show (256 : Nat) = 2 ^ 8 from rfl, add_xor x p 8 (by omega), add_xor y q 8 (by omega), add_xor (x ^^^ y) (p ^^^ q) 8 (Nat.xor_lt_two_pow (by omega) (by omega)), mul_xor, Nat.xor_assoc, Nat.xor_assoc]
    congr 1
    rw [← Nat.xor_assoc, ← Nat.xor_assoc, Nat.xor_comm (y * 2 ^ 8)]
theorem numB_inj : ∀ {l m : List UInt8}, l.length = m.length → numB l = numB m → l = m := by
  intro l m h he
  rw [← beB_numB' l _ rfl, he, h, beB_numB' m _ rfl]
/-- Bytes that differ within a burst: their sums are the same just if they are. -/
theorem sums_burst {l m : List UInt8} {Y j : Nat} (s : Nat) (hlen : m.length = l.length) (hY : Y < 16777216) (h : numB m = numB l ^^^ (Y * 2 ^ j)) : onN s m = onN s l ↔ m = l := by
  constructor
  · intro he
    have h1 := onN_over l m s s hlen.symm
    rw [he, Nat.xor_self, Nat.xor_self] at h1
    have h2 : numB (over l m) = Y * 2 ^ j := by
      rw [numB_over l m hlen.symm, h, ← Nat.xor_assoc, Nat.xor_self, Nat.zero_xor]
    rw [onN_burst _ Y j hY h2] at h1
    have hY0 := stn_eq_zero hY h1
    rw [hY0, Nat.zero_mul, Nat.xor_zero] at h
    exact numB_inj hlen h
  · intro e; rw [e]

/-- Three bytes behind: nothing is left just if they are the sum. -/
theorem onN_three (n : Nat) (hn : n < 16777216) (t : List UInt8) (ht : t.length = 3) : onN n t = 0 ↔ n = numB t := by
  have h1 := onN_over (beB 3 n) t n n (by rw [beB_len, ht])
  have hb : numB (beB 3 n) = n := numB_beB' 3 n (by simpa using hn)
  have htl : numB t < 16777216 := Nat.lt_of_lt_of_le (numB_lt t) (by rw [ht]; decide)
  have h0 : onN n (beB 3 n) = stn 24 0 := by
    have e1 : beB 3 n = [UInt8.ofNat (n / 65536), UInt8.ofNat (n / 256 % 256), UInt8.ofNat (n % 256)] := by
      have : n / 256 / 256 = n / 65536 := by omega
      simp only [beB, List.nil_append, List.append_assoc, List.cons_append, this]
      rw [Nat.mod_eq_of_lt (show n / 65536 < 256 by omega)]
    have hA : (UInt8.ofNat (n / 65536)).toNat = n / 65536 := by simp; omega
    have hB : (UInt8.ofNat (n / 256 % 256)).toNat = n / 256 % 256 := by simp
    have hC : (UInt8.ofNat (n % 256)).toNat = n % 256 := by simp
    rw [e1, onN_cons, onN_cons, onN_cons, onN_nil, hA, hB, hC, Nat.mod_eq_of_lt hn]
    have l1 : byteN n (n / 65536) = stn 8 (n % 65536) := by
      rw [byteN_eq hn]
      congr 1
      have h2 := add_xor (n / 65536) (n % 65536) 16 (Nat.mod_lt _ (by decide))
      have h3 : n / 65536 * 2 ^ 16 + n % 65536 = n := by omega
      rw [h3] at h2
      conv => lhs; lhs; rw [h2]
      show (n / 65536 * 65536 ^^^ n % 65536) ^^^ n / 65536 * 65536 = _
      rw [Nat.xor_comm (n / 65536 * 65536), Nat.xor_assoc, Nat.xor_self, Nat.xor_zero]
    have l1' : stn 8 (n % 65536) = n % 65536 * 256 := by
      have := stn_low (n := 8) (s := n % 65536) (by omega)
      simpa using this
    rw [l1, l1', Nat.mod_eq_of_lt (show n % 65536 * 256 < 16777216 by omega)]
    have l2 : byteN (n % 65536 * 256) (n / 256 % 256) = stn 8 (n % 256 * 256) := by
      rw [byteN_eq (by omega)]
      congr 1
      have h2 := add_xor (n / 256 % 256) (n % 256 * 256) 16 (by omega)
      have h3 : n / 256 % 256 * 2 ^ 16 + n % 256 * 256 = n % 65536 * 256 := by omega
      rw [h3] at h2
      rw [h2]
      show (n / 256 % 256 * 65536 ^^^ n % 256 * 256) ^^^ n / 256 % 256 * 65536 = _
      rw [Nat.xor_comm (n / 256 % 256 * 65536), Nat.xor_assoc, Nat.xor_self, Nat.xor_zero]
    have l2' : stn 8 (n % 256 * 256) = n % 256 * 65536 := by
      have := stn_low (n := 8) (s := n % 256 * 256) (by omega)
      rw [this]; omega
    rw [l2, l2', Nat.mod_eq_of_lt (show n % 256 * 65536 < 16777216 by omega)]
    rw [byteN_eq (by omega), Nat.xor_self, stn_zero, stn_zero]
  rw [stn_zero] at h0
  rw [h0, Nat.zero_xor, Nat.xor_self] at h1
  have h2 : numB (over (beB 3 n) t) = (n ^^^ numB t) * 2 ^ 0 := by rw [numB_over _ _ (by rw [beB_len, ht]), hb, Nat.pow_zero, Nat.mul_one]
  rw [onN_burst _ _ 0 (xor_lt24 hn htl) h2] at h1
  constructor
  · intro h
    rw [h] at h1
    exact xor_eq_zero (stn_eq_zero (xor_lt24 hn htl) h1)
  · intro h
    rw [← h1, h, Nat.xor_self, stn_zero]
theorem openB_zero (l : List UInt8) (h : 3 ≤ l.length) : (openB l).isSome = true ↔ onN begN l = 0 := by
  have hd3 : (l.drop (l.length - 3)).length = 3 := by rw [List.length_drop]; omega
  have e : onN begN l = onN (ofN (l.take (l.length - 3))) (l.drop (l.length - 3)) := by
    conv => lhs; rw [← List.take_append_drop (l.length - 3) l]
    rw [onN_append]; rfl
  rw [e, onN_three _ (ofN_lt _) _ hd3]
  unfold openB
  by_cases hc : numB (l.drop (l.length - 3)) = ofN (l.take (l.length - 3))
  · rw [if_pos ⟨h, hc⟩]; simp [hc]
  · rw [if_neg (fun x => hc x.2)]
    simp
    exact fun e => hc e.symm
theorem openB_seal (l : List UInt8) : openB (sealB l) = some l := by
  unfold openB
  have hl : (sealB l).length - 3 = l.length := by unfold sealB; rw [List.length_append, beB_len]; omega
  rw [hl]
  unfold sealB
  rw [List.drop_left' rfl, List.take_left' rfl, numB_beB' 3 _ (by have := ofN_lt l; simpa using this), if_pos ⟨by rw [List.length_append, beB_len]; omega, rfl⟩]
/-- Sealed bytes with a burst are not sealed. -/
theorem open_burst {l m : List UInt8} {Y j : Nat} (hlen : m.length = (sealB l).length) (hY : Y < 16777216) (h : numB m = numB (sealB l) ^^^ (Y * 2 ^ j)) : (openB m).isSome = true ↔ m = sealB l := by
  have hs3 : 3 ≤ (sealB l).length := by unfold sealB; rw [List.length_append, beB_len]; omega
  have h0 : onN begN (sealB l) = 0 := (openB_zero _ hs3).1 (by rw [openB_seal]; rfl)
  rw [openB_zero _ (by omega), ← sums_burst begN hlen hY h, h0]

/-- One bit is turned. -/
theorem numB_flip (l : List UInt8) (q r : Nat) (c : UInt8) (hc : l[q]? = some c) (hr : r < 8) : numB (l.set q (c ^^^ UInt8.ofNat (128 / 2 ^ r))) = numB l ^^^ 2 ^ (8 * l.length - 1 - (8 * q + r)) := by
  have hq : q < l.length := (List.getElem?_eq_some_iff.1 hc).1
  have h1 : l = l.take q ++ [c] ++ l.drop (q + 1) := by
    conv => lhs; rw [← List.take_append_drop q l, drop_cons hc]
    simp
  have hlen : (l.take q).length = q := by rw [List.length_take]; omega
  have h2 : l.set q (c ^^^ UInt8.ofNat (128 / 2 ^ r)) = l.take q ++ [c ^^^ UInt8.ofNat (128 / 2 ^ r)] ++ l.drop (q + 1) := by
    conv => lhs; rw [h1]
    rw [List.append_assoc, List.set_append_right _ _ (by omega), hlen, Nat.sub_self]
    simp
  have hd : (l.drop (q + 1)).length = l.length - (q + 1) := List.length_drop
  have f1 : ∀ x : UInt8, numB (l.take q ++ [x] ++ l.drop (q + 1)) = (256 * numB (l.take q) + x.toNat) * 256 ^ (l.length - (q + 1)) + numB (l.drop (q + 1)) := fun x => by rw [numB_append, numB_snoc, hd]
  rw [h2, f1]
  conv => rhs; lhs; rw [h1]
  rw [f1]
  have hb : (UInt8.ofNat (128 / 2 ^ r)).toNat = 2 ^ (7 - r) := by
    have : r = 0 ∨ r = 1 ∨ r = 2 ∨ r = 3 ∨ r = 4 ∨ r = 5 ∨ r = 6 ∨ r = 7 := by omega
    rcases this with rfl | rfl | rfl | rfl | rfl | rfl | rfl | rfl <;> decide
  rw [UInt8.toNat_xor, hb]
  have hcl := c.toNat_lt
  have hbl : 2 ^ (7 - r) < 2 ^ 8 := Nat.pow_lt_pow_right (by decide) (by omega)
  generalize c.toNat = p at *
  generalize numB (l.take q) = A
  have hB : numB (l.drop (q + 1)) < 256 ^ (l.length - (q + 1)) := by rw [← hd]; exact numB_lt _
  generalize numB (l.drop (q + 1)) = B at *
  obtain ⟨d, hdd⟩ : ∃ d, l.length - (q + 1) = d := ⟨_, rfl⟩
  rw [hdd] at hB ⊢
  have he : 8 * l.length - 1 - (8 * q + r) = 8 * d + (7 - r) := by omega
  have hpw : 256 ^ d = 2 ^ (8 * d) := by rw [Nat.pow_mul]
  rw [hpw] at hB ⊢
  rw [he]
  rw [Nat.pow_add, Nat.mul_comm (2 ^ (8 * d))]
  rw [add_xor (256 * A + (p ^^^ 2 ^ (7 - r))) B (8 * d) hB, add_xor (256 * A + p) B (8 * d) hB]
  have e : 256 * A + (p ^^^ 2 ^ (7 - r)) = (256 * A + p) ^^^ 2 ^ (7 - r) := by
    rw [Nat.mul_comm 256, show (256 : Nat) = 2 ^ 8 from rfl, add_xor A _ 8 (Nat.xor_lt_two_pow (by omega) hbl), add_xor A p 8 (by omega), Nat.xor_assoc]
  rw [e, mul_xor, Nat.xor_assoc, Nat.xor_comm (2 ^ (7 - r) * 2 ^ (8 * d)), ← Nat.xor_assoc]
/-- Turned from 'from' on, up to i bits: a burst. -/
def BurstI (l m : List UInt8) (f : Nat) : Prop := m.length = l.length ∧ ∃ Y, Y < 16777216 ∧ numB m = numB l ^^^ (Y * 2 ^ (8 * l.length - f - 24))
theorem BurstI.refl (l : List UInt8) (f : Nat) : BurstI l l f := ⟨rfl, 0, by decide, by rw [Nat.zero_mul, Nat.xor_zero]⟩
theorem BurstI.step {l m : List UInt8} {f i : Nat} (h : BurstI l m f) (hi : i < 24) (hat : f + i < 8 * l.length) {c : UInt8} (hc : m[(f + i) / 8]? = some c) : BurstI l (m.set ((f + i) / 8) (c ^^^ UInt8.ofNat (128 / 2 ^ ((f + i) % 8)))) f := by
  obtain ⟨hlen, Y, hY, he⟩ := h
  refine ⟨by simp [hlen], Y ^^^ 2 ^ (8 * l.length - 1 - (f + i) - (8 * l.length - f - 24)), xor_lt24 hY (by
    refine Nat.lt_of_lt_of_le (Nat.pow_lt_pow_right (by decide) (show _ < 24 by omega)) (by decide)), ?_⟩
  rw [numB_flip m _ _ c hc (Nat.mod_lt _ (by decide)), he, hlen, Nat.xor_assoc]
  congr 1
  rw [mul_xor, ← Nat.pow_add]
  congr 2
  have := Nat.div_add_mod (f + i) 8
  omega
end Go.Proofs.Ytcdaelgnankmfaa.VCrc
