/- Plain arithmetic of CRC-24: the byte-wise table form is the bit-wise form; it is linear, and no step loses anything. No program in sight. -/
namespace Go.VCrc

/-- One bit further: by itself. -/
def st (s : Nat) : Nat := (2 * s % 16777216) ^^^ (if s.testBit 23 then 8801531 else 0)
def stn : Nat → Nat → Nat
  | 0, s => s
  | n + 1, s => stn n (st s)
/-- A byte's sum, on from 0. -/
def entryN (b : Nat) : Nat := stn 8 (b * 65536)
/-- A sum, a byte further. -/
def byteN (s c : Nat) : Nat := (s * 256 % 16777216) ^^^ entryN ((s / 65536 % 256) ^^^ c)
def onN (s : Nat) (l : List UInt8) : Nat := l.foldl (fun s c => byteN s c.toNat) (s % 16777216)
def begN : Nat := 11994318
def ofN (l : List UInt8) : Nat := onN begN l

theorem st_lt (s : Nat) : st s < 16777216 := by
  unfold st
  refine Nat.xor_lt_two_pow (n := 24) (Nat.mod_lt _ (by decide)) ?_
  split <;> decide

theorem st_zero : st 0 = 0 := by decide

theorem tb_double (s i : Nat) : (2 * s % 16777216).testBit i = (decide (i < 24) && decide (1 ≤ i) && s.testBit (i - 1)) := by
  rw [show (16777216 : Nat) = 2 ^ 24 from rfl, Nat.testBit_mod_two_pow, show 2 * s = s <<< 1 from by rw [Nat.shiftLeft_eq]; omega, Nat.testBit_shiftLeft]
  simp [Bool.and_assoc]

theorem st_xor (x y : Nat) : st (x ^^^ y) = st x ^^^ st y := by
  apply Nat.eq_of_testBit_eq
  intro i
  unfold st
  simp only [Nat.testBit_xor, tb_double]
  cases x.testBit 23 <;> cases y.testBit 23 <;> simp <;> cases decide (i < 24) <;> cases decide (1 ≤ i) <;> simp
  all_goals (cases x.testBit (i - 1) <;> cases y.testBit (i - 1) <;> cases Nat.testBit 8801531 i <;> rfl)

theorem stn_xor (n x y : Nat) : stn n (x ^^^ y) = stn n x ^^^ stn n y := by
  induction n generalizing x y with
  | zero => rfl
  | succ n ih => show stn n (st (x ^^^ y)) = _; rw [st_xor, ih]; rfl

theorem stn_zero (n : Nat) : stn n 0 = 0 := by
  induction n with
  | zero => rfl
  | succ n ih => show stn n (st 0) = 0; rw [st_zero, ih]

theorem stn_add (m n s : Nat) : stn (m + n) s = stn n (stn m s) := by
  induction m generalizing s with
  | zero => simp [stn]
  | succ m ih => rw [Nat.succ_add]; show stn (m + n) (st s) = stn n (stn m (st s)); rw [ih]

theorem stn_lt {n s : Nat} (h : s < 16777216) : stn n s < 16777216 := by
  induction n generalizing s with
  | zero => exact h
  | succ n ih => exact ih (st_lt s)

/-- A number whose high bit is not set is doubled. -/
theorem st_low {s : Nat} (h : s < 8388608) : st s = 2 * s := by
  unfold st
  have : s.testBit 23 = false := Nat.testBit_lt_two_pow (by omega)
  rw [this]; simp; omega

theorem stn_low {n s : Nat} (h : s * 2 ^ n < 16777216) : stn n s = s * 2 ^ n := by
  induction n generalizing s with
  | zero => simp [stn]
  | succ n ih =>
    have h2 : s * 2 ^ (n + 1) = (2 * s) * 2 ^ n := by rw [Nat.pow_succ, Nat.mul_comm 2 s, Nat.mul_assoc, Nat.mul_comm (2 ^ n) 2]
    have hp : 1 ≤ 2 ^ n := Nat.one_le_two_pow
    have hs : s < 8388608 := by
      rw [h2] at h
      have : (2 * s) * 1 ≤ (2 * s) * 2 ^ n := Nat.mul_le_mul_left _ hp
      omega
    show stn n (st s) = _
    rw [st_low hs, ih (by rw [← h2]; exact h), ← h2]

/-- No step loses anything. -/
theorem st_eq_zero {s : Nat} (h : s < 16777216) (h0 : st s = 0) : s = 0 := by
  unfold st at h0
  cases hb : s.testBit 23 with
  | true =>
    rw [hb] at h0
    simp only [if_true] at h0
    have h1 := congrArg (fun x => x.testBit 0) h0
    simp only [Nat.testBit_xor, tb_double] at h1
    simp at h1
  | false =>
    rw [hb] at h0
    simp at h0
    have : s < 8388608 := by
      rcases Nat.lt_or_ge s 8388608 with h' | h'
      · exact h'
      · exfalso
        have := Nat.testBit_two_pow_add_eq (s - 8388608) 23
        rw [show 2 ^ 23 + (s - 8388608) = s from by omega, hb] at this
        have h3 : (s - 8388608).testBit 23 = false := Nat.testBit_lt_two_pow (by omega)
        rw [h3] at this
        cases this
    omega

theorem stn_eq_zero {n s : Nat} (h : s < 16777216) (h0 : stn n s = 0) : s = 0 := by
  induction n generalizing s with
  | zero => exact h0
  | succ n ih => exact st_eq_zero h (ih (st_lt s) h0)

theorem xor_eq_zero {x y : Nat} (h : x ^^^ y = 0) : x = y := by
  apply Nat.eq_of_testBit_eq
  intro i
  have := congrArg (fun z => z.testBit i) h
  simp at this
  exact this

theorem xor_lt24 {x y : Nat} (hx : x < 16777216) (hy : y < 16777216) : x ^^^ y < 16777216 := Nat.xor_lt_two_pow (n := 24) hx hy

theorem stn_inj {n x y : Nat} (hx : x < 16777216) (hy : y < 16777216) (h : stn n x = stn n y) : x = y := by
  apply xor_eq_zero
  apply stn_eq_zero (n := n) (xor_lt24 hx hy)
  rw [stn_xor, h, Nat.xor_self]

/-- Two numbers that share no bit: their sum is the one laid over the other. -/
theorem add_xor (a b n : Nat) (hb : b < 2 ^ n) : a * 2 ^ n + b = (a * 2 ^ n) ^^^ b := by
  apply Nat.eq_of_testBit_eq
  intro i
  rw [Nat.testBit_xor]
  have e1 : (a * 2 ^ n + b).testBit i = if i < n then b.testBit i else a.testBit (i - n) := by
    rw [Nat.mul_comm]; exact Nat.testBit_two_pow_mul_add a hb i
  have e2 : (a * 2 ^ n).testBit i = (decide (i ≥ n) && a.testBit (i - n)) := by
    rw [Nat.mul_comm]; exact Nat.testBit_two_pow_mul
  rw [e1, e2]
  split
  · rename_i h; rw [decide_eq_false (by omega)]; simp
  · rename_i h
    have : b.testBit i = false := Nat.testBit_lt_two_pow (Nat.lt_of_lt_of_le hb (Nat.pow_le_pow_right (by decide) (by omega)))
    rw [decide_eq_true (by omega), this]; simp

theorem mul_xor (a b n : Nat) : (a ^^^ b) * 2 ^ n = (a * 2 ^ n) ^^^ (b * 2 ^ n) := by
  apply Nat.eq_of_testBit_eq
  intro i
  simp only [Nat.testBit_xor, Nat.testBit_mul_two_pow]
  cases decide (n ≤ i) <;> simp

/-- The byte-wise step is eight bit-wise ones. -/
theorem byteN_eq {s c : Nat} (hs : s < 16777216) : byteN s c = stn 8 (s ^^^ (c * 65536)) := by
  have h1 : s = (s / 65536) * 2 ^ 16 + s % 65536 := by omega
  have h2 : (s / 65536) * 2 ^ 16 + s % 65536 = ((s / 65536) * 2 ^ 16) ^^^ (s % 65536) := add_xor _ _ 16 (Nat.mod_lt _ (by decide))
  have h3 : s / 65536 % 256 = s / 65536 := by omega
  have h4 : stn 8 (s % 65536) = s % 65536 * 256 := by
    have := stn_low (n := 8) (s := s % 65536) (by omega)
    simpa using this
  have h5 : s * 256 % 16777216 = s % 65536 * 256 := by omega
  unfold byteN entryN
  rw [h3, h5]
  have h6 : s ^^^ (c * 65536) = (((s / 65536) ^^^ c) * 65536) ^^^ (s % 65536) := by
    have e : ((s / 65536) ^^^ c) * 65536 = ((s / 65536) * 65536) ^^^ (c * 65536) := mul_xor (s / 65536) c 16
    rw [e]
    conv => lhs; rw [h1, h2]
    show (s / 65536 * 65536 ^^^ s % 65536) ^^^ c * 65536 = _
    rw [Nat.xor_assoc, Nat.xor_comm (s % 65536), ← Nat.xor_assoc]
  rw [h6, stn_xor, h4, Nat.xor_comm]

theorem byteN_lt (s c : Nat) (hs : s < 16777216) (hc : c < 256) : byteN s c < 16777216 := by
  rw [byteN_eq hs]; exact stn_lt (xor_lt24 hs (by omega))

theorem entryN_lt (b : Nat) (h : b < 256) : entryN b < 16777216 := stn_lt (by omega)

theorem onN_nil (s : Nat) : onN s [] = s % 16777216 := rfl
theorem onN_lt (s : Nat) (l : List UInt8) : onN s l < 16777216 := by
  unfold onN
  have : ∀ (l : List UInt8) (s : Nat), s < 16777216 → l.foldl (fun s c => byteN s c.toNat) s < 16777216 := by
    intro l
    induction l with
    | nil => intro s h; exact h
    | cons c l ih => intro s h; exact ih _ (byteN_lt s _ h c.toNat_lt)
  exact this l _ (Nat.mod_lt _ (by decide))
theorem ofN_lt (l : List UInt8) : ofN l < 16777216 := onN_lt _ l
theorem onN_mod (s : Nat) (l : List UInt8) : onN (s % 16777216) l = onN s l := by unfold onN; rw [Nat.mod_mod]
theorem onN_append (s : Nat) (l m : List UInt8) : onN s (l ++ m) = onN (onN s l) m := by
  have := onN_lt s l
  unfold onN at *
  rw [List.foldl_append, Nat.mod_eq_of_lt this]
theorem onN_cons (s : Nat) (c : UInt8) (l : List UInt8) : onN s (c :: l) = onN (byteN (s % 16777216) c.toNat) l := by
  have h := byteN_lt (s % 16777216) c.toNat (Nat.mod_lt _ (by decide)) c.toNat_lt
  unfold onN
  rw [Nat.mod_eq_of_lt h]; rfl
theorem onN_snoc (s : Nat) (l : List UInt8) (c : UInt8) : onN s (l ++ [c]) = byteN (onN s l) c.toNat := by
  rw [onN_append, onN_cons, Nat.mod_eq_of_lt (onN_lt s l), onN_nil, Nat.mod_eq_of_lt (byteN_lt _ _ (onN_lt s l) c.toNat_lt)]

/-- The reference's bit step. -/
def rbit (n bit : Nat) : Nat := (2 * n % 16777216) ^^^ (if n / 8388608 ≠ bit then 8801531 else 0)

theorem high_bit {n : Nat} (hn : n < 16777216) : n.testBit 23 = decide (n / 8388608 = 1) := by
  rw [show (8388608 : Nat) = 2 ^ 23 from rfl, Nat.testBit_eq_decide_div_mod_eq]
  congr 1
  have : n / 2 ^ 23 < 2 := by omega
  rw [Nat.mod_eq_of_lt this]

theorem rbit_eq {n bit : Nat} (hn : n < 16777216) (hb : bit < 2) : rbit n bit = st (n ^^^ (bit * 8388608)) := by
  have h2 : bit = 0 ∨ bit = 1 := by omega
  rcases h2 with rfl | rfl
  · unfold rbit st
    rw [Nat.zero_mul, Nat.xor_zero, high_bit hn]
    have : n / 8388608 < 2 := by omega
    by_cases h : n / 8388608 = 1
    · simp [h]
    · have : n / 8388608 = 0 := by omega
      simp [this]
  · rw [st_xor]
    have e : st (1 * 8388608) = 8801531 := by decide
    rw [e]
    unfold rbit st
    rw [high_bit hn]
    by_cases h : n / 8388608 = 1
    · simp [h, Nat.xor_assoc]
    · simp [h]

theorem rbit_lt {n bit : Nat} (hn : n < 16777216) (hb : bit < 2) : rbit n bit < 16777216 := by
  rw [rbit_eq hn hb]; exact st_lt _

/-- The first j bits of a byte, the highest first, by the reference. -/
def rbits (n c : Nat) : Nat → Nat
  | 0 => n
  | j + 1 => rbit (rbits n c j) (c / 2 ^ (7 - j) % 2)

theorem rbits_lt {n c j : Nat} (hn : n < 16777216) : rbits n c j < 16777216 := by
  induction j with
  | zero => exact hn
  | succ j ih => exact rbit_lt ih (Nat.mod_lt _ (by decide))

theorem rbits_eq {n c : Nat} (hn : n < 16777216) (j : Nat) (hj : j ≤ 8) (hc : c < 256) :
    rbits n c j = stn j (n ^^^ (c / 2 ^ (8 - j) * 2 ^ (24 - j))) := by
  induction j with
  | zero => simp [rbits, stn]; rw [show c / 256 = 0 from by omega]; simp
  | succ j ih =>
    have ih := ih (by omega)
    have hlt := rbits_lt (n := n) (c := c) (j := j) hn
    show rbit (rbits n c j) (c / 2 ^ (7 - j) % 2) = _
    rw [rbit_eq hlt (Nat.mod_lt _ (by decide)), ih]
    have e1 : stn j ((c / 2 ^ (7 - j) % 2) * 2 ^ (23 - j)) = (c / 2 ^ (7 - j) % 2) * 8388608 := by
      rw [stn_low (n := j)]
      · rw [Nat.mul_assoc, ← Nat.pow_add, show 23 - j + j = 23 from by omega]
      · rw [Nat.mul_assoc, ← Nat.pow_add, show 23 - j + j = 23 from by omega]
        have : c / 2 ^ (7 - j) % 2 < 2 := Nat.mod_lt _ (by decide)
        omega
    rw [← e1, ← stn_xor]
    have hst : ∀ x, st (stn j x) = stn (j + 1) x := fun x => by rw [stn_add]; rfl
    rw [hst]
    congr 1
    rw [Nat.xor_assoc]
    congr 1
    have e2 : c / 2 ^ (8 - (j + 1)) = c / 2 ^ (8 - j) * 2 + c / 2 ^ (7 - j) % 2 := by
      rw [show 8 - (j + 1) = 7 - j from by omega, show 8 - j = (7 - j) + 1 from by omega, Nat.pow_succ, ← Nat.div_div_eq_div_mul]
      omega
    rw [e2, show 24 - (j + 1) = 23 - j from by omega, show 24 - j = (23 - j) + 1 from by omega, Nat.add_mul]
    have e3 : c / 2 ^ (8 - j) * 2 * 2 ^ (23 - j) = c / 2 ^ (8 - j) * 2 ^ (23 - j + 1) := by rw [Nat.pow_succ, Nat.mul_assoc, Nat.mul_comm 2]
    rw [e3]
    refine (add_xor _ _ (23 - j + 1) ?_).symm
    have h2 : c / 2 ^ (7 - j) % 2 < 2 := Nat.mod_lt _ (by decide)
    calc (c / 2 ^ (7 - j) % 2) * 2 ^ (23 - j) ≤ 1 * 2 ^ (23 - j) := Nat.mul_le_mul_right _ (by omega)
      _ < 2 ^ (23 - j + 1) := by rw [Nat.pow_succ]; have := Nat.one_le_two_pow (n := 23 - j); omega

theorem rbits_byte {n c : Nat} (hn : n < 16777216) (hc : c < 256) : rbits n c 8 = byteN n c := by
  have h := rbits_eq hn 8 (by omega) hc
  have e : c / 2 ^ (8 - 8) * 2 ^ (24 - 8) = c * 65536 := by simp
  rw [e] at h
  exact h.trans (byteN_eq hn).symm

/-! ### Linear: messages laid over one another -/

theorem xor_four (s t C D : Nat) : (s ^^^ t) ^^^ (C ^^^ D) = (s ^^^ C) ^^^ (t ^^^ D) := by
  rw [Nat.xor_assoc, Nat.xor_assoc]
  congr 1
  rw [← Nat.xor_assoc, ← Nat.xor_assoc, Nat.xor_comm t C]

theorem byteN_xor {s t : Nat} (c d : Nat) (hs : s < 16777216) (ht : t < 16777216) : byteN (s ^^^ t) (c ^^^ d) = byteN s c ^^^ byteN t d := by
  rw [byteN_eq hs, byteN_eq ht, byteN_eq (xor_lt24 hs ht), ← stn_xor]
  congr 1
  have : (c ^^^ d) * 65536 = (c * 65536) ^^^ (d * 65536) := mul_xor c d 16
  rw [this]
  exact xor_four s t _ _

def over (l m : List UInt8) : List UInt8 := List.zipWith (fun a b => a ^^^ b) l m

theorem onN_over : ∀ (l m : List UInt8) (s t : Nat), l.length = m.length → onN ((s % 16777216) ^^^ (t % 16777216)) (over l m) = onN s l ^^^ onN t m := by
  intro l
  induction l with
  | nil =>
    intro m s t h
    cases m with
    | nil =>
      show _ % _ = _ ^^^ _
      exact Nat.mod_eq_of_lt (xor_lt24 (Nat.mod_lt _ (by decide)) (Nat.mod_lt _ (by decide)))
    | cons _ _ => cases h
  | cons c l ih =>
    intro m s t h
    cases m with
    | nil => cases h
    | cons d m =>
      have hs : s % 16777216 < 16777216 := Nat.mod_lt _ (by decide)
      have ht : t % 16777216 < 16777216 := Nat.mod_lt _ (by decide)
      show onN _ ((c ^^^ d) :: over l m) = _
      rw [onN_cons, onN_cons, onN_cons, ← ih m _ _ (by simpa using h), Nat.mod_eq_of_lt (xor_lt24 hs ht), UInt8.toNat_xor, byteN_xor _ _ hs ht,
        Nat.mod_eq_of_lt (byteN_lt _ _ hs c.toNat_lt), Nat.mod_eq_of_lt (byteN_lt _ _ ht d.toNat_lt)]

/-- Two sums that go on over the same bytes are the same just if they were. -/
theorem onN_inj (l : List UInt8) : ∀ (s t : Nat), s < 16777216 → t < 16777216 → onN s l = onN t l → s = t := by
  induction l with
  | nil => intro s t hs ht h; rw [onN_nil, onN_nil, Nat.mod_eq_of_lt hs, Nat.mod_eq_of_lt ht] at h; exact h
  | cons c l ih =>
    intro s t hs ht h
    rw [onN_cons, onN_cons, Nat.mod_eq_of_lt hs, Nat.mod_eq_of_lt ht] at h
    have h1 := ih _ _ (byteN_lt _ _ hs c.toNat_lt) (byteN_lt _ _ ht c.toNat_lt) h
    rw [byteN_eq hs, byteN_eq ht] at h1
    have h2 := stn_inj (xor_lt24 hs (by have := c.toNat_lt; omega)) (xor_lt24 ht (by have := c.toNat_lt; omega)) h1
    have h3 : (s ^^^ c.toNat * 65536) ^^^ c.toNat * 65536 = (t ^^^ c.toNat * 65536) ^^^ c.toNat * 65536 := by rw [h2]
    rwa [Nat.xor_assoc, Nat.xor_assoc, Nat.xor_self, Nat.xor_zero, Nat.xor_zero] at h3

end Go.VCrc
