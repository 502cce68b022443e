/- Groups: the document's List, and Less. -/
import Derived.Test.YtkmkfkpblkhpmaaVGrpRef2
import Derived.Test.YtkmkfkpblkhpmaaVOwn
namespace Go.Proofs.Ytkmkfkpblkhpmaa.VGrp
open Go.RowKit Go.VBase

theorem intSl : ElemTy Try.prog 57 3 (.int .i64 0) 1 8 := ⟨Try.underlying57, let ⟨i, h1, h2, h3, h4⟩ := info_parts (by kernel_rfl); ⟨i, h1, h2, h3, h4, rfl⟩⟩

/-- Those of a group, up to one. -/
def lsN (g : Nat) : Nat → List Int
  | 0 => []
  | n + 1 => lsN g n ++ (if hasN g n then [(n : Int)] else [])
theorem lsN_len (g : Nat) : ∀ n, (lsN g n).length ≤ n
  | 0 => Nat.le_refl _
  | n + 1 => by
    have := lsN_len g n
    unfold lsN
    split <;> simp <;> omega

set_option maxHeartbeats 1000000 in
theorem refList_calls (g : Nat) (w : World) (hg : g < 65536) : Calls Try.prog 53 #[.int .u16 (g : Int)] w fun e w' => ∃ v, e = .returned v ∧ OwnI w' w.heap.size 3 v (lsN g 16) ∧ Ext w w' := by
  have hH := fun n w => refHas_calls g n w hg
  go_enter Try.func53, Try.ntmps53
  go_wp2_with fail
  go_loopw [3, 4, 5] (fun sl i _ wr => ∃ (k : Nat) , k ≤ 16 ∧ i = .int .i64 (k : Int) ∧ OwnI wr w.heap.size 3 sl (lsN g k) ∧ Ext w wr) (fun _ i _ _ => 16 - (intOf i).toNat)
  case atStart => exact ⟨0, by omega, rfl, OwnG.nil _ _ _, Ext.refl _⟩
  case round =>
    obtain ⟨k, hk, rfl, hO, hX⟩ := hrel
    by_cases hlt : k < 16
    · have hd : decide ((k : Int) < 16) = true := decide_eq_true (by omega)
      have hll := lsN_len g k
      cases hb : hasN g k with
      | false =>
        have hH1 := hH k
        rw [hb] at hH1
        go_wp2_with fail
        refine (hH1 _).mono ?_
        rintro e w2 ⟨rfl, rfl⟩
        go_wp2_with fail
        go_round
        · refine ⟨k + 1, by omega, by go_num, ?_, hX⟩
          unfold lsN
          rw [if_neg (by rw [hb]; simp), List.append_nil]
          exact hO
        · simp [intOf]; omega
      | true =>
        have hH1 := hH k
        rw [hb] at hH1
        go_wp2_with fail
        refine (hH1 _).mono ?_
        rintro e w2 ⟨rfl, rfl⟩
        go_wp2_with (at_builtin; refine wpList_append_G intSl (by decide) encI_len encI_one rfl _ _ rfl (k : Int) (by rfl) (by rfl) (hO.alloc _) ?hx ?hl ?hl2 ?hb ?hk)
        case hx =>
          intro j u hu
          match j, hu with
          | 0, hu => cases hu; exact cell_new_mark _ _ _ (0, 0) 0
        case hl => omega
        case hl2 => omega
        case hb => exact Nat.le_trans hX.size (by simp)
        case hk =>
        intro v' w' ho hg
        have hX' : Ext w w' := Below.trans (hX.thenAlloc _) (grown_below hg (Nat.le_trans hX.size (by simp)) hO.lt)
        go_wp2_with fail
        go_round
        · refine ⟨k + 1, by omega, by go_num, ?_, hX'⟩
          unfold lsN
          rw [if_pos hb]
          exact ho
        · simp [intOf]; omega
    · have hd : decide ((k : Int) < 16) = false := decide_eq_false (by omega)
      have hk16 : k = 16 := by omega
      subst hk16
      go_wp2_with fail
      go_ret
      exact ⟨_, rfl, hO, hX⟩

/-- Without those of a list. -/
def lessN (g : Nat) (l : List Int) : Nat := l.foldl (fun a n => a &&& (65535 - onlyN n)) g
theorem lessN_snoc (g : Nat) (l : List Int) (n : Int) : lessN g (l ++ [n]) = lessN g l &&& (65535 - onlyN n) := by simp [lessN]
theorem lessN_lt (g : Nat) (hg : g < 65536) : ∀ l : List Int, lessN g l < 65536 := by
  intro l
  induction l generalizing g with
  | nil => exact hg
  | cons n l ih => exact ih (g &&& (65535 - onlyN n)) (Nat.lt_of_le_of_lt Nat.and_le_left hg)
theorem testBit_big {g i : Nat} (hg : g < 65536) (hi : 16 ≤ i) : g.testBit i = false :=
  Nat.testBit_lt_two_pow (Nat.lt_of_lt_of_le hg (by rw [show 65536 = 2 ^ 16 from rfl]; exact Nat.pow_le_pow_right (by decide) hi))
theorem lessN_bit (a b : Nat) (ha : a < 65536) : ∀ k, k ≤ 16 → ∀ i, (lessN a (lsN b k)).testBit i = (a.testBit i && !(decide (i < k) && b.testBit i))
  | 0, _, i => by simp [lsN, lessN]
  | k + 1, hk, i => by
    have ih := lessN_bit a b ha k (by omega) i
    have hh : hasN b (k : Int) = b.testBit k := by
      unfold hasN
      rw [decide_eq_true (by omega : 0 ≤ (k : Int) ∧ (k : Int) ≤ 15), Nat.testBit_eq_decide_div_mod_eq]
      simp
    unfold lsN
    rw [hh]
    by_cases hik : i = k
    · subst hik
      cases hb : b.testBit i with
      | true =>
        have ho : onlyN (i : Int) = 2 ^ i := by unfold onlyN; rw [if_pos (by omega)]; rfl
        rw [if_pos rfl, lessN_snoc, Nat.testBit_and, ho]
        have hlt : 2 ^ i < 2 ^ 16 := Nat.pow_lt_pow_right (by decide) (by omega)
        rw [show 65535 - 2 ^ i = 2 ^ 16 - (2 ^ i + 1) by omega, Nat.testBit_two_pow_sub_succ hlt, Nat.testBit_two_pow]
        simp
      | false =>
        rw [if_neg (by simp), List.append_nil, ih, hb]
        simp
    · have hd : decide (i < k + 1) = decide (i < k) := by
        rw [decide_eq_decide]; omega
      cases hb : b.testBit k with
      | true =>
        have ho : onlyN (k : Int) = 2 ^ k := by unfold onlyN; rw [if_pos (by omega)]; rfl
        rw [if_pos rfl, lessN_snoc, Nat.testBit_and, ho, ih, hd]
        have hlt : 2 ^ k < 2 ^ 16 := Nat.pow_lt_pow_right (by decide) (by omega)
        rw [show 65535 - 2 ^ k = 2 ^ 16 - (2 ^ k + 1) by omega, Nat.testBit_two_pow_sub_succ hlt, Nat.testBit_two_pow]
        have hne : decide (k = i) = false := decide_eq_false (by omega)
        rw [hne]
        by_cases h16 : i < 16
        · simp [h16]
        · rw [testBit_big ha (by omega)]; simp
      | false =>
        rw [if_neg (by simp), List.append_nil, ih, hd]
/-- Those of one group, and not of another one. -/
def lessB (a b : Nat) : Nat := lessN a (lsN b 16)
theorem lessB_bit {a b : Nat} (ha : a < 65536) (i : Nat) : (lessB a b).testBit i = (a.testBit i && !b.testBit i) := by
  unfold lessB
  rw [lessN_bit a b ha 16 (by omega)]
  by_cases h : i < 16
  · simp [h]
  · rw [testBit_big ha (by omega)]; simp
theorem lessB_lt {a b : Nat} (ha : a < 65536) : lessB a b < 65536 := lessN_lt a ha _
theorem add_eq_or {x y : Nat} (hx : x < 65536) (hy : y < 65536) (h : x &&& y = 0) : x + y = x ||| y := by
  have e := BitVec.add_eq_or_of_and_eq_zero (BitVec.ofNat 17 x) (BitVec.ofNat 17 y) (by
    apply BitVec.eq_of_toNat_eq
    rw [BitVec.toNat_and, BitVec.toNat_ofNat, BitVec.toNat_ofNat, Nat.mod_eq_of_lt (by omega), Nat.mod_eq_of_lt (by omega), h]; rfl)
  have e2 := congrArg BitVec.toNat e
  rw [BitVec.toNat_or, BitVec.toNat_add, BitVec.toNat_ofNat, BitVec.toNat_ofNat, Nat.mod_eq_of_lt (a := x) (by omega), Nat.mod_eq_of_lt (a := y) (by omega), Nat.mod_eq_of_lt (by omega)] at e2
  exact e2
/-- In whom two groups differ. -/
theorem less_sum {a b : Nat} (ha : a < 65536) (hb : b < 65536) : lessB a b + lessB b a = a ^^^ b := by
  rw [add_eq_or (lessB_lt ha) (lessB_lt hb)]
  · apply Nat.eq_of_testBit_eq
    intro i
    rw [Nat.testBit_or, lessB_bit ha, lessB_bit hb, Nat.testBit_xor]
    cases a.testBit i <;> cases b.testBit i <;> rfl
  · apply Nat.eq_of_testBit_eq
    intro i
    rw [Nat.testBit_and, lessB_bit ha, lessB_bit hb]
    cases a.testBit i <;> cases b.testBit i <;> simp

set_option maxHeartbeats 1000000 in
theorem refLess_calls (a b : Nat) (w : World) (ha : a < 65536) (hb : b < 65536) : Calls Try.prog 34 #[.int .u16 (a : Int), .int .u16 (b : Int)] w fun e w' => e = .returned (.int .u16 (lessB a b : Int)) ∧ Ext w w' := by
  have hW := fun g n w hg => refWithout_calls g n w hg
  have hL := fun w => refList_calls b w hb
  unfold lessB
  have hll := lsN_len b 16
  generalize lsN b 16 = l at *
  go_enter Try.func34, Try.ntmps34
  go_wp2_with fail
  refine (hL w).mono ?_
  rintro e w1 ⟨v, rfl, hO, hX⟩
  obtain ⟨ad, cap, rfl⟩ := hO.slice
  go_wp2_with fail
  go_loopw [0, 6] (fun g i wr => ∃ (k : Nat), k ≤ l.length ∧ i = .int .i64 (k : Int) ∧ g = .int .u16 (lessN a (l.take k) : Int) ∧ wr = w1) (fun _ i _ => l.length - (intOf i).toNat)
  case atStart => exact ⟨0, by omega, rfl, rfl, rfl⟩
  case round =>
    obtain ⟨k, hk, rfl, rfl, rfl⟩ := hrel
    by_cases hlt : k < l.length
    · obtain ⟨n, hn⟩ := get_some hlt
      obtain ⟨bb, cap', hv, h1, h2⟩ := hO.there (by intro h; subst h; simp at hlt)
      cases hv
      have hc := (hO.cell encI_len hn (j := 0) (u := .int .i64 n) rfl).2.2
      have hd : decide ((k : Int) < (l.length : Int)) = true := decide_eq_true (by omega)
      have hlN := lessN_lt a ha (l.take k)
      have ht : lessN a (l.take (k + 1)) = lessN a (l.take k) &&& (65535 - onlyN n) := by rw [take_snoc hn, lessN_snoc]
      have hW1 := fun w => hW (lessN a (l.take k)) n w hlN
      rw [← ht] at hW1
      have HT := Lib.hid ht
      generalize lessN a (l.take k) = z at *
      obtain ⟨y, hy⟩ : ∃ y, lessN a (l.take (k + 1)) = y := ⟨_, rfl⟩
      rw [hy] at hW1
      clear ht
      simp only [Nat.mul_one, Nat.add_zero] at hc
      go_wp2_with fail
      refine (hW1 _).mono ?_
      rintro e w2 ⟨rfl, rfl⟩
      go_wp2_with fail
      go_round
      · exact ⟨k + 1, by omega, by go_num, by rw [hy], trivial⟩
      · simp [intOf]; omega
    · have hd : decide ((k : Int) < (l.length : Int)) = false := decide_eq_false (by omega)
      have hkl : k = l.length := by omega
      subst hkl
      rw [List.take_length]
      go_wp2_with fail
      go_ret
      exact ⟨rfl, hX⟩
end Go.Proofs.Ytkmkfkpblkhpmaa.VGrp
