/- What crc.entry, crc.On and crc.Of come to. -/
import Derived.Test.YtcdaelgnankmfaaProg
import Derived.Test.YtcdaelgnankmfaaVBase
import Derived.Test.YtcdaelgnankmfaaVCrcMath
import Derived.Outline
namespace Go.Proofs.Ytcdaelgnankmfaa.VCrc
open Go.RowKit Go.VBase Go.VCrc

theorem byteSl : ByteSl Try.prog 26 5 := ⟨Try.underlying26, info_parts (by kernel_rfl)⟩

theorem st_walk {s : Nat} (h : s < 16777216) : (!decide (0 < bits BinOp.and IntKind.u32 (s : Int) 8388608)) = true → bits BinOp.and IntKind.u32 ((s : Int) * 2) 16777215 = ((st s : Nat) : Int) := by
  intro ht
  have e1 : bits BinOp.and IntKind.u32 (s : Int) 8388608 = ((s &&& 8388608 : Nat) : Int) := u32_and_nat s 8388608 (by omega) (by omega)
  have e2 : bits BinOp.and IntKind.u32 ((s : Int) * 2) 16777215 = ((2 * s % 16777216 : Nat) : Int) := by
    have e : ((s * 2 : Nat) : Int) = (s : Int) * 2 := by omega
    rw [← e]
    exact (u32_and_nat (s * 2) 16777215 (by omega) (by omega)).trans (by rw [nat_mask24, Nat.mul_comm])
  rw [e2]
  rw [e1] at ht
  unfold st
  have hb : s.testBit 23 = false := by
    cases hb : s.testBit 23 with
    | false => rfl
    | true =>
      exfalso
      have h0 : s &&& 8388608 = 0 := by
        simp at ht
        omega
      have := congrArg (fun x => x.testBit 23) h0
      simp only [Nat.testBit_and, hb] at this
      exact absurd this (by decide)
  rw [hb]; simp

theorem st_walk' {s : Nat} (h : s < 16777216) : (!decide (0 < bits BinOp.and IntKind.u32 (s : Int) 8388608)) = false →
    bits BinOp.xor IntKind.u32 (bits BinOp.and IntKind.u32 ((s : Int) * 2) 16777215) 8801531 = ((st s : Nat) : Int) := by
  intro ht
  have e1 : bits BinOp.and IntKind.u32 (s : Int) 8388608 = ((s &&& 8388608 : Nat) : Int) := u32_and_nat s 8388608 (by omega) (by omega)
  have e2 : bits BinOp.and IntKind.u32 ((s : Int) * 2) 16777215 = ((2 * s % 16777216 : Nat) : Int) := by
    have e : ((s * 2 : Nat) : Int) = (s : Int) * 2 := by omega
    rw [← e]
    exact (u32_and_nat (s * 2) 16777215 (by omega) (by omega)).trans (by rw [nat_mask24, Nat.mul_comm])
  rw [e2]
  rw [e1] at ht
  have e3 := u32_xor_nat (2 * s % 16777216) 8801531 (by omega) (by omega)
  have hb : s.testBit 23 = true := by
    cases hb : s.testBit 23 with
    | true => rfl
    | false =>
      exfalso
      have h0 : s &&& 8388608 = 0 := by
        apply Nat.eq_of_testBit_eq
        intro i
        rw [Nat.testBit_and, show (8388608 : Nat) = 2 ^ 23 from rfl, Nat.testBit_two_pow]
        by_cases hi : 23 = i
        · subst hi; simp [hb]
        · simp [hi]
      rw [h0] at ht
      simp at ht
  unfold st
  rw [hb]
  exact e3

/-- What is left of a byte's eight steps. -/
def EntryRel (b k n : Nat) : Prop := stn (8 - k) n = entryN b
theorem EntryRel.step {b k n : Nat} (h : EntryRel b k n) (hk : k < 8) : EntryRel b (k + 1) (st n) := by
  unfold EntryRel at *
  rw [← h, show 8 - k = (8 - (k + 1)) + 1 from by omega]; rfl

set_option maxHeartbeats 400000 in
theorem entry_calls (b : Nat) (w : World) (h1 : b < 256) :
    Calls Try.prog 114 #[.int .i64 (b : Int)] w fun e w' => e = .returned (.int .u32 (entryN b : Nat)) ∧ w = w' := by
  go_enter Try.func114, Try.ntmps114
  go_wp2; go_step3; go_wp2; go_step3; go_wp2
  go_loop [3, 4, 8] (fun s _ i => ∃ (k n : Nat), k ≤ 8 ∧ i = .int .i64 (k : Nat) ∧ s = .int .u32 (n : Nat) ∧ n < 16777216 ∧ EntryRel b k n) (fun _ _ i => 8 - (intOf i).toNat)
  case atStart => exact ⟨0, b * 65536, by omega, rfl, congrArg _ (by omega), by omega, rfl⟩
  case round =>
    obtain ⟨k, n, hk, rfl, rfl, hn1, hs⟩ := hrel
    by_cases hlt : k < 8
    · go_wp2
      · have ht : (!decide (0 < bits BinOp.and IntKind.u32 (n : Int) 8388608)) = true := by assumption
        rw [st_walk hn1 ht]
        go_round
        case rel => exact ⟨k + 1, st n, by omega, by go_num, rfl, st_lt n, hs.step hlt⟩
        case measure => simp [intOf]; omega
      · have ht : (!decide (0 < bits BinOp.and IntKind.u32 (n : Int) 8388608)) = false := by assumption
        rw [st_walk' hn1 ht]
        go_round
        case rel => exact ⟨k + 1, st n, by omega, by go_num, rfl, st_lt n, hs.step hlt⟩
        case measure => simp [intOf]; omega
    · go_wp2
      go_ret
      have hk8 : k = 8 := by omega
      subst hk8
      exact ⟨ret_nat (show n = entryN b from hs), rfl⟩
def OnRel (s : Nat) (l : List UInt8) (k n : Nat) : Prop := n = onN s (l.take k)
theorem OnRel.lt {s : Nat} {l : List UInt8} {k n : Nat} (h : OnRel s l k n) : n < 16777216 := by rw [show n = _ from h]; exact onN_lt _ _

theorem OnRel.step {s : Nat} {l : List UInt8} {k n : Nat} {c : UInt8} (h : OnRel s l k n) (hc : l[k]? = some c) : OnRel s l (k + 1) (byteN n c.toNat) := by
  unfold OnRel at *
  rw [take_snoc hc, onN_snoc, ← h]
theorem OnRel.done {s : Nat} {l : List UInt8} {k n : Nat} (h : OnRel s l k n) (hk : k = l.length) : n = onN s l := by
  unfold OnRel at h
  rw [h, hk, List.take_length]

theorem on_lt {n : Nat} (hn : n < 16777216) (c : UInt8) : n / 65536 ^^^ c.toNat < 256 := Nat.xor_lt_two_pow (n := 8) (by omega) c.toNat_lt
theorem on_arg {n : Nat} (hn : n < 16777216) (c : UInt8) : wrap64 (bits BinOp.xor IntKind.u8 ((n : Int) / 65536) (c.toNat : Int)) = ((n / 65536 ^^^ c.toNat : Nat) : Int) := by
  have h := u8_xor_nat (n / 65536) c.toNat (by omega) c.toNat_lt
  have e : ((n / 65536 : Nat) : Int) = (n : Int) / 65536 := by omega
  rw [e] at h
  rw [h]
  have := on_lt hn c
  unfold wrap64
  omega
theorem on_val {n : Nat} (hn : n < 16777216) (c : UInt8) :
    bits BinOp.xor IntKind.u32 (bits BinOp.and IntKind.u32 ((n : Int) * 256) 16777215) ((entryN (n / 65536 ^^^ c.toNat) : Nat) : Int) = ((byteN n c.toNat : Nat) : Int) := by
  have e : ((n * 256 : Nat) : Int) = (n : Int) * 256 := by omega
  have h1 : bits BinOp.and IntKind.u32 ((n : Int) * 256) 16777215 = ((n * 256 % 16777216 : Nat) : Int) := by
    rw [← e]
    exact (u32_and_nat (n * 256) 16777215 (by omega) (by omega)).trans (by rw [nat_mask24])
  have h2 := entryN_lt _ (on_lt hn c)
  rw [h1]
  refine (u32_xor_nat _ _ (by omega) (by omega)).trans ?_
  unfold byteN
  rw [show n / 65536 % 256 = n / 65536 from by omega]

set_option maxHeartbeats 400000 in
theorem On_calls (s : Nat) (v : Value) (l : List UInt8) (w : World) (h1 : s < 4294967296) (hv : Bys w v l) :
    Calls Try.prog 97 #[.int .u32 (s : Int), v] w fun e w' => e = .returned (.int .u32 (onN s l : Nat)) ∧ w = w' := by
  obtain ⟨a, cap, rfl, hle, hcap, hc⟩ := hv
  unfold maxLen at hcap
  go_enter Try.func97, Try.ntmps97
  go_wp2_with fail
  go_loop [0, 6, 11] (fun m _ i => ∃ (k n : Nat), k ≤ l.length ∧ i = .int .i64 (k : Nat) ∧ m = .int .u32 (n : Nat) ∧ OnRel s l k n) (fun _ _ i => l.length - (intOf i).toNat)
  case atStart =>
    exact ⟨0, s % 16777216, by omega, rfl, congrArg _ ((u32_and_nat s 16777215 h1 (by omega)).trans (by rw [nat_mask24])), rfl⟩
  case round =>
    obtain ⟨k, n, hk, rfl, rfl, hs⟩ := hrel
    have hn := hs.lt
    by_cases hlt : k < l.length
    · obtain ⟨c, hcc⟩ := get_some hlt
      obtain ⟨b, off, rfl, hcell⟩ := hc (by intro h; rw [h] at hlt; simp at hlt)
      have hck := hcell k c hcc
      clear hc hcell
      go_wp2_with fail
      rw [on_arg hn c]
      refine (entry_calls _ _ (on_lt hn c)).mono ?_
      rintro e w' ⟨rfl, rfl⟩
      go_wp2_with fail
      go_round
      case rel => exact ⟨k + 1, byteN n c.toNat, by omega, by go_num, congrArg _ (on_val hn c), hs.step hcc⟩
      case measure => simp [intOf]; omega
    · go_wp2
      go_ret
      have hkl : k = l.length := by omega
      exact ⟨ret_nat (hs.done hkl), rfl⟩
theorem On_to (s n : Nat) (v : Value) (l : List UInt8) (w : World) (h1 : s < 4294967296) (hv : Bys w v l) (hn : onN s l = n) :
    Calls Try.prog 97 #[.int .u32 (s : Int), v] w fun e w' => e = .returned (.int .u32 (n : Int)) ∧ w = w' := by
  subst hn; exact On_calls s v l w h1 hv

def OfRel (ls : List (List UInt8)) (k n : Nat) : Prop := n = ofN (ls.take k).flatten
theorem OfRel.step {ls : List (List UInt8)} {k n : Nat} {l : List UInt8} (h : OfRel ls k n) (hc : ls[k]? = some l) : OfRel ls (k + 1) (onN n l) := by
  unfold OfRel at *
  rw [take_snoc hc, h, List.flatten_append, List.flatten_singleton]
  unfold ofN
  rw [onN_append]
theorem OfRel.lt {ls : List (List UInt8)} {k n : Nat} (h : OfRel ls k n) : n < 16777216 := by rw [show n = _ from h]; exact ofN_lt _

set_option maxHeartbeats 400000 in
theorem Of_calls (v : Value) (ls : List (List UInt8)) (w : World) (hv : BysL w v ls) :
    Calls Try.prog 74 #[v] w fun e w' => e = .returned (.int .u32 (ofN ls.flatten : Nat)) ∧ w = w' := by
  obtain ⟨a, cap, rfl, hle, hcap, hc⟩ := hv
  unfold maxLen at hcap
  go_enter Try.func74, Try.ntmps74
  go_wp2_with fail
  go_loop [3, 5, 8] (fun m _ i => ∃ (k n : Nat), k ≤ ls.length ∧ i = .int .i64 (k : Nat) ∧ m = .int .u32 (n : Nat) ∧ OfRel ls k n) (fun _ _ i => ls.length - (intOf i).toNat)
  case atStart => exact ⟨0, begN, by omega, rfl, rfl, rfl⟩
  case round =>
    obtain ⟨k, n, hk, rfl, rfl, hs⟩ := hrel
    have hn := hs.lt
    by_cases hlt : k < ls.length
    · obtain ⟨l, hll⟩ := get_some hlt
      obtain ⟨b, off, rfl, hcell⟩ := hc (by intro h; rw [h] at hlt; simp at hlt)
      obtain ⟨u, hck, hu⟩ := hcell k l hll
      have hu' := hu
      obtain ⟨a', cap', rfl, _⟩ := hu'
      clear hc hcell
      go_wp2_with fail
      refine (On_calls n _ l _ (by omega) hu).mono ?_
      rintro e w' ⟨rfl, rfl⟩
      go_wp2_with fail
      go_round
      case rel => exact ⟨k + 1, onN n l, by omega, by go_num, rfl, hs.step hll⟩
      case measure => simp [intOf]; omega
    · go_wp2
      go_ret
      have hkl : k = ls.length := by omega
      refine ⟨ret_nat ?_, rfl⟩
      have h : n = ofN (ls.take k).flatten := hs
      rw [h, hkl, List.take_length]
theorem Of_to (n : Nat) (v : Value) (ls : List (List UInt8)) (w : World) (hv : BysL w v ls) (hn : ofN ls.flatten = n) :
    Calls Try.prog 74 #[v] w fun e w' => e = .returned (.int .u32 (n : Int)) ∧ w = w' := by
  subst hn; exact Of_calls v ls w hv
end Go.Proofs.Ytcdaelgnankmfaa.VCrc
