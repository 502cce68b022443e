/- What the reference's On and Of come to: the same as the table's form. -/
import Derived.Test.YtfjjgceagpcfkaaVCrcOn
namespace Go.Proofs.Ytfjjgceagpcfkaa.VCrc
open Go.RowKit Go.VBase Go.VCrc

theorem bit_cast (c j : Nat) : (c : Int) / 2 ^ (7 - j) % 2 = ((c / 2 ^ (7 - j) % 2 : Nat) : Int) := by
  rw [Int.natCast_emod, Int.natCast_ediv, Int.natCast_pow]; rfl
theorem rbit_yes {p c j : Nat} (hp : p < 16777216) (h : (((p : Int) / 8388608) != ((c : Int) / 2 ^ (7 - j) % 2)) = true) :
    bits BinOp.xor IntKind.u32 (2 * (p : Int) % 16777216) 8801531 = ((rbit p (c / 2 ^ (7 - j) % 2) : Nat) : Int) := by
  rw [bit_cast, bne_iff_ne] at h
  have e : (2 * (p : Int) % 16777216) = ((2 * p % 16777216 : Nat) : Int) := by omega
  rw [e]
  refine (u32_xor_nat _ 8801531 (by omega) (by omega)).trans ?_
  unfold rbit
  rw [if_pos (by omega)]
theorem rbit_no {p c j : Nat} (h : (((p : Int) / 8388608) != ((c : Int) / 2 ^ (7 - j) % 2)) = false) :
    2 * (p : Int) % 16777216 = ((rbit p (c / 2 ^ (7 - j) % 2) : Nat) : Int) := by
  rw [bit_cast, bne_eq_false_iff_eq] at h
  unfold rbit
  rw [if_neg (by omega), Nat.xor_zero]
  omega

set_option maxHeartbeats 400000 in
theorem refOn_calls (s : Nat) (v : Value) (l : List UInt8) (w : World) (h1 : s < 4294967296) (hv : Bys w v l) :
    Calls Try.prog 65 #[.int .u32 (s : Int), v] w fun e w' => e = .returned (.int .u32 (onN s l : Nat)) ∧ w = w' := by
  obtain ⟨a, cap, rfl, hle, hcap, hc⟩ := hv
  unfold maxLen at hcap
  go_enter Try.func65, Try.ntmps65
  go_wp2_with fail
  go_loop [5, 6, 7, 8, 9] (fun m i _ _ _ => ∃ (k n : Nat), k ≤ l.length ∧ i = .int .i64 (k : Nat) ∧ m = .int .u32 (n : Nat) ∧ OnRel s l k n) (fun _ i _ _ _ => l.length - (intOf i).toNat)
  case atStart =>
    exact ⟨0, s % 16777216, by omega, rfl, congrArg _ (by omega), rfl⟩
  case round =>
    obtain ⟨k, n, hk, rfl, rfl, hs⟩ := hrel
    have hn := hs.lt
    by_cases hlt : k < l.length
    · obtain ⟨c, hcc⟩ := get_some hlt
      obtain ⟨b, off, rfl, hcell⟩ := hc (by intro h; rw [h] at hlt; simp at hlt)
      have hck := hcell k c hcc
      clear hc hcell
      go_wp2_with fail
      go_loop [5, 7, 8, 9] (fun m q _ _ => ∃ (j p : Nat), j ≤ 8 ∧ q = .int .i64 (7 - (j : Int)) ∧ m = .int .u32 (p : Nat) ∧ p < 16777216 ∧ p = rbits n c.toNat j) (fun _ q _ _ => (intOf q + 1).toNat)
      case atStart => exact ⟨0, n, by omega, rfl, rfl, hn, rfl⟩
      case round =>
        obtain ⟨j, p, hj, rfl, rfl, hp1, hp⟩ := hrel
        have HP := Lib.hid hp
        clear hp
        by_cases hj8 : j < 8
        · go_wp2_with fail
          · go_round
            case rel => exact ⟨j + 1, rbit p (c.toNat / 2 ^ (7 - j) % 2), by omega, congrArg _ (by omega), congrArg _ (rbit_yes hp1 (by assumption)), rbit_lt hp1 (Nat.mod_lt _ (by decide)), by rw [HP.out]; rfl⟩
            case measure => simp [intOf]; omega
          · go_round
            case rel => exact ⟨j + 1, rbit p (c.toNat / 2 ^ (7 - j) % 2), by omega, congrArg _ (by omega), congrArg _ (rbit_no (by assumption)), rbit_lt hp1 (Nat.mod_lt _ (by decide)), by rw [HP.out]; rfl⟩
            case measure => simp [intOf]; omega
        · go_wp2_with fail
          go_round
          case rel =>
            refine ⟨k + 1, p, by omega, by go_num, rfl, ?_⟩
            have hj : j = 8 := by omega
            have hp := HP.out
            rw [hj, rbits_byte hn c.toNat_lt] at hp
            rw [hp]
            exact hs.step hcc
          case measure => simp [intOf]; omega
    · go_wp2_with fail
      go_ret
      have hkl : k = l.length := by omega
      exact ⟨ret_nat (hs.done hkl), rfl⟩

set_option maxHeartbeats 400000 in
theorem refOf_calls (v : Value) (l : List UInt8) (w : World) (hv : Bys w v l) :
    Calls Try.prog 53 #[v] w fun e w' => e = .returned (.int .u32 (ofN l : Nat)) ∧ w = w' := by
  have hv' := hv
  obtain ⟨a, cap, rfl, _⟩ := hv
  go_enter Try.func53, Try.ntmps53
  go_wp2_with fail
  refine (refOn_calls begN _ l _ (by decide) hv').mono ?_
  rintro e w' ⟨rfl, rfl⟩
  go_wp2_with fail
  go_ret
  exact ⟨rfl, rfl⟩
end Go.Proofs.Ytfjjgceagpcfkaa.VCrc
