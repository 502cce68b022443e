/- Groups: the document's With and Without. -/
import Derived.Test.YtkmkfkpblkhpmaaVGrpRef
import Derived.Test.YtkmkfkpblkhpmaaVBit
namespace Go.Proofs.Ytkmkfkpblkhpmaa.VGrp
open Go.RowKit Go.VBase Go.VBit

theorem has_true {g : Nat} {n : Int} (h : hasN g n = true) : g ||| onlyN n = g ∧ (g < 65536 → g &&& (65535 - onlyN n) = g - onlyN n) ∧ onlyN n ≤ g := by
  unfold hasN at h
  simp only [Bool.and_eq_true, decide_eq_true_eq] at h
  have e : onlyN n = 2 ^ n.toNat := by unfold onlyN; rw [if_pos h.1]
  rw [e]
  refine ⟨or_set h.2, fun hg => andNot_set hg (by omega) h.2, ?_⟩
  rcases Nat.lt_or_ge g (2 ^ n.toNat) with h1 | h1
  · have := h.2; rw [Nat.div_eq_of_lt h1] at this; cases this
  · exact h1
theorem has_false {g : Nat} {n : Int} (h : hasN g n = false) : g ||| onlyN n = g + onlyN n ∧ (g < 65536 → g &&& (65535 - onlyN n) = g) := by
  by_cases hn : 0 ≤ n ∧ n ≤ 15
  · have e : onlyN n = 2 ^ n.toNat := by unfold onlyN; rw [if_pos hn]
    unfold hasN at h
    rw [decide_eq_true hn] at h
    simp at h
    rw [e]
    exact ⟨or_unset h, fun hg => andNot_unset hg (by omega) h⟩
  · have e : onlyN n = 0 := by unfold onlyN; rw [if_neg hn]
    rw [e]
    refine ⟨by simp, fun hg => ?_⟩
    have := Nat.and_two_pow_sub_one_of_lt_two_pow (n := 16) (x := g) (by omega)
    simpa using this

set_option maxHeartbeats 1000000 in
theorem refWith_calls (g : Nat) (n : Int) (w : World) (hg : g < 65536) : Calls Try.prog 40 #[.int .u16 (g : Int), .int .i64 n] w fun e w' => e = .returned (.int .u16 ((g ||| onlyN n : Nat) : Int)) ∧ w = w' := by
  have hH := fun w => refHas_calls g n w hg
  have hO := fun w => refOne_calls n w
  have hl := onlyN_lt n
  cases hb : hasN g n with
  | true =>
    rw [(has_true hb).1]
    rw [hb] at hH
    go_enter Try.func40, Try.ntmps40
    go_wp2_with fail
    refine (hH w).mono ?_
    rintro e w' ⟨rfl, rfl⟩
    go_wp2_with fail
    go_ret
    exact ⟨rfl, rfl⟩
  | false =>
    have hs := (has_false hb).1
    have hlt : g ||| onlyN n < 65536 := Nat.or_lt_two_pow (n := 16) hg hl
    rw [hs] at hlt ⊢
    rw [hb] at hH
    generalize onlyN n = o at *
    obtain ⟨z, hz⟩ : ∃ z, g + o = z := ⟨_, rfl⟩
    rw [hz] at hlt ⊢
    have hz2 : (g : Int) + (o : Int) = (z : Int) := by omega
    clear hz hs hb
    go_enter Try.func40, Try.ntmps40
    go_wp2_with fail
    refine (hH w).mono ?_
    rintro e w' ⟨rfl, rfl⟩
    go_wp2_with fail
    refine (hO w).mono ?_
    rintro e w' ⟨rfl, rfl⟩
    go_wp2_with fail
    go_ret
    exact ⟨rfl, rfl⟩

set_option maxHeartbeats 1000000 in
theorem refWithout_calls (g : Nat) (n : Int) (w : World) (hg : g < 65536) : Calls Try.prog 41 #[.int .u16 (g : Int), .int .i64 n] w fun e w' => e = .returned (.int .u16 ((g &&& (65535 - onlyN n) : Nat) : Int)) ∧ w = w' := by
  have hH := fun w => refHas_calls g n w hg
  have hO := fun w => refOne_calls n w
  cases hb : hasN g n with
  | false =>
    rw [(has_false hb).2 hg]
    rw [hb] at hH
    go_enter Try.func41, Try.ntmps41
    go_wp2_with fail
    refine (hH w).mono ?_
    rintro e w' ⟨rfl, rfl⟩
    go_wp2_with fail
    go_ret
    exact ⟨rfl, rfl⟩
  | true =>
    obtain ⟨_, hs, hle⟩ := has_true hb
    rw [hs hg]
    rw [hb] at hH
    clear hs
    generalize onlyN n = o at *
    obtain ⟨z, hz⟩ : ∃ z, g - o = z := ⟨_, rfl⟩
    rw [hz]
    have hz2 : (g : Int) - (o : Int) = (z : Int) := by omega
    have hlt : z < 65536 := by omega
    clear hz hb
    go_enter Try.func41, Try.ntmps41
    go_wp2_with fail
    refine (hH w).mono ?_
    rintro e w' ⟨rfl, rfl⟩
    go_wp2_with fail
    refine (hO w).mono ?_
    rintro e w' ⟨rfl, rfl⟩
    go_wp2_with fail
    go_ret
    exact ⟨rfl, rfl⟩
end Go.Proofs.Ytkmkfkpblkhpmaa.VGrp
