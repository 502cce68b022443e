/- cmp.Or on ints, of two. -/
import Derived.Test.YtcdaelgnankmfaaVCmp
namespace Go.Proofs.Ytcdaelgnankmfaa.VCst
open Go.RowKit Go.VBase

def orB (a b : Int) : Int := if a = 0 then b else a

set_option maxHeartbeats 1000000 in
theorem or_calls (q : Nat) (a b : Int) (w : World) (ha : w.cell? ⟨q, 0, none⟩ = some (.int .i64 a)) (hb : w.cell? ⟨q, 1, none⟩ = some (.int .i64 b)) :
    Calls Try.prog 21 #[.slice (some ⟨q, 0, none⟩) 2 2] w fun e w' => e = .returned (.int .i64 (orB a b)) ∧ w = w' := by
  unfold orB
  by_cases h0 : a = 0
  · subst h0
    rw [if_pos rfl]
    go_enter Try.func21, Try.ntmps21
    go_wp2_with fail
    go_loop [5, 8] (fun _ i => ∃ j : Nat, j ≤ 2 ∧ i = .int .i64 (j : Int) ∧ (j = 2 → b = 0)) (fun _ i => 2 - (intOf i).toNat)
    case atStart => exact ⟨0, by omega, rfl, by omega⟩
    case round =>
      obtain ⟨j, hj, rfl, h2⟩ := hrel
      have hc : j = 0 ∨ j = 1 ∨ j = 2 := by omega
      rcases hc with rfl | rfl | rfl
      · go_wp2_with fail
        go_round
        · exact ⟨1, by omega, rfl, by omega⟩
        · simp [intOf]
      · by_cases hb0 : b = 0
        · subst hb0
          go_wp2_with fail
          go_round
          · exact ⟨2, by omega, rfl, by simp⟩
          · simp [intOf]
        · have hne : (b == 0) = false := by simpa using hb0
          go_wp2_with fail
          go_ret
          exact ⟨rfl, rfl⟩
      · have hb0 := h2 rfl
        subst hb0
        go_wp2_with fail
        go_ret
        exact ⟨rfl, rfl⟩
  · rw [if_neg h0]
    have hne : (a == 0) = false := by simpa using h0
    go_enter Try.func21, Try.ntmps21
    go_wp2_with fail
    go_loop [5, 8] (fun _ i => i = .int .i64 0) (fun _ i => 0)
    case atStart => rfl
    case round =>
      subst hrel
      go_wp2_with fail
      go_ret
      exact ⟨rfl, rfl⟩
end Go.Proofs.Ytcdaelgnankmfaa.VCst
