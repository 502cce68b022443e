/- The document's Compare. -/
import Derived.Test.YtkmkfkpblkhpmaaVCompare
namespace Go.Proofs.Ytkmkfkpblkhpmaa.VCst
open Go.RowKit Go.VBase Go.VRg

set_option maxHeartbeats 1000000 in
theorem refCompare_calls (r s m v r' s' m' v' : Int) (w : World) : Calls Try.prog 18 #[cst r s m v, cst r' s' m' v'] w fun e w' => e = .returned (.int .i64 (orB (cmpB r r') (cmpB s s'))) ∧ Ext w w' := by
  have hc : (r < r') ∨ (r = r' ∧ s < s') ∨ (r = r' ∧ s = s') ∨ (r = r' ∧ s' < s) ∨ (r' < r) := by omega
  obtain ⟨x, hx⟩ : ∃ x, orB (cmpB r r') (cmpB s s') = x := ⟨_, rfl⟩
  rw [hx]
  have hx' : (r < r' ∨ (r = r' ∧ s < s') → x = -1) ∧ (r = r' ∧ s = s' → x = 0) ∧ ((r = r' ∧ s' < s) ∨ r' < r → x = 1) := by
    rw [← hx]
    unfold orB cmpB
    refine ⟨?_, ?_, ?_⟩
    · rintro (h | ⟨rfl, h⟩)
      · simp [h]
      · simp [h]
    · rintro ⟨rfl, rfl⟩; simp
    · rintro (⟨rfl, h⟩ | h)
      · have : ¬ s < s' := by omega
        simp [h, this]
      · have : ¬ r < r' := by omega
        simp [h, this]
  have e1 : (r == r') = decide (r = r') := by rw [Bool.eq_iff_iff]; simp
  have e2 : (s == s') = decide (s = s') := by rw [Bool.eq_iff_iff]; simp
  clear hx
  unfold cst
  rcases hc with h | ⟨h1, h2⟩ | ⟨h1, h2⟩ | ⟨h1, h2⟩ | h
  · have hxx := hx'.1 (.inl h)
    have k1 : decide (r < r') = true := decide_eq_true h
    clear hx' e1 e2
    go_enter Try.func18, Try.ntmps18
    go_wp2_with fail
    go_ret
    exact ⟨by rw [hxx]; rfl, (Ext.alloc _ _).thenAlloc _⟩
  · have hxx := hx'.1 (.inr ⟨h1, h2⟩)
    have k1 : decide (r < r') = false := decide_eq_false (by omega)
    have k2 : decide (s < s') = true := decide_eq_true h2
    have k3 : (r == r') = true := by rw [e1]; exact decide_eq_true h1
    clear hx' e1 e2 h1 h2
    go_enter Try.func18, Try.ntmps18
    go_wp2_with fail
    go_ret
    exact ⟨by rw [hxx]; rfl, (Ext.alloc _ _).thenAlloc _⟩
  · have hxx := hx'.2.1 ⟨h1, h2⟩
    have k1 : decide (r < r') = false := decide_eq_false (by omega)
    have k2 : decide (s < s') = false := decide_eq_false (by omega)
    have k3 : (r == r') = true := by rw [e1]; exact decide_eq_true h1
    have k4 : (s == s') = true := by rw [e2]; exact decide_eq_true h2
    clear hx' e1 e2 h1 h2
    go_enter Try.func18, Try.ntmps18
    go_wp2_with fail
    go_ret
    exact ⟨by rw [hxx]; rfl, (Ext.alloc _ _).thenAlloc _⟩
  · have hxx := hx'.2.2 (.inl ⟨h1, h2⟩)
    have k1 : decide (r < r') = false := decide_eq_false (by omega)
    have k2 : decide (s < s') = false := decide_eq_false (by omega)
    have k3 : (r == r') = true := by rw [e1]; exact decide_eq_true h1
    have k4 : (s == s') = false := by rw [e2]; exact decide_eq_false (by omega)
    clear hx' e1 e2 h1 h2
    go_enter Try.func18, Try.ntmps18
    go_wp2_with fail
    go_ret
    exact ⟨by rw [hxx]; rfl, (Ext.alloc _ _).thenAlloc _⟩
  · have hxx := hx'.2.2 (.inr h)
    have k1 : decide (r < r') = false := decide_eq_false (by omega)
    have k3 : (r == r') = false := by rw [e1]; exact decide_eq_false (by omega)
    clear hx' e1 e2
    go_enter Try.func18, Try.ntmps18
    go_wp2_with fail
    go_ret
    exact ⟨by rw [hxx]; rfl, (Ext.alloc _ _).thenAlloc _⟩
end Go.Proofs.Ytkmkfkpblkhpmaa.VCst
