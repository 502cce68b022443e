/- How many bytes an In has left. -/
import Derived.Test.YtjhhcfadeankfaaVGet
namespace Go.Proofs.Ytjhhcfadeankfaa.VOct
open Go.RowKit Go.VBase Go.VOct

set_option maxHeartbeats 400000 in
theorem Left_calls (B : Nat) (st : Option (List UInt8)) (w : World) (h : InAt w TIn B st) :
    Calls Try.prog 59 #[.pointer (some ⟨B, 0, none⟩)] w fun e w' => e = .returned (.int .i64 ((stAll st).length : Int)) ∧ w = w' := by
  have h0 := h
  cases st with
  | none =>
    go_enter Try.func59, Try.ntmps59
    go_wp2_with fail
    refine (InSpoilt_calls B none _ h0).mono ?_
    rintro e w' ⟨rfl, rfl⟩
    go_wp2_with fail
    go_ret
    exact ⟨rfl, rfl⟩
  | some l =>
    obtain ⟨v, hb, hv, hne⟩ := h
    obtain ⟨a1, cap1, rfl, _⟩ := hv
    have hc0 : w.cell? ⟨B, 0, none⟩ = some (.slice a1 l.length cap1) := cell_of_row w B 0 _ _ _ hb
    clear hb
    go_enter Try.func59, Try.ntmps59
    go_wp2_with fail
    refine (InSpoilt_calls B (some l) _ h0).mono ?_
    rintro e w' ⟨rfl, rfl⟩
    go_wp2_with fail
    go_ret
    exact ⟨rfl, rfl⟩
end Go.Proofs.Ytjhhcfadeankfaa.VOct
