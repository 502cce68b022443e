/- The chapter's first examples hold. -/
import Derived.Test.YtlliemaohejpbaaVCrcOn
namespace Go.Proofs.Ytlliemaohejpbaa.VCrc
open Go.RowKit Go.VBase Go.VCrc

theorem ex1 : ofN [49, 50, 51, 52, 53, 54, 55, 56, 57] = 2215682 := by decide +kernel
theorem ex0 : ofN [] = 11994318 := by decide +kernel

set_option maxHeartbeats 400000 in
theorem alive_calls (w : World) :
    Calls Try.prog 10 #[] w fun e w' => e = .returned (.bool true) ∧ Ext w w' := by
  have kc := fun (w : World) (C : Array Value) (n c : Nat) => Lib.run_convert_bytes_const (P := Try.prog) w 22 5 C n c Try.underlying22 Try.underlying5
  go_enter Try.func10, Try.ntmps10
  go_wp2_with fail
  refine (Of_calls _ [[49, 50, 51, 52, 53, 54, 55, 56, 57]] _ ?hb).mono ?_
  case hb => exact bysL_one (by simp) (bys_new _ rfl rfl rfl (by simp [maxLen]))
  rintro e w' ⟨rfl, rfl⟩
  rw [show ofN [[(49 : UInt8), 50, 51, 52, 53, 54, 55, 56, 57]].flatten = 2215682 from ex1]
  go_wp2_with fail
  refine (Of_calls _ [] _ (BysL.nil _)).mono ?_
  rintro e w' ⟨rfl, rfl⟩
  rw [show ofN ([] : List (List UInt8)).flatten = 11994318 from ex0]
  go_wp2_with fail
  go_ret
  exact ⟨rfl, (Ext.alloc _ _).thenAlloc _⟩
end Go.Proofs.Ytlliemaohejpbaa.VCrc
