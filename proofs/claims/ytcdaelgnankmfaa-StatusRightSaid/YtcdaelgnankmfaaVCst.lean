/- cstate: Check, of, Successor, and the document's. -/
import Derived.Test.YtcdaelgnankmfaaProg
import Derived.Test.YtcdaelgnankmfaaVBase
import Derived.Outline
namespace Go.Proofs.Ytcdaelgnankmfaa.VCst
open Go.RowKit Go.VBase

/-- A C-state as a value. -/
def cst (r s m v : Int) : Value := .agg #[.int .i64 r, .int .i64 s, .int .i64 m, .int .u16 v]
def inB (n most : Int) : Bool := decide (0 ≤ n) && decide (n ≤ most)
def chkB (r s m : Int) : Bool := inB r 2147483647 && inB s 15 && inB m 7
def ofB (r s m n : Int) : Bool := decide (1 ≤ n) && decide (n ≤ 16) && chkB r s m && decide (s < n)

set_option maxHeartbeats 1000000 in
theorem in_calls (n most : Int) (w : World) : Calls Try.prog 76 #[.int .i64 n, .int .i64 most] w fun e w' => e = .returned (.bool (inB n most)) ∧ w = w' := by
  unfold inB
  by_cases h : 0 ≤ n
  · have h' : decide (0 ≤ n) = true := decide_eq_true h
    rw [h']
    go_enter Try.func76, Try.ntmps76
    go_wp2_with fail
    go_ret
    exact ⟨by simp, rfl⟩
  · have h' : decide (0 ≤ n) = false := decide_eq_false h
    rw [h']
    go_enter Try.func76, Try.ntmps76
    go_wp2_with fail
    go_ret
    exact ⟨by simp, rfl⟩

def CheckPost (b : Bool) (w : World) (e : Ending) (w' : World) : Prop := e = .returned (.int .i64 (if b then 0 else 40)) ∧ Ext w w'

set_option maxHeartbeats 1000000 in
theorem Check_calls (r s m v : Int) (w : World) : Calls Try.prog 54 #[cst r s m v] w (CheckPost (chkB r s m) w) := by
  unfold cst chkB
  go_enter Try.func54, Try.ntmps54
  go_wp2_with fail
  refine (in_calls _ _ _).mono ?_
  rintro e w' ⟨rfl, rfl⟩
  cases h1 : inB r 2147483647 with
  | false =>
    go_wp2_with fail
    go_ret
    exact ⟨by simp_all, Ext.alloc _ _⟩
  | true =>
  go_wp2_with fail
  refine (in_calls _ _ _).mono ?_
  rintro e w' ⟨rfl, rfl⟩
  cases h2 : inB s 15 with
  | false =>
    go_wp2_with fail
    go_ret
    exact ⟨by simp_all, Ext.alloc _ _⟩
  | true =>
  go_wp2_with fail
  refine (in_calls _ _ _).mono ?_
  rintro e w' ⟨rfl, rfl⟩
  cases h3 : inB m 7 with
  | false =>
    go_wp2_with fail
    go_ret
    exact ⟨by simp_all, Ext.alloc _ _⟩
  | true =>
    go_wp2_with fail
    go_ret
    exact ⟨by simp_all, Ext.alloc _ _⟩

end Go.Proofs.Ytcdaelgnankmfaa.VCst
