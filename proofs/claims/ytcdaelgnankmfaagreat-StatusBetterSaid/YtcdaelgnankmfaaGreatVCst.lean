/- cstate: Check, of, Successor, and the document's. -/
import Derived.Test.YtcdaelgnankmfaaGreatProg
import Derived.Test.YtcdaelgnankmfaaGreatVBase
import Derived.Outline
namespace Go.Proofs.YtcdaelgnankmfaaGreat.VCst
open Go.RowKit Go.VBase

/-- A C-state as a value. -/
def cst (r s m v : Int) : Value := .agg #[.int .i64 r, .int .i64 s, .int .i64 m, .int .u16 v]
def inB (n most : Int) : Bool := decide (0 ≤ n) && decide (n ≤ most)
def chkB (r s m : Int) : Bool := inB r 2147483647 && inB s 15 && inB m 7
def ofB (r s m n : Int) : Bool := decide (1 ≤ n) && decide (n ≤ 16) && chkB r s m && decide (s < n)

set_option maxHeartbeats 1000000 in
theorem in_calls (n most : Int) (w : World) : Calls Tryz.prog 67 #[.int .i64 n, .int .i64 most] w fun e w' => e = .returned (.bool (inB n most)) ∧ w = w' := by
  unfold inB
  by_cases h : 0 ≤ n
  · have h' : decide (0 ≤ n) = true := decide_eq_true h
    rw [h']
    go_enter Tryz.func67, Tryz.ntmps67
    go_wp2_with fail
    go_ret
    exact ⟨by simp, rfl⟩
  · have h' : decide (0 ≤ n) = false := decide_eq_false h
    rw [h']
    go_enter Tryz.func67, Tryz.ntmps67
    go_wp2_with fail
    go_ret
    exact ⟨by simp, rfl⟩

def CheckPost (b : Bool) (w : World) (e : Ending) (w' : World) : Prop := e = .returned (.int .i64 (if b then 0 else 40)) ∧ Ext w w'

set_option maxHeartbeats 1000000 in
theorem Check_calls (r s m v : Int) (w : World) : Calls Tryz.prog 35 #[cst r s m v] w (CheckPost (chkB r s m) w) := by
  unfold cst chkB
  go_enter Tryz.func35, Tryz.ntmps35
  go_wp2_with fail
  refine (in_calls _ _ _).mono ?_
  rintro e w' ⟨rfl, rfl⟩
  cases h1 : inB r 2147483647 with
  | false =>
    go_wp2_with fail
    go_ret
    exact ⟨by simp_all, Ext.alloc _ _⟩
  | true =>
  go_wp2_with fail
  refine (in_calls _ _ _).mono ?_
  rintro e w' ⟨rfl, rfl⟩
  cases h2 : inB s 15 with
  | false =>
    go_wp2_with fail
    go_ret
    exact ⟨by simp_all, Ext.alloc _ _⟩
  | true =>
  go_wp2_with fail
  refine (in_calls _ _ _).mono ?_
  rintro e w' ⟨rfl, rfl⟩
  cases h3 : inB m 7 with
  | false =>
    go_wp2_with fail
    go_ret
    exact ⟨by simp_all, Ext.alloc _ _⟩
  | true =>
    go_wp2_with fail
    go_ret
    exact ⟨by simp_all, Ext.alloc _ _⟩

set_option maxHeartbeats 2000000 in
theorem refCheck_calls (r s m v : Int) (w : World) : Calls Tryz.prog 37 #[cst r s m v] w (CheckPost (chkB r s m) w) := by
  unfold cst
  go_enter Tryz.func37, Tryz.ntmps37
  go_wp2_with fail
  all_goals go_ret
  all_goals
    refine ⟨?_, Ext.alloc _ _⟩
    unfold chkB inB
    simp_all
  all_goals omega

end Go.Proofs.YtcdaelgnankmfaaGreat.VCst
