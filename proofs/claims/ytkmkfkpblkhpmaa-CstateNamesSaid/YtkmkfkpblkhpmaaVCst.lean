/- cstate: Check, of, Successor, and the document's. -/
import Derived.Test.YtkmkfkpblkhpmaaProg
import Derived.Test.YtkmkfkpblkhpmaaVBase
import Derived.Outline
namespace Go.Proofs.Ytkmkfkpblkhpmaa.VCst
open Go.RowKit Go.VBase

/-- A C-state as a value. -/
def cst (r s m v : Int) : Value := .agg #[.int .i64 r, .int .i64 s, .int .i64 m, .int .u16 v]
def inB (n most : Int) : Bool := decide (0 ≤ n) && decide (n ≤ most)
def chkB (r s m : Int) : Bool := inB r 2147483647 && inB s 15 && inB m 7
def ofB (r s m n : Int) : Bool := decide (1 ≤ n) && decide (n ≤ 16) && chkB r s m && decide (s < n)

set_option maxHeartbeats 1000000 in
theorem in_calls (n most : Int) (w : World) : Calls Try.prog 50 #[.int .i64 n, .int .i64 most] w fun e w' => e = .returned (.bool (inB n most)) ∧ w = w' := by
  unfold inB
  by_cases h : 0 ≤ n
  · have h' : decide (0 ≤ n) = true := decide_eq_true h
    rw [h']
    go_enter Try.func50, Try.ntmps50
    go_wp2_with fail
    go_ret
    exact ⟨by simp, rfl⟩
  · have h' : decide (0 ≤ n) = false := decide_eq_false h
    rw [h']
    go_enter Try.func50, Try.ntmps50
    go_wp2_with fail
    go_ret
    exact ⟨by simp, rfl⟩

def CheckPost (b : Bool) (w : World) (e : Ending) (w' : World) : Prop := e = .returned (.int .i64 (if b then 0 else 40)) ∧ Ext w w'

set_option maxHeartbeats 1000000 in
theorem Check_calls (r s m v : Int) (w : World) : Calls Try.prog 26 #[cst r s m v] w (CheckPost (chkB r s m) w) := by
  unfold cst chkB
  go_enter Try.func26, Try.ntmps26
  go_wp2_with fail
  refine (in_calls _ _ _).mono ?_
  rintro e w' ⟨rfl, rfl⟩
  cases h1 : inB r 2147483647 with
  | false =>
    go_wp2_with fail
    go_ret
    exact ⟨by simp_all, Ext.alloc _ _⟩
  | true =>
  go_wp2_with fail
  refine (in_calls _ _ _).mono ?_
  rintro e w' ⟨rfl, rfl⟩
  cases h2 : inB s 15 with
  | false =>
    go_wp2_with fail
    go_ret
    exact ⟨by simp_all, Ext.alloc _ _⟩
  | true =>
  go_wp2_with fail
  refine (in_calls _ _ _).mono ?_
  rintro e w' ⟨rfl, rfl⟩
  cases h3 : inB m 7 with
  | false =>
    go_wp2_with fail
    go_ret
    exact ⟨by simp_all, Ext.alloc _ _⟩
  | true =>
    go_wp2_with fail
    go_ret
    exact ⟨by simp_all, Ext.alloc _ _⟩

set_option maxHeartbeats 1000000 in
theorem of_calls (r s m v n : Int) (w : World) : Calls Try.prog 32 #[cst r s m v, .int .i64 n] w fun e w' => e = .returned (.bool (ofB r s m n)) ∧ Ext w w' := by
  unfold ofB
  by_cases h1 : 1 ≤ n
  · by_cases h2 : n ≤ 16
    · have k1 : decide (1 ≤ n) = true := decide_eq_true h1
      have k2 : decide (n ≤ 16) = true := decide_eq_true h2
      rw [k1, k2]
      have hC := fun w => Check_calls r s m v w
      unfold cst at hC ⊢
      go_enter Try.func32, Try.ntmps32
      go_wp2_with fail
      refine (hC _).mono ?_
      rintro e w1 ⟨rfl, hx⟩
      have hx1 := (Ext.alloc w _).trans hx
      have hc1 : w1.cell? ⟨w.heap.size, 1, none⟩ = some (.int .i64 s) := cell_of_row w1 _ 1 _ _ _ (hx.block (heap_alloc_new w _))
      cases hb : chkB r s m with
      | false =>
        rw [show (if false = true then (0 : Int) else 40) = 40 from rfl]
        go_wp2_with fail
        go_ret
        exact ⟨by simp_all, hx1⟩
      | true =>
        rw [show (if true = true then (0 : Int) else 40) = 0 from rfl]
        go_wp2_with fail
        go_ret
        exact ⟨by simp_all, hx1⟩
    · have k1 : decide (1 ≤ n) = true := decide_eq_true h1
      have k2 : decide (n ≤ 16) = false := decide_eq_false h2
      rw [k1, k2]
      unfold cst
      go_enter Try.func32, Try.ntmps32
      go_wp2_with fail
      go_ret
      exact ⟨by simp_all, Ext.alloc _ _⟩
  · have k1 : decide (1 ≤ n) = false := decide_eq_false h1
    rw [k1]
    unfold cst
    go_enter Try.func32, Try.ntmps32
    go_wp2_with fail
    go_ret
    exact ⟨by simp_all, Ext.alloc _ _⟩

set_option maxHeartbeats 2000000 in
theorem refCheck_calls (r s m v : Int) (w : World) : Calls Try.prog 27 #[cst r s m v] w (CheckPost (chkB r s m) w) := by
  unfold cst
  go_enter Try.func27, Try.ntmps27
  go_wp2_with fail
  all_goals go_ret
  all_goals
    refine ⟨?_, Ext.alloc _ _⟩
    unfold chkB inB
    simp_all
  all_goals omega

set_option maxHeartbeats 1000000 in
theorem fits_calls (r s m v n : Int) (w : World) : Calls Try.prog 33 #[cst r s m v, .int .i64 n] w fun e w' => e = .returned (.bool (ofB r s m n)) ∧ Ext w w' := by
  unfold ofB
  by_cases h1 : 1 ≤ n
  · by_cases h2 : n ≤ 16
    · have k1 : decide (1 ≤ n) = true := decide_eq_true h1
      have k2 : decide (n ≤ 16) = true := decide_eq_true h2
      rw [k1, k2]
      have hC := fun w => refCheck_calls r s m v w
      unfold cst at hC ⊢
      go_enter Try.func33, Try.ntmps33
      go_wp2_with fail
      refine (hC _).mono ?_
      rintro e w1 ⟨rfl, hx⟩
      have hx1 := (Ext.alloc w _).trans hx
      have hc1 : w1.cell? ⟨w.heap.size, 1, none⟩ = some (.int .i64 s) := cell_of_row w1 _ 1 _ _ _ (hx.block (heap_alloc_new w _))
      cases hb : chkB r s m with
      | false =>
        rw [show (if false = true then (0 : Int) else 40) = 40 from rfl]
        go_wp2_with fail
        go_ret
        exact ⟨by simp_all, hx1⟩
      | true =>
        rw [show (if true = true then (0 : Int) else 40) = 0 from rfl]
        go_wp2_with fail
        go_ret
        exact ⟨by simp_all, hx1⟩
    · have k1 : decide (1 ≤ n) = true := decide_eq_true h1
      have k2 : decide (n ≤ 16) = false := decide_eq_false h2
      rw [k1, k2]
      unfold cst
      go_enter Try.func33, Try.ntmps33
      go_wp2_with fail
      go_ret
      exact ⟨by simp_all, Ext.alloc _ _⟩
  · have k1 : decide (1 ≤ n) = false := decide_eq_false h1
    rw [k1]
    unfold cst
    go_enter Try.func33, Try.ntmps33
    go_wp2_with fail
    go_ret
    exact ⟨by simp_all, Ext.alloc _ _⟩
end Go.Proofs.Ytkmkfkpblkhpmaa.VCst
