/- cstate.Seen. -/
import Derived.Test.YtkmkfkpblkhpmaaVRefCompare
import Derived.Test.YtkmkfkpblkhpmaaVGrpRef2
namespace Go.Proofs.Ytkmkfkpblkhpmaa.VCst
open Go.RowKit Go.VBase Go.VRg VGrp

/-- A group with, or without, a node. -/
def seenG (g : Nat) (n : Int) (is : Bool) : Nat := if is then g ||| onlyN n else g &&& (65535 - onlyN n)

set_option maxHeartbeats 1000000 in
theorem Seen1_with (z : Nat) (r s m n : Int) (g : Nat) (b0 b1 : Nat) (w : World) (hF : ∀ w, Calls Try.prog 38 #[.int .u16 (g : Int), .int .i64 n] w fun e w' => e = .returned (.int .u16 (z : Int)) ∧ w = w')
    (h0 : w.heap[b0]? = some (.cells #[.int .i64 r, .int .i64 s, .int .i64 m, .int .u16 (g : Int)] 25)) (h1 : w.cell? ⟨b1, 0, none⟩ = some (.int .i64 n)) :
    Calls Try.prog 37 #[.func (.func 38) #[] #[], .pointer (some ⟨b0, 0, none⟩), .pointer (some ⟨b1, 0, none⟩)] w fun e w' => (∃ v, e = .returned v) ∧ w' = w.setCell ⟨b0, 3, none⟩ (.int .u16 (z : Int)) := by
  obtain ⟨⟨a0, a1, a2, a3⟩, f0, f1, f2, f3⟩ := row4 h0
  clear h0
  go_enter Try.func37, Try.ntmps37
  go_wp2_with fail
  refine (hF w).mono ?_
  rintro e w' ⟨rfl, rfl⟩
  go_wp2_with fail
  go_end0
  exact ⟨⟨_, rfl⟩, rfl⟩

set_option maxHeartbeats 1000000 in
theorem Seen1_without (z : Nat) (r s m n : Int) (g : Nat) (b0 b1 : Nat) (w : World) (hF : ∀ w, Calls Try.prog 39 #[.int .u16 (g : Int), .int .i64 n] w fun e w' => e = .returned (.int .u16 (z : Int)) ∧ w = w')
    (h0 : w.heap[b0]? = some (.cells #[.int .i64 r, .int .i64 s, .int .i64 m, .int .u16 (g : Int)] 25)) (h1 : w.cell? ⟨b1, 0, none⟩ = some (.int .i64 n)) :
    Calls Try.prog 37 #[.func (.func 39) #[] #[], .pointer (some ⟨b0, 0, none⟩), .pointer (some ⟨b1, 0, none⟩)] w fun e w' => (∃ v, e = .returned v) ∧ w' = w.setCell ⟨b0, 3, none⟩ (.int .u16 (z : Int)) := by
  obtain ⟨⟨a0, a1, a2, a3⟩, f0, f1, f2, f3⟩ := row4 h0
  clear h0
  go_enter Try.func37, Try.ntmps37
  go_wp2_with fail
  refine (hF w).mono ?_
  rintro e w' ⟨rfl, rfl⟩
  go_wp2_with fail
  go_end0
  exact ⟨⟨_, rfl⟩, rfl⟩

theorem results_cell {fn : Func} {p : Tmp} {ty : TypeId} (h : fn.results = #[.cell p ty]) (tmps : Array Value) (P : Program) (w : World) :
    (results fn tmps).run P w = ((asAddr (tmps.getD p undef)).run P w).andThen fun a w₁ => (loadVar ty a).run P w₁ := by
  simp only [results, h]
  simp [Sem.run_bind, Result.andThen]

set_option maxHeartbeats 1000000 in
theorem Seen_calls (r s m n : Int) (g : Nat) (is : Bool) (hg : g < 65536) (w : World) : Calls Try.prog 19 #[cst r s m (g : Int), .int .i64 n, .bool is] w fun e w' => e = .returned (cst r s m (seenG g n is : Int)) ∧ Ext w w' := by
  have hW := fun w => With_calls g n w hg
  have hO := fun w => Without_calls g n w hg
  unfold cst seenG
  cases is with
  | true =>
    simp only [if_true]
    have hs := fun b0 b1 w h0 h1 => Seen1_with (g ||| onlyN n) r s m n g b0 b1 w hW h0 h1
    generalize (g ||| onlyN n) = z at *
    go_enter Try.func19, Try.ntmps19
    go_wp2_with fail
    have hx : Ext w (((w.alloc (.cells #[.int .i64 r, .int .i64 s, .int .i64 m, .int .u16 (g : Int)] 25)).alloc (.cells #[.int .i64 n] 3)).alloc (.cells #[.int .i64 0, .int .i64 0, .int .i64 0, .int .u16 0] 25)) := ((Ext.alloc _ _).thenAlloc _).thenAlloc _
    have r0 := (Ext.alloc _ (.cells #[.int .i64 0, .int .i64 0, .int .i64 0, .int .u16 0] 25)).block (heap_alloc2_old w (.cells #[.int .i64 r, .int .i64 s, .int .i64 m, .int .u16 (g : Int)] 25) (.cells #[.int .i64 n] 3))
    have r1 := (Ext.alloc _ (.cells #[.int .i64 0, .int .i64 0, .int .i64 0, .int .u16 0] 25)).block (heap_alloc2_new w (.cells #[.int .i64 r, .int .i64 s, .int .i64 m, .int .u16 (g : Int)] 25) (.cells #[.int .i64 n] 3))
    have r2 := heap_alloc2_new (w.alloc (.cells #[.int .i64 r, .int .i64 s, .int .i64 m, .int .u16 (g : Int)] 25)) (.cells #[.int .i64 n] 3) (.cells #[.int .i64 0, .int .i64 0, .int .i64 0, .int .u16 0] 25)
    simp only [World.size_alloc] at r2
    generalize (((w.alloc (.cells #[.int .i64 r, .int .i64 s, .int .i64 m, .int .u16 (g : Int)] 25)).alloc (.cells #[.int .i64 n] 3)).alloc (.cells #[.int .i64 0, .int .i64 0, .int .i64 0, .int .u16 0] 25)) = w1 at *
    refine (hs _ _ w1 r0 (cell_of_row w1 _ 0 _ _ _ r1)).mono ?_
    rintro e w2 ⟨⟨v, rfl⟩, rfl⟩
    have q0 : (w1.setCell ⟨w.heap.size, 3, none⟩ (.int .u16 (z : Int))).heap[w.heap.size]? = some (.cells #[.int .i64 r, .int .i64 s, .int .i64 m, .int .u16 (z : Int)] 25) := set1 r0
    have q2 := (heap_setCell_other w1 ⟨w.heap.size, 3, none⟩ (w.heap.size + 1 + 1) (.int .u16 (z : Int)) (by show w.heap.size + 1 + 1 ≠ w.heap.size; omega)).trans r2
    have e2 : Ext w (w1.setCell ⟨w.heap.size, 3, none⟩ (.int .u16 (z : Int))) := Below.setCell hx (by simp) _
    generalize w1.setCell ⟨w.heap.size, 3, none⟩ (.int .u16 (z : Int)) = w2 at *
    clear r0 r1 r2 hx hs
    obtain ⟨⟨a0, a1, a2, a3⟩, f0, f1, f2, f3⟩ := row4 q0
    obtain ⟨⟨b0, b1, b2, b3⟩, g0, g1, g2, g3⟩ := row4 q2
    clear q0
    go_wp2_with fail
    refine bodyPost_ret (by rw [results_cell rfl]; go_simp; rfl) rfl ?_
    refine ⟨rfl, ?_⟩
    exact Below.setCell (Below.setCell (Below.setCell (Below.setCell e2 (by show w.heap.size ≤ w.heap.size + 1 + 1; omega) _) (by show w.heap.size ≤ w.heap.size + 1 + 1; omega) _) (by show w.heap.size ≤ w.heap.size + 1 + 1; omega) _) (by show w.heap.size ≤ w.heap.size + 1 + 1; omega) _
  | false =>
    simp only [Bool.false_eq_true, if_false]
    have hs := fun b0 b1 w h0 h1 => Seen1_without (g &&& (65535 - onlyN n)) r s m n g b0 b1 w hO h0 h1
    generalize (g &&& (65535 - onlyN n)) = z at *
    go_enter Try.func19, Try.ntmps19
    go_wp2_with fail
    have hx : Ext w (((w.alloc (.cells #[.int .i64 r, .int .i64 s, .int .i64 m, .int .u16 (g : Int)] 25)).alloc (.cells #[.int .i64 n] 3)).alloc (.cells #[.int .i64 0, .int .i64 0, .int .i64 0, .int .u16 0] 25)) := ((Ext.alloc _ _).thenAlloc _).thenAlloc _
    have r0 := (Ext.alloc _ (.cells #[.int .i64 0, .int .i64 0, .int .i64 0, .int .u16 0] 25)).block (heap_alloc2_old w (.cells #[.int .i64 r, .int .i64 s, .int .i64 m, .int .u16 (g : Int)] 25) (.cells #[.int .i64 n] 3))
    have r1 := (Ext.alloc _ (.cells #[.int .i64 0, .int .i64 0, .int .i64 0, .int .u16 0] 25)).block (heap_alloc2_new w (.cells #[.int .i64 r, .int .i64 s, .int .i64 m, .int .u16 (g : Int)] 25) (.cells #[.int .i64 n] 3))
    have r2 := heap_alloc2_new (w.alloc (.cells #[.int .i64 r, .int .i64 s, .int .i64 m, .int .u16 (g : Int)] 25)) (.cells #[.int .i64 n] 3) (.cells #[.int .i64 0, .int .i64 0, .int .i64 0, .int .u16 0] 25)
    simp only [World.size_alloc] at r2
    generalize (((w.alloc (.cells #[.int .i64 r, .int .i64 s, .int .i64 m, .int .u16 (g : Int)] 25)).alloc (.cells #[.int .i64 n] 3)).alloc (.cells #[.int .i64 0, .int .i64 0, .int .i64 0, .int .u16 0] 25)) = w1 at *
    refine (hs _ _ w1 r0 (cell_of_row w1 _ 0 _ _ _ r1)).mono ?_
    rintro e w2 ⟨⟨v, rfl⟩, rfl⟩
    have q0 : (w1.setCell ⟨w.heap.size, 3, none⟩ (.int .u16 (z : Int))).heap[w.heap.size]? = some (.cells #[.int .i64 r, .int .i64 s, .int .i64 m, .int .u16 (z : Int)] 25) := set1 r0
    have q2 := (heap_setCell_other w1 ⟨w.heap.size, 3, none⟩ (w.heap.size + 1 + 1) (.int .u16 (z : Int)) (by show w.heap.size + 1 + 1 ≠ w.heap.size; omega)).trans r2
    have e2 : Ext w (w1.setCell ⟨w.heap.size, 3, none⟩ (.int .u16 (z : Int))) := Below.setCell hx (by simp) _
    generalize w1.setCell ⟨w.heap.size, 3, none⟩ (.int .u16 (z : Int)) = w2 at *
    clear r0 r1 r2 hx hs
    obtain ⟨⟨a0, a1, a2, a3⟩, f0, f1, f2, f3⟩ := row4 q0
    obtain ⟨⟨b0, b1, b2, b3⟩, g0, g1, g2, g3⟩ := row4 q2
    clear q0
    go_wp2_with fail
    refine bodyPost_ret (by rw [results_cell rfl]; go_simp; rfl) rfl ?_
    refine ⟨rfl, ?_⟩
    exact Below.setCell (Below.setCell (Below.setCell (Below.setCell e2 (by show w.heap.size ≤ w.heap.size + 1 + 1; omega) _) (by show w.heap.size ≤ w.heap.size + 1 + 1; omega) _) (by show w.heap.size ≤ w.heap.size + 1 + 1; omega) _) (by show w.heap.size ≤ w.heap.size + 1 + 1; omega) _

set_option maxHeartbeats 1000000 in
theorem refSeen_calls (r s m n : Int) (g : Nat) (is : Bool) (hg : g < 65536) (w : World) : Calls Try.prog 20 #[cst r s m (g : Int), .int .i64 n, .bool is] w fun e w' => e = .returned (cst r s m (seenG g n is : Int)) ∧ Ext w w' := by
  have hW := fun w => refWith_calls g n w hg
  have hO := fun w => refWithout_calls g n w hg
  unfold cst seenG
  cases is with
  | true =>
    simp only [if_true]
    generalize (g ||| onlyN n) = z at *
    go_enter Try.func20, Try.ntmps20
    go_wp2_with fail
    have hx : Ext w ((w.alloc (.cells #[.int .i64 r, .int .i64 s, .int .i64 m, .int .u16 (g : Int)] 25)).alloc (.cells #[.int .i64 0, .int .i64 0, .int .i64 0, .int .u16 0] 25)) := (Ext.alloc _ _).thenAlloc _
    have r0 := heap_alloc2_old w (.cells #[.int .i64 r, .int .i64 s, .int .i64 m, .int .u16 (g : Int)] 25) (.cells #[.int .i64 0, .int .i64 0, .int .i64 0, .int .u16 0] 25)
    have r1 := heap_alloc2_new w (.cells #[.int .i64 r, .int .i64 s, .int .i64 m, .int .u16 (g : Int)] 25) (.cells #[.int .i64 0, .int .i64 0, .int .i64 0, .int .u16 0] 25)
    generalize ((w.alloc (.cells #[.int .i64 r, .int .i64 s, .int .i64 m, .int .u16 (g : Int)] 25)).alloc (.cells #[.int .i64 0, .int .i64 0, .int .i64 0, .int .u16 0] 25)) = w1 at *
    refine (hW _).mono ?_
    rintro e w2 ⟨rfl, rfl⟩
    obtain ⟨⟨a0, a1, a2, a3⟩, f0, f1, f2, f3⟩ := row4 r0
    obtain ⟨⟨b0, b1, b2, b3⟩, g0, g1, g2, g3⟩ := row4 r1
    clear r0 r1
    go_wp2_with fail
    refine bodyPost_ret (by rw [results_cell rfl]; go_simp; rfl) rfl ?_
    refine ⟨rfl, ?_⟩
    repeat (first | exact hx | refine Below.setCell ?_ (by first | exact Nat.le_refl _ | exact Nat.le_succ _) _)
  | false =>
    simp only [Bool.false_eq_true, if_false]
    generalize (g &&& (65535 - onlyN n)) = z at *
    go_enter Try.func20, Try.ntmps20
    go_wp2_with fail
    have hx : Ext w ((w.alloc (.cells #[.int .i64 r, .int .i64 s, .int .i64 m, .int .u16 (g : Int)] 25)).alloc (.cells #[.int .i64 0, .int .i64 0, .int .i64 0, .int .u16 0] 25)) := (Ext.alloc _ _).thenAlloc _
    have r0 := heap_alloc2_old w (.cells #[.int .i64 r, .int .i64 s, .int .i64 m, .int .u16 (g : Int)] 25) (.cells #[.int .i64 0, .int .i64 0, .int .i64 0, .int .u16 0] 25)
    have r1 := heap_alloc2_new w (.cells #[.int .i64 r, .int .i64 s, .int .i64 m, .int .u16 (g : Int)] 25) (.cells #[.int .i64 0, .int .i64 0, .int .i64 0, .int .u16 0] 25)
    generalize ((w.alloc (.cells #[.int .i64 r, .int .i64 s, .int .i64 m, .int .u16 (g : Int)] 25)).alloc (.cells #[.int .i64 0, .int .i64 0, .int .i64 0, .int .u16 0] 25)) = w1 at *
    refine (hO _).mono ?_
    rintro e w2 ⟨rfl, rfl⟩
    obtain ⟨⟨a0, a1, a2, a3⟩, f0, f1, f2, f3⟩ := row4 r0
    obtain ⟨⟨b0, b1, b2, b3⟩, g0, g1, g2, g3⟩ := row4 r1
    clear r0 r1
    go_wp2_with fail
    refine bodyPost_ret (by rw [results_cell rfl]; go_simp; rfl) rfl ?_
    refine ⟨rfl, ?_⟩
    repeat (first | exact hx | refine Below.setCell ?_ (by first | exact Nat.le_refl _ | exact Nat.le_succ _) _)
end Go.Proofs.Ytkmkfkpblkhpmaa.VCst
