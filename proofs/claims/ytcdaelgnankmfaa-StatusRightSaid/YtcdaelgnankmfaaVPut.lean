/- What octet's Put comes to. -/
import Derived.Test.YtcdaelgnankmfaaVHigh
import Derived.Test.YtcdaelgnankmfaaVRgCut
namespace Go.Proofs.Ytcdaelgnankmfaa.VOct
open Go.RowKit Go.VBase Go.VOct Go.VSeq Go.VRg

set_option maxRecDepth 100000 in
set_option maxHeartbeats 1000000 in
theorem Put_spoilt (B : Nat) (r : Option Nat) (width : Int) (n : Nat) (w : World) (h : OutAt w TOut TB B r none) :
    Calls Try.prog 46 #[.pointer (some ⟨B, 0, none⟩), .int .i64 width, .int .u64 (n : Int)] w (TailPost w B r none) := by
  refine calls_of_marks Try.func46 rfl ?_
  simp only [Try.ntmps46, List.size_toArray, List.length_cons, List.length_nil, Nat.reduceAdd, Nat.reduceSub, Array.replicate_succ, Array.replicate_zero, List.push_toArray, List.append_toArray, List.nil_append, List.cons_append]
  go_wp2_with fail
  refine (Spoilt_calls B r none _ ((h.ext (Ext.alloc _ _)).ext (Ext.alloc _ _))).mono ?_
  rintro e w' ⟨rfl, rfl⟩
  go_wp2_with fail
  refine leave0 rfl (results_tmp rfl _ _ _) ?_
  exact ⟨rfl, r, (h.ext (Ext.alloc _ _)).ext (Ext.alloc _ _), TouchO.of_ext ((Ext.alloc _ _).thenAlloc _), RowNext.refl _ _⟩

theorem two_boxes (w : World) (a b : Value) (t u : TypeId) : ∃ W, (w.alloc (.cells #[a] t)).alloc (.cells #[b] u) = W ∧ Ext w W ∧ W.heap[w.heap.size]? = some (.cells #[a] t) ∧ W.heap[w.heap.size + 1]? = some (.cells #[b] u) :=
  ⟨_, rfl, (Ext.alloc _ _).thenAlloc _, heap_alloc2_old w _ _, heap_alloc2_new w _ _⟩

/-- Where a number is none of a width. -/
def Bad (width : Int) (n : Nat) : Prop := widthB width = false ∨ (widthB width = true ∧ width < 8 ∧ ∃ q : Nat, (n : Int) / 2 ^ (8 * width).toNat = (q : Int) ∧ 0 < q)

set_option maxRecDepth 100000 in
set_option maxHeartbeats 1000000 in
theorem Put_bad1 (B : Nat) (r : Option Nat) (l : List UInt8) (width : Int) (n : Nat) (w : World) (h : OutAt w TOut TB B r (some l)) (hw : widthB width = false) :
    Calls Try.prog 46 #[.pointer (some ⟨B, 0, none⟩), .int .i64 width, .int .u64 (n : Int)] w (TailPost w B r none) := by
  refine calls_of_marks Try.func46 rfl ?_
  simp only [Try.ntmps46, List.size_toArray, List.length_cons, List.length_nil, Nat.reduceAdd, Nat.reduceSub, Array.replicate_succ, Array.replicate_zero, List.push_toArray, List.append_toArray, List.nil_append, List.cons_append]
  go_wp2_with fail
  refine (Spoilt_calls B r (some l) _ ((h.ext (Ext.alloc _ _)).ext (Ext.alloc _ _))).mono ?_
  rintro e w' ⟨rfl, rfl⟩
  go_wp2_with fail
  refine (wide_calls width _).mono ?_
  rintro e w1 ⟨rfl, hx⟩
  rw [hw]
  have hx0 : Ext w w1 := ((Ext.alloc _ _).thenAlloc _).trans hx
  have h1 := h.ext hx0
  have hc0 : w1.cell? ⟨w.heap.size, 0, none⟩ = some (.pointer (some ⟨B, 0, none⟩)) := cell_of_row w1 _ 0 _ _ _ (hx.block (heap_alloc2_old w _ _))
  clear hw
  go_wp2_with fail
  refine (spoil_calls B r (some l) _ h1).mono ?_
  rintro e w2 ⟨rfl, ho, ht⟩
  go_wp2_with fail
  refine leave0 rfl (results_tmp rfl _ _ _) ?_
  exact ⟨rfl, none, ho, (TouchO.of_ext hx0).trans ht (fun g hg => by cases hg), RowNext.none _ _⟩

set_option maxRecDepth 100000 in
set_option maxHeartbeats 1000000 in
theorem Put_bad2 (B : Nat) (r : Option Nat) (l : List UInt8) (width : Int) (n : Nat) (w : World) (h : OutAt w TOut TB B r (some l)) (hw : widthB width = true) (hw8 : width < 8) (hn : n < 18446744073709551616) (hbig : 256 ^ width.toNat ≤ n) :
    Calls Try.prog 46 #[.pointer (some ⟨B, 0, none⟩), .int .i64 width, .int .u64 (n : Int)] w (TailPost w B r none) := by
  have hcase : width = 1 ∨ width = 2 ∨ width = 4 := by
    unfold widthB at hw
    simp at hw
    omega
  refine calls_of_marks Try.func46 rfl ?_
  simp only [Try.ntmps46, List.size_toArray, List.length_cons, List.length_nil, Nat.reduceAdd, Nat.reduceSub, Array.replicate_succ, Array.replicate_zero, List.push_toArray, List.append_toArray, List.nil_append, List.cons_append]
  go_wp2_with fail
  refine (Spoilt_calls B r (some l) _ ((h.ext (Ext.alloc _ _)).ext (Ext.alloc _ _))).mono ?_
  rintro e w' ⟨rfl, rfl⟩
  go_wp2_with fail
  refine (wide_calls width _).mono ?_
  rintro e w1 ⟨rfl, hx⟩
  rw [hw]
  have hx0 : Ext w w1 := ((Ext.alloc _ _).thenAlloc _).trans hx
  have h1 := h.ext hx0
  have hc0 : w1.cell? ⟨w.heap.size, 0, none⟩ = some (.pointer (some ⟨B, 0, none⟩)) := cell_of_row w1 _ 0 _ _ _ (hx.block (heap_alloc2_old w _ _))
  have hc1 : w1.cell? ⟨w.heap.size + 1, 0, none⟩ = some (.int .u64 (n : Int)) := cell_of_row w1 _ 0 _ _ _ (hx.block (heap_alloc2_new w _ _))
  clear hw
  rcases hcase with rfl | rfl | rfl
  · have hd : decide ((0 : Int) < (n : Int) / 256) = true := by
      have : (256 : Nat) ^ Int.toNat 1 = 256 := by decide
      rw [this] at hbig
      apply decide_eq_true; omega
    clear hbig
    go_wp2_with fail
    refine (spoil_calls B r (some l) _ h1).mono ?_
    rintro e w2 ⟨rfl, ho, ht⟩
    go_wp2_with fail
    refine leave0 rfl (results_tmp rfl _ _ _) ?_
    exact ⟨rfl, none, ho, (TouchO.of_ext hx0).trans ht (fun g hg => by cases hg), RowNext.none _ _⟩
  · have hd : decide ((0 : Int) < (n : Int) / 65536) = true := by
      have : (256 : Nat) ^ Int.toNat 2 = 65536 := by decide
      rw [this] at hbig
      apply decide_eq_true; omega
    clear hbig
    go_wp2_with fail
    refine (spoil_calls B r (some l) _ h1).mono ?_
    rintro e w2 ⟨rfl, ho, ht⟩
    go_wp2_with fail
    refine leave0 rfl (results_tmp rfl _ _ _) ?_
    exact ⟨rfl, none, ho, (TouchO.of_ext hx0).trans ht (fun g hg => by cases hg), RowNext.none _ _⟩
  · have hd : decide ((0 : Int) < (n : Int) / 4294967296) = true := by
      have : (256 : Nat) ^ Int.toNat 4 = 4294967296 := by decide
      rw [this] at hbig
      apply decide_eq_true; omega
    clear hbig
    go_wp2_with fail
    refine (spoil_calls B r (some l) _ h1).mono ?_
    rintro e w2 ⟨rfl, ho, ht⟩
    go_wp2_with fail
    refine leave0 rfl (results_tmp rfl _ _ _) ?_
    exact ⟨rfl, none, ho, (TouchO.of_ext hx0).trans ht (fun g hg => by cases hg), RowNext.none _ _⟩
end Go.Proofs.Ytcdaelgnankmfaa.VOct
