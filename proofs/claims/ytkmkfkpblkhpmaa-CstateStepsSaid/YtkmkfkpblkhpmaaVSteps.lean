/- CstateSteps: the walk. -/
import Derived.Test.YtkmkfkpblkhpmaaVRefAgo
namespace Go.Proofs.Ytkmkfkpblkhpmaa.VCst
open Go.RowKit Go.VBase

set_option maxHeartbeats 2000000 in
theorem Steps_any (r s m v n k : Int) (hk : -9223372036854775808 ≤ k ∧ k ≤ 9223372036854775807) (w : World) :
    Calls Try.prog 3 #[cst r s m v, .int .i64 n, .int .i64 k] w fun e w' => e = .returned (.bool true) ∧ Ext w w' := by
  have hS := fun w => Succ_calls r s m v n w
  have hT := fun w => refSucc_calls r s m v n w
  have hA := fun w => Ago_calls r s m v n k hk w
  have hB := fun w => refAgo_calls r s m v n k hk w
  obtain ⟨⟨⟨x0, x1, x2, x3⟩, xe⟩, hx⟩ : ∃ x, succB r s m v n = x := ⟨_, rfl⟩
  obtain ⟨⟨y0, y1, y2⟩, hy⟩ : ∃ x, agoB r s m n k = x := ⟨_, rfl⟩
  rw [hx] at hS hT
  rw [hy] at hA hB
  unfold SuccPost AgoPost at *
  simp only [cst] at hS hT hA hB ⊢
  clear hx hy
  go_enter Try.func3, Try.ntmps3
  go_wp2_with fail
  refine (hS _).mono ?_
  rintro e w1 ⟨rfl, h1⟩
  have r0 : w1.heap[w.heap.size]? = some (.cells #[.int .i64 r, .int .i64 s, .int .i64 m, .int .u16 v] 25) := h1.block (heap_alloc_new w _)
  have e1 := (Ext.alloc w _).trans h1
  obtain ⟨⟨a0, a1, a2, a3⟩, _⟩ := row4 r0
  have aa : ∀ c t, (w1.alloc (.cells c t)).cell? ⟨w.heap.size, 0, none⟩ = some (.int .i64 r) ∧ (w1.alloc (.cells c t)).cell? ⟨w.heap.size, 1, none⟩ = some (.int .i64 s) ∧ (w1.alloc (.cells c t)).cell? ⟨w.heap.size, 2, none⟩ = some (.int .i64 m) ∧ (w1.alloc (.cells c t)).cell? ⟨w.heap.size, 3, none⟩ = some (.int .u16 v) :=
    fun c t => ⟨(Ext.alloc w1 _).cell a0, (Ext.alloc w1 _).cell a1, (Ext.alloc w1 _).cell a2, (Ext.alloc w1 _).cell a3⟩
  have aa0 := fun c t => (aa c t).1
  have aa1 := fun c t => (aa c t).2.1
  have aa2 := fun c t => (aa c t).2.2.1
  have aa3 := fun c t => (aa c t).2.2.2
  have R0 := Lib.hid r0
  clear h1 aa r0
  go_wp2_with fail
  refine (hT _).mono ?_
  rintro e w2 ⟨rfl, h2⟩
  have q0 : w2.heap[w.heap.size]? = some (.cells #[.int .i64 r, .int .i64 s, .int .i64 m, .int .u16 v] 25) := h2.block ((Ext.alloc w1 _).block R0.out)
  have q1 : w2.heap[w1.heap.size]? = some (.cells #[.int .i64 x0, .int .i64 x1, .int .i64 x2, .int .u16 x3] 25) := h2.block (heap_alloc_new w1 _)
  have e2 := (e1.thenAlloc _).trans h2
  generalize w1.heap.size = b1 at *
  clear a0 a1 a2 a3 aa0 aa1 aa2 aa3 h2 R0 e1
  obtain ⟨⟨a0, a1, a2, a3⟩, _⟩ := row4 q0
  have aa : ∀ c t, (w2.alloc (.cells c t)).cell? ⟨w.heap.size, 0, none⟩ = some (.int .i64 r) ∧ (w2.alloc (.cells c t)).cell? ⟨w.heap.size, 1, none⟩ = some (.int .i64 s) ∧ (w2.alloc (.cells c t)).cell? ⟨w.heap.size, 2, none⟩ = some (.int .i64 m) ∧ (w2.alloc (.cells c t)).cell? ⟨w.heap.size, 3, none⟩ = some (.int .u16 v) :=
    fun c t => ⟨(Ext.alloc w2 _).cell a0, (Ext.alloc w2 _).cell a1, (Ext.alloc w2 _).cell a2, (Ext.alloc w2 _).cell a3⟩
  have aa0 := fun c t => (aa c t).1
  have aa1 := fun c t => (aa c t).2.1
  have aa2 := fun c t => (aa c t).2.2.1
  have aa3 := fun c t => (aa c t).2.2.2
  have Q := Lib.hid (And.intro q0 q1)
  clear aa q0 q1
  go_wp2_with fail
  refine (hA _).mono ?_
  rintro e w3 ⟨rfl, h3⟩
  have q0 : w3.heap[w.heap.size]? = some (.cells #[.int .i64 r, .int .i64 s, .int .i64 m, .int .u16 v] 25) := h3.block ((Ext.alloc w2 _).block Q.out.1)
  have q1 : w3.heap[b1]? = some (.cells #[.int .i64 x0, .int .i64 x1, .int .i64 x2, .int .u16 x3] 25) := h3.block ((Ext.alloc w2 _).block Q.out.2)
  have q2 : w3.heap[w2.heap.size]? = some (.cells #[.int .i64 x0, .int .i64 x1, .int .i64 x2, .int .u16 x3] 25) := h3.block (heap_alloc_new w2 _)
  have e3 := (e2.thenAlloc _).trans h3
  generalize w2.heap.size = b2 at *
  clear a0 a1 a2 a3 aa0 aa1 aa2 aa3 h3 Q e2
  obtain ⟨⟨a0, a1, a2, a3⟩, _⟩ := row4 q0
  have Q := Lib.hid (And.intro q1 q2)
  clear q0 q1 q2
  go_wp2_with fail
  refine (hB _).mono ?_
  rintro e w4 ⟨rfl, h4⟩
  have q1 := h4.block Q.out.1
  have q2 := h4.block Q.out.2
  have e4 := e3.trans h4
  clear a0 a1 a2 a3 h4 Q e3
  obtain ⟨⟨a0, a1, a2, a3⟩, _⟩ := row4 q1
  obtain ⟨⟨b0, b1', b2', b3⟩, _⟩ := row4 q2
  clear q1 q2
  go_wp2_with fail
  go_ret
  exact ⟨rfl, e4⟩
end Go.Proofs.Ytkmkfkpblkhpmaa.VCst
