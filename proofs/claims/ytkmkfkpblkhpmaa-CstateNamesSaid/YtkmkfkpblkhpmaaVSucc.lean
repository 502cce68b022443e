/- cstate.Successor, and the document's. -/
import Derived.Test.YtkmkfkpblkhpmaaVCst
import Derived.Laws.ResultCell
namespace Go.Proofs.Ytkmkfkpblkhpmaa.VCst
open Go.RowKit Go.VBase

theorem row4 {w : World} {b : Nat} {c0 c1 c2 c3 : Value} {t : TypeId} (h : w.heap[b]? = some (.cells #[c0, c1, c2, c3] t)) :
    (w.cell? ⟨b, 0, none⟩ = some c0 ∧ w.cell? ⟨b, 1, none⟩ = some c1 ∧ w.cell? ⟨b, 2, none⟩ = some c2 ∧ w.cell? ⟨b, 3, none⟩ = some c3) ∧ w.frozen? ⟨b, 0, none⟩ = false ∧ w.frozen? ⟨b, 1, none⟩ = false ∧ w.frozen? ⟨b, 2, none⟩ = false ∧ w.frozen? ⟨b, 3, none⟩ = false :=
  ⟨⟨cell_of_row w b 0 _ _ _ h, cell_of_row w b 1 _ _ _ h, cell_of_row w b 2 _ _ _ h, cell_of_row w b 3 _ _ _ h⟩, frozen_of_row w b 0 _ _ h, frozen_of_row w b 1 _ _ h, frozen_of_row w b 2 _ _ h, frozen_of_row w b 3 _ _ h⟩

/-- The successor: its round, slot and mode's.. and the error. -/
def succB (r s m v n : Int) : (Int × Int × Int × Int) × Int :=
  if ofB r s m n = false then ((0, 0, 0, 0), 40)
  else if s + 1 = n then (if r = 2147483647 then ((0, 0, 0, 0), 40) else ((r + 1, 0, m, v), 0))
  else ((r, s + 1, m, v), 0)
def SuccPost (x : (Int × Int × Int × Int) × Int) (w : World) (e : Ending) (w' : World) : Prop := e = .returned (.tuple #[cst x.1.1 x.1.2.1 x.1.2.2.1 x.1.2.2.2, .int .i64 x.2]) ∧ Ext w w'

theorem set1 {w : World} {b i : Nat} {cs : Array Value} {t : TypeId} {v : Value} (h : w.heap[b]? = some (.cells cs t)) : (w.setCell ⟨b, i, none⟩ v).heap[b]? = some (.cells (cs.setIfInBounds i v) t) := by
  rw [heap_setCell_same _ _ _ _ _ _ h]

theorem ofB_facts {r s m n : Int} (h : ofB r s m n = true) : 1 ≤ n ∧ n ≤ 16 ∧ 0 ≤ r ∧ r ≤ 2147483647 ∧ 0 ≤ s ∧ s ≤ 15 ∧ 0 ≤ m ∧ m ≤ 7 ∧ s < n := by
  simp [ofB, chkB, inB] at h; omega
theorem chkB_of {r s m : Int} (h : 0 ≤ r ∧ r ≤ 2147483647 ∧ 0 ≤ s ∧ s ≤ 15 ∧ 0 ≤ m ∧ m ≤ 7) : chkB r s m = true := by
  simp [chkB, inB]; omega

set_option maxHeartbeats 1000000 in
theorem Succ_calls (r s m v n : Int) (w : World) : Calls Try.prog 11 #[cst r s m v, .int .i64 n] w (SuccPost (succB r s m v n) w) := by
  have hO := fun w => of_calls r s m v n w
  have hC := fun r s w => Check_calls r s m v w
  obtain ⟨x, hx⟩ : ∃ x, succB r s m v n = x := ⟨_, rfl⟩
  rw [hx]
  have HX := Lib.hid hx
  clear hx
  have HD : ofB r s m n = false ∨ (ofB r s m n = true ∧ s + 1 ≠ n) ∨ (ofB r s m n = true ∧ s + 1 = n ∧ r ≠ 2147483647) ∨ (ofB r s m n = true ∧ s + 1 = n ∧ r = 2147483647) := by
    cases ofB r s m n
    · exact .inl rfl
    · by_cases h1 : s + 1 = n
      · by_cases h2 : r = 2147483647
        · exact .inr (.inr (.inr ⟨rfl, h1, h2⟩))
        · exact .inr (.inr (.inl ⟨rfl, h1, h2⟩))
      · exact .inr (.inl ⟨rfl, h1⟩)
  unfold cst at hO hC ⊢
  go_enter Try.func11, Try.ntmps11
  go_wp2_with fail
  refine (hO _).mono ?_
  rintro e w1 ⟨rfl, hx⟩
  have hx1 := ((Ext.alloc w _).thenAlloc _).trans hx
  have r0 : w1.heap[w.heap.size]? = some (.cells #[.int .i64 r, .int .i64 s, .int .i64 m, .int .u16 v] 25) := hx.block (heap_alloc2_old w _ _)
  have r1 : w1.heap[w.heap.size + 1]? = some (.cells #[.int .i64 0, .int .i64 0, .int .i64 0, .int .u16 0] 25) := hx.block (heap_alloc2_new w _ _)
  obtain ⟨⟨a0, a1, a2, a3⟩, f0, f1, f2, f3⟩ := row4 r0
  obtain ⟨⟨b0, b1, b2, b3⟩, g0, g1, g2, g3⟩ := row4 r1
  have HR := Lib.hid (And.intro r0 r1)
  clear r0 r1 hx
  rcases HD with hb | ⟨hb, h1⟩ | ⟨hb, h1, h2⟩ | ⟨hb, h1, h2⟩
  · rw [hb]
    have hxx : x = ((0, 0, 0, 0), 40) := by rw [← HX.out]; unfold succB; rw [if_pos hb]
    clear HX
    go_wp2_with fail
    refine bodyPost_ret (by rw [results_cell_tmp rfl]; go_simp; rfl) rfl ?_
    subst hxx
    refine ⟨rfl, ?_⟩
    show Below w.heap.size w _
    repeat (refine Below.setCell ?_ (by simp) _)
    exact hx1
  · obtain ⟨j1, j2, j3, j4, j5, j6, j7, j8, j9⟩ := ofB_facts hb
    rw [hb]
    have hxx : x = ((r, s + 1, m, v), 0) := by rw [← HX.out]; unfold succB; rw [if_neg (by rw [hb]; decide), if_neg h1]
    have hck : chkB r (s + 1) m = true := chkB_of (by omega)
    have hne : (s + 1 == n) = false := by simpa using h1
    clear HX hb
    go_wp2_with fail
    refine (hC r (s + 1) _).mono ?_
    rintro e w2 ⟨rfl, hx2⟩
    rw [hck]
    have q0 : w2.heap[w.heap.size]? = some (.cells #[.int .i64 r, .int .i64 (s + 1), .int .i64 m, .int .u16 v] 25) := hx2.block (by rw [heap_setCell_same _ _ _ _ _ _ HR.out.1]; rfl)
    have q1 : w2.heap[w.heap.size + 1]? = some (.cells #[.int .i64 0, .int .i64 0, .int .i64 0, .int .u16 0] 25) := hx2.block ((heap_setCell_other _ _ _ _ (by simp)).trans HR.out.2)
    obtain ⟨⟨a0', a1', a2', a3'⟩, f0', f1', f2', f3'⟩ := row4 q0
    obtain ⟨⟨b0', b1', b2', b3'⟩, g0', g1', g2', g3'⟩ := row4 q1
    have hx3 : Ext w w2 := by
      refine Ext.trans ?_ hx2
      show Below w.heap.size w _
      repeat (refine Below.setCell ?_ (by simp) _)
      exact hx1
    clear q0 q1 hx2 hx1 HR a0 a1 a2 a3 b0 b1 b2 b3 f0 f1 f2 f3 g0 g1 g2 g3
    rw [show (if true = true then (0 : Int) else 40) = 0 from rfl]
    go_wp2_with fail
    refine bodyPost_ret (by rw [results_cell_tmp rfl]; go_simp; rfl) rfl ?_
    subst hxx
    refine ⟨rfl, ?_⟩
    show Below w.heap.size w _
    repeat (refine Below.setCell ?_ (by simp) _)
    exact hx3
  · obtain ⟨j1, j2, j3, j4, j5, j6, j7, j8, j9⟩ := ofB_facts hb
    rw [hb]
    have hxx : x = ((r + 1, 0, m, v), 0) := by rw [← HX.out]; unfold succB; rw [if_neg (by rw [hb]; decide), if_pos h1, if_neg h2]
    have hck : chkB (r + 1) 0 m = true := chkB_of (by omega)
    have hne : (s + 1 == n) = true := by simpa using h1
    clear HX hb h2
    go_wp2_with fail
    refine (hC (r + 1) 0 _).mono ?_
    rintro e w2 ⟨rfl, hx2⟩
    rw [hck]
    have q0 : w2.heap[w.heap.size]? = some (.cells #[.int .i64 (r + 1), .int .i64 0, .int .i64 m, .int .u16 v] 25) := hx2.block (set1 (set1 (set1 HR.out.1)))
    have q1 : w2.heap[w.heap.size + 1]? = some (.cells #[.int .i64 0, .int .i64 0, .int .i64 0, .int .u16 0] 25) := hx2.block ((heap_setCell_other _ _ _ _ (by simp)).trans ((heap_setCell_other _ _ _ _ (by simp)).trans ((heap_setCell_other _ _ _ _ (by simp)).trans HR.out.2)))
    obtain ⟨⟨a0', a1', a2', a3'⟩, f0', f1', f2', f3'⟩ := row4 q0
    obtain ⟨⟨b0', b1', b2', b3'⟩, g0', g1', g2', g3'⟩ := row4 q1
    have hx3 : Ext w w2 := by
      refine Ext.trans ?_ hx2
      show Below w.heap.size w _
      repeat (refine Below.setCell ?_ (by simp) _)
      exact hx1
    clear q0 q1 hx2 hx1 HR a0 a1 a2 a3 b0 b1 b2 b3 f0 f1 f2 f3 g0 g1 g2 g3
    rw [show (if true = true then (0 : Int) else 40) = 0 from rfl]
    go_wp2_with fail
    refine bodyPost_ret (by rw [results_cell_tmp rfl]; go_simp; rfl) rfl ?_
    subst hxx
    refine ⟨rfl, ?_⟩
    show Below w.heap.size w _
    repeat (refine Below.setCell ?_ (by simp) _)
    exact hx3
  · obtain ⟨j1, j2, j3, j4, j5, j6, j7, j8, j9⟩ := ofB_facts hb
    rw [hb]
    have hxx : x = ((0, 0, 0, 0), 40) := by rw [← HX.out]; unfold succB; rw [if_neg (by rw [hb]; decide), if_pos h1, if_pos h2]
    have hck : chkB (r + 1) 0 m = false := by simp [chkB, inB, h2]
    have hne : (s + 1 == n) = true := by simpa using h1
    clear HX hb h2
    go_wp2_with fail
    refine (hC (r + 1) 0 _).mono ?_
    rintro e w2 ⟨rfl, hx2⟩
    rw [hck]
    have q0 : w2.heap[w.heap.size]? = some (.cells #[.int .i64 (r + 1), .int .i64 0, .int .i64 m, .int .u16 v] 25) := hx2.block (set1 (set1 (set1 HR.out.1)))
    have q1 : w2.heap[w.heap.size + 1]? = some (.cells #[.int .i64 0, .int .i64 0, .int .i64 0, .int .u16 0] 25) := hx2.block ((heap_setCell_other _ _ _ _ (by simp)).trans ((heap_setCell_other _ _ _ _ (by simp)).trans ((heap_setCell_other _ _ _ _ (by simp)).trans HR.out.2)))
    obtain ⟨⟨a0', a1', a2', a3'⟩, f0', f1', f2', f3'⟩ := row4 q0
    obtain ⟨⟨b0', b1', b2', b3'⟩, g0', g1', g2', g3'⟩ := row4 q1
    have hx3 : Ext w w2 := by
      refine Ext.trans ?_ hx2
      show Below w.heap.size w _
      repeat (refine Below.setCell ?_ (by simp) _)
      exact hx1
    clear q0 q1 hx2 hx1 HR a0 a1 a2 a3 b0 b1 b2 b3 f0 f1 f2 f3 g0 g1 g2 g3
    rw [show (if false = true then (0 : Int) else 40) = 40 from rfl]
    go_wp2_with fail
    refine bodyPost_ret (by rw [results_cell_tmp rfl]; go_simp; rfl) rfl ?_
    subst hxx
    refine ⟨rfl, ?_⟩
    show Below w.heap.size w _
    repeat (refine Below.setCell ?_ (by simp) _)
    exact hx3

set_option maxHeartbeats 1000000 in
theorem refSucc_calls (r s m v n : Int) (w : World) : Calls Try.prog 12 #[cst r s m v, .int .i64 n] w (SuccPost (succB r s m v n) w) := by
  have hO := fun w => fits_calls r s m v n w
  obtain ⟨x, hx⟩ : ∃ x, succB r s m v n = x := ⟨_, rfl⟩
  rw [hx]
  have HX := Lib.hid hx
  clear hx
  have HD : ofB r s m n = false ∨ (ofB r s m n = true ∧ s + 1 ≠ n ∧ r = 2147483647) ∨ (ofB r s m n = true ∧ s + 1 ≠ n ∧ r ≠ 2147483647) ∨ (ofB r s m n = true ∧ s + 1 = n ∧ r ≠ 2147483647) ∨ (ofB r s m n = true ∧ s + 1 = n ∧ r = 2147483647) := by
    cases ofB r s m n
    · exact .inl rfl
    · by_cases h1 : s + 1 = n
      · by_cases h2 : r = 2147483647
        · exact .inr (.inr (.inr (.inr ⟨rfl, h1, h2⟩)))
        · exact .inr (.inr (.inr (.inl ⟨rfl, h1, h2⟩)))
      · by_cases h2 : r = 2147483647
        · exact .inr (.inl ⟨rfl, h1, h2⟩)
        · exact .inr (.inr (.inl ⟨rfl, h1, h2⟩))
  unfold cst at hO ⊢
  go_enter Try.func12, Try.ntmps12
  go_wp2_with fail
  refine (hO _).mono ?_
  rintro e w1 ⟨rfl, hx⟩
  have hx1 := ((Ext.alloc w _).thenAlloc _).trans hx
  have r0 : w1.heap[w.heap.size]? = some (.cells #[.int .i64 r, .int .i64 s, .int .i64 m, .int .u16 v] 25) := hx.block (heap_alloc2_old w _ _)
  have r1 : w1.heap[w.heap.size + 1]? = some (.cells #[.int .i64 0, .int .i64 0, .int .i64 0, .int .u16 0] 25) := hx.block (heap_alloc2_new w _ _)
  obtain ⟨⟨a0, a1, a2, a3⟩, f0, f1, f2, f3⟩ := row4 r0
  obtain ⟨⟨b0, b1, b2, b3⟩, g0, g1, g2, g3⟩ := row4 r1
  clear r0 r1 hx
  rcases HD with hb | ⟨hb, h1, h2⟩ | ⟨hb, h1, h2⟩ | ⟨hb, h1, h2⟩ | ⟨hb, h1, h2⟩
  · rw [hb]
    have hxx : x = ((0, 0, 0, 0), 40) := by rw [← HX.out]; unfold succB; rw [if_pos hb]
    clear HX hb
    go_wp2_with fail
    refine bodyPost_ret (by rw [results_cell_tmp rfl]; go_simp; rfl) rfl ?_
    subst hxx
    refine ⟨rfl, ?_⟩
    show Below w.heap.size w _
    repeat (refine Below.setCell ?_ (by simp) _)
    exact hx1
  · obtain ⟨j1, j2, j3, j4, j5, j6, j7, j8, j9⟩ := ofB_facts hb
    rw [hb]
    have hxx : x = ((r, s + 1, m, v), 0) := by rw [← HX.out]; unfold succB; rw [if_neg (by rw [hb]; decide), if_neg h1]
    have hr : (r == 2147483647) = true := by simpa using h2
    have hs : (s == n - 1) = false := by simp; omega
    clear HX hb h1 h2
    go_wp2_with fail
    refine bodyPost_ret (by rw [results_cell_tmp rfl]; go_simp; rfl) rfl ?_
    subst hxx
    refine ⟨rfl, ?_⟩
    show Below w.heap.size w _
    repeat (refine Below.setCell ?_ (by simp) _)
    exact hx1
  · obtain ⟨j1, j2, j3, j4, j5, j6, j7, j8, j9⟩ := ofB_facts hb
    rw [hb]
    have hxx : x = ((r, s + 1, m, v), 0) := by rw [← HX.out]; unfold succB; rw [if_neg (by rw [hb]; decide), if_neg h1]
    have hr : (r == 2147483647) = false := by simpa using h2
    have hs : (s == n - 1) = false := by simp; omega
    clear HX hb h1 h2
    go_wp2_with fail
    refine bodyPost_ret (by rw [results_cell_tmp rfl]; go_simp; rfl) rfl ?_
    subst hxx
    refine ⟨rfl, ?_⟩
    show Below w.heap.size w _
    repeat (refine Below.setCell ?_ (by simp) _)
    exact hx1
  · obtain ⟨j1, j2, j3, j4, j5, j6, j7, j8, j9⟩ := ofB_facts hb
    rw [hb]
    have hxx : x = ((r + 1, 0, m, v), 0) := by rw [← HX.out]; unfold succB; rw [if_neg (by rw [hb]; decide), if_pos h1, if_neg h2]
    have hr : (r == 2147483647) = false := by simpa using h2
    have hs : (s == n - 1) = true := by simp; omega
    clear HX hb h1 h2
    go_wp2_with fail
    refine bodyPost_ret (by rw [results_cell_tmp rfl]; go_simp; rfl) rfl ?_
    subst hxx
    refine ⟨rfl, ?_⟩
    show Below w.heap.size w _
    repeat (refine Below.setCell ?_ (by simp) _)
    exact hx1
  · obtain ⟨j1, j2, j3, j4, j5, j6, j7, j8, j9⟩ := ofB_facts hb
    rw [hb]
    have hxx : x = ((0, 0, 0, 0), 40) := by rw [← HX.out]; unfold succB; rw [if_neg (by rw [hb]; decide), if_pos h1, if_pos h2]
    have hr : (r == 2147483647) = true := by simpa using h2
    have hs : (s == n - 1) = true := by simp; omega
    clear HX hb h1 h2
    go_wp2_with fail
    refine bodyPost_ret (by rw [results_cell_tmp rfl]; go_simp; rfl) rfl ?_
    subst hxx
    refine ⟨rfl, ?_⟩
    show Below w.heap.size w _
    repeat (refine Below.setCell ?_ (by simp) _)
    exact hx1
end Go.Proofs.Ytkmkfkpblkhpmaa.VCst
