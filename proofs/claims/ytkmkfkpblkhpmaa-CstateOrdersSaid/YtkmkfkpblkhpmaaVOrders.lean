/- CstateOrders: the walk. -/
import Derived.Test.YtkmkfkpblkhpmaaVAlive04
import Derived.Test.YtkmkfkpblkhpmaaVRefCompare
import Derived.Test.YtkmkfkpblkhpmaaVCstArg
namespace Go.Proofs.Ytkmkfkpblkhpmaa.VCst
open Go.RowKit Go.VBase Go.VRg

/-- Which one stands ahead. -/
def ordC (r s r' s' : Int) : Int := orB (cmpB r r') (cmpB s s')
theorem ord_cases (r s r' s' : Int) : (ordC r s r' s' = -1 ∧ (r < r' ∨ (r = r' ∧ s < s'))) ∨ (ordC r s r' s' = 0 ∧ r = r' ∧ s = s') ∨ (ordC r s r' s' = 1 ∧ (r' < r ∨ (r = r' ∧ s' < s))) := by
  unfold ordC orB cmpB
  rcases Int.lt_trichotomy r r' with h | h | h
  · left; simp [h]
  · subst h
    rcases Int.lt_trichotomy s s' with h2 | h2 | h2
    · left; simp [h2]
    · right; left; subst h2; simp
    · right; right
      have : ¬ s < s' := by omega
      simp [h2, this]
  · right; right
    have : ¬ r < r' := by omega
    simp [h, this]
theorem ord_neg (r s r' s' : Int) : ordC r' s' r s = -ordC r s r' s' := by
  rcases ord_cases r s r' s' with ⟨h, h'⟩ | ⟨h, h'⟩ | ⟨h, h'⟩ <;> rcases ord_cases r' s' r s with ⟨k, k'⟩ | ⟨k, k'⟩ | ⟨k, k'⟩ <;> rw [h, k] <;> omega

set_option maxRecDepth 100000 in
set_option maxHeartbeats 4000000 in
theorem Orders_any (r s m g r' s' m' g' r2 s2 m2 g2 : Int) (w : World) :
    Calls Try.prog 6 #[cst r s m g, cst r' s' m' g', cst r2 s2 m2 g2] w fun e w' => e = .returned (.bool true) ∧ Ext w w' := by
  have kA := fun w => alive_calls w
  have kC := fun r s m g r' s' m' g' w => Compare_calls r s m g r' s' m' g' w
  have hx : ∃ x, ordC r s r' s' = x := ⟨_, rfl⟩
  have hy : ∃ x, ordC r' s' r2 s2 = x := ⟨_, rfl⟩
  have hz : ∃ x, ordC r s r2 s2 = x := ⟨_, rfl⟩
  obtain ⟨x, hx⟩ := hx
  obtain ⟨y, hy⟩ := hy
  obtain ⟨z, hz⟩ := hz
  have hxn : ordC r' s' r s = -x := by rw [ord_neg, hx]
  have e1 : (r == r') = decide (r = r') := by rw [Bool.eq_iff_iff]; simp
  have e2 : (s == s') = decide (s = s') := by rw [Bool.eq_iff_iff]; simp
  have HC : (x = -1 ∧ (r == r') = false ∨ x = -1 ∧ (r == r') = true ∧ (s == s') = false ∨ x = 0 ∧ z = y ∧ (r == r') = true ∧ (s == s') = true ∨ x = 1 ∧ (r == r') = false ∨ x = 1 ∧ (r == r') = true ∧ (s == s') = false) ∧
      (x = -1 → (decide (y < 0) = true ∧ decide (0 ≤ z) = false ∨ decide (y < 0) = false)) ∧ (x = 1 → (decide (0 < y) = true ∧ decide (z ≤ 0) = false ∨ decide (0 < y) = false)) := by
    rw [e1, e2]
    simp only [decide_eq_false_iff_not, decide_eq_true_eq]
    have c1 := ord_cases r s r' s'
    have c2 := ord_cases r' s' r2 s2
    have c3 := ord_cases r s r2 s2
    rw [hx] at c1
    rw [hy] at c2
    rw [hz] at c3
    omega
  clear e1 e2
  have HX := Lib.hid (And.intro hx (And.intro hy (And.intro hz (And.intro hxn HC))))
  clear hx hy hz hxn HC
  unfold cst at *
  go_enter Try.func6, Try.ntmps6
  go_wp2_with fail
  refine (kA _).mono ?_
  rintro e w1 ⟨rfl, hx1⟩
  have q0 := hx1.block ((Ext.alloc _ (.cells #[.int .i64 r2, .int .i64 s2, .int .i64 m2, .int .u16 g2] 25)).block (heap_alloc2_old w (.cells #[.int .i64 r, .int .i64 s, .int .i64 m, .int .u16 g] 25) (.cells #[.int .i64 r', .int .i64 s', .int .i64 m', .int .u16 g'] 25)))
  have q1 := hx1.block ((Ext.alloc _ (.cells #[.int .i64 r2, .int .i64 s2, .int .i64 m2, .int .u16 g2] 25)).block (heap_alloc2_new w (.cells #[.int .i64 r, .int .i64 s, .int .i64 m, .int .u16 g] 25) (.cells #[.int .i64 r', .int .i64 s', .int .i64 m', .int .u16 g'] 25)))
  have q2 := hx1.block (heap_alloc2_new (w.alloc (.cells #[.int .i64 r, .int .i64 s, .int .i64 m, .int .u16 g] 25)) (.cells #[.int .i64 r', .int .i64 s', .int .i64 m', .int .u16 g'] 25) (.cells #[.int .i64 r2, .int .i64 s2, .int .i64 m2, .int .u16 g2] 25))
  simp only [World.size_alloc] at q2
  have hw1 := (((Ext.alloc w (.cells #[.int .i64 r, .int .i64 s, .int .i64 m, .int .u16 g] 25)).thenAlloc (.cells #[.int .i64 r', .int .i64 s', .int .i64 m', .int .u16 g'] 25)).thenAlloc (.cells #[.int .i64 r2, .int .i64 s2, .int .i64 m2, .int .u16 g2] 25)).trans hx1
  clear hx1
  obtain ⟨⟨a0, a1, a2, a3⟩, _⟩ := row4 q0
  obtain ⟨⟨b0, b1, b2, b3⟩, _⟩ := row4 q1
  obtain ⟨⟨c0, c1, c2, c3⟩, _⟩ := row4 q2
  go_wp2_with fail
  refine wp_region_rg Ext [(2, .known (.int .i64 x)), (5, .known (.int .i64 y)), (8, .known (.int .i64 z))] (by kernel_rfl) (by kernel_rfl) (by kernel_rfl) Ext.refl (fun _ _ _ => Ext.trans) ?_
  intro σ
  simp only
  have k0 : ∀ W, Ext w1.drew W → W.cell? ⟨w.heap.size, 0, none⟩ = some (.int .i64 r) ∧ W.cell? ⟨w.heap.size, 1, none⟩ = some (.int .i64 s) ∧ W.cell? ⟨w.heap.size, 2, none⟩ = some (.int .i64 m) ∧ W.cell? ⟨w.heap.size, 3, none⟩ = some (.int .u16 g) := fun W h => ⟨h.cell a0, h.cell a1, h.cell a2, h.cell a3⟩
  have k1 : ∀ W, Ext w1.drew W → W.cell? ⟨w.heap.size + 1, 0, none⟩ = some (.int .i64 r') ∧ W.cell? ⟨w.heap.size + 1, 1, none⟩ = some (.int .i64 s') ∧ W.cell? ⟨w.heap.size + 1, 2, none⟩ = some (.int .i64 m') ∧ W.cell? ⟨w.heap.size + 1, 3, none⟩ = some (.int .u16 g') := fun W h => ⟨h.cell b0, h.cell b1, h.cell b2, h.cell b3⟩
  have k2 : ∀ W, Ext w1.drew W → W.cell? ⟨w.heap.size + 1 + 1, 0, none⟩ = some (.int .i64 r2) ∧ W.cell? ⟨w.heap.size + 1 + 1, 1, none⟩ = some (.int .i64 s2) ∧ W.cell? ⟨w.heap.size + 1 + 1, 2, none⟩ = some (.int .i64 m2) ∧ W.cell? ⟨w.heap.size + 1 + 1, 3, none⟩ = some (.int .u16 g2) := fun W h => ⟨h.cell c0, h.cell c1, h.cell c2, h.cell c3⟩
  repeat (refine rg_pure (x := ?_) rfl (by rfl) (fun W hW => ?_) ?_; rotate_left; (· obtain ⟨f0, f1, f2, f3⟩ := k0 W hW; obtain ⟨f4, f5, f6, f7⟩ := k1 W hW; obtain ⟨f8, f9, f10, f11⟩ := k2 W hW; go_simp; with_reducible rfl); simp only [Nat.reduceAdd, Act.put, List.setIfInBounds_toArray, List.set_cons_zero, List.set_cons_succ])
  refine rg_known rfl (by rfl) (fun W hW hno => ?_) ?_
  · go_simp
    refine (kC r s m g r' s' m' g' W).mono ?_
    rintro e W' ⟨rfl, h⟩
    exact ⟨_, by rw [← HX.out.1]; rfl, h, rfl⟩
  simp only [Nat.reduceAdd, Act.put, List.setIfInBounds_toArray, List.set_cons_zero, List.set_cons_succ]
  repeat (refine rg_pure (x := ?_) rfl (by rfl) (fun W hW => ?_) ?_; rotate_left; (· obtain ⟨f0, f1, f2, f3⟩ := k0 W hW; obtain ⟨f4, f5, f6, f7⟩ := k1 W hW; obtain ⟨f8, f9, f10, f11⟩ := k2 W hW; go_simp; with_reducible rfl); simp only [Nat.reduceAdd, Act.put, List.setIfInBounds_toArray, List.set_cons_zero, List.set_cons_succ])
  refine rg_known rfl (by rfl) (fun W hW hno => ?_) ?_
  · go_simp
    refine (kC r' s' m' g' r2 s2 m2 g2 W).mono ?_
    rintro e W' ⟨rfl, h⟩
    exact ⟨_, by rw [← HX.out.2.1]; rfl, h, rfl⟩
  simp only [Nat.reduceAdd, Act.put, List.setIfInBounds_toArray, List.set_cons_zero, List.set_cons_succ]
  repeat (refine rg_pure (x := ?_) rfl (by rfl) (fun W hW => ?_) ?_; rotate_left; (· obtain ⟨f0, f1, f2, f3⟩ := k0 W hW; obtain ⟨f4, f5, f6, f7⟩ := k1 W hW; obtain ⟨f8, f9, f10, f11⟩ := k2 W hW; go_simp; with_reducible rfl); simp only [Nat.reduceAdd, Act.put, List.setIfInBounds_toArray, List.set_cons_zero, List.set_cons_succ])
  refine rg_known rfl (by rfl) (fun W hW hno => ?_) ?_
  · go_simp
    refine (kC r s m g r2 s2 m2 g2 W).mono ?_
    rintro e W' ⟨rfl, h⟩
    exact ⟨_, by rw [← HX.out.2.2.1]; rfl, h, rfl⟩
  simp only [Nat.reduceAdd, Act.put, List.setIfInBounds_toArray, List.set_cons_zero, List.set_cons_succ]
  repeat (refine rg_pure (x := ?_) rfl (by rfl) (fun W hW => ?_) ?_; rotate_left; (· obtain ⟨f0, f1, f2, f3⟩ := k0 W hW; obtain ⟨f4, f5, f6, f7⟩ := k1 W hW; obtain ⟨f8, f9, f10, f11⟩ := k2 W hW; go_simp; with_reducible rfl); simp only [Nat.reduceAdd, Act.put, List.setIfInBounds_toArray, List.set_cons_zero, List.set_cons_succ])
  refine rg_done fun W hW hno => ?_
  have hw2 := hw1.trans (Ext.of_drew hW)
  have p0 := (Ext.of_drew hW).block q0
  have p1 := (Ext.of_drew hW).block q1
  have p2 := (Ext.of_drew hW).block q2
  clear hno hW k0 k1 k2 a0 a1 a2 a3 b0 b1 b2 b3 c0 c1 c2 c3 q0 q1 q2 hw1 σ
  obtain ⟨⟨a0, a1, a2, a3⟩, _⟩ := row4 p0
  obtain ⟨⟨b0, b1, b2, b3⟩, _⟩ := row4 p1
  obtain ⟨⟨c0, c1, c2, c3⟩, _⟩ := row4 p2
  have hcase := HX.out.2.2.2.2
  obtain ⟨hc, hn1, hp1⟩ := hcase
  rcases hc with ⟨rfl, f1⟩ | ⟨rfl, f1, f2⟩ | ⟨rfl, rfl, f1, f2⟩ | ⟨rfl, f1⟩ | ⟨rfl, f1, f2⟩
  · rcases hn1 rfl with ⟨t1, t2⟩ | t1
    · clear hn1 hp1
      go_wp2_with fail
      have d0 := (Ext.alloc W (.cells #[.int .i64 r, .int .i64 s, .int .i64 m, .int .u16 g] 25)).block p0
      have d1 := (Ext.alloc W (.cells #[.int .i64 r, .int .i64 s, .int .i64 m, .int .u16 g] 25)).block p1
      have d2 := (Ext.alloc W (.cells #[.int .i64 r, .int .i64 s, .int .i64 m, .int .u16 g] 25)).block p2
      have d3 := heap_alloc_new W (.cells #[.int .i64 r, .int .i64 s, .int .i64 m, .int .u16 g] 25)
      have hw3 := hw2.thenAlloc (.cells #[.int .i64 r, .int .i64 s, .int .i64 m, .int .u16 g] 25)
      have hsz := hw2.size
      have hszW : w.heap.size + 1 + 1 < W.heap.size := (Array.getElem?_eq_some_iff.1 p2).1
      generalize W.alloc (.cells #[.int .i64 r, .int .i64 s, .int .i64 m, .int .u16 g] 25) = W3 at *
      generalize W.heap.size = bd at *
      clear a0 a1 a2 a3 b0 b1 b2 b3 c0 c1 c2 c3 p0 p1 p2
      obtain ⟨⟨a0, a1, a2, a3⟩, _⟩ := row4 d0
      obtain ⟨⟨b0, b1, b2, b3⟩, _⟩ := row4 d1
      obtain ⟨⟨c0, c1, c2, c3⟩, _⟩ := row4 d2
      obtain ⟨⟨e0, e1, e2, e3⟩, u0, u1, u2, u3⟩ := row4 d3
      go_region
      have q3 := set1 (i := 3) (v := .int .u16 g2) (set1 (i := 2) (v := .int .i64 m') d3)
      have q0 := (heap_setCell_other _ ⟨bd, 3, none⟩ w.heap.size (.int .u16 g2) (by show w.heap.size ≠ bd; omega)).trans ((heap_setCell_other _ ⟨bd, 2, none⟩ w.heap.size (.int .i64 m') (by show w.heap.size ≠ bd; omega)).trans d0)
      have q1 := (heap_setCell_other _ ⟨bd, 3, none⟩ (w.heap.size + 1) (.int .u16 g2) (by show w.heap.size + 1 ≠ bd; omega)).trans ((heap_setCell_other _ ⟨bd, 2, none⟩ (w.heap.size + 1) (.int .i64 m') (by show w.heap.size + 1 ≠ bd; omega)).trans d1)
      have hw4 : Ext w ((W3.setCell ⟨bd, 2, none⟩ (.int .i64 m')).setCell ⟨bd, 3, none⟩ (.int .u16 g2)) := Below.setCell (Below.setCell hw3 hsz _) hsz _
      generalize (W3.setCell ⟨bd, 2, none⟩ (.int .i64 m')).setCell ⟨bd, 3, none⟩ (.int .u16 g2) = W4 at *
      simp only [List.setIfInBounds_toArray, List.set_cons_zero, List.set_cons_succ] at q3
      clear a0 a1 a2 a3 b0 b1 b2 b3 c0 c1 c2 c3 e0 e1 e2 e3 u0 u1 u2 u3 d0 d1 d2 d3 hw3
      have q0' : W4.drew.heap[w.heap.size]? = _ := q0
      have q1' : W4.drew.heap[w.heap.size + 1]? = _ := q1
      have q3' : W4.drew.heap[bd]? = _ := q3
      have hw5 := hw4.thenDrew
      clear q0 q1 q3 hw4
      generalize W4.drew = W5 at *
      obtain ⟨⟨a0, a1, a2, a3⟩, _⟩ := row4 q0'
      obtain ⟨⟨b0, b1, b2, b3⟩, _⟩ := row4 q1'
      go_wp2_with fail
      refine (kC r' s' m' g' r s m g _).mono ?_
      rintro e W6 ⟨rfl, hx6⟩
      rw [show orB (cmpB r' r) (cmpB s' s) = (1) from (HX.out.2.2.2.1).trans (by decide)]
      have p0 := hx6.block q0'
      have p1 := hx6.block q1'
      have p3 := hx6.block q3'
      have hw6 := hw5.trans hx6
      clear a0 a1 a2 a3 b0 b1 b2 b3 q0' q1' q3' hw5 hx6
      obtain ⟨⟨b0, b1, b2, b3⟩, _⟩ := row4 p1
      obtain ⟨⟨e0, e1, e2, e3⟩, _⟩ := row4 p3
      go_wp2_with fail
      refine (kC r s m' g2 r' s' m' g' _).mono ?_
      rintro e W7 ⟨rfl, hx7⟩
      rw [show orB (cmpB r r') (cmpB s s') = (-1) from HX.out.1]
      have q0 := hx7.block p0
      have q1 := hx7.block p1
      have hw7 := hw6.trans hx7
      clear b0 b1 b2 b3 e0 e1 e2 e3 p0 p1 p3 hw6 hx7
      obtain ⟨⟨a0, a1, a2, a3⟩, _⟩ := row4 q0
      obtain ⟨⟨b0, b1, b2, b3⟩, _⟩ := row4 q1
      go_wp2_with fail
      go_ret
      exact ⟨rfl, hw7⟩
    · clear hn1 hp1
      go_wp2_with fail
      have d0 := (Ext.alloc W (.cells #[.int .i64 r, .int .i64 s, .int .i64 m, .int .u16 g] 25)).block p0
      have d1 := (Ext.alloc W (.cells #[.int .i64 r, .int .i64 s, .int .i64 m, .int .u16 g] 25)).block p1
      have d2 := (Ext.alloc W (.cells #[.int .i64 r, .int .i64 s, .int .i64 m, .int .u16 g] 25)).block p2
      have d3 := heap_alloc_new W (.cells #[.int .i64 r, .int .i64 s, .int .i64 m, .int .u16 g] 25)
      have hw3 := hw2.thenAlloc (.cells #[.int .i64 r, .int .i64 s, .int .i64 m, .int .u16 g] 25)
      have hsz := hw2.size
      have hszW : w.heap.size + 1 + 1 < W.heap.size := (Array.getElem?_eq_some_iff.1 p2).1
      generalize W.alloc (.cells #[.int .i64 r, .int .i64 s, .int .i64 m, .int .u16 g] 25) = W3 at *
      generalize W.heap.size = bd at *
      clear a0 a1 a2 a3 b0 b1 b2 b3 c0 c1 c2 c3 p0 p1 p2
      obtain ⟨⟨a0, a1, a2, a3⟩, _⟩ := row4 d0
      obtain ⟨⟨b0, b1, b2, b3⟩, _⟩ := row4 d1
      obtain ⟨⟨c0, c1, c2, c3⟩, _⟩ := row4 d2
      obtain ⟨⟨e0, e1, e2, e3⟩, u0, u1, u2, u3⟩ := row4 d3
      go_region
      have q3 := set1 (i := 3) (v := .int .u16 g2) (set1 (i := 2) (v := .int .i64 m') d3)
      have q0 := (heap_setCell_other _ ⟨bd, 3, none⟩ w.heap.size (.int .u16 g2) (by show w.heap.size ≠ bd; omega)).trans ((heap_setCell_other _ ⟨bd, 2, none⟩ w.heap.size (.int .i64 m') (by show w.heap.size ≠ bd; omega)).trans d0)
      have q1 := (heap_setCell_other _ ⟨bd, 3, none⟩ (w.heap.size + 1) (.int .u16 g2) (by show w.heap.size + 1 ≠ bd; omega)).trans ((heap_setCell_other _ ⟨bd, 2, none⟩ (w.heap.size + 1) (.int .i64 m') (by show w.heap.size + 1 ≠ bd; omega)).trans d1)
      have hw4 : Ext w ((W3.setCell ⟨bd, 2, none⟩ (.int .i64 m')).setCell ⟨bd, 3, none⟩ (.int .u16 g2)) := Below.setCell (Below.setCell hw3 hsz _) hsz _
      generalize (W3.setCell ⟨bd, 2, none⟩ (.int .i64 m')).setCell ⟨bd, 3, none⟩ (.int .u16 g2) = W4 at *
      simp only [List.setIfInBounds_toArray, List.set_cons_zero, List.set_cons_succ] at q3
      clear a0 a1 a2 a3 b0 b1 b2 b3 c0 c1 c2 c3 e0 e1 e2 e3 u0 u1 u2 u3 d0 d1 d2 d3 hw3
      have q0' : W4.drew.heap[w.heap.size]? = _ := q0
      have q1' : W4.drew.heap[w.heap.size + 1]? = _ := q1
      have q3' : W4.drew.heap[bd]? = _ := q3
      have hw5 := hw4.thenDrew
      clear q0 q1 q3 hw4
      generalize W4.drew = W5 at *
      obtain ⟨⟨a0, a1, a2, a3⟩, _⟩ := row4 q0'
      obtain ⟨⟨b0, b1, b2, b3⟩, _⟩ := row4 q1'
      go_wp2_with fail
      refine (kC r' s' m' g' r s m g _).mono ?_
      rintro e W6 ⟨rfl, hx6⟩
      rw [show orB (cmpB r' r) (cmpB s' s) = (1) from (HX.out.2.2.2.1).trans (by decide)]
      have p0 := hx6.block q0'
      have p1 := hx6.block q1'
      have p3 := hx6.block q3'
      have hw6 := hw5.trans hx6
      clear a0 a1 a2 a3 b0 b1 b2 b3 q0' q1' q3' hw5 hx6
      obtain ⟨⟨b0, b1, b2, b3⟩, _⟩ := row4 p1
      obtain ⟨⟨e0, e1, e2, e3⟩, _⟩ := row4 p3
      go_wp2_with fail
      refine (kC r s m' g2 r' s' m' g' _).mono ?_
      rintro e W7 ⟨rfl, hx7⟩
      rw [show orB (cmpB r r') (cmpB s s') = (-1) from HX.out.1]
      have q0 := hx7.block p0
      have q1 := hx7.block p1
      have hw7 := hw6.trans hx7
      clear b0 b1 b2 b3 e0 e1 e2 e3 p0 p1 p3 hw6 hx7
      obtain ⟨⟨a0, a1, a2, a3⟩, _⟩ := row4 q0
      obtain ⟨⟨b0, b1, b2, b3⟩, _⟩ := row4 q1
      go_wp2_with fail
      go_ret
      exact ⟨rfl, hw7⟩
  · rcases hn1 rfl with ⟨t1, t2⟩ | t1
    · clear hn1 hp1
      go_wp2_with fail
      have d0 := (Ext.alloc W (.cells #[.int .i64 r, .int .i64 s, .int .i64 m, .int .u16 g] 25)).block p0
      have d1 := (Ext.alloc W (.cells #[.int .i64 r, .int .i64 s, .int .i64 m, .int .u16 g] 25)).block p1
      have d2 := (Ext.alloc W (.cells #[.int .i64 r, .int .i64 s, .int .i64 m, .int .u16 g] 25)).block p2
      have d3 := heap_alloc_new W (.cells #[.int .i64 r, .int .i64 s, .int .i64 m, .int .u16 g] 25)
      have hw3 := hw2.thenAlloc (.cells #[.int .i64 r, .int .i64 s, .int .i64 m, .int .u16 g] 25)
      have hsz := hw2.size
      have hszW : w.heap.size + 1 + 1 < W.heap.size := (Array.getElem?_eq_some_iff.1 p2).1
      generalize W.alloc (.cells #[.int .i64 r, .int .i64 s, .int .i64 m, .int .u16 g] 25) = W3 at *
      generalize W.heap.size = bd at *
      clear a0 a1 a2 a3 b0 b1 b2 b3 c0 c1 c2 c3 p0 p1 p2
      obtain ⟨⟨a0, a1, a2, a3⟩, _⟩ := row4 d0
      obtain ⟨⟨b0, b1, b2, b3⟩, _⟩ := row4 d1
      obtain ⟨⟨c0, c1, c2, c3⟩, _⟩ := row4 d2
      obtain ⟨⟨e0, e1, e2, e3⟩, u0, u1, u2, u3⟩ := row4 d3
      go_region
      have q3 := set1 (i := 3) (v := .int .u16 g2) (set1 (i := 2) (v := .int .i64 m') d3)
      have q0 := (heap_setCell_other _ ⟨bd, 3, none⟩ w.heap.size (.int .u16 g2) (by show w.heap.size ≠ bd; omega)).trans ((heap_setCell_other _ ⟨bd, 2, none⟩ w.heap.size (.int .i64 m') (by show w.heap.size ≠ bd; omega)).trans d0)
      have q1 := (heap_setCell_other _ ⟨bd, 3, none⟩ (w.heap.size + 1) (.int .u16 g2) (by show w.heap.size + 1 ≠ bd; omega)).trans ((heap_setCell_other _ ⟨bd, 2, none⟩ (w.heap.size + 1) (.int .i64 m') (by show w.heap.size + 1 ≠ bd; omega)).trans d1)
      have hw4 : Ext w ((W3.setCell ⟨bd, 2, none⟩ (.int .i64 m')).setCell ⟨bd, 3, none⟩ (.int .u16 g2)) := Below.setCell (Below.setCell hw3 hsz _) hsz _
      generalize (W3.setCell ⟨bd, 2, none⟩ (.int .i64 m')).setCell ⟨bd, 3, none⟩ (.int .u16 g2) = W4 at *
      simp only [List.setIfInBounds_toArray, List.set_cons_zero, List.set_cons_succ] at q3
      clear a0 a1 a2 a3 b0 b1 b2 b3 c0 c1 c2 c3 e0 e1 e2 e3 u0 u1 u2 u3 d0 d1 d2 d3 hw3
      have q0' : W4.drew.heap[w.heap.size]? = _ := q0
      have q1' : W4.drew.heap[w.heap.size + 1]? = _ := q1
      have q3' : W4.drew.heap[bd]? = _ := q3
      have hw5 := hw4.thenDrew
      clear q0 q1 q3 hw4
      generalize W4.drew = W5 at *
      obtain ⟨⟨a0, a1, a2, a3⟩, _⟩ := row4 q0'
      obtain ⟨⟨b0, b1, b2, b3⟩, _⟩ := row4 q1'
      go_wp2_with fail
      refine (kC r' s' m' g' r s m g _).mono ?_
      rintro e W6 ⟨rfl, hx6⟩
      rw [show orB (cmpB r' r) (cmpB s' s) = (1) from (HX.out.2.2.2.1).trans (by decide)]
      have p0 := hx6.block q0'
      have p1 := hx6.block q1'
      have p3 := hx6.block q3'
      have hw6 := hw5.trans hx6
      clear a0 a1 a2 a3 b0 b1 b2 b3 q0' q1' q3' hw5 hx6
      obtain ⟨⟨b0, b1, b2, b3⟩, _⟩ := row4 p1
      obtain ⟨⟨e0, e1, e2, e3⟩, _⟩ := row4 p3
      go_wp2_with fail
      refine (kC r s m' g2 r' s' m' g' _).mono ?_
      rintro e W7 ⟨rfl, hx7⟩
      rw [show orB (cmpB r r') (cmpB s s') = (-1) from HX.out.1]
      have q0 := hx7.block p0
      have q1 := hx7.block p1
      have hw7 := hw6.trans hx7
      clear b0 b1 b2 b3 e0 e1 e2 e3 p0 p1 p3 hw6 hx7
      obtain ⟨⟨a0, a1, a2, a3⟩, _⟩ := row4 q0
      obtain ⟨⟨b0, b1, b2, b3⟩, _⟩ := row4 q1
      go_wp2_with fail
      go_ret
      exact ⟨rfl, hw7⟩
    · clear hn1 hp1
      go_wp2_with fail
      have d0 := (Ext.alloc W (.cells #[.int .i64 r, .int .i64 s, .int .i64 m, .int .u16 g] 25)).block p0
      have d1 := (Ext.alloc W (.cells #[.int .i64 r, .int .i64 s, .int .i64 m, .int .u16 g] 25)).block p1
      have d2 := (Ext.alloc W (.cells #[.int .i64 r, .int .i64 s, .int .i64 m, .int .u16 g] 25)).block p2
      have d3 := heap_alloc_new W (.cells #[.int .i64 r, .int .i64 s, .int .i64 m, .int .u16 g] 25)
      have hw3 := hw2.thenAlloc (.cells #[.int .i64 r, .int .i64 s, .int .i64 m, .int .u16 g] 25)
      have hsz := hw2.size
      have hszW : w.heap.size + 1 + 1 < W.heap.size := (Array.getElem?_eq_some_iff.1 p2).1
      generalize W.alloc (.cells #[.int .i64 r, .int .i64 s, .int .i64 m, .int .u16 g] 25) = W3 at *
      generalize W.heap.size = bd at *
      clear a0 a1 a2 a3 b0 b1 b2 b3 c0 c1 c2 c3 p0 p1 p2
      obtain ⟨⟨a0, a1, a2, a3⟩, _⟩ := row4 d0
      obtain ⟨⟨b0, b1, b2, b3⟩, _⟩ := row4 d1
      obtain ⟨⟨c0, c1, c2, c3⟩, _⟩ := row4 d2
      obtain ⟨⟨e0, e1, e2, e3⟩, u0, u1, u2, u3⟩ := row4 d3
      go_region
      have q3 := set1 (i := 3) (v := .int .u16 g2) (set1 (i := 2) (v := .int .i64 m') d3)
      have q0 := (heap_setCell_other _ ⟨bd, 3, none⟩ w.heap.size (.int .u16 g2) (by show w.heap.size ≠ bd; omega)).trans ((heap_setCell_other _ ⟨bd, 2, none⟩ w.heap.size (.int .i64 m') (by show w.heap.size ≠ bd; omega)).trans d0)
      have q1 := (heap_setCell_other _ ⟨bd, 3, none⟩ (w.heap.size + 1) (.int .u16 g2) (by show w.heap.size + 1 ≠ bd; omega)).trans ((heap_setCell_other _ ⟨bd, 2, none⟩ (w.heap.size + 1) (.int .i64 m') (by show w.heap.size + 1 ≠ bd; omega)).trans d1)
      have hw4 : Ext w ((W3.setCell ⟨bd, 2, none⟩ (.int .i64 m')).setCell ⟨bd, 3, none⟩ (.int .u16 g2)) := Below.setCell (Below.setCell hw3 hsz _) hsz _
      generalize (W3.setCell ⟨bd, 2, none⟩ (.int .i64 m')).setCell ⟨bd, 3, none⟩ (.int .u16 g2) = W4 at *
      simp only [List.setIfInBounds_toArray, List.set_cons_zero, List.set_cons_succ] at q3
      clear a0 a1 a2 a3 b0 b1 b2 b3 c0 c1 c2 c3 e0 e1 e2 e3 u0 u1 u2 u3 d0 d1 d2 d3 hw3
      have q0' : W4.drew.heap[w.heap.size]? = _ := q0
      have q1' : W4.drew.heap[w.heap.size + 1]? = _ := q1
      have q3' : W4.drew.heap[bd]? = _ := q3
      have hw5 := hw4.thenDrew
      clear q0 q1 q3 hw4
      generalize W4.drew = W5 at *
      obtain ⟨⟨a0, a1, a2, a3⟩, _⟩ := row4 q0'
      obtain ⟨⟨b0, b1, b2, b3⟩, _⟩ := row4 q1'
      go_wp2_with fail
      refine (kC r' s' m' g' r s m g _).mono ?_
      rintro e W6 ⟨rfl, hx6⟩
      rw [show orB (cmpB r' r) (cmpB s' s) = (1) from (HX.out.2.2.2.1).trans (by decide)]
      have p0 := hx6.block q0'
      have p1 := hx6.block q1'
      have p3 := hx6.block q3'
      have hw6 := hw5.trans hx6
      clear a0 a1 a2 a3 b0 b1 b2 b3 q0' q1' q3' hw5 hx6
      obtain ⟨⟨b0, b1, b2, b3⟩, _⟩ := row4 p1
      obtain ⟨⟨e0, e1, e2, e3⟩, _⟩ := row4 p3
      go_wp2_with fail
      refine (kC r s m' g2 r' s' m' g' _).mono ?_
      rintro e W7 ⟨rfl, hx7⟩
      rw [show orB (cmpB r r') (cmpB s s') = (-1) from HX.out.1]
      have q0 := hx7.block p0
      have q1 := hx7.block p1
      have hw7 := hw6.trans hx7
      clear b0 b1 b2 b3 e0 e1 e2 e3 p0 p1 p3 hw6 hx7
      obtain ⟨⟨a0, a1, a2, a3⟩, _⟩ := row4 q0
      obtain ⟨⟨b0, b1, b2, b3⟩, _⟩ := row4 q1
      go_wp2_with fail
      go_ret
      exact ⟨rfl, hw7⟩
  · clear hn1 hp1
    go_wp2_with fail
    have d0 := (Ext.alloc W (.cells #[.int .i64 r, .int .i64 s, .int .i64 m, .int .u16 g] 25)).block p0
    have d1 := (Ext.alloc W (.cells #[.int .i64 r, .int .i64 s, .int .i64 m, .int .u16 g] 25)).block p1
    have d2 := (Ext.alloc W (.cells #[.int .i64 r, .int .i64 s, .int .i64 m, .int .u16 g] 25)).block p2
    have d3 := heap_alloc_new W (.cells #[.int .i64 r, .int .i64 s, .int .i64 m, .int .u16 g] 25)
    have hw3 := hw2.thenAlloc (.cells #[.int .i64 r, .int .i64 s, .int .i64 m, .int .u16 g] 25)
    have hsz := hw2.size
    have hszW : w.heap.size + 1 + 1 < W.heap.size := (Array.getElem?_eq_some_iff.1 p2).1
    generalize W.alloc (.cells #[.int .i64 r, .int .i64 s, .int .i64 m, .int .u16 g] 25) = W3 at *
    generalize W.heap.size = bd at *
    clear a0 a1 a2 a3 b0 b1 b2 b3 c0 c1 c2 c3 p0 p1 p2
    obtain ⟨⟨a0, a1, a2, a3⟩, _⟩ := row4 d0
    obtain ⟨⟨b0, b1, b2, b3⟩, _⟩ := row4 d1
    obtain ⟨⟨c0, c1, c2, c3⟩, _⟩ := row4 d2
    obtain ⟨⟨e0, e1, e2, e3⟩, u0, u1, u2, u3⟩ := row4 d3
    go_region
    have q3 := set1 (i := 3) (v := .int .u16 g2) (set1 (i := 2) (v := .int .i64 m') d3)
    have q0 := (heap_setCell_other _ ⟨bd, 3, none⟩ w.heap.size (.int .u16 g2) (by show w.heap.size ≠ bd; omega)).trans ((heap_setCell_other _ ⟨bd, 2, none⟩ w.heap.size (.int .i64 m') (by show w.heap.size ≠ bd; omega)).trans d0)
    have q1 := (heap_setCell_other _ ⟨bd, 3, none⟩ (w.heap.size + 1) (.int .u16 g2) (by show w.heap.size + 1 ≠ bd; omega)).trans ((heap_setCell_other _ ⟨bd, 2, none⟩ (w.heap.size + 1) (.int .i64 m') (by show w.heap.size + 1 ≠ bd; omega)).trans d1)
    have hw4 : Ext w ((W3.setCell ⟨bd, 2, none⟩ (.int .i64 m')).setCell ⟨bd, 3, none⟩ (.int .u16 g2)) := Below.setCell (Below.setCell hw3 hsz _) hsz _
    generalize (W3.setCell ⟨bd, 2, none⟩ (.int .i64 m')).setCell ⟨bd, 3, none⟩ (.int .u16 g2) = W4 at *
    simp only [List.setIfInBounds_toArray, List.set_cons_zero, List.set_cons_succ] at q3
    clear a0 a1 a2 a3 b0 b1 b2 b3 c0 c1 c2 c3 e0 e1 e2 e3 u0 u1 u2 u3 d0 d1 d2 d3 hw3
    have q0' : W4.drew.heap[w.heap.size]? = _ := q0
    have q1' : W4.drew.heap[w.heap.size + 1]? = _ := q1
    have q3' : W4.drew.heap[bd]? = _ := q3
    have hw5 := hw4.thenDrew
    clear q0 q1 q3 hw4
    generalize W4.drew = W5 at *
    obtain ⟨⟨a0, a1, a2, a3⟩, _⟩ := row4 q0'
    obtain ⟨⟨b0, b1, b2, b3⟩, _⟩ := row4 q1'
    go_wp2_with fail
    refine (kC r' s' m' g' r s m g _).mono ?_
    rintro e W6 ⟨rfl, hx6⟩
    rw [show orB (cmpB r' r) (cmpB s' s) = (0) from (HX.out.2.2.2.1).trans (by decide)]
    have p0 := hx6.block q0'
    have p1 := hx6.block q1'
    have p3 := hx6.block q3'
    have hw6 := hw5.trans hx6
    clear a0 a1 a2 a3 b0 b1 b2 b3 q0' q1' q3' hw5 hx6
    obtain ⟨⟨b0, b1, b2, b3⟩, _⟩ := row4 p1
    obtain ⟨⟨e0, e1, e2, e3⟩, _⟩ := row4 p3
    go_wp2_with fail
    refine (kC r s m' g2 r' s' m' g' _).mono ?_
    rintro e W7 ⟨rfl, hx7⟩
    rw [show orB (cmpB r r') (cmpB s s') = (0) from HX.out.1]
    have q0 := hx7.block p0
    have q1 := hx7.block p1
    have hw7 := hw6.trans hx7
    clear b0 b1 b2 b3 e0 e1 e2 e3 p0 p1 p3 hw6 hx7
    obtain ⟨⟨a0, a1, a2, a3⟩, _⟩ := row4 q0
    obtain ⟨⟨b0, b1, b2, b3⟩, _⟩ := row4 q1
    go_wp2_with fail
    go_ret
    exact ⟨rfl, hw7⟩
  · rcases hp1 rfl with ⟨t1, t2⟩ | t1
    · clear hn1 hp1
      go_wp2_with fail
      have d0 := (Ext.alloc W (.cells #[.int .i64 r, .int .i64 s, .int .i64 m, .int .u16 g] 25)).block p0
      have d1 := (Ext.alloc W (.cells #[.int .i64 r, .int .i64 s, .int .i64 m, .int .u16 g] 25)).block p1
      have d2 := (Ext.alloc W (.cells #[.int .i64 r, .int .i64 s, .int .i64 m, .int .u16 g] 25)).block p2
      have d3 := heap_alloc_new W (.cells #[.int .i64 r, .int .i64 s, .int .i64 m, .int .u16 g] 25)
      have hw3 := hw2.thenAlloc (.cells #[.int .i64 r, .int .i64 s, .int .i64 m, .int .u16 g] 25)
      have hsz := hw2.size
      have hszW : w.heap.size + 1 + 1 < W.heap.size := (Array.getElem?_eq_some_iff.1 p2).1
      generalize W.alloc (.cells #[.int .i64 r, .int .i64 s, .int .i64 m, .int .u16 g] 25) = W3 at *
      generalize W.heap.size = bd at *
      clear a0 a1 a2 a3 b0 b1 b2 b3 c0 c1 c2 c3 p0 p1 p2
      obtain ⟨⟨a0, a1, a2, a3⟩, _⟩ := row4 d0
      obtain ⟨⟨b0, b1, b2, b3⟩, _⟩ := row4 d1
      obtain ⟨⟨c0, c1, c2, c3⟩, _⟩ := row4 d2
      obtain ⟨⟨e0, e1, e2, e3⟩, u0, u1, u2, u3⟩ := row4 d3
      go_region
      have q3 := set1 (i := 3) (v := .int .u16 g2) (set1 (i := 2) (v := .int .i64 m') d3)
      have q0 := (heap_setCell_other _ ⟨bd, 3, none⟩ w.heap.size (.int .u16 g2) (by show w.heap.size ≠ bd; omega)).trans ((heap_setCell_other _ ⟨bd, 2, none⟩ w.heap.size (.int .i64 m') (by show w.heap.size ≠ bd; omega)).trans d0)
      have q1 := (heap_setCell_other _ ⟨bd, 3, none⟩ (w.heap.size + 1) (.int .u16 g2) (by show w.heap.size + 1 ≠ bd; omega)).trans ((heap_setCell_other _ ⟨bd, 2, none⟩ (w.heap.size + 1) (.int .i64 m') (by show w.heap.size + 1 ≠ bd; omega)).trans d1)
      have hw4 : Ext w ((W3.setCell ⟨bd, 2, none⟩ (.int .i64 m')).setCell ⟨bd, 3, none⟩ (.int .u16 g2)) := Below.setCell (Below.setCell hw3 hsz _) hsz _
      generalize (W3.setCell ⟨bd, 2, none⟩ (.int .i64 m')).setCell ⟨bd, 3, none⟩ (.int .u16 g2) = W4 at *
      simp only [List.setIfInBounds_toArray, List.set_cons_zero, List.set_cons_succ] at q3
      clear a0 a1 a2 a3 b0 b1 b2 b3 c0 c1 c2 c3 e0 e1 e2 e3 u0 u1 u2 u3 d0 d1 d2 d3 hw3
      have q0' : W4.drew.heap[w.heap.size]? = _ := q0
      have q1' : W4.drew.heap[w.heap.size + 1]? = _ := q1
      have q3' : W4.drew.heap[bd]? = _ := q3
      have hw5 := hw4.thenDrew
      clear q0 q1 q3 hw4
      generalize W4.drew = W5 at *
      obtain ⟨⟨a0, a1, a2, a3⟩, _⟩ := row4 q0'
      obtain ⟨⟨b0, b1, b2, b3⟩, _⟩ := row4 q1'
      go_wp2_with fail
      refine (kC r' s' m' g' r s m g _).mono ?_
      rintro e W6 ⟨rfl, hx6⟩
      rw [show orB (cmpB r' r) (cmpB s' s) = (-1) from (HX.out.2.2.2.1).trans (by decide)]
      have p0 := hx6.block q0'
      have p1 := hx6.block q1'
      have p3 := hx6.block q3'
      have hw6 := hw5.trans hx6
      clear a0 a1 a2 a3 b0 b1 b2 b3 q0' q1' q3' hw5 hx6
      obtain ⟨⟨b0, b1, b2, b3⟩, _⟩ := row4 p1
      obtain ⟨⟨e0, e1, e2, e3⟩, _⟩ := row4 p3
      go_wp2_with fail
      refine (kC r s m' g2 r' s' m' g' _).mono ?_
      rintro e W7 ⟨rfl, hx7⟩
      rw [show orB (cmpB r r') (cmpB s s') = (1) from HX.out.1]
      have q0 := hx7.block p0
      have q1 := hx7.block p1
      have hw7 := hw6.trans hx7
      clear b0 b1 b2 b3 e0 e1 e2 e3 p0 p1 p3 hw6 hx7
      obtain ⟨⟨a0, a1, a2, a3⟩, _⟩ := row4 q0
      obtain ⟨⟨b0, b1, b2, b3⟩, _⟩ := row4 q1
      go_wp2_with fail
      go_ret
      exact ⟨rfl, hw7⟩
    · clear hn1 hp1
      go_wp2_with fail
      have d0 := (Ext.alloc W (.cells #[.int .i64 r, .int .i64 s, .int .i64 m, .int .u16 g] 25)).block p0
      have d1 := (Ext.alloc W (.cells #[.int .i64 r, .int .i64 s, .int .i64 m, .int .u16 g] 25)).block p1
      have d2 := (Ext.alloc W (.cells #[.int .i64 r, .int .i64 s, .int .i64 m, .int .u16 g] 25)).block p2
      have d3 := heap_alloc_new W (.cells #[.int .i64 r, .int .i64 s, .int .i64 m, .int .u16 g] 25)
      have hw3 := hw2.thenAlloc (.cells #[.int .i64 r, .int .i64 s, .int .i64 m, .int .u16 g] 25)
      have hsz := hw2.size
      have hszW : w.heap.size + 1 + 1 < W.heap.size := (Array.getElem?_eq_some_iff.1 p2).1
      generalize W.alloc (.cells #[.int .i64 r, .int .i64 s, .int .i64 m, .int .u16 g] 25) = W3 at *
      generalize W.heap.size = bd at *
      clear a0 a1 a2 a3 b0 b1 b2 b3 c0 c1 c2 c3 p0 p1 p2
      obtain ⟨⟨a0, a1, a2, a3⟩, _⟩ := row4 d0
      obtain ⟨⟨b0, b1, b2, b3⟩, _⟩ := row4 d1
      obtain ⟨⟨c0, c1, c2, c3⟩, _⟩ := row4 d2
      obtain ⟨⟨e0, e1, e2, e3⟩, u0, u1, u2, u3⟩ := row4 d3
      go_region
      have q3 := set1 (i := 3) (v := .int .u16 g2) (set1 (i := 2) (v := .int .i64 m') d3)
      have q0 := (heap_setCell_other _ ⟨bd, 3, none⟩ w.heap.size (.int .u16 g2) (by show w.heap.size ≠ bd; omega)).trans ((heap_setCell_other _ ⟨bd, 2, none⟩ w.heap.size (.int .i64 m') (by show w.heap.size ≠ bd; omega)).trans d0)
      have q1 := (heap_setCell_other _ ⟨bd, 3, none⟩ (w.heap.size + 1) (.int .u16 g2) (by show w.heap.size + 1 ≠ bd; omega)).trans ((heap_setCell_other _ ⟨bd, 2, none⟩ (w.heap.size + 1) (.int .i64 m') (by show w.heap.size + 1 ≠ bd; omega)).trans d1)
      have hw4 : Ext w ((W3.setCell ⟨bd, 2, none⟩ (.int .i64 m')).setCell ⟨bd, 3, none⟩ (.int .u16 g2)) := Below.setCell (Below.setCell hw3 hsz _) hsz _
      generalize (W3.setCell ⟨bd, 2, none⟩ (.int .i64 m')).setCell ⟨bd, 3, none⟩ (.int .u16 g2) = W4 at *
      simp only [List.setIfInBounds_toArray, List.set_cons_zero, List.set_cons_succ] at q3
      clear a0 a1 a2 a3 b0 b1 b2 b3 c0 c1 c2 c3 e0 e1 e2 e3 u0 u1 u2 u3 d0 d1 d2 d3 hw3
      have q0' : W4.drew.heap[w.heap.size]? = _ := q0
      have q1' : W4.drew.heap[w.heap.size + 1]? = _ := q1
      have q3' : W4.drew.heap[bd]? = _ := q3
      have hw5 := hw4.thenDrew
      clear q0 q1 q3 hw4
      generalize W4.drew = W5 at *
      obtain ⟨⟨a0, a1, a2, a3⟩, _⟩ := row4 q0'
      obtain ⟨⟨b0, b1, b2, b3⟩, _⟩ := row4 q1'
      go_wp2_with fail
      refine (kC r' s' m' g' r s m g _).mono ?_
      rintro e W6 ⟨rfl, hx6⟩
      rw [show orB (cmpB r' r) (cmpB s' s) = (-1) from (HX.out.2.2.2.1).trans (by decide)]
      have p0 := hx6.block q0'
      have p1 := hx6.block q1'
      have p3 := hx6.block q3'
      have hw6 := hw5.trans hx6
      clear a0 a1 a2 a3 b0 b1 b2 b3 q0' q1' q3' hw5 hx6
      obtain ⟨⟨b0, b1, b2, b3⟩, _⟩ := row4 p1
      obtain ⟨⟨e0, e1, e2, e3⟩, _⟩ := row4 p3
      go_wp2_with fail
      refine (kC r s m' g2 r' s' m' g' _).mono ?_
      rintro e W7 ⟨rfl, hx7⟩
      rw [show orB (cmpB r r') (cmpB s s') = (1) from HX.out.1]
      have q0 := hx7.block p0
      have q1 := hx7.block p1
      have hw7 := hw6.trans hx7
      clear b0 b1 b2 b3 e0 e1 e2 e3 p0 p1 p3 hw6 hx7
      obtain ⟨⟨a0, a1, a2, a3⟩, _⟩ := row4 q0
      obtain ⟨⟨b0, b1, b2, b3⟩, _⟩ := row4 q1
      go_wp2_with fail
      go_ret
      exact ⟨rfl, hw7⟩
  · rcases hp1 rfl with ⟨t1, t2⟩ | t1
    · clear hn1 hp1
      go_wp2_with fail
      have d0 := (Ext.alloc W (.cells #[.int .i64 r, .int .i64 s, .int .i64 m, .int .u16 g] 25)).block p0
      have d1 := (Ext.alloc W (.cells #[.int .i64 r, .int .i64 s, .int .i64 m, .int .u16 g] 25)).block p1
      have d2 := (Ext.alloc W (.cells #[.int .i64 r, .int .i64 s, .int .i64 m, .int .u16 g] 25)).block p2
      have d3 := heap_alloc_new W (.cells #[.int .i64 r, .int .i64 s, .int .i64 m, .int .u16 g] 25)
      have hw3 := hw2.thenAlloc (.cells #[.int .i64 r, .int .i64 s, .int .i64 m, .int .u16 g] 25)
      have hsz := hw2.size
      have hszW : w.heap.size + 1 + 1 < W.heap.size := (Array.getElem?_eq_some_iff.1 p2).1
      generalize W.alloc (.cells #[.int .i64 r, .int .i64 s, .int .i64 m, .int .u16 g] 25) = W3 at *
      generalize W.heap.size = bd at *
      clear a0 a1 a2 a3 b0 b1 b2 b3 c0 c1 c2 c3 p0 p1 p2
      obtain ⟨⟨a0, a1, a2, a3⟩, _⟩ := row4 d0
      obtain ⟨⟨b0, b1, b2, b3⟩, _⟩ := row4 d1
      obtain ⟨⟨c0, c1, c2, c3⟩, _⟩ := row4 d2
      obtain ⟨⟨e0, e1, e2, e3⟩, u0, u1, u2, u3⟩ := row4 d3
      go_region
      have q3 := set1 (i := 3) (v := .int .u16 g2) (set1 (i := 2) (v := .int .i64 m') d3)
      have q0 := (heap_setCell_other _ ⟨bd, 3, none⟩ w.heap.size (.int .u16 g2) (by show w.heap.size ≠ bd; omega)).trans ((heap_setCell_other _ ⟨bd, 2, none⟩ w.heap.size (.int .i64 m') (by show w.heap.size ≠ bd; omega)).trans d0)
      have q1 := (heap_setCell_other _ ⟨bd, 3, none⟩ (w.heap.size + 1) (.int .u16 g2) (by show w.heap.size + 1 ≠ bd; omega)).trans ((heap_setCell_other _ ⟨bd, 2, none⟩ (w.heap.size + 1) (.int .i64 m') (by show w.heap.size + 1 ≠ bd; omega)).trans d1)
      have hw4 : Ext w ((W3.setCell ⟨bd, 2, none⟩ (.int .i64 m')).setCell ⟨bd, 3, none⟩ (.int .u16 g2)) := Below.setCell (Below.setCell hw3 hsz _) hsz _
      generalize (W3.setCell ⟨bd, 2, none⟩ (.int .i64 m')).setCell ⟨bd, 3, none⟩ (.int .u16 g2) = W4 at *
      simp only [List.setIfInBounds_toArray, List.set_cons_zero, List.set_cons_succ] at q3
      clear a0 a1 a2 a3 b0 b1 b2 b3 c0 c1 c2 c3 e0 e1 e2 e3 u0 u1 u2 u3 d0 d1 d2 d3 hw3
      have q0' : W4.drew.heap[w.heap.size]? = _ := q0
      have q1' : W4.drew.heap[w.heap.size + 1]? = _ := q1
      have q3' : W4.drew.heap[bd]? = _ := q3
      have hw5 := hw4.thenDrew
      clear q0 q1 q3 hw4
      generalize W4.drew = W5 at *
      obtain ⟨⟨a0, a1, a2, a3⟩, _⟩ := row4 q0'
      obtain ⟨⟨b0, b1, b2, b3⟩, _⟩ := row4 q1'
      go_wp2_with fail
      refine (kC r' s' m' g' r s m g _).mono ?_
      rintro e W6 ⟨rfl, hx6⟩
      rw [show orB (cmpB r' r) (cmpB s' s) = (-1) from (HX.out.2.2.2.1).trans (by decide)]
      have p0 := hx6.block q0'
      have p1 := hx6.block q1'
      have p3 := hx6.block q3'
      have hw6 := hw5.trans hx6
      clear a0 a1 a2 a3 b0 b1 b2 b3 q0' q1' q3' hw5 hx6
      obtain ⟨⟨b0, b1, b2, b3⟩, _⟩ := row4 p1
      obtain ⟨⟨e0, e1, e2, e3⟩, _⟩ := row4 p3
      go_wp2_with fail
      refine (kC r s m' g2 r' s' m' g' _).mono ?_
      rintro e W7 ⟨rfl, hx7⟩
      rw [show orB (cmpB r r') (cmpB s s') = (1) from HX.out.1]
      have q0 := hx7.block p0
      have q1 := hx7.block p1
      have hw7 := hw6.trans hx7
      clear b0 b1 b2 b3 e0 e1 e2 e3 p0 p1 p3 hw6 hx7
      obtain ⟨⟨a0, a1, a2, a3⟩, _⟩ := row4 q0
      obtain ⟨⟨b0, b1, b2, b3⟩, _⟩ := row4 q1
      go_wp2_with fail
      go_ret
      exact ⟨rfl, hw7⟩
    · clear hn1 hp1
      go_wp2_with fail
      have d0 := (Ext.alloc W (.cells #[.int .i64 r, .int .i64 s, .int .i64 m, .int .u16 g] 25)).block p0
      have d1 := (Ext.alloc W (.cells #[.int .i64 r, .int .i64 s, .int .i64 m, .int .u16 g] 25)).block p1
      have d2 := (Ext.alloc W (.cells #[.int .i64 r, .int .i64 s, .int .i64 m, .int .u16 g] 25)).block p2
      have d3 := heap_alloc_new W (.cells #[.int .i64 r, .int .i64 s, .int .i64 m, .int .u16 g] 25)
      have hw3 := hw2.thenAlloc (.cells #[.int .i64 r, .int .i64 s, .int .i64 m, .int .u16 g] 25)
      have hsz := hw2.size
      have hszW : w.heap.size + 1 + 1 < W.heap.size := (Array.getElem?_eq_some_iff.1 p2).1
      generalize W.alloc (.cells #[.int .i64 r, .int .i64 s, .int .i64 m, .int .u16 g] 25) = W3 at *
      generalize W.heap.size = bd at *
      clear a0 a1 a2 a3 b0 b1 b2 b3 c0 c1 c2 c3 p0 p1 p2
      obtain ⟨⟨a0, a1, a2, a3⟩, _⟩ := row4 d0
      obtain ⟨⟨b0, b1, b2, b3⟩, _⟩ := row4 d1
      obtain ⟨⟨c0, c1, c2, c3⟩, _⟩ := row4 d2
      obtain ⟨⟨e0, e1, e2, e3⟩, u0, u1, u2, u3⟩ := row4 d3
      go_region
      have q3 := set1 (i := 3) (v := .int .u16 g2) (set1 (i := 2) (v := .int .i64 m') d3)
      have q0 := (heap_setCell_other _ ⟨bd, 3, none⟩ w.heap.size (.int .u16 g2) (by show w.heap.size ≠ bd; omega)).trans ((heap_setCell_other _ ⟨bd, 2, none⟩ w.heap.size (.int .i64 m') (by show w.heap.size ≠ bd; omega)).trans d0)
      have q1 := (heap_setCell_other _ ⟨bd, 3, none⟩ (w.heap.size + 1) (.int .u16 g2) (by show w.heap.size + 1 ≠ bd; omega)).trans ((heap_setCell_other _ ⟨bd, 2, none⟩ (w.heap.size + 1) (.int .i64 m') (by show w.heap.size + 1 ≠ bd; omega)).trans d1)
      have hw4 : Ext w ((W3.setCell ⟨bd, 2, none⟩ (.int .i64 m')).setCell ⟨bd, 3, none⟩ (.int .u16 g2)) := Below.setCell (Below.setCell hw3 hsz _) hsz _
      generalize (W3.setCell ⟨bd, 2, none⟩ (.int .i64 m')).setCell ⟨bd, 3, none⟩ (.int .u16 g2) = W4 at *
      simp only [List.setIfInBounds_toArray, List.set_cons_zero, List.set_cons_succ] at q3
      clear a0 a1 a2 a3 b0 b1 b2 b3 c0 c1 c2 c3 e0 e1 e2 e3 u0 u1 u2 u3 d0 d1 d2 d3 hw3
      have q0' : W4.drew.heap[w.heap.size]? = _ := q0
      have q1' : W4.drew.heap[w.heap.size + 1]? = _ := q1
      have q3' : W4.drew.heap[bd]? = _ := q3
      have hw5 := hw4.thenDrew
      clear q0 q1 q3 hw4
      generalize W4.drew = W5 at *
      obtain ⟨⟨a0, a1, a2, a3⟩, _⟩ := row4 q0'
      obtain ⟨⟨b0, b1, b2, b3⟩, _⟩ := row4 q1'
      go_wp2_with fail
      refine (kC r' s' m' g' r s m g _).mono ?_
      rintro e W6 ⟨rfl, hx6⟩
      rw [show orB (cmpB r' r) (cmpB s' s) = (-1) from (HX.out.2.2.2.1).trans (by decide)]
      have p0 := hx6.block q0'
      have p1 := hx6.block q1'
      have p3 := hx6.block q3'
      have hw6 := hw5.trans hx6
      clear a0 a1 a2 a3 b0 b1 b2 b3 q0' q1' q3' hw5 hx6
      obtain ⟨⟨b0, b1, b2, b3⟩, _⟩ := row4 p1
      obtain ⟨⟨e0, e1, e2, e3⟩, _⟩ := row4 p3
      go_wp2_with fail
      refine (kC r s m' g2 r' s' m' g' _).mono ?_
      rintro e W7 ⟨rfl, hx7⟩
      rw [show orB (cmpB r r') (cmpB s s') = (1) from HX.out.1]
      have q0 := hx7.block p0
      have q1 := hx7.block p1
      have hw7 := hw6.trans hx7
      clear b0 b1 b2 b3 e0 e1 e2 e3 p0 p1 p3 hw6 hx7
      obtain ⟨⟨a0, a1, a2, a3⟩, _⟩ := row4 q0
      obtain ⟨⟨b0, b1, b2, b3⟩, _⟩ := row4 q1
      go_wp2_with fail
      go_ret
      exact ⟨rfl, hw7⟩
end Go.Proofs.Ytkmkfkpblkhpmaa.VCst
