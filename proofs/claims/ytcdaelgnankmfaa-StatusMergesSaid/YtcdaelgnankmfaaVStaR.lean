/- Statuses: the reference's better one. -/
import Derived.Test.YtcdaelgnankmfaaVStaB
namespace Go.Proofs.Ytcdaelgnankmfaa.VSta
open Go.RowKit Go.VBase Go.VRg Go.VEq VCst VMsg

/-- Three rows behind one another; nine cells of the first two. -/
theorem loadSta {ops : Array Oper} {rest : List Oper} {o : Oper} {a : Act} {Q : Exit → Act → World → Prop} {W : World} {t : Tmp} {b : Nat} {T' : TypeId} {mk : Nat × Nat} {x : StaD} {u : Value}
    (h : W.heap[b]? = some (.cells (staC x u) T' mk)) (hgd : o.guard = none) (ho : o.op = .load 30 (.tmp t)) (hx : a.eval (.tmp t) = .pointer (some ⟨b, 0, none⟩))
    (hk : wpList Try.prog ops Q rest (a.put o.dst (.agg (staC x u))) W) : wpList Try.prog ops Q (o :: rest) a W :=
  wpList_step fun K hK => by
    have hw : Region.wanted o (yielded ops a.tmps) = true := by unfold Region.wanted; rw [hgd]
    simp only [hw, if_true]
    exact wp_load_row _ _ ho _ hx _ _ _ _ h Try.underlying30 rfl (by kernel_rfl) (hK _ _ hk)

theorem sizeSta (x : StaD) (u : Value) : (staC x u).size = 9 := rfl

set_option maxRecDepth 100000 in
set_option maxHeartbeats 8000000 in
theorem refMerge_calls (x y : StaD) (sx sy : Sl3) (w : World) :
    Calls Try.prog 9 #[.agg (staC x (slV sx)), .agg (staC y (slV sy))] w fun e w' => e = .returned (if betB x y then .agg (staC y (slV sy)) else .agg (staC x (slV sx))) ∧ Ext w w' := by
  rw [betB_worth]
  have kx := fun W => worth_calls x.l W
  have ky := fun W => worth_calls y.l W
  generalize worthN x.l = wx at *
  generalize worthN y.l = wy at *
  obtain ⟨r, hr⟩ : ∃ r, r = (if (decide (wx < wy) || (decide (wy = wx) && decide (x.k < y.k))) = true then Value.agg (staC y (slV sy)) else Value.agg (staC x (slV sx))) := ⟨_, rfl⟩
  rw [← hr]
  have HR := Lib.hid hr
  clear hr
  obtain ⟨sa, sn, sc⟩ := sx
  obtain ⟨ta, tn, tc⟩ := sy
  unfold slV at *
  simp only at *
  have r0 := (Ext.alloc _ (.cells #[.int .i64 0, .int .i64 0, .int .i64 0, .int .i64 0, .int .i64 0, .int .i64 0, .int .i64 0, .int .u16 0, .slice none 0 0] TSta)).block ((Ext.alloc _ (.cells (staC y (.slice ta tn tc)) TSta)).block (heap_alloc_new w (.cells (staC x (.slice sa sn sc)) TSta)))
  have r1 := (Ext.alloc _ (.cells #[.int .i64 0, .int .i64 0, .int .i64 0, .int .i64 0, .int .i64 0, .int .i64 0, .int .i64 0, .int .u16 0, .slice none 0 0] TSta)).block (heap_alloc_new (w.alloc (.cells (staC x (.slice sa sn sc)) TSta)) (.cells (staC y (.slice ta tn tc)) TSta))
  have r2 := heap_alloc_new ((w.alloc (.cells (staC x (.slice sa sn sc)) TSta)).alloc (.cells (staC y (.slice ta tn tc)) TSta)) (.cells #[.int .i64 0, .int .i64 0, .int .i64 0, .int .i64 0, .int .i64 0, .int .i64 0, .int .i64 0, .int .u16 0, .slice none 0 0] TSta)
  have x2 := ((Ext.alloc w (.cells (staC x (.slice sa sn sc)) TSta)).thenAlloc (.cells (staC y (.slice ta tn tc)) TSta)).thenAlloc (.cells #[.int .i64 0, .int .i64 0, .int .i64 0, .int .i64 0, .int .i64 0, .int .i64 0, .int .i64 0, .int .u16 0, .slice none 0 0] TSta)
  simp only [World.size_alloc] at r0 r1 r2
  have hst : ∀ (z : StaD) (u : Value), staC z u = #[.int .i64 z.k, .int .i64 z.l, .int .i64 z.d, .int .i64 z.f.k, .int .i64 z.f.r, .int .i64 z.f.s, .int .i64 z.f.m, .int .u16 z.f.v, u] := fun _ _ => rfl
  have HR0 := Lib.hid (And.intro r0 (And.intro r1 (And.intro r2 x2)))
  clear r0 r1 r2 x2
  rw [hst x, hst y] at HR0 ⊢
  obtain ⟨W1, hW1⟩ : ∃ W1, W1 = ((w.alloc (.cells #[.int .i64 x.k, .int .i64 x.l, .int .i64 x.d, .int .i64 x.f.k, .int .i64 x.f.r, .int .i64 x.f.s, .int .i64 x.f.m, .int .u16 x.f.v, .slice sa sn sc] TSta)).alloc (.cells #[.int .i64 y.k, .int .i64 y.l, .int .i64 y.d, .int .i64 y.f.k, .int .i64 y.f.r, .int .i64 y.f.s, .int .i64 y.f.m, .int .u16 y.f.v, .slice ta tn tc] TSta)).alloc (.cells #[.int .i64 0, .int .i64 0, .int .i64 0, .int .i64 0, .int .i64 0, .int .i64 0, .int .i64 0, .int .u16 0, .slice none 0 0] TSta) := ⟨_, rfl⟩
  rw [← hW1] at HR0
  have HW := Lib.hid hW1
  clear hW1
  go_enter Try.func9, Try.ntmps9
  go_wp2_with fail
  rw [← HW.out]
  clear HW
  obtain ⟨r0, r1, r2, x2⟩ := HR0.out
  have k0 : ∀ W, Ext W1.drew W → W.cell? ⟨w.heap.size, 0, none⟩ = some (.int .i64 x.k) ∧ W.cell? ⟨w.heap.size, 1, none⟩ = some (.int .i64 x.l) ∧ W.cell? ⟨w.heap.size + 1, 0, none⟩ = some (.int .i64 y.k) ∧ W.cell? ⟨w.heap.size + 1, 1, none⟩ = some (.int .i64 y.l) := fun W h =>
    ⟨h.cell (cell_of_row W1 _ 0 _ _ _ r0), h.cell (cell_of_row W1 _ 1 _ _ _ r0), h.cell (cell_of_row W1 _ 0 _ _ _ r1), h.cell (cell_of_row W1 _ 1 _ _ _ r1)⟩
  clear r0 r1 r2 x2
  by_cases hA : decide (wx < wy) = true
  · have hB := trivial
    have hC := trivial
    refine wp_region_rg Ext [(2, .known (.int .i64 wy)), (5, .known (.int .i64 wx))] (by kernel_rfl) (by kernel_rfl) (by kernel_rfl) Ext.refl (fun _ _ _ => Ext.trans) ?_
    intro σ
    simp only
    repeat (first | (refine rg_pure (x := ?_) rfl (by rfl) (fun W hW => ?_) ?_; rotate_left; (· obtain ⟨e0, e1, f0, f1⟩ := k0 W hW; have hA0 := hA; have hB0 := hB; have hC0 := hC; go_simp; with_reducible rfl); simp only [Nat.reduceAdd, Act.put, List.setIfInBounds_toArray, List.set_cons_zero, List.set_cons_succ]) | (refine rg_skip rfl (by rfl) ?_; simp only [Nat.reduceAdd, Act.put, List.setIfInBounds_toArray, List.set_cons_zero, List.set_cons_succ]))
    refine rg_known rfl (by rfl) (fun W hW hF => ?_) ?_
    · go_simp
      refine (ky W).mono ?_
      rintro e W' ⟨rfl, rfl⟩
      exact ⟨_, rfl, Ext.refl _, rfl⟩
    simp only [Nat.reduceAdd, Act.put, List.setIfInBounds_toArray, List.set_cons_zero, List.set_cons_succ]
    repeat (first | (refine rg_pure (x := ?_) rfl (by rfl) (fun W hW => ?_) ?_; rotate_left; (· obtain ⟨e0, e1, f0, f1⟩ := k0 W hW; have hA0 := hA; have hB0 := hB; have hC0 := hC; go_simp; with_reducible rfl); simp only [Nat.reduceAdd, Act.put, List.setIfInBounds_toArray, List.set_cons_zero, List.set_cons_succ]) | (refine rg_skip rfl (by rfl) ?_; simp only [Nat.reduceAdd, Act.put, List.setIfInBounds_toArray, List.set_cons_zero, List.set_cons_succ]))
    refine rg_known rfl (by rfl) (fun W hW hF => ?_) ?_
    · go_simp
      refine (kx W).mono ?_
      rintro e W' ⟨rfl, rfl⟩
      exact ⟨_, rfl, Ext.refl _, rfl⟩
    simp only [Nat.reduceAdd, Act.put, List.setIfInBounds_toArray, List.set_cons_zero, List.set_cons_succ]
    repeat (first | (refine rg_pure (x := ?_) rfl (by rfl) (fun W hW => ?_) ?_; rotate_left; (· obtain ⟨e0, e1, f0, f1⟩ := k0 W hW; have hA0 := hA; have hB0 := hB; have hC0 := hC; go_simp; with_reducible rfl); simp only [Nat.reduceAdd, Act.put, List.setIfInBounds_toArray, List.set_cons_zero, List.set_cons_succ]) | (refine rg_skip rfl (by rfl) ?_; simp only [Nat.reduceAdd, Act.put, List.setIfInBounds_toArray, List.set_cons_zero, List.set_cons_succ]))
    refine rg_done fun W2 hW hF => ?_
    clear hF k0 kx ky
    obtain ⟨r0, r1, r2, x2⟩ := HR0.out
    replace r0 := hW.block r0
    replace r1 := hW.block r1
    replace r2 := hW.block r2
    have x3 := x2.trans (Ext.of_drew hW)
    clear hW x2
    go_wp2_with (first | refine loadSta (x := y) (u := .slice ta tn tc) r1 rfl rfl rfl ?_ | refine storeSta (m := y) (sa := ta) (sn := tn) (sc := tc) r2 rfl rfl rfl rfl rfl ?_)
    have rd := setRow_heap W2 (w.heap.size + 1 + 1) _ (staC y (.slice ta tn tc)) _ _ r2
    refine bodyPost_ret (results_cell_row rfl _ _ (w.heap.size + 1 + 1) _ _ _ _ (by rfl) rd Try.underlying30 rfl (by kernel_rfl)) rfl ?_
    exact ⟨by rw [HR.out, hA]; rfl, x3.setRow (by omega) _⟩
  replace hA : decide (wx < wy) = false := by simpa using hA
  by_cases hB : (wy == wx) = true
  · by_cases hC : decide (x.k < y.k) = true
    · refine wp_region_rg Ext [(2, .known (.int .i64 wy)), (5, .known (.int .i64 wx)), (10, .known (.int .i64 wy)), (13, .known (.int .i64 wx))] (by kernel_rfl) (by kernel_rfl) (by kernel_rfl) Ext.refl (fun _ _ _ => Ext.trans) ?_
      intro σ
      simp only
      repeat (first | (refine rg_pure (x := ?_) rfl (by rfl) (fun W hW => ?_) ?_; rotate_left; (· obtain ⟨e0, e1, f0, f1⟩ := k0 W hW; have hA0 := hA; have hB0 := hB; have hC0 := hC; go_simp; with_reducible rfl); simp only [Nat.reduceAdd, Act.put, List.setIfInBounds_toArray, List.set_cons_zero, List.set_cons_succ]) | (refine rg_skip rfl (by rfl) ?_; simp only [Nat.reduceAdd, Act.put, List.setIfInBounds_toArray, List.set_cons_zero, List.set_cons_succ]))
      refine rg_known rfl (by rfl) (fun W hW hF => ?_) ?_
      · go_simp
        refine (ky W).mono ?_
        rintro e W' ⟨rfl, rfl⟩
        exact ⟨_, rfl, Ext.refl _, rfl⟩
      simp only [Nat.reduceAdd, Act.put, List.setIfInBounds_toArray, List.set_cons_zero, List.set_cons_succ]
      repeat (first | (refine rg_pure (x := ?_) rfl (by rfl) (fun W hW => ?_) ?_; rotate_left; (· obtain ⟨e0, e1, f0, f1⟩ := k0 W hW; have hA0 := hA; have hB0 := hB; have hC0 := hC; go_simp; with_reducible rfl); simp only [Nat.reduceAdd, Act.put, List.setIfInBounds_toArray, List.set_cons_zero, List.set_cons_succ]) | (refine rg_skip rfl (by rfl) ?_; simp only [Nat.reduceAdd, Act.put, List.setIfInBounds_toArray, List.set_cons_zero, List.set_cons_succ]))
      refine rg_known rfl (by rfl) (fun W hW hF => ?_) ?_
      · go_simp
        refine (kx W).mono ?_
        rintro e W' ⟨rfl, rfl⟩
        exact ⟨_, rfl, Ext.refl _, rfl⟩
      simp only [Nat.reduceAdd, Act.put, List.setIfInBounds_toArray, List.set_cons_zero, List.set_cons_succ]
      repeat (first | (refine rg_pure (x := ?_) rfl (by rfl) (fun W hW => ?_) ?_; rotate_left; (· obtain ⟨e0, e1, f0, f1⟩ := k0 W hW; have hA0 := hA; have hB0 := hB; have hC0 := hC; go_simp; with_reducible rfl); simp only [Nat.reduceAdd, Act.put, List.setIfInBounds_toArray, List.set_cons_zero, List.set_cons_succ]) | (refine rg_skip rfl (by rfl) ?_; simp only [Nat.reduceAdd, Act.put, List.setIfInBounds_toArray, List.set_cons_zero, List.set_cons_succ]))
      refine rg_known rfl (by rfl) (fun W hW hF => ?_) ?_
      · go_simp
        refine (ky W).mono ?_
        rintro e W' ⟨rfl, rfl⟩
        exact ⟨_, rfl, Ext.refl _, rfl⟩
      simp only [Nat.reduceAdd, Act.put, List.setIfInBounds_toArray, List.set_cons_zero, List.set_cons_succ]
      repeat (first | (refine rg_pure (x := ?_) rfl (by rfl) (fun W hW => ?_) ?_; rotate_left; (· obtain ⟨e0, e1, f0, f1⟩ := k0 W hW; have hA0 := hA; have hB0 := hB; have hC0 := hC; go_simp; with_reducible rfl); simp only [Nat.reduceAdd, Act.put, List.setIfInBounds_toArray, List.set_cons_zero, List.set_cons_succ]) | (refine rg_skip rfl (by rfl) ?_; simp only [Nat.reduceAdd, Act.put, List.setIfInBounds_toArray, List.set_cons_zero, List.set_cons_succ]))
      refine rg_known rfl (by rfl) (fun W hW hF => ?_) ?_
      · go_simp
        refine (kx W).mono ?_
        rintro e W' ⟨rfl, rfl⟩
        exact ⟨_, rfl, Ext.refl _, rfl⟩
      simp only [Nat.reduceAdd, Act.put, List.setIfInBounds_toArray, List.set_cons_zero, List.set_cons_succ]
      repeat (first | (refine rg_pure (x := ?_) rfl (by rfl) (fun W hW => ?_) ?_; rotate_left; (· obtain ⟨e0, e1, f0, f1⟩ := k0 W hW; have hA0 := hA; have hB0 := hB; have hC0 := hC; go_simp; with_reducible rfl); simp only [Nat.reduceAdd, Act.put, List.setIfInBounds_toArray, List.set_cons_zero, List.set_cons_succ]) | (refine rg_skip rfl (by rfl) ?_; simp only [Nat.reduceAdd, Act.put, List.setIfInBounds_toArray, List.set_cons_zero, List.set_cons_succ]))
      refine rg_done fun W2 hW hF => ?_
      clear hF k0 kx ky
      obtain ⟨r0, r1, r2, x2⟩ := HR0.out
      replace r0 := hW.block r0
      replace r1 := hW.block r1
      replace r2 := hW.block r2
      have x3 := x2.trans (Ext.of_drew hW)
      clear hW x2
      go_wp2_with (first | refine loadSta (x := y) (u := .slice ta tn tc) r1 rfl rfl rfl ?_ | refine storeSta (m := y) (sa := ta) (sn := tn) (sc := tc) r2 rfl rfl rfl rfl rfl ?_)
      have rd := setRow_heap W2 (w.heap.size + 1 + 1) _ (staC y (.slice ta tn tc)) _ _ r2
      refine bodyPost_ret (results_cell_row rfl _ _ (w.heap.size + 1 + 1) _ _ _ _ (by rfl) rd Try.underlying30 rfl (by kernel_rfl)) rfl ?_
      have hB2 : decide (wy = wx) = true := hB
      exact ⟨by rw [HR.out, hA, hB2, hC]; rfl, x3.setRow (by omega) _⟩
    · replace hC : decide (x.k < y.k) = false := by simpa using hC
      refine wp_region_rg Ext [(2, .known (.int .i64 wy)), (5, .known (.int .i64 wx)), (10, .known (.int .i64 wy)), (13, .known (.int .i64 wx))] (by kernel_rfl) (by kernel_rfl) (by kernel_rfl) Ext.refl (fun _ _ _ => Ext.trans) ?_
      intro σ
      simp only
      repeat (first | (refine rg_pure (x := ?_) rfl (by rfl) (fun W hW => ?_) ?_; rotate_left; (· obtain ⟨e0, e1, f0, f1⟩ := k0 W hW; have hA0 := hA; have hB0 := hB; have hC0 := hC; go_simp; with_reducible rfl); simp only [Nat.reduceAdd, Act.put, List.setIfInBounds_toArray, List.set_cons_zero, List.set_cons_succ]) | (refine rg_skip rfl (by rfl) ?_; simp only [Nat.reduceAdd, Act.put, List.setIfInBounds_toArray, List.set_cons_zero, List.set_cons_succ]))
      refine rg_known rfl (by rfl) (fun W hW hF => ?_) ?_
      · go_simp
        refine (ky W).mono ?_
        rintro e W' ⟨rfl, rfl⟩
        exact ⟨_, rfl, Ext.refl _, rfl⟩
      simp only [Nat.reduceAdd, Act.put, List.setIfInBounds_toArray, List.set_cons_zero, List.set_cons_succ]
      repeat (first | (refine rg_pure (x := ?_) rfl (by rfl) (fun W hW => ?_) ?_; rotate_left; (· obtain ⟨e0, e1, f0, f1⟩ := k0 W hW; have hA0 := hA; have hB0 := hB; have hC0 := hC; go_simp; with_reducible rfl); simp only [Nat.reduceAdd, Act.put, List.setIfInBounds_toArray, List.set_cons_zero, List.set_cons_succ]) | (refine rg_skip rfl (by rfl) ?_; simp only [Nat.reduceAdd, Act.put, List.setIfInBounds_toArray, List.set_cons_zero, List.set_cons_succ]))
      refine rg_known rfl (by rfl) (fun W hW hF => ?_) ?_
      · go_simp
        refine (kx W).mono ?_
        rintro e W' ⟨rfl, rfl⟩
        exact ⟨_, rfl, Ext.refl _, rfl⟩
      simp only [Nat.reduceAdd, Act.put, List.setIfInBounds_toArray, List.set_cons_zero, List.set_cons_succ]
      repeat (first | (refine rg_pure (x := ?_) rfl (by rfl) (fun W hW => ?_) ?_; rotate_left; (· obtain ⟨e0, e1, f0, f1⟩ := k0 W hW; have hA0 := hA; have hB0 := hB; have hC0 := hC; go_simp; with_reducible rfl); simp only [Nat.reduceAdd, Act.put, List.setIfInBounds_toArray, List.set_cons_zero, List.set_cons_succ]) | (refine rg_skip rfl (by rfl) ?_; simp only [Nat.reduceAdd, Act.put, List.setIfInBounds_toArray, List.set_cons_zero, List.set_cons_succ]))
      refine rg_known rfl (by rfl) (fun W hW hF => ?_) ?_
      · go_simp
        refine (ky W).mono ?_
        rintro e W' ⟨rfl, rfl⟩
        exact ⟨_, rfl, Ext.refl _, rfl⟩
      simp only [Nat.reduceAdd, Act.put, List.setIfInBounds_toArray, List.set_cons_zero, List.set_cons_succ]
      repeat (first | (refine rg_pure (x := ?_) rfl (by rfl) (fun W hW => ?_) ?_; rotate_left; (· obtain ⟨e0, e1, f0, f1⟩ := k0 W hW; have hA0 := hA; have hB0 := hB; have hC0 := hC; go_simp; with_reducible rfl); simp only [Nat.reduceAdd, Act.put, List.setIfInBounds_toArray, List.set_cons_zero, List.set_cons_succ]) | (refine rg_skip rfl (by rfl) ?_; simp only [Nat.reduceAdd, Act.put, List.setIfInBounds_toArray, List.set_cons_zero, List.set_cons_succ]))
      refine rg_known rfl (by rfl) (fun W hW hF => ?_) ?_
      · go_simp
        refine (kx W).mono ?_
        rintro e W' ⟨rfl, rfl⟩
        exact ⟨_, rfl, Ext.refl _, rfl⟩
      simp only [Nat.reduceAdd, Act.put, List.setIfInBounds_toArray, List.set_cons_zero, List.set_cons_succ]
      repeat (first | (refine rg_pure (x := ?_) rfl (by rfl) (fun W hW => ?_) ?_; rotate_left; (· obtain ⟨e0, e1, f0, f1⟩ := k0 W hW; have hA0 := hA; have hB0 := hB; have hC0 := hC; go_simp; with_reducible rfl); simp only [Nat.reduceAdd, Act.put, List.setIfInBounds_toArray, List.set_cons_zero, List.set_cons_succ]) | (refine rg_skip rfl (by rfl) ?_; simp only [Nat.reduceAdd, Act.put, List.setIfInBounds_toArray, List.set_cons_zero, List.set_cons_succ]))
      refine rg_done fun W2 hW hF => ?_
      clear hF k0 kx ky
      obtain ⟨r0, r1, r2, x2⟩ := HR0.out
      replace r0 := hW.block r0
      replace r1 := hW.block r1
      replace r2 := hW.block r2
      have x3 := x2.trans (Ext.of_drew hW)
      clear hW x2
      go_wp2_with (first | refine loadSta (x := x) (u := .slice sa sn sc) r0 rfl rfl rfl ?_ | refine storeSta (m := x) (sa := sa) (sn := sn) (sc := sc) r2 rfl rfl rfl rfl rfl ?_)
      have rd := setRow_heap W2 (w.heap.size + 1 + 1) _ (staC x (.slice sa sn sc)) _ _ r2
      refine bodyPost_ret (results_cell_row rfl _ _ (w.heap.size + 1 + 1) _ _ _ _ (by rfl) rd Try.underlying30 rfl (by kernel_rfl)) rfl ?_
      have hB2 : decide (wy = wx) = true := hB
      exact ⟨by rw [HR.out, hA, hB2, hC]; rfl, x3.setRow (by omega) _⟩
  · replace hB : (wy == wx) = false := by simpa using hB
    have hC := trivial
    refine wp_region_rg Ext [(2, .known (.int .i64 wy)), (5, .known (.int .i64 wx)), (10, .known (.int .i64 wy)), (13, .known (.int .i64 wx))] (by kernel_rfl) (by kernel_rfl) (by kernel_rfl) Ext.refl (fun _ _ _ => Ext.trans) ?_
    intro σ
    simp only
    repeat (first | (refine rg_pure (x := ?_) rfl (by rfl) (fun W hW => ?_) ?_; rotate_left; (· obtain ⟨e0, e1, f0, f1⟩ := k0 W hW; have hA0 := hA; have hB0 := hB; have hC0 := hC; go_simp; with_reducible rfl); simp only [Nat.reduceAdd, Act.put, List.setIfInBounds_toArray, List.set_cons_zero, List.set_cons_succ]) | (refine rg_skip rfl (by rfl) ?_; simp only [Nat.reduceAdd, Act.put, List.setIfInBounds_toArray, List.set_cons_zero, List.set_cons_succ]))
    refine rg_known rfl (by rfl) (fun W hW hF => ?_) ?_
    · go_simp
      refine (ky W).mono ?_
      rintro e W' ⟨rfl, rfl⟩
      exact ⟨_, rfl, Ext.refl _, rfl⟩
    simp only [Nat.reduceAdd, Act.put, List.setIfInBounds_toArray, List.set_cons_zero, List.set_cons_succ]
    repeat (first | (refine rg_pure (x := ?_) rfl (by rfl) (fun W hW => ?_) ?_; rotate_left; (· obtain ⟨e0, e1, f0, f1⟩ := k0 W hW; have hA0 := hA; have hB0 := hB; have hC0 := hC; go_simp; with_reducible rfl); simp only [Nat.reduceAdd, Act.put, List.setIfInBounds_toArray, List.set_cons_zero, List.set_cons_succ]) | (refine rg_skip rfl (by rfl) ?_; simp only [Nat.reduceAdd, Act.put, List.setIfInBounds_toArray, List.set_cons_zero, List.set_cons_succ]))
    refine rg_known rfl (by rfl) (fun W hW hF => ?_) ?_
    · go_simp
      refine (kx W).mono ?_
      rintro e W' ⟨rfl, rfl⟩
      exact ⟨_, rfl, Ext.refl _, rfl⟩
    simp only [Nat.reduceAdd, Act.put, List.setIfInBounds_toArray, List.set_cons_zero, List.set_cons_succ]
    repeat (first | (refine rg_pure (x := ?_) rfl (by rfl) (fun W hW => ?_) ?_; rotate_left; (· obtain ⟨e0, e1, f0, f1⟩ := k0 W hW; have hA0 := hA; have hB0 := hB; have hC0 := hC; go_simp; with_reducible rfl); simp only [Nat.reduceAdd, Act.put, List.setIfInBounds_toArray, List.set_cons_zero, List.set_cons_succ]) | (refine rg_skip rfl (by rfl) ?_; simp only [Nat.reduceAdd, Act.put, List.setIfInBounds_toArray, List.set_cons_zero, List.set_cons_succ]))
    refine rg_known rfl (by rfl) (fun W hW hF => ?_) ?_
    · go_simp
      refine (ky W).mono ?_
      rintro e W' ⟨rfl, rfl⟩
      exact ⟨_, rfl, Ext.refl _, rfl⟩
    simp only [Nat.reduceAdd, Act.put, List.setIfInBounds_toArray, List.set_cons_zero, List.set_cons_succ]
    repeat (first | (refine rg_pure (x := ?_) rfl (by rfl) (fun W hW => ?_) ?_; rotate_left; (· obtain ⟨e0, e1, f0, f1⟩ := k0 W hW; have hA0 := hA; have hB0 := hB; have hC0 := hC; go_simp; with_reducible rfl); simp only [Nat.reduceAdd, Act.put, List.setIfInBounds_toArray, List.set_cons_zero, List.set_cons_succ]) | (refine rg_skip rfl (by rfl) ?_; simp only [Nat.reduceAdd, Act.put, List.setIfInBounds_toArray, List.set_cons_zero, List.set_cons_succ]))
    refine rg_known rfl (by rfl) (fun W hW hF => ?_) ?_
    · go_simp
      refine (kx W).mono ?_
      rintro e W' ⟨rfl, rfl⟩
      exact ⟨_, rfl, Ext.refl _, rfl⟩
    simp only [Nat.reduceAdd, Act.put, List.setIfInBounds_toArray, List.set_cons_zero, List.set_cons_succ]
    repeat (first | (refine rg_pure (x := ?_) rfl (by rfl) (fun W hW => ?_) ?_; rotate_left; (· obtain ⟨e0, e1, f0, f1⟩ := k0 W hW; have hA0 := hA; have hB0 := hB; have hC0 := hC; go_simp; with_reducible rfl); simp only [Nat.reduceAdd, Act.put, List.setIfInBounds_toArray, List.set_cons_zero, List.set_cons_succ]) | (refine rg_skip rfl (by rfl) ?_; simp only [Nat.reduceAdd, Act.put, List.setIfInBounds_toArray, List.set_cons_zero, List.set_cons_succ]))
    refine rg_done fun W2 hW hF => ?_
    clear hF k0 kx ky
    obtain ⟨r0, r1, r2, x2⟩ := HR0.out
    replace r0 := hW.block r0
    replace r1 := hW.block r1
    replace r2 := hW.block r2
    have x3 := x2.trans (Ext.of_drew hW)
    clear hW x2
    go_wp2_with (first | refine loadSta (x := x) (u := .slice sa sn sc) r0 rfl rfl rfl ?_ | refine storeSta (m := x) (sa := sa) (sn := sn) (sc := sc) r2 rfl rfl rfl rfl rfl ?_)
    have rd := setRow_heap W2 (w.heap.size + 1 + 1) _ (staC x (.slice sa sn sc)) _ _ r2
    refine bodyPost_ret (results_cell_row rfl _ _ (w.heap.size + 1 + 1) _ _ _ _ (by rfl) rd Try.underlying30 rfl (by kernel_rfl)) rfl ?_
    have hB2 : decide (wy = wx) = false := hB
    exact ⟨by rw [HR.out, hA, hB2]; rfl, x3.setRow (by omega) _⟩
end Go.Proofs.Ytcdaelgnankmfaa.VSta
