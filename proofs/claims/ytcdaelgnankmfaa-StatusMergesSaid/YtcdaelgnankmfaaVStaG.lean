/- Statuses: the better one. -/
import Derived.Test.YtcdaelgnankmfaaVStaR
import Derived.Test.YtcdaelgnankmfaaVTwo
namespace Go.Proofs.Ytcdaelgnankmfaa.VSta
open Go.RowKit Go.VBase Go.VRg Go.VEq VCst VMsg

set_option maxRecDepth 100000 in
set_option maxHeartbeats 8000000 in
theorem merge_calls (x y : StaD) (sx sy : Sl3) (w : World) (hx : Bys w (slV sx) x.f.b) (hy : Bys w (slV sy) y.f.b) (hlx : x.f.b.length ≤ 140737488355328) (hly : y.f.b.length ≤ 140737488355328) :
    Calls Try.prog 7 #[.agg (staC x (slV sx)), .agg (staC y (slV sy))] w fun e w' => ∃ u, e = .returned (.agg (staC (if betB x y then y else x) u)) ∧ OwnB w' w.heap.size 5 u (if betB x y then y else x).f.b ∧ Ext w w' := by
  have kcx := fun W (h : Ext w W) => copied_calls x sx W (hx.ext h) hlx
  have kcy := fun W (h : Ext w W) => copied_calls y sy W (hy.ext h) hly
  have kx := fun W => rank_calls x.l W
  have ky := fun W => rank_calls y.l W
  have hB : betB x y = decide (0 < orB (cmpB (rankN x.l) (rankN y.l)) (cmpB y.k x.k)) := rfl
  rw [hB]
  clear hB hx hy hlx hly
  obtain ⟨M, hm⟩ : ∃ M, M = (if decide (0 < orB (cmpB (rankN x.l) (rankN y.l)) (cmpB y.k x.k)) = true then y else x) := ⟨_, rfl⟩
  rw [← hm]
  have HM := Lib.hid hm
  clear hm
  generalize rankN x.l = wx at *
  generalize rankN y.l = wy at *
  obtain ⟨sa, sn, sc⟩ := sx
  obtain ⟨ta, tn, tc⟩ := sy
  unfold slV at *
  simp only at *
  have r0 := (Ext.alloc _ (.cells #[.int .i64 0, .int .i64 0, .int .i64 0, .int .i64 0, .int .i64 0, .int .i64 0, .int .i64 0, .int .u16 0, .slice none 0 0] TSta)).block ((Ext.alloc _ (.cells (staC y (.slice ta tn tc)) TSta)).block (heap_alloc_new w (.cells (staC x (.slice sa sn sc)) TSta)))
  have r1 := (Ext.alloc _ (.cells #[.int .i64 0, .int .i64 0, .int .i64 0, .int .i64 0, .int .i64 0, .int .i64 0, .int .i64 0, .int .u16 0, .slice none 0 0] TSta)).block (heap_alloc_new (w.alloc (.cells (staC x (.slice sa sn sc)) TSta)) (.cells (staC y (.slice ta tn tc)) TSta))
  have r2 := heap_alloc_new ((w.alloc (.cells (staC x (.slice sa sn sc)) TSta)).alloc (.cells (staC y (.slice ta tn tc)) TSta)) (.cells #[.int .i64 0, .int .i64 0, .int .i64 0, .int .i64 0, .int .i64 0, .int .i64 0, .int .i64 0, .int .u16 0, .slice none 0 0] TSta)
  have x2 := ((Ext.alloc w (.cells (staC x (.slice sa sn sc)) TSta)).thenAlloc (.cells (staC y (.slice ta tn tc)) TSta)).thenAlloc (.cells #[.int .i64 0, .int .i64 0, .int .i64 0, .int .i64 0, .int .i64 0, .int .i64 0, .int .i64 0, .int .u16 0, .slice none 0 0] TSta)
  simp only [World.size_alloc] at r0 r1 r2
  have hst : ∀ (z : StaD) (u : Value), staC z u = #[.int .i64 z.k, .int .i64 z.l, .int .i64 z.d, .int .i64 z.f.k, .int .i64 z.f.r, .int .i64 z.f.s, .int .i64 z.f.m, .int .u16 z.f.v, u] := fun _ _ => rfl
  have HR0 := Lib.hid (And.intro r0 (And.intro r1 (And.intro r2 x2)))
  have KC := Lib.hid (And.intro kcx kcy)
  clear r0 r1 r2 x2 kcx kcy
  rw [hst x, hst y] at HR0 ⊢
  obtain ⟨W1, hW1⟩ : ∃ W1, W1 = ((w.alloc (.cells #[.int .i64 x.k, .int .i64 x.l, .int .i64 x.d, .int .i64 x.f.k, .int .i64 x.f.r, .int .i64 x.f.s, .int .i64 x.f.m, .int .u16 x.f.v, .slice sa sn sc] TSta)).alloc (.cells #[.int .i64 y.k, .int .i64 y.l, .int .i64 y.d, .int .i64 y.f.k, .int .i64 y.f.r, .int .i64 y.f.s, .int .i64 y.f.m, .int .u16 y.f.v, .slice ta tn tc] TSta)).alloc (.cells #[.int .i64 0, .int .i64 0, .int .i64 0, .int .i64 0, .int .i64 0, .int .i64 0, .int .i64 0, .int .u16 0, .slice none 0 0] TSta) := ⟨_, rfl⟩
  rw [← hW1] at HR0
  have HW := Lib.hid hW1
  clear hW1
  go_enter Try.func7, Try.ntmps7
  go_wp2_with fail
  rw [← HW.out]
  clear HW
  obtain ⟨r0, r1, r2, x2⟩ := HR0.out
  have k0 : ∀ W, Ext W1.drew W → W.cell? ⟨w.heap.size, 0, none⟩ = some (.int .i64 x.k) ∧ W.cell? ⟨w.heap.size, 1, none⟩ = some (.int .i64 x.l) ∧ W.cell? ⟨w.heap.size + 1, 0, none⟩ = some (.int .i64 y.k) ∧ W.cell? ⟨w.heap.size + 1, 1, none⟩ = some (.int .i64 y.l) := fun W h =>
    ⟨h.cell (cell_of_row W1 _ 0 _ _ _ r0), h.cell (cell_of_row W1 _ 1 _ _ _ r0), h.cell (cell_of_row W1 _ 0 _ _ _ r1), h.cell (cell_of_row W1 _ 1 _ _ _ r1)⟩
  clear r0 r1 r2 x2
  refine wp_region_rg Ext [(3, .known (.int .i64 wx)), (7, .known (.int .i64 wy)), (8, .known (.int .i64 (cmpB wx wy))), (13, .known (.int .i64 (cmpB y.k x.k))), (14, .unk (Two (cmpB wx wy) (cmpB y.k x.k)) Two.ext), (15, .known (.int .i64 (orB (cmpB wx wy) (cmpB y.k x.k))))] (by kernel_rfl) (by kernel_rfl) (by kernel_rfl) Ext.refl (fun _ _ _ => Ext.trans) ?_
  intro σ
  simp only
  repeat (first | (refine rg_pure (x := ?_) rfl (by rfl) (fun W hW => ?_) ?_; rotate_left; (· obtain ⟨e0, e1, f0, f1⟩ := k0 W hW; go_simp; with_reducible rfl); simp only [Nat.reduceAdd, Act.put, List.setIfInBounds_toArray, List.set_cons_zero, List.set_cons_succ]) | (refine rg_skip rfl (by rfl) ?_; simp only [Nat.reduceAdd, Act.put, List.setIfInBounds_toArray, List.set_cons_zero, List.set_cons_succ]))
  refine rg_known rfl (by rfl) (fun W hW hF => ?_) ?_
  · go_simp
    refine (kx W).mono ?_
    rintro e W' ⟨rfl, h⟩
    exact ⟨_, rfl, h, rfl⟩
  simp only [Nat.reduceAdd, Act.put, List.setIfInBounds_toArray, List.set_cons_zero, List.set_cons_succ]
  repeat (first | (refine rg_pure (x := ?_) rfl (by rfl) (fun W hW => ?_) ?_; rotate_left; (· obtain ⟨e0, e1, f0, f1⟩ := k0 W hW; go_simp; with_reducible rfl); simp only [Nat.reduceAdd, Act.put, List.setIfInBounds_toArray, List.set_cons_zero, List.set_cons_succ]) | (refine rg_skip rfl (by rfl) ?_; simp only [Nat.reduceAdd, Act.put, List.setIfInBounds_toArray, List.set_cons_zero, List.set_cons_succ]))
  refine rg_known rfl (by rfl) (fun W hW hF => ?_) ?_
  · go_simp
    refine (ky W).mono ?_
    rintro e W' ⟨rfl, h⟩
    exact ⟨_, rfl, h, rfl⟩
  simp only [Nat.reduceAdd, Act.put, List.setIfInBounds_toArray, List.set_cons_zero, List.set_cons_succ]
  repeat (first | (refine rg_pure (x := ?_) rfl (by rfl) (fun W hW => ?_) ?_; rotate_left; (· obtain ⟨e0, e1, f0, f1⟩ := k0 W hW; go_simp; with_reducible rfl); simp only [Nat.reduceAdd, Act.put, List.setIfInBounds_toArray, List.set_cons_zero, List.set_cons_succ]) | (refine rg_skip rfl (by rfl) ?_; simp only [Nat.reduceAdd, Act.put, List.setIfInBounds_toArray, List.set_cons_zero, List.set_cons_succ]))
  refine rg_known rfl (by rfl) (fun W hW hF => ?_) ?_
  · go_simp
    refine (cmp_calls wx wy W).mono ?_
    rintro e W' ⟨rfl, rfl⟩
    exact ⟨_, rfl, Ext.refl _, rfl⟩
  simp only [Nat.reduceAdd, Act.put, List.setIfInBounds_toArray, List.set_cons_zero, List.set_cons_succ]
  repeat (first | (refine rg_pure (x := ?_) rfl (by rfl) (fun W hW => ?_) ?_; rotate_left; (· obtain ⟨e0, e1, f0, f1⟩ := k0 W hW; go_simp; with_reducible rfl); simp only [Nat.reduceAdd, Act.put, List.setIfInBounds_toArray, List.set_cons_zero, List.set_cons_succ]) | (refine rg_skip rfl (by rfl) ?_; simp only [Nat.reduceAdd, Act.put, List.setIfInBounds_toArray, List.set_cons_zero, List.set_cons_succ]))
  refine rg_known rfl (by rfl) (fun W hW hF => ?_) ?_
  · go_simp
    refine (cmp_calls y.k x.k W).mono ?_
    rintro e W' ⟨rfl, rfl⟩
    exact ⟨_, rfl, Ext.refl _, rfl⟩
  simp only [Nat.reduceAdd, Act.put, List.setIfInBounds_toArray, List.set_cons_zero, List.set_cons_succ]
  repeat (first | (refine rg_pure (x := ?_) rfl (by rfl) (fun W hW => ?_) ?_; rotate_left; (· obtain ⟨e0, e1, f0, f1⟩ := k0 W hW; go_simp; with_reducible rfl); simp only [Nat.reduceAdd, Act.put, List.setIfInBounds_toArray, List.set_cons_zero, List.set_cons_succ]) | (refine rg_skip rfl (by rfl) ?_; simp only [Nat.reduceAdd, Act.put, List.setIfInBounds_toArray, List.set_cons_zero, List.set_cons_succ]))
  refine rg_unk rfl (by rfl) (fun W hW hF => ?_) ?_
  · go_simp
    exact ⟨Ext.alloc _ _, _, rfl, cell_of_row _ _ 0 _ _ _ (heap_alloc_new W _), cell_of_row _ _ 1 _ _ _ (heap_alloc_new W _)⟩
  simp only [Nat.reduceAdd, Act.put, List.setIfInBounds_toArray, List.set_cons_zero, List.set_cons_succ]
  repeat (first | (refine rg_pure (x := ?_) rfl (by rfl) (fun W hW => ?_) ?_; rotate_left; (· obtain ⟨e0, e1, f0, f1⟩ := k0 W hW; go_simp; with_reducible rfl); simp only [Nat.reduceAdd, Act.put, List.setIfInBounds_toArray, List.set_cons_zero, List.set_cons_succ]) | (refine rg_skip rfl (by rfl) ?_; simp only [Nat.reduceAdd, Act.put, List.setIfInBounds_toArray, List.set_cons_zero, List.set_cons_succ]))
  refine rg_known rfl (by rfl) (fun W hW hF => ?_) ?_
  · obtain ⟨q, hq, c0, c1⟩ := hF 14 _ _ rfl (by kernel_rfl)
    generalize σ 14 = u at *
    subst hq
    go_simp
    refine (or_calls q _ _ W c0 c1).mono ?_
    rintro e W' ⟨rfl, rfl⟩
    exact ⟨_, rfl, Ext.refl _, rfl⟩
  simp only [Nat.reduceAdd, Act.put, List.setIfInBounds_toArray, List.set_cons_zero, List.set_cons_succ]
  obtain ⟨z, hz⟩ : ∃ z, orB (cmpB wx wy) (cmpB y.k x.k) = z := ⟨_, rfl⟩
  rw [hz]
  repeat (first | (refine rg_pure (x := ?_) rfl (by rfl) (fun W hW => ?_) ?_; rotate_left; (· obtain ⟨e0, e1, f0, f1⟩ := k0 W hW; go_simp; with_reducible rfl); simp only [Nat.reduceAdd, Act.put, List.setIfInBounds_toArray, List.set_cons_zero, List.set_cons_succ]) | (refine rg_skip rfl (by rfl) ?_; simp only [Nat.reduceAdd, Act.put, List.setIfInBounds_toArray, List.set_cons_zero, List.set_cons_succ]))
  refine rg_done fun W2 hW hF => ?_
  clear hF k0 kx ky
  obtain ⟨r0, r1, r2, x2⟩ := HR0.out
  replace r0 := hW.block r0
  replace r1 := hW.block r1
  replace r2 := hW.block r2
  have x3 := x2.trans (Ext.of_drew hW)
  clear hW x2 HR0
  cases hd : decide (0 < z) with
  | true =>
    go_wp2_with (first | refine loadSta (x := y) (u := .slice ta tn tc) r1 rfl rfl rfl ?_)
    have hm := HM.out
    rw [hz, hd] at hm
    clear HM
    obtain rfl : y = M := hm.symm
    clear hm
    refine (KC.out.2 _ x3).mono ?_
    rintro e w4 ⟨u, rfl, hu, h4⟩
    have hlt2 := (Array.getElem?_eq_some_iff.1 r2).1
    replace r2 := h4.block r2
    have x4 := x3.trans h4
    obtain ⟨a4, cap4, rfl⟩ := hu.slice
    have HH := Lib.hid (And.intro x3 (And.intro x4 (And.intro hlt2 hu)))
    clear KC hz hd hst r0 r1 h4 x3 x4 hlt2 hu
    go_wp2_with (refine storeSta (m := y) (sa := a4) (sn := y.f.b.length) (sc := cap4) r2 rfl rfl rfl rfl rfl ?_)
    have rd := setRow_heap w4 (w.heap.size + 1 + 1) _ (staC y (.slice a4 y.f.b.length cap4)) _ _ r2
    refine bodyPost_ret (results_cell_row rfl _ _ (w.heap.size + 1 + 1) _ _ _ _ (by rfl) rd Try.underlying30 rfl (by kernel_rfl)) rfl ?_
    refine ⟨.slice a4 y.f.b.length cap4, by rfl, ?_, HH.out.2.1.setRow (by omega) _⟩
    exact OwnB.mono (ownB_other HH.out.2.2.2 fun k hk => setRow_other _ _ _ _ (by have := HH.out.2.2.1; omega)) HH.out.1.size
  | false =>
    go_wp2_with (first | refine loadSta (x := x) (u := .slice sa sn sc) r0 rfl rfl rfl ?_)
    have hm := HM.out
    rw [hz, hd] at hm
    clear HM
    obtain rfl : x = M := hm.symm
    clear hm
    refine (KC.out.1 _ x3).mono ?_
    rintro e w4 ⟨u, rfl, hu, h4⟩
    have hlt2 := (Array.getElem?_eq_some_iff.1 r2).1
    replace r2 := h4.block r2
    have x4 := x3.trans h4
    obtain ⟨a4, cap4, rfl⟩ := hu.slice
    have HH := Lib.hid (And.intro x3 (And.intro x4 (And.intro hlt2 hu)))
    clear KC hz hd hst r0 r1 h4 x3 x4 hlt2 hu
    go_wp2_with (refine storeSta (m := x) (sa := a4) (sn := x.f.b.length) (sc := cap4) r2 rfl rfl rfl rfl rfl ?_)
    have rd := setRow_heap w4 (w.heap.size + 1 + 1) _ (staC x (.slice a4 x.f.b.length cap4)) _ _ r2
    refine bodyPost_ret (results_cell_row rfl _ _ (w.heap.size + 1 + 1) _ _ _ _ (by rfl) rd Try.underlying30 rfl (by kernel_rfl)) rfl ?_
    refine ⟨.slice a4 x.f.b.length cap4, by rfl, ?_, HH.out.2.1.setRow (by omega) _⟩
    exact OwnB.mono (ownB_other HH.out.2.2.2 fun k hk => setRow_other _ _ _ _ (by have := HH.out.2.2.1; omega)) HH.out.1.size
end Go.Proofs.Ytcdaelgnankmfaa.VSta
