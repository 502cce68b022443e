/- CstateAsks: the walk. -/
import Derived.Test.YtkmkfkpblkhpmaaVApart
namespace Go.Proofs.Ytkmkfkpblkhpmaa.VCst
open Go.RowKit Go.VBase Go.VRg VGrp

set_option maxHeartbeats 2000000 in
theorem Asks_any (r s m r' s' m' n : Int) (g g' : Nat) (is : Bool) (hg : g < 65536) (hg' : g' < 65536) (w : World) :
    Calls Try.prog 4 #[cst r s m (g : Int), cst r' s' m' (g' : Int), .int .i64 n, .bool is] w fun e w' => e = .returned (.bool true) ∧ Ext w w' := by
  have hA := fun w => Apart_calls r s m r' s' m' g g' hg hg' w
  have hB := fun w => refApart_calls r s m r' s' m' g g' hg hg' w
  have hC := fun w => Compare_calls r s m (g : Int) r' s' m' (g' : Int) w
  have hD := fun w => refCompare_calls r s m (g : Int) r' s' m' (g' : Int) w
  have hE := fun w => Seen_calls r s m n g is hg w
  have hF := fun w => refSeen_calls r s m n g is hg w
  unfold ApartPost at hA hB
  generalize seenG g n is = z at *
  generalize orB (cmpB r r') (cmpB s s') = c at *
  generalize g ^^^ g' = x at *
  generalize apartB r s m r' s' m' = q at *
  unfold cst at *
  go_enter Try.func4, Try.ntmps4
  go_wp2_with fail
  have r0 := heap_alloc2_old w (.cells #[.int .i64 r, .int .i64 s, .int .i64 m, .int .u16 (g : Int)] 25) (.cells #[.int .i64 r', .int .i64 s', .int .i64 m', .int .u16 (g' : Int)] 25)
  have r1 := heap_alloc2_new w (.cells #[.int .i64 r, .int .i64 s, .int .i64 m, .int .u16 (g : Int)] 25) (.cells #[.int .i64 r', .int .i64 s', .int .i64 m', .int .u16 (g' : Int)] 25)
  have hx : Ext w ((w.alloc (.cells #[.int .i64 r, .int .i64 s, .int .i64 m, .int .u16 (g : Int)] 25)).alloc (.cells #[.int .i64 r', .int .i64 s', .int .i64 m', .int .u16 (g' : Int)] 25)) := (Ext.alloc _ _).thenAlloc _
  generalize ((w.alloc (.cells #[.int .i64 r, .int .i64 s, .int .i64 m, .int .u16 (g : Int)] 25)).alloc (.cells #[.int .i64 r', .int .i64 s', .int .i64 m', .int .u16 (g' : Int)] 25)) = w1 at *
  refine (hA _).mono ?_
  rintro e w2 ⟨rfl, h2⟩
  have q0 := h2.block r0
  have q1 := h2.block r1
  have hx2 := hx.trans h2
  clear r0 r1 h2 hx
  obtain ⟨⟨a0, a1, a2, a3⟩, f0, f1, f2, f3⟩ := row4 q0
  obtain ⟨⟨b0, b1, b2, b3⟩, g0, g1, g2, g3⟩ := row4 q1
  go_wp2_with fail
  refine (hB _).mono ?_
  rintro e w3 ⟨rfl, h3⟩
  have r0 := h3.block q0
  have r1 := h3.block q1
  have hx3 := hx2.trans h3
  clear a0 a1 a2 a3 f0 f1 f2 f3 b0 b1 b2 b3 g0 g1 g2 g3 q0 q1 h3 hx2
  obtain ⟨⟨a0, a1, a2, a3⟩, _⟩ := row4 r0
  obtain ⟨⟨b0, b1, b2, b3⟩, _⟩ := row4 r1
  clear r0 r1
  go_wp2_with fail
  refine wp_region_rg Ext [(2, .known (.int .i64 c)), (5, .known (.int .i64 c)), (21, .known (.agg #[.int .i64 r, .int .i64 s, .int .i64 m, .int .u16 (z : Int)])), (25, .known (.agg #[.int .i64 r, .int .i64 s, .int .i64 m, .int .u16 (z : Int)]))] (by kernel_rfl) (by kernel_rfl) (by kernel_rfl) Ext.refl (fun _ _ _ => Ext.trans) ?_
  intro σ
  simp only
  have k0 : ∀ W, Ext w3.drew W → W.cell? ⟨w.heap.size, 0, none⟩ = some (.int .i64 r) := fun W h => h.cell a0
  have k1 : ∀ W, Ext w3.drew W → W.cell? ⟨w.heap.size, 1, none⟩ = some (.int .i64 s) := fun W h => h.cell a1
  have k2 : ∀ W, Ext w3.drew W → W.cell? ⟨w.heap.size, 2, none⟩ = some (.int .i64 m) := fun W h => h.cell a2
  have k3 : ∀ W, Ext w3.drew W → W.cell? ⟨w.heap.size, 3, none⟩ = some (.int .u16 (g : Int)) := fun W h => h.cell a3
  have k4 : ∀ W, Ext w3.drew W → W.cell? ⟨w.heap.size + 1, 0, none⟩ = some (.int .i64 r') := fun W h => h.cell b0
  have k5 : ∀ W, Ext w3.drew W → W.cell? ⟨w.heap.size + 1, 1, none⟩ = some (.int .i64 s') := fun W h => h.cell b1
  have k6 : ∀ W, Ext w3.drew W → W.cell? ⟨w.heap.size + 1, 2, none⟩ = some (.int .i64 m') := fun W h => h.cell b2
  have k7 : ∀ W, Ext w3.drew W → W.cell? ⟨w.heap.size + 1, 3, none⟩ = some (.int .u16 (g' : Int)) := fun W h => h.cell b3
  repeat (refine rg_pure (x := ?_) rfl (by rfl) (fun W hW => ?_) ?_; rotate_left; (· have f0 := k0 W hW; have f1 := k1 W hW; have f2 := k2 W hW; have f3 := k3 W hW; have f4 := k4 W hW; have f5 := k5 W hW; have f6 := k6 W hW; have f7 := k7 W hW; go_simp; with_reducible rfl); simp only [Nat.reduceAdd, Act.put, List.setIfInBounds_toArray, List.set_cons_zero, List.set_cons_succ])
  refine rg_known rfl (by rfl) (fun W hW hno => ?_) ?_
  · go_simp
    refine (hC W).mono ?_
    rintro e W' ⟨rfl, h⟩
    exact ⟨_, rfl, h, rfl⟩
  simp only [Nat.reduceAdd, Act.put, List.setIfInBounds_toArray, List.set_cons_zero, List.set_cons_succ]
  repeat (refine rg_pure (x := ?_) rfl (by rfl) (fun W hW => ?_) ?_; rotate_left; (· have f0 := k0 W hW; have f1 := k1 W hW; have f2 := k2 W hW; have f3 := k3 W hW; have f4 := k4 W hW; have f5 := k5 W hW; have f6 := k6 W hW; have f7 := k7 W hW; go_simp; with_reducible rfl); simp only [Nat.reduceAdd, Act.put, List.setIfInBounds_toArray, List.set_cons_zero, List.set_cons_succ])
  refine rg_known rfl (by rfl) (fun W hW hno => ?_) ?_
  · go_simp
    refine (hD W).mono ?_
    rintro e W' ⟨rfl, h⟩
    exact ⟨_, rfl, h, rfl⟩
  simp only [Nat.reduceAdd, Act.put, List.setIfInBounds_toArray, List.set_cons_zero, List.set_cons_succ]
  repeat (refine rg_pure (x := ?_) rfl (by rfl) (fun W hW => ?_) ?_; rotate_left; (· have f0 := k0 W hW; have f1 := k1 W hW; have f2 := k2 W hW; have f3 := k3 W hW; have f4 := k4 W hW; have f5 := k5 W hW; have f6 := k6 W hW; have f7 := k7 W hW; go_simp; with_reducible rfl); simp only [Nat.reduceAdd, Act.put, List.setIfInBounds_toArray, List.set_cons_zero, List.set_cons_succ])
  refine rg_known rfl (by rfl) (fun W hW hno => ?_) ?_
  · go_simp
    refine (hE W).mono ?_
    rintro e W' ⟨rfl, h⟩
    exact ⟨_, rfl, h, rfl⟩
  simp only [Nat.reduceAdd, Act.put, List.setIfInBounds_toArray, List.set_cons_zero, List.set_cons_succ]
  repeat (refine rg_pure (x := ?_) rfl (by rfl) (fun W hW => ?_) ?_; rotate_left; (· have f0 := k0 W hW; have f1 := k1 W hW; have f2 := k2 W hW; have f3 := k3 W hW; have f4 := k4 W hW; have f5 := k5 W hW; have f6 := k6 W hW; have f7 := k7 W hW; go_simp; with_reducible rfl); simp only [Nat.reduceAdd, Act.put, List.setIfInBounds_toArray, List.set_cons_zero, List.set_cons_succ])
  refine rg_known rfl (by rfl) (fun W hW hno => ?_) ?_
  · go_simp
    refine (hF W).mono ?_
    rintro e W' ⟨rfl, h⟩
    exact ⟨_, rfl, h, rfl⟩
  simp only [Nat.reduceAdd, Act.put, List.setIfInBounds_toArray, List.set_cons_zero, List.set_cons_succ]
  repeat (refine rg_pure (x := ?_) rfl (by rfl) (fun W hW => ?_) ?_; rotate_left; (· have f0 := k0 W hW; have f1 := k1 W hW; have f2 := k2 W hW; have f3 := k3 W hW; have f4 := k4 W hW; have f5 := k5 W hW; have f6 := k6 W hW; have f7 := k7 W hW; go_simp; with_reducible rfl); simp only [Nat.reduceAdd, Act.put, List.setIfInBounds_toArray, List.set_cons_zero, List.set_cons_succ])
  refine rg_done fun W hW hno => ?_
  have hEnd := hx3.trans (Ext.of_drew hW)
  clear hno
  go_wp2_with fail
  go_ret
  exact ⟨rfl, hEnd⟩
end Go.Proofs.Ytkmkfkpblkhpmaa.VCst
