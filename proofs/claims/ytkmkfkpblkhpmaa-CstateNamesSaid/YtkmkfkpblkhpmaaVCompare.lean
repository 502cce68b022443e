/- cstate.Compare. -/
import Derived.Test.YtkmkfkpblkhpmaaVCmpOr
import Derived.Test.YtkmkfkpblkhpmaaVSucc
import Derived.Test.YtkmkfkpblkhpmaaVRg
namespace Go.Proofs.Ytkmkfkpblkhpmaa.VCst
open Go.RowKit Go.VBase Go.VRg

def Two (a b : Int) (v : Value) (W : World) : Prop := ∃ q, v = .slice (some ⟨q, 0, none⟩) 2 2 ∧ W.cell? ⟨q, 0, none⟩ = some (.int .i64 a) ∧ W.cell? ⟨q, 1, none⟩ = some (.int .i64 b)
theorem Two.ext {a b : Int} (v : Value) (W W' : World) (x : Ext W W') : Two a b v W → Two a b v W' := fun ⟨q, h1, h2, h3⟩ => ⟨q, h1, x.cell h2, x.cell h3⟩

set_option maxHeartbeats 1000000 in
theorem Compare_calls (r s m v r' s' m' v' : Int) (w : World) : Calls Try.prog 17 #[cst r s m v, cst r' s' m' v'] w fun e w' => e = .returned (.int .i64 (orB (cmpB r r') (cmpB s s'))) ∧ Ext w w' := by
  unfold cst
  go_enter Try.func17, Try.ntmps17
  go_wp2_with fail
  have r0 : ((w.alloc (.cells #[.int .i64 r, .int .i64 s, .int .i64 m, .int .u16 v] 25)).alloc (.cells #[.int .i64 r', .int .i64 s', .int .i64 m', .int .u16 v'] 25)).heap[w.heap.size]? = some (.cells #[.int .i64 r, .int .i64 s, .int .i64 m, .int .u16 v] 25) := heap_alloc2_old w _ _
  have r1 : ((w.alloc (.cells #[.int .i64 r, .int .i64 s, .int .i64 m, .int .u16 v] 25)).alloc (.cells #[.int .i64 r', .int .i64 s', .int .i64 m', .int .u16 v'] 25)).heap[w.heap.size + 1]? = some (.cells #[.int .i64 r', .int .i64 s', .int .i64 m', .int .u16 v'] 25) := heap_alloc2_new w _ _
  have hx := (Ext.alloc w (.cells #[.int .i64 r, .int .i64 s, .int .i64 m, .int .u16 v] 25)).thenAlloc (.cells #[.int .i64 r', .int .i64 s', .int .i64 m', .int .u16 v'] 25)
  generalize (w.alloc (.cells #[.int .i64 r, .int .i64 s, .int .i64 m, .int .u16 v] 25)).alloc (.cells #[.int .i64 r', .int .i64 s', .int .i64 m', .int .u16 v'] 25) = w1 at *
  obtain ⟨⟨a0, a1, _, _⟩, _⟩ := row4 r0
  obtain ⟨⟨b0, b1, _, _⟩, _⟩ := row4 r1
  clear r0 r1
  refine wp_region_rg Ext [(4, .known (.int .i64 (cmpB r r'))), (9, .known (.int .i64 (cmpB s s'))), (10, .unk (Two (cmpB r r') (cmpB s s')) Two.ext), (11, .known (.int .i64 (orB (cmpB r r') (cmpB s s'))))] (by kernel_rfl) (by kernel_rfl) (by kernel_rfl) Ext.refl (fun _ _ _ => Ext.trans) ?_
  intro σ
  simp only
  have k0 : ∀ W, Ext w1.drew W → W.cell? ⟨w.heap.size, 0, none⟩ = some (.int .i64 r) := fun W h => h.cell a0
  have k1 : ∀ W, Ext w1.drew W → W.cell? ⟨w.heap.size, 1, none⟩ = some (.int .i64 s) := fun W h => h.cell a1
  have k2 : ∀ W, Ext w1.drew W → W.cell? ⟨w.heap.size + 1, 0, none⟩ = some (.int .i64 r') := fun W h => h.cell b0
  have k3 : ∀ W, Ext w1.drew W → W.cell? ⟨w.heap.size + 1, 1, none⟩ = some (.int .i64 s') := fun W h => h.cell b1
  repeat (refine rg_pure (x := ?_) rfl (by rfl) (fun W hW => ?_) ?_; rotate_left; (· have f0 := k0 W hW; have f1 := k1 W hW; have f2 := k2 W hW; have f3 := k3 W hW; go_simp; with_reducible rfl); simp only [Nat.reduceAdd, Act.put, List.setIfInBounds_toArray, List.set_cons_zero, List.set_cons_succ])
  refine rg_known rfl (by rfl) (fun W hW hF => ?_) ?_
  · go_simp
    refine (cmp_calls r r' W).mono ?_
    rintro e W' ⟨rfl, rfl⟩
    exact ⟨_, rfl, Ext.refl _, rfl⟩
  simp only [Nat.reduceAdd, Act.put, List.setIfInBounds_toArray, List.set_cons_zero, List.set_cons_succ]
  repeat (refine rg_pure (x := ?_) rfl (by rfl) (fun W hW => ?_) ?_; rotate_left; (· have f0 := k0 W hW; have f1 := k1 W hW; have f2 := k2 W hW; have f3 := k3 W hW; go_simp; with_reducible rfl); simp only [Nat.reduceAdd, Act.put, List.setIfInBounds_toArray, List.set_cons_zero, List.set_cons_succ])
  refine rg_known rfl (by rfl) (fun W hW hF => ?_) ?_
  · go_simp
    refine (cmp_calls s s' W).mono ?_
    rintro e W' ⟨rfl, rfl⟩
    exact ⟨_, rfl, Ext.refl _, rfl⟩
  simp only [Nat.reduceAdd, Act.put, List.setIfInBounds_toArray, List.set_cons_zero, List.set_cons_succ]
  refine rg_unk rfl (by rfl) (fun W hW hF => ?_) ?_
  · go_simp
    exact ⟨Ext.alloc _ _, _, rfl, cell_of_row _ _ 0 _ _ _ (heap_alloc_new W _), cell_of_row _ _ 1 _ _ _ (heap_alloc_new W _)⟩
  simp only [Nat.reduceAdd, Act.put, List.setIfInBounds_toArray, List.set_cons_zero, List.set_cons_succ]
  refine rg_known rfl (by rfl) (fun W hW hF => ?_) ?_
  · obtain ⟨q, hq, c0, c1⟩ := hF 10 _ _ rfl (by kernel_rfl)
    generalize σ 10 = u at *
    subst hq
    go_simp
    refine (or_calls q _ _ W c0 c1).mono ?_
    rintro e W' ⟨rfl, rfl⟩
    exact ⟨_, rfl, Ext.refl _, rfl⟩
  simp only [Nat.reduceAdd, Act.put, List.setIfInBounds_toArray, List.set_cons_zero, List.set_cons_succ]
  repeat (refine rg_pure (x := ?_) rfl (by rfl) (fun W hW => ?_) ?_; rotate_left; (· go_simp; with_reducible rfl); simp only [Nat.reduceAdd, Act.put, List.setIfInBounds_toArray, List.set_cons_zero, List.set_cons_succ])
  refine rg_done fun W hW hF => ?_
  have hE := hx.trans (Ext.of_drew hW)
  clear hF
  go_wp2_with fail
  go_ret
  exact ⟨rfl, hE⟩
end Go.Proofs.Ytkmkfkpblkhpmaa.VCst
