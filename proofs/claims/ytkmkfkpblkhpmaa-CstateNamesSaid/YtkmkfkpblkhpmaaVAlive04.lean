/- The chapter's first examples hold. -/
import Derived.Test.YtkmkfkpblkhpmaaVEnc
import Derived.Test.YtkmkfkpblkhpmaaVSeen
namespace Go.Proofs.Ytkmkfkpblkhpmaa.VCst
open Go.RowKit Go.VBase Go.VOct Go.VRg VOct

set_option maxHeartbeats 1000000 in
theorem at_calls (r s : Int) (w : World) : Calls Try.prog 31 #[.int .i64 r, .int .i64 s] w fun e w' => e = .returned (cst r s 0 0) ∧ Ext w w' := by
  unfold cst
  go_enter Try.func31, Try.ntmps31
  go_wp2_with fail
  refine bodyPost_ret (by rw [results_cell rfl]; go_simp; rfl) rfl ?_
  exact ⟨rfl, Ext.alloc _ _⟩

set_option maxRecDepth 100000 in
set_option maxHeartbeats 1000000 in
theorem alive_calls (w : World) : Calls Try.prog 28 #[] w fun e w' => e = .returned (.bool true) ∧ Ext w w' := by
  have kE := fun w => Encode_calls 258 3 1 257 (by decide) w
  have kS := fun w => Succ_calls 5 3 0 0 4 w
  have kA := fun r s w => at_calls r s w
  rw [show encC 258 3 1 257 = some [0, 0, 1, 2, 3, 1, 1, 1] by decide] at kE
  rw [show succB 5 3 0 0 4 = ((6, 0, 0, 0), 0) by decide] at kS
  have ks := fun (W : World) (v : Value) (l : List UInt8) (h : Bys W v l) => run_string_bys (P := Try.prog) Try.underlying41 Try.underlying5 Try.underlying9 h
  unfold EncPost at kE
  unfold SuccPost at kS
  simp only [Option.isSome_some, if_true, Option.getD_some] at kE
  unfold cst at *
  go_enter Try.func28, Try.ntmps28
  go_wp2_with fail
  refine (kE _).mono ?_
  rintro e w1 ⟨u, rfl, hu, hx1, _⟩
  have hub := hu.bys (by decide)
  obtain ⟨a, cap, hsl⟩ := hu.slice
  rw [show [(0 : UInt8), 0, 1, 2, 3, 1, 1, 1].length = 8 from rfl] at hsl
  subst hsl
  clear kE hu
  go_wp2_with fail
  refine (kA 5 3 _).mono ?_
  rintro e w2 ⟨rfl, hx2⟩
  go_wp2_with fail
  refine (kS _).mono ?_
  rintro e w3 ⟨rfl, hx3⟩
  go_wp2_with fail
  have hxx := ((hx1.trans hx2).trans hx3).thenAlloc (.cells #[.int .i64 6, .int .i64 0, .int .i64 0, .int .u16 0] 25)
  have hub3 := ((hub.ext hx2).ext hx3).alloc (.cells #[.int .i64 6, .int .i64 0, .int .i64 0, .int .u16 0] 25)
  have r0 := heap_alloc_new w3 (.cells #[.int .i64 6, .int .i64 0, .int .i64 0, .int .u16 0] 25)
  generalize w3.alloc (.cells #[.int .i64 6, .int .i64 0, .int .i64 0, .int .u16 0] 25) = w4 at *
  obtain ⟨⟨a0, a1, a2, a3⟩, _⟩ := row4 r0
  refine wp_region_rg Ext [(13, .known (.agg #[.int .i64 6, .int .i64 0, .int .i64 0, .int .u16 0]))] (by kernel_rfl) (by kernel_rfl) (by kernel_rfl) Ext.refl (fun _ _ _ => Ext.trans) ?_
  intro σ
  simp only
  have k0 : ∀ W, Ext w4.drew W → W.cell? ⟨w3.heap.size, 0, none⟩ = some (.int .i64 6) := fun W h => h.cell a0
  have k1 : ∀ W, Ext w4.drew W → W.cell? ⟨w3.heap.size, 1, none⟩ = some (.int .i64 0) := fun W h => h.cell a1
  have k2 : ∀ W, Ext w4.drew W → W.cell? ⟨w3.heap.size, 2, none⟩ = some (.int .i64 0) := fun W h => h.cell a2
  have k3 : ∀ W, Ext w4.drew W → W.cell? ⟨w3.heap.size, 3, none⟩ = some (.int .u16 0) := fun W h => h.cell a3
  have k4 : ∀ W, Ext w4.drew W → (convert 41 9 (.slice a 8 cap)).run Try.prog W = .ok (.string ⟨#[0, 0, 1, 2, 3, 1, 1, 1]⟩) W := fun W h => ks W _ [0, 0, 1, 2, 3, 1, 1, 1] (hub3.ext (Ext.of_drew h))
  repeat (refine rg_pure (x := ?_) rfl (by rfl) (fun W hW => ?_) ?_; rotate_left; (· have f0 := k0 W hW; have f1 := k1 W hW; have f2 := k2 W hW; have f3 := k3 W hW; have f4 := k4 W hW; go_simp; with_reducible rfl); simp only [Nat.reduceAdd, Act.put, List.setIfInBounds_toArray, List.set_cons_zero, List.set_cons_succ])
  refine rg_known rfl (by rfl) (fun W hW hno => ?_) ?_
  · go_simp
    refine (kA 6 0 W).mono ?_
    rintro e W' ⟨rfl, h⟩
    exact ⟨_, rfl, h, rfl⟩
  simp only [Nat.reduceAdd, Act.put, List.setIfInBounds_toArray, List.set_cons_zero, List.set_cons_succ]
  repeat (refine rg_pure (x := ?_) rfl (by rfl) (fun W hW => ?_) ?_; rotate_left; (· have f0 := k0 W hW; have f1 := k1 W hW; have f2 := k2 W hW; have f3 := k3 W hW; have f4 := k4 W hW; go_simp; with_reducible rfl); simp only [Nat.reduceAdd, Act.put, List.setIfInBounds_toArray, List.set_cons_zero, List.set_cons_succ])
  refine rg_done fun W hW hno => ?_
  have hEnd := hxx.trans (Ext.of_drew hW)
  clear hno
  go_wp2_with fail
  go_ret
  exact ⟨rfl, hEnd⟩
end Go.Proofs.Ytkmkfkpblkhpmaa.VCst
