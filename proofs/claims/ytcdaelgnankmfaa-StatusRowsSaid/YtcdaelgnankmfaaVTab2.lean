/- table: Begin, Expected. -/
import Derived.Test.YtcdaelgnankmfaaVTab
import Derived.Great.BuildSlice
namespace Go.Proofs.Ytcdaelgnankmfaa.VPlan
open Go.RowKit Go.VBase Go.VRg Go.VPlan
theorem results_tmp4 {fn : Func} {t u v x : Tmp} (h : fn.results = #[.tmp t, .tmp u, .tmp v, .tmp x]) (tmps : Array Value) (P : Program) (w : World) :
    (results fn tmps).run P w = .ok (.tuple #[tmps.getD t undef, tmps.getD u undef, tmps.getD v undef, tmps.getD x undef]) w := by
  simp [results, h]
theorem storeSpot {ops : Array Oper} {rest : List Oper} {o : Oper} {a : Act} {Q : Exit → Act → World → Prop} {W : World} {x y : Operand} {b : Nat} {T' : TypeId} {p : PlanD} {r s : Int} {old : Array Value}
    (h : W.heap[b]? = some (.cells old T')) (hold : old.size = 18) (hgd : o.guard = none) (ho : o.op = .store 60 x y) (hx : a.eval x = .pointer (some ⟨b, 0, none⟩)) (hy : a.eval y = .agg (spotC p r s))
    (hk : wpList Try.prog ops Q rest (a.put o.dst undef) (W.setRow b (spotC p r s))) : wpList Try.prog ops Q (o :: rest) a W :=
  wpList_store_row hgd _ _ _ ho b _ hx hy T' old h (by kernel_rfl) hold (by unfold spotC; simp [Value.oneCell']) hk
set_option maxRecDepth 100000 in
set_option maxHeartbeats 8000000 in
theorem Begin_calls (p : PlanD) (r s : Int) (w : World) : Calls Try.prog 53 #[planV p, plV r s] w fun e w' => e = .returned (.tuple #[.int .i64 (if hasP p r s then begP p r s else 0), .int .i64 (if hasP p r s then 0 else 90)]) ∧ Ext w w' := by
  have kA := fun W => ansBegin_calls p r s W
  have r0 := (Ext.alloc _ (.cells #[.int .i64 r, .int .i64 s] 37)).block (heap_alloc_new w (.cells (planC p) 35))
  have r1 := heap_alloc_new (w.alloc (.cells (planC p) 35)) (.cells #[.int .i64 r, .int .i64 s] 37)
  rw [World.size_alloc] at r1
  have x0 := (Ext.alloc w (.cells (planC p) 35)).thenAlloc (.cells #[.int .i64 r, .int .i64 s] 37)
  obtain ⟨W0, hW0⟩ : ∃ W0, W0 = (w.alloc (.cells (planC p) 35)).alloc (.cells #[.int .i64 r, .int .i64 s] 37) := ⟨_, rfl⟩
  rw [← hW0] at r0 r1 x0
  have H0 := Lib.hid hW0
  clear hW0
  have e0 : W0.cell? ⟨w.heap.size + 1, 0, none⟩ = some (.int .i64 r) := cell_of_row _ _ 0 _ _ _ r1
  have e1 : W0.cell? ⟨w.heap.size + 1, 1, none⟩ = some (.int .i64 s) := cell_of_row _ _ 1 _ _ _ r1
  have rz := heap_alloc_new W0 (.cells #[.int .i64 0, .int .i64 0, .int .i64 0, .int .i64 0, .int .i64 0, .int .i64 0, .int .i64 0, .int .i64 0, .int .i64 0, .int .i64 0, .int .i64 0, .int .i64 0, .int .i64 0, .int .i64 0, .int .i64 0, .int .i64 0, .int .i64 0, .int .i64 0] 60)
  have rS := setRow_heap (W0.alloc (.cells #[.int .i64 0, .int .i64 0, .int .i64 0, .int .i64 0, .int .i64 0, .int .i64 0, .int .i64 0, .int .i64 0, .int .i64 0, .int .i64 0, .int .i64 0, .int .i64 0, .int .i64 0, .int .i64 0, .int .i64 0, .int .i64 0, .int .i64 0, .int .i64 0] 60)) W0.heap.size _ (spotC p r s) _ _ rz
  have xS : Ext w ((W0.alloc (.cells #[.int .i64 0, .int .i64 0, .int .i64 0, .int .i64 0, .int .i64 0, .int .i64 0, .int .i64 0, .int .i64 0, .int .i64 0, .int .i64 0, .int .i64 0, .int .i64 0, .int .i64 0, .int .i64 0, .int .i64 0, .int .i64 0, .int .i64 0, .int .i64 0] 60)).setRow W0.heap.size (spotC p r s)) := (x0.thenAlloc _).setRow x0.size _
  obtain ⟨VS, hVS⟩ : ∃ V, (W0.alloc (.cells #[.int .i64 0, .int .i64 0, .int .i64 0, .int .i64 0, .int .i64 0, .int .i64 0, .int .i64 0, .int .i64 0, .int .i64 0, .int .i64 0, .int .i64 0, .int .i64 0, .int .i64 0, .int .i64 0, .int .i64 0, .int .i64 0, .int .i64 0, .int .i64 0] 60)).setRow W0.heap.size (spotC p r s) = V := ⟨_, rfl⟩
  rw [hVS] at rS xS
  have HVS := Lib.hid hVS
  clear hVS
  unfold plV planV planC
  go_enter Try.func53, Try.ntmps53
  refine wp_seq_k fun K hK => ?_
  have HK := Lib.hid hK
  clear hK
  go_wp2_with fail
  refine HK.out _ _ ?_
  clear HK
  show Code.wp _ _ _ _ ((w.alloc (.cells (planC p) 35)).alloc (.cells #[.int .i64 r, .int .i64 s] 37))
  rw [← H0.out]
  clear H0
  go_wp2_with (first | (refine loadPlanP r0 rfl rfl rfl ?_) | (refine wpList_buildTo rfl 60 _ rfl _ rfl (spotC p r s) (by kernel_rfl) ?_) | (refine storeSpot rz rfl rfl rfl rfl rfl ?_; rw [HVS.out]) | (refine loadSpotP rS rfl rfl rfl ?_))
  refine (kA _).mono ?_
  rintro e w1 ⟨rfl, h1⟩
  have x1 := xS.trans h1
  clear kA h1 r0 r1 rS x0 xS e0 e1 rz
  go_wp2_with fail
  all_goals
    refine bodyPost_ret (results_tmp2 rfl _ _ _) rfl ?_
    exact ⟨rfl, x1⟩
set_option maxRecDepth 100000 in
set_option maxHeartbeats 8000000 in
theorem Expected_calls (p : PlanD) (r s : Int) (w : World) : Calls Try.prog 12 #[planV p, plV r s] w fun e w' => e = .returned (.tuple #[.int .i64 (if hasP p r s then expP p r s else 0), .int .i64 (if hasP p r s then expP p r s - p.window else 0), .int .i64 (if hasP p r s then expP p r s + p.window else 0), .int .i64 (if hasP p r s then 0 else 90)]) ∧ Ext w w' := by
  have kA := fun W => ansExpected_calls p r s W
  have hb : hasP p r s = true → Has p r s ∧ 0 ≤ expP p r s ∧ expP p r s ≤ 36028797021061120 := fun h => by
    have hh := has_of h
    have h1 := hh.beg
    have h2 := hh.mid
    have h3 := hh.f0
    have h4 := hh.f1
    refine ⟨hh, ?_⟩
    unfold expP senP
    omega
  generalize expP p r s = N at *
  generalize hasP p r s = B at *
  have r0 := (Ext.alloc _ (.cells #[.int .i64 r, .int .i64 s] 37)).block (heap_alloc_new w (.cells (planC p) 35))
  have r1 := heap_alloc_new (w.alloc (.cells (planC p) 35)) (.cells #[.int .i64 r, .int .i64 s] 37)
  rw [World.size_alloc] at r1
  have x0 := (Ext.alloc w (.cells (planC p) 35)).thenAlloc (.cells #[.int .i64 r, .int .i64 s] 37)
  obtain ⟨W0, hW0⟩ : ∃ W0, W0 = (w.alloc (.cells (planC p) 35)).alloc (.cells #[.int .i64 r, .int .i64 s] 37) := ⟨_, rfl⟩
  rw [← hW0] at r0 r1 x0
  have H0 := Lib.hid hW0
  clear hW0
  have e0 : W0.cell? ⟨w.heap.size + 1, 0, none⟩ = some (.int .i64 r) := cell_of_row _ _ 0 _ _ _ r1
  have e1 : W0.cell? ⟨w.heap.size + 1, 1, none⟩ = some (.int .i64 s) := cell_of_row _ _ 1 _ _ _ r1
  have rz := heap_alloc_new W0 (.cells #[.int .i64 0, .int .i64 0, .int .i64 0, .int .i64 0, .int .i64 0, .int .i64 0, .int .i64 0, .int .i64 0, .int .i64 0, .int .i64 0, .int .i64 0, .int .i64 0, .int .i64 0, .int .i64 0, .int .i64 0, .int .i64 0, .int .i64 0, .int .i64 0] 60)
  have rS := setRow_heap (W0.alloc (.cells #[.int .i64 0, .int .i64 0, .int .i64 0, .int .i64 0, .int .i64 0, .int .i64 0, .int .i64 0, .int .i64 0, .int .i64 0, .int .i64 0, .int .i64 0, .int .i64 0, .int .i64 0, .int .i64 0, .int .i64 0, .int .i64 0, .int .i64 0, .int .i64 0] 60)) W0.heap.size _ (spotC p r s) _ _ rz
  have xS : Ext w ((W0.alloc (.cells #[.int .i64 0, .int .i64 0, .int .i64 0, .int .i64 0, .int .i64 0, .int .i64 0, .int .i64 0, .int .i64 0, .int .i64 0, .int .i64 0, .int .i64 0, .int .i64 0, .int .i64 0, .int .i64 0, .int .i64 0, .int .i64 0, .int .i64 0, .int .i64 0] 60)).setRow W0.heap.size (spotC p r s)) := (x0.thenAlloc _).setRow x0.size _
  obtain ⟨VS, hVS⟩ : ∃ V, (W0.alloc (.cells #[.int .i64 0, .int .i64 0, .int .i64 0, .int .i64 0, .int .i64 0, .int .i64 0, .int .i64 0, .int .i64 0, .int .i64 0, .int .i64 0, .int .i64 0, .int .i64 0, .int .i64 0, .int .i64 0, .int .i64 0, .int .i64 0, .int .i64 0, .int .i64 0] 60)).setRow W0.heap.size (spotC p r s) = V := ⟨_, rfl⟩
  rw [hVS] at rS xS
  have HVS := Lib.hid hVS
  clear hVS
  unfold plV planV planC
  go_enter Try.func12, Try.ntmps12
  refine wp_seq_k fun K hK => ?_
  have HK := Lib.hid hK
  clear hK
  go_wp2_with fail
  refine HK.out _ _ ?_
  clear HK
  show Code.wp _ _ _ _ ((w.alloc (.cells (planC p) 35)).alloc (.cells #[.int .i64 r, .int .i64 s] 37))
  rw [← H0.out]
  clear H0
  go_wp2_with (first | (refine loadPlanP r0 rfl rfl rfl ?_) | (refine wpList_buildTo rfl 60 _ rfl _ rfl (spotC p r s) (by kernel_rfl) ?_) | (refine storeSpot rz rfl rfl rfl rfl rfl ?_; rw [HVS.out]) | (refine loadSpotP rS rfl rfl rfl ?_))
  refine (kA _).mono ?_
  rintro e w1 ⟨rfl, h1⟩
  have x1 := xS.trans h1
  have hlt : w.heap.size < W0.heap.size := (Array.getElem?_eq_some_iff.1 r0).1
  have rp : VS.heap[w.heap.size]? = some (.cells (planC p) 35) := by
    rw [← HVS.out, setRow_other _ _ _ _ (by omega)]
    exact (Ext.alloc _ _).block r0
  have r1p := h1.block rp
  clear kA h1 r0 r1 rS x0 xS e0 e1 rz rp hlt
  cases B with
  | false =>
    clear hb
    simp only [Bool.false_eq_true, if_false]
    go_wp2_with fail
    refine bodyPost_ret (results_tmp4 rfl _ _ _) rfl ?_
    exact ⟨rfl, x1⟩
  | true =>
    obtain ⟨hh, n0, n1⟩ := hb rfl
    have n2 := hh.w0
    have n3 := hh.w1
    simp only [if_true]
    have q0 : IntKind.i64.wrap (N - p.window) = N - p.window := by rw [IntKind.wrap_i64]; omega
    have q1 : IntKind.i64.wrap (N + p.window) = N + p.window := by rw [IntKind.wrap_i64]; omega
    clear hb hh n0 n1 n2 n3
    go_wp2_with fail
    have c4 : w1.drew.cell? ⟨w.heap.size, 4, none⟩ = some (.int .i64 p.window) := cell_of_row _ _ 4 _ _ _ r1p
    refine wp_region_rg Eq [] (by kernel_rfl) (by kernel_rfl) (by kernel_rfl) (fun _ => rfl) (fun _ _ _ => Eq.trans) ?_
    intro σ
    simp only
    repeat (first | (refine rg_pure (x := ?_) rfl (by rfl) (fun W hW => ?_) ?_; rotate_left; (· subst hW; go_simp; with_reducible rfl); simp only [Nat.reduceAdd, Act.put, List.setIfInBounds_toArray, List.set_cons_zero, List.set_cons_succ]))
    refine rg_done fun W hW hno => ?_
    subst hW
    have xE := x1.thenDrew
    clear hno c4 r1p
    go_wp2_with fail
    refine bodyPost_ret (results_tmp4 rfl _ _ _) rfl ?_
    exact ⟨rfl, xE⟩
end Go.Proofs.Ytcdaelgnankmfaa.VPlan
