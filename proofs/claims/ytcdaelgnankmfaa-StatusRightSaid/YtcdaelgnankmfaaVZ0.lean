/- Bundled out of VTab VTab2 VWin. -/
import Derived.Test.YtcdaelgnankmfaaVPlanK
import Derived.Deep.MidRow
import Derived.Great.BuildSlice
/- table: a place of a plan, as numbers; has, number, begin, sends, middle, expected. -/
namespace Go.Proofs.Ytcdaelgnankmfaa.VPlan
open Go.RowKit Go.VBase Go.VRg Go.VPlan

def hasP (p : PlanD) (r s : Int) : Bool := planOk p && (decide (0 ≤ r) && (decide (r ≤ 2147483647) && (decide (0 ≤ s) && decide (s < p.nodes))))
def numP (p : PlanD) (r s : Int) : Int := r * p.nodes + s
def begP (p : PlanD) (r s : Int) : Int := numP p r s * p.slot
def senP (p : PlanD) (r s : Int) : Int := begP p r s + p.sendOff
def midP (p : PlanD) : Int := (p.dmin + p.dmax) / 2
def expP (p : PlanD) (r s : Int) : Int := senP p r s + midP p
def plV (r s : Int) : Value := .agg #[.int .i64 r, .int .i64 s]
def spotC (p : PlanD) (r s : Int) : Array Value := #[.int .i64 p.nodes, .int .i64 p.k, .int .i64 p.slot, .int .i64 p.sendOff, .int .i64 p.window, .int .i64 p.air, .int .i64 p.dmin, .int .i64 p.dmax, .int .i64 p.rho, .int .i64 p.pi, .int .i64 p.cap, .int .i64 p.delta, .int .i64 p.queue, .int .i64 p.burst, .int .i64 p.payload, .int .i64 p.horizon, .int .i64 r, .int .i64 s]
def spotV (p : PlanD) (r s : Int) : Value := .agg (spotC p r s)
/-- What a place's being there says, in numbers. -/
structure Has (p : PlanD) (r s : Int) : Prop where
  kn : Known p
  r0 : 0 ≤ r
  r1 : r ≤ 2147483647
  s0 : 0 ≤ s
  s1 : s < p.nodes
  f0 : 0 ≤ p.sendOff
  f1 : p.sendOff ≤ 1048576
  w0 : 0 ≤ p.window
  w1 : p.window ≤ 1048576
theorem has_of {p : PlanD} {r s : Int} (h : hasP p r s = true) : Has p r s := by
  unfold hasP at h
  simp only [Bool.and_eq_true, decide_eq_true_eq] at h
  obtain ⟨hp, h0, h1, h2, h3⟩ := h
  obtain ⟨c1, c2, c3, c4, c5, c6, c7, _⟩ := planOk_all hp
  have hk : Known p := known_iff.1 (by unfold known; rw [c1, c2, c3]; rfl)
  unfold VPlan.c4 at c4
  unfold VPlan.c5 at c5
  unfold VPlan.c6 at c6
  unfold VPlan.c7 at c7
  rw [inP_iff] at c4 c5 c6 c7
  unfold lPi at c4
  unfold lWin at c5
  unfold lCap at c6
  unfold lOff at c7
  have e1 := hk.eb
  have e2 := hk.gb
  have e3 := hk.ab
  exact ⟨hk, h0, h1, h2, h3, by omega, by omega, by omega, by omega⟩
theorem Has.num {p : PlanD} {r s : Int} (h : Has p r s) : 0 ≤ r * p.nodes ∧ r * p.nodes ≤ 34359738352 ∧ 0 ≤ numP p r s ∧ numP p r s ≤ 34359738368 := by
  have a := h.kn.n0; have b := h.kn.n1; have c := h.r0; have d := h.r1; have e := h.s0; have f := h.s1
  have h0 : 0 ≤ r * p.nodes := Int.mul_nonneg c (by omega)
  have h1 : r * p.nodes ≤ 2147483647 * 16 := Int.mul_le_mul d b (by omega) (by omega)
  unfold numP
  omega
theorem Has.beg {p : PlanD} {r s : Int} (h : Has p r s) : 0 ≤ begP p r s ∧ begP p r s ≤ 36028797018963968 := by
  obtain ⟨-, -, a, b⟩ := h.num
  have c := h.kn.s0; have d := h.kn.s1
  have h0 : 0 ≤ numP p r s * p.slot := Int.mul_nonneg a (by omega)
  have h1 : numP p r s * p.slot ≤ 34359738368 * 1048576 := Int.mul_le_mul b d (by omega) (by omega)
  unfold begP
  omega
theorem Has.mid {p : PlanD} {r s : Int} (h : Has p r s) : 0 ≤ p.dmin + p.dmax ∧ p.dmin + p.dmax ≤ 2097152 ∧ 0 ≤ midP p ∧ midP p ≤ 1048576 := by
  have a := h.kn.d0; have b := h.kn.d1; have c := h.kn.d2
  unfold midP
  omega
theorem loadSpotE {W : World} {b : Nat} {T : TypeId} {mk : Nat × Nat} {p : PlanD} {r s : Int} (h : W.heap[b]? = some (.cells (spotC p r s) T mk)) : (Instr.loadAt 60 (.pointer (some ⟨b, 0, none⟩))).run Try.prog W = .ok (spotV p r s) W := by
  simp only [Instr.loadAt, Instr.sureAddr, Sem.run_bind, Sem.run_pure, Result.andThen_ok, run_loadVar_row W b T 60 (spotC p r s) mk _ h Try.underlying60 rfl (by kernel_rfl)]
  rfl
theorem spot_plan {W : World} {b : Nat} {T : TypeId} {mk : Nat × Nat} {p : PlanD} {r s : Int} (h : W.heap[b]? = some (.cells (spotC p r s) T mk)) : W.rangeAt b 0 (planC p).toList := fun j v hv => by
  rw [Nat.zero_add, cell_of_row W b j _ _ _ h]
  have hj : j < 16 := (List.getElem?_eq_some_iff.1 hv).1
  match j, hj, hv with
  | 0, _, hv => exact hv
  | 1, _, hv => exact hv
  | 2, _, hv => exact hv
  | 3, _, hv => exact hv
  | 4, _, hv => exact hv
  | 5, _, hv => exact hv
  | 6, _, hv => exact hv
  | 7, _, hv => exact hv
  | 8, _, hv => exact hv
  | 9, _, hv => exact hv
  | 10, _, hv => exact hv
  | 11, _, hv => exact hv
  | 12, _, hv => exact hv
  | 13, _, hv => exact hv
  | 14, _, hv => exact hv
  | 15, _, hv => exact hv
theorem loadSpotPlanE {W : World} {b : Nat} {T : TypeId} {mk : Nat × Nat} {p : PlanD} {r s : Int} (h : W.heap[b]? = some (.cells (spotC p r s) T mk)) : (Instr.loadAt 35 (.pointer (some ⟨b, 0, none⟩))).run Try.prog W = .ok (planV p) W :=
  run_loadAt_mid W b 0 35 (planC p).toList _ (spot_plan h) Try.underlying35 rfl (by kernel_rfl)
set_option maxRecDepth 100000 in
set_option maxHeartbeats 4000000 in
theorem spNumber_calls (p : PlanD) (r s : Int) (hh : Has p r s) (w : World) : Calls Try.prog 94 #[spotV p r s] w fun e w' => e = .returned (.int .i64 (numP p r s)) ∧ Ext w w' := by
  have x0 := Ext.alloc w (.cells (spotC p r s) 60)
  have r0 := heap_alloc_new w (.cells (spotC p r s) 60)
  obtain ⟨n0, n1, n2, n3⟩ := hh.num
  unfold numP at *
  have q0 : IntKind.i64.wrap (r * p.nodes) = r * p.nodes := by rw [IntKind.wrap_i64]; omega
  have q1 : IntKind.i64.wrap (r * p.nodes + s) = r * p.nodes + s := by rw [IntKind.wrap_i64]; omega
  have c0 : (w.alloc (.cells (spotC p r s) 60)).cell? ⟨w.heap.size, 0, none⟩ = some (.int .i64 p.nodes) := cell_of_row _ _ 0 _ _ _ r0
  have c16 : (w.alloc (.cells (spotC p r s) 60)).cell? ⟨w.heap.size, 16, none⟩ = some (.int .i64 r) := cell_of_row _ _ 16 _ _ _ r0
  have c17 : (w.alloc (.cells (spotC p r s) 60)).cell? ⟨w.heap.size, 17, none⟩ = some (.int .i64 s) := cell_of_row _ _ 17 _ _ _ r0
  clear n0 n1 n2 n3 hh
  unfold spotV spotC at *
  go_enter Try.func94, Try.ntmps94
  go_wp2_with fail
  go_ret
  exact ⟨rfl, x0⟩

set_option maxRecDepth 100000 in
set_option maxHeartbeats 4000000 in
theorem spBegin_calls (p : PlanD) (r s : Int) (hh : Has p r s) (w : World) : Calls Try.prog 66 #[spotV p r s] w fun e w' => e = .returned (.int .i64 (begP p r s)) ∧ Ext w w' := by
  have x0 := Ext.alloc w (.cells (spotC p r s) 60)
  have r0 := heap_alloc_new w (.cells (spotC p r s) 60)
  obtain ⟨n0, n1⟩ := hh.beg
  unfold begP at *
  have q0 : IntKind.i64.wrap (numP p r s * p.slot) = numP p r s * p.slot := by rw [IntKind.wrap_i64]; omega
  have kN := fun W => spNumber_calls p r s hh W
  generalize numP p r s = N at *
  have rW : ∀ W, Ext (w.alloc (.cells (spotC p r s) 60)).drew W → W.heap[w.heap.size]? = some (.cells (spotC p r s) 60) := fun W h => (Ext.of_drew h).block r0
  have HR := Lib.hid rW
  have k0 : ∀ W, Ext (w.alloc (.cells (spotC p r s) 60)).drew W → W.cell? ⟨w.heap.size, 2, none⟩ = some (.int .i64 p.slot) := fun W h => cell_of_row _ _ 2 _ _ _ (HR.out W h)
  have HX := Lib.hid x0
  clear rW r0 x0 hh
  obtain ⟨W0, hW0⟩ : ∃ W0, W0 = w.alloc (.cells (spotC p r s) 60) := ⟨_, rfl⟩
  rw [← hW0] at HR k0 HX
  have H0 := Lib.hid hW0
  clear hW0
  go_enter Try.func66, Try.ntmps66
  refine wp_seq_k fun K hK => ?_
  have HK := Lib.hid hK
  clear hK
  unfold spotV spotC
  go_wp2_with fail
  refine HK.out _ _ ?_
  clear HK
  show Code.wp _ _ _ _ (w.alloc (.cells (spotC p r s) 60))
  rw [← H0.out]
  clear H0
  go_wp2_with fail
  refine wp_region_rg Ext [(1, .known (.int .i64 N))] (by kernel_rfl) (by kernel_rfl) (by kernel_rfl) Ext.refl (fun _ _ _ => Ext.trans) ?_
  intro σ
  simp only
  refine rg_pure (x := spotV p r s) rfl (by rfl) (fun W hW => exec_load (b := .pointer (some ⟨w.heap.size, 0, none⟩)) rfl rfl (loadSpotE (HR.out W hW))) ?_
  simp only [Nat.reduceAdd, Act.put, List.setIfInBounds_toArray, List.set_cons_zero, List.set_cons_succ]
  refine rg_known rfl (by rfl) (fun W hW hF => ?_) ?_
  · go_simp
    refine (kN W).mono ?_
    rintro e W' ⟨rfl, h⟩
    exact ⟨_, rfl, h, rfl⟩
  simp only [Nat.reduceAdd, Act.put, List.setIfInBounds_toArray, List.set_cons_zero, List.set_cons_succ]
  repeat (first | (refine rg_pure (x := ?_) rfl (by rfl) (fun W hW => ?_) ?_; rotate_left; (· have f0 := k0 W hW; go_simp; with_reducible rfl); simp only [Nat.reduceAdd, Act.put, List.setIfInBounds_toArray, List.set_cons_zero, List.set_cons_succ]))
  refine rg_done fun W hW hF => ?_
  have xE := HX.out.trans (Ext.of_drew hW)
  clear hF hW k0 kN
  go_wp2_with fail
  go_ret
  exact ⟨rfl, xE⟩

set_option maxRecDepth 100000 in
set_option maxHeartbeats 4000000 in
theorem spSends_calls (p : PlanD) (r s : Int) (hh : Has p r s) (w : World) : Calls Try.prog 42 #[spotV p r s] w fun e w' => e = .returned (.int .i64 (senP p r s)) ∧ Ext w w' := by
  have x0 := Ext.alloc w (.cells (spotC p r s) 60)
  have r0 := heap_alloc_new w (.cells (spotC p r s) 60)
  obtain ⟨n0, n1⟩ := hh.beg
  have n2 := hh.f0
  have n3 := hh.f1
  unfold senP at *
  have q0 : IntKind.i64.wrap (begP p r s + p.sendOff) = begP p r s + p.sendOff := by rw [IntKind.wrap_i64]; omega
  have kN := fun W => spBegin_calls p r s hh W
  generalize begP p r s = N at *
  have rW : ∀ W, Ext (w.alloc (.cells (spotC p r s) 60)).drew W → W.heap[w.heap.size]? = some (.cells (spotC p r s) 60) := fun W h => (Ext.of_drew h).block r0
  have HR := Lib.hid rW
  have k0 : ∀ W, Ext (w.alloc (.cells (spotC p r s) 60)).drew W → W.cell? ⟨w.heap.size, 3, none⟩ = some (.int .i64 p.sendOff) := fun W h => cell_of_row _ _ 3 _ _ _ (HR.out W h)
  have HX := Lib.hid x0
  clear rW r0 x0 hh
  obtain ⟨W0, hW0⟩ : ∃ W0, W0 = w.alloc (.cells (spotC p r s) 60) := ⟨_, rfl⟩
  rw [← hW0] at HR k0 HX
  have H0 := Lib.hid hW0
  clear hW0
  go_enter Try.func42, Try.ntmps42
  refine wp_seq_k fun K hK => ?_
  have HK := Lib.hid hK
  clear hK
  unfold spotV spotC
  go_wp2_with fail
  refine HK.out _ _ ?_
  clear HK
  show Code.wp _ _ _ _ (w.alloc (.cells (spotC p r s) 60))
  rw [← H0.out]
  clear H0
  go_wp2_with fail
  refine wp_region_rg Ext [(1, .known (.int .i64 N))] (by kernel_rfl) (by kernel_rfl) (by kernel_rfl) Ext.refl (fun _ _ _ => Ext.trans) ?_
  intro σ
  simp only
  refine rg_pure (x := spotV p r s) rfl (by rfl) (fun W hW => exec_load (b := .pointer (some ⟨w.heap.size, 0, none⟩)) rfl rfl (loadSpotE (HR.out W hW))) ?_
  simp only [Nat.reduceAdd, Act.put, List.setIfInBounds_toArray, List.set_cons_zero, List.set_cons_succ]
  refine rg_known rfl (by rfl) (fun W hW hF => ?_) ?_
  · go_simp
    refine (kN W).mono ?_
    rintro e W' ⟨rfl, h⟩
    exact ⟨_, rfl, h, rfl⟩
  simp only [Nat.reduceAdd, Act.put, List.setIfInBounds_toArray, List.set_cons_zero, List.set_cons_succ]
  repeat (first | (refine rg_pure (x := ?_) rfl (by rfl) (fun W hW => ?_) ?_; rotate_left; (· have f0 := k0 W hW; go_simp; with_reducible rfl); simp only [Nat.reduceAdd, Act.put, List.setIfInBounds_toArray, List.set_cons_zero, List.set_cons_succ]))
  refine rg_done fun W hW hF => ?_
  have xE := HX.out.trans (Ext.of_drew hW)
  clear hF hW k0 kN
  go_wp2_with fail
  go_ret
  exact ⟨rfl, xE⟩

set_option maxRecDepth 100000 in
set_option maxHeartbeats 4000000 in
theorem middle_calls (p : PlanD) (r s : Int) (hh : Has p r s) (w : World) : Calls Try.prog 43 #[planV p] w fun e w' => e = .returned (.int .i64 (midP p)) ∧ Ext w w' := by
  have x0 := Ext.alloc w (.cells (planC p) 35)
  have r0 := heap_alloc_new w (.cells (planC p) 35)
  obtain ⟨n0, n1, n2, n3⟩ := hh.mid
  unfold midP at *
  have q0 : IntKind.i64.wrap (p.dmin + p.dmax) = p.dmin + p.dmax := by rw [IntKind.wrap_i64]; omega
  have q1 : (p.dmin + p.dmax).tdiv 2 = (p.dmin + p.dmax) / 2 := Int.tdiv_eq_ediv_of_nonneg n0
  have q2 : IntKind.i64.wrap ((p.dmin + p.dmax) / 2) = (p.dmin + p.dmax) / 2 := by rw [IntKind.wrap_i64]; omega
  have c6 : (w.alloc (.cells (planC p) 35)).cell? ⟨w.heap.size, 6, none⟩ = some (.int .i64 p.dmin) := cell_of_row _ _ 6 _ _ _ r0
  have c7 : (w.alloc (.cells (planC p) 35)).cell? ⟨w.heap.size, 7, none⟩ = some (.int .i64 p.dmax) := cell_of_row _ _ 7 _ _ _ r0
  clear n2 n3 hh
  unfold planV planC at *
  go_enter Try.func43, Try.ntmps43
  go_wp2_with fail
  go_ret
  exact ⟨rfl, x0⟩
set_option maxRecDepth 100000 in
set_option maxHeartbeats 4000000 in
theorem spExpected_calls (p : PlanD) (r s : Int) (hh : Has p r s) (w : World) : Calls Try.prog 29 #[spotV p r s] w fun e w' => e = .returned (.int .i64 (expP p r s)) ∧ Ext w w' := by
  have x0 := Ext.alloc w (.cells (spotC p r s) 60)
  have r0 := heap_alloc_new w (.cells (spotC p r s) 60)
  obtain ⟨n0, n1⟩ := hh.beg
  have n2 := hh.f0
  have n3 := hh.f1
  obtain ⟨-, -, n4, n5⟩ := hh.mid
  have hs : 0 ≤ senP p r s ∧ senP p r s ≤ 36028797020012544 := by unfold senP; omega
  have kN := fun W => spSends_calls p r s hh W
  have kM := fun W => middle_calls p r s hh W
  unfold expP
  generalize senP p r s = N at *
  generalize midP p = M at *
  have q0 : IntKind.i64.wrap (N + M) = N + M := by rw [IntKind.wrap_i64]; omega
  have rW : ∀ W, Ext (w.alloc (.cells (spotC p r s) 60)).drew W → W.heap[w.heap.size]? = some (.cells (spotC p r s) 60) := fun W h => (Ext.of_drew h).block r0
  have HR := Lib.hid rW
  have HX := Lib.hid x0
  clear rW r0 x0 hh n0 n1 n2 n3 n4 n5 hs
  obtain ⟨W0, hW0⟩ : ∃ W0, W0 = w.alloc (.cells (spotC p r s) 60) := ⟨_, rfl⟩
  rw [← hW0] at HR HX
  have H0 := Lib.hid hW0
  clear hW0
  go_enter Try.func29, Try.ntmps29
  refine wp_seq_k fun K hK => ?_
  have HK := Lib.hid hK
  clear hK
  unfold spotV spotC
  go_wp2_with fail
  refine HK.out _ _ ?_
  clear HK
  show Code.wp _ _ _ _ (w.alloc (.cells (spotC p r s) 60))
  rw [← H0.out]
  clear H0
  go_wp2_with fail
  refine wp_region_rg Ext [(1, .known (.int .i64 N)), (4, .known (.int .i64 M))] (by kernel_rfl) (by kernel_rfl) (by kernel_rfl) Ext.refl (fun _ _ _ => Ext.trans) ?_
  intro σ
  simp only
  refine rg_pure (x := spotV p r s) rfl (by rfl) (fun W hW => exec_load (b := .pointer (some ⟨w.heap.size, 0, none⟩)) rfl rfl (loadSpotE (HR.out W hW))) ?_
  simp only [Nat.reduceAdd, Act.put, List.setIfInBounds_toArray, List.set_cons_zero, List.set_cons_succ]
  refine rg_known rfl (by rfl) (fun W hW hF => ?_) ?_
  · go_simp
    refine (kN W).mono ?_
    rintro e W' ⟨rfl, h⟩
    exact ⟨_, rfl, h, rfl⟩
  simp only [Nat.reduceAdd, Act.put, List.setIfInBounds_toArray, List.set_cons_zero, List.set_cons_succ]
  refine rg_pure (x := ?_) rfl (by rfl) (fun W hW => ?_) ?_; rotate_left
  · go_simp; with_reducible rfl
  simp only [Nat.reduceAdd, Act.put, List.setIfInBounds_toArray, List.set_cons_zero, List.set_cons_succ]
  refine rg_pure (x := planV p) rfl (by rfl) (fun W hW => exec_load (b := .pointer (some ⟨w.heap.size, 0, none⟩)) rfl rfl (loadSpotPlanE (HR.out W hW))) ?_
  simp only [Nat.reduceAdd, Act.put, List.setIfInBounds_toArray, List.set_cons_zero, List.set_cons_succ]
  refine rg_known rfl (by rfl) (fun W hW hF => ?_) ?_
  · go_simp
    refine (kM W).mono ?_
    rintro e W' ⟨rfl, h⟩
    exact ⟨_, rfl, h, rfl⟩
  simp only [Nat.reduceAdd, Act.put, List.setIfInBounds_toArray, List.set_cons_zero, List.set_cons_succ]
  repeat (first | (refine rg_pure (x := ?_) rfl (by rfl) (fun W hW => ?_) ?_; rotate_left; (· go_simp; with_reducible rfl); simp only [Nat.reduceAdd, Act.put, List.setIfInBounds_toArray, List.set_cons_zero, List.set_cons_succ]))
  refine rg_done fun W hW hF => ?_
  have xE := HX.out.trans (Ext.of_drew hW)
  clear hF hW kN kM
  go_wp2_with fail
  go_ret
  exact ⟨rfl, xE⟩
set_option maxRecDepth 100000 in
set_option maxHeartbeats 8000000 in
theorem has_calls (p : PlanD) (r s : Int) (w : World) : Calls Try.prog 30 #[planV p, plV r s] w fun e w' => e = .returned (.bool (hasP p r s)) ∧ Ext w w' := by
  have kc := fun W => Check_calls p W
  have r0 := (Ext.alloc _ (.cells #[.int .i64 r, .int .i64 s] 37)).block (heap_alloc_new w (.cells (planC p) 35))
  have r1 := heap_alloc_new (w.alloc (.cells (planC p) 35)) (.cells #[.int .i64 r, .int .i64 s] 37)
  rw [World.size_alloc] at r1
  have x0 := (Ext.alloc w (.cells (planC p) 35)).thenAlloc (.cells #[.int .i64 r, .int .i64 s] 37)
  obtain ⟨W0, hW0⟩ : ∃ W0, W0 = (w.alloc (.cells (planC p) 35)).alloc (.cells #[.int .i64 r, .int .i64 s] 37) := ⟨_, rfl⟩
  rw [← hW0] at r0 r1 x0
  have H0 := Lib.hid hW0
  clear hW0
  obtain ⟨X, hX⟩ : ∃ X, hasP p r s = X := ⟨_, rfl⟩
  rw [hX]
  unfold hasP at hX
  have HX := Lib.hid hX
  clear hX
  obtain ⟨o, ho⟩ : ∃ o, planOk p = o := ⟨_, rfl⟩
  rw [ho] at kc HX
  clear ho
  unfold plV planV planC
  go_enter Try.func30, Try.ntmps30
  refine wp_seq_k fun K hK => ?_
  have HK := Lib.hid hK
  clear hK
  go_wp2_with fail
  refine HK.out _ _ ?_
  clear HK
  show Code.wp _ _ _ _ ((w.alloc (.cells (planC p) 35)).alloc (.cells #[.int .i64 r, .int .i64 s] 37))
  rw [← H0.out]
  clear H0
  go_wp2_with (refine loadPlanP r0 rfl rfl rfl ?_)
  refine (kc _).mono ?_
  rintro e w1 ⟨rfl, h1⟩
  have r01 := h1.block r0
  have r11 := h1.block r1
  have x1 := x0.trans h1
  have c0 : w1.cell? ⟨w.heap.size, 0, none⟩ = some (.int .i64 p.nodes) := cell_of_row _ _ 0 _ _ _ r01
  have d0 : w1.cell? ⟨w.heap.size + 1, 0, none⟩ = some (.int .i64 r) := cell_of_row _ _ 0 _ _ _ r11
  have d1 : w1.cell? ⟨w.heap.size + 1, 1, none⟩ = some (.int .i64 s) := cell_of_row _ _ 1 _ _ _ r11
  clear r0 r1 x0 h1 kc r01 r11
  cases o with
  | false =>
    rw [show (if false = true then (0 : Int) else 70) = 70 from rfl]
    have hx : X = false := HX.out.symm
    subst hx
    go_wp2_with fail
    go_ret
    exact ⟨rfl, x1⟩
  | true =>
    rw [show (if true = true then (0 : Int) else 70) = 0 from rfl]
    by_cases h0 : 0 ≤ r
    rotate_left
    · have e0 : decide (0 ≤ r) = false := decide_eq_false h0
      have hx : X = false := by rw [← HX.out, e0]; rfl
      subst hx
      go_wp2_with fail
      go_ret
      exact ⟨rfl, x1⟩
    have e0 : decide (0 ≤ r) = true := decide_eq_true h0
    by_cases h1 : r ≤ 2147483647
    rotate_left
    · have e1 : decide (r ≤ 2147483647) = false := decide_eq_false h1
      have hx : X = false := by rw [← HX.out, e0, e1]; rfl
      subst hx
      go_wp2_with fail
      go_ret
      exact ⟨rfl, x1⟩
    have e1 : decide (r ≤ 2147483647) = true := decide_eq_true h1
    by_cases h2 : 0 ≤ s
    rotate_left
    · have e2 : decide (0 ≤ s) = false := decide_eq_false h2
      have hx : X = false := by rw [← HX.out, e0, e1, e2]; rfl
      subst hx
      go_wp2_with fail
      go_ret
      exact ⟨rfl, x1⟩
    have e2 : decide (0 ≤ s) = true := decide_eq_true h2
    have hx : X = decide (s < p.nodes) := by rw [← HX.out, e0, e1, e2]; rfl
    subst hx
    go_wp2_with fail
    go_ret
    exact ⟨rfl, x1⟩
theorem loadSpotP {ops : Array Oper} {rest : List Oper} {o : Oper} {a : Act} {Q : Exit → Act → World → Prop} {W : World} {t : Tmp} {b : Nat} {T' : TypeId} {mk : Nat × Nat} {p : PlanD} {r s : Int}
    (h : W.heap[b]? = some (.cells (spotC p r s) T' mk)) (hgd : o.guard = none) (ho : o.op = .load 60 (.tmp t)) (hx : a.eval (.tmp t) = .pointer (some ⟨b, 0, none⟩))
    (hk : wpList Try.prog ops Q rest (a.put o.dst (spotV p r s)) W) : wpList Try.prog ops Q (o :: rest) a W := wpList_load_row hgd _ _ ho _ hx _ _ _ _ h Try.underlying60 rfl (by kernel_rfl) hk
theorem loadSpotPlanP {ops : Array Oper} {rest : List Oper} {o : Oper} {a : Act} {Q : Exit → Act → World → Prop} {W : World} {t : Tmp} {b : Nat} {T' : TypeId} {mk : Nat × Nat} {p : PlanD} {r s : Int}
    (h : W.heap[b]? = some (.cells (spotC p r s) T' mk)) (hgd : o.guard = none) (ho : o.op = .load 35 (.tmp t)) (hx : a.eval (.tmp t) = .pointer (some ⟨b, 0, none⟩))
    (hk : wpList Try.prog ops Q rest (a.put o.dst (planV p)) W) : wpList Try.prog ops Q (o :: rest) a W := wpList_load_mid hgd _ _ ho b 0 hx (planC p).toList _ (spot_plan h) Try.underlying35 rfl (by kernel_rfl) hk
set_option maxRecDepth 100000 in
set_option maxHeartbeats 8000000 in
theorem ansBegin_calls (p : PlanD) (r s : Int) (w : World) : Calls Try.prog 28 #[spotV p r s, .agg #[.func (.func 66) #[spotV p r s] #[]]] w fun e w' =>
    e = .returned (.tuple #[.int .i64 (if hasP p r s then begP p r s else 0), .int .i64 (if hasP p r s then 0 else 90)]) ∧ Ext w w' := by
  have kH := fun W => has_calls p r s W
  have kF := fun (hh : hasP p r s = true) W => spBegin_calls p r s (has_of hh) W
  have x0 := (Ext.alloc w (.cells (spotC p r s) 60)).thenAlloc (.cells #[.func (.func 66) #[spotV p r s] #[]] 65)
  have r0 := (Ext.alloc _ (.cells #[.func (.func 66) #[spotV p r s] #[]] 65)).block (heap_alloc_new w (.cells (spotC p r s) 60))
  have r1 := heap_alloc_new (w.alloc (.cells (spotC p r s) 60)) (.cells #[.func (.func 66) #[spotV p r s] #[]] 65)
  rw [World.size_alloc] at r1
  obtain ⟨W0, hW0⟩ : ∃ W0, W0 = (w.alloc (.cells (spotC p r s) 60)).alloc (.cells #[.func (.func 66) #[spotV p r s] #[]] 65) := ⟨_, rfl⟩
  rw [← hW0] at r0 r1 x0
  have H0 := Lib.hid hW0
  clear hW0
  have c16 : W0.cell? ⟨w.heap.size, 16, none⟩ = some (.int .i64 r) := cell_of_row _ _ 16 _ _ _ r0
  have c17 : W0.cell? ⟨w.heap.size, 17, none⟩ = some (.int .i64 s) := cell_of_row _ _ 17 _ _ _ r0
  unfold plV at kH
  generalize begP p r s = N at *
  generalize hasP p r s = B at *
  go_enter Try.func28, Try.ntmps28
  refine wp_seq_k fun K hK => ?_
  have HK := Lib.hid hK
  clear hK
  unfold spotV spotC
  go_wp2_with fail
  refine HK.out _ _ ?_
  clear HK
  show Code.wp _ _ _ _ ((w.alloc (.cells (spotC p r s) 60)).alloc (.cells #[.func (.func 66) #[spotV p r s] #[]] 65))
  rw [← H0.out]
  clear H0
  go_wp2_with (refine loadSpotPlanP r0 rfl rfl rfl ?_)
  refine (kH _).mono ?_
  rintro e w1 ⟨rfl, h1⟩
  have r11 := h1.block r1
  have x1 := x0.trans h1
  have d0 : w1.cell? ⟨w.heap.size + 1, 0, none⟩ = some (.func (.func 66) #[spotV p r s] #[]) := cell_of_row _ _ 0 _ _ _ r11
  clear r0 r1 x0 h1 kH r11 c16 c17
  cases B with
  | false =>
    clear kF
    go_wp2_with fail
    refine bodyPost_ret (results_tmp2 rfl _ _ _) rfl ?_
    exact ⟨rfl, x1⟩
  | true =>
    have kG := kF rfl
    clear kF
    go_wp2_with fail
    refine (kG _).mono ?_
    rintro e w2 ⟨rfl, h2⟩
    have x2 := x1.trans h2
    clear kG h2
    go_wp2_with fail
    refine bodyPost_ret (results_tmp2 rfl _ _ _) rfl ?_
    exact ⟨rfl, x2⟩
set_option maxRecDepth 100000 in
set_option maxHeartbeats 8000000 in
theorem ansExpected_calls (p : PlanD) (r s : Int) (w : World) : Calls Try.prog 28 #[spotV p r s, .agg #[.func (.func 29) #[spotV p r s] #[]]] w fun e w' =>
    e = .returned (.tuple #[.int .i64 (if hasP p r s then expP p r s else 0), .int .i64 (if hasP p r s then 0 else 90)]) ∧ Ext w w' := by
  have kH := fun W => has_calls p r s W
  have kF := fun (hh : hasP p r s = true) W => spExpected_calls p r s (has_of hh) W
  have x0 := (Ext.alloc w (.cells (spotC p r s) 60)).thenAlloc (.cells #[.func (.func 29) #[spotV p r s] #[]] 65)
  have r0 := (Ext.alloc _ (.cells #[.func (.func 29) #[spotV p r s] #[]] 65)).block (heap_alloc_new w (.cells (spotC p r s) 60))
  have r1 := heap_alloc_new (w.alloc (.cells (spotC p r s) 60)) (.cells #[.func (.func 29) #[spotV p r s] #[]] 65)
  rw [World.size_alloc] at r1
  obtain ⟨W0, hW0⟩ : ∃ W0, W0 = (w.alloc (.cells (spotC p r s) 60)).alloc (.cells #[.func (.func 29) #[spotV p r s] #[]] 65) := ⟨_, rfl⟩
  rw [← hW0] at r0 r1 x0
  have H0 := Lib.hid hW0
  clear hW0
  have c16 : W0.cell? ⟨w.heap.size, 16, none⟩ = some (.int .i64 r) := cell_of_row _ _ 16 _ _ _ r0
  have c17 : W0.cell? ⟨w.heap.size, 17, none⟩ = some (.int .i64 s) := cell_of_row _ _ 17 _ _ _ r0
  unfold plV at kH
  generalize expP p r s = N at *
  generalize hasP p r s = B at *
  go_enter Try.func28, Try.ntmps28
  refine wp_seq_k fun K hK => ?_
  have HK := Lib.hid hK
  clear hK
  unfold spotV spotC
  go_wp2_with fail
  refine HK.out _ _ ?_
  clear HK
  show Code.wp _ _ _ _ ((w.alloc (.cells (spotC p r s) 60)).alloc (.cells #[.func (.func 29) #[spotV p r s] #[]] 65))
  rw [← H0.out]
  clear H0
  go_wp2_with (refine loadSpotPlanP r0 rfl rfl rfl ?_)
  refine (kH _).mono ?_
  rintro e w1 ⟨rfl, h1⟩
  have r11 := h1.block r1
  have x1 := x0.trans h1
  have d0 : w1.cell? ⟨w.heap.size + 1, 0, none⟩ = some (.func (.func 29) #[spotV p r s] #[]) := cell_of_row _ _ 0 _ _ _ r11
  clear r0 r1 x0 h1 kH r11 c16 c17
  cases B with
  | false =>
    clear kF
    go_wp2_with fail
    refine bodyPost_ret (results_tmp2 rfl _ _ _) rfl ?_
    exact ⟨rfl, x1⟩
  | true =>
    have kG := kF rfl
    clear kF
    go_wp2_with fail
    refine (kG _).mono ?_
    rintro e w2 ⟨rfl, h2⟩
    have x2 := x1.trans h2
    clear kG h2
    go_wp2_with fail
    refine bodyPost_ret (results_tmp2 rfl _ _ _) rfl ?_
    exact ⟨rfl, x2⟩

def fullP (p : PlanD) (r s : Int) : Bool := hasP p r s && ((r + s) % 2 == 0)
set_option maxRecDepth 100000 in
set_option maxHeartbeats 8000000 in
theorem Full_calls (p : PlanD) (r s : Int) (w : World) : Calls Try.prog 13 #[planV p, plV r s] w fun e w' => e = .returned (.bool (fullP p r s)) ∧ Ext w w' := by
  have kH := fun W => has_calls p r s W
  have r0 := (Ext.alloc _ (.cells #[.int .i64 r, .int .i64 s] 37)).block (heap_alloc_new w (.cells (planC p) 35))
  have r1 := heap_alloc_new (w.alloc (.cells (planC p) 35)) (.cells #[.int .i64 r, .int .i64 s] 37)
  rw [World.size_alloc] at r1
  have x0 := (Ext.alloc w (.cells (planC p) 35)).thenAlloc (.cells #[.int .i64 r, .int .i64 s] 37)
  obtain ⟨W0, hW0⟩ : ∃ W0, W0 = (w.alloc (.cells (planC p) 35)).alloc (.cells #[.int .i64 r, .int .i64 s] 37) := ⟨_, rfl⟩
  rw [← hW0] at r0 r1 x0
  have H0 := Lib.hid hW0
  clear hW0
  have e0 : W0.cell? ⟨w.heap.size + 1, 0, none⟩ = some (.int .i64 r) := cell_of_row _ _ 0 _ _ _ r1
  have e1 : W0.cell? ⟨w.heap.size + 1, 1, none⟩ = some (.int .i64 s) := cell_of_row _ _ 1 _ _ _ r1
  unfold fullP
  have hb : hasP p r s = true → Has p r s := has_of
  generalize hasP p r s = B at *
  unfold plV at kH ⊢
  unfold planV planC at ⊢
  go_enter Try.func13, Try.ntmps13
  refine wp_seq_k fun K hK => ?_
  have HK := Lib.hid hK
  clear hK
  go_wp2_with fail
  refine HK.out _ _ ?_
  clear HK
  show Code.wp _ _ _ _ ((w.alloc (.cells (planC p) 35)).alloc (.cells #[.int .i64 r, .int .i64 s] 37))
  rw [← H0.out]
  clear H0
  go_wp2_with (refine loadPlanP r0 rfl rfl rfl ?_)
  refine (kH _).mono ?_
  rintro e w1 ⟨rfl, h1⟩
  have r11 := h1.block r1
  have x1 := x0.trans h1
  have d0 : w1.cell? ⟨w.heap.size + 1, 0, none⟩ = some (.int .i64 r) := cell_of_row _ _ 0 _ _ _ r11
  have d1 : w1.cell? ⟨w.heap.size + 1, 1, none⟩ = some (.int .i64 s) := cell_of_row _ _ 1 _ _ _ r11
  clear r0 r1 x0 h1 kH r11 e0 e1
  cases B with
  | false =>
    clear hb
    go_wp2_with fail
    go_ret
    exact ⟨rfl, x1⟩
  | true =>
    have hh := hb rfl
    have a0 := hh.r0
    have a1 := hh.r1
    have a2 := hh.s0
    have a3 := hh.s1
    have a4 := hh.kn.n1
    have q0 : IntKind.i64.wrap (r + s) = r + s := by rw [IntKind.wrap_i64]; omega
    have q1 : (r + s).tmod 2 = (r + s) % 2 := Int.tmod_eq_emod_of_nonneg (by omega)
    clear hb hh
    go_wp2_with fail
    go_ret
    exact ⟨rfl, x1⟩

end Go.Proofs.Ytcdaelgnankmfaa.VPlan

/- table: Begin, Expected. -/
namespace Go.Proofs.Ytcdaelgnankmfaa.VPlan
open Go.RowKit Go.VBase Go.VRg Go.VPlan
theorem results_tmp4 {fn : Func} {t u v x : Tmp} (h : fn.results = #[.tmp t, .tmp u, .tmp v, .tmp x]) (tmps : Array Value) (P : Program) (w : World) :
    (results fn tmps).run P w = .ok (.tuple #[tmps.getD t undef, tmps.getD u undef, tmps.getD v undef, tmps.getD x undef]) w := by
  simp [results, h]
theorem storeSpot {ops : Array Oper} {rest : List Oper} {o : Oper} {a : Act} {Q : Exit → Act → World → Prop} {W : World} {x y : Operand} {b : Nat} {T' : TypeId} {p : PlanD} {r s : Int} {old : Array Value}
    (h : W.heap[b]? = some (.cells old T')) (hold : old.size = 18) (hgd : o.guard = none) (ho : o.op = .store 60 x y) (hx : a.eval x = .pointer (some ⟨b, 0, none⟩)) (hy : a.eval y = .agg (spotC p r s))
    (hk : wpList Try.prog ops Q rest (a.put o.dst undef) (W.setRow b (spotC p r s))) : wpList Try.prog ops Q (o :: rest) a W :=
  wpList_store_row hgd _ _ _ ho b _ hx hy T' old h (by kernel_rfl) hold (by unfold spotC; simp [Value.oneCell']) hk
set_option maxRecDepth 100000 in
set_option maxHeartbeats 8000000 in
theorem Begin_calls (p : PlanD) (r s : Int) (w : World) : Calls Try.prog 53 #[planV p, plV r s] w fun e w' => e = .returned (.tuple #[.int .i64 (if hasP p r s then begP p r s else 0), .int .i64 (if hasP p r s then 0 else 90)]) ∧ Ext w w' := by
  have kA := fun W => ansBegin_calls p r s W
  have r0 := (Ext.alloc _ (.cells #[.int .i64 r, .int .i64 s] 37)).block (heap_alloc_new w (.cells (planC p) 35))
  have r1 := heap_alloc_new (w.alloc (.cells (planC p) 35)) (.cells #[.int .i64 r, .int .i64 s] 37)
  rw [World.size_alloc] at r1
  have x0 := (Ext.alloc w (.cells (planC p) 35)).thenAlloc (.cells #[.int .i64 r, .int .i64 s] 37)
  obtain ⟨W0, hW0⟩ : ∃ W0, W0 = (w.alloc (.cells (planC p) 35)).alloc (.cells #[.int .i64 r, .int .i64 s] 37) := ⟨_, rfl⟩
  rw [← hW0] at r0 r1 x0
  have H0 := Lib.hid hW0
  clear hW0
  have e0 : W0.cell? ⟨w.heap.size + 1, 0, none⟩ = some (.int .i64 r) := cell_of_row _ _ 0 _ _ _ r1
  have e1 : W0.cell? ⟨w.heap.size + 1, 1, none⟩ = some (.int .i64 s) := cell_of_row _ _ 1 _ _ _ r1
  have rz := heap_alloc_new W0 (.cells #[.int .i64 0, .int .i64 0, .int .i64 0, .int .i64 0, .int .i64 0, .int .i64 0, .int .i64 0, .int .i64 0, .int .i64 0, .int .i64 0, .int .i64 0, .int .i64 0, .int .i64 0, .int .i64 0, .int .i64 0, .int .i64 0, .int .i64 0, .int .i64 0] 60)
  have rS := setRow_heap (W0.alloc (.cells #[.int .i64 0, .int .i64 0, .int .i64 0, .int .i64 0, .int .i64 0, .int .i64 0, .int .i64 0, .int .i64 0, .int .i64 0, .int .i64 0, .int .i64 0, .int .i64 0, .int .i64 0, .int .i64 0, .int .i64 0, .int .i64 0, .int .i64 0, .int .i64 0] 60)) W0.heap.size _ (spotC p r s) _ _ rz
  have xS : Ext w ((W0.alloc (.cells #[.int .i64 0, .int .i64 0, .int .i64 0, .int .i64 0, .int .i64 0, .int .i64 0, .int .i64 0, .int .i64 0, .int .i64 0, .int .i64 0, .int .i64 0, .int .i64 0, .int .i64 0, .int .i64 0, .int .i64 0, .int .i64 0, .int .i64 0, .int .i64 0] 60)).setRow W0.heap.size (spotC p r s)) := (x0.thenAlloc _).setRow x0.size _
  obtain ⟨VS, hVS⟩ : ∃ V, (W0.alloc (.cells #[.int .i64 0, .int .i64 0, .int .i64 0, .int .i64 0, .int .i64 0, .int .i64 0, .int .i64 0, .int .i64 0, .int .i64 0, .int .i64 0, .int .i64 0, .int .i64 0, .int .i64 0, .int .i64 0, .int .i64 0, .int .i64 0, .int .i64 0, .int .i64 0] 60)).setRow W0.heap.size (spotC p r s) = V := ⟨_, rfl⟩
  rw [hVS] at rS xS
  have HVS := Lib.hid hVS
  clear hVS
  unfold plV planV planC
  go_enter Try.func53, Try.ntmps53
  refine wp_seq_k fun K hK => ?_
  have HK := Lib.hid hK
  clear hK
  go_wp2_with fail
  refine HK.out _ _ ?_
  clear HK
  show Code.wp _ _ _ _ ((w.alloc (.cells (planC p) 35)).alloc (.cells #[.int .i64 r, .int .i64 s] 37))
  rw [← H0.out]
  clear H0
  go_wp2_with (first | (refine loadPlanP r0 rfl rfl rfl ?_) | (refine wpList_buildTo rfl 60 _ rfl _ rfl (spotC p r s) (by kernel_rfl) ?_) | (refine storeSpot rz rfl rfl rfl rfl rfl ?_; rw [HVS.out]) | (refine loadSpotP rS rfl rfl rfl ?_))
  refine (kA _).mono ?_
  rintro e w1 ⟨rfl, h1⟩
  have x1 := xS.trans h1
  clear kA h1 r0 r1 rS x0 xS e0 e1 rz
  go_wp2_with fail
  all_goals
    refine bodyPost_ret (results_tmp2 rfl _ _ _) rfl ?_
    exact ⟨rfl, x1⟩
set_option maxRecDepth 100000 in
set_option maxHeartbeats 8000000 in
theorem Expected_calls (p : PlanD) (r s : Int) (w : World) : Calls Try.prog 12 #[planV p, plV r s] w fun e w' => e = .returned (.tuple #[.int .i64 (if hasP p r s then expP p r s else 0), .int .i64 (if hasP p r s then expP p r s - p.window else 0), .int .i64 (if hasP p r s then expP p r s + p.window else 0), .int .i64 (if hasP p r s then 0 else 90)]) ∧ Ext w w' := by
  have kA := fun W => ansExpected_calls p r s W
  have hb : hasP p r s = true → Has p r s ∧ 0 ≤ expP p r s ∧ expP p r s ≤ 36028797021061120 := fun h => by
    have hh := has_of h
    have h1 := hh.beg
    have h2 := hh.mid
    have h3 := hh.f0
    have h4 := hh.f1
    refine ⟨hh, ?_⟩
    unfold expP senP
    omega
  generalize expP p r s = N at *
  generalize hasP p r s = B at *
  have r0 := (Ext.alloc _ (.cells #[.int .i64 r, .int .i64 s] 37)).block (heap_alloc_new w (.cells (planC p) 35))
  have r1 := heap_alloc_new (w.alloc (.cells (planC p) 35)) (.cells #[.int .i64 r, .int .i64 s] 37)
  rw [World.size_alloc] at r1
  have x0 := (Ext.alloc w (.cells (planC p) 35)).thenAlloc (.cells #[.int .i64 r, .int .i64 s] 37)
  obtain ⟨W0, hW0⟩ : ∃ W0, W0 = (w.alloc (.cells (planC p) 35)).alloc (.cells #[.int .i64 r, .int .i64 s] 37) := ⟨_, rfl⟩
  rw [← hW0] at r0 r1 x0
  have H0 := Lib.hid hW0
  clear hW0
  have e0 : W0.cell? ⟨w.heap.size + 1, 0, none⟩ = some (.int .i64 r) := cell_of_row _ _ 0 _ _ _ r1
  have e1 : W0.cell? ⟨w.heap.size + 1, 1, none⟩ = some (.int .i64 s) := cell_of_row _ _ 1 _ _ _ r1
  have rz := heap_alloc_new W0 (.cells #[.int .i64 0, .int .i64 0, .int .i64 0, .int .i64 0, .int .i64 0, .int .i64 0, .int .i64 0, .int .i64 0, .int .i64 0, .int .i64 0, .int .i64 0, .int .i64 0, .int .i64 0, .int .i64 0, .int .i64 0, .int .i64 0, .int .i64 0, .int .i64 0] 60)
  have rS := setRow_heap (W0.alloc (.cells #[.int .i64 0, .int .i64 0, .int .i64 0, .int .i64 0, .int .i64 0, .int .i64 0, .int .i64 0, .int .i64 0, .int .i64 0, .int .i64 0, .int .i64 0, .int .i64 0, .int .i64 0, .int .i64 0, .int .i64 0, .int .i64 0, .int .i64 0, .int .i64 0] 60)) W0.heap.size _ (spotC p r s) _ _ rz
  have xS : Ext w ((W0.alloc (.cells #[.int .i64 0, .int .i64 0, .int .i64 0, .int .i64 0, .int .i64 0, .int .i64 0, .int .i64 0, .int .i64 0, .int .i64 0, .int .i64 0, .int .i64 0, .int .i64 0, .int .i64 0, .int .i64 0, .int .i64 0, .int .i64 0, .int .i64 0, .int .i64 0] 60)).setRow W0.heap.size (spotC p r s)) := (x0.thenAlloc _).setRow x0.size _
  obtain ⟨VS, hVS⟩ : ∃ V, (W0.alloc (.cells #[.int .i64 0, .int .i64 0, .int .i64 0, .int .i64 0, .int .i64 0, .int .i64 0, .int .i64 0, .int .i64 0, .int .i64 0, .int .i64 0, .int .i64 0, .int .i64 0, .int .i64 0, .int .i64 0, .int .i64 0, .int .i64 0, .int .i64 0, .int .i64 0] 60)).setRow W0.heap.size (spotC p r s) = V := ⟨_, rfl⟩
  rw [hVS] at rS xS
  have HVS := Lib.hid hVS
  clear hVS
  unfold plV planV planC
  go_enter Try.func12, Try.ntmps12
  refine wp_seq_k fun K hK => ?_
  have HK := Lib.hid hK
  clear hK
  go_wp2_with fail
  refine HK.out _ _ ?_
  clear HK
  show Code.wp _ _ _ _ ((w.alloc (.cells (planC p) 35)).alloc (.cells #[.int .i64 r, .int .i64 s] 37))
  rw [← H0.out]
  clear H0
  go_wp2_with (first | (refine loadPlanP r0 rfl rfl rfl ?_) | (refine wpList_buildTo rfl 60 _ rfl _ rfl (spotC p r s) (by kernel_rfl) ?_) | (refine storeSpot rz rfl rfl rfl rfl rfl ?_; rw [HVS.out]) | (refine loadSpotP rS rfl rfl rfl ?_))
  refine (kA _).mono ?_
  rintro e w1 ⟨rfl, h1⟩
  have x1 := xS.trans h1
  have hlt : w.heap.size < W0.heap.size := (Array.getElem?_eq_some_iff.1 r0).1
  have rp : VS.heap[w.heap.size]? = some (.cells (planC p) 35) := by
    rw [← HVS.out, setRow_other _ _ _ _ (by omega)]
    exact (Ext.alloc _ _).block r0
  have r1p := h1.block rp
  clear kA h1 r0 r1 rS x0 xS e0 e1 rz rp hlt
  cases B with
  | false =>
    clear hb
    simp only [Bool.false_eq_true, if_false]
    go_wp2_with fail
    refine bodyPost_ret (results_tmp4 rfl _ _ _) rfl ?_
    exact ⟨rfl, x1⟩
  | true =>
    obtain ⟨hh, n0, n1⟩ := hb rfl
    have n2 := hh.w0
    have n3 := hh.w1
    simp only [if_true]
    have q0 : IntKind.i64.wrap (N - p.window) = N - p.window := by rw [IntKind.wrap_i64]; omega
    have q1 : IntKind.i64.wrap (N + p.window) = N + p.window := by rw [IntKind.wrap_i64]; omega
    clear hb hh n0 n1 n2 n3
    go_wp2_with fail
    have c4 : w1.drew.cell? ⟨w.heap.size, 4, none⟩ = some (.int .i64 p.window) := cell_of_row _ _ 4 _ _ _ r1p
    refine wp_region_rg Eq [] (by kernel_rfl) (by kernel_rfl) (by kernel_rfl) (fun _ => rfl) (fun _ _ _ => Eq.trans) ?_
    intro σ
    simp only
    repeat (first | (refine rg_pure (x := ?_) rfl (by rfl) (fun W hW => ?_) ?_; rotate_left; (· subst hW; go_simp; with_reducible rfl); simp only [Nat.reduceAdd, Act.put, List.setIfInBounds_toArray, List.set_cons_zero, List.set_cons_succ]))
    refine rg_done fun W hW hno => ?_
    subst hW
    have xE := x1.thenDrew
    clear hno c4 r1p
    go_wp2_with fail
    refine bodyPost_ret (results_tmp4 rfl _ _ _) rfl ?_
    exact ⟨rfl, xE⟩
end Go.Proofs.Ytcdaelgnankmfaa.VPlan

/- window.Judge. -/
namespace Go.Proofs.Ytcdaelgnankmfaa.VPlan
open Go.RowKit Go.VBase Go.VRg Go.VPlan

def mayW (x : Int) : Bool := decide (-4294967296 ≤ x) && decide (x ≤ 1152921504606846976)
theorem mayW_calls (x : Int) (w : World) : Calls Try.prog 55 #[.int .i64 x] w fun e w' => e = .returned (.bool (mayW x)) ∧ w = w' := by
  obtain ⟨X, hX⟩ : ∃ X, mayW x = X := ⟨_, rfl⟩
  rw [hX]
  unfold mayW at hX
  by_cases h0 : -4294967296 ≤ x
  · have e0 : decide (-4294967296 ≤ x) = true := decide_eq_true h0
    have hx : X = decide (x ≤ 1152921504606846976) := by rw [← hX, e0]; rfl
    subst hx
    clear hX
    go_enter Try.func55, Try.ntmps55
    go_wp2_with fail
    go_ret
    exact ⟨rfl, rfl⟩
  · have e0 : decide (-4294967296 ≤ x) = false := decide_eq_false h0
    have hx : X = false := by rw [← hX, e0]; rfl
    subst hx
    clear hX
    go_enter Try.func55, Try.ntmps55
    go_wp2_with fail
    go_ret
    exact ⟨rfl, rfl⟩
def verW (x lo hi : Int) : Int := if x < lo then 1 else if hi < x then 3 else 2
set_option maxRecDepth 100000 in
theorem says_calls (x lo hi : Int) (a b c : Nat) (w : World) (h0 : w.cell? ⟨a, 0, none⟩ = some (.int .i64 x)) (h1 : w.cell? ⟨b, 0, none⟩ = some (.int .i64 lo)) (h2 : w.cell? ⟨c, 0, none⟩ = some (.int .i64 hi)) :
    Calls Try.prog 56 #[.pointer (some ⟨a, 0, none⟩), .pointer (some ⟨b, 0, none⟩), .pointer (some ⟨c, 0, none⟩)] w fun e w' => e = .returned (.int .i64 (verW x lo hi)) ∧ w = w' := by
  obtain ⟨X, hX⟩ : ∃ X, verW x lo hi = X := ⟨_, rfl⟩
  rw [hX]
  unfold verW at hX
  by_cases e0 : x < lo
  · have d0 : decide (x < lo) = true := decide_eq_true e0
    rw [if_pos e0] at hX
    subst hX
    clear e0
    go_enter Try.func56, Try.ntmps56
    go_wp2_with fail
    go_ret
    exact ⟨rfl, rfl⟩
  rw [if_neg e0] at hX
  have d0 : decide (x < lo) = false := decide_eq_false e0
  by_cases e1 : hi < x
  · have d1 : decide (hi < x) = true := decide_eq_true e1
    rw [if_pos e1] at hX
    subst hX
    clear e0 e1
    go_enter Try.func56, Try.ntmps56
    go_wp2_with fail
    go_ret
    exact ⟨rfl, rfl⟩
  rw [if_neg e1] at hX
  have d1 : decide (hi < x) = false := decide_eq_false e1
  subst hX
  clear e0 e1
  go_enter Try.func56, Try.ntmps56
  go_wp2_with fail
  go_ret
  exact ⟨rfl, rfl⟩

def okW (p : PlanD) (r s x : Int) : Bool := hasP p r s && mayW x
def judW (p : PlanD) (r s x : Int) : Value := if okW p r s x then .tuple #[.int .i64 (verW x (expP p r s - p.window) (expP p r s + p.window)), .int .i64 (x - expP p r s), .int .i64 0] else .tuple #[.int .i64 0, .int .i64 0, .int .i64 160]
set_option maxRecDepth 100000 in
set_option maxHeartbeats 8000000 in
theorem winJudge_calls (p : PlanD) (r s x : Int) (w : World) : Calls Try.prog 34 #[planV p, plV r s, .int .i64 x] w fun e w' => e = .returned (judW p r s x) ∧ Ext w w' := by
  have kE := fun W => Expected_calls p r s W
  have kM := fun W => mayW_calls x W
  obtain ⟨V, hV⟩ : ∃ V, judW p r s x = V := ⟨_, rfl⟩
  rw [hV]
  unfold judW okW at hV
  have hb : hasP p r s = true → 0 ≤ expP p r s ∧ expP p r s ≤ 36028797021061120 := fun h => by
    have hh := has_of h
    have h1 := hh.beg
    have h2 := hh.mid
    have h3 := hh.f0
    have h4 := hh.f1
    unfold expP senP
    omega
  have hm : mayW x = true → -4294967296 ≤ x ∧ x ≤ 1152921504606846976 := fun h => by
    unfold mayW at h
    simpa using h
  generalize expP p r s = N at *
  generalize hasP p r s = B at *
  generalize mayW x = M at *
  have r0 := (Ext.alloc _ (.cells #[.int .i64 x] 2)).block ((Ext.alloc _ (.cells #[.int .i64 r, .int .i64 s] 37)).block (heap_alloc_new w (.cells (planC p) 35)))
  have r1 := (Ext.alloc _ (.cells #[.int .i64 x] 2)).block (heap_alloc_new (w.alloc (.cells (planC p) 35)) (.cells #[.int .i64 r, .int .i64 s] 37))
  have r2 := heap_alloc_new ((w.alloc (.cells (planC p) 35)).alloc (.cells #[.int .i64 r, .int .i64 s] 37)) (.cells #[.int .i64 x] 2)
  simp only [World.size_alloc] at r0 r1 r2
  have x0 := ((Ext.alloc w (.cells (planC p) 35)).thenAlloc (.cells #[.int .i64 r, .int .i64 s] 37)).thenAlloc (.cells #[.int .i64 x] 2)
  obtain ⟨W0, hW0⟩ : ∃ W0, W0 = ((w.alloc (.cells (planC p) 35)).alloc (.cells #[.int .i64 r, .int .i64 s] 37)).alloc (.cells #[.int .i64 x] 2) := ⟨_, rfl⟩
  rw [← hW0] at r0 r1 r2 x0
  have H0 := Lib.hid hW0
  clear hW0
  have e0 : W0.cell? ⟨w.heap.size + 1, 0, none⟩ = some (.int .i64 r) := cell_of_row _ _ 0 _ _ _ r1
  have e1 : W0.cell? ⟨w.heap.size + 1, 1, none⟩ = some (.int .i64 s) := cell_of_row _ _ 1 _ _ _ r1
  have HVV := Lib.hid hV
  clear hV
  unfold plV at kE ⊢
  unfold planV planC at ⊢
  go_enter Try.func34, Try.ntmps34
  refine wp_seq_k fun K hK => ?_
  have HK := Lib.hid hK
  clear hK
  go_wp2_with fail
  refine HK.out _ _ ?_
  clear HK
  show Code.wp _ _ _ _ (((w.alloc (.cells (planC p) 35)).alloc (.cells #[.int .i64 r, .int .i64 s] 37)).alloc (.cells #[.int .i64 x] 2))
  rw [← H0.out]
  clear H0
  go_wp2_with (refine loadPlanP r0 rfl rfl rfl ?_)
  refine (kE _).mono ?_
  rintro e w1 ⟨rfl, h1⟩
  have x1 := x0.trans h1
  have r21 := h1.block r2
  clear kE h1 r0 r1 r2 x0 e0 e1
  cases B with
  | false =>
    have hx : V = .tuple #[.int .i64 0, .int .i64 0, .int .i64 160] := HVV.out.symm
    subst hx
    simp only [Bool.false_eq_true, if_false]
    have x2 : Ext w ((w1.alloc (.cells #[.int .i64 0] 2)).alloc (.cells #[.int .i64 0] 2)) := (x1.thenAlloc _).thenAlloc _
    clear hb hm kM
    go_wp2_with fail
    refine bodyPost_ret (results_tmp3 rfl _ _ _) rfl ?_
    exact ⟨rfl, x2⟩
  | true =>
    obtain ⟨n0, n1⟩ := hb rfl
    simp only [if_true]
    obtain ⟨lo, hlo⟩ : ∃ lo, N - p.window = lo := ⟨_, rfl⟩
    obtain ⟨hi, hhi⟩ : ∃ hi, N + p.window = hi := ⟨_, rfl⟩
    rw [hlo, hhi] at HVV ⊢
    clear hb hlo hhi
    have x2 : Ext w1 ((w1.alloc (.cells #[.int .i64 lo] 2)).alloc (.cells #[.int .i64 hi] 2)) := (Ext.alloc _ _).thenAlloc _
    have ra := (Ext.alloc _ (.cells #[.int .i64 hi] 2)).block (heap_alloc_new w1 (.cells #[.int .i64 lo] 2))
    have rb := heap_alloc_new (w1.alloc (.cells #[.int .i64 lo] 2)) (.cells #[.int .i64 hi] 2)
    rw [World.size_alloc] at rb
    have rx := x2.block r21
    have c5 := cell_of_row _ _ 0 _ _ _ rx
    rw [show (#[Value.int .i64 x] : Array Value)[0]? = some (.int .i64 x) from rfl] at c5
    go_wp2_with fail
    refine (kM _).mono ?_
    rintro e w2 ⟨rfl, rfl⟩
    cases M with
    | false =>
      have hx : V = .tuple #[.int .i64 0, .int .i64 0, .int .i64 160] := HVV.out.symm
      subst hx
      have x3 := x1.trans x2
      clear ra rb rx c5 hm kM
      go_wp2_with fail
      refine bodyPost_ret (results_tmp3 rfl _ _ _) rfl ?_
      exact ⟨rfl, x3⟩
    | true =>
      obtain ⟨m0, m1⟩ := hm rfl
      have hx : V = .tuple #[.int .i64 (verW x lo hi), .int .i64 (x - N), .int .i64 0] := HVV.out.symm
      subst hx
      have x3 := x1.trans x2
      have q0 : IntKind.i64.wrap (x - N) = x - N := by rw [IntKind.wrap_i64]; omega
      generalize hgen : ((w1.alloc (.cells #[.int .i64 lo] 2)).alloc (.cells #[.int .i64 hi] 2)) = W2 at *
      have HG := Lib.hid hgen
      clear hm kM m0 m1 n0 n1 hgen
      go_wp2_with fail
      have k0 : ∀ W, Ext W2.drew W → W.cell? ⟨w.heap.size + 1 + 1, 0, none⟩ = some (.int .i64 x) := fun W h => (Ext.of_drew h).cell c5
      have kS := fun W (h : Ext W2.drew W) => says_calls x lo hi (w.heap.size + 1 + 1) w1.heap.size (w1.heap.size + 1) W (k0 W h) (cell_of_row _ _ 0 _ _ _ ((Ext.of_drew h).block ra)) (cell_of_row _ _ 0 _ _ _ ((Ext.of_drew h).block rb))
      obtain ⟨Y, hY⟩ : ∃ Y, verW x lo hi = Y := ⟨_, rfl⟩
      rw [hY] at kS
      have HY := Lib.hid hY
      clear hY
      clear c5 ra rb rx r21 x2
      refine wp_region_rg Ext [(1, .known (.int .i64 Y))] (by kernel_rfl) (by kernel_rfl) (by kernel_rfl) Ext.refl (fun _ _ _ => Ext.trans) ?_
      intro σ
      simp only
      refine rg_pure (x := ?_) rfl (by rfl) (fun W hW => ?_) ?_; rotate_left
      · go_simp; with_reducible rfl
      simp only [Nat.reduceAdd, Act.put, List.setIfInBounds_toArray, List.set_cons_zero, List.set_cons_succ]
      refine rg_known rfl (by rfl) (fun W hW hF => ?_) ?_
      · go_simp
        refine (kS W hW).mono ?_
        rintro e W' ⟨rfl, rfl⟩
        exact ⟨_, rfl, Ext.refl _, rfl⟩
      simp only [Nat.reduceAdd, Act.put, List.setIfInBounds_toArray, List.set_cons_zero, List.set_cons_succ]
      repeat (first | (refine rg_pure (x := ?_) rfl (by rfl) (fun W hW => ?_) ?_; rotate_left; (· have f0 := k0 W hW; go_simp; with_reducible rfl); simp only [Nat.reduceAdd, Act.put, List.setIfInBounds_toArray, List.set_cons_zero, List.set_cons_succ]))
      refine rg_done fun W hW hF => ?_
      have xE := x3.trans (Ext.of_drew hW)
      clear hF hW k0 kS
      go_wp2_with fail
      refine bodyPost_ret (results_tmp3 rfl _ _ _) rfl ?_
      have hY := HY.out
      subst hY
      exact ⟨rfl, xE⟩
end Go.Proofs.Ytcdaelgnankmfaa.VPlan
