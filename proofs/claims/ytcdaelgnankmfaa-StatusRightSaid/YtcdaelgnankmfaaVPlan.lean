/- plan: what a plan's conditions and least numbers are: contracts of its methods. -/
import Derived.Test.YtcdaelgnankmfaaProg
import Derived.Test.YtcdaelgnankmfaaVBase
import Derived.Test.YtcdaelgnankmfaaVPlanD
import Derived.Outline
namespace Go.Proofs.Ytcdaelgnankmfaa.VPlan
open Go.RowKit Go.VBase Go.VRg Go.VPlan

def PlanCells (W : World) (b : Nat) (p : PlanD) : Prop := W.cell? ⟨b, 0, none⟩ = some (.int .i64 p.nodes) ∧ W.cell? ⟨b, 1, none⟩ = some (.int .i64 p.k) ∧ W.cell? ⟨b, 2, none⟩ = some (.int .i64 p.slot) ∧ W.cell? ⟨b, 3, none⟩ = some (.int .i64 p.sendOff) ∧ W.cell? ⟨b, 4, none⟩ = some (.int .i64 p.window) ∧ W.cell? ⟨b, 5, none⟩ = some (.int .i64 p.air) ∧ W.cell? ⟨b, 6, none⟩ = some (.int .i64 p.dmin) ∧ W.cell? ⟨b, 7, none⟩ = some (.int .i64 p.dmax) ∧ W.cell? ⟨b, 8, none⟩ = some (.int .i64 p.rho) ∧ W.cell? ⟨b, 9, none⟩ = some (.int .i64 p.pi) ∧ W.cell? ⟨b, 10, none⟩ = some (.int .i64 p.cap) ∧ W.cell? ⟨b, 11, none⟩ = some (.int .i64 p.delta) ∧ W.cell? ⟨b, 12, none⟩ = some (.int .i64 p.queue) ∧ W.cell? ⟨b, 13, none⟩ = some (.int .i64 p.burst) ∧ W.cell? ⟨b, 14, none⟩ = some (.int .i64 p.payload) ∧ W.cell? ⟨b, 15, none⟩ = some (.int .i64 p.horizon)
theorem planCell {W : World} {b i : Nat} {T : TypeId} {mk : Nat × Nat} {p : PlanD} {v : Value} (h : W.heap[b]? = some (.cells (planC p) T mk)) (hi : (planC p)[i]? = some v) : W.cell? ⟨b, i, none⟩ = some v := by
  unfold World.cell?; simp only [h]; exact hi
theorem planBox {W : World} {b : Nat} {T : TypeId} {mk : Nat × Nat} {p : PlanD} (h : W.heap[b]? = some (.cells (planC p) T mk)) : PlanCells W b p :=
  ⟨planCell h rfl, planCell h rfl, planCell h rfl, planCell h rfl, planCell h rfl, planCell h rfl, planCell h rfl, planCell h rfl, planCell h rfl, planCell h rfl, planCell h rfl, planCell h rfl, planCell h rfl, planCell h rfl, planCell h rfl, planCell h rfl⟩
theorem exec_load {P : Program} {W : World} {o : Oper} {a : Act} {t : Tmp} {T : TypeId} {x b : Value} (ho : o.op = .load T (.tmp t)) (ht : a.eval (.tmp t) = b) (h : (Instr.loadAt T b).run P W = .ok x W) : (execOp a.eval o).run P W = .ok (.value x) W := by
  unfold execOp
  simp only [ho, ht, Sem.run_bind, h]
  rfl
set_option maxRecDepth 100000 in
theorem loadLook {W : World} {b : Nat} {T : TypeId} {mk : Nat × Nat} {p : PlanD} (h : W.heap[b]? = some (.cells (planC p) T mk)) : (Instr.loadAt 110 (.pointer (some ⟨b, 0, none⟩))).run Try.prog W = .ok (planV p) W := by
  simp only [Instr.loadAt, Instr.sureAddr, Sem.run_bind, Sem.run_pure, Result.andThen_ok, run_loadVar_row W b T 110 (planC p) mk _ h Try.underlying110 rfl (by kernel_rfl)]
  rfl
/-- A whole plan is read. -/
theorem loadPlanP {ops : Array Oper} {rest : List Oper} {o : Oper} {a : Act} {Q : Exit → Act → World → Prop} {W : World} {t : Tmp} {b : Nat} {T' : TypeId} {mk : Nat × Nat} {p : PlanD}
    (h : W.heap[b]? = some (.cells (planC p) T' mk)) (hgd : o.guard = none) (ho : o.op = .load 35 (.tmp t)) (hx : a.eval (.tmp t) = .pointer (some ⟨b, 0, none⟩))
    (hk : wpList Try.prog ops Q rest (a.put o.dst (planV p)) W) : wpList Try.prog ops Q (o :: rest) a W := wpList_load_row hgd _ _ ho _ hx _ _ _ _ h Try.underlying35 rfl (by kernel_rfl) hk
theorem loadPlanL {ops : Array Oper} {rest : List Oper} {o : Oper} {a : Act} {Q : Exit → Act → World → Prop} {W : World} {t : Tmp} {b : Nat} {T' : TypeId} {mk : Nat × Nat} {p : PlanD}
    (h : W.heap[b]? = some (.cells (planC p) T' mk)) (hgd : o.guard = none) (ho : o.op = .load 110 (.tmp t)) (hx : a.eval (.tmp t) = .pointer (some ⟨b, 0, none⟩))
    (hk : wpList Try.prog ops Q rest (a.put o.dst (planV p)) W) : wpList Try.prog ops Q (o :: rest) a W := wpList_load_row hgd _ _ ho _ hx _ _ _ _ h Try.underlying110 rfl (by kernel_rfl) hk
theorem loadInt {W : World} {b i : Nat} {z : Int} (h : W.cell? ⟨b, i, none⟩ = some (.int .i64 z)) : (Instr.loadAt 3 (.pointer (some ⟨b, i, none⟩))).run Try.prog W = .ok (.int .i64 z) W := by
  go_simp
theorem loadI64 {W : World} {b i : Nat} {z : Int} (h : W.cell? ⟨b, i, none⟩ = some (.int .i64 z)) : (Instr.loadAt 2 (.pointer (some ⟨b, i, none⟩))).run Try.prog W = .ok (.int .i64 z) W := by
  go_simp
theorem lt_of_cells {W : World} {b : Nat} {p : PlanD} (h : PlanCells W b p) : b < W.heap.size := World.block_lt_of_cell? _ _ h.1

set_option maxHeartbeats 1000000 in
theorem in_calls (n a b : Int) (w : World) : Calls Try.prog 86 #[.int .i64 n, .int .i64 a, .int .i64 b] w fun e w' => e = .returned (.bool (inP n a b)) ∧ w = w' := by
  unfold inP
  by_cases h : a ≤ n
  · have h' : decide (a ≤ n) = true := decide_eq_true h
    rw [h']
    go_enter Try.func86, Try.ntmps86
    go_wp2_with fail
    go_ret
    exact ⟨by simp, rfl⟩
  · have h' : decide (a ≤ n) = false := decide_eq_false h
    rw [h']
    go_enter Try.func86, Try.ntmps86
    go_wp2_with fail
    go_ret
    exact ⟨by simp, rfl⟩
theorem in_callsX (n a b : Int) (w : World) : Calls Try.prog 86 #[.int .i64 n, .int .i64 a, .int .i64 b] w fun e w' => e = .returned (.bool (inP n a b)) ∧ Ext w w' :=
  (in_calls n a b w).mono fun e w' ⟨h1, h2⟩ => ⟨h1, h2 ▸ Ext.refl w⟩

set_option maxRecDepth 100000 in
set_option maxHeartbeats 2000000 in
theorem round_calls (p : PlanD) (hk : Known p) (w : World) : Calls Try.prog 92 #[planV p] w fun e w' => e = .returned (.int .i64 (rd p)) ∧ Ext w w' := by
  obtain ⟨b0, b1⟩ := hk.rd
  have q : IntKind.i64.wrap (p.nodes * p.slot) = rd p := by rw [show p.nodes * p.slot = rd p from rfl, IntKind.wrap_i64]; omega
  clear b0 b1 hk
  generalize rd p = R at *
  unfold planV planC
  go_enter Try.func92, Try.ntmps92
  go_wp2_with fail
  go_ret
  exact ⟨rfl, Ext.alloc _ _⟩

set_option maxRecDepth 100000 in
set_option maxHeartbeats 2000000 in
theorem e_calls (p : PlanD) (hk : Known p) (w : World) : Calls Try.prog 104 #[planV p] w fun e w' => e = .returned (.int .i64 (eP p)) ∧ Ext w w' := by
  obtain ⟨b0, b1⟩ := hk.eb
  have h1 := hk.d0
  have h2 := hk.d1
  have h3 := hk.d2
  have q0 : IntKind.i64.wrap (p.dmax - p.dmin) = p.dmax - p.dmin := by rw [IntKind.wrap_i64]; omega
  have q1 : IntKind.i64.wrap (p.dmax - p.dmin + 6) = eP p := by unfold eP; rw [IntKind.wrap_i64]; omega
  clear b0 b1 h1 h2 h3 hk
  generalize eP p = E at *
  unfold planV planC
  go_enter Try.func104, Try.ntmps104
  go_wp2_with fail
  go_ret
  exact ⟨rfl, Ext.alloc _ _⟩

set_option maxRecDepth 100000 in
set_option maxHeartbeats 2000000 in
theorem g_calls (p : PlanD) (hk : Known p) (w : World) : Calls Try.prog 103 #[planV p] w fun e w' => e = .returned (.int .i64 (gP p)) ∧ Ext w w' := by
  have kr := fun W => round_calls p hk W
  obtain ⟨b0, b1⟩ := hk.rd
  obtain ⟨b2, b3⟩ := hk.q
  have h4 := hk.r0
  have h5 := hk.r1
  have q0 : IntKind.i64.wrap (2 * rd p) = 2 * rd p := by rw [IntKind.wrap_i64]; omega
  have q1 : IntKind.i64.wrap ((2 * rd p).tdiv p.rho) = 2 * rd p / p.rho := by rw [Int.tdiv_eq_ediv_of_nonneg (by omega), IntKind.wrap_i64]; omega
  have q2 : IntKind.i64.wrap (2 * rd p / p.rho + 4) = 2 * rd p / p.rho + 4 := by rw [IntKind.wrap_i64]; omega
  have q3 : IntKind.i64.wrap (2 * (2 * rd p / p.rho + 4)) = gP p := by unfold gP; rw [IntKind.wrap_i64]; omega
  have q4 : ¬ p.rho = 0 := by omega
  generalize gP p = G at *
  generalize 2 * rd p / p.rho = Q at *
  generalize rd p = R at *
  clear hk
  unfold planV planC
  go_enter Try.func103, Try.ntmps103
  go_wp2_with fail
  have r0 := heap_alloc_new w (.cells (planC p) 110)
  have k0 : ∀ W, Ext (w.alloc (.cells (planC p) 110)).drew W → W.heap[w.heap.size]? = some (.cells (planC p) 110) := fun W h => h.block r0
  have hx0 := Ext.alloc w (.cells (planC p) 110)
  have K0 := Lib.hid k0
  clear k0
  refine wp_region_rg Ext [(1, .known (.int .i64 R))] (by kernel_rfl) (by kernel_rfl) (by kernel_rfl) Ext.refl (fun _ _ _ => Ext.trans) ?_
  intro σ
  simp only
  refine rg_pure (x := planV p) rfl (by rfl) (fun W hW => exec_load (b := .pointer (some ⟨w.heap.size, 0, none⟩)) rfl rfl (loadLook (K0.out W hW))) ?_
  simp only [Nat.reduceAdd, Act.put, List.setIfInBounds_toArray, List.set_cons_zero, List.set_cons_succ]
  refine rg_known rfl (by rfl) (fun W hW hF => ?_) ?_
  · go_simp
    refine (kr W).mono ?_
    rintro e W' ⟨rfl, h⟩
    exact ⟨_, rfl, h, rfl⟩
  simp only [Nat.reduceAdd, Act.put, List.setIfInBounds_toArray, List.set_cons_zero, List.set_cons_succ]
  refine rg_pure (x := ?_) rfl (by rfl) (fun W hW => ?_) ?_; rotate_left
  · go_simp; with_reducible rfl
  simp only [Nat.reduceAdd, Act.put, List.setIfInBounds_toArray, List.set_cons_zero, List.set_cons_succ]
  refine rg_pure (x := ?_) rfl (by rfl) (fun W hW => ?_) ?_; rotate_left
  · go_simp; with_reducible rfl
  simp only [Nat.reduceAdd, Act.put, List.setIfInBounds_toArray, List.set_cons_zero, List.set_cons_succ]
  refine rg_pure (x := ?_) rfl (by rfl) (fun W hW => ?_) ?_; rotate_left
  · go_simp; with_reducible rfl
  simp only [Nat.reduceAdd, Act.put, List.setIfInBounds_toArray, List.set_cons_zero, List.set_cons_succ]
  refine rg_pure (x := .int .i64 p.rho) rfl (by rfl) (fun W hW => exec_load (b := .pointer (some ⟨w.heap.size, 8, none⟩)) rfl rfl (loadI64 (planCell (K0.out W hW) (i := 8) rfl))) ?_
  simp only [Nat.reduceAdd, Act.put, List.setIfInBounds_toArray, List.set_cons_zero, List.set_cons_succ]
  refine rg_pure (x := ?_) rfl (by rfl) (fun W hW => ?_) ?_; rotate_left
  · go_simp; with_reducible rfl
  simp only [Nat.reduceAdd, Act.put, List.setIfInBounds_toArray, List.set_cons_zero, List.set_cons_succ]
  refine rg_pure (x := ?_) rfl (by rfl) (fun W hW => ?_) ?_; rotate_left
  · go_simp; with_reducible rfl
  simp only [Nat.reduceAdd, Act.put, List.setIfInBounds_toArray, List.set_cons_zero, List.set_cons_succ]
  refine rg_pure (x := ?_) rfl (by rfl) (fun W hW => ?_) ?_; rotate_left
  · go_simp; with_reducible rfl
  simp only [Nat.reduceAdd, Act.put, List.setIfInBounds_toArray, List.set_cons_zero, List.set_cons_succ]
  refine rg_pure (x := ?_) rfl (by rfl) (fun W hW => ?_) ?_; rotate_left
  · go_simp; with_reducible rfl
  simp only [Nat.reduceAdd, Act.put, List.setIfInBounds_toArray, List.set_cons_zero, List.set_cons_succ]
  refine rg_done fun w5 hW hF => ?_
  have hx5 := hx0.trans (Ext.of_drew hW)
  clear hF hW K0 r0
  go_wp2_with fail
  go_ret
  exact ⟨rfl, hx5⟩

set_option maxRecDepth 100000 in
set_option maxHeartbeats 2000000 in
theorem a_calls (p : PlanD) (hk : Known p) (w : World) : Calls Try.prog 102 #[planV p] w fun e w' => e = .returned (.int .i64 (aP p)) ∧ Ext w w' := by
  have ke := fun W => e_calls p hk W
  have kg := fun W => g_calls p hk W
  obtain ⟨b0, b1⟩ := hk.eb
  obtain ⟨b2, b3⟩ := hk.gb
  have q0 : IntKind.i64.wrap (eP p + gP p) = eP p + gP p := by rw [IntKind.wrap_i64]; omega
  have q1 : IntKind.i64.wrap (2 * (eP p + gP p)) = aP p := by unfold aP; rw [IntKind.wrap_i64]; omega
  generalize aP p = Z at *
  generalize eP p = E at *
  generalize gP p = G at *
  clear hk b0 b1 b2 b3
  unfold planV planC
  go_enter Try.func102, Try.ntmps102
  go_wp2_with fail
  have r0 := heap_alloc_new w (.cells (planC p) 110)
  have k0 : ∀ W, Ext (w.alloc (.cells (planC p) 110)).drew W → W.heap[w.heap.size]? = some (.cells (planC p) 110) := fun W h => h.block r0
  have hx0 := Ext.alloc w (.cells (planC p) 110)
  have K0 := Lib.hid k0
  clear k0
  refine wp_region_rg Ext [(1, .known (.int .i64 E)), (3, .known (.int .i64 G))] (by kernel_rfl) (by kernel_rfl) (by kernel_rfl) Ext.refl (fun _ _ _ => Ext.trans) ?_
  intro σ
  simp only
  refine rg_pure (x := planV p) rfl (by rfl) (fun W hW => exec_load (b := .pointer (some ⟨w.heap.size, 0, none⟩)) rfl rfl (loadLook (K0.out W hW))) ?_
  simp only [Nat.reduceAdd, Act.put, List.setIfInBounds_toArray, List.set_cons_zero, List.set_cons_succ]
  refine rg_known rfl (by rfl) (fun W hW hF => ?_) ?_
  · go_simp
    refine (ke W).mono ?_
    rintro e W' ⟨rfl, h⟩
    exact ⟨_, rfl, h, rfl⟩
  simp only [Nat.reduceAdd, Act.put, List.setIfInBounds_toArray, List.set_cons_zero, List.set_cons_succ]
  refine rg_pure (x := planV p) rfl (by rfl) (fun W hW => exec_load (b := .pointer (some ⟨w.heap.size, 0, none⟩)) rfl rfl (loadLook (K0.out W hW))) ?_
  simp only [Nat.reduceAdd, Act.put, List.setIfInBounds_toArray, List.set_cons_zero, List.set_cons_succ]
  refine rg_known rfl (by rfl) (fun W hW hF => ?_) ?_
  · go_simp
    refine (kg W).mono ?_
    rintro e W' ⟨rfl, h⟩
    exact ⟨_, rfl, h, rfl⟩
  simp only [Nat.reduceAdd, Act.put, List.setIfInBounds_toArray, List.set_cons_zero, List.set_cons_succ]
  refine rg_pure (x := ?_) rfl (by rfl) (fun W hW => ?_) ?_; rotate_left
  · go_simp; with_reducible rfl
  simp only [Nat.reduceAdd, Act.put, List.setIfInBounds_toArray, List.set_cons_zero, List.set_cons_succ]
  refine rg_pure (x := ?_) rfl (by rfl) (fun W hW => ?_) ?_; rotate_left
  · go_simp; with_reducible rfl
  simp only [Nat.reduceAdd, Act.put, List.setIfInBounds_toArray, List.set_cons_zero, List.set_cons_succ]
  refine rg_pure (x := ?_) rfl (by rfl) (fun W hW => ?_) ?_; rotate_left
  · go_simp; with_reducible rfl
  simp only [Nat.reduceAdd, Act.put, List.setIfInBounds_toArray, List.set_cons_zero, List.set_cons_succ]
  refine rg_done fun w5 hW hF => ?_
  have hx5 := hx0.trans (Ext.of_drew hW)
  clear hF hW K0 r0
  go_wp2_with fail
  go_ret
  exact ⟨rfl, hx5⟩

set_option maxRecDepth 100000 in
set_option maxHeartbeats 2000000 in
theorem leastPi_calls (p : PlanD) (hk : Known p) (w : World) : Calls Try.prog 87 #[planV p] w fun e w' => e = .returned (.int .i64 (lPi p)) ∧ Ext w w' := by
  have ka := fun W => a_calls p hk W
  have kg := fun W => g_calls p hk W
  have ke := fun W => e_calls p hk W
  obtain ⟨b0, b1⟩ := hk.eb
  obtain ⟨b2, b3⟩ := hk.gb
  obtain ⟨b4, b5⟩ := hk.ab
  have q0 : IntKind.i64.wrap (aP p + gP p) = aP p + gP p := by rw [IntKind.wrap_i64]; omega
  have q1 : IntKind.i64.wrap (2 * (aP p + gP p)) = 2 * (aP p + gP p) := by rw [IntKind.wrap_i64]; omega
  have q2 : IntKind.i64.wrap (2 * (aP p + gP p) + eP p) = lPi p := by unfold lPi; rw [IntKind.wrap_i64]; omega
  generalize lPi p = Z at *
  generalize eP p = E at *
  generalize gP p = G at *
  generalize aP p = A at *
  clear hk b0 b1 b2 b3 b4 b5
  unfold planV planC
  go_enter Try.func87, Try.ntmps87
  go_wp2_with fail
  have r0 := heap_alloc_new w (.cells (planC p) 110)
  have k0 : ∀ W, Ext (w.alloc (.cells (planC p) 110)).drew W → W.heap[w.heap.size]? = some (.cells (planC p) 110) := fun W h => h.block r0
  have hx0 := Ext.alloc w (.cells (planC p) 110)
  have K0 := Lib.hid k0
  clear k0
  refine wp_region_rg Ext [(1, .known (.int .i64 A)), (3, .known (.int .i64 G)), (7, .known (.int .i64 E))] (by kernel_rfl) (by kernel_rfl) (by kernel_rfl) Ext.refl (fun _ _ _ => Ext.trans) ?_
  intro σ
  simp only
  refine rg_pure (x := planV p) rfl (by rfl) (fun W hW => exec_load (b := .pointer (some ⟨w.heap.size, 0, none⟩)) rfl rfl (loadLook (K0.out W hW))) ?_
  simp only [Nat.reduceAdd, Act.put, List.setIfInBounds_toArray, List.set_cons_zero, List.set_cons_succ]
  refine rg_known rfl (by rfl) (fun W hW hF => ?_) ?_
  · go_simp
    refine (ka W).mono ?_
    rintro e W' ⟨rfl, h⟩
    exact ⟨_, rfl, h, rfl⟩
  simp only [Nat.reduceAdd, Act.put, List.setIfInBounds_toArray, List.set_cons_zero, List.set_cons_succ]
  refine rg_pure (x := planV p) rfl (by rfl) (fun W hW => exec_load (b := .pointer (some ⟨w.heap.size, 0, none⟩)) rfl rfl (loadLook (K0.out W hW))) ?_
  simp only [Nat.reduceAdd, Act.put, List.setIfInBounds_toArray, List.set_cons_zero, List.set_cons_succ]
  refine rg_known rfl (by rfl) (fun W hW hF => ?_) ?_
  · go_simp
    refine (kg W).mono ?_
    rintro e W' ⟨rfl, h⟩
    exact ⟨_, rfl, h, rfl⟩
  simp only [Nat.reduceAdd, Act.put, List.setIfInBounds_toArray, List.set_cons_zero, List.set_cons_succ]
  refine rg_pure (x := ?_) rfl (by rfl) (fun W hW => ?_) ?_; rotate_left
  · go_simp; with_reducible rfl
  simp only [Nat.reduceAdd, Act.put, List.setIfInBounds_toArray, List.set_cons_zero, List.set_cons_succ]
  refine rg_pure (x := ?_) rfl (by rfl) (fun W hW => ?_) ?_; rotate_left
  · go_simp; with_reducible rfl
  simp only [Nat.reduceAdd, Act.put, List.setIfInBounds_toArray, List.set_cons_zero, List.set_cons_succ]
  refine rg_pure (x := planV p) rfl (by rfl) (fun W hW => exec_load (b := .pointer (some ⟨w.heap.size, 0, none⟩)) rfl rfl (loadLook (K0.out W hW))) ?_
  simp only [Nat.reduceAdd, Act.put, List.setIfInBounds_toArray, List.set_cons_zero, List.set_cons_succ]
  refine rg_known rfl (by rfl) (fun W hW hF => ?_) ?_
  · go_simp
    refine (ke W).mono ?_
    rintro e W' ⟨rfl, h⟩
    exact ⟨_, rfl, h, rfl⟩
  simp only [Nat.reduceAdd, Act.put, List.setIfInBounds_toArray, List.set_cons_zero, List.set_cons_succ]
  refine rg_pure (x := ?_) rfl (by rfl) (fun W hW => ?_) ?_; rotate_left
  · go_simp; with_reducible rfl
  simp only [Nat.reduceAdd, Act.put, List.setIfInBounds_toArray, List.set_cons_zero, List.set_cons_succ]
  refine rg_pure (x := ?_) rfl (by rfl) (fun W hW => ?_) ?_; rotate_left
  · go_simp; with_reducible rfl
  simp only [Nat.reduceAdd, Act.put, List.setIfInBounds_toArray, List.set_cons_zero, List.set_cons_succ]
  refine rg_done fun w5 hW hF => ?_
  have hx5 := hx0.trans (Ext.of_drew hW)
  clear hF hW K0 r0
  go_wp2_with fail
  go_ret
  exact ⟨rfl, hx5⟩

/-- Numbers that no sum leads out of the range. -/
structure Mild (p : PlanD) : Prop where
  pi0 : -1099511627776 ≤ p.pi
  pi1 : p.pi ≤ 1099511627776
  w0 : -1099511627776 ≤ p.window
  w1 : p.window ≤ 1099511627776
  c0 : -1099511627776 ≤ p.cap
  c1 : p.cap ≤ 1099511627776
  s0 : -1099511627776 ≤ p.sendOff
  s1 : p.sendOff ≤ 1099511627776

set_option maxRecDepth 100000 in
set_option maxHeartbeats 2000000 in
theorem leastWindow_calls (p : PlanD) (hk : Known p) (h1 : -1099511627776 ≤ p.pi) (h2 : p.pi ≤ 1099511627776) (w : World) : Calls Try.prog 88 #[planV p] w fun e w' => e = .returned (.int .i64 (lWin p)) ∧ Ext w w' := by
  have ke := fun W => e_calls p hk W
  obtain ⟨b0, b1⟩ := hk.eb
  have q0 : IntKind.i64.wrap (p.pi + eP p) = lWin p := by unfold lWin; rw [IntKind.wrap_i64]; omega
  generalize lWin p = Z at *
  generalize eP p = E at *
  clear hk b0 b1 h1 h2
  unfold planV planC
  go_enter Try.func88, Try.ntmps88
  go_wp2_with fail
  have r0 := heap_alloc_new w (.cells (planC p) 110)
  have k0 : ∀ W, Ext (w.alloc (.cells (planC p) 110)).drew W → W.heap[w.heap.size]? = some (.cells (planC p) 110) := fun W h => h.block r0
  have hx0 := Ext.alloc w (.cells (planC p) 110)
  have K0 := Lib.hid k0
  clear k0
  refine wp_region_rg Ext [(4, .known (.int .i64 E))] (by kernel_rfl) (by kernel_rfl) (by kernel_rfl) Ext.refl (fun _ _ _ => Ext.trans) ?_
  intro σ
  simp only
  refine rg_pure (x := ?_) rfl (by rfl) (fun W hW => ?_) ?_; rotate_left
  · go_simp; with_reducible rfl
  simp only [Nat.reduceAdd, Act.put, List.setIfInBounds_toArray, List.set_cons_zero, List.set_cons_succ]
  refine rg_pure (x := ?_) rfl (by rfl) (fun W hW => ?_) ?_; rotate_left
  · go_simp; with_reducible rfl
  simp only [Nat.reduceAdd, Act.put, List.setIfInBounds_toArray, List.set_cons_zero, List.set_cons_succ]
  refine rg_pure (x := .int .i64 p.pi) rfl (by rfl) (fun W hW => exec_load (b := .pointer (some ⟨w.heap.size, 9, none⟩)) rfl rfl (loadI64 (planCell (K0.out W hW) (i := 9) rfl))) ?_
  simp only [Nat.reduceAdd, Act.put, List.setIfInBounds_toArray, List.set_cons_zero, List.set_cons_succ]
  refine rg_pure (x := planV p) rfl (by rfl) (fun W hW => exec_load (b := .pointer (some ⟨w.heap.size, 0, none⟩)) rfl rfl (loadLook (K0.out W hW))) ?_
  simp only [Nat.reduceAdd, Act.put, List.setIfInBounds_toArray, List.set_cons_zero, List.set_cons_succ]
  refine rg_known rfl (by rfl) (fun W hW hF => ?_) ?_
  · go_simp
    refine (ke W).mono ?_
    rintro e W' ⟨rfl, h⟩
    exact ⟨_, rfl, h, rfl⟩
  simp only [Nat.reduceAdd, Act.put, List.setIfInBounds_toArray, List.set_cons_zero, List.set_cons_succ]
  refine rg_pure (x := ?_) rfl (by rfl) (fun W hW => ?_) ?_; rotate_left
  · go_simp; with_reducible rfl
  simp only [Nat.reduceAdd, Act.put, List.setIfInBounds_toArray, List.set_cons_zero, List.set_cons_succ]
  refine rg_pure (x := ?_) rfl (by rfl) (fun W hW => ?_) ?_; rotate_left
  · go_simp; with_reducible rfl
  simp only [Nat.reduceAdd, Act.put, List.setIfInBounds_toArray, List.set_cons_zero, List.set_cons_succ]
  refine rg_done fun w5 hW hF => ?_
  have hx5 := hx0.trans (Ext.of_drew hW)
  clear hF hW K0 r0
  go_wp2_with fail
  go_ret
  exact ⟨rfl, hx5⟩

set_option maxRecDepth 100000 in
set_option maxHeartbeats 2000000 in
theorem leastCap_calls (p : PlanD) (hk : Known p) (w : World) : Calls Try.prog 89 #[planV p] w fun e w' => e = .returned (.int .i64 (lCap p)) ∧ Ext w w' := by
  have ka := fun W => a_calls p hk W
  have kg := fun W => g_calls p hk W
  have ke := fun W => e_calls p hk W
  obtain ⟨b0, b1⟩ := hk.eb
  obtain ⟨b2, b3⟩ := hk.gb
  obtain ⟨b4, b5⟩ := hk.ab
  have q0 : IntKind.i64.wrap (2 * gP p) = 2 * gP p := by rw [IntKind.wrap_i64]; omega
  have q1 : IntKind.i64.wrap (aP p + 2 * gP p) = aP p + 2 * gP p := by rw [IntKind.wrap_i64]; omega
  have q2 : IntKind.i64.wrap (2 * eP p) = 2 * eP p := by rw [IntKind.wrap_i64]; omega
  have q3 : IntKind.i64.wrap (aP p + 2 * gP p + 2 * eP p) = lCap p := by unfold lCap; rw [IntKind.wrap_i64]; omega
  generalize lCap p = Z at *
  generalize eP p = E at *
  generalize gP p = G at *
  generalize aP p = A at *
  clear hk b0 b1 b2 b3 b4 b5
  unfold planV planC
  go_enter Try.func89, Try.ntmps89
  go_wp2_with fail
  have r0 := heap_alloc_new w (.cells (planC p) 110)
  have k0 : ∀ W, Ext (w.alloc (.cells (planC p) 110)).drew W → W.heap[w.heap.size]? = some (.cells (planC p) 110) := fun W h => h.block r0
  have hx0 := Ext.alloc w (.cells (planC p) 110)
  have K0 := Lib.hid k0
  clear k0
  refine wp_region_rg Ext [(1, .known (.int .i64 A)), (3, .known (.int .i64 G)), (7, .known (.int .i64 E))] (by kernel_rfl) (by kernel_rfl) (by kernel_rfl) Ext.refl (fun _ _ _ => Ext.trans) ?_
  intro σ
  simp only
  refine rg_pure (x := planV p) rfl (by rfl) (fun W hW => exec_load (b := .pointer (some ⟨w.heap.size, 0, none⟩)) rfl rfl (loadLook (K0.out W hW))) ?_
  simp only [Nat.reduceAdd, Act.put, List.setIfInBounds_toArray, List.set_cons_zero, List.set_cons_succ]
  refine rg_known rfl (by rfl) (fun W hW hF => ?_) ?_
  · go_simp
    refine (ka W).mono ?_
    rintro e W' ⟨rfl, h⟩
    exact ⟨_, rfl, h, rfl⟩
  simp only [Nat.reduceAdd, Act.put, List.setIfInBounds_toArray, List.set_cons_zero, List.set_cons_succ]
  refine rg_pure (x := planV p) rfl (by rfl) (fun W hW => exec_load (b := .pointer (some ⟨w.heap.size, 0, none⟩)) rfl rfl (loadLook (K0.out W hW))) ?_
  simp only [Nat.reduceAdd, Act.put, List.setIfInBounds_toArray, List.set_cons_zero, List.set_cons_succ]
  refine rg_known rfl (by rfl) (fun W hW hF => ?_) ?_
  · go_simp
    refine (kg W).mono ?_
    rintro e W' ⟨rfl, h⟩
    exact ⟨_, rfl, h, rfl⟩
  simp only [Nat.reduceAdd, Act.put, List.setIfInBounds_toArray, List.set_cons_zero, List.set_cons_succ]
  refine rg_pure (x := ?_) rfl (by rfl) (fun W hW => ?_) ?_; rotate_left
  · go_simp; with_reducible rfl
  simp only [Nat.reduceAdd, Act.put, List.setIfInBounds_toArray, List.set_cons_zero, List.set_cons_succ]
  refine rg_pure (x := ?_) rfl (by rfl) (fun W hW => ?_) ?_; rotate_left
  · go_simp; with_reducible rfl
  simp only [Nat.reduceAdd, Act.put, List.setIfInBounds_toArray, List.set_cons_zero, List.set_cons_succ]
  refine rg_pure (x := planV p) rfl (by rfl) (fun W hW => exec_load (b := .pointer (some ⟨w.heap.size, 0, none⟩)) rfl rfl (loadLook (K0.out W hW))) ?_
  simp only [Nat.reduceAdd, Act.put, List.setIfInBounds_toArray, List.set_cons_zero, List.set_cons_succ]
  refine rg_known rfl (by rfl) (fun W hW hF => ?_) ?_
  · go_simp
    refine (ke W).mono ?_
    rintro e W' ⟨rfl, h⟩
    exact ⟨_, rfl, h, rfl⟩
  simp only [Nat.reduceAdd, Act.put, List.setIfInBounds_toArray, List.set_cons_zero, List.set_cons_succ]
  refine rg_pure (x := ?_) rfl (by rfl) (fun W hW => ?_) ?_; rotate_left
  · go_simp; with_reducible rfl
  simp only [Nat.reduceAdd, Act.put, List.setIfInBounds_toArray, List.set_cons_zero, List.set_cons_succ]
  refine rg_pure (x := ?_) rfl (by rfl) (fun W hW => ?_) ?_; rotate_left
  · go_simp; with_reducible rfl
  simp only [Nat.reduceAdd, Act.put, List.setIfInBounds_toArray, List.set_cons_zero, List.set_cons_succ]
  refine rg_pure (x := ?_) rfl (by rfl) (fun W hW => ?_) ?_; rotate_left
  · go_simp; with_reducible rfl
  simp only [Nat.reduceAdd, Act.put, List.setIfInBounds_toArray, List.set_cons_zero, List.set_cons_succ]
  refine rg_done fun w5 hW hF => ?_
  have hx5 := hx0.trans (Ext.of_drew hW)
  clear hF hW K0 r0
  go_wp2_with fail
  go_ret
  exact ⟨rfl, hx5⟩

set_option maxRecDepth 100000 in
set_option maxHeartbeats 2000000 in
theorem leastOff_calls (p : PlanD) (h1 : -1099511627776 ≤ p.window) (h2 : p.window ≤ 1099511627776) (h3 : -1099511627776 ≤ p.cap) (h4 : p.cap ≤ 1099511627776) (h5 : -1099511627776 ≤ p.pi) (h6 : p.pi ≤ 1099511627776) (w : World) : Calls Try.prog 90 #[planV p] w fun e w' => e = .returned (.int .i64 (lOff p)) ∧ Ext w w' := by
  have q0 : IntKind.i64.wrap (p.window + p.cap) = p.window + p.cap := by rw [IntKind.wrap_i64]; omega
  have q1 : IntKind.i64.wrap (p.window + p.cap + p.pi) = lOff p := by unfold lOff; rw [IntKind.wrap_i64]; omega
  generalize lOff p = Z at *
  clear h1 h2 h3 h4 h5 h6
  unfold planV planC
  go_enter Try.func90, Try.ntmps90
  go_wp2_with fail
  go_ret
  exact ⟨rfl, Ext.alloc _ _⟩

set_option maxRecDepth 100000 in
set_option maxHeartbeats 2000000 in
theorem leastSlot_calls (p : PlanD) (hk : Known p) (hm : Mild p) (w : World) : Calls Try.prog 64 #[planV p] w fun e w' => e = .returned (.int .i64 (lSlot p)) ∧ Ext w w' := by
  obtain ⟨h1, h2, h3, h4, h5, h6, h7, h8⟩ := hm
  have a0 := hk.a0
  have a1 := hk.a1
  have d0 := hk.d0
  have d1 := hk.d1
  have d2 := hk.d2
  have q0 : IntKind.i64.wrap (p.sendOff + p.window) = p.sendOff + p.window := by rw [IntKind.wrap_i64]; omega
  have q1 : IntKind.i64.wrap (p.dmax + p.air) = p.dmax + p.air := by rw [IntKind.wrap_i64]; omega
  have q2 : IntKind.i64.wrap (2 * (p.dmax + p.air)) = 2 * (p.dmax + p.air) := by rw [IntKind.wrap_i64]; omega
  have q3 : IntKind.i64.wrap (p.sendOff + p.window + 2 * (p.dmax + p.air)) = p.sendOff + p.window + 2 * (p.dmax + p.air) := by rw [IntKind.wrap_i64]; omega
  have q4 : IntKind.i64.wrap (p.sendOff + p.window + 2 * (p.dmax + p.air) + p.cap) = p.sendOff + p.window + 2 * (p.dmax + p.air) + p.cap := by rw [IntKind.wrap_i64]; omega
  have q5 : IntKind.i64.wrap (p.sendOff + p.window + 2 * (p.dmax + p.air) + p.cap + p.pi) = p.sendOff + p.window + 2 * (p.dmax + p.air) + p.cap + p.pi := by rw [IntKind.wrap_i64]; omega
  have q6 : IntKind.i64.wrap (p.sendOff + p.window + 2 * (p.dmax + p.air) + p.cap + p.pi + 8) = lSlot p := by unfold lSlot; rw [IntKind.wrap_i64]; omega
  generalize lSlot p = Z at *
  clear h1 h2 h3 h4 h5 h6 h7 h8 a0 a1 d0 d1 d2 hk
  unfold planV planC
  go_enter Try.func64, Try.ntmps64
  go_wp2_with fail
  go_ret
  exact ⟨rfl, Ext.alloc _ _⟩

set_option maxRecDepth 100000 in
set_option maxHeartbeats 2000000 in
theorem leastDelta_calls (p : PlanD) (hk : Known p) (hq0 : 1 ≤ p.queue) (hq1 : p.queue ≤ 64) (hb0 : 1 ≤ p.burst) (hb1 : p.burst ≤ 8) (h1 : -1099511627776 ≤ p.pi) (h2 : p.pi ≤ 1099511627776) (w : World) : Calls Try.prog 91 #[planV p] w fun e w' => e = .returned (.int .i64 (lDelta p)) ∧ Ext w w' := by
  have kr := fun W => round_calls p hk W
  obtain ⟨b0, b1⟩ := hk.rd
  have q0 : IntKind.i64.wrap (p.queue + p.burst) = p.queue + p.burst := by rw [IntKind.wrap_i64]; omega
  have q1 : IntKind.i64.wrap (p.queue + p.burst - 1) = p.queue + p.burst - 1 := by rw [IntKind.wrap_i64]; omega
  have d0 : 0 ≤ (p.queue + p.burst - 1) / p.burst := Int.ediv_nonneg (by omega) (by omega)
  have d1 : (p.queue + p.burst - 1) / p.burst ≤ 71 := by
    have := Int.ediv_le_self p.burst (a := p.queue + p.burst - 1) (by omega)
    omega
  have q2 : IntKind.i64.wrap ((p.queue + p.burst - 1).tdiv p.burst) = (p.queue + p.burst - 1) / p.burst := by rw [Int.tdiv_eq_ediv_of_nonneg (by omega), IntKind.wrap_i64]; omega
  have q3 : IntKind.i64.wrap ((p.queue + p.burst - 1) / p.burst + 3) = (p.queue + p.burst - 1) / p.burst + 3 := by rw [IntKind.wrap_i64]; omega
  have m0 : 0 ≤ ((p.queue + p.burst - 1) / p.burst + 3) * rd p := Int.mul_nonneg (by omega) (by omega)
  have m1 : ((p.queue + p.burst - 1) / p.burst + 3) * rd p ≤ 74 * 16777216 := Int.mul_le_mul (by omega) b1 (by omega) (by omega)
  have q4 : IntKind.i64.wrap (((p.queue + p.burst - 1) / p.burst + 3) * rd p) = ((p.queue + p.burst - 1) / p.burst + 3) * rd p := by rw [IntKind.wrap_i64]; omega
  have q5 : IntKind.i64.wrap (2 * p.pi) = 2 * p.pi := by rw [IntKind.wrap_i64]; omega
  have q6 : IntKind.i64.wrap (((p.queue + p.burst - 1) / p.burst + 3) * rd p + 2 * p.pi) = lDelta p := by unfold lDelta; rw [IntKind.wrap_i64]; omega
  have q7 : ¬ p.burst = 0 := by omega
  generalize lDelta p = Z at *
  generalize (p.queue + p.burst - 1) / p.burst = X at *
  generalize rd p = R at *
  clear hk b0 b1 h1 h2 hq0 hq1 hb0 hb1 d0 d1 m0 m1
  unfold planV planC
  go_enter Try.func91, Try.ntmps91
  go_wp2_with fail
  have r0 := heap_alloc_new w (.cells (planC p) 110)
  have k0 : ∀ W, Ext (w.alloc (.cells (planC p) 110)).drew W → W.heap[w.heap.size]? = some (.cells (planC p) 110) := fun W h => h.block r0
  have hx0 := Ext.alloc w (.cells (planC p) 110)
  have K0 := Lib.hid k0
  clear k0
  refine wp_region_rg Ext [(14, .known (.int .i64 R))] (by kernel_rfl) (by kernel_rfl) (by kernel_rfl) Ext.refl (fun _ _ _ => Ext.trans) ?_
  intro σ
  simp only
  refine rg_pure (x := ?_) rfl (by rfl) (fun W hW => ?_) ?_; rotate_left
  · go_simp; with_reducible rfl
  simp only [Nat.reduceAdd, Act.put, List.setIfInBounds_toArray, List.set_cons_zero, List.set_cons_succ]
  refine rg_pure (x := ?_) rfl (by rfl) (fun W hW => ?_) ?_; rotate_left
  · go_simp; with_reducible rfl
  simp only [Nat.reduceAdd, Act.put, List.setIfInBounds_toArray, List.set_cons_zero, List.set_cons_succ]
  refine rg_pure (x := .int .i64 p.queue) rfl (by rfl) (fun W hW => exec_load (b := .pointer (some ⟨w.heap.size, 12, none⟩)) rfl rfl (loadInt (planCell (K0.out W hW) (i := 12) rfl))) ?_
  simp only [Nat.reduceAdd, Act.put, List.setIfInBounds_toArray, List.set_cons_zero, List.set_cons_succ]
  refine rg_pure (x := ?_) rfl (by rfl) (fun W hW => ?_) ?_; rotate_left
  · go_simp; with_reducible rfl
  simp only [Nat.reduceAdd, Act.put, List.setIfInBounds_toArray, List.set_cons_zero, List.set_cons_succ]
  refine rg_pure (x := ?_) rfl (by rfl) (fun W hW => ?_) ?_; rotate_left
  · go_simp; with_reducible rfl
  simp only [Nat.reduceAdd, Act.put, List.setIfInBounds_toArray, List.set_cons_zero, List.set_cons_succ]
  refine rg_pure (x := .int .i64 p.burst) rfl (by rfl) (fun W hW => exec_load (b := .pointer (some ⟨w.heap.size, 13, none⟩)) rfl rfl (loadInt (planCell (K0.out W hW) (i := 13) rfl))) ?_
  simp only [Nat.reduceAdd, Act.put, List.setIfInBounds_toArray, List.set_cons_zero, List.set_cons_succ]
  refine rg_pure (x := ?_) rfl (by rfl) (fun W hW => ?_) ?_; rotate_left
  · go_simp; with_reducible rfl
  simp only [Nat.reduceAdd, Act.put, List.setIfInBounds_toArray, List.set_cons_zero, List.set_cons_succ]
  refine rg_pure (x := ?_) rfl (by rfl) (fun W hW => ?_) ?_; rotate_left
  · go_simp; with_reducible rfl
  simp only [Nat.reduceAdd, Act.put, List.setIfInBounds_toArray, List.set_cons_zero, List.set_cons_succ]
  refine rg_pure (x := ?_) rfl (by rfl) (fun W hW => ?_) ?_; rotate_left
  · go_simp; with_reducible rfl
  simp only [Nat.reduceAdd, Act.put, List.setIfInBounds_toArray, List.set_cons_zero, List.set_cons_succ]
  refine rg_pure (x := ?_) rfl (by rfl) (fun W hW => ?_) ?_; rotate_left
  · go_simp; with_reducible rfl
  simp only [Nat.reduceAdd, Act.put, List.setIfInBounds_toArray, List.set_cons_zero, List.set_cons_succ]
  refine rg_pure (x := .int .i64 p.burst) rfl (by rfl) (fun W hW => exec_load (b := .pointer (some ⟨w.heap.size, 13, none⟩)) rfl rfl (loadInt (planCell (K0.out W hW) (i := 13) rfl))) ?_
  simp only [Nat.reduceAdd, Act.put, List.setIfInBounds_toArray, List.set_cons_zero, List.set_cons_succ]
  refine rg_pure (x := ?_) rfl (by rfl) (fun W hW => ?_) ?_; rotate_left
  · go_simp; with_reducible rfl
  simp only [Nat.reduceAdd, Act.put, List.setIfInBounds_toArray, List.set_cons_zero, List.set_cons_succ]
  refine rg_pure (x := ?_) rfl (by rfl) (fun W hW => ?_) ?_; rotate_left
  · go_simp; with_reducible rfl
  simp only [Nat.reduceAdd, Act.put, List.setIfInBounds_toArray, List.set_cons_zero, List.set_cons_succ]
  refine rg_pure (x := planV p) rfl (by rfl) (fun W hW => exec_load (b := .pointer (some ⟨w.heap.size, 0, none⟩)) rfl rfl (loadLook (K0.out W hW))) ?_
  simp only [Nat.reduceAdd, Act.put, List.setIfInBounds_toArray, List.set_cons_zero, List.set_cons_succ]
  refine rg_known rfl (by rfl) (fun W hW hF => ?_) ?_
  · go_simp
    refine (kr W).mono ?_
    rintro e W' ⟨rfl, h⟩
    exact ⟨_, rfl, h, rfl⟩
  simp only [Nat.reduceAdd, Act.put, List.setIfInBounds_toArray, List.set_cons_zero, List.set_cons_succ]
  refine rg_pure (x := ?_) rfl (by rfl) (fun W hW => ?_) ?_; rotate_left
  · go_simp; with_reducible rfl
  simp only [Nat.reduceAdd, Act.put, List.setIfInBounds_toArray, List.set_cons_zero, List.set_cons_succ]
  refine rg_pure (x := ?_) rfl (by rfl) (fun W hW => ?_) ?_; rotate_left
  · go_simp; with_reducible rfl
  simp only [Nat.reduceAdd, Act.put, List.setIfInBounds_toArray, List.set_cons_zero, List.set_cons_succ]
  refine rg_pure (x := ?_) rfl (by rfl) (fun W hW => ?_) ?_; rotate_left
  · go_simp; with_reducible rfl
  simp only [Nat.reduceAdd, Act.put, List.setIfInBounds_toArray, List.set_cons_zero, List.set_cons_succ]
  refine rg_pure (x := .int .i64 p.pi) rfl (by rfl) (fun W hW => exec_load (b := .pointer (some ⟨w.heap.size, 9, none⟩)) rfl rfl (loadI64 (planCell (K0.out W hW) (i := 9) rfl))) ?_
  simp only [Nat.reduceAdd, Act.put, List.setIfInBounds_toArray, List.set_cons_zero, List.set_cons_succ]
  refine rg_pure (x := ?_) rfl (by rfl) (fun W hW => ?_) ?_; rotate_left
  · go_simp; with_reducible rfl
  simp only [Nat.reduceAdd, Act.put, List.setIfInBounds_toArray, List.set_cons_zero, List.set_cons_succ]
  refine rg_pure (x := ?_) rfl (by rfl) (fun W hW => ?_) ?_; rotate_left
  · go_simp; with_reducible rfl
  simp only [Nat.reduceAdd, Act.put, List.setIfInBounds_toArray, List.set_cons_zero, List.set_cons_succ]
  refine rg_pure (x := ?_) rfl (by rfl) (fun W hW => ?_) ?_; rotate_left
  · go_simp; with_reducible rfl
  simp only [Nat.reduceAdd, Act.put, List.setIfInBounds_toArray, List.set_cons_zero, List.set_cons_succ]
  refine rg_done fun w5 hW hF => ?_
  have hx5 := hx0.trans (Ext.of_drew hW)
  clear hF hW K0 r0
  go_wp2_with fail
  go_ret
  exact ⟨rfl, hx5⟩

set_option maxRecDepth 100000 in
set_option maxHeartbeats 2000000 in
theorem pi_calls (p : PlanD) (hk : Known p) (w : World) : Calls Try.prog 106 #[planV p] w fun e w' => e = .returned (.bool (c4 p)) ∧ Ext w w' := by
  have kl := fun W => leastPi_calls p hk W
  have ki := fun z W => in_callsX p.pi z 1048576 W
  unfold c4
  generalize lPi p = Z at *
  unfold planV planC
  go_enter Try.func106, Try.ntmps106
  go_wp2_with fail
  have r0 := heap_alloc_new w (.cells (planC p) 110)
  have k0 : ∀ W, Ext (w.alloc (.cells (planC p) 110)).drew W → W.heap[w.heap.size]? = some (.cells (planC p) 110) := fun W h => h.block r0
  have hx0 := Ext.alloc w (.cells (planC p) 110)
  have K0 := Lib.hid k0
  clear k0
  refine wp_region_rg Ext [(4, .known (.int .i64 Z)), (5, .known (.bool (inP p.pi Z 1048576)))] (by kernel_rfl) (by kernel_rfl) (by kernel_rfl) Ext.refl (fun _ _ _ => Ext.trans) ?_
  intro σ
  simp only
  refine rg_pure (x := ?_) rfl (by rfl) (fun W hW => ?_) ?_; rotate_left
  · go_simp; with_reducible rfl
  simp only [Nat.reduceAdd, Act.put, List.setIfInBounds_toArray, List.set_cons_zero, List.set_cons_succ]
  refine rg_pure (x := ?_) rfl (by rfl) (fun W hW => ?_) ?_; rotate_left
  · go_simp; with_reducible rfl
  simp only [Nat.reduceAdd, Act.put, List.setIfInBounds_toArray, List.set_cons_zero, List.set_cons_succ]
  refine rg_pure (x := .int .i64 p.pi) rfl (by rfl) (fun W hW => exec_load (b := .pointer (some ⟨w.heap.size, 9, none⟩)) rfl rfl (loadI64 (planCell (K0.out W hW) (i := 9) rfl))) ?_
  simp only [Nat.reduceAdd, Act.put, List.setIfInBounds_toArray, List.set_cons_zero, List.set_cons_succ]
  refine rg_pure (x := planV p) rfl (by rfl) (fun W hW => exec_load (b := .pointer (some ⟨w.heap.size, 0, none⟩)) rfl rfl (loadLook (K0.out W hW))) ?_
  simp only [Nat.reduceAdd, Act.put, List.setIfInBounds_toArray, List.set_cons_zero, List.set_cons_succ]
  refine rg_known rfl (by rfl) (fun W hW hF => ?_) ?_
  · go_simp
    refine (kl W).mono ?_
    rintro e W' ⟨rfl, h⟩
    exact ⟨_, rfl, h, rfl⟩
  simp only [Nat.reduceAdd, Act.put, List.setIfInBounds_toArray, List.set_cons_zero, List.set_cons_succ]
  refine rg_known rfl (by rfl) (fun W hW hF => ?_) ?_
  · go_simp
    refine (ki Z W).mono ?_
    rintro e W' ⟨rfl, h⟩
    exact ⟨_, rfl, h, rfl⟩
  simp only [Nat.reduceAdd, Act.put, List.setIfInBounds_toArray, List.set_cons_zero, List.set_cons_succ]
  refine rg_pure (x := ?_) rfl (by rfl) (fun W hW => ?_) ?_; rotate_left
  · go_simp; with_reducible rfl
  simp only [Nat.reduceAdd, Act.put, List.setIfInBounds_toArray, List.set_cons_zero, List.set_cons_succ]
  refine rg_done fun w5 hW hF => ?_
  have hx5 := hx0.trans (Ext.of_drew hW)
  clear hF hW K0 r0
  go_wp2_with fail
  go_ret
  exact ⟨rfl, hx5⟩

set_option maxRecDepth 100000 in
set_option maxHeartbeats 2000000 in
theorem window_calls (p : PlanD) (hk : Known p) (h1 : -1099511627776 ≤ p.pi) (h2 : p.pi ≤ 1099511627776) (w : World) : Calls Try.prog 107 #[planV p] w fun e w' => e = .returned (.bool (c5 p)) ∧ Ext w w' := by
  have kl := fun W => leastWindow_calls p hk h1 h2 W
  have ki := fun z W => in_callsX p.window z 1048576 W
  unfold c5
  generalize lWin p = Z at *
  unfold planV planC
  go_enter Try.func107, Try.ntmps107
  go_wp2_with fail
  have r0 := heap_alloc_new w (.cells (planC p) 110)
  have k0 : ∀ W, Ext (w.alloc (.cells (planC p) 110)).drew W → W.heap[w.heap.size]? = some (.cells (planC p) 110) := fun W h => h.block r0
  have hx0 := Ext.alloc w (.cells (planC p) 110)
  have K0 := Lib.hid k0
  clear k0
  refine wp_region_rg Ext [(4, .known (.int .i64 Z)), (5, .known (.bool (inP p.window Z 1048576)))] (by kernel_rfl) (by kernel_rfl) (by kernel_rfl) Ext.refl (fun _ _ _ => Ext.trans) ?_
  intro σ
  simp only
  refine rg_pure (x := ?_) rfl (by rfl) (fun W hW => ?_) ?_; rotate_left
  · go_simp; with_reducible rfl
  simp only [Nat.reduceAdd, Act.put, List.setIfInBounds_toArray, List.set_cons_zero, List.set_cons_succ]
  refine rg_pure (x := ?_) rfl (by rfl) (fun W hW => ?_) ?_; rotate_left
  · go_simp; with_reducible rfl
  simp only [Nat.reduceAdd, Act.put, List.setIfInBounds_toArray, List.set_cons_zero, List.set_cons_succ]
  refine rg_pure (x := .int .i64 p.window) rfl (by rfl) (fun W hW => exec_load (b := .pointer (some ⟨w.heap.size, 4, none⟩)) rfl rfl (loadI64 (planCell (K0.out W hW) (i := 4) rfl))) ?_
  simp only [Nat.reduceAdd, Act.put, List.setIfInBounds_toArray, List.set_cons_zero, List.set_cons_succ]
  refine rg_pure (x := planV p) rfl (by rfl) (fun W hW => exec_load (b := .pointer (some ⟨w.heap.size, 0, none⟩)) rfl rfl (loadLook (K0.out W hW))) ?_
  simp only [Nat.reduceAdd, Act.put, List.setIfInBounds_toArray, List.set_cons_zero, List.set_cons_succ]
  refine rg_known rfl (by rfl) (fun W hW hF => ?_) ?_
  · go_simp
    refine (kl W).mono ?_
    rintro e W' ⟨rfl, h⟩
    exact ⟨_, rfl, h, rfl⟩
  simp only [Nat.reduceAdd, Act.put, List.setIfInBounds_toArray, List.set_cons_zero, List.set_cons_succ]
  refine rg_known rfl (by rfl) (fun W hW hF => ?_) ?_
  · go_simp
    refine (ki Z W).mono ?_
    rintro e W' ⟨rfl, h⟩
    exact ⟨_, rfl, h, rfl⟩
  simp only [Nat.reduceAdd, Act.put, List.setIfInBounds_toArray, List.set_cons_zero, List.set_cons_succ]
  refine rg_pure (x := ?_) rfl (by rfl) (fun W hW => ?_) ?_; rotate_left
  · go_simp; with_reducible rfl
  simp only [Nat.reduceAdd, Act.put, List.setIfInBounds_toArray, List.set_cons_zero, List.set_cons_succ]
  refine rg_done fun w5 hW hF => ?_
  have hx5 := hx0.trans (Ext.of_drew hW)
  clear hF hW K0 r0
  go_wp2_with fail
  go_ret
  exact ⟨rfl, hx5⟩

set_option maxRecDepth 100000 in
set_option maxHeartbeats 2000000 in
theorem limit_calls (p : PlanD) (hk : Known p) (w : World) : Calls Try.prog 108 #[planV p] w fun e w' => e = .returned (.bool (c6 p)) ∧ Ext w w' := by
  have kl := fun W => leastCap_calls p hk W
  have ki := fun z W => in_callsX p.cap z 1048576 W
  unfold c6
  generalize lCap p = Z at *
  unfold planV planC
  go_enter Try.func108, Try.ntmps108
  go_wp2_with fail
  have r0 := heap_alloc_new w (.cells (planC p) 110)
  have k0 : ∀ W, Ext (w.alloc (.cells (planC p) 110)).drew W → W.heap[w.heap.size]? = some (.cells (planC p) 110) := fun W h => h.block r0
  have hx0 := Ext.alloc w (.cells (planC p) 110)
  have K0 := Lib.hid k0
  clear k0
  refine wp_region_rg Ext [(4, .known (.int .i64 Z)), (5, .known (.bool (inP p.cap Z 1048576)))] (by kernel_rfl) (by kernel_rfl) (by kernel_rfl) Ext.refl (fun _ _ _ => Ext.trans) ?_
  intro σ
  simp only
  refine rg_pure (x := ?_) rfl (by rfl) (fun W hW => ?_) ?_; rotate_left
  · go_simp; with_reducible rfl
  simp only [Nat.reduceAdd, Act.put, List.setIfInBounds_toArray, List.set_cons_zero, List.set_cons_succ]
  refine rg_pure (x := ?_) rfl (by rfl) (fun W hW => ?_) ?_; rotate_left
  · go_simp; with_reducible rfl
  simp only [Nat.reduceAdd, Act.put, List.setIfInBounds_toArray, List.set_cons_zero, List.set_cons_succ]
  refine rg_pure (x := .int .i64 p.cap) rfl (by rfl) (fun W hW => exec_load (b := .pointer (some ⟨w.heap.size, 10, none⟩)) rfl rfl (loadI64 (planCell (K0.out W hW) (i := 10) rfl))) ?_
  simp only [Nat.reduceAdd, Act.put, List.setIfInBounds_toArray, List.set_cons_zero, List.set_cons_succ]
  refine rg_pure (x := planV p) rfl (by rfl) (fun W hW => exec_load (b := .pointer (some ⟨w.heap.size, 0, none⟩)) rfl rfl (loadLook (K0.out W hW))) ?_
  simp only [Nat.reduceAdd, Act.put, List.setIfInBounds_toArray, List.set_cons_zero, List.set_cons_succ]
  refine rg_known rfl (by rfl) (fun W hW hF => ?_) ?_
  · go_simp
    refine (kl W).mono ?_
    rintro e W' ⟨rfl, h⟩
    exact ⟨_, rfl, h, rfl⟩
  simp only [Nat.reduceAdd, Act.put, List.setIfInBounds_toArray, List.set_cons_zero, List.set_cons_succ]
  refine rg_known rfl (by rfl) (fun W hW hF => ?_) ?_
  · go_simp
    refine (ki Z W).mono ?_
    rintro e W' ⟨rfl, h⟩
    exact ⟨_, rfl, h, rfl⟩
  simp only [Nat.reduceAdd, Act.put, List.setIfInBounds_toArray, List.set_cons_zero, List.set_cons_succ]
  refine rg_pure (x := ?_) rfl (by rfl) (fun W hW => ?_) ?_; rotate_left
  · go_simp; with_reducible rfl
  simp only [Nat.reduceAdd, Act.put, List.setIfInBounds_toArray, List.set_cons_zero, List.set_cons_succ]
  refine rg_done fun w5 hW hF => ?_
  have hx5 := hx0.trans (Ext.of_drew hW)
  clear hF hW K0 r0
  go_wp2_with fail
  go_ret
  exact ⟨rfl, hx5⟩

set_option maxRecDepth 100000 in
set_option maxHeartbeats 2000000 in
theorem sends_calls (p : PlanD) (h1 : -1099511627776 ≤ p.window) (h2 : p.window ≤ 1099511627776) (h3 : -1099511627776 ≤ p.cap) (h4 : p.cap ≤ 1099511627776) (h5 : -1099511627776 ≤ p.pi) (h6 : p.pi ≤ 1099511627776) (w : World) : Calls Try.prog 109 #[planV p] w fun e w' => e = .returned (.bool (c7 p)) ∧ Ext w w' := by
  have kl := fun W => leastOff_calls p h1 h2 h3 h4 h5 h6 W
  have ki := fun z W => in_callsX p.sendOff z 1048576 W
  unfold c7
  generalize lOff p = Z at *
  unfold planV planC
  go_enter Try.func109, Try.ntmps109
  go_wp2_with fail
  have r0 := heap_alloc_new w (.cells (planC p) 110)
  have k0 : ∀ W, Ext (w.alloc (.cells (planC p) 110)).drew W → W.heap[w.heap.size]? = some (.cells (planC p) 110) := fun W h => h.block r0
  have hx0 := Ext.alloc w (.cells (planC p) 110)
  have K0 := Lib.hid k0
  clear k0
  refine wp_region_rg Ext [(4, .known (.int .i64 Z)), (5, .known (.bool (inP p.sendOff Z 1048576)))] (by kernel_rfl) (by kernel_rfl) (by kernel_rfl) Ext.refl (fun _ _ _ => Ext.trans) ?_
  intro σ
  simp only
  refine rg_pure (x := ?_) rfl (by rfl) (fun W hW => ?_) ?_; rotate_left
  · go_simp; with_reducible rfl
  simp only [Nat.reduceAdd, Act.put, List.setIfInBounds_toArray, List.set_cons_zero, List.set_cons_succ]
  refine rg_pure (x := ?_) rfl (by rfl) (fun W hW => ?_) ?_; rotate_left
  · go_simp; with_reducible rfl
  simp only [Nat.reduceAdd, Act.put, List.setIfInBounds_toArray, List.set_cons_zero, List.set_cons_succ]
  refine rg_pure (x := .int .i64 p.sendOff) rfl (by rfl) (fun W hW => exec_load (b := .pointer (some ⟨w.heap.size, 3, none⟩)) rfl rfl (loadI64 (planCell (K0.out W hW) (i := 3) rfl))) ?_
  simp only [Nat.reduceAdd, Act.put, List.setIfInBounds_toArray, List.set_cons_zero, List.set_cons_succ]
  refine rg_pure (x := planV p) rfl (by rfl) (fun W hW => exec_load (b := .pointer (some ⟨w.heap.size, 0, none⟩)) rfl rfl (loadLook (K0.out W hW))) ?_
  simp only [Nat.reduceAdd, Act.put, List.setIfInBounds_toArray, List.set_cons_zero, List.set_cons_succ]
  refine rg_known rfl (by rfl) (fun W hW hF => ?_) ?_
  · go_simp
    refine (kl W).mono ?_
    rintro e W' ⟨rfl, h⟩
    exact ⟨_, rfl, h, rfl⟩
  simp only [Nat.reduceAdd, Act.put, List.setIfInBounds_toArray, List.set_cons_zero, List.set_cons_succ]
  refine rg_known rfl (by rfl) (fun W hW hF => ?_) ?_
  · go_simp
    refine (ki Z W).mono ?_
    rintro e W' ⟨rfl, h⟩
    exact ⟨_, rfl, h, rfl⟩
  simp only [Nat.reduceAdd, Act.put, List.setIfInBounds_toArray, List.set_cons_zero, List.set_cons_succ]
  refine rg_pure (x := ?_) rfl (by rfl) (fun W hW => ?_) ?_; rotate_left
  · go_simp; with_reducible rfl
  simp only [Nat.reduceAdd, Act.put, List.setIfInBounds_toArray, List.set_cons_zero, List.set_cons_succ]
  refine rg_done fun w5 hW hF => ?_
  have hx5 := hx0.trans (Ext.of_drew hW)
  clear hF hW K0 r0
  go_wp2_with fail
  go_ret
  exact ⟨rfl, hx5⟩

set_option maxRecDepth 100000 in
set_option maxHeartbeats 2000000 in
theorem plFits_calls (p : PlanD) (hk : Known p) (hm : Mild p) (w : World) : Calls Try.prog 110 #[planV p] w fun e w' => e = .returned (.bool (c8 p)) ∧ Ext w w' := by
  have kl := fun W => leastSlot_calls p hk hm W
  unfold c8
  generalize lSlot p = Z at *
  clear hk hm
  unfold planV planC
  go_enter Try.func110, Try.ntmps110
  go_wp2_with fail
  have r0 := heap_alloc_new w (.cells (planC p) 110)
  have k0 : ∀ W, Ext (w.alloc (.cells (planC p) 110)).drew W → W.heap[w.heap.size]? = some (.cells (planC p) 110) := fun W h => h.block r0
  have hx0 := Ext.alloc w (.cells (planC p) 110)
  have K0 := Lib.hid k0
  clear k0
  refine wp_region_rg Ext [(4, .known (.int .i64 Z))] (by kernel_rfl) (by kernel_rfl) (by kernel_rfl) Ext.refl (fun _ _ _ => Ext.trans) ?_
  intro σ
  simp only
  refine rg_pure (x := ?_) rfl (by rfl) (fun W hW => ?_) ?_; rotate_left
  · go_simp; with_reducible rfl
  simp only [Nat.reduceAdd, Act.put, List.setIfInBounds_toArray, List.set_cons_zero, List.set_cons_succ]
  refine rg_pure (x := ?_) rfl (by rfl) (fun W hW => ?_) ?_; rotate_left
  · go_simp; with_reducible rfl
  simp only [Nat.reduceAdd, Act.put, List.setIfInBounds_toArray, List.set_cons_zero, List.set_cons_succ]
  refine rg_pure (x := .int .i64 p.slot) rfl (by rfl) (fun W hW => exec_load (b := .pointer (some ⟨w.heap.size, 2, none⟩)) rfl rfl (loadI64 (planCell (K0.out W hW) (i := 2) rfl))) ?_
  simp only [Nat.reduceAdd, Act.put, List.setIfInBounds_toArray, List.set_cons_zero, List.set_cons_succ]
  refine rg_pure (x := planV p) rfl (by rfl) (fun W hW => exec_load (b := .pointer (some ⟨w.heap.size, 0, none⟩)) rfl rfl (loadLook (K0.out W hW))) ?_
  simp only [Nat.reduceAdd, Act.put, List.setIfInBounds_toArray, List.set_cons_zero, List.set_cons_succ]
  refine rg_known rfl (by rfl) (fun W hW hF => ?_) ?_
  · go_simp
    refine (kl W).mono ?_
    rintro e W' ⟨rfl, h⟩
    exact ⟨_, rfl, h, rfl⟩
  simp only [Nat.reduceAdd, Act.put, List.setIfInBounds_toArray, List.set_cons_zero, List.set_cons_succ]
  refine rg_pure (x := ?_) rfl (by rfl) (fun W hW => ?_) ?_; rotate_left
  · go_simp; with_reducible rfl
  simp only [Nat.reduceAdd, Act.put, List.setIfInBounds_toArray, List.set_cons_zero, List.set_cons_succ]
  refine rg_pure (x := ?_) rfl (by rfl) (fun W hW => ?_) ?_; rotate_left
  · go_simp; with_reducible rfl
  simp only [Nat.reduceAdd, Act.put, List.setIfInBounds_toArray, List.set_cons_zero, List.set_cons_succ]
  refine rg_done fun w5 hW hF => ?_
  have hx5 := hx0.trans (Ext.of_drew hW)
  clear hF hW K0 r0
  go_wp2_with fail
  go_ret
  exact ⟨rfl, hx5⟩

set_option maxRecDepth 100000 in
set_option maxHeartbeats 2000000 in
theorem delta_calls (p : PlanD) (hk : Known p) (hq0 : 1 ≤ p.queue) (hq1 : p.queue ≤ 64) (hb0 : 1 ≤ p.burst) (hb1 : p.burst ≤ 8) (h1 : -1099511627776 ≤ p.pi) (h2 : p.pi ≤ 1099511627776) (w : World) : Calls Try.prog 111 #[planV p] w fun e w' => e = .returned (.bool (c10 p)) ∧ Ext w w' := by
  have kl := fun W => leastDelta_calls p hk hq0 hq1 hb0 hb1 h1 h2 W
  have kr := fun W => round_calls p hk W
  have ki := fun y z W => in_callsX p.delta y z W
  obtain ⟨b0, b1⟩ := hk.rd
  have q0 : IntKind.i64.wrap (64 * rd p) = 64 * rd p := by rw [IntKind.wrap_i64]; omega
  unfold c10
  generalize lDelta p = Z at *
  generalize rd p = R at *
  clear hk hq0 hq1 hb0 hb1 h1 h2 b0 b1
  unfold planV planC
  go_enter Try.func111, Try.ntmps111
  go_wp2_with fail
  have r0 := heap_alloc_new w (.cells (planC p) 110)
  have k0 : ∀ W, Ext (w.alloc (.cells (planC p) 110)).drew W → W.heap[w.heap.size]? = some (.cells (planC p) 110) := fun W h => h.block r0
  have hx0 := Ext.alloc w (.cells (planC p) 110)
  have K0 := Lib.hid k0
  clear k0
  refine wp_region_rg Ext [(4, .known (.int .i64 Z)), (6, .known (.int .i64 R)), (8, .known (.bool (inP p.delta Z (64 * R))))] (by kernel_rfl) (by kernel_rfl) (by kernel_rfl) Ext.refl (fun _ _ _ => Ext.trans) ?_
  intro σ
  simp only
  refine rg_pure (x := ?_) rfl (by rfl) (fun W hW => ?_) ?_; rotate_left
  · go_simp; with_reducible rfl
  simp only [Nat.reduceAdd, Act.put, List.setIfInBounds_toArray, List.set_cons_zero, List.set_cons_succ]
  refine rg_pure (x := ?_) rfl (by rfl) (fun W hW => ?_) ?_; rotate_left
  · go_simp; with_reducible rfl
  simp only [Nat.reduceAdd, Act.put, List.setIfInBounds_toArray, List.set_cons_zero, List.set_cons_succ]
  refine rg_pure (x := .int .i64 p.delta) rfl (by rfl) (fun W hW => exec_load (b := .pointer (some ⟨w.heap.size, 11, none⟩)) rfl rfl (loadI64 (planCell (K0.out W hW) (i := 11) rfl))) ?_
  simp only [Nat.reduceAdd, Act.put, List.setIfInBounds_toArray, List.set_cons_zero, List.set_cons_succ]
  refine rg_pure (x := planV p) rfl (by rfl) (fun W hW => exec_load (b := .pointer (some ⟨w.heap.size, 0, none⟩)) rfl rfl (loadLook (K0.out W hW))) ?_
  simp only [Nat.reduceAdd, Act.put, List.setIfInBounds_toArray, List.set_cons_zero, List.set_cons_succ]
  refine rg_known rfl (by rfl) (fun W hW hF => ?_) ?_
  · go_simp
    refine (kl W).mono ?_
    rintro e W' ⟨rfl, h⟩
    exact ⟨_, rfl, h, rfl⟩
  simp only [Nat.reduceAdd, Act.put, List.setIfInBounds_toArray, List.set_cons_zero, List.set_cons_succ]
  refine rg_pure (x := planV p) rfl (by rfl) (fun W hW => exec_load (b := .pointer (some ⟨w.heap.size, 0, none⟩)) rfl rfl (loadLook (K0.out W hW))) ?_
  simp only [Nat.reduceAdd, Act.put, List.setIfInBounds_toArray, List.set_cons_zero, List.set_cons_succ]
  refine rg_known rfl (by rfl) (fun W hW hF => ?_) ?_
  · go_simp
    refine (kr W).mono ?_
    rintro e W' ⟨rfl, h⟩
    exact ⟨_, rfl, h, rfl⟩
  simp only [Nat.reduceAdd, Act.put, List.setIfInBounds_toArray, List.set_cons_zero, List.set_cons_succ]
  refine rg_pure (x := ?_) rfl (by rfl) (fun W hW => ?_) ?_; rotate_left
  · go_simp; with_reducible rfl
  simp only [Nat.reduceAdd, Act.put, List.setIfInBounds_toArray, List.set_cons_zero, List.set_cons_succ]
  refine rg_known rfl (by rfl) (fun W hW hF => ?_) ?_
  · go_simp
    refine (ki Z (64 * R) W).mono ?_
    rintro e W' ⟨rfl, h⟩
    exact ⟨_, rfl, h, rfl⟩
  simp only [Nat.reduceAdd, Act.put, List.setIfInBounds_toArray, List.set_cons_zero, List.set_cons_succ]
  refine rg_pure (x := ?_) rfl (by rfl) (fun W hW => ?_) ?_; rotate_left
  · go_simp; with_reducible rfl
  simp only [Nat.reduceAdd, Act.put, List.setIfInBounds_toArray, List.set_cons_zero, List.set_cons_succ]
  refine rg_done fun w5 hW hF => ?_
  have hx5 := hx0.trans (Ext.of_drew hW)
  clear hF hW K0 r0
  go_wp2_with fail
  go_ret
  exact ⟨rfl, hx5⟩

set_option maxRecDepth 100000 in
set_option maxHeartbeats 2000000 in
theorem horizon_calls (p : PlanD) (hk : Known p) (w : World) : Calls Try.prog 112 #[planV p] w fun e w' => e = .returned (.bool (c11 p)) ∧ Ext w w' := by
  have kr := fun W => round_calls p hk W
  have ki := fun y z W => in_callsX p.horizon y z W
  obtain ⟨b0, b1⟩ := hk.rd
  have q0 : IntKind.i64.wrap (40 * rd p) = 40 * rd p := by rw [IntKind.wrap_i64]; omega
  unfold c11
  generalize rd p = R at *
  clear hk b0 b1
  unfold planV planC
  go_enter Try.func112, Try.ntmps112
  go_wp2_with fail
  have r0 := heap_alloc_new w (.cells (planC p) 110)
  have k0 : ∀ W, Ext (w.alloc (.cells (planC p) 110)).drew W → W.heap[w.heap.size]? = some (.cells (planC p) 110) := fun W h => h.block r0
  have hx0 := Ext.alloc w (.cells (planC p) 110)
  have K0 := Lib.hid k0
  clear k0
  refine wp_region_rg Ext [(4, .known (.int .i64 R)), (6, .known (.bool (inP p.horizon (40 * R) 2147483648)))] (by kernel_rfl) (by kernel_rfl) (by kernel_rfl) Ext.refl (fun _ _ _ => Ext.trans) ?_
  intro σ
  simp only
  refine rg_pure (x := ?_) rfl (by rfl) (fun W hW => ?_) ?_; rotate_left
  · go_simp; with_reducible rfl
  simp only [Nat.reduceAdd, Act.put, List.setIfInBounds_toArray, List.set_cons_zero, List.set_cons_succ]
  refine rg_pure (x := ?_) rfl (by rfl) (fun W hW => ?_) ?_; rotate_left
  · go_simp; with_reducible rfl
  simp only [Nat.reduceAdd, Act.put, List.setIfInBounds_toArray, List.set_cons_zero, List.set_cons_succ]
  refine rg_pure (x := .int .i64 p.horizon) rfl (by rfl) (fun W hW => exec_load (b := .pointer (some ⟨w.heap.size, 15, none⟩)) rfl rfl (loadI64 (planCell (K0.out W hW) (i := 15) rfl))) ?_
  simp only [Nat.reduceAdd, Act.put, List.setIfInBounds_toArray, List.set_cons_zero, List.set_cons_succ]
  refine rg_pure (x := planV p) rfl (by rfl) (fun W hW => exec_load (b := .pointer (some ⟨w.heap.size, 0, none⟩)) rfl rfl (loadLook (K0.out W hW))) ?_
  simp only [Nat.reduceAdd, Act.put, List.setIfInBounds_toArray, List.set_cons_zero, List.set_cons_succ]
  refine rg_known rfl (by rfl) (fun W hW hF => ?_) ?_
  · go_simp
    refine (kr W).mono ?_
    rintro e W' ⟨rfl, h⟩
    exact ⟨_, rfl, h, rfl⟩
  simp only [Nat.reduceAdd, Act.put, List.setIfInBounds_toArray, List.set_cons_zero, List.set_cons_succ]
  refine rg_pure (x := ?_) rfl (by rfl) (fun W hW => ?_) ?_; rotate_left
  · go_simp; with_reducible rfl
  simp only [Nat.reduceAdd, Act.put, List.setIfInBounds_toArray, List.set_cons_zero, List.set_cons_succ]
  refine rg_known rfl (by rfl) (fun W hW hF => ?_) ?_
  · go_simp
    refine (ki (40 * R) 2147483648 W).mono ?_
    rintro e W' ⟨rfl, h⟩
    exact ⟨_, rfl, h, rfl⟩
  simp only [Nat.reduceAdd, Act.put, List.setIfInBounds_toArray, List.set_cons_zero, List.set_cons_succ]
  refine rg_pure (x := ?_) rfl (by rfl) (fun W hW => ?_) ?_; rotate_left
  · go_simp; with_reducible rfl
  simp only [Nat.reduceAdd, Act.put, List.setIfInBounds_toArray, List.set_cons_zero, List.set_cons_succ]
  refine rg_done fun w5 hW hF => ?_
  have hx5 := hx0.trans (Ext.of_drew hW)
  clear hF hW K0 r0
  go_wp2_with fail
  go_ret
  exact ⟨rfl, hx5⟩

set_option maxHeartbeats 2000000 in
theorem nodes_calls (p : PlanD) (w : World) : Calls Try.prog 83 #[planV p] w fun e w' => e = .returned (.bool (c1 p)) ∧ Ext w w' := by
  unfold c1
  cases hb : inP p.nodes 4 16 with
  | false =>
    unfold planV planC
    go_enter Try.func83, Try.ntmps83
    go_wp2_with fail
    refine (in_calls _ _ _ _).mono ?_
    rintro e w' ⟨rfl, rfl⟩
    rw [hb]
    go_wp2_with fail
    go_ret
    exact ⟨by simp, Ext.alloc _ _⟩
  | true =>
    obtain ⟨n0, n1⟩ := inP_iff.1 hb
    have q0 : IntKind.i64.wrap (p.nodes - 2) = p.nodes - 2 := by rw [IntKind.wrap_i64]; omega
    have q1 : IntKind.i64.wrap ((p.nodes - 2).tdiv 2) = (p.nodes - 2) / 2 := by rw [Int.tdiv_eq_ediv_of_nonneg (by omega), IntKind.wrap_i64]; omega
    clear n0 n1
    generalize (p.nodes - 2) / 2 = Z at *
    unfold planV planC
    go_enter Try.func83, Try.ntmps83
    go_wp2_with fail
    refine (in_calls _ _ _ _).mono ?_
    rintro e w' ⟨rfl, rfl⟩
    rw [hb]
    go_wp2_with fail
    refine (in_calls _ _ _ _).mono ?_
    rintro e w' ⟨rfl, rfl⟩
    go_wp2_with fail
    go_ret
    exact ⟨by simp, Ext.alloc _ _⟩

set_option maxHeartbeats 2000000 in
theorem air_calls (p : PlanD) (w : World) : Calls Try.prog 84 #[planV p] w fun e w' => e = .returned (.bool (c2 p)) ∧ Ext w w' := by
  unfold c2
  cases hb : inP p.air 1 1048576 with
  | false =>
    unfold planV planC
    go_enter Try.func84, Try.ntmps84
    go_wp2_with fail
    refine (in_calls _ _ _ _).mono ?_
    rintro e w' ⟨rfl, rfl⟩
    rw [hb]
    go_wp2_with fail
    go_ret
    exact ⟨by simp, Ext.alloc _ _⟩
  | true =>
    cases hd : decide (0 ≤ p.dmin) with
    | false =>
      unfold planV planC
      go_enter Try.func84, Try.ntmps84
      go_wp2_with fail
      refine (in_calls _ _ _ _).mono ?_
      rintro e w' ⟨rfl, rfl⟩
      rw [hb]
      go_wp2_with fail
      go_ret
      exact ⟨by simp, Ext.alloc _ _⟩
    | true =>
      unfold planV planC
      go_enter Try.func84, Try.ntmps84
      go_wp2_with fail
      refine (in_calls _ _ _ _).mono ?_
      rintro e w' ⟨rfl, rfl⟩
      rw [hb]
      go_wp2_with fail
      refine (in_calls _ _ _ _).mono ?_
      rintro e w' ⟨rfl, rfl⟩
      go_wp2_with fail
      go_ret
      exact ⟨by simp, Ext.alloc _ _⟩

set_option maxHeartbeats 2000000 in
theorem slot_calls (p : PlanD) (w : World) : Calls Try.prog 85 #[planV p] w fun e w' => e = .returned (.bool (c3 p)) ∧ Ext w w' := by
  unfold c3 planV planC
  go_enter Try.func85, Try.ntmps85
  go_wp2_with fail
  refine (in_calls _ _ _ _).mono ?_
  rintro e w' ⟨rfl, rfl⟩
  cases h0 : inP p.slot 1 1048576 with
  | false =>
    go_wp2_with fail
    go_ret
    exact ⟨by simp_all, Ext.alloc _ _⟩
  | true =>
  go_wp2_with fail
  refine (in_calls _ _ _ _).mono ?_
  rintro e w' ⟨rfl, rfl⟩
  go_wp2_with fail
  go_ret
  exact ⟨by simp_all, Ext.alloc _ _⟩

set_option maxHeartbeats 2000000 in
theorem queue_calls (p : PlanD) (w : World) : Calls Try.prog 62 #[planV p] w fun e w' => e = .returned (.bool (c9 p)) ∧ Ext w w' := by
  unfold c9 planV planC
  go_enter Try.func62, Try.ntmps62
  go_wp2_with fail
  refine (in_calls _ _ _ _).mono ?_
  rintro e w' ⟨rfl, rfl⟩
  cases h0 : inP p.queue 1 64 with
  | false =>
    go_wp2_with fail
    go_ret
    exact ⟨by simp_all, Ext.alloc _ _⟩
  | true =>
  go_wp2_with fail
  refine (in_calls _ _ _ _).mono ?_
  rintro e w' ⟨rfl, rfl⟩
  cases h1 : inP p.burst 1 8 with
  | false =>
    go_wp2_with fail
    go_ret
    exact ⟨by simp_all, Ext.alloc _ _⟩
  | true =>
  go_wp2_with fail
  refine (in_calls _ _ _ _).mono ?_
  rintro e w' ⟨rfl, rfl⟩
  go_wp2_with fail
  go_ret
  exact ⟨by simp_all, Ext.alloc _ _⟩
end Go.Proofs.Ytcdaelgnankmfaa.VPlan
