/- plan: Fit, where its course is known. -/
import Derived.Test.YtjhhcfadeankfaaVPlanF
import Derived.Test.YtjhhcfadeankfaaVPlanK
namespace Go.Proofs.Ytjhhcfadeankfaa.VPlan
open Go.RowKit Go.VBase Go.VRg Go.VPlan Go.VSeq Go.VOct VOct

def zeroD : PlanD := ⟨0, 0, 0, 0, 0, 0, 0, 0, 0, 0, 0, 0, 0, 0, 0, 0⟩
def baseD (w : PlanD) : PlanD := { zeroD with nodes := w.nodes, k := w.k, slot := 1, air := w.air, dmin := w.dmin, dmax := w.dmax, rho := w.rho, queue := w.queue, burst := w.burst, payload := w.payload }
def stepD (s : PlanD) : PlanD := leastD { s with slot := lSlot s }
def seqD (b : PlanD) : Nat → PlanD
  | 0 => leastD b
  | n + 1 => stepD (seqD b n)
def mildB (s : PlanD) : Bool := inP s.pi (-1099511627776) 1099511627776 && inP s.window (-1099511627776) 1099511627776 && inP s.cap (-1099511627776) 1099511627776 && inP s.sendOff (-1099511627776) 1099511627776
def fitB (wi : PlanD) (N : Nat) : Bool :=
  known (baseD wi) && c9 (baseD wi) && ((List.range (N + 1)).all fun j => known (seqD (baseD wi) j) && mildB (seqD (baseD wi) j)) &&
  ((List.range N).all fun j => decide ((seqD (baseD wi) j).slot < lSlot (seqD (baseD wi) j)) && decide (lSlot (seqD (baseD wi) j) ≤ 1048576)) &&
  decide (lSlot (seqD (baseD wi) N) ≤ (seqD (baseD wi) N).slot) && planOk (seqD (baseD wi) N)
theorem mild_of {s : PlanD} (h : mildB s = true) : Mild s := by
  unfold mildB at h
  simp only [Bool.and_eq_true, inP_iff] at h
  obtain ⟨⟨⟨⟨h1, h2⟩, h3, h4⟩, h5, h6⟩, h7, h8⟩ := h
  exact ⟨h1, h2, h3, h4, h5, h6, h7, h8⟩
theorem seq_queue (b : PlanD) : ∀ n, (seqD b n).queue = b.queue ∧ (seqD b n).burst = b.burst
  | 0 => ⟨rfl, rfl⟩
  | n + 1 => seq_queue b n

theorem storePlan {ops : Array Oper} {rest : List Oper} {o : Oper} {a : Act} {Q : Exit → Act → World → Prop} {W : World} {x y : Operand} {b : Nat} {T' : TypeId} {p q : PlanD}
    (h : W.heap[b]? = some (.cells (planC q) T')) (hgd : o.guard = none) (ho : o.op = .store 32 x y) (hx : a.eval x = .pointer (some ⟨b, 0, none⟩)) (hy : a.eval y = planV p)
    (hk : wpList Try.prog ops Q rest (a.put o.dst undef) (W.setRow b (planC p))) : wpList Try.prog ops Q (o :: rest) a W :=
  wpList_store_row hgd _ _ _ ho b (planC p) hx hy T' (planC q) h (by kernel_rfl) rfl (by unfold planC; simp [Value.oneCell']) hk
theorem buildP {T : TypeId} {ops : Array Oper} {rest : List Oper} {o : Oper} {a : Act} {Q : Exit → Act → World → Prop} {W : World} {parts : Array (Nat × Operand)} {q : PlanD}
    (hgd : o.guard = none) (ho : o.op = .build T parts) (hb : Try.prog.built T (parts.map fun (i, x) => (i, a.eval x)).toList = some (planC q))
    (hk : wpList Try.prog ops Q rest (a.put o.dst (planV q)) W) : wpList Try.prog ops Q (o :: rest) a W :=
  wpList_build hgd T parts ho (by rw [hb]; rfl) (by rw [hb]; exact hk)
theorem resPlan {fn : Func} {p u : Tmp} {T' : TypeId} {mk : Nat × Nat} {q : PlanD} {b : Nat} (h : fn.results = #[.cell p 32, .tmp u]) (tmps : Array Value) (w : World) (hp : tmps.getD p undef = .pointer (some ⟨b, 0, none⟩)) (hb : w.heap[b]? = some (.cells (planC q) T' mk)) :
    (results fn tmps).run Try.prog w = .ok (.tuple #[planV q, tmps.getD u undef]) w := by
  rw [results_cell_tmp h, hp]
  simp only [asAddr, Sem.run_pure, Result.andThen_ok, run_loadVar_row w b T' 32 (planC q) mk _ hb Try.underlying32 rfl (by kernel_rfl)]
  rfl
/-- The slot that lies in block B. -/
def slotOf (B : Nat) (W : World) : Int := match W.cell? ⟨B, 2, none⟩ with | some (.int _ z) => z | _ => 0

set_option maxRecDepth 100000 in
set_option maxHeartbeats 8000000 in
theorem Fit_calls (wi : PlanD) (N : Nat) (hfit : fitB wi N = true) (w : World) : Calls Try.prog 48 #[planV wi] w fun e w' => e = .returned (.tuple #[planV (seqD (baseD wi) N), .int .i64 0]) ∧ Ext w w' := by
  obtain ⟨b, hb⟩ : ∃ b, b = baseD wi := ⟨_, rfl⟩
  unfold fitB at hfit
  rw [← hb] at hfit ⊢
  simp only [Bool.and_eq_true, List.all_eq_true, List.mem_range, decide_eq_true_eq] at hfit
  obtain ⟨⟨⟨⟨⟨f1, f2⟩, f3⟩, f4⟩, f5⟩, f6⟩ := hfit
  have hkn := fun W => known_calls b W
  have hqu := fun W => queue_calls b W
  rw [f1] at hkn
  rw [f2] at hqu
  have g9 : (1 ≤ b.queue ∧ b.queue ≤ 64) ∧ (1 ≤ b.burst ∧ b.burst ≤ 8) := by
    unfold c9 at f2
    simp only [Bool.and_eq_true, inP_iff] at f2
    exact f2.1
  have hl0 := fun B W h => least_calls b (known_iff.1 f1) g9.1.1 g9.1.2 g9.2.1 g9.2.2 B W h
  have x0 := Ext.alloc w (.cells (planC wi) 32)
  have r0 := heap_alloc_new w (.cells (planC wi) 32)
  have s0 : (w.alloc (.cells (planC wi) 32)).heap.size = w.heap.size + 1 := by simp
  obtain ⟨W0, hW0⟩ : ∃ W0, W0 = w.alloc (.cells (planC wi) 32) := ⟨_, rfl⟩
  rw [← hW0] at x0 r0 s0
  have x1 := x0.thenAlloc (.cells (planC zeroD) 32)
  have r1 := heap_alloc_at W0 (.cells (planC zeroD) 32) s0
  have r10 := (Ext.alloc W0 (.cells (planC zeroD) 32)).block r0
  have s1 : (W0.alloc (.cells (planC zeroD) 32)).heap.size = w.heap.size + 1 + 1 := by simp [s0]
  obtain ⟨W1, hW1⟩ : ∃ W1, W1 = W0.alloc (.cells (planC zeroD) 32) := ⟨_, rfl⟩
  rw [← hW1] at x1 r1 r10 s1
  have x2 := x1.thenAlloc (.cells (planC zeroD) 32)
  have r2 := heap_alloc_at W1 (.cells (planC zeroD) 32) s1
  have r21 := (Ext.alloc W1 (.cells (planC zeroD) 32)).block r1
  have s2 : (W1.alloc (.cells (planC zeroD) 32)).heap.size = w.heap.size + 1 + 1 + 1 := by simp [s1]
  have x3 : Ext w ((W1.alloc (.cells (planC zeroD) 32)).setRow (w.heap.size + 1 + 1) (planC wi)) := x2.setRow (by omega) _
  have r3 := setRow_heap (W1.alloc (.cells (planC zeroD) 32)) (w.heap.size + 1 + 1) _ (planC wi) _ _ r2
  have r31 := (setRow_other (W1.alloc (.cells (planC zeroD) 32)) (w.heap.size + 1 + 1) (w.heap.size + 1) (planC wi) (by omega)).trans r21
  have s3 : ((W1.alloc (.cells (planC zeroD) 32)).setRow (w.heap.size + 1 + 1) (planC wi)).heap.size = w.heap.size + 1 + 1 + 1 := by simp [s1]
  obtain ⟨W3, hW3⟩ : ∃ W3, W3 = (W1.alloc (.cells (planC zeroD) 32)).setRow (w.heap.size + 1 + 1) (planC wi) := ⟨_, rfl⟩
  rw [← hW3] at x3 r3 r31 s3
  have HF := Lib.hid (And.intro f3 (And.intro f4 (And.intro f5 (And.intro f6 (And.intro g9 hb)))))
  clear f1 f2 f3 f4 f5 f6 g9 hb
  have H0 := Lib.hid hW0
  have H1 := Lib.hid hW1
  have H3 := Lib.hid hW3
  clear hW0 hW1 hW3 r21 x2 s2
  unfold planV planC
  go_enter Try.func48, Try.ntmps48
  refine wp_seq_k fun K hK => ?_
  have HK := Lib.hid hK
  clear hK
  go_wp2_with fail
  refine HK.out _ _ ?_
  clear HK
  show Code.wp _ _ _ _ ((w.alloc (.cells (planC wi) 32)).alloc (.cells (planC zeroD) 32))
  rw [← H0.out, ← H1.out]
  clear H0 H1 x0 x1 r0
  refine wp_seq_k fun K hK => ?_
  have HK := Lib.hid hK
  clear hK
  go_wp2_with (first | (refine loadPlanP r10 rfl rfl rfl ?_) | (refine storePlan (p := wi) r2 rfl rfl rfl rfl ?_))
  refine HK.out _ _ ?_
  clear HK
  show Code.wp _ _ _ _ ((W1.alloc (.cells (planC zeroD) 32)).setRow (w.heap.size + 1 + 1) (planC wi))
  rw [← H3.out]
  clear H3 r2 r10 s1 r1
  have c0 : W3.cell? ⟨w.heap.size + 1 + 1, 0, none⟩ = some (.int .i64 wi.nodes) := planCell r3 rfl
  have c1 : W3.cell? ⟨w.heap.size + 1 + 1, 1, none⟩ = some (.int .i64 wi.k) := planCell r3 rfl
  have c5 : W3.cell? ⟨w.heap.size + 1 + 1, 5, none⟩ = some (.int .i64 wi.air) := planCell r3 rfl
  have c6 : W3.cell? ⟨w.heap.size + 1 + 1, 6, none⟩ = some (.int .i64 wi.dmin) := planCell r3 rfl
  have c7 : W3.cell? ⟨w.heap.size + 1 + 1, 7, none⟩ = some (.int .i64 wi.dmax) := planCell r3 rfl
  have c8 : W3.cell? ⟨w.heap.size + 1 + 1, 8, none⟩ = some (.int .i64 wi.rho) := planCell r3 rfl
  have c12 : W3.cell? ⟨w.heap.size + 1 + 1, 12, none⟩ = some (.int .i64 wi.queue) := planCell r3 rfl
  have c13 : W3.cell? ⟨w.heap.size + 1 + 1, 13, none⟩ = some (.int .i64 wi.burst) := planCell r3 rfl
  have c14 : W3.cell? ⟨w.heap.size + 1 + 1, 14, none⟩ = some (.int .i64 wi.payload) := planCell r3 rfl
  have x4 := x3.thenAlloc (.cells (planC b) 97)
  have r4 := heap_alloc_at W3 (.cells (planC b) 97) s3
  have r41 := (Ext.alloc W3 (.cells (planC b) 97)).block r31
  have s4 : (W3.alloc (.cells (planC b) 97)).heap.size = w.heap.size + 1 + 1 + 1 + 1 := by simp [s3]
  obtain ⟨W4, hW4⟩ : ∃ W4, W4 = W3.alloc (.cells (planC b) 97) := ⟨_, rfl⟩
  rw [← hW4] at x4 r4 r41 s4
  have H4 := Lib.hid hW4
  clear hW4 r3
  refine wp_seq_k fun K hK => ?_
  have HK := Lib.hid hK
  clear hK
  go_wp2_with (first | (refine buildP (T := 32) (q := baseD wi) rfl rfl (by rfl) ?_) | (refine buildP (T := 97) (q := baseD wi) rfl rfl (by rfl) ?_))
  refine HK.out _ _ ?_
  clear HK c0 c1 c5 c6 c7 c8 c12 c13 c14
  show Code.wp _ _ _ _ (W3.alloc (.cells (planC (baseD wi)) 97))
  rw [← HF.out.2.2.2.2.2, ← H4.out]
  clear H4 x3 r31
  refine wp_seq_k fun K hK => ?_
  have HK := Lib.hid hK
  clear hK
  go_wp2_with (refine loadPlanL r4 rfl rfl rfl ?_)
  refine (hkn _).mono ?_
  rintro e W5 ⟨rfl, h5⟩
  have r5 := h5.block r4
  have r51 := h5.block r41
  have x5 := x4.trans h5
  clear hkn h5 r4 r41 x4 s3
  go_wp2_with (refine loadPlanLw r5 rfl rfl rfl ?_)
  refine (hqu _).mono ?_
  rintro e W6 ⟨rfl, h6⟩
  have r6 := h6.block r5
  have r61 := h6.block r51
  have x6 := x5.trans h6
  clear hqu h6 r5 r51 x5
  go_wp2_with fail
  refine HK.out _ _ ?_
  clear HK
  refine wp_seq_k fun K hK => ?_
  have HK := Lib.hid hK
  clear hK
  go_wp2_with fail
  refine (hl0 _ _ r6).mono ?_
  rintro e W7 ⟨rfl, r7, b7⟩
  clear hl0 r6
  have HB := Lib.hid (And.intro r61 x6)
  clear r61 x6
  go_wp2_with fail
  go_loopw [52] (fun _ wr => ∃ j, j ≤ N ∧ wr.heap[w.heap.size + 1 + 1 + 1]? = some (.cells (planC (seqD b j)) 97) ∧ Below (w.heap.size + 1 + 1 + 1) W6 wr) (fun _ wr => (1048577 - slotOf (w.heap.size + 1 + 1 + 1) wr).toNat)
  case atStart => exact ⟨0, Nat.zero_le _, r7, b7⟩
  case round =>
    clear r7 b7
    obtain ⟨j, hj, hr, hbel⟩ := hrel
    have hkm := HF.out.1 j (by omega)
    obtain ⟨s, hs⟩ : ∃ s, s = seqD b j := ⟨_, rfl⟩
    have kls := fun W => leastSlot_calls s (known_iff.1 (by rw [hs]; exact hkm.1)) (mild_of (by rw [hs]; exact hkm.2)) W
    rw [← hs] at hr
    have K0 := Lib.hid (show ∀ W, Ext wr.drew W → W.heap[w.heap.size + 1 + 1 + 1]? = some (.cells (planC s) 97) from fun W h => h.block hr)
    have HS := Lib.hid hs
    have HR := Lib.hid (And.intro hr hbel)
    clear hkm hs hr hbel
    by_cases hlt : j < N
    · have hlt2 := HF.out.2.1 j hlt
      rw [← HS.out] at hlt2
      have d1 : decide (s.slot < lSlot s) = true := decide_eq_true hlt2.1
      have d2 : decide (1048576 < lSlot s) = false := decide_eq_false (by omega)
      have H2 := Lib.hid (And.intro hlt2 hlt)
      clear hlt2 hlt hj
      go_wp2_with fail
      refine wp_region_rg Ext [(8, .known (.int .i64 (lSlot s)))] (by kernel_rfl) (by kernel_rfl) (by kernel_rfl) Ext.refl (fun _ _ _ => Ext.trans) ?_
      intro σ
      simp only
      refine rg_pure (x := ?_) rfl (by rfl) (fun W hW => ?_) ?_; rotate_left
      · go_simp; with_reducible rfl
      simp only [Nat.reduceAdd, Act.put, List.setIfInBounds_toArray, List.set_cons_zero, List.set_cons_succ]
      refine rg_pure (x := ?_) rfl (by rfl) (fun W hW => ?_) ?_; rotate_left
      · go_simp; with_reducible rfl
      simp only [Nat.reduceAdd, Act.put, List.setIfInBounds_toArray, List.set_cons_zero, List.set_cons_succ]
      refine rg_pure (x := ?_) rfl (by rfl) (fun W hW => ?_) ?_; rotate_left
      · go_simp; with_reducible rfl
      simp only [Nat.reduceAdd, Act.put, List.setIfInBounds_toArray, List.set_cons_zero, List.set_cons_succ]
      refine rg_pure (x := ?_) rfl (by rfl) (fun W hW => ?_) ?_; rotate_left
      · go_simp; with_reducible rfl
      simp only [Nat.reduceAdd, Act.put, List.setIfInBounds_toArray, List.set_cons_zero, List.set_cons_succ]
      refine rg_pure (x := .int .i64 s.slot) rfl (by rfl) (fun W hW => exec_load (b := .pointer (some ⟨w.heap.size + 1 + 1 + 1, 2, none⟩)) rfl rfl (loadI64 (planCell (K0.out W hW) (i := 2) rfl))) ?_
      simp only [Nat.reduceAdd, Act.put, List.setIfInBounds_toArray, List.set_cons_zero, List.set_cons_succ]
      refine rg_pure (x := ?_) rfl (by rfl) (fun W hW => ?_) ?_; rotate_left
      · go_simp; with_reducible rfl
      simp only [Nat.reduceAdd, Act.put, List.setIfInBounds_toArray, List.set_cons_zero, List.set_cons_succ]
      refine rg_pure (x := ?_) rfl (by rfl) (fun W hW => ?_) ?_; rotate_left
      · go_simp; with_reducible rfl
      simp only [Nat.reduceAdd, Act.put, List.setIfInBounds_toArray, List.set_cons_zero, List.set_cons_succ]
      refine rg_pure (x := planV s) rfl (by rfl) (fun W hW => exec_load (b := .pointer (some ⟨w.heap.size + 1 + 1 + 1, 0, none⟩)) rfl rfl (loadLook (K0.out W hW))) ?_
      simp only [Nat.reduceAdd, Act.put, List.setIfInBounds_toArray, List.set_cons_zero, List.set_cons_succ]
      refine rg_known rfl (by rfl) (fun W hW hF => ?_) ?_
      · go_simp
        refine (kls W).mono ?_
        rintro e W' ⟨rfl, h⟩
        exact ⟨_, rfl, h, rfl⟩
      simp only [Nat.reduceAdd, Act.put, List.setIfInBounds_toArray, List.set_cons_zero, List.set_cons_succ]
      refine rg_pure (x := ?_) rfl (by rfl) (fun W hW => ?_) ?_; rotate_left
      · go_simp; with_reducible rfl
      simp only [Nat.reduceAdd, Act.put, List.setIfInBounds_toArray, List.set_cons_zero, List.set_cons_succ]
      refine rg_done fun wq hW hF => ?_
      have hxq := Ext.of_drew hW
      have rq := hxq.block HR.out.1
      have hbq := HR.out.2.trans (Below.mono hxq (by have := (Array.getElem?_eq_some_iff.1 HR.out.1).1; omega))
      have hlq := (Array.getElem?_eq_some_iff.1 rq).1
      clear hF hW K0 hxq
      go_wp2_with (refine loadPlanL rq rfl rfl rfl ?_)
      refine (kls _).mono ?_
      rintro e wp ⟨rfl, hp⟩
      have rp := hp.block rq
      have hbp := hbq.trans (Below.mono hp (by omega))
      have hlp := (Array.getElem?_eq_some_iff.1 rp).1
      have hfz : wp.frozen? ⟨w.heap.size + 1 + 1 + 1, 2, none⟩ = false := frozen_of_row wp _ 2 _ _ rp
      have hce : wp.cell? ⟨w.heap.size + 1 + 1 + 1, 2, none⟩ = some (.int .i64 s.slot) := planCell rp rfl
      have rs : (wp.setCell ⟨w.heap.size + 1 + 1 + 1, 2, none⟩ (.int .i64 (lSlot s))).heap[w.heap.size + 1 + 1 + 1]? = some (.cells (planC { s with slot := lSlot s }) 97) := by
        rw [heap_setCell_same _ _ _ _ _ _ rp]; rfl
      have hbs : Below (w.heap.size + 1 + 1 + 1) W6 (wp.setCell ⟨w.heap.size + 1 + 1 + 1, 2, none⟩ (.int .i64 (lSlot s))) := Below.setCell hbp (Nat.le_refl _) _
      have HP := Lib.hid (And.intro rs hbs)
      clear kls hp rq hbq hlq rp hbp hlp rs hbs
      go_wp2_with fail
      have hkn : Known { s with slot := lSlot s } := by
        have h1 := known_iff.1 (HF.out.1 (j + 1) (by have := H2.out.2; omega)).1
        rw [HS.out]
        exact Known.of h1 rfl rfl rfl rfl rfl rfl rfl
      have g9 := HF.out.2.2.2.2.1
      have hqs := seq_queue b j
      rw [← HS.out] at hqs
      refine (least_calls { s with slot := lSlot s } hkn (by show 1 ≤ s.queue; rw [hqs.1]; exact g9.1.1) (by show s.queue ≤ 64; rw [hqs.1]; exact g9.1.2) (by show 1 ≤ s.burst; rw [hqs.2]; exact g9.2.1) (by show s.burst ≤ 8; rw [hqs.2]; exact g9.2.2) _ _ HP.out.1).mono ?_
      rintro e w9 ⟨rfl, r9, b9⟩
      have b10 := HP.out.2.trans b9
      clear b9 hkn g9 hqs hfz hce
      have H9 := Lib.hid (And.intro r9 b10)
      clear r9 b10
      go_wp2_with fail
      go_roundw
      case rel =>
        refine ⟨j + 1, H2.out.2, ?_, H9.out.2⟩
        rw [H9.out.1, HS.out]; rfl
      case measure =>
        have e1 : slotOf (w.heap.size + 1 + 1 + 1) w9 = lSlot s := by
          have : w9.cell? ⟨w.heap.size + 1 + 1 + 1, 2, none⟩ = some (.int .i64 (leastD { s with slot := lSlot s }).slot) := planCell H9.out.1 rfl
          unfold slotOf; rw [this]; rfl
        have e2 : slotOf (w.heap.size + 1 + 1 + 1) wr = s.slot := by
          have : wr.cell? ⟨w.heap.size + 1 + 1 + 1, 2, none⟩ = some (.int .i64 s.slot) := planCell HR.out.1 rfl
          unfold slotOf; rw [this]
        rw [e1, e2]
        have := H2.out.1
        omega
    · have hjn : j = N := by omega
      subst hjn
      have d1 : decide (s.slot < lSlot s) = false := decide_eq_false (by rw [HS.out]; have := HF.out.2.2.1; omega)
      have kF : ∀ W, Calls Try.prog 62 #[planV s] W fun e w' => e = .returned (.int .i64 0) ∧ Ext W w' := fun W => by
        have hok := HF.out.2.2.2.1
        rw [← HS.out] at hok
        have := Fails_calls s W
        rw [show failsN s = 0 by unfold planOk at hok; simpa using hok] at this
        exact this
      clear hlt hj
      go_wp2_with fail
      refine wp_region_rg Ext [(8, .known (.int .i64 (lSlot s)))] (by kernel_rfl) (by kernel_rfl) (by kernel_rfl) Ext.refl (fun _ _ _ => Ext.trans) ?_
      intro σ
      simp only
      refine rg_pure (x := ?_) rfl (by rfl) (fun W hW => ?_) ?_; rotate_left
      · go_simp; with_reducible rfl
      simp only [Nat.reduceAdd, Act.put, List.setIfInBounds_toArray, List.set_cons_zero, List.set_cons_succ]
      refine rg_pure (x := ?_) rfl (by rfl) (fun W hW => ?_) ?_; rotate_left
      · go_simp; with_reducible rfl
      simp only [Nat.reduceAdd, Act.put, List.setIfInBounds_toArray, List.set_cons_zero, List.set_cons_succ]
      refine rg_pure (x := ?_) rfl (by rfl) (fun W hW => ?_) ?_; rotate_left
      · go_simp; with_reducible rfl
      simp only [Nat.reduceAdd, Act.put, List.setIfInBounds_toArray, List.set_cons_zero, List.set_cons_succ]
      refine rg_pure (x := ?_) rfl (by rfl) (fun W hW => ?_) ?_; rotate_left
      · go_simp; with_reducible rfl
      simp only [Nat.reduceAdd, Act.put, List.setIfInBounds_toArray, List.set_cons_zero, List.set_cons_succ]
      refine rg_pure (x := .int .i64 s.slot) rfl (by rfl) (fun W hW => exec_load (b := .pointer (some ⟨w.heap.size + 1 + 1 + 1, 2, none⟩)) rfl rfl (loadI64 (planCell (K0.out W hW) (i := 2) rfl))) ?_
      simp only [Nat.reduceAdd, Act.put, List.setIfInBounds_toArray, List.set_cons_zero, List.set_cons_succ]
      refine rg_pure (x := ?_) rfl (by rfl) (fun W hW => ?_) ?_; rotate_left
      · go_simp; with_reducible rfl
      simp only [Nat.reduceAdd, Act.put, List.setIfInBounds_toArray, List.set_cons_zero, List.set_cons_succ]
      refine rg_pure (x := ?_) rfl (by rfl) (fun W hW => ?_) ?_; rotate_left
      · go_simp; with_reducible rfl
      simp only [Nat.reduceAdd, Act.put, List.setIfInBounds_toArray, List.set_cons_zero, List.set_cons_succ]
      refine rg_pure (x := planV s) rfl (by rfl) (fun W hW => exec_load (b := .pointer (some ⟨w.heap.size + 1 + 1 + 1, 0, none⟩)) rfl rfl (loadLook (K0.out W hW))) ?_
      simp only [Nat.reduceAdd, Act.put, List.setIfInBounds_toArray, List.set_cons_zero, List.set_cons_succ]
      refine rg_known rfl (by rfl) (fun W hW hF => ?_) ?_
      · go_simp
        refine (kls W).mono ?_
        rintro e W' ⟨rfl, h⟩
        exact ⟨_, rfl, h, rfl⟩
      simp only [Nat.reduceAdd, Act.put, List.setIfInBounds_toArray, List.set_cons_zero, List.set_cons_succ]
      refine rg_pure (x := ?_) rfl (by rfl) (fun W hW => ?_) ?_; rotate_left
      · go_simp; with_reducible rfl
      simp only [Nat.reduceAdd, Act.put, List.setIfInBounds_toArray, List.set_cons_zero, List.set_cons_succ]
      refine rg_done fun wq hW hF => ?_
      have hxq := Ext.of_drew hW
      have rq := hxq.block HR.out.1
      have hbq := HR.out.2.trans (Below.mono hxq (by have := (Array.getElem?_eq_some_iff.1 HR.out.1).1; omega))
      have hl6 : w.heap.size + 1 < W6.heap.size := (Array.getElem?_eq_some_iff.1 HB.out.1).1
      have r1q := (Below.block hbq (w.heap.size + 1) (by omega)).trans HB.out.1
      have xq : Ext w wq := Below.trans HB.out.2 (Below.mono hbq (by omega))
      clear hF hW K0 hxq hbq kls
      go_wp2_with fail
      refine HK.out _ _ ?_
      clear HK
      go_wp2_with (refine loadPlanP rq rfl rfl rfl ?_)
      refine (kF _).mono ?_
      rintro e wf ⟨rfl, hf⟩
      have rf := hf.block rq
      have r1f := hf.block r1q
      have xf := xq.trans hf
      have rz := setRow_heap wf (w.heap.size + 1) _ (planC s) _ _ r1f
      have xz : Ext w (wf.setRow (w.heap.size + 1) (planC s)) := xf.setRow (by omega) _
      clear rq r1q xq kF hf
      go_wp2_with (first | (refine loadPlanP rf rfl rfl rfl ?_) | (refine storePlan (p := s) r1f rfl rfl rfl rfl ?_))
      refine bodyPost_ret (resPlan (q := s) (b := w.heap.size + 1) rfl _ _ (by rfl) rz) rfl ?_
      exact ⟨by rw [HS.out]; rfl, xz⟩
end Go.Proofs.Ytjhhcfadeankfaa.VPlan
