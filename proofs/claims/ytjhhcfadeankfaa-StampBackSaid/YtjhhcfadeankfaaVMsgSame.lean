/- Messages: whether they are the same; copies of bytes. -/
import Derived.Test.YtjhhcfadeankfaaVMsg
import Derived.Test.YtjhhcfadeankfaaVRef01
import Derived.Test.YtjhhcfadeankfaaVEq
import Derived.Lib.LazyBuf
import Derived.Lib.SliceRun
namespace Go.Proofs.Ytjhhcfadeankfaa.VMsg
open Go.RowKit Go.VBase Go.VRg Go.VEq VCst

theorem keyEq (x0 x1 x2 y0 y1 y2 : Int) (W : World) : (binOp .eql 56 (.agg #[.int .i64 x0, .int .i64 x1, .int .i64 x2]) (.agg #[.int .i64 y0, .int .i64 y1, .int .i64 y2])).run Try.prog W = .ok (.bool (decide (x0 = y0 ∧ x1 = y1 ∧ x2 = y2))) W := by
  have h := run_eql_ints (P := Try.prog) (t := 56) (n := 3) (by kernel_rfl) (by kernel_rfl) (by kernel_rfl) (fun i => [x0, x1, x2].get i) (fun i => [y0, y1, y2].get i) W
  have ho : ((Try.prog.fieldsOf 56).toList.map (·.offset)) = [0, 1, 2] := by kernel_rfl
  generalize (Try.prog.fieldsOf 56).toList = fs at h ho
  have e : ∀ (g : Nat → Bool), (fs.all fun f => g f.offset) = (fs.map (·.offset)).all g := fun g => by rw [List.all_map]; rfl
  refine Eq.trans h ?_
  rw [e (fun o => decide (intAt (Array.ofFn fun i : Fin 3 => .int .i64 ([x0, x1, x2].get i)) o = intAt (Array.ofFn fun i : Fin 3 => .int .i64 ([y0, y1, y2].get i)) o)), ho]
  simp [intAt]

theorem results_cell {fn : Func} {p : Tmp} {ty : TypeId} (h : fn.results = #[.cell p ty]) (tmps : Array Value) (P : Program) (w : World) :
    (results fn tmps).run P w = ((asAddr (tmps.getD p undef)).run P w).andThen fun a w₁ => (loadVar ty a).run P w₁ := by
  simp only [results, h]
  simp [Sem.run_bind, Result.andThen]

set_option maxHeartbeats 1000000 in
theorem keyOf_calls (x : MsgD) (sx : Sl3) (w : World) : Calls Try.prog 32 #[msgV x (slV sx)] w fun e w' => e = .returned (.agg #[.int .i64 x.st, .int .i64 x.se, .int .i64 x.nu]) ∧ Ext w w' := by
  obtain ⟨x0, x1, x2, xb⟩ := x
  unfold msgV slV
  simp only
  go_enter Try.func32, Try.ntmps32
  go_wp2_with fail
  refine bodyPost_ret (by rw [results_cell rfl]; go_simp; rfl) rfl ?_
  exact ⟨rfl, (Ext.alloc _ _).thenAlloc _⟩

set_option maxHeartbeats 1000000 in
theorem bytesEqual_calls (v u : Value) (l m : List UInt8) (w : World) (hv : Bys w v l) (hu : Bys w u m) : Calls Try.prog 33 #[v, u] w fun e w' => e = .returned (.bool (l == m)) ∧ w = w' := by
  have k1 := run_string_bys (P := Try.prog) Try.underlying22 Try.underlying5 Try.underlying9 hv
  have k2 := run_string_bys (P := Try.prog) Try.underlying22 Try.underlying5 Try.underlying9 hu
  have hb : ((strB l).toList == (strB m).toList) = (l == m) := by rw [strB_toList, strB_toList]
  obtain ⟨a, cap, rfl, _⟩ := hv
  obtain ⟨a', cap', rfl, _⟩ := hu
  rw [← hb]
  clear hb
  generalize strB l = s1 at *
  generalize strB m = s2 at *
  go_enter Try.func33, Try.ntmps33
  go_wp2_with fail
  go_ret
  exact ⟨rfl, rfl⟩

set_option maxHeartbeats 400000 in
theorem bytesClone_calls (v : Value) (l : List UInt8) (w : World) (hv : Bys w v l) (hl : l.length ≤ 140737488355328) :
    Calls Try.prog 28 #[v] w (MadeB w 5 l) := by
  have hv' := hv
  obtain ⟨a, cap, rfl, h1, h2, h3⟩ := hv
  cases a with
  | none =>
    have hm : l = [] := by
      rcases Decidable.em (l = []) with h | h
      · exact h
      · obtain ⟨b, off, he, _⟩ := h3 h; cases he
    subst hm
    clear h3
    have hq := fun W => Lib.run_eql_slice_nil (P := Try.prog) W 22 5 none 0 cap 0 0 Try.underlying22
    go_enter Try.func28, Try.ntmps28
    go_wp2_with fail
    go_ret
    exact ⟨_, rfl, OwnB.nil _ _ _, Ext.refl _⟩
  | some x =>
    have hq := fun W => Lib.run_eql_slice_nil (P := Try.prog) W 22 5 (some x) l.length cap 0 0 Try.underlying22
    clear h3
    go_enter Try.func28, Try.ntmps28
    go_wp2_with (at_builtin; refine wpList_append_B VRef01.byteSl rfl _ _ rfl (by rfl) (by rfl) (OwnB.made0 w w.heap.size _ (Nat.le_refl _)) (hv'.alloc _) ?hl ?hb ?hk)
    case hl => simpa using hl
    case hb => simp
    case hk =>
    intro u w' ho hg _
    obtain ⟨a', cap', rfl⟩ := ho.slice
    go_wp2_with fail
    go_ret
    exact ⟨_, rfl, ho, Below.trans (Ext.alloc w _) (grown_below hg (by simp) (fun k h => by cases h; exact Nat.le_refl _))⟩

set_option maxHeartbeats 2000000 in
theorem stampSame_calls (x y : MsgD) (sx sy : Sl3) (w : World) (hx : Bys w (slV sx) x.b) (hy : Bys w (slV sy) y.b) : Calls Try.prog 15 #[msgV x (slV sx), msgV y (slV sy)] w fun e w' => e = .returned (.bool (sameM x y)) ∧ Ext w w' := by
  have kx := fun W => keyOf_calls x sx W
  have ky := fun W => keyOf_calls y sy W
  have kq := fun W => keyEq x.st x.se x.nu y.st y.se y.nu W
  have hk : decide (x.st = y.st ∧ x.se = y.se ∧ x.nu = y.nu) = (cmpM x y == 0) := by
    rw [Bool.eq_iff_iff]; simp only [decide_eq_true_eq, beq_iff_eq]; exact cmpM_zero.symm
  have hsm : sameM x y = ((cmpM x y == 0) && (x.b == y.b)) := rfl
  rw [hk] at kq
  rw [hsm]
  obtain ⟨c, hc⟩ : ∃ c, (cmpM x y == 0) = c := ⟨_, rfl⟩
  rw [hc] at kq ⊢
  clear hk hsm hc
  have kE := fun W h1 h2 => bytesEqual_calls (slV sx) (slV sy) x.b y.b W h1 h2
  obtain ⟨d, hd⟩ : ∃ d, (x.b == y.b) = d := ⟨_, rfl⟩
  rw [hd] at kE ⊢
  clear hd
  obtain ⟨x0, x1, x2, xb⟩ := x
  obtain ⟨y0, y1, y2, yb⟩ := y
  obtain ⟨sa, sn, sc⟩ := sx
  obtain ⟨ta, tn, tc⟩ := sy
  unfold msgV slV at *
  simp only at *
  go_enter Try.func15, Try.ntmps15
  go_wp2_with fail
  have r0 := (Ext.alloc (w.alloc (.cells #[.int .i64 x0, .int .i64 x1, .int .i64 x2, .slice sa sn sc] TMsg)) (.cells #[.int .i64 y0, .int .i64 y1, .int .i64 y2, .slice ta tn tc] TMsg)).block (heap_alloc_new w (.cells #[.int .i64 x0, .int .i64 x1, .int .i64 x2, .slice sa sn sc] TMsg))
  have r1 := heap_alloc_new (w.alloc (.cells #[.int .i64 x0, .int .i64 x1, .int .i64 x2, .slice sa sn sc] TMsg)) (.cells #[.int .i64 y0, .int .i64 y1, .int .i64 y2, .slice ta tn tc] TMsg)
  rw [World.size_alloc] at r1
  have hx1 := (Ext.alloc w (.cells #[.int .i64 x0, .int .i64 x1, .int .i64 x2, .slice sa sn sc] TMsg)).thenAlloc (.cells #[.int .i64 y0, .int .i64 y1, .int .i64 y2, .slice ta tn tc] TMsg)
  generalize (w.alloc (.cells #[.int .i64 x0, .int .i64 x1, .int .i64 x2, .slice sa sn sc] TMsg)).alloc (.cells #[.int .i64 y0, .int .i64 y1, .int .i64 y2, .slice ta tn tc] TMsg) = w1 at *
  have k0 : ∀ W, Ext w1.drew W → W.cell? ⟨w.heap.size, 0, none⟩ = some (.int .i64 x0) ∧ W.cell? ⟨w.heap.size, 1, none⟩ = some (.int .i64 x1) ∧ W.cell? ⟨w.heap.size, 2, none⟩ = some (.int .i64 x2) ∧ W.cell? ⟨w.heap.size, 3, none⟩ = some (.slice sa sn sc) := fun W h => by
    obtain ⟨a0, a1, a2, a3⟩ := row4m r0; exact ⟨h.cell a0, h.cell a1, h.cell a2, h.cell a3⟩
  have k1 : ∀ W, Ext w1.drew W → W.cell? ⟨w.heap.size + 1, 0, none⟩ = some (.int .i64 y0) ∧ W.cell? ⟨w.heap.size + 1, 1, none⟩ = some (.int .i64 y1) ∧ W.cell? ⟨w.heap.size + 1, 2, none⟩ = some (.int .i64 y2) ∧ W.cell? ⟨w.heap.size + 1, 3, none⟩ = some (.slice ta tn tc) := fun W h => by
    obtain ⟨a0, a1, a2, a3⟩ := row4m r1; exact ⟨h.cell a0, h.cell a1, h.cell a2, h.cell a3⟩
  clear r0 r1
  cases c with
  | true =>
    refine wp_region_rg Ext [(1, .known (.agg #[.int .i64 x0, .int .i64 x1, .int .i64 x2])), (3, .known (.agg #[.int .i64 y0, .int .i64 y1, .int .i64 y2])), (10, .known (.bool d))] (by kernel_rfl) (by kernel_rfl) (by kernel_rfl) Ext.refl (fun _ _ _ => Ext.trans) ?_
    intro σ
    simp only
    repeat (first | (refine rg_pure (x := ?_) rfl (by rfl) (fun W hW => ?_) ?_; rotate_left; (· obtain ⟨e0, e1, e2, e3⟩ := k0 W hW; obtain ⟨f0, f1, f2, f3⟩ := k1 W hW; have kqq := kq W; go_simp; with_reducible rfl); simp only [Nat.reduceAdd, Act.put, List.setIfInBounds_toArray, List.set_cons_zero, List.set_cons_succ]) | (refine rg_skip rfl (by rfl) ?_; simp only [Nat.reduceAdd, Act.put, List.setIfInBounds_toArray, List.set_cons_zero, List.set_cons_succ]))
    refine rg_known rfl (by rfl) (fun W hW hF => ?_) ?_
    · go_simp
      refine (kx W).mono ?_
      rintro e W' ⟨rfl, h⟩
      exact ⟨_, rfl, h, rfl⟩
    simp only [Nat.reduceAdd, Act.put, List.setIfInBounds_toArray, List.set_cons_zero, List.set_cons_succ]
    repeat (first | (refine rg_pure (x := ?_) rfl (by rfl) (fun W hW => ?_) ?_; rotate_left; (· obtain ⟨e0, e1, e2, e3⟩ := k0 W hW; obtain ⟨f0, f1, f2, f3⟩ := k1 W hW; have kqq := kq W; go_simp; with_reducible rfl); simp only [Nat.reduceAdd, Act.put, List.setIfInBounds_toArray, List.set_cons_zero, List.set_cons_succ]) | (refine rg_skip rfl (by rfl) ?_; simp only [Nat.reduceAdd, Act.put, List.setIfInBounds_toArray, List.set_cons_zero, List.set_cons_succ]))
    refine rg_known rfl (by rfl) (fun W hW hF => ?_) ?_
    · go_simp
      refine (ky W).mono ?_
      rintro e W' ⟨rfl, h⟩
      exact ⟨_, rfl, h, rfl⟩
    simp only [Nat.reduceAdd, Act.put, List.setIfInBounds_toArray, List.set_cons_zero, List.set_cons_succ]
    repeat (first | (refine rg_pure (x := ?_) rfl (by rfl) (fun W hW => ?_) ?_; rotate_left; (· obtain ⟨e0, e1, e2, e3⟩ := k0 W hW; obtain ⟨f0, f1, f2, f3⟩ := k1 W hW; have kqq := kq W; go_simp; with_reducible rfl); simp only [Nat.reduceAdd, Act.put, List.setIfInBounds_toArray, List.set_cons_zero, List.set_cons_succ]) | (refine rg_skip rfl (by rfl) ?_; simp only [Nat.reduceAdd, Act.put, List.setIfInBounds_toArray, List.set_cons_zero, List.set_cons_succ]))
    refine rg_known rfl (by rfl) (fun W hW hF => ?_) ?_
    · go_simp
      refine (kE W (hx.ext (hx1.trans (Ext.of_drew hW))) (hy.ext (hx1.trans (Ext.of_drew hW)))).mono ?_
      rintro e W' ⟨rfl, rfl⟩
      exact ⟨_, rfl, Ext.refl _, rfl⟩
    simp only [Nat.reduceAdd, Act.put, List.setIfInBounds_toArray, List.set_cons_zero, List.set_cons_succ]
    repeat (first | (refine rg_pure (x := ?_) rfl (by rfl) (fun W hW => ?_) ?_; rotate_left; (· obtain ⟨e0, e1, e2, e3⟩ := k0 W hW; obtain ⟨f0, f1, f2, f3⟩ := k1 W hW; have kqq := kq W; go_simp; with_reducible rfl); simp only [Nat.reduceAdd, Act.put, List.setIfInBounds_toArray, List.set_cons_zero, List.set_cons_succ]) | (refine rg_skip rfl (by rfl) ?_; simp only [Nat.reduceAdd, Act.put, List.setIfInBounds_toArray, List.set_cons_zero, List.set_cons_succ]))
    refine rg_done fun W hW hF => ?_
    have hE := hx1.trans (Ext.of_drew hW)
    clear hF
    go_wp2_with fail
    go_ret
    exact ⟨by simp, hE⟩
  | false =>
    refine wp_region_rg Ext [(1, .known (.agg #[.int .i64 x0, .int .i64 x1, .int .i64 x2])), (3, .known (.agg #[.int .i64 y0, .int .i64 y1, .int .i64 y2]))] (by kernel_rfl) (by kernel_rfl) (by kernel_rfl) Ext.refl (fun _ _ _ => Ext.trans) ?_
    intro σ
    simp only
    repeat (first | (refine rg_pure (x := ?_) rfl (by rfl) (fun W hW => ?_) ?_; rotate_left; (· obtain ⟨e0, e1, e2, e3⟩ := k0 W hW; obtain ⟨f0, f1, f2, f3⟩ := k1 W hW; have kqq := kq W; go_simp; with_reducible rfl); simp only [Nat.reduceAdd, Act.put, List.setIfInBounds_toArray, List.set_cons_zero, List.set_cons_succ]) | (refine rg_skip rfl (by rfl) ?_; simp only [Nat.reduceAdd, Act.put, List.setIfInBounds_toArray, List.set_cons_zero, List.set_cons_succ]))
    refine rg_known rfl (by rfl) (fun W hW hF => ?_) ?_
    · go_simp
      refine (kx W).mono ?_
      rintro e W' ⟨rfl, h⟩
      exact ⟨_, rfl, h, rfl⟩
    simp only [Nat.reduceAdd, Act.put, List.setIfInBounds_toArray, List.set_cons_zero, List.set_cons_succ]
    repeat (first | (refine rg_pure (x := ?_) rfl (by rfl) (fun W hW => ?_) ?_; rotate_left; (· obtain ⟨e0, e1, e2, e3⟩ := k0 W hW; obtain ⟨f0, f1, f2, f3⟩ := k1 W hW; have kqq := kq W; go_simp; with_reducible rfl); simp only [Nat.reduceAdd, Act.put, List.setIfInBounds_toArray, List.set_cons_zero, List.set_cons_succ]) | (refine rg_skip rfl (by rfl) ?_; simp only [Nat.reduceAdd, Act.put, List.setIfInBounds_toArray, List.set_cons_zero, List.set_cons_succ]))
    refine rg_known rfl (by rfl) (fun W hW hF => ?_) ?_
    · go_simp
      refine (ky W).mono ?_
      rintro e W' ⟨rfl, h⟩
      exact ⟨_, rfl, h, rfl⟩
    simp only [Nat.reduceAdd, Act.put, List.setIfInBounds_toArray, List.set_cons_zero, List.set_cons_succ]
    repeat (first | (refine rg_pure (x := ?_) rfl (by rfl) (fun W hW => ?_) ?_; rotate_left; (· obtain ⟨e0, e1, e2, e3⟩ := k0 W hW; obtain ⟨f0, f1, f2, f3⟩ := k1 W hW; have kqq := kq W; go_simp; with_reducible rfl); simp only [Nat.reduceAdd, Act.put, List.setIfInBounds_toArray, List.set_cons_zero, List.set_cons_succ]) | (refine rg_skip rfl (by rfl) ?_; simp only [Nat.reduceAdd, Act.put, List.setIfInBounds_toArray, List.set_cons_zero, List.set_cons_succ]))
    refine rg_done fun W hW hF => ?_
    have hE := hx1.trans (Ext.of_drew hW)
    clear hF
    go_wp2_with fail
    go_ret
    exact ⟨by simp, hE⟩

set_option maxHeartbeats 2000000 in
theorem refMSame_calls (x y : MsgD) (sx sy : Sl3) (w : World) (hx : Bys w (slV sx) x.b) (hy : Bys w (slV sy) y.b) : Calls Try.prog 16 #[msgV x (slV sx), msgV y (slV sy)] w fun e w' => e = .returned (.bool (sameM x y)) ∧ Ext w w' := by
  have kc := fun W => refMCompare_calls x y sx sy W
  have hsm : sameM x y = ((cmpM x y == 0) && (x.b == y.b)) := rfl
  rw [hsm]
  obtain ⟨c, hc⟩ : ∃ c, cmpM x y = c := ⟨_, rfl⟩
  rw [hc] at kc ⊢
  clear hsm hc
  have ks := fun (W : World) (v : Value) (l : List UInt8) (h : Bys W v l) => run_string_bys (P := Try.prog) Try.underlying22 Try.underlying5 Try.underlying9 h
  have k1 := fun W h => ks W (slV sx) x.b (hx.ext h)
  have k2 := fun W h => ks W (slV sy) y.b (hy.ext h)
  have hb : ((strB x.b).toList == (strB y.b).toList) = (x.b == y.b) := by rw [strB_toList, strB_toList]
  rw [← hb]
  clear hb ks
  obtain ⟨x0, x1, x2, xb⟩ := x
  obtain ⟨y0, y1, y2, yb⟩ := y
  obtain ⟨sa, sn, sc⟩ := sx
  obtain ⟨ta, tn, tc⟩ := sy
  unfold msgV slV at *
  simp only at *
  generalize strB xb = s1 at *
  generalize strB yb = s2 at *
  have r0 := (Ext.alloc (w.alloc (.cells #[.int .i64 x0, .int .i64 x1, .int .i64 x2, .slice sa sn sc] TMsg)) (.cells #[.int .i64 y0, .int .i64 y1, .int .i64 y2, .slice ta tn tc] TMsg)).block (heap_alloc_new w (.cells #[.int .i64 x0, .int .i64 x1, .int .i64 x2, .slice sa sn sc] TMsg))
  have r1 := heap_alloc_new (w.alloc (.cells #[.int .i64 x0, .int .i64 x1, .int .i64 x2, .slice sa sn sc] TMsg)) (.cells #[.int .i64 y0, .int .i64 y1, .int .i64 y2, .slice ta tn tc] TMsg)
  rw [World.size_alloc] at r1
  have hx1 := (Ext.alloc w (.cells #[.int .i64 x0, .int .i64 x1, .int .i64 x2, .slice sa sn sc] TMsg)).thenAlloc (.cells #[.int .i64 y0, .int .i64 y1, .int .i64 y2, .slice ta tn tc] TMsg)
  go_enter Try.func16, Try.ntmps16
  go_wp2_with fail
  generalize (w.alloc (.cells #[.int .i64 x0, .int .i64 x1, .int .i64 x2, .slice sa sn sc] TMsg)).alloc (.cells #[.int .i64 y0, .int .i64 y1, .int .i64 y2, .slice ta tn tc] TMsg) = w1 at *
  refine (kc _).mono ?_
  rintro e w2 ⟨rfl, h2⟩
  have q1 := k1 _ (hx1.trans h2)
  have q2 := k2 _ (hx1.trans h2)
  obtain ⟨a0, a1, a2, a3⟩ := row4m (h2.block r0)
  obtain ⟨b0, b1, b2, b3⟩ := row4m (h2.block r1)
  have hE := hx1.trans h2
  clear r0 r1 k1 k2 hx hy
  by_cases hc : c = 0
  · subst hc
    go_wp2_with fail
    go_ret
    exact ⟨by simp, hE⟩
  · have n : (c == 0) = false := by simpa using hc
    go_wp2_with fail
    go_ret
    exact ⟨by simp [n], hE⟩
end Go.Proofs.Ytjhhcfadeankfaa.VMsg
