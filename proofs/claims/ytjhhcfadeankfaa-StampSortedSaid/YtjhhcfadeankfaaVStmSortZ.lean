/- StampSorted: the walk, case Z. -/
import Derived.Test.YtjhhcfadeankfaaVStmSorted
namespace Go.Proofs.Ytjhhcfadeankfaa.VMsg
open Go.RowKit Go.VBase Go.VRg Go.VEq VCst Go.VPlan VPlan
set_option maxRecDepth 100000 in
set_option maxHeartbeats 16000000 in
theorem Sorted_Z (x y z : MsgD) (sx sy sz : Sl3) (w : World) (hc0 : cmpM x y = 0) (hx : Bys w (slV sx) x.b) (hy : Bys w (slV sy) y.b) :
    Calls Try.prog 6 #[msgV x (slV sx), msgV y (slV sy), msgV z (slV sz)] w fun e w' => e = .returned (.bool true) ∧ Ext w w' := by
  have HC0 := Lib.hid hc0
  clear hc0
  have kA := fun W => alive_calls W
  have kS := fun W (h : Ext w W) => stampSame_calls x y sx sy W (hx.ext h) (hy.ext h)
  have kX := fun W (h : Ext w W) => stampSame_calls x x sx sx W (hx.ext h) (hx.ext h)
  rw [sameM_refl] at kX
  have kC := fun W => stampCompare_calls y x sy sx W
  rw [cmpM_neg] at kC
  have hS0 : sameM x y = true → cmpM x y = 0 := fun h => by unfold sameM at h; simp only [Bool.and_eq_true, beq_iff_eq] at h; exact h.1
  have x2 := ((Ext.alloc w (.cells #[.int .i64 x.st, .int .i64 x.se, .int .i64 x.nu, slV sx] TMsg)).thenAlloc (.cells #[.int .i64 y.st, .int .i64 y.se, .int .i64 y.nu, slV sy] TMsg)).thenAlloc (.cells #[.int .i64 z.st, .int .i64 z.se, .int .i64 z.nu, slV sz] TMsg)
  have r0 := (Ext.alloc _ (.cells #[.int .i64 z.st, .int .i64 z.se, .int .i64 z.nu, slV sz] TMsg)).block ((Ext.alloc _ (.cells #[.int .i64 y.st, .int .i64 y.se, .int .i64 y.nu, slV sy] TMsg)).block (heap_alloc_new w (.cells #[.int .i64 x.st, .int .i64 x.se, .int .i64 x.nu, slV sx] TMsg)))
  have r1 := (Ext.alloc _ (.cells #[.int .i64 z.st, .int .i64 z.se, .int .i64 z.nu, slV sz] TMsg)).block (heap_alloc_new (w.alloc (.cells #[.int .i64 x.st, .int .i64 x.se, .int .i64 x.nu, slV sx] TMsg)) (.cells #[.int .i64 y.st, .int .i64 y.se, .int .i64 y.nu, slV sy] TMsg))
  have r2 := heap_alloc_new ((w.alloc (.cells #[.int .i64 x.st, .int .i64 x.se, .int .i64 x.nu, slV sx] TMsg)).alloc (.cells #[.int .i64 y.st, .int .i64 y.se, .int .i64 y.nu, slV sy] TMsg)) (.cells #[.int .i64 z.st, .int .i64 z.se, .int .i64 z.nu, slV sz] TMsg)
  rw [World.size_alloc] at r1
  rw [World.size_alloc, World.size_alloc] at r2
  obtain ⟨W0, hW0⟩ : ∃ W0, W0 = ((w.alloc (.cells #[.int .i64 x.st, .int .i64 x.se, .int .i64 x.nu, slV sx] TMsg)).alloc (.cells #[.int .i64 y.st, .int .i64 y.se, .int .i64 y.nu, slV sy] TMsg)).alloc (.cells #[.int .i64 z.st, .int .i64 z.se, .int .i64 z.nu, slV sz] TMsg) := ⟨_, rfl⟩
  rw [← hW0] at r0 r1 r2 x2
  have H0 := Lib.hid hW0
  clear hW0 hx hy
  obtain ⟨t, ht⟩ : ∃ t, t = sameM x y := ⟨_, rfl⟩
  rw [← ht] at kS hS0
  clear ht
  have HV := Lib.hid (And.intro (cmpM_vals x y) (And.intro (cmpM_vals y z) (And.intro (cmpM_trans x y z) (And.intro hS0 (cmpM_zero (x := x) (y := y))))))
  clear hS0
  obtain ⟨sxa, sxn, sxc⟩ := sx
  obtain ⟨sya, syn, syc⟩ := sy
  obtain ⟨sza, szn, szc⟩ := sz
  unfold msgV slV
  simp only
  go_enter Try.func6, Try.ntmps6
  refine wp_seq_k fun K hK => ?_
  have HK := Lib.hid hK
  clear hK
  go_wp2_with fail
  refine HK.out _ _ ?_
  clear HK
  obtain ⟨sx, hsx⟩ : ∃ sx : Sl3, sx = (sxa, sxn, sxc) := ⟨_, rfl⟩
  obtain ⟨sy, hsy⟩ : ∃ sy : Sl3, sy = (sya, syn, syc) := ⟨_, rfl⟩
  obtain ⟨sz, hsz⟩ : ∃ sz : Sl3, sz = (sza, szn, szc) := ⟨_, rfl⟩
  rw [← hsx, ← hsy, ← hsz] at H0
  rw [← hsx] at kX r0
  rw [← hsy] at r1
  rw [← hsz] at r2
  rw [← hsx, ← hsy] at kS kC
  have HS3 := Lib.hid (And.intro hsx (And.intro hsy hsz))
  clear hsx hsy hsz
  show Code.wp _ _ _ _ (((w.alloc (.cells #[.int .i64 x.st, .int .i64 x.se, .int .i64 x.nu, slV (sxa, sxn, sxc)] TMsg)).alloc (.cells #[.int .i64 y.st, .int .i64 y.se, .int .i64 y.nu, slV (sya, syn, syc)] TMsg)).alloc (.cells #[.int .i64 z.st, .int .i64 z.se, .int .i64 z.nu, slV (sza, szn, szc)] TMsg))
  rw [← HS3.out.1, ← HS3.out.2.1, ← HS3.out.2.2, ← H0.out]
  clear H0
  refine wp_seq_k fun K hK => ?_
  have HK := Lib.hid hK
  clear hK
  go_wp2_with fail
  refine (kA _).mono ?_
  rintro e w1 ⟨rfl, h1⟩
  have r01 := h1.block r0
  have r11 := h1.block r1
  have r21 := h1.block r2
  have x3 := x2.trans h1
  clear r0 r1 r2 x2 h1 kA
  go_wp2_with fail
  refine HK.out _ _ ?_
  clear HK
  have K0 := Lib.hid (show ∀ W, Ext w1.drew W → W.heap[w.heap.size]? = some (.cells #[.int .i64 x.st, .int .i64 x.se, .int .i64 x.nu, slV sx] TMsg) ∧ W.heap[w.heap.size + 1]? = some (.cells #[.int .i64 y.st, .int .i64 y.se, .int .i64 y.nu, slV sy] TMsg) ∧ W.heap[w.heap.size + 1 + 1]? = some (.cells #[.int .i64 z.st, .int .i64 z.se, .int .i64 z.nu, slV sz] TMsg) from fun W h => ⟨h.block r01, h.block r11, h.block r21⟩)
  refine wp_seq_k fun K hK => ?_
  have HK := Lib.hid hK
  clear hK
  refine wp_region_rg Ext [(2, .known (.int .i64 (cmpM x y))), (5, .known (.int .i64 (cmpM y z))), (8, .known (.int .i64 (cmpM x z)))] (by kernel_rfl) (by kernel_rfl) (by kernel_rfl) Ext.refl (fun _ _ _ => Ext.trans) ?_
  intro σ
  simp only
  refine rg_pure (x := msgV x (slV sx)) rfl (by rfl) (fun W hW => exec_load (b := .pointer (some ⟨w.heap.size, 0, none⟩)) rfl rfl (loadMsgE ((K0.out W hW).1))) ?_
  simp only [Nat.reduceAdd, Act.put, List.setIfInBounds_toArray, List.set_cons_zero, List.set_cons_succ]
  refine rg_pure (x := msgV y (slV sy)) rfl (by rfl) (fun W hW => exec_load (b := .pointer (some ⟨w.heap.size + 1, 0, none⟩)) rfl rfl (loadMsgE ((K0.out W hW).2.1))) ?_
  simp only [Nat.reduceAdd, Act.put, List.setIfInBounds_toArray, List.set_cons_zero, List.set_cons_succ]
  refine rg_known rfl (by rfl) (fun W hW hF => ?_) ?_
  · go_simp
    refine (stampCompare_calls x y sx sy W).mono ?_
    rintro e W' ⟨rfl, h⟩
    exact ⟨_, rfl, h, rfl⟩
  simp only [Nat.reduceAdd, Act.put, List.setIfInBounds_toArray, List.set_cons_zero, List.set_cons_succ]
  refine rg_pure (x := msgV y (slV sy)) rfl (by rfl) (fun W hW => exec_load (b := .pointer (some ⟨w.heap.size + 1, 0, none⟩)) rfl rfl (loadMsgE ((K0.out W hW).2.1))) ?_
  simp only [Nat.reduceAdd, Act.put, List.setIfInBounds_toArray, List.set_cons_zero, List.set_cons_succ]
  refine rg_pure (x := msgV z (slV sz)) rfl (by rfl) (fun W hW => exec_load (b := .pointer (some ⟨w.heap.size + 1 + 1, 0, none⟩)) rfl rfl (loadMsgE ((K0.out W hW).2.2))) ?_
  simp only [Nat.reduceAdd, Act.put, List.setIfInBounds_toArray, List.set_cons_zero, List.set_cons_succ]
  refine rg_known rfl (by rfl) (fun W hW hF => ?_) ?_
  · go_simp
    refine (stampCompare_calls y z sy sz W).mono ?_
    rintro e W' ⟨rfl, h⟩
    exact ⟨_, rfl, h, rfl⟩
  simp only [Nat.reduceAdd, Act.put, List.setIfInBounds_toArray, List.set_cons_zero, List.set_cons_succ]
  refine rg_pure (x := msgV x (slV sx)) rfl (by rfl) (fun W hW => exec_load (b := .pointer (some ⟨w.heap.size, 0, none⟩)) rfl rfl (loadMsgE ((K0.out W hW).1))) ?_
  simp only [Nat.reduceAdd, Act.put, List.setIfInBounds_toArray, List.set_cons_zero, List.set_cons_succ]
  refine rg_pure (x := msgV z (slV sz)) rfl (by rfl) (fun W hW => exec_load (b := .pointer (some ⟨w.heap.size + 1 + 1, 0, none⟩)) rfl rfl (loadMsgE ((K0.out W hW).2.2))) ?_
  simp only [Nat.reduceAdd, Act.put, List.setIfInBounds_toArray, List.set_cons_zero, List.set_cons_succ]
  refine rg_known rfl (by rfl) (fun W hW hF => ?_) ?_
  · go_simp
    refine (stampCompare_calls x z sx sz W).mono ?_
    rintro e W' ⟨rfl, h⟩
    exact ⟨_, rfl, h, rfl⟩
  simp only [Nat.reduceAdd, Act.put, List.setIfInBounds_toArray, List.set_cons_zero, List.set_cons_succ]
  refine rg_pure (x := ?_) rfl (by rfl) (fun W hW => ?_) ?_; rotate_left
  · go_simp; with_reducible rfl
  simp only [Nat.reduceAdd, Act.put, List.setIfInBounds_toArray, List.set_cons_zero, List.set_cons_succ]
  refine rg_pure (x := ?_) rfl (by rfl) (fun W hW => ?_) ?_; rotate_left
  · go_simp; with_reducible rfl
  simp only [Nat.reduceAdd, Act.put, List.setIfInBounds_toArray, List.set_cons_zero, List.set_cons_succ]
  refine rg_pure (x := ?_) rfl (by rfl) (fun W hW => ?_) ?_; rotate_left
  · go_simp; with_reducible rfl
  simp only [Nat.reduceAdd, Act.put, List.setIfInBounds_toArray, List.set_cons_zero, List.set_cons_succ]
  refine rg_done fun w2 hW hF => ?_
  have hE := Ext.of_drew hW
  have r02 := hE.block r01
  have r12 := hE.block r11
  have x4 := x3.trans hE
  clear hF hW hE K0 r01 r11 r21 x3
  go_wp2_with fail
  refine HK.out _ _ ?_
  clear HK
  have hc0 := HC0.out
  clear HC0
  generalize hc1 : cmpM x y = c1 at *
  generalize hc2 : cmpM y z = c2 at *
  generalize hc3 : cmpM x z = c3 at *
  clear hc1 hc2 hc3
  subst hc0
  obtain ⟨v1, v2, ⟨t1, t2, t3⟩, v4, v5⟩ := HV.out
  have h3 := t3 rfl
  subst h3
  obtain ⟨e1, e2, e3⟩ := v5.1 rfl
  clear t1 t2 t3 v1 v2 v4 v5 HV
  have b1 : (x.st == y.st) = true := by simp [e1]
  have b2 : (x.se == y.se) = true := by simp [e2]
  have b3 : (x.nu == y.nu) = true := by simp [e3]
  have b4 : (c3 == c3) = true := by simp
  clear e1 e2 e3
  go_wp2_with (first | (refine loadMsgw r12 rfl rfl rfl ?_) | (refine loadMsgw r02 rfl rfl rfl ?_))
  refine (kC _).mono ?_
  rintro e w3 ⟨rfl, h3⟩
  have r03 := h3.block r02
  have r13 := h3.block r12
  have x5 := x4.trans h3
  obtain ⟨d0, d1, d2, _⟩ := row4m r03
  obtain ⟨f0, f1, f2, _⟩ := row4m r13
  clear h3 r02 r12 x4 kC
  go_wp2_with (first | (refine loadMsgw r13 rfl rfl rfl ?_) | (refine loadMsgw r03 rfl rfl rfl ?_))
  refine (kS _ x5).mono ?_
  rintro e w4 ⟨rfl, h4⟩
  have r04 := h4.block r03
  have x6 := x5.trans h4
  clear h4 r03 r13 x5 kS d0 d1 d2 f0 f1 f2
  cases t
  all_goals
    go_wp2_with (refine loadMsgw r04 rfl rfl rfl ?_)
    refine (kX _ x6).mono ?_
    rintro e w5 ⟨rfl, h5⟩
    have x7 := x6.trans h5
    go_wp2_with fail
    go_ret
    exact ⟨rfl, x7⟩
end Go.Proofs.Ytjhhcfadeankfaa.VMsg
