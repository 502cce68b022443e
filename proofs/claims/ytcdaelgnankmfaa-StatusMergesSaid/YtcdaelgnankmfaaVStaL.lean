/- StatusMerges: the walk. -/
import Derived.Test.YtcdaelgnankmfaaVStaG
import Derived.Test.YtcdaelgnankmfaaVStaQ
import Derived.Test.YtcdaelgnankmfaaVSet
namespace Go.Proofs.Ytcdaelgnankmfaa.VSta
open Go.RowKit Go.VBase Go.VRg Go.VEq VCst VMsg

theorem exec_loadSta {W : World} {o : Oper} {a : Act} {t : Tmp} {b : Nat} {x : StaD} {u : Value} {T' : TypeId} {mk : Nat × Nat} (h : W.heap[b]? = some (.cells (staC x u) T' mk)) (ho : o.op = .load 30 (.tmp t)) (hx : a.eval (.tmp t) = .pointer (some ⟨b, 0, none⟩)) :
    (execOp a.eval o).run Try.prog W = .ok (.value (.agg (staC x u))) W := by
  unfold execOp
  simp only [ho, hx, Instr.loadAt, Instr.sureAddr, Sem.run_bind, Sem.run_pure, Result.andThen_ok, run_loadVar_row W b T' 30 (staC x u) mk _ h Try.underlying30 rfl (by kernel_rfl)]
theorem loadStaW {ops : Array Oper} {rest : List Oper} {o : Oper} {a : Act} {Q : Exit → Act → World → Prop} {W : World} {t : Tmp} {b : Nat} {T' : TypeId} {mk : Nat × Nat} {x : StaD} {u : Value}
    (h : W.heap[b]? = some (.cells (staC x u) T' mk)) (hw : Region.wanted o (yielded ops a.tmps) = true) (ho : o.op = .load 30 (.tmp t)) (hx : a.eval (.tmp t) = .pointer (some ⟨b, 0, none⟩))
    (hk : wpList Try.prog ops Q rest (a.put o.dst (.agg (staC x u))) W) : wpList Try.prog ops Q (o :: rest) a W :=
  wpList_step fun K hK => by
    simp only [hw, if_true]
    exact wp_load_row _ _ ho _ hx _ _ _ _ h Try.underlying30 rfl (by kernel_rfl) (hK _ _ hk)
theorem sameF_self (f : FrmD) : sameF f f = true := by unfold sameF; simp
theorem sameS_self (x : StaD) : sameS x x = true := by unfold sameS; simp [sameF_self]

/-- The four boxes, and what the slices in them read as. -/
structure Mg (w W : World) (x y : StaD) (sx sy : Sl3) (b5 b6 : Nat) (u1 u2 : Value) : Prop where
  r0 : W.heap[w.heap.size]? = some (.cells (staC x (slV sx)) TSta)
  r1 : W.heap[w.heap.size + 1]? = some (.cells (staC y (slV sy)) TSta)
  r5 : W.heap[b5]? = some (.cells (staC x u1) TSta)
  r6 : W.heap[b6]? = some (.cells (staC y u2) TSta)
  hx : Bys W (slV sx) x.f.b
  hy : Bys W (slV sy) y.f.b
  h1 : Bys W u1 x.f.b
  h2 : Bys W u2 y.f.b
  ext : Ext w W
theorem Mg.later {w W W' : World} {x y : StaD} {sx sy : Sl3} {b5 b6 : Nat} {u1 u2 : Value} (h : Mg w W x y sx sy b5 b6 u1 u2) (k : Ext W W') : Mg w W' x y sx sy b5 b6 u1 u2 :=
  ⟨k.block h.r0, k.block h.r1, k.block h.r5, k.block h.r6, h.hx.ext k, h.hy.ext k, h.h1.ext k, h.h2.ext k, h.ext.trans k⟩

set_option maxRecDepth 100000 in
set_option maxHeartbeats 2000000 in
theorem Merges_long (x y : StaD) (sx sy : Sl3) (w : World) (hx : sx.2.1 = x.f.b.length) (hy : sy.2.1 = y.f.b.length) (hl : 1100 < x.f.b.length ∨ 1100 < y.f.b.length) :
    Calls Try.prog 3 #[.agg (staC x (slV sx)), .agg (staC y (slV sy))] w fun e w' => e = .returned (.bool true) ∧ Ext w w' := by
  obtain ⟨sa, sn, sc⟩ := sx
  obtain ⟨ta, tn, tc⟩ := sy
  simp only at hx hy
  subst hx hy
  unfold slV staC
  simp only
  have hE := Lib.hid (show ∀ o o', Ext w ((w.alloc o).alloc o') from fun o o' => (Ext.alloc w o).thenAlloc o')
  by_cases hA : 1100 < x.f.b.length
  · have dA : decide ((1100 : Int) < (x.f.b.length : Int)) = true := decide_eq_true (by omega)
    clear hl hA
    go_enter Try.func3, Try.ntmps3
    go_wp2_with fail
    go_ret
    exact ⟨rfl, hE.out _ _⟩
  · have dA : decide ((1100 : Int) < (x.f.b.length : Int)) = false := decide_eq_false (by omega)
    have dB : decide ((1100 : Int) < (y.f.b.length : Int)) = true := decide_eq_true (by omega)
    clear hl hA
    go_enter Try.func3, Try.ntmps3
    go_wp2_with fail
    go_ret
    exact ⟨rfl, hE.out _ _⟩

set_option maxRecDepth 100000 in
set_option maxHeartbeats 8000000 in
theorem Merges_short (x y : StaD) (sx sy : Sl3) (w : World) (hx : Bys w (slV sx) x.f.b) (hy : Bys w (slV sy) y.f.b) (hnx : sx.2.1 = x.f.b.length) (hny : sy.2.1 = y.f.b.length) (hlx : x.f.b.length ≤ 1100) (hly : y.f.b.length ≤ 1100) :
    Calls Try.prog 3 #[.agg (staC x (slV sx)), .agg (staC y (slV sy))] w fun e w' => e = .returned (.bool true) ∧ Ext w w' := by
  have dA : decide ((1100 : Int) < (x.f.b.length : Int)) = false := decide_eq_false (by omega)
  have dB : decide ((1100 : Int) < (y.f.b.length : Int)) = false := decide_eq_false (by omega)
  obtain ⟨sa, sn, sc⟩ := sx
  obtain ⟨ta, tn, tc⟩ := sy
  simp only at hnx hny
  subst hnx hny
  have r0 := (Ext.alloc _ (.cells (staC y (slV (ta, y.f.b.length, tc))) TSta)).block (heap_alloc_new w (.cells (staC x (slV (sa, x.f.b.length, sc))) TSta))
  have r1 := heap_alloc_new (w.alloc (.cells (staC x (slV (sa, x.f.b.length, sc))) TSta)) (.cells (staC y (slV (ta, y.f.b.length, tc))) TSta)
  have x2 := (Ext.alloc w (.cells (staC x (slV (sa, x.f.b.length, sc))) TSta)).thenAlloc (.cells (staC y (slV (ta, y.f.b.length, tc))) TSta)
  simp only [World.size_alloc] at r1
  have HR0 := Lib.hid (And.intro r0 (And.intro r1 (And.intro x2 (And.intro (hx.ext x2) (And.intro (hy.ext x2) (And.intro hlx hly))))))
  have hx0 := hx
  have hy0 := hy
  clear r0 r1 x2 hx hy hlx hly
  obtain ⟨sx, hsx⟩ : ∃ s : Sl3, s = (sa, x.f.b.length, sc) := ⟨_, rfl⟩
  obtain ⟨sy, hsy⟩ : ∃ s : Sl3, s = (ta, y.f.b.length, tc) := ⟨_, rfl⟩
  rw [← hsx, ← hsy] at HR0
  rw [← hsx] at hx0
  rw [← hsy] at hy0
  obtain ⟨W1, hW1⟩ : ∃ W1, W1 = (w.alloc (.cells (staC x (slV sx)) TSta)).alloc (.cells (staC y (slV sy)) TSta) := ⟨_, rfl⟩
  rw [← hW1] at HR0
  rw [hsx, hsy] at hW1
  have HS := Lib.hid (And.intro hsx hsy)
  clear hsx hsy
  unfold staC slV at hW1 ⊢
  simp only at hW1 ⊢
  have HW := Lib.hid hW1
  clear hW1
  obtain ⟨L, hL⟩ : ∃ L, L = (x.f.b.length : Int) := ⟨_, rfl⟩
  go_enter Try.func3, Try.ntmps3
  go_wp2_with fail
  rw [← HW.out]
  clear HW dA dB
  obtain ⟨r0, r1, x2, hx, hy, hlx, hly⟩ := HR0.out
  have hn1 : w.heap.size + 1 < W1.heap.size := (Array.getElem?_eq_some_iff.1 r1).1
  clear hL L
  refine two_copies (sx := sx) (sy := sy) (x := x) (y := y) (by kernel_rfl) ⟨rfl, rfl, rfl⟩ ⟨rfl, rfl, rfl⟩ ⟨rfl, rfl, rfl⟩ ⟨rfl, rfl, rfl⟩ ⟨rfl, rfl, rfl⟩ ⟨rfl, rfl, rfl⟩
    (fun L h => by obtain ⟨_, o, ho, hall⟩ := mem_ready.1 h; cases ho; exact ⟨hall { on := 0, ground := .data } (by simp) rfl, hall { on := 2, ground := .data } (by simp) rfl⟩)
    (fun L h => by obtain ⟨_, o, ho, hall⟩ := mem_ready.1 h; cases ho; exact ⟨hall { on := 1, ground := .data } (by simp) rfl, hall { on := 3, ground := .data } (by simp) rfl⟩)
    (by simp) rfl rfl rfl r0 r1 ?_
  intro b5 b6 W2 hbb g5 g6 s5 s6 hE
  replace r0 := hE.block r0
  replace r1 := hE.block r1
  have xw := x2.trans hE
  replace hx := hx.ext hE
  replace hy := hy.ext hE
  have hN5 : b5 < W2.heap.size := (Array.getElem?_eq_some_iff.1 s5).1
  have hN6 : b6 < W2.heap.size := (Array.getElem?_eq_some_iff.1 s6).1
  have hs2 : w.heap.size ≤ W2.heap.size := xw.size
  have HB := Lib.hid (And.intro r0 (And.intro r1 (And.intro s5 (And.intro s6 (And.intro xw (And.intro hx (And.intro hy (And.intro hlx (And.intro hly (And.intro hbb (And.intro hn1 (And.intro g5 (And.intro g6 (And.intro hN5 (And.intro hN6 hs2)))))))))))))))
  clear r0 r1 s5 s6 xw hx hy hlx hly hbb hn1 g5 g6 hN5 hN6 hs2 hE x2 HR0
  unfold act4
  simp only [List.setIfInBounds_toArray, List.set_cons_zero, List.set_cons_succ]
  obtain ⟨X, hX⟩ : ∃ X, X = Value.agg (staC x (slV sx)) := ⟨_, rfl⟩
  obtain ⟨Y, hY⟩ : ∃ Y, Y = Value.agg (staC y (slV sy)) := ⟨_, rfl⟩
  rw [← hX, ← hY]
  go_wp2_with fail
  obtain ⟨r0, r1, s5, s6, xw, hx, hy, hlx, hly, hbb, hn1, g5, g6, hN5, hN6, hs2⟩ := HB.out
  have q5 : w.heap.size + 1 < b5 := by omega
  have q6 : w.heap.size + 1 < b6 := by omega
  refine wp_region_rg (RR w.heap.size W2.heap.size b5 b6 x y) [(2, .unk (FrmU W2.heap.size x.f) (FrmU.rr hN5 hN6)), (5, .unk (FrmU W2.heap.size y.f) (FrmU.rr hN5 hN6)), (7, .unk (fun _ W => DoneR W2.heap.size b5 x W) (fun _ _ _ h => h.d5)), (9, .unk (fun _ W => DoneR W2.heap.size b6 y W) (fun _ _ _ h => h.d6))] (by kernel_rfl) (by kernel_rfl) (by kernel_rfl) (fun W => RR.refl W) (fun _ _ _ => RR.trans) ?_
  intro σ
  simp only
  have kr : ∀ W, RR w.heap.size W2.heap.size b5 b6 x y W2.drew W → W.heap[w.heap.size]? = some (.cells (staC x (slV sx)) TSta) ∧ W.heap[w.heap.size + 1]? = some (.cells (staC y (slV sy)) TSta) ∧ Ext w W ∧ w.heap.size ≤ W.heap.size ∧ HasR b5 x W ∧ HasR b6 y W := fun W h =>
    ⟨h.keep _ _ (by omega) (by omega) r0, h.keep _ _ (by omega) (by omega) r1, Below.trans xw.thenDrew h.bel, Nat.le_trans hs2 h.size, h.h5 ⟨_, s5⟩, h.h6 ⟨_, s6⟩⟩
  (refine rg_pure (x := ?_) rfl (by rfl) (fun W hW => ?_) ?_; rotate_left; (· go_simp; with_reducible rfl); simp only [Nat.reduceAdd, Act.put, List.setIfInBounds_toArray, List.set_cons_zero, List.set_cons_succ])
  refine rg_pure (x := .agg (frmC x.f (slV sx))) rfl (by rfl) (fun W hW => exec_loadFrm (x := x) (u := slV sx) ((kr W hW).1) rfl rfl) ?_
  simp only [Nat.reduceAdd, Act.put, List.setIfInBounds_toArray, List.set_cons_zero, List.set_cons_succ]
  refine rg_unk rfl (by rfl) (fun W hW hno => ?_) ?_
  · go_simp
    obtain ⟨_, _, k3, k4, _⟩ := kr W hW
    refine (twinF_calls x.f sx W (hx0.ext k3) (by omega)).mono ?_
    rintro e W' ⟨u, rfl, hu, h⟩
    exact ⟨_, rfl, RR.ext k4 h, u, rfl, OwnB.mono hu hW.size⟩
  simp only [Nat.reduceAdd, Act.put, List.setIfInBounds_toArray, List.set_cons_zero, List.set_cons_succ]
  (refine rg_pure (x := ?_) rfl (by rfl) (fun W hW => ?_) ?_; rotate_left; (· go_simp; with_reducible rfl); simp only [Nat.reduceAdd, Act.put, List.setIfInBounds_toArray, List.set_cons_zero, List.set_cons_succ])
  refine rg_pure (x := .agg (frmC y.f (slV sy))) rfl (by rfl) (fun W hW => exec_loadFrm (x := y) (u := slV sy) ((kr W hW).2.1) rfl rfl) ?_
  simp only [Nat.reduceAdd, Act.put, List.setIfInBounds_toArray, List.set_cons_zero, List.set_cons_succ]
  refine rg_unk rfl (by rfl) (fun W hW hno => ?_) ?_
  · go_simp
    obtain ⟨_, _, k3, k4, _⟩ := kr W hW
    refine (twinF_calls y.f sy W (hy0.ext k3) (by omega)).mono ?_
    rintro e W' ⟨u, rfl, hu, h⟩
    exact ⟨_, rfl, RR.ext k4 h, u, rfl, OwnB.mono hu hW.size⟩
  simp only [Nat.reduceAdd, Act.put, List.setIfInBounds_toArray, List.set_cons_zero, List.set_cons_succ]
  (refine rg_pure (x := ?_) rfl (by rfl) (fun W hW => ?_) ?_; rotate_left; (· go_simp; with_reducible rfl); simp only [Nat.reduceAdd, Act.put, List.setIfInBounds_toArray, List.set_cons_zero, List.set_cons_succ])
  refine rg_unk rfl (by rfl) (fun W hW hF => ?_) ?_
  · obtain ⟨u, hu, ho⟩ := hF 2 _ _ rfl (by kernel_rfl)
    generalize σ 2 = vq at *
    subst hu
    have hh := (kr W hW).2.2.2.2.1
    obtain ⟨ga, gc, hus⟩ := ho.slice
    have q := RR.set5 (n := w.heap.size) (x := x) (y := y) (u := u) hbb (by omega) hN5 hh ho
    rw [exec_storeFrm (x := x) (u := u) (sl := (ga, x.f.b.length, gc)) hh rfl rfl rfl hus]
    exact q
  simp only [Nat.reduceAdd, Act.put, List.setIfInBounds_toArray, List.set_cons_zero, List.set_cons_succ]
  (refine rg_pure (x := ?_) rfl (by rfl) (fun W hW => ?_) ?_; rotate_left; (· go_simp; with_reducible rfl); simp only [Nat.reduceAdd, Act.put, List.setIfInBounds_toArray, List.set_cons_zero, List.set_cons_succ])
  refine rg_unk rfl (by rfl) (fun W hW hF => ?_) ?_
  · obtain ⟨u, hu, ho⟩ := hF 5 _ _ rfl (by kernel_rfl)
    generalize σ 5 = vq at *
    subst hu
    have hh := (kr W hW).2.2.2.2.2
    obtain ⟨ga, gc, hus⟩ := ho.slice
    have q := RR.set6 (n := w.heap.size) (x := x) (y := y) (u := u) hbb (by omega) hN6 hh ho
    rw [exec_storeFrm (x := y) (u := u) (sl := (ga, y.f.b.length, gc)) hh rfl rfl rfl hus]
    exact q
  simp only [Nat.reduceAdd, Act.put, List.setIfInBounds_toArray, List.set_cons_zero, List.set_cons_succ]
  refine rg_done fun W3 hW hF => ?_
  obtain ⟨u1, c5, o1⟩ := hF 7 _ _ rfl (by decide)
  obtain ⟨u2, c6, o2⟩ := hF 9 _ _ rfl (by decide)
  obtain ⟨t0, t1, t3, _⟩ := kr W3 hW
  obtain ⟨a1, p1, hu1⟩ := o1.slice
  obtain ⟨a2, p2, hu2⟩ := o2.slice
  subst hu1 hu2
  have M3 : Mg w W3 x y sx sy b5 b6 (slV (a1, x.f.b.length, p1)) (slV (a2, y.f.b.length, p2)) := ⟨t0, t1, c5, c6, hx0.ext t3, hy0.ext t3, o1.bys (by unfold maxLen; omega), o2.bys (by unfold maxLen; omega), t3⟩
  have HL := Lib.hid (And.intro hlx hly)
  clear hF hW kr c5 c6 o1 o2 t0 t1 t3 hx hy hx0 hy0 HB r0 r1 s5 s6 xw hlx hly hn1 g5 g6 hN5 hN6 hs2 q5 q6 hbb W2 W1
  obtain ⟨s1, hs1⟩ : ∃ s : Sl3, s = (a1, x.f.b.length, p1) := ⟨_, rfl⟩
  obtain ⟨s2, hs2⟩ : ∃ s : Sl3, s = (a2, y.f.b.length, p2) := ⟨_, rfl⟩
  rw [← hs1, ← hs2] at M3
  clear hs1 hs2
  have kM := merge_calls x y s1 s2 W3 M3.h1 M3.h2 (by have := HL.out.1; omega) (by have := HL.out.2; omega)
  have r5 := M3.r5
  have r6 := M3.r6
  generalize σ 2 = v2 at *
  generalize σ 5 = v5 at *
  have HM3 := Lib.hid M3
  clear M3
  go_wp2_with (first | refine loadSta (x := x) (u := slV s1) r5 rfl rfl rfl ?_ | refine loadSta (x := y) (u := slV s2) r6 rfl rfl rfl ?_)
  refine kM.mono ?_
  rintro e W4 ⟨u3, rfl, hu, h4⟩
  clear kM r5 r6
  obtain ⟨z, hz⟩ : ∃ z, z = (if betB x y then y else x) := ⟨_, rfl⟩
  obtain ⟨sz, hsz⟩ : ∃ q : Sl3, q = (if betB x y then sy else sx) := ⟨_, rfl⟩
  rw [← hz] at hu ⊢
  have hzl : z.f.b.length ≤ 1100 := by rw [hz]; have := HL.out; split <;> omega
  obtain ⟨a3, p3, rfl⟩ := hu.slice
  have M4 := HM3.out.later h4
  have rn := heap_alloc_new W4 (.cells zeroS TSta)
  have rd := setRow_heap (W4.alloc (.cells zeroS TSta)) W4.heap.size _ (staC z (.slice a3 z.f.b.length p3)) _ _ rn
  have hne7 : ∀ g, a3 = some ⟨g, 0, none⟩ → g < W4.heap.size ∧ g ≠ W4.heap.size := fun g hg => by
    have := (hu.head (a := ⟨g, 0, none⟩) (len := z.f.b.length) (cap := p3) (by rw [hg])).2
    exact ⟨this, by simp only at this; omega⟩
  have x45 : Ext W3 ((W4.alloc (.cells zeroS TSta)).setRow W4.heap.size (staC z (.slice a3 z.f.b.length p3))) := (h4.thenAlloc _).setRow h4.size _
  have x45' : Ext W4 ((W4.alloc (.cells zeroS TSta)).setRow W4.heap.size (staC z (.slice a3 z.f.b.length p3))) := (Ext.alloc W4 _).setRow (Nat.le_refl _) _
  have hu5 := hu.ext x45'
  obtain ⟨W5, hW5⟩ : ∃ W5, W5 = (W4.alloc (.cells zeroS TSta)).setRow W4.heap.size (staC z (.slice a3 z.f.b.length p3)) := ⟨_, rfl⟩
  rw [← hW5] at rd x45 x45' hu5
  have M5 := M4.later x45'
  have HW5 := Lib.hid hW5
  have HZ := Lib.hid (And.intro hz (And.intro hsz (And.intro hzl hne7)))
  have H5 := Lib.hid (And.intro M5 (And.intro x45 hu5))
  clear hz hsz hzl hne7 M4 M5 x45 x45' hu5 hu h4 hW5 hX hY
  unfold zeroS at rn
  go_wp2_with (refine storeSta (m := z) (sa := a3) (sn := z.f.b.length) (sc := p3) rn rfl rfl rfl rfl rfl ?_)
  show Code.wp _ _ _ _ ((W4.alloc (.cells zeroS TSta)).setRow W4.heap.size (staC z (.slice a3 z.f.b.length p3)))
  rw [← HW5.out]
  clear HW5 rn
  generalize W4.heap.size = b7 at *
  obtain ⟨M5, x45, hu5⟩ := H5.out
  have kRM := fun W => refMerge_calls x y sx sy W
  have hzv : (if betB x y = true then Value.agg (staC y (slV sy)) else Value.agg (staC x (slV sx))) = .agg (staC z (slV sz)) := by
    rw [HZ.out.1, HZ.out.2.1]; split <;> rfl
  rw [hzv] at kRM
  have hbz : ∀ W, Mg w W x y sx sy b5 b6 (slV s1) (slV s2) → Bys W (slV sz) z.f.b := fun W M => by
    rw [HZ.out.1, HZ.out.2.1]; split; exact M.hy; exact M.hx
  have kSm := fun W h1 h2 => refSame_calls z z (a3, z.f.b.length, p3) sz W h1 h2
  rw [sameS_self] at kSm
  have kS := fun W h1 h2 => statusSame_calls x y s1 s2 W h1 h2
  have kSr := fun W h1 h2 => refSame_calls x y sx sy W h1 h2
  have kSx := fun W h1 h2 => statusSame_calls x x s1 sx W h1 h2
  rw [sameS_self] at kSx
  obtain ⟨S, hS⟩ : ∃ S, sameS x y = S := ⟨_, rfl⟩
  rw [hS] at kS kSr
  clear hS hzv
  have zl := HZ.out.2.2.1
  refine wp_region_rg Ext [(3, .known (.agg (staC z (slV sz)))), (4, .known (.bool true)), (8, .known (.bool S)), (11, .known (.bool S)), (17, .known (.bool true))] (by kernel_rfl) (by kernel_rfl) (by kernel_rfl) Ext.refl (fun _ _ _ => Ext.trans) ?_
  intro σ
  simp only
  have kd : ∀ W, Ext W5.drew W → Mg w W x y sx sy b5 b6 (slV s1) (slV s2) ∧ W.heap[b7]? = some (.cells (staC z (slV (a3, z.f.b.length, p3))) TSta) ∧ Bys W (slV (a3, z.f.b.length, p3)) z.f.b := fun W h => by
    have := Ext.of_drew h
    exact ⟨M5.later this, this.block rd, (hu5.ext this).bys (by unfold maxLen; omega)⟩
  
  refine rg_pure (x := .agg (staC z (slV (a3, z.f.b.length, p3)))) rfl (by rfl) (fun W hW => exec_loadSta (x := z) (u := slV (a3, z.f.b.length, p3)) ((kd W hW).2.1) rfl rfl) ?_
  simp only [Nat.reduceAdd, Act.put, List.setIfInBounds_toArray, List.set_cons_zero, List.set_cons_succ]
  refine rg_pure (x := .agg (staC x (slV sx))) rfl (by rfl) (fun W hW => exec_loadSta (x := x) (u := slV sx) ((kd W hW).1.r0) rfl rfl) ?_
  simp only [Nat.reduceAdd, Act.put, List.setIfInBounds_toArray, List.set_cons_zero, List.set_cons_succ]
  refine rg_pure (x := .agg (staC y (slV sy))) rfl (by rfl) (fun W hW => exec_loadSta (x := y) (u := slV sy) ((kd W hW).1.r1) rfl rfl) ?_
  simp only [Nat.reduceAdd, Act.put, List.setIfInBounds_toArray, List.set_cons_zero, List.set_cons_succ]
  refine rg_known rfl (by rfl) (fun W hW hF => ?_) ?_
  · go_simp
    refine (kRM W).mono ?_
    rintro e W' ⟨rfl, h⟩
    exact ⟨_, rfl, h, rfl⟩
  simp only [Nat.reduceAdd, Act.put, List.setIfInBounds_toArray, List.set_cons_zero, List.set_cons_succ]
  refine rg_known rfl (by rfl) (fun W hW hF => ?_) ?_
  · go_simp
    refine (kSm W (kd W hW).2.2 (hbz W (kd W hW).1)).mono ?_
    rintro e W' ⟨rfl, h⟩
    exact ⟨_, rfl, h, rfl⟩
  simp only [Nat.reduceAdd, Act.put, List.setIfInBounds_toArray, List.set_cons_zero, List.set_cons_succ]
  (refine rg_pure (x := ?_) rfl (by rfl) (fun W hW => ?_) ?_; rotate_left; (· go_simp; with_reducible rfl); simp only [Nat.reduceAdd, Act.put, List.setIfInBounds_toArray, List.set_cons_zero, List.set_cons_succ])
  refine rg_pure (x := .agg (staC x (slV s1))) rfl (by rfl) (fun W hW => exec_loadSta (x := x) (u := slV s1) ((kd W hW).1.r5) rfl rfl) ?_
  simp only [Nat.reduceAdd, Act.put, List.setIfInBounds_toArray, List.set_cons_zero, List.set_cons_succ]
  refine rg_pure (x := .agg (staC y (slV s2))) rfl (by rfl) (fun W hW => exec_loadSta (x := y) (u := slV s2) ((kd W hW).1.r6) rfl rfl) ?_
  simp only [Nat.reduceAdd, Act.put, List.setIfInBounds_toArray, List.set_cons_zero, List.set_cons_succ]
  refine rg_known rfl (by rfl) (fun W hW hF => ?_) ?_
  · go_simp
    refine (kS W (kd W hW).1.h1 (kd W hW).1.h2).mono ?_
    rintro e W' ⟨rfl, h⟩
    exact ⟨_, rfl, h, rfl⟩
  simp only [Nat.reduceAdd, Act.put, List.setIfInBounds_toArray, List.set_cons_zero, List.set_cons_succ]
  refine rg_pure (x := .agg (staC x (slV sx))) rfl (by rfl) (fun W hW => exec_loadSta (x := x) (u := slV sx) ((kd W hW).1.r0) rfl rfl) ?_
  simp only [Nat.reduceAdd, Act.put, List.setIfInBounds_toArray, List.set_cons_zero, List.set_cons_succ]
  refine rg_pure (x := .agg (staC y (slV sy))) rfl (by rfl) (fun W hW => exec_loadSta (x := y) (u := slV sy) ((kd W hW).1.r1) rfl rfl) ?_
  simp only [Nat.reduceAdd, Act.put, List.setIfInBounds_toArray, List.set_cons_zero, List.set_cons_succ]
  refine rg_known rfl (by rfl) (fun W hW hF => ?_) ?_
  · go_simp
    refine (kSr W (kd W hW).1.hx (kd W hW).1.hy).mono ?_
    rintro e W' ⟨rfl, h⟩
    exact ⟨_, rfl, h, rfl⟩
  simp only [Nat.reduceAdd, Act.put, List.setIfInBounds_toArray, List.set_cons_zero, List.set_cons_succ]
  repeat (refine rg_pure (x := ?_) rfl (by rfl) (fun W hW => ?_) ?_; rotate_left; (· go_simp; with_reducible rfl); simp only [Nat.reduceAdd, Act.put, List.setIfInBounds_toArray, List.set_cons_zero, List.set_cons_succ])
  refine rg_pure (x := .agg (staC x (slV s1))) rfl (by rfl) (fun W hW => exec_loadSta (x := x) (u := slV s1) ((kd W hW).1.r5) rfl rfl) ?_
  simp only [Nat.reduceAdd, Act.put, List.setIfInBounds_toArray, List.set_cons_zero, List.set_cons_succ]
  refine rg_pure (x := .agg (staC x (slV sx))) rfl (by rfl) (fun W hW => exec_loadSta (x := x) (u := slV sx) ((kd W hW).1.r0) rfl rfl) ?_
  simp only [Nat.reduceAdd, Act.put, List.setIfInBounds_toArray, List.set_cons_zero, List.set_cons_succ]
  refine rg_known rfl (by rfl) (fun W hW hF => ?_) ?_
  · go_simp
    refine (kSx W (kd W hW).1.h1 (kd W hW).1.hx).mono ?_
    rintro e W' ⟨rfl, h⟩
    exact ⟨_, rfl, h, rfl⟩
  simp only [Nat.reduceAdd, Act.put, List.setIfInBounds_toArray, List.set_cons_zero, List.set_cons_succ]
  repeat (refine rg_pure (x := ?_) rfl (by rfl) (fun W hW => ?_) ?_; rotate_left; (· go_simp; with_reducible rfl); simp only [Nat.reduceAdd, Act.put, List.setIfInBounds_toArray, List.set_cons_zero, List.set_cons_succ])
  refine rg_done fun W6 hW hF => ?_
  obtain ⟨M6, rd6, _⟩ := kd W6 hW
  have x46 := x45.trans (Ext.of_drew hW)
  have hu6 := hu5.ext (Ext.of_drew hW)
  have c8 := cell_of_row W6 b7 8 _ _ _ rd6
  clear hF hW kd kRM kSm kS kSr M5 x45 hu5 H5 hbz rd
  simp only [staC, List.getElem?_toArray, List.getElem?_cons_succ, List.getElem?_cons_zero] at c8
  unfold slV at c8
  simp only at c8
  have hc8 : W6.cell? ⟨b7, 8, none⟩ = some (.slice a3 z.f.b.length p3) := c8
  clear c8
  go_wp2_with fail
  go_loopw [58] (fun i wr => ∃ (j : Nat) (l : List UInt8), j ≤ z.f.b.length ∧ i = .int .i64 (j : Int) ∧ l.length = z.f.b.length ∧ OwnB wr W3.heap.size 5 (.slice a3 z.f.b.length p3) l ∧ wr.cell? ⟨b7, 8, none⟩ = some (.slice a3 z.f.b.length p3) ∧ Ext W3 wr) (fun i _ => z.f.b.length - (intOf i).toNat)
  case atStart => exact ⟨0, z.f.b, Nat.zero_le _, rfl, rfl, hu6, hc8, x46⟩
  case round =>
    clear hc8 hu6 x46 rd6 M6
    obtain ⟨j, l, hj, rfl, hll, hu7, hc7, x47⟩ := hrel
    have hj8 : j ≤ 1100 := by omega
    by_cases hlt : j < z.f.b.length
    · have hd2 : decide ((j : Int) < (z.f.b.length : Int)) = true := decide_eq_true (by omega)
      obtain ⟨c, hc⟩ := get_some (l := l) (k := j) (by omega)
      obtain ⟨gx, cx', hv0, hgb, -, hcap, hcells⟩ := hu7.row (by intro e; subst e; simp at hc)
      simp only [Value.slice.injEq] at hv0
      obtain ⟨rfl, -, rfl⟩ := hv0
      obtain ⟨hce, hfr⟩ := hcells j c hc
      have hn7 := (HZ.out.2.2.2 gx rfl).2
      have hS8 := hu7.set j (by omega) (c + 1)
      have hc9 : (wr.setCell ⟨gx, j, none⟩ (.int .u8 ((c + 1).toNat : Int))).cell? ⟨b7, 8, none⟩ = some (.slice (some ⟨gx, 0, none⟩) z.f.b.length p3) := (World.cell?_setCell_other _ _ _ _ (by intro e; simp only [Addr.mk.injEq] at e; omega)).trans hc7
      have hx9 : Ext W3 (wr.setCell ⟨gx, j, none⟩ (.int .u8 ((c + 1).toNat : Int))) := Below.setCell x47 hgb _
      have hcv : IntKind.u8.wrap ((c.toNat : Int) + 1) = ((c + 1).toNat : Int) := by rw [IntKind.wrap_u8, UInt8.toNat_add]; simp
      have hjx : (j : Int) < (z.f.b.length : Int) := by omega
      have HS2 := Lib.hid (And.intro hS8 (And.intro hc9 hx9))
      clear hS8 hc9 hx9 hu7 x47 hcells hcap hn7
      have hcl := c.toNat_lt
      generalize (c + 1).toNat = c1 at *
      generalize c.toNat = c0 at *
      go_wp2_with fail
      go_round
      · exact ⟨j + 1, l.set j (c + 1), by omega, by go_num, by simp [hll], HS2.out.1, HS2.out.2.1, HS2.out.2.2⟩
      · simp [intOf]; omega
    · have hd2 : decide ((j : Int) < (z.f.b.length : Int)) = false := decide_eq_false (by omega)
      clear hu7 hc7
      have M7 := HM3.out.later x47
      have kR1 := fun W h1 h2 => refSame_calls x x s1 sx W h1 h2
      have kR2 := fun W h1 h2 => refSame_calls y y s2 sy W h1 h2
      rw [sameS_self] at kR1 kR2
      have r0 := M7.r0
      have r1 := M7.r1
      have r5 := M7.r5
      have r6 := M7.r6
      have HM7 := Lib.hid M7
      clear M7 x47 HM3
      go_wp2_with (first | refine loadStaW (x := x) (u := slV s1) r5 rfl rfl rfl ?_ | refine loadStaW (x := x) (u := slV sx) r0 rfl rfl rfl ?_)
      refine (kR1 _ HM7.out.h1 HM7.out.hx).mono ?_
      rintro e W8 ⟨rfl, h8⟩
      replace r1 := h8.block r1
      replace r6 := h8.block r6
      have HM8 := Lib.hid (HM7.out.later h8)
      clear r0 r5 kR1 h8 HM7
      go_wp2_with (first | refine loadStaW (x := y) (u := slV s2) r6 rfl rfl rfl ?_ | refine loadStaW (x := y) (u := slV sy) r1 rfl rfl rfl ?_)
      refine (kR2 _ HM8.out.h2 HM8.out.hy).mono ?_
      rintro e W9 ⟨rfl, h9⟩
      have hx9 := HM8.out.ext.trans h9
      clear r1 r6 kR2 h9 HM8
      go_wp2_with fail
      go_ret
      exact ⟨rfl, hx9⟩

theorem Merges_any (x y : StaD) (sx sy : Sl3) (w : World) (hx : Bys w (slV sx) x.f.b) (hy : Bys w (slV sy) y.f.b) :
    Calls Try.prog 3 #[.agg (staC x (slV sx)), .agg (staC y (slV sy))] w fun e w' => e = .returned (.bool true) ∧ Ext w w' := by
  have h1 : sx.2.1 = x.f.b.length := by
    obtain ⟨a, c, h, _⟩ := hx
    unfold slV at h
    simp only [Value.slice.injEq] at h
    exact h.2.1
  have h2 : sy.2.1 = y.f.b.length := by
    obtain ⟨a, c, h, _⟩ := hy
    unfold slV at h
    simp only [Value.slice.injEq] at h
    exact h.2.1
  by_cases hl : 1100 < x.f.b.length ∨ 1100 < y.f.b.length
  · exact Merges_long x y sx sy w h1 h2 hl
  · exact Merges_short x y sx sy w hx hy h1 h2 (by omega) (by omega)
end Go.Proofs.Ytcdaelgnankmfaa.VSta
