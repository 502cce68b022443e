/- StampAsks: the walk. -/
import Derived.Test.YtjhhcfadeankfaaVStampCopy
import Derived.Test.YtjhhcfadeankfaaVArg
import Derived.Test.YtjhhcfadeankfaaVSet
import Derived.Lib.SmallJoins
import Derived.OpenShut
namespace Go.Proofs.Ytjhhcfadeankfaa.VMsg
open Go.RowKit Go.VBase Go.VRg Go.VEq VCst

/-- Messages of one's own, and their payloads, that may be turned. -/
def BumpI (W : World) (n g : Nat) (sl : List Sl3) : Prop :=
  ∀ (i : Nat) (s : Sl3), sl[i]? = some s → n ≤ g ∧ (∃ nu : Int, W.cell? ⟨g, i * 4 + 2, none⟩ = some (.int .i64 nu)) ∧ W.frozen? ⟨g, i * 4 + 2, none⟩ = false ∧ W.cell? ⟨g, i * 4 + 3, none⟩ = some (slV s) ∧
    ∀ k, k < s.2.1 → ∃ (b off : Nat) (c : UInt8), s.1 = some ⟨b, off, none⟩ ∧ n ≤ b ∧ W.cell? ⟨b, off + k, none⟩ = some (.int .u8 (c.toNat : Int)) ∧ W.frozen? ⟨b, off + k, none⟩ = false
theorem BumpI.num {W : World} {n g : Nat} {sl : List Sl3} (h : BumpI W n g sl) {i : Nat} {s : Sl3} (hi : sl[i]? = some s) (z : Int) : BumpI (W.setCell ⟨g, i * 4 + 2, none⟩ (.int .i64 z)) n g sl := by
  obtain ⟨_, ⟨nu0, hc0⟩, _⟩ := h i s hi
  intro i' s' hi'
  obtain ⟨h1, ⟨nu, h2⟩, h3, h4, h5⟩ := h i' s' hi'
  refine ⟨h1, ?_, (World.frozen?_setCell _ _ _ _).trans h3, (World.cell?_setCell_other _ _ _ _ (by intro e; simp only [Addr.mk.injEq] at e; omega)).trans h4, fun k hk => ?_⟩
  · by_cases e : i' = i
    · subst e; exact ⟨z, World.cell?_setCell_same _ _ _ hc0⟩
    · exact ⟨nu, (World.cell?_setCell_other _ _ _ _ (by intro e2; simp only [Addr.mk.injEq] at e2; omega)).trans h2⟩
  · obtain ⟨b, off, c, e1, e2, e3, e4⟩ := h5 k hk
    refine ⟨b, off, c, e1, e2, (World.cell?_setCell_other _ _ _ _ (fun e => ?_)).trans e3, (World.frozen?_setCell _ _ _ _).trans e4⟩
    rw [← e] at e3
    rw [hc0] at e3
    cases e3
theorem BumpI.pay {W : World} {n g : Nat} {sl : List Sl3} (h : BumpI W n g sl) {b o : Nat} {c : UInt8} (hc : W.cell? ⟨b, o, none⟩ = some (.int .u8 (c.toNat : Int))) (d : UInt8) : BumpI (W.setCell ⟨b, o, none⟩ (.int .u8 (d.toNat : Int))) n g sl := by
  intro i' s' hi'
  obtain ⟨h1, ⟨nu, h2⟩, h3, h4, h5⟩ := h i' s' hi'
  refine ⟨h1, ⟨nu, (World.cell?_setCell_other _ _ _ _ (fun e => ?_)).trans h2⟩, (World.frozen?_setCell _ _ _ _).trans h3, (World.cell?_setCell_other _ _ _ _ (fun e => ?_)).trans h4, fun k hk => ?_⟩
  · rw [← e, hc] at h2; cases h2
  · rw [← e, hc] at h4; unfold slV at h4; cases h4
  · obtain ⟨b', off, c', e1, e2, e3, e4⟩ := h5 k hk
    by_cases e : (⟨b', off + k, none⟩ : Addr) = ⟨b, o, none⟩
    · refine ⟨b', off, d, e1, e2, ?_, (World.frozen?_setCell _ _ _ _).trans e4⟩
      rw [e]; exact World.cell?_setCell_same _ _ _ hc
    · exact ⟨b', off, c', e1, e2, (World.cell?_setCell_other _ _ _ _ (fun e' => e e'.symm)).trans e3, (World.frozen?_setCell _ _ _ _).trans e4⟩
theorem bump_of_own {W : World} {n g cap k : Nat} {m : List (MsgD × Sl3)} (ho : OwnG encM 4 W n TMsg (.slice (some ⟨g, 0, none⟩) k cap) m) (hb : ∀ x ∈ m, OwnB W n TBy (slV x.2) x.1.b) : BumpI W n g (m.map Prod.snd) := by
  intro i s hi
  rw [List.getElem?_map, Option.map_eq_some_iff] at hi
  obtain ⟨x, hx, rfl⟩ := hi
  obtain ⟨a1, a2, a3, a4⟩ := ho.at_ encM_len hx (j := 2) rfl
  obtain ⟨_, _, b3, b4⟩ := ho.at_ encM_len hx (j := 3) rfl
  have hB := hb x (List.mem_of_getElem? hx)
  refine ⟨a1, ⟨_, a3⟩, a4, b3, fun k hk => ?_⟩
  obtain ⟨a, c, hs⟩ := hB.slice
  unfold slV at hs
  simp only [Value.slice.injEq] at hs
  have hkl : k < x.1.b.length := by omega
  obtain ⟨q, cp, hv, hq, -, -, hcell⟩ := hB.row (by intro e; rw [e] at hkl; simp at hkl)
  obtain ⟨c, hc⟩ := get_some hkl
  obtain ⟨k1, k2⟩ := hcell k c hc
  unfold slV at hv
  simp only [Value.slice.injEq] at hv
  exact ⟨q, 0, c, hv.1, hq, by rw [Nat.zero_add]; exact k1, by rw [Nat.zero_add]; exact k2⟩

set_option maxRecDepth 100000 in
theorem msg_of_arg {H : Type} {enc : TypeId × Value → H} {w : World} {base : Nat} {v : Value} {d : DataW H} {p : List MemPlace} (o : Value.okWide Try.prog w .any base 24 v) (h : DataW.Trod enc Try.prog w 0 (fun _ => true) true 24 v d p) (hw : ∀ n ∈ d.weights Try.prog 24, n ≤ reachBytes) :
    ∃ (m : MsgD) (s : Sl3), v = msgV m (slV s) ∧ Bys w (slV s) m.b ∧ (Lit.int .i64 m.st).wf = true ∧ (Lit.int .i64 m.se).wf = true ∧ (Lit.int .i64 m.nu).wf = true := by
  obtain ⟨v0, v1, v2, v3, y0, y1, y2, y3, n, rfl, hd, _, t0, t1, t2, t3⟩ := Go.Joins.open_agg4 Try.underlying24 (by kernel_rfl) (by kernel_rfl) o h
  obtain ⟨z0, e0, _, w0⟩ := DataW.trod_int Try.underlying2 t0
  obtain ⟨z1, e1, _, w1⟩ := DataW.trod_int Try.underlying3 t1
  obtain ⟨z2, e2, _, w2⟩ := DataW.trod_int Try.underlying3 t2
  simp at e0 e1 e2
  subst e0 e1 e2
  obtain ⟨l, hb, _⟩ := VArg.bys_of_trod (x := y3) t3 (fun q hq => hw q (by
    rw [hd]
    simp only [DataW.weights, Try.underlying24]
    exact DataW.weights_mem_each (j := 3) (t := 22) (d := y3.1) rfl rfl q hq))
  obtain ⟨a, c, hv⟩ : ∃ a c, v3 = .slice a l.length c := by obtain ⟨a, c, h1, _⟩ := hb; exact ⟨a, c, h1⟩
  subst hv
  exact ⟨⟨z0, z1, z2, l⟩, (a, l.length, c), rfl, hb, w0, w1, w2⟩

set_option maxRecDepth 100000 in
set_option maxHeartbeats 4000000 in
theorem Asks_any (x y : MsgD) (sx sy : Sl3) (w : World) (hx : Bys w (slV sx) x.b) (hy : Bys w (slV sy) y.b) :
    Calls Try.prog 3 #[msgV x (slV sx), msgV y (slV sy)] w fun e w' => e = .returned (.bool true) ∧ Ext w w' := by
  have kc := fun W => stampCompare_calls x y sx sy W
  have kd := fun W => refMCompare_calls x y sx sy W
  have ke := fun W (h : Ext w W) => stampSame_calls x y sx sy W (hx.ext h) (hy.ext h)
  have kf := fun W (h : Ext w W) => refMSame_calls x y sx sy W (hx.ext h) (hy.ext h)
  obtain ⟨c, hc⟩ : ∃ c, cmpM x y = c := ⟨_, rfl⟩
  obtain ⟨d, hd⟩ : ∃ d, sameM x y = d := ⟨_, rfl⟩
  rw [hc] at kc kd
  rw [hd] at ke kf
  clear hc hd
  obtain ⟨els, hels⟩ : ∃ els : List (MsgD × Sl3), els = [(x, sx), (y, sy)] := ⟨_, rfl⟩
  have hlen : els.length = 2 := by rw [hels]; rfl
  have hM : ∀ W n, Ext w W → n = W.heap.size → MsgsE (W.alloc (.cells #[.int .i64 x.st, .int .i64 x.se, .int .i64 x.nu, slV sx, .int .i64 y.st, .int .i64 y.se, .int .i64 y.nu, slV sy] TMsg)) (.slice (some ⟨n, 0, none⟩) 2 2) els := fun W n hW hn => by
    rw [hels]
    refine ⟨_, 2, rfl, by simp, by simp [maxLen], fun i z hz => ⟨n, 0, rfl, ?_⟩⟩
    have hE := hW.thenAlloc (.cells #[.int .i64 x.st, .int .i64 x.se, .int .i64 x.nu, slV sx, .int .i64 y.st, .int .i64 y.se, .int .i64 y.nu, slV sy] TMsg)
    match i, hz with
    | 0, hz => cases hz; exact ⟨cell_new_at hn rfl, cell_new_at hn rfl, cell_new_at hn rfl, cell_new_at hn rfl, hx.ext hE⟩
    | 1, hz => cases hz; exact ⟨cell_new_at hn rfl, cell_new_at hn rfl, cell_new_at hn rfl, cell_new_at hn rfl, hy.ext hE⟩
  have HE := Lib.hid (And.intro hels hlen)
  clear hels hlen
  obtain ⟨x0, x1, x2, xb⟩ := x
  obtain ⟨y0, y1, y2, yb⟩ := y
  obtain ⟨sa, sn, sc⟩ := sx
  obtain ⟨ta, tn, tc⟩ := sy
  unfold msgV slV at *
  simp only at *
  go_enter Try.func3, Try.ntmps3
  go_wp2_with fail
  have r0 := (Ext.alloc (w.alloc (.cells #[.int .i64 x0, .int .i64 x1, .int .i64 x2, .slice sa sn sc] TMsg)) (.cells #[.int .i64 y0, .int .i64 y1, .int .i64 y2, .slice ta tn tc] TMsg)).block (heap_alloc_new w (.cells #[.int .i64 x0, .int .i64 x1, .int .i64 x2, .slice sa sn sc] TMsg))
  have r1 := heap_alloc_new (w.alloc (.cells #[.int .i64 x0, .int .i64 x1, .int .i64 x2, .slice sa sn sc] TMsg)) (.cells #[.int .i64 y0, .int .i64 y1, .int .i64 y2, .slice ta tn tc] TMsg)
  rw [World.size_alloc] at r1
  have hw1 := (Ext.alloc w (.cells #[.int .i64 x0, .int .i64 x1, .int .i64 x2, .slice sa sn sc] TMsg)).thenAlloc (.cells #[.int .i64 y0, .int .i64 y1, .int .i64 y2, .slice ta tn tc] TMsg)
  have hsz1 : ((w.alloc (.cells #[.int .i64 x0, .int .i64 x1, .int .i64 x2, .slice sa sn sc] TMsg)).alloc (.cells #[.int .i64 y0, .int .i64 y1, .int .i64 y2, .slice ta tn tc] TMsg)).heap.size = w.heap.size + 1 + 1 := by simp
  generalize (w.alloc (.cells #[.int .i64 x0, .int .i64 x1, .int .i64 x2, .slice sa sn sc] TMsg)).alloc (.cells #[.int .i64 y0, .int .i64 y1, .int .i64 y2, .slice ta tn tc] TMsg) = w1 at *
  have hL := hM w1 (w.heap.size + 1 + 1) hw1 hsz1.symm
  have hw2 := hw1.thenAlloc (.cells #[.int .i64 x0, .int .i64 x1, .int .i64 x2, .slice sa sn sc, .int .i64 y0, .int .i64 y1, .int .i64 y2, .slice ta tn tc] TMsg)
  have r0' := (Ext.alloc w1 (.cells #[.int .i64 x0, .int .i64 x1, .int .i64 x2, .slice sa sn sc, .int .i64 y0, .int .i64 y1, .int .i64 y2, .slice ta tn tc] TMsg)).block r0
  have r1' := (Ext.alloc w1 (.cells #[.int .i64 x0, .int .i64 x1, .int .i64 x2, .slice sa sn sc, .int .i64 y0, .int .i64 y1, .int .i64 y2, .slice ta tn tc] TMsg)).block r1
  clear r0 r1 hw1 hM hx hy
  have HZ := Lib.hid hsz1
  clear hsz1
  generalize w1.alloc (.cells #[.int .i64 x0, .int .i64 x1, .int .i64 x2, .slice sa sn sc, .int .i64 y0, .int .i64 y1, .int .i64 y2, .slice ta tn tc] TMsg) = w2 at *
  generalize w.heap.size + 1 + 1 = q at *
  refine (refGreat_calls _ els _ hL).mono ?_
  rintro e w' ⟨hg, rfl⟩
  rcases hg with rfl | ⟨rfl, hsm⟩
  · go_wp2_with fail
    go_ret
    exact ⟨rfl, hw2⟩
  go_wp2_with fail
  refine (refCopy_calls _ els _ hL hsm).mono ?_
  rintro e w3 ⟨u, m, rfl, hO, hm, hB, hx3⟩
  have hMw : MsgsE w3 u m := msgs_of_own hO (fun z hz => (hB z hz).bys (by
    have h1 : z.1 ∈ els.map Prod.fst := by rw [← hm]; exact List.mem_map.2 ⟨z, hz, rfl⟩
    obtain ⟨z', hz', e⟩ := List.mem_map.1 h1
    have := hsm.2 z' hz'
    rw [e] at this
    unfold maxLen; omega))
  have hml : m.length = 2 := by have := congrArg List.length hm; simp at this; rw [this]; exact HE.out.2
  have hL3 := hL.ext hx3
  have hw3 := hw2.trans hx3
  obtain ⟨ua, uc, rfl⟩ := hO.slice
  have HM := Lib.hid (And.intro hm hml)
  rw [hml] at hMw ⊢
  clear hO hB hm hml hL
  go_wp2_with fail
  refine (stampCopy_calls _ els _ hL3 hsm).mono ?_
  rintro e w4 ⟨v, p, rfl, hO, hp, hB, hx4⟩
  have hps : ∀ z ∈ p, z.1.b.length ≤ 300 := fun z hz => by
    have h1 : z.1 ∈ els.map Prod.fst := by rw [← hp]; exact List.mem_map.2 ⟨z, hz, rfl⟩
    obtain ⟨z', hz', e⟩ := List.mem_map.1 h1
    have := hsm.2 z' hz'
    rwa [e] at this
  have hpM : MsgsE w4 v p := msgs_of_own hO (fun z hz => (hB z hz).bys (by have := hps z hz; unfold maxLen; omega))
  have hpl : p.length = 2 := by have := congrArg List.length hp; simp at this; rw [this]; exact HE.out.2
  obtain ⟨g, gc, rfl, hg1, hg2⟩ := hO.there (by intro e; rw [e] at hpl; simp at hpl)
  have HOB := Lib.hid (And.intro hO hB)
  have hsl : ∀ s ∈ p.map Prod.snd, s.2.1 ≤ 300 := fun s hs => by
    obtain ⟨z, hz, rfl⟩ := List.mem_map.1 hs
    obtain ⟨a, c, h1, _⟩ := (hB z hz).bys (by have := hps z hz; unfold maxLen; omega)
    have := hps z hz
    unfold slV at h1
    simp only [Value.slice.injEq] at h1
    omega
  have hl4 := hL3.ext hx4
  have hm4 := hMw.ext hx4
  have hw4 := hw3.trans hx4
  have hr0 := hx4.block (hx3.block r0')
  have hr1 := hx4.block (hx3.block r1')
  have HP := Lib.hid (And.intro hp (And.intro hpl hsl))
  have hel := HE.out.2
  have kl := fun W (h : Ext w4 W) => refLists_calls _ _ p els W (hpM.ext h) (hl4.ext h) hp (by omega)
  have kl2 := fun W (h : Ext w3 W) => refLists_calls _ _ els m W (hL3.ext h) (hMw.ext h) HM.out.1.symm (by omega)
  rw [hpl] at kl ⊢
  clear hO hB hp hps hpM hel r0' r1' hL3 hMw hpl hsl hsm
  go_wp2_with fail
  have k0 : ∀ W, Ext w4.drew W → W.cell? ⟨w.heap.size, 0, none⟩ = some (.int .i64 x0) ∧ W.cell? ⟨w.heap.size, 1, none⟩ = some (.int .i64 x1) ∧ W.cell? ⟨w.heap.size, 2, none⟩ = some (.int .i64 x2) ∧ W.cell? ⟨w.heap.size, 3, none⟩ = some (.slice sa sn sc) := fun W h => by
    obtain ⟨a0, a1, a2, a3⟩ := row4m hr0; exact ⟨h.cell a0, h.cell a1, h.cell a2, h.cell a3⟩
  have k1 : ∀ W, Ext w4.drew W → W.cell? ⟨w.heap.size + 1, 0, none⟩ = some (.int .i64 y0) ∧ W.cell? ⟨w.heap.size + 1, 1, none⟩ = some (.int .i64 y1) ∧ W.cell? ⟨w.heap.size + 1, 2, none⟩ = some (.int .i64 y2) ∧ W.cell? ⟨w.heap.size + 1, 3, none⟩ = some (.slice ta tn tc) := fun W h => by
    obtain ⟨a0, a1, a2, a3⟩ := row4m hr1; exact ⟨h.cell a0, h.cell a1, h.cell a2, h.cell a3⟩
  refine wp_region_rg Ext [(2, .known (.int .i64 c)), (5, .known (.int .i64 c)), (10, .known (.bool d)), (13, .known (.bool d)), (19, .known (.bool true))] (by kernel_rfl) (by kernel_rfl) (by kernel_rfl) Ext.refl (fun _ _ _ => Ext.trans) ?_
  intro σ
  simp only
  repeat (first | (refine rg_pure (x := ?_) rfl (by rfl) (fun W hW => ?_) ?_; rotate_left; (· obtain ⟨e0, e1, e2, e3⟩ := k0 W hW; obtain ⟨f0, f1, f2, f3⟩ := k1 W hW; go_simp; with_reducible rfl); simp only [Nat.reduceAdd, Act.put, List.setIfInBounds_toArray, List.set_cons_zero, List.set_cons_succ]) | (refine rg_skip rfl (by rfl) ?_; simp only [Nat.reduceAdd, Act.put, List.setIfInBounds_toArray, List.set_cons_zero, List.set_cons_succ]))
  refine rg_known rfl (by rfl) (fun W hW hF => ?_) ?_
  · go_simp
    refine (kc W).mono ?_
    rintro e W' ⟨rfl, h⟩
    exact ⟨_, rfl, h, rfl⟩
  simp only [Nat.reduceAdd, Act.put, List.setIfInBounds_toArray, List.set_cons_zero, List.set_cons_succ]
  repeat (first | (refine rg_pure (x := ?_) rfl (by rfl) (fun W hW => ?_) ?_; rotate_left; (· obtain ⟨e0, e1, e2, e3⟩ := k0 W hW; obtain ⟨f0, f1, f2, f3⟩ := k1 W hW; go_simp; with_reducible rfl); simp only [Nat.reduceAdd, Act.put, List.setIfInBounds_toArray, List.set_cons_zero, List.set_cons_succ]) | (refine rg_skip rfl (by rfl) ?_; simp only [Nat.reduceAdd, Act.put, List.setIfInBounds_toArray, List.set_cons_zero, List.set_cons_succ]))
  refine rg_known rfl (by rfl) (fun W hW hF => ?_) ?_
  · go_simp
    refine (kd W).mono ?_
    rintro e W' ⟨rfl, h⟩
    exact ⟨_, rfl, h, rfl⟩
  simp only [Nat.reduceAdd, Act.put, List.setIfInBounds_toArray, List.set_cons_zero, List.set_cons_succ]
  repeat (first | (refine rg_pure (x := ?_) rfl (by rfl) (fun W hW => ?_) ?_; rotate_left; (· obtain ⟨e0, e1, e2, e3⟩ := k0 W hW; obtain ⟨f0, f1, f2, f3⟩ := k1 W hW; go_simp; with_reducible rfl); simp only [Nat.reduceAdd, Act.put, List.setIfInBounds_toArray, List.set_cons_zero, List.set_cons_succ]) | (refine rg_skip rfl (by rfl) ?_; simp only [Nat.reduceAdd, Act.put, List.setIfInBounds_toArray, List.set_cons_zero, List.set_cons_succ]))
  refine rg_known rfl (by rfl) (fun W hW hF => ?_) ?_
  · go_simp
    refine (ke W (hw4.trans (Ext.of_drew hW))).mono ?_
    rintro e W' ⟨rfl, h⟩
    exact ⟨_, rfl, h, rfl⟩
  simp only [Nat.reduceAdd, Act.put, List.setIfInBounds_toArray, List.set_cons_zero, List.set_cons_succ]
  repeat (first | (refine rg_pure (x := ?_) rfl (by rfl) (fun W hW => ?_) ?_; rotate_left; (· obtain ⟨e0, e1, e2, e3⟩ := k0 W hW; obtain ⟨f0, f1, f2, f3⟩ := k1 W hW; go_simp; with_reducible rfl); simp only [Nat.reduceAdd, Act.put, List.setIfInBounds_toArray, List.set_cons_zero, List.set_cons_succ]) | (refine rg_skip rfl (by rfl) ?_; simp only [Nat.reduceAdd, Act.put, List.setIfInBounds_toArray, List.set_cons_zero, List.set_cons_succ]))
  refine rg_known rfl (by rfl) (fun W hW hF => ?_) ?_
  · go_simp
    refine (kf W (hw4.trans (Ext.of_drew hW))).mono ?_
    rintro e W' ⟨rfl, h⟩
    exact ⟨_, rfl, h, rfl⟩
  simp only [Nat.reduceAdd, Act.put, List.setIfInBounds_toArray, List.set_cons_zero, List.set_cons_succ]
  repeat (first | (refine rg_pure (x := ?_) rfl (by rfl) (fun W hW => ?_) ?_; rotate_left; (· obtain ⟨e0, e1, e2, e3⟩ := k0 W hW; obtain ⟨f0, f1, f2, f3⟩ := k1 W hW; go_simp; with_reducible rfl); simp only [Nat.reduceAdd, Act.put, List.setIfInBounds_toArray, List.set_cons_zero, List.set_cons_succ]) | (refine rg_skip rfl (by rfl) ?_; simp only [Nat.reduceAdd, Act.put, List.setIfInBounds_toArray, List.set_cons_zero, List.set_cons_succ]))
  refine rg_known rfl (by rfl) (fun W hW hF => ?_) ?_
  · go_simp
    refine (kl W (Ext.of_drew hW)).mono ?_
    rintro e W' ⟨rfl, h⟩
    exact ⟨_, rfl, h, rfl⟩
  simp only [Nat.reduceAdd, Act.put, List.setIfInBounds_toArray, List.set_cons_zero, List.set_cons_succ]
  repeat (first | (refine rg_pure (x := ?_) rfl (by rfl) (fun W hW => ?_) ?_; rotate_left; (· obtain ⟨e0, e1, e2, e3⟩ := k0 W hW; obtain ⟨f0, f1, f2, f3⟩ := k1 W hW; go_simp; with_reducible rfl); simp only [Nat.reduceAdd, Act.put, List.setIfInBounds_toArray, List.set_cons_zero, List.set_cons_succ]) | (refine rg_skip rfl (by rfl) ?_; simp only [Nat.reduceAdd, Act.put, List.setIfInBounds_toArray, List.set_cons_zero, List.set_cons_succ]))
  refine rg_done fun w5 hW hF => ?_
  have hx5 := Ext.of_drew hW
  have hbx := fun (hO : OwnG encM 4 w4 w3.heap.size TMsg (.slice (some ⟨g, 0, none⟩) p.length gc) p) (hB : ∀ z ∈ p, OwnB w4 w3.heap.size TBy (slV z.2) z.1.b) => bump_of_own (hO.ext hx5) (fun z hz => (hB z hz).ext hx5)
  have hb5 := hbx HOB.out.1 HOB.out.2
  have hw5 := hx4.trans hx5
  clear hF hW k0 k1 hbx HOB hr0 hr1 kl kc kd ke kf hx5 hx4 hl4 hm4 hw4
  have hsln : (p.map Prod.snd).length = 2 := by rw [List.length_map]; exact HP.out.2.1
  obtain ⟨sl, hsl⟩ : ∃ sl, p.map Prod.snd = sl := ⟨_, rfl⟩
  have hs3 : ∀ s ∈ sl, s.2.1 ≤ 300 := by rw [← hsl]; exact HP.out.2.2
  rw [hsl] at hb5 hsln
  have HL := Lib.hid hsln
  have HS := Lib.hid hs3
  clear hsl hsln HP hs3
  go_wp2_with fail
  go_loopw [9, 10, 44] (fun _ _ i wr => ∃ (j : Nat), j ≤ 2 ∧ i = .int .i64 (j : Int) ∧ BumpI wr w3.heap.size g sl ∧ Ext w3 wr) (fun _ _ i _ => 2 - (intOf i).toNat)
  case atStart => exact ⟨0, by omega, rfl, hb5, hw5⟩
  case round =>
    clear hb5 hw5
    obtain ⟨j, hj, rfl, hb, hE⟩ := hrel
    by_cases hlt : j < 2
    · obtain ⟨s, hs⟩ := get_some (l := sl) (k := j) (by have := HL.out; omega)
      have hjw : (j : Int) < 2 := by omega
      have hs300 := HS.out s (List.mem_of_getElem? hs)
      obtain ⟨hgn, ⟨nu, c2⟩, f2, c3, -⟩ := hb j s hs
      have hbn := fun z => hb.num hs z
      have hEn : ∀ z : Int, Ext w3 (wr.setCell ⟨g, j * 4 + 2, none⟩ (.int .i64 z)) := fun z => Below.setCell hE hgn _
      have c3n := fun z => (hbn z j s hs).2.2.2.1
      obtain ⟨sa1, sn1, sc1⟩ := s
      unfold slV at c3 c3n
      simp only at c3 c3n hs300
      have HB := Lib.hid (And.intro hbn hEn)
      have HSS := Lib.hid hs
      clear hb hE hbn hEn hs
      go_wp2_with fail
      go_loopw [10, 61] (fun _ i wq => ∃ (k : Nat), k ≤ sn1 ∧ i = .int .i64 (k : Int) ∧ BumpI wq w3.heap.size g sl ∧ Ext w3 wq) (fun _ i _ => sn1 - (intOf i).toNat)
      case atStart => exact ⟨0, Nat.zero_le _, rfl, HB.out.1 _, HB.out.2 _⟩
      case round =>
        clear HB c3 c3n c2 f2
        obtain ⟨k, hk, rfl, hb, hE⟩ := hrel
        by_cases hkl : k < sn1
        · have hkw : (k : Int) < (sn1 : Int) := by omega
          obtain ⟨_, -, -, c3, h5⟩ := hb j _ HSS.out
          obtain ⟨b, off, c, hsa, hbn, hc, hf⟩ := h5 k hkl
          simp only at hsa
          subst hsa
          unfold slV at c3
          simp only at c3
          have HT := Lib.hid (And.intro (hb.pay hc (c + 1)) (show Ext w3 (wr.setCell ⟨b, off + k, none⟩ (.int .u8 ((c + 1).toNat : Int))) from Below.setCell hE hbn _))
          have hcv : IntKind.u8.wrap ((c.toNat : Int) + 1) = ((c + 1).toNat : Int) := by rw [IntKind.wrap_u8, UInt8.toNat_add]; simp
          have hcl := c.toNat_lt
          clear h5 hb hE
          generalize (c + 1).toNat = c1 at *
          generalize c.toNat = c0 at *
          go_wp2_with fail
          go_roundw
          case rel => exact ⟨k + 1, by omega, by go_num, HT.out.1, HT.out.2⟩
          case measure => simp [intOf]; omega
        · have hkw : decide ((k : Int) < (sn1 : Int)) = false := decide_eq_false (by omega)
          go_wp2_with fail
          go_roundw
          case rel => exact ⟨j + 1, by omega, by go_num, hb, hE⟩
          case measure => simp [intOf]; omega
    · have hjl : j = 2 := by omega
      subst hjl
      have hkk := kl2 wr hE
      clear hb kl2
      go_wp2_with fail
      refine hkk.mono ?_
      rintro e w6 ⟨rfl, h6⟩
      have hE6 := (hw3.trans hE).trans h6
      clear hkk h6
      go_wp2_with fail
      go_ret
      exact ⟨rfl, hE6⟩
end Go.Proofs.Ytjhhcfadeankfaa.VMsg
