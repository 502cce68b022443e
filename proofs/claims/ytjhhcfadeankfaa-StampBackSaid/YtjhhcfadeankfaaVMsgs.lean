/- Lists of messages: how they lie in memory; the reference's Great, Copy and Lists. -/
import Derived.Test.YtjhhcfadeankfaaVMsgSame
import Derived.Test.YtjhhcfadeankfaaVOwn
namespace Go.Proofs.Ytjhhcfadeankfaa.VMsg
open Go.RowKit Go.VBase Go.VRg Go.VEq VCst

/-- A message as it lies in memory. -/
def encM (x : MsgD × Sl3) : List Value := [.int .i64 x.1.st, .int .i64 x.1.se, .int .i64 x.1.nu, slV x.2]
theorem encM_len (x : MsgD × Sl3) : (encM x).length = 4 := rfl
theorem encM_one (x : MsgD × Sl3) : ∀ u ∈ encM x, u.oneCell' = true := by
  intro u hu
  unfold encM at hu
  simp at hu
  rcases hu with rfl | rfl | rfl | rfl <;> rfl
theorem msgSl : ElemTy Try.prog 25 TMsg (.agg #[.int .i64 0, .int .i64 0, .int .i64 0, .slice none 0 0]) 4 48 := by
  obtain ⟨i, h0, h1, h2, h3⟩ := info_parts (P := Try.prog) (e := TMsg) (z := .agg #[.int .i64 0, .int .i64 0, .int .i64 0, .slice none 0 0]) (size := 4) (bytes := 48) (by kernel_rfl)
  exact ⟨Try.underlying25, i, h0, h1, h2, h3, rfl⟩
/-- A message lies there. -/
def MsgAt (w : World) (b o : Nat) (x : MsgD × Sl3) : Prop :=
  w.cell? ⟨b, o, none⟩ = some (.int .i64 x.1.st) ∧ w.cell? ⟨b, o + 1, none⟩ = some (.int .i64 x.1.se) ∧ w.cell? ⟨b, o + 2, none⟩ = some (.int .i64 x.1.nu) ∧ w.cell? ⟨b, o + 3, none⟩ = some (slV x.2) ∧ Bys w (slV x.2) x.1.b
/-- A slice reads as these messages. -/
def MsgsE (w : World) (v : Value) (l : List (MsgD × Sl3)) : Prop :=
  ∃ a cap, v = .slice a l.length cap ∧ l.length ≤ cap ∧ cap ≤ maxLen ∧ ∀ (i : Nat) (x : MsgD × Sl3), l[i]? = some x → ∃ b off, a = some ⟨b, off, none⟩ ∧ MsgAt w b (off + i * 4) x
theorem MsgAt.ext {w w' : World} {b o : Nat} {x : MsgD × Sl3} (h : MsgAt w b o x) (e : Ext w w') : MsgAt w' b o x := ⟨e.cell h.1, e.cell h.2.1, e.cell h.2.2.1, e.cell h.2.2.2.1, h.2.2.2.2.ext e⟩
theorem MsgsE.ext {w w' : World} {v : Value} {l : List (MsgD × Sl3)} (h : MsgsE w v l) (e : Ext w w') : MsgsE w' v l := by
  obtain ⟨a, cap, h1, h2, h3, h4⟩ := h
  refine ⟨a, cap, h1, h2, h3, fun i x hx => ?_⟩
  obtain ⟨b, off, h5, h6⟩ := h4 i x hx
  exact ⟨b, off, h5, h6.ext e⟩
/-- A row of one's own of messages reads as them. -/
theorem msgs_of_own {w : World} {base : Nat} {v : Value} {l : List (MsgD × Sl3)} (h : OwnG encM 4 w base TMsg v l) (hb : ∀ x ∈ l, Bys w (slV x.2) x.1.b) : MsgsE w v l := by
  have h0 := h
  rcases h.2 with ⟨rfl, hl⟩ | ⟨g, cap, cur, rfl, hg, hgg, hn, hcm, hcs, ht⟩
  · have : l = [] := List.eq_nil_of_length_eq_zero hl
    subst this
    exact ⟨none, 0, rfl, Nat.le_refl _, Nat.zero_le _, fun i x hx => by simp at hx⟩
  · refine ⟨_, cap, rfl, hn, hcm, fun i x hx => ⟨g, 0, rfl, ?_⟩⟩
    have hc := fun k u (hk : (encM x)[k]? = some u) => (OwnG.cell encM_len h0 hx hk).2.2
    rw [Nat.zero_add]
    exact ⟨hc 0 _ rfl, hc 1 _ rfl, hc 2 _ rfl, hc 3 _ rfl, hb x (List.mem_of_getElem? hx)⟩

def Small (l : List (MsgD × Sl3)) : Prop := l.length ≤ 50 ∧ ∀ x ∈ l, x.1.b.length ≤ 300

set_option maxHeartbeats 1000000 in
theorem refGreat_calls (v : Value) (l : List (MsgD × Sl3)) (w : World) (hv : MsgsE w v l) :
    Calls Try.prog 10 #[v] w fun e w' => (e = .returned (.int .i64 1) ∨ (e = .returned (.int .i64 0) ∧ Small l)) ∧ w = w' := by
  obtain ⟨a, cap, rfl, hcap, hcm, hop⟩ := hv
  by_cases h50 : 50 < l.length
  · have hd : decide ((50 : Int) < (l.length : Int)) = true := decide_eq_true (by omega)
    clear hop
    go_enter Try.func10, Try.ntmps10
    go_wp2_with fail
    go_ret
    exact ⟨.inl rfl, rfl⟩
  have hl50 : l.length ≤ 50 := by omega
  have hd : decide ((50 : Int) < (l.length : Int)) = false := decide_eq_false (by omega)
  clear h50
  go_enter Try.func10, Try.ntmps10
  go_wp2_with fail
  go_loop [3] (fun i => ∃ (j : Nat), j ≤ l.length ∧ i = .int .i64 (j : Int) ∧ ∀ x ∈ l.take j, x.1.b.length ≤ 300) (fun i => l.length - (intOf i).toNat)
  case atStart => exact ⟨0, Nat.zero_le _, rfl, fun x hx => by simp at hx⟩
  case round =>
    obtain ⟨j, hj, rfl, hs⟩ := hrel
    have HS := Lib.hid hs
    clear hs
    by_cases hlt : j < l.length
    · obtain ⟨x, hx⟩ := get_some hlt
      obtain ⟨b, off, rfl, h0, h1, h2, h3, h4⟩ := hop j x hx
      have hjw : (j : Int) < (l.length : Int) := by omega
      obtain ⟨a', c', hsv, _⟩ := h4
      rw [hsv] at h3
      have HX := Lib.hid hx
      clear hsv hx hop
      by_cases hb : 300 < x.1.b.length
      · have hb' : decide ((300 : Int) < (x.1.b.length : Int)) = true := decide_eq_true (by omega)
        go_wp2_with fail
        go_ret
        exact ⟨.inl rfl, rfl⟩
      · have hb' : decide ((300 : Int) < (x.1.b.length : Int)) = false := decide_eq_false (by omega)
        have hb3 : x.1.b.length ≤ 300 := by omega
        go_wp2_with fail
        go_round
        · refine ⟨j + 1, by omega, by go_num, fun y hy => ?_⟩
          rw [take_snoc HX.out] at hy
          rcases List.mem_append.1 hy with hy | hy
          · exact HS.out y hy
          · simp at hy; subst hy; exact hb3
        · simp [intOf]; omega
    · have hjl : j = l.length := by omega
      subst hjl
      clear hop
      go_wp2_with fail
      go_ret
      refine ⟨.inr ⟨rfl, hl50, ?_⟩, rfl⟩
      have := HS.out
      rwa [List.take_length] at this

theorem cell_new_at {w : World} {C : Array Value} {t : TypeId} {n i : Nat} {v : Value} (hn : n = w.heap.size) (hv : C[i]? = some v) : (w.alloc (.cells C t)).cell? ⟨n, i, none⟩ = some v := by
  subst hn; rw [cell_new_mark]; exact hv
abbrev TBy : TypeId := 5
theorem ownB_lt' {w : World} {base e : Nat} {v : Value} {l : List UInt8} (h : OwnB w base e v l) : ∀ k, v.ownBlock = some k → base ≤ k ∧ k < w.heap.size := fun k hk => World.ownsRow.lt h k hk
/-- A row of bytes is none of messages. -/
theorem own_apart {W : World} {b1 b2 : Nat} {v u : Value} {l : List UInt8} {m : List (MsgD × Sl3)} (h : OwnB W b1 TBy v l) (k : OwnG encM 4 W b2 TMsg u m) : v.ownBlock = none ∨ v.ownBlock ≠ u.ownBlock := by
  rcases h.2 with hn | ⟨g, cap, cur, rfl, hb, hgg, rest⟩
  · left; rw [hn.1]; rfl
  · right
    rcases k.2 with hn | ⟨g2, cap2, cur2, rfl, hb2, hgg2, rest2⟩
    · rw [hn.1]; simp [Value.ownBlock]
    · intro e
      simp [Value.ownBlock] at e
      subst e
      have := hgg.symm.trans hgg2
      simp at this
      exact absurd this.2 (by decide)
/-- What the reference's Copy comes to. -/
def RCopyPost (l : List (MsgD × Sl3)) (w : World) (e : Ending) (w' : World) : Prop :=
  ∃ u m, e = .returned u ∧ OwnG encM 4 w' w.heap.size TMsg u m ∧ m.map Prod.fst = l.map Prod.fst ∧ (∀ x ∈ m, OwnB w' w.heap.size TBy (slV x.2) x.1.b) ∧ Ext w w'

set_option maxHeartbeats 2000000 in
theorem refCopy_calls (v : Value) (l : List (MsgD × Sl3)) (w : World) (hv : MsgsE w v l) (hs : Small l) :
    Calls Try.prog 11 #[v] w (RCopyPost l w) := by
  obtain ⟨a, cap, rfl, hcap, hcm, hop⟩ := hv
  obtain ⟨hl50, hs⟩ := hs
  go_enter Try.func11, Try.ntmps11
  go_wp2_with fail
  go_loopw [3, 4, 5] (fun sl i _ wr => ∃ (j : Nat) (m : List (MsgD × Sl3)), j ≤ l.length ∧ i = .int .i64 (j : Int) ∧ m.map Prod.fst = (l.take j).map Prod.fst ∧ OwnG encM 4 wr w.heap.size TMsg sl m ∧ (∀ x ∈ m, OwnB wr w.heap.size TBy (slV x.2) x.1.b) ∧ Ext w wr) (fun _ i _ _ => l.length - (intOf i).toNat)
  case atStart => exact ⟨0, [], Nat.zero_le _, rfl, by simp, OwnG.nil _ _ _, fun x hx => (by cases hx), Ext.refl _⟩
  case round =>
    obtain ⟨j, m, hj, rfl, hm, hO, hB, hE⟩ := hrel
    have hml : m.length = j := by
      have := congrArg List.length hm
      simp at this; omega
    have HM := Lib.hid (And.intro hm hml)
    have HB := Lib.hid hB
    have hmj : m.length ≤ 50 := by omega
    clear hm hml hB
    by_cases hlt : j < l.length
    · obtain ⟨x, hx⟩ := get_some hlt
      obtain ⟨b, off, rfl, d0, d1, d2, d3, hxb⟩ := hop j x hx
      have hjw : (j : Int) < (l.length : Int) := by omega
      have hb3 := hs x (List.mem_of_getElem? hx)
      have e0 := hE.cell d0
      have e1 := hE.cell d1
      have e2 := hE.cell d2
      have e3 := hE.cell d3
      have hxbE := hxb.ext hE
      obtain ⟨x, s⟩ := x
      obtain ⟨sa, sn, sc⟩ := s
      have HX := Lib.hid hx
      unfold slV at e3 hxbE
      simp only at e0 e1 e2 e3 hxbE hb3
      obtain ⟨mva, mvc, rfl⟩ := hO.slice
      clear d0 d1 d2 d3 hx hop hs hxb
      go_wp2_with fail
      have hal := Ext.alloc wr (.cells #[.int .i64 x.st, .int .i64 x.se, .int .i64 x.nu, .slice sa sn sc] TMsg)
      refine (VRef01.Twin_calls _ x.b _ (hxbE.ext hal) (by omega)).mono ?_
      rintro e w2 ⟨u, rfl, hu, h2⟩
      obtain ⟨a0, a1, a2, a3⟩ := row4m (h2.block (heap_alloc_new wr (.cells #[.int .i64 x.st, .int .i64 x.se, .int .i64 x.nu, .slice sa sn sc] TMsg)))
      have hf := frozen_of_row w2 wr.heap.size 3 _ _ (h2.block (heap_alloc_new wr (.cells #[.int .i64 x.st, .int .i64 x.se, .int .i64 x.nu, .slice sa sn sc] TMsg)))
      have hu0 := hu.mono (show wr.heap.size ≤ _ by simp)
      have hub := ownB_lt' hu
      obtain ⟨ua, uc, rfl⟩ := hu.slice
      have hE2 : Ext wr w2 := hal.trans h2
      have HU := Lib.hid (And.intro hu0 hub)
      clear hal hu h2 hxbE e0 e1 e2 e3 hu0 hub
      have hE3 : Ext wr (w2.setCell ⟨wr.heap.size, 3, none⟩ (.slice ua x.b.length uc)) := Below.setCell hE2 (Nat.le_refl _) _
      have hO3 := hO.ext hE3
      go_wp2_with (at_builtin; refine wpList_append_G msgSl (by decide) encM_len encM_one rfl _ _ rfl (x, (ua, x.b.length, uc)) (by rfl) (by rfl) (hO3.alloc _) ?hx ?hl ?hl2 ?hb ?hk)
      case hx =>
        intro i u hi
        have hi4 : i < 4 := (List.getElem?_eq_some_iff.1 hi).1
        match i, hi with
        | 0, hi => simp [encM] at hi; subst hi; exact cell_new_at (i := 0) (by simp) rfl
        | 1, hi => simp [encM] at hi; subst hi; exact cell_new_at (i := 1) (by simp) rfl
        | 2, hi => simp [encM] at hi; subst hi; exact cell_new_at (i := 2) (by simp) rfl
        | 3, hi => simp [encM, slV] at hi; subst hi; exact cell_new_at (i := 3) (by simp) rfl
      case hl => omega
      case hl2 => omega
      case hb => exact Nat.le_trans hE.size (Nat.le_trans hE3.size (by simp))
      case hk =>
      intro v' w' ho hg
      have hlt := (by simp : wr.heap.size ≤ wr.heap.size)
      have hE4 : Ext wr ((w2.setCell ⟨wr.heap.size, 3, none⟩ (.slice ua x.b.length uc)).alloc (.cells #[.int .i64 x.st, .int .i64 x.se, .int .i64 x.nu, .slice ua x.b.length uc] TMsg)) := hE3.thenAlloc _
      have hUw : OwnB ((w2.setCell ⟨wr.heap.size, 3, none⟩ (.slice ua x.b.length uc)).alloc (.cells #[.int .i64 x.st, .int .i64 x.se, .int .i64 x.nu, .slice ua x.b.length uc] TMsg)) wr.heap.size TBy (.slice ua x.b.length uc) x.b := by
        refine OwnB.alloc ?_ _
        refine World.ownsRow.kept HU.out.1 (row := some wr.heap.size) ⟨rfl, rfl, rfl, by simp, fun k hk hne => heap_setCell_other _ _ _ _ (by simpa using fun e => hne (by rw [e]))⟩ ?_
        right; intro e
        have := (HU.out.2 _ e).1
        simp at this
        omega
      have hold : ∀ y ∈ m, OwnB w' w.heap.size TBy (slV y.2) y.1.b := fun y hy => by
        have h1 := (HB.out y hy).ext hE4
        exact h1.grown hg (own_apart h1 (hO3.alloc _))
      have hnew : OwnB w' w.heap.size TBy (.slice ua x.b.length uc) x.b := by
        have h1 := hUw.mono hE.size
        exact h1.grown hg (own_apart h1 (hO3.alloc _))
      have hEw : Ext w w' := (hE.trans hE4).below.trans (grown_below hg (Nat.le_trans hE.size hE4.size) hO.lt)
      obtain ⟨va', vc', rfl⟩ := ho.slice
      have HF := Lib.hid (And.intro hold (And.intro hnew hEw))
      clear hold hnew hEw hE4 hUw hg hO3 hE3 hE2 hO hE a0 a1 a2 a3 hf
      go_wp2_with fail
      go_roundw
      case rel =>
        refine ⟨j + 1, m ++ [(x, (ua, x.b.length, uc))], by omega, by go_num, ?_, ho, fun y hy => ?_, HF.out.2.2⟩
        · rw [take_snoc HX.out, List.map_append, List.map_append, HM.out.1]; rfl
        · rcases List.mem_append.1 hy with hy | hy
          · exact HF.out.1 y hy
          · simp at hy; subst hy; exact HF.out.2.1
      case measure => simp [intOf]; omega
    · have hjl : j = l.length := by omega
      subst hjl
      obtain ⟨mva, mvc, rfl⟩ := hO.slice
      clear hop hs
      go_wp2_with fail
      go_ret
      have h1 := HM.out.1
      rw [List.take_length] at h1
      exact ⟨_, m, rfl, hO, h1, HB.out, hE⟩

set_option maxHeartbeats 2000000 in
theorem refLists_calls (va vb : Value) (la lb : List (MsgD × Sl3)) (w : World) (ha : MsgsE w va la) (hb : MsgsE w vb lb) (hab : la.map Prod.fst = lb.map Prod.fst) (hl : la.length ≤ 1000000) :
    Calls Try.prog 17 #[va, vb] w fun e w' => e = .returned (.bool true) ∧ Ext w w' := by
  have hln : la.length = lb.length := by simpa using congrArg List.length hab
  obtain ⟨aa, ca, rfl, hca, _, hoa⟩ := ha
  obtain ⟨ab, cb, rfl, hcb, _, hob⟩ := hb
  rw [← hln] at hcb ⊢
  have HLN := Lib.hid hln
  clear hln
  go_enter Try.func17, Try.ntmps17
  go_wp2_with fail
  go_loopw [5, 6] (fun i _ wr => ∃ (j : Nat), j ≤ la.length ∧ i = .int .i64 (j : Int) ∧ Ext w wr) (fun i _ _ => la.length - (intOf i).toNat)
  case atStart => exact ⟨0, Nat.zero_le _, rfl, Ext.refl _⟩
  case round =>
    obtain ⟨j, hj, rfl, hE⟩ := hrel
    by_cases hlt : j < la.length
    · obtain ⟨x, hx⟩ := get_some hlt
      obtain ⟨y, hy⟩ := get_some (l := lb) (k := j) (by have := HLN.out; omega)
      have hxy : x.1 = y.1 := by
        have h1 : (la.map Prod.fst)[j]? = some x.1 := by rw [List.getElem?_map, hx]; rfl
        have h2 : (lb.map Prod.fst)[j]? = some y.1 := by rw [List.getElem?_map, hy]; rfl
        rw [hab] at h1
        rw [h1] at h2
        simpa using h2
      obtain ⟨b, off, rfl, d0, d1, d2, d3, hxb⟩ := hoa j x hx
      obtain ⟨b', off', rfl, g0, g1, g2, g3, hyb⟩ := hob j y hy
      obtain ⟨x, s⟩ := x
      obtain ⟨y, s'⟩ := y
      simp only at hxy
      subst hxy
      simp only at d0 d1 d2 d3 g0 g1 g2 g3 hxb hyb
      have hjw : (j : Int) < (la.length : Int) := by omega
      have k0 : ∀ W, Ext wr.drew W → W.cell? ⟨b, off + j * 4, none⟩ = some (.int .i64 x.st) ∧ W.cell? ⟨b, off + j * 4 + 1, none⟩ = some (.int .i64 x.se) ∧ W.cell? ⟨b, off + j * 4 + 2, none⟩ = some (.int .i64 x.nu) ∧ W.cell? ⟨b, off + j * 4 + 3, none⟩ = some (slV s) := fun W h => ⟨(hE.trans (Ext.of_drew h)).cell d0, (hE.trans (Ext.of_drew h)).cell d1, (hE.trans (Ext.of_drew h)).cell d2, (hE.trans (Ext.of_drew h)).cell d3⟩
      have k1 : ∀ W, Ext wr.drew W → W.cell? ⟨b', off' + j * 4, none⟩ = some (.int .i64 x.st) ∧ W.cell? ⟨b', off' + j * 4 + 1, none⟩ = some (.int .i64 x.se) ∧ W.cell? ⟨b', off' + j * 4 + 2, none⟩ = some (.int .i64 x.nu) ∧ W.cell? ⟨b', off' + j * 4 + 3, none⟩ = some (slV s') := fun W h => ⟨(hE.trans (Ext.of_drew h)).cell g0, (hE.trans (Ext.of_drew h)).cell g1, (hE.trans (Ext.of_drew h)).cell g2, (hE.trans (Ext.of_drew h)).cell g3⟩
      have kS := fun W (h : Ext w W) => refMSame_calls x x s s' W (hxb.ext h) (hyb.ext h)
      rw [sameM_refl] at kS
      unfold msgV at kS
      clear d0 d1 d2 d3 g0 g1 g2 g3 hxb hyb hx hy hoa hob hab
      go_wp2_with fail
      refine wp_region_rg Ext [(8, .known (.bool true))] (by kernel_rfl) (by kernel_rfl) (by kernel_rfl) Ext.refl (fun _ _ _ => Ext.trans) ?_
      intro σ
      simp only
      repeat (first | (refine rg_pure (x := ?_) rfl (by rfl) (fun W hW => ?_) ?_; rotate_left; (· obtain ⟨e0, e1, e2, e3⟩ := k0 W hW; obtain ⟨f0, f1, f2, f3⟩ := k1 W hW; go_simp; with_reducible rfl); simp only [Nat.reduceAdd, Act.put, List.setIfInBounds_toArray, List.set_cons_zero, List.set_cons_succ]) | (refine rg_skip rfl (by rfl) ?_; simp only [Nat.reduceAdd, Act.put, List.setIfInBounds_toArray, List.set_cons_zero, List.set_cons_succ]))
      refine rg_known rfl (by rfl) (fun W hW hF => ?_) ?_
      · go_simp
        refine (kS W (hE.trans (Ext.of_drew hW))).mono ?_
        rintro e W' ⟨rfl, h⟩
        exact ⟨_, rfl, h, rfl⟩
      simp only [Nat.reduceAdd, Act.put, List.setIfInBounds_toArray, List.set_cons_zero, List.set_cons_succ]
      repeat (first | (refine rg_pure (x := ?_) rfl (by rfl) (fun W hW => ?_) ?_; rotate_left; (· obtain ⟨e0, e1, e2, e3⟩ := k0 W hW; obtain ⟨f0, f1, f2, f3⟩ := k1 W hW; go_simp; with_reducible rfl); simp only [Nat.reduceAdd, Act.put, List.setIfInBounds_toArray, List.set_cons_zero, List.set_cons_succ]) | (refine rg_skip rfl (by rfl) ?_; simp only [Nat.reduceAdd, Act.put, List.setIfInBounds_toArray, List.set_cons_zero, List.set_cons_succ]))
      refine rg_done fun W hW hF => ?_
      have hE2 := hE.trans (Ext.of_drew hW)
      clear hF hW k0 k1 kS hE
      go_wp2_with fail
      go_roundw
      case rel => exact ⟨j + 1, by omega, by go_num, hE2⟩
      case measure => simp [intOf]; omega
    · have hjl : j = la.length := by omega
      subst hjl
      clear hoa hob hab
      go_wp2_with fail
      go_ret
      exact ⟨rfl, hE⟩
end Go.Proofs.Ytjhhcfadeankfaa.VMsg
