/- StampRefuses: the walk. -/
import Derived.Test.YtjhhcfadeankfaaVStmLong
import Derived.Test.YtjhhcfadeankfaaVStampCopy
import Derived.Test.YtjhhcfadeankfaaVSet
namespace Go.Proofs.Ytjhhcfadeankfaa.VMsg
open Go.RowKit Go.VBase Go.VRg Go.VEq VCst Go.VPlan VPlan Go.VOct VOct

theorem encS_not {p : PlanD} {l : List MsgD} (h : ¬ togP p l) : encS p l = none := by
  unfold encS togB
  rw [decide_eq_false h]; rfl
theorem ref_twice {p : PlanD} {l : List MsgD} {k : Nat} {x : MsgD} (h : l[k]? = some x) : encS p (l ++ [x]) = none :=
  encS_not fun ⟨_, _, _, h4⟩ => (List.pairwise_append.1 h4).2.2 x (List.mem_of_getElem? h) x (by simp) (cmpM_zero.2 ⟨rfl, rfl, rfl⟩)
theorem ref_set {p : PlanD} {l : List MsgD} {k : Nat} {x y : MsgD} (h : l[k]? = some x) (hy : mayB p y = false) : encS p (l.set k y) = none :=
  encS_not fun ⟨_, _, h3, _⟩ => by
    have := h3 y (List.mem_of_getElem? (i := k) (by rw [List.getElem?_set_self (List.getElem?_eq_some_iff.1 h).1]))
    rw [hy] at this; cases this
theorem ref_many {p : PlanD} {l : List MsgD} (h : p.burst < (l.length : Int)) : encS p l = none := encS_not fun ⟨_, h2, _, _⟩ => by omega
theorem may_long {p : PlanD} {m : MsgD} (h : p.payload < (m.b.length : Int)) : mayB p m = false := by
  cases hm : mayB p m with
  | false => rfl
  | true => have := (mayB_facts hm).2.2.2.2.2.2; omega
theorem may_far {p : PlanD} {m : MsgD} (h : p.nodes ≤ m.se) : mayB p m = false := by
  cases hm : mayB p m with
  | false => rfl
  | true => have := (mayB_facts hm).2.2.2.1; omega
theorem ownG_mono {α : Type} {enc : α → List Value} {s : Nat} {w : World} {base base' e : Nat} {v : Value} {l : List α} (h : OwnG enc s w base e v l) (hb : base' ≤ base) : OwnG enc s w base' e v l := by
  refine ⟨h.1, ?_⟩
  rcases h.2 with hn | ⟨g, cap, cur, rfl, hg, rest⟩
  · exact .inl hn
  · exact .inr ⟨g, cap, cur, rfl, Nat.le_trans hb hg, rest⟩
/-- Messages that are refused. -/
def BadM (W : World) (p : PlanD) (v : Value) : Prop := ∃ L, MsgsE W v L ∧ encS p (L.map Prod.fst) = none ∧ ∀ x ∈ L, Wfm x.1
theorem BadM.ext {W W' : World} {p : PlanD} {v : Value} (h : BadM W p v) (x : Ext W W') : BadM W' p v := by
  obtain ⟨L, h1, h2, h3⟩ := h
  exact ⟨L, h1.ext x, h2, h3⟩
theorem wf_i64 {n : Int} (h0 : -9223372036854775808 ≤ n) (h1 : n ≤ 9223372036854775807) : (Lit.int .i64 n).wf = true := by
  simp [Lit.wf, IntKind.min, IntKind.max, IntKind.bits, IntKind.signed]
  omega
/-- A copy's row. -/
def CpP (l : List (MsgD × Sl3)) (B : Nat) (v : Value) (W : World) : Prop := ∃ m, OwnG encM 4 W B TMsg v m ∧ m.map Prod.fst = l.map Prod.fst ∧ ∀ y ∈ m, OwnB W B TBy (slV y.2) y.1.b
theorem CpP.ext {l : List (MsgD × Sl3)} {B : Nat} (v : Value) (W W' : World) (e : Ext W W') (h : CpP l B v W) : CpP l B v W' := by
  obtain ⟨m, h1, h2, h3⟩ := h
  exact ⟨m, h1.ext e, h2, fun y hy => (h3 y hy).ext e⟩
def LitP (x : MsgD × Sl3) (v : Value) (W : World) : Prop := ∃ g, v = .slice (some ⟨g, 0, none⟩) 1 1 ∧ ∀ j u, (encM x)[j]? = some u → W.cell? ((⟨g, 0, none⟩ : Addr).add j) = some u
theorem LitP.ext {x : MsgD × Sl3} (v : Value) (W W' : World) (e : Ext W W') (h : LitP x v W) : LitP x v W' := by
  obtain ⟨g, h1, h2⟩ := h
  exact ⟨g, h1, fun j u hu => e.cell (h2 j u hu)⟩
set_option maxRecDepth 100000 in
set_option maxHeartbeats 8000000 in
theorem Refuses_any (p : PlanD) (l : List (MsgD × Sl3)) (v : Value) (fr : Nat) (hfr : fr < 256) (w : World) (hv : MsgsE w v l) (hwf : ∀ x ∈ l, Wfm x.1) :
    Calls Try.prog 5 #[planV p, v, .int .u8 (fr : Int)] w fun e w' => e = .returned (.bool true) ∧ Ext w w' := by
  have hvE := hv
  obtain ⟨a, cap, rfl, hcap, hcm, hop⟩ := hv
  have kA := fun W => alive_calls W
  have kG := fun W (h : Ext w W) => refGreat_calls _ l W (hvE.ext h)
  have kE := fun W (h : Ext w W) => stampEncode_calls p l _ W (hvE.ext h) hwf
  have r0 := heap_alloc_new w (.cells (planC p) 32)
  have x0 := Ext.alloc w (.cells (planC p) 32)
  obtain ⟨W0, hW0⟩ : ∃ W0, W0 = w.alloc (.cells (planC p) 32) := ⟨_, rfl⟩
  rw [← hW0] at r0 x0
  have H0 := Lib.hid hW0
  have HV := Lib.hid (And.intro hvE (And.intro hop hwf))
  clear hW0 hop hvE hwf
  unfold planV planC
  go_enter Try.func5, Try.ntmps5
  refine wp_seq_k fun K hK => ?_
  have HK := Lib.hid hK
  clear hK
  go_wp2_with fail
  refine HK.out _ _ ?_
  clear HK
  show Code.wp _ _ _ _ (w.alloc (.cells (planC p) 32))
  rw [← H0.out]
  clear H0
  go_wp2_with fail
  refine (kA _).mono ?_
  rintro e w1 ⟨rfl, h1⟩
  have r1 := h1.block r0
  have x1 := x0.trans h1
  clear r0 x0 h1 kA
  go_wp2_with fail
  refine (kG _ x1).mono ?_
  rintro e w' ⟨hg, rfl⟩
  rcases hg with rfl | ⟨rfl, hsm⟩
  · clear kG kE
    go_wp2_with fail
    go_ret
    exact ⟨rfl, x1⟩
  clear kG
  by_cases hL0 : l.length = 0
  · have hl0 : l = [] := List.length_eq_zero_iff.1 hL0
    subst hl0
    clear kE HV hsm
    simp only [List.length_nil]
    go_wp2_with fail
    go_ret
    exact ⟨rfl, x1⟩
  have HSM := Lib.hid hsm
  have HNZ := Lib.hid hL0
  have hLb : ((l.length : Int) == 0) = false := by simpa using hL0
  have hLn : ¬ ((l.length : Int) = 0) := by omega
  clear hsm
  go_wp2_with (refine loadPlanP r1 rfl rfl rfl ?_)
  refine (kE _ x1).mono ?_
  rintro e w2 ⟨u, rfl, hu, h2, hnone⟩
  have r2 := h2.block r1
  have x2 := x1.trans h2
  clear r1 x1 h2 kE
  obtain ⟨ok, hok⟩ : ∃ ok, togB p (l.map Prod.fst) = ok := ⟨_, rfl⟩
  cases ok with
  | false =>
    have hen : encS p (l.map Prod.fst) = none := by unfold encS; rw [hok]; rfl
    have hun := hnone hen
    subst hun
    rw [hen]
    rw [show (if (none : Option (List UInt8)).isSome = true then (0 : Int) else 230) = 230 from rfl]
    clear hu hnone hen hok
    go_wp2_with fail
    go_ret
    exact ⟨rfl, x2⟩
  | true =>
  have hen : encS p (l.map Prod.fst) = some (stB (l.map Prod.fst)) := by unfold encS; rw [hok]; rfl
  rw [hen] at hu
  rw [hen]
  rw [show (if (some (stB (l.map Prod.fst))).isSome = true then (0 : Int) else 230) = 0 from rfl]
  obtain ⟨ua, uc, rfl⟩ := hu.slice
  have htog : togP p (l.map Prod.fst) := of_decide_eq_true hok
  have hc1 := (planOk_all htog.1).1
  have hc9 := (planOk_all htog.1).2.2.2.2.2.2.2.2.1
  unfold c1 at hc1
  unfold c9 at hc9
  simp only [Bool.and_eq_true, inP_iff] at hc1 hc9
  have HPB := Lib.hid (And.intro hc1.1 (And.intro hc9.1.2 hc9.2))
  obtain ⟨k, hk⟩ : ∃ k, fr % l.length = k := ⟨_, rfl⟩
  have hkl : k < l.length := by rw [← hk]; exact Nat.mod_lt _ (by omega)
  have d1 : (fr : Int).tmod (l.length : Int) = (k : Int) := by rw [Int.tmod_eq_emod_of_nonneg (by omega), ← Int.natCast_emod, hk]
  have d2 : (fr : Int) % (l.length : Int) = (k : Int) := by rw [← Int.natCast_emod, hk]
  have q0 : IntKind.i64.wrap (fr : Int) = (fr : Int) := by rw [IntKind.wrap_i64]; omega
  obtain ⟨x, hx⟩ := get_some hkl
  obtain ⟨b, off, rfl, m0, m1, m2, m3, hxb⟩ := HV.out.2.1 k x hx
  have hxl : x.2.2.1 = x.1.b.length := by
    obtain ⟨a', c', h1, _⟩ := hxb
    unfold slV at h1
    simp only [Value.slice.injEq] at h1
    exact h1.2.1
  have HX := Lib.hid (And.intro hx hxb)
  have hkw : (k : Int) < (l.length : Int) := by omega
  obtain ⟨x, sa, sn, sc⟩ := x
  simp only at hxl
  subst hxl
  clear hu hnone hen hok htog hc1 hc9 hk hx hxb hL0
  go_wp2_with fail
  clear d1 d2 q0
  have k0 : ∀ W, Ext w2.drew W → W.cell? ⟨b, off + k * 4, none⟩ = some (.int .i64 x.st) ∧ W.cell? ⟨b, off + k * 4 + 1, none⟩ = some (.int .i64 x.se) ∧ W.cell? ⟨b, off + k * 4 + 2, none⟩ = some (.int .i64 x.nu) ∧ W.cell? ⟨b, off + k * 4 + 3, none⟩ = some (.slice sa x.b.length sc) := fun W h =>
    have y := x2.trans (Ext.of_drew h)
    ⟨y.cell m0, y.cell m1, y.cell m2, y.cell m3⟩
  clear m0 m1 m2 m3
  refine wp_region_box_tail 7 Ext Ext [(1, .unk (CpP l w2.heap.size) CpP.ext), (6, .unk (LitP (x, (sa, x.b.length, sc))) LitP.ext)] []
    (by kernel_rfl) (by kernel_rfl) (by kernel_rfl) (by kernel_rfl) (fun _ _ h => h) Ext.refl (fun _ _ _ => Ext.trans) Ext.refl (fun _ _ _ => Ext.trans) (fun _ _ h => h.size) (fun i hi => by cases hi) ?_
  intro σ
  simp only [List.take_succ_cons, List.take_zero, List.drop_succ_cons, List.drop_zero]
  repeat (first | (refine rg_pure (x := ?_) rfl (by rfl) (fun W hW => ?_) ?_; rotate_left; (· obtain ⟨a1, a2, a3, a4⟩ := k0 W hW; go_simp; with_reducible rfl); simp only [Nat.reduceAdd, Act.put, List.setIfInBounds_toArray, List.set_cons_zero, List.set_cons_succ]))
  refine rg_unk rfl (by rfl) (fun W hW hF => ?_) ?_
  · go_simp
    have hxW := x2.trans (Ext.of_drew hW)
    refine (refCopy_calls _ l W (HV.out.1.ext hxW) HSM.out).mono ?_
    rintro e W' ⟨u, m, rfl, h1, h2, h3, h4⟩
    have hsz : w2.heap.size ≤ W.heap.size := (Ext.of_drew hW).size
    have hP : CpP l w2.heap.size u W' := ⟨m, ownG_mono h1 hsz, h2, fun z hz => (h3 z hz).mono hsz⟩
    exact ⟨_, rfl, h4, hP⟩
  simp only [Nat.reduceAdd, Act.put, List.setIfInBounds_toArray, List.set_cons_zero, List.set_cons_succ]
  repeat (first | (refine rg_pure (x := ?_) rfl (by rfl) (fun W hW => ?_) ?_; rotate_left; (· obtain ⟨a1, a2, a3, a4⟩ := k0 W hW; go_simp; with_reducible rfl); simp only [Nat.reduceAdd, Act.put, List.setIfInBounds_toArray, List.set_cons_zero, List.set_cons_succ]))
  refine rg_unk rfl (by rfl) (fun W hW hF => ?_) ?_
  · go_simp
    refine ⟨Ext.alloc _ _, _, rfl, fun i u hi => ?_⟩
    have hi4 : i < 4 := (List.getElem?_eq_some_iff.1 hi).1
    match i, hi with
    | 0, hi => simp [encM] at hi; subst hi; exact cell_new_at (i := 0) (by simp) rfl
    | 1, hi => simp [encM] at hi; subst hi; exact cell_new_at (i := 1) (by simp) rfl
    | 2, hi => simp [encM] at hi; subst hi; exact cell_new_at (i := 2) (by simp) rfl
    | 3, hi => simp [encM, slV] at hi; subst hi; exact cell_new_at (i := 3) (by simp) rfl
  simp only [Nat.reduceAdd, Act.put, List.setIfInBounds_toArray, List.set_cons_zero, List.set_cons_succ]
  repeat (first | (refine rg_pure (x := ?_) rfl (by rfl) (fun W hW => ?_) ?_; rotate_left; (· obtain ⟨a1, a2, a3, a4⟩ := k0 W hW; go_simp; with_reducible rfl); simp only [Nat.reduceAdd, Act.put, List.setIfInBounds_toArray, List.set_cons_zero, List.set_cons_succ]))
  refine rg_done fun W hW hF => ?_
  intro _
  obtain ⟨mt, hOt, hmt, hBt⟩ := hF 1 _ _ rfl (by decide)
  obtain ⟨gt, hgt, hct⟩ := hF 6 _ _ rfl (by decide)
  clear hF
  generalize σ 1 = z1 at *
  generalize σ 6 = z6 at *
  subst hgt
  have xW : Ext w2 W := Ext.of_drew hW
  clear hW k0
  show wpList _ _ _ _ _ _
  have hml : mt.length = l.length := by simpa using congrArg List.length hmt
  have hl50 := HSM.out.1
  go_wp2_with (at_builtin; refine wpList_append_G msgSl (by decide) encM_len encM_one rfl _ _ rfl (x, (sa, x.b.length, sc)) (by rfl) (by rfl) hOt hct ?hl ?hl2 ?hb ?hk)
  case hl => omega
  case hl2 => omega
  case hb => exact xW.size
  case hk =>
  intro u3 w3 hO3 hg3
  have x23 : Ext w2 w3 := Below.trans xW (grown_below hg3 xW.size hOt.lt)
  have x3 := x2.trans x23
  have h300 : ∀ y ∈ mt, y.1.b.length ≤ 300 ∧ Wfm y.1 := fun y hy => by
    have h1 : y.1 ∈ l.map Prod.fst := by rw [← hmt]; exact List.mem_map.2 ⟨y, hy, rfl⟩
    obtain ⟨z', hz', e⟩ := List.mem_map.1 h1
    rw [← e]
    exact ⟨HSM.out.2 z' hz', HV.out.2.2 z' hz'⟩
  have hxm : (l.map Prod.fst)[k]? = some x := by rw [List.getElem?_map, HX.out.1]; rfl
  have hBad1 : BadM w3 p u3 := by
    refine ⟨mt ++ [(x, (sa, x.b.length, sc))], msgs_of_own hO3 (fun y hy => ?_), ?_, fun y hy => ?_⟩
    · rcases List.mem_append.1 hy with hy | hy
      · exact ((hBt y hy).grown hg3 (own_apart (hBt y hy) hOt)).bys (by have := (h300 y hy).1; unfold maxLen; omega)
      · simp at hy; subst hy; exact HX.out.2.ext x3
    · rw [List.map_append, hmt]; exact ref_twice hxm
    · rcases List.mem_append.1 hy with hy | hy
      · exact (h300 y hy).2
      · simp at hy; subst hy; exact HV.out.2.2 _ (List.mem_of_getElem? HX.out.1)
  obtain ⟨ua3, uc3, rfl⟩ := hO3.slice
  generalize (mt ++ [(x, (sa, x.b.length, sc))]).length = n3 at *
  have r3 := x23.block r2
  have hlt3 : w.heap.size < w3.heap.size := (Array.getElem?_eq_some_iff.1 r3).1
  have hM3 := HV.out.1.ext x3
  clear hOt hct hBt hmt xW hO3 hg3 x23 x2 r2 h300 hml
  go_wp2_with fail
  refine (refCopy_calls _ l _ hM3 HSM.out).mono ?_
  rintro e w4 ⟨u4, m4, rfl, hO4, hm4, hB4, x4⟩
  have hml4 : m4.length = l.length := by simpa using congrArg List.length hm4
  obtain ⟨g4, k4, rfl, hg4, hg4l⟩ := hO4.there (by intro e; rw [e] at hml4; simp at hml4; omega)
  rw [hml4] at hO4 ⊢
  go_wp2_with fail
  refine (refCopy_calls _ l _ (hM3.ext x4) HSM.out).mono ?_
  rintro e w5 ⟨u5, m5, rfl, hO5, hm5, hB5, x5⟩
  have hml5 : m5.length = l.length := by simpa using congrArg List.length hm5
  obtain ⟨g5, k5, rfl, hg5, hg5l⟩ := hO5.there (by intro e; rw [e] at hml5; simp at hml5; omega)
  rw [hml5] at hO5 ⊢
  have x25 := x4.trans x5
  have r5 := x25.block r3
  have p14 : w5.cell? ⟨w.heap.size, 14, none⟩ = some (.int .i64 p.payload) := cell_of_row w5 _ 14 _ _ _ r5
  obtain ⟨N, hN⟩ : ∃ N : Nat, p.payload = (N : Int) := ⟨p.payload.toNat, by have := HPB.out.2.2; omega⟩
  rw [hN] at p14
  have hN32 : N ≤ 32 := by have := HPB.out.2.2; omega
  obtain ⟨K, hK⟩ : ∃ K, N + 1 = K := ⟨_, rfl⟩
  have hKi : (N : Int) + 1 = (K : Int) := by omega
  have hK40 : K ≤ 33 := by omega
  obtain ⟨IB, hI0, hI1, hI2, hI3⟩ : ∃ i, Try.prog.info? 5 = some i ∧ i.zero = some (.int .u8 0) ∧ i.size = 1 ∧ i.bytes = 1 := info_parts (by kernel_rfl)
  have HNK := Lib.hid (And.intro hN hK)
  clear hN hK hM3
  go_wp2_with (at_make; (refine wpList_make_full _ rfl _ _ _ rfl w5.heap.size 5 IB (.int .u8 0) 1 Try.underlying22 hI0 hI1 hI2 .i64 .i64 _ _ K rfl rfl (by rfl) (by rfl) (by rw [hI3]; omega) (by unfold maxLen; omega) (Nat.le_refl _) ?hk))
  case hk =>
  intro w6 hown hg
  replace hown := ownB_zeros (n := K) (by rw [Nat.mul_one]; exact hown)
  have x56 : Ext w5 w6 := grown_below hg (Nat.le_refl _) (fun _ h => by cases h)
  obtain ⟨y4, hy4⟩ := get_some (l := m4) (k := k) (by omega)
  obtain ⟨y5, hy5⟩ := get_some (l := m5) (k := k) (by omega)
  have e4 : y4.1 = x := by
    have h := hxm
    rw [← hm4, List.getElem?_map, hy4] at h
    simpa using h
  have e5 : y5.1 = x := by
    have h := hxm
    rw [← hm5, List.getElem?_map, hy5] at h
    simpa using h
  obtain ⟨y4, s4⟩ := y4
  obtain ⟨y5, s5⟩ := y5
  simp only at e4 e5
  rw [e4] at hy4
  rw [e5] at hy5
  clear e4 e5
  have hO46 := (hO4.ext x5).ext x56
  have hO56 := hO5.ext x56
  have c4 := hO46.at_ encM_len hy4 (j := 3) rfl
  have c43 := c4.2.2.1
  have c4f := c4.2.2.2
  have hne1 : ¬ w.heap.size = g4 := by omega
  have hne2 : ¬ g4 = g5 := by omega
  have hne3 : ¬ g5 = g4 := by omega
  have hne4 : ¬ w.heap.size = g5 := by omega
  have x46 := x5.trans x56
  have hB46 : ∀ y ∈ m4, OwnB w6 w3.heap.size TBy (slV y.2) y.1.b := fun y hy => (hB4 y hy).ext x46
  have hB56 : ∀ y ∈ m5, OwnB w6 w4.heap.size TBy (slV y.2) y.1.b := fun y hy => (hB5 y hy).ext x56
  have hS4 := hO46.set encM_len k 3 ({ x with b := List.replicate K 0 }, (some ⟨w5.heap.size, 0, none⟩, K, K)) (.slice (some ⟨w5.heap.size, 0, none⟩) K K) hy4 (by decide) rfl
  have hO57 : OwnG encM 4 (w6.setCell ⟨g4, k * 4 + 3, none⟩ (.slice (some ⟨w5.heap.size, 0, none⟩) K K)) w4.heap.size TMsg (.slice (some ⟨g5, 0, none⟩) l.length k5) m5 :=
    hO56.grown (row := some g4) ⟨rfl, rfl, rfl, by simp, fun q hq hne => heap_setCell_other _ _ _ _ (by simpa using fun e => hne (by rw [e]))⟩ (.inr (by simp [Value.ownBlock]; omega))
  have hB47 : ∀ y ∈ m4, OwnB (w6.setCell ⟨g4, k * 4 + 3, none⟩ (.slice (some ⟨w5.heap.size, 0, none⟩) K K)) w3.heap.size TBy (slV y.2) y.1.b := fun y hy => ownB_setM (hB46 y hy) hO46 _ _
  have hB57 : ∀ y ∈ m5, OwnB (w6.setCell ⟨g4, k * 4 + 3, none⟩ (.slice (some ⟨w5.heap.size, 0, none⟩) K K)) w4.heap.size TBy (slV y.2) y.1.b := fun y hy => ownB_setM (hB56 y hy) hO46 _ _
  have hZ7 : OwnB (w6.setCell ⟨g4, k * 4 + 3, none⟩ (.slice (some ⟨w5.heap.size, 0, none⟩) K K)) w5.heap.size TBy (.slice (some ⟨w5.heap.size, 0, none⟩) K K) (List.replicate K 0) := ownB_setM hown hO46 _ _
  have x37 : Ext w3 (w6.setCell ⟨g4, k * 4 + 3, none⟩ (.slice (some ⟨w5.heap.size, 0, none⟩) K K)) := Below.setCell (x25.trans x56) hg4 _
  have r7 : (w6.setCell ⟨g4, k * 4 + 3, none⟩ (.slice (some ⟨w5.heap.size, 0, none⟩) K K)).heap[w.heap.size]? = some (.cells (planC p) 32) := x37.block r3
  have p0 := cell_of_row _ _ 0 _ _ _ r7
  rw [show (planC p)[0]? = some (.int .i64 p.nodes) from rfl] at p0
  have c5 := hO57.at_ encM_len hy5 (j := 1) rfl
  have c51 := c5.2.2.1
  have c5f := c5.2.2.2
  have hS5 := hO57.set encM_len k 1 ({ x with se := p.nodes }, s5) (.int .i64 p.nodes) hy5 (by decide) rfl
  have hg53 : w3.heap.size ≤ g5 := by have := x4.size; omega
  have x38 : Ext w3 ((w6.setCell ⟨g4, k * 4 + 3, none⟩ (.slice (some ⟨w5.heap.size, 0, none⟩) K K)).setCell ⟨g5, k * 4 + 1, none⟩ (.int .i64 p.nodes)) := Below.setCell x37 hg53 _
  have hO48 : OwnG encM 4 ((w6.setCell ⟨g4, k * 4 + 3, none⟩ (.slice (some ⟨w5.heap.size, 0, none⟩) K K)).setCell ⟨g5, k * 4 + 1, none⟩ (.int .i64 p.nodes)) w3.heap.size TMsg (.slice (some ⟨g4, 0, none⟩) l.length k4) (m4.set k ({ x with b := List.replicate K 0 }, (some ⟨w5.heap.size, 0, none⟩, K, K))) :=
    hS4.grown (row := some g5) ⟨rfl, rfl, rfl, by simp, fun q hq hne => heap_setCell_other _ _ _ _ (by simpa using fun e => hne (by rw [e]))⟩ (.inr (by simp [Value.ownBlock]; omega))
  have hB48 : ∀ y ∈ m4, OwnB ((w6.setCell ⟨g4, k * 4 + 3, none⟩ (.slice (some ⟨w5.heap.size, 0, none⟩) K K)).setCell ⟨g5, k * 4 + 1, none⟩ (.int .i64 p.nodes)) w3.heap.size TBy (slV y.2) y.1.b := fun y hy => ownB_setM (hB47 y hy) hO57 _ _
  have hB58 : ∀ y ∈ m5, OwnB ((w6.setCell ⟨g4, k * 4 + 3, none⟩ (.slice (some ⟨w5.heap.size, 0, none⟩) K K)).setCell ⟨g5, k * 4 + 1, none⟩ (.int .i64 p.nodes)) w4.heap.size TBy (slV y.2) y.1.b := fun y hy => ownB_setM (hB57 y hy) hO57 _ _
  have hZ8 : OwnB ((w6.setCell ⟨g4, k * 4 + 3, none⟩ (.slice (some ⟨w5.heap.size, 0, none⟩) K K)).setCell ⟨g5, k * 4 + 1, none⟩ (.int .i64 p.nodes)) w5.heap.size TBy (.slice (some ⟨w5.heap.size, 0, none⟩) K K) (List.replicate K 0) := ownB_setM hZ7 hO57 _ _
  have hall : ∀ m : List (MsgD × Sl3), m.map Prod.fst = l.map Prod.fst → ∀ y ∈ m, y.1.b.length ≤ 300 ∧ Wfm y.1 := fun m hm y hy => by
    have h1 : y.1 ∈ l.map Prod.fst := by rw [← hm]; exact List.mem_map.2 ⟨y, hy, rfl⟩
    obtain ⟨z', hz', e⟩ := List.mem_map.1 h1
    rw [← e]
    exact ⟨HSM.out.2 z' hz', HV.out.2.2 z' hz'⟩
  have hxwf : Wfm x := HV.out.2.2 _ (List.mem_of_getElem? HX.out.1)
  have hBad2 : BadM ((w6.setCell ⟨g4, k * 4 + 3, none⟩ (.slice (some ⟨w5.heap.size, 0, none⟩) K K)).setCell ⟨g5, k * 4 + 1, none⟩ (.int .i64 p.nodes)) p (.slice (some ⟨g4, 0, none⟩) l.length k4) := by
    refine ⟨_, msgs_of_own hO48 (fun y hy => ?_), ?_, fun y hy => ?_⟩
    · rcases List.mem_or_eq_of_mem_set hy with hy | hy
      · exact (hB48 y hy).bys (by have := (hall m4 hm4 y hy).1; unfold maxLen; omega)
      · subst hy; exact hZ8.bys (by rw [List.length_replicate]; unfold maxLen; omega)
    · rw [List.map_set, hm4]
      exact ref_set hxm (may_long (by
        show p.payload < ((List.replicate K (0 : UInt8)).length : Int)
        rw [List.length_replicate, HNK.out.1]; have := HNK.out.2; omega))
    · rcases List.mem_or_eq_of_mem_set hy with hy | hy
      · exact (hall m4 hm4 y hy).2
      · subst hy; exact hxwf
  have hBad3 : BadM ((w6.setCell ⟨g4, k * 4 + 3, none⟩ (.slice (some ⟨w5.heap.size, 0, none⟩) K K)).setCell ⟨g5, k * 4 + 1, none⟩ (.int .i64 p.nodes)) p (.slice (some ⟨g5, 0, none⟩) l.length k5) := by
    refine ⟨_, msgs_of_own hS5 (fun y hy => ?_), ?_, fun y hy => ?_⟩
    · rcases List.mem_or_eq_of_mem_set hy with hy | hy
      · exact (hB58 y hy).bys (by have := (hall m5 hm5 y hy).1; unfold maxLen; omega)
      · subst hy; exact (hB58 _ (List.mem_of_getElem? hy5)).bys (by have := (hall m5 hm5 _ (List.mem_of_getElem? hy5)).1; unfold maxLen; omega)
    · rw [List.map_set, hm5]
      exact ref_set hxm (may_far (Int.le_refl _))
    · rcases List.mem_or_eq_of_mem_set hy with hy | hy
      · exact (hall m5 hm5 y hy).2
      · subst hy; exact ⟨hxwf.1, wf_i64 (by have := HPB.out.1; show _ ≤ p.nodes; omega) (by have := HPB.out.1; show p.nodes ≤ _; omega), hxwf.2.2⟩
  clear hO4 hO5 hB4 hB5 hO46 hO56 hB46 hB56 hB47 hB57 hB48 hB58 hS4 hS5 hO57 hO48 hZ7 hZ8 hown hg c4 c5 r7 x37 x46 x25 x56 hy4 hy5 x4 x5 hg53 hm4 hm5 hml4 hml5 hI0 hI1 hI2 hI3 p14
  obtain ⟨V8, hV8⟩ : ∃ V, ((w6.setCell ⟨g4, k * 4 + 3, none⟩ (.slice (some ⟨w5.heap.size, 0, none⟩) K K)).setCell ⟨g5, k * 4 + 1, none⟩ (.int .i64 p.nodes)) = V := ⟨_, rfl⟩
  rw [hV8] at x38 hBad2 hBad3
  have HV8 := Lib.hid hV8
  clear hV8
  have r8 := x38.block r3
  have hM8 := HV.out.1.ext (x3.trans x38)
  have x8 := x3.trans x38
  have HB := Lib.hid (And.intro (hBad1.ext x38) (And.intro hBad2 hBad3))
  clear hBad1 hBad2 hBad3 x38 x3 r3
  go_wp2_with fail
  rw [HV8.out]
  refine (refCopy_calls _ l _ hM8 HSM.out).mono ?_
  rintro e w9 ⟨u9, m9, rfl, hO9, hm9, hB9, x9⟩
  have hml9 : m9.length = l.length := by simpa using congrArg List.length hm9
  have hw9 := fun y hy => (hall m9 hm9 y hy)
  obtain ⟨ua9, uc9, rfl⟩ := hO9.slice
  have HML9 := Lib.hid hml9
  clear hml9
  clear hM8 c43 c4f p0 c51 c5f hne1 hne2 hne3 hne4 hall hm9 HV8
  go_wp2_with fail
  go_loopw [14, 15] (fun sl i wr => ∃ (j : Nat) (M : List (MsgD × Sl3)), i = .int .i64 (j : Int) ∧ OwnG encM 4 wr V8.heap.size TMsg sl M ∧ (∀ y ∈ M, OwnB wr V8.heap.size TBy (slV y.2) y.1.b) ∧ (∀ y ∈ M, y.1.b.length ≤ 300 ∧ Wfm y.1) ∧ M.length = m9.length + j ∧ j ≤ 9 ∧ Ext V8 wr) (fun _ i _ => 10 - (intOf i).toNat)
  case atStart => exact ⟨0, m9, rfl, hO9, hB9, hw9, rfl, by omega, x9⟩
  case round =>
    clear hO9 hB9 hw9 x9
    obtain ⟨j, M, rfl, hO, hB, hw, hMl, hj, hE⟩ := hrel
    have hHM := Lib.hid (And.intro hB hw)
    have p13 := cell_of_row wr _ 13 _ _ _ (hE.block r8)
    rw [show (planC p)[13]? = some (.int .i64 p.burst) from rfl] at p13
    obtain ⟨ma, mc, rfl⟩ := hO.slice
    have hb8 := HPB.out.2.1
    have HMl := Lib.hid hMl
    clear hB hw hMl
    by_cases hlt : (M.length : Int) ≤ p.burst
    · have hd : decide ((M.length : Int) ≤ p.burst) = true := decide_eq_true hlt
      have hM8 : M.length ≤ 8 := by omega
      have hj8 : j ≤ 8 := by have := HMl.out; omega
      go_wp2_with (at_builtin; refine wpList_append_G msgSl (by decide) encM_len encM_one rfl _ _ rfl ((⟨1, 0, 1000 + (j : Int), []⟩ : MsgD), ((none, 0, 0) : Sl3)) (by rfl) (by rfl) (hO.alloc _) ?hx ?hl ?hl2 ?hb ?hk)
      case hx =>
        intro i u hi
        have hi4 : i < 4 := (List.getElem?_eq_some_iff.1 hi).1
        match i, hi with
        | 0, hi => simp [encM] at hi; subst hi; exact cell_new_at (i := 0) (by simp) rfl
        | 1, hi => simp [encM] at hi; subst hi; exact cell_new_at (i := 1) (by simp) rfl
        | 2, hi => simp [encM] at hi; subst hi; exact cell_new_at (i := 2) (by simp) rfl
        | 3, hi => simp [encM, slV] at hi; subst hi; exact cell_new_at (i := 3) (by simp) rfl
      case hl => omega
      case hl2 => omega
      case hb => exact Nat.le_trans hE.size (by simp)
      case hk =>
      intro v' w' ho hg
      have hE4 : Ext V8 (wr.alloc (.cells #[.int .i64 1, .int .i64 0, .int .i64 (1000 + (j : Int)), .slice none 0 0] TMsg)) := hE.thenAlloc _
      have hEw : Ext V8 w' := Below.trans hE4 (grown_below hg hE4.size hO.lt)
      have hBn : ∀ y ∈ M ++ [((⟨1, 0, 1000 + (j : Int), []⟩ : MsgD), ((none, 0, 0) : Sl3))], OwnB w' V8.heap.size TBy (slV y.2) y.1.b := fun y hy => by
        rcases List.mem_append.1 hy with hy | hy
        · have h1 := (hHM.out.1 y hy).alloc (.cells #[.int .i64 1, .int .i64 0, .int .i64 (1000 + (j : Int)), .slice none 0 0] TMsg)
          exact h1.grown hg (own_apart h1 (hO.alloc _))
        · simp at hy; subst hy; exact OwnB.nil _ _ _
      have hwn : ∀ y ∈ M ++ [((⟨1, 0, 1000 + (j : Int), []⟩ : MsgD), ((none, 0, 0) : Sl3))], y.1.b.length ≤ 300 ∧ Wfm y.1 := fun y hy => by
        rcases List.mem_append.1 hy with hy | hy
        · exact hHM.out.2 y hy
        · simp at hy; subst hy
          exact ⟨by simp, wf_i64 (n := 1) (by decide) (by decide), wf_i64 (n := 0) (by decide) (by decide), wf_i64 (by show _ ≤ 1000 + (j : Int); omega) (by show 1000 + (j : Int) ≤ _; omega)⟩
      obtain ⟨va', vc', rfl⟩ := ho.slice
      have HF := Lib.hid (And.intro hBn (And.intro hwn hEw))
      clear hBn hwn hEw hE4 hg hO hE p13
      go_wp2_with fail
      go_roundw
      case rel => exact ⟨j + 1, _, by go_num, ho, HF.out.1, HF.out.2.1, by rw [List.length_append, List.length_singleton]; have := HMl.out; omega, by omega, HF.out.2.2⟩
      case measure => simp [intOf]; omega
    · have hd : decide ((M.length : Int) ≤ p.burst) = false := decide_eq_false hlt
      have hBad4 : BadM wr p (.slice ma M.length mc) := by
        refine ⟨M, msgs_of_own hO (fun y hy => (hHM.out.1 y hy).bys (by have := (hHM.out.2 y hy).1; unfold maxLen; omega)), ref_many (by rw [List.length_map]; omega), fun y hy => (hHM.out.2 y hy).2⟩
      have HB4 := Lib.hid hBad4
      clear hO hHM hBad4
      clear HMl
      generalize M.length = n4 at *
      have r9 := hE.block r8
      have x9 := x8.trans hE
      have hb1 := HB.out.1.ext hE
      have hb2 := HB.out.2.1.ext hE
      have hb3 := HB.out.2.2.ext hE
      have HQ : ∀ j, j < 4 → ∃ a n c, (#[Value.slice ua3 n3 uc3, .slice (some ⟨g4, 0, none⟩) l.length k4, .slice (some ⟨g5, 0, none⟩) l.length k5, .slice ma n4 mc] : Array Value)[j]? = some (.slice a n c) ∧ BadM wr p (.slice a n c) := fun j hj => by
        rcases (by omega : j = 0 ∨ j = 1 ∨ j = 2 ∨ j = 3) with rfl | rfl | rfl | rfl
        · exact ⟨_, _, _, rfl, hb1⟩
        · exact ⟨_, _, _, rfl, hb2⟩
        · exact ⟨_, _, _, rfl, hb3⟩
        · exact ⟨_, _, _, rfl, HB4.out⟩
      have HQH := Lib.hid HQ
      have x10 := Ext.alloc wr (.cells #[Value.slice ua3 n3 uc3, .slice (some ⟨g4, 0, none⟩) l.length k4, .slice (some ⟨g5, 0, none⟩) l.length k5, .slice ma n4 mc] 25)
      have rL := heap_alloc_new wr (.cells #[Value.slice ua3 n3 uc3, .slice (some ⟨g4, 0, none⟩) l.length k4, .slice (some ⟨g5, 0, none⟩) l.length k5, .slice ma n4 mc] 25)
      clear HQ hb1 hb2 hb3 HB HB4 r8 x8 hE
      go_wp2_with fail
      generalize wr.alloc (.cells #[Value.slice ua3 n3 uc3, .slice (some ⟨g4, 0, none⟩) l.length k4, .slice (some ⟨g5, 0, none⟩) l.length k5, .slice ma n4 mc] 25) = w10 at *
      go_loopw [17, 18, 19, 99] (fun _ _ _ i wr => ∃ j : Nat, j ≤ 4 ∧ i = .int .i64 (j : Int) ∧ Ext w10 wr) (fun _ _ _ i _ => 4 - (intOf i).toNat)
      case atStart => exact ⟨0, by omega, rfl, Ext.refl _⟩
      case round =>
        obtain ⟨j, hj, rfl, hE⟩ := hrel
        by_cases hlt2 : j < 4
        · obtain ⟨a', n', c', hc, L, hL1, hL2, hL3⟩ := HQH.out j hlt2
          have hjw : (j : Int) < 4 := by omega
          have hcell := cell_of_row wr _ j _ _ _ (hE.block rL)
          rw [hc] at hcell
          have hwq := x10.trans hE
          have kE := stampEncode_calls p L _ wr (hL1.ext hwq) hL3
          rw [hL2] at kE
          have rq := hwq.block r9
          have HS := Lib.hid (And.intro hE kE)
          clear hc hL1 hL2 hL3 kE hE hwq r9
          go_wp2_with (refine loadPlanP rq rfl rfl rfl ?_)
          refine HS.out.2.mono ?_
          rintro e wz ⟨u, rfl, -, hz, hn⟩
          have hu := hn rfl
          subst hu
          have hEz := HS.out.1.trans hz
          rw [show (if (none : Option (List UInt8)).isSome = true then (0 : Int) else 230) = 230 from rfl]
          clear HS hz hn hcell rq
          go_wp2_with fail
          go_roundw
          case rel => exact ⟨j + 1, by omega, by go_num, hEz⟩
          case measure => simp [intOf]; omega
        · have hj4 : j = 4 := by omega
          subst hj4
          have xE := (x9.trans x10).trans hE
          clear rL r9 x9 x10 hE
          go_wp2_with fail
          go_ret
          exact ⟨rfl, xE⟩
end Go.Proofs.Ytjhhcfadeankfaa.VMsg
