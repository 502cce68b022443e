/- OctetOuts: the walk (printed by gen_outs.py). -/
import Derived.Test.YtolmcdimhnnpaaaVTrio
import Derived.Test.YtolmcdimhnnpaaaVJoinPlain
import Derived.Lib.Builder
namespace Go.Proofs.Ytolmcdimhnnpaaa.VOct
open Go.RowKit Go.VBase Go.VOct Go.VRg

set_option maxRecDepth 100000 in
set_option maxHeartbeats 4000000 in
theorem Outs_any (va : Value) (la : List OpD) (w : World) (ha : OpsR w va la) :
    Calls Try.prog 3 #[va] w fun e w' => e = .returned (.bool true) ∧ Ext w w' := by
  have ks := fun (W : World) (v : Value) (l : List UInt8) (h : Bys W v l) => run_string_bys (P := Try.prog) Try.underlying24 Try.underlying5 Try.underlying9 h
  obtain ⟨iO, hiO⟩ : ∃ i, Try.prog.info? TOut = some i := Option.isSome_iff_exists.1 (by kernel_rfl)
  have kp := fun (W : World) (B : Nat) => Lib.run_neq_ptr_same (P := Try.prog) W ⟨B, 0, none⟩ Try.underlying35 hiO
  clear hiO
  have hva := ha
  obtain ⟨aa, capa, rfl, hcapa, hcma, hopa⟩ := ha
  go_enter Try.func3, Try.ntmps3
  go_wp2_with fail
  refine (great_calls _ la w hva).mono ?_
  rintro e w' ⟨rfl, b1, rfl, hg1⟩
  cases b1 with
  | true =>
    go_wp2_with fail
    go_ret
    exact ⟨rfl, Ext.refl _⟩
  | false =>
  obtain ⟨ga1, ga2⟩ := hg1 rfl
  clear hg1
  go_wp2_with fail
  have HO := Trio.start (Ext.refl w)
  try simp only [World.size_alloc]
  generalize (w.alloc (.cells #[.slice none 0 0, .bool false] TOut)).alloc (.cells #[.slice none 0 0, .bool false] TRef) = w2 at *
  obtain ⟨B1, hB1⟩ : ∃ b, w.heap.size = b := ⟨_, rfl⟩
  obtain ⟨B2, hB2⟩ : ∃ b, w.heap.size + 1 = b := ⟨_, rfl⟩
  rw [hB2, hB1] at HO
  try rw [hB2, hB1]
  clear hB1 hB2
  go_loopw [5, 6, 7, 8, 9, 16] (fun _ _ _ _ _ i wr => ∃ (j : Nat) (r s : Option Nat) (v : Value) (X : List UInt8), j ≤ la.length ∧ i = .int .i64 (j : Int) ∧ Trio w wr B1 r (runOps (some []) (la.take j)) B2 s (runOps (some []) (la.take j)) v X) (fun _ _ _ _ _ i _ => la.length - (intOf i).toNat)
  case atStart => exact ⟨0, none, none, _, _, Nat.zero_le _, rfl, HO⟩
  case round =>
    obtain ⟨j, r, s, v, X, hj, rfl, hO⟩ := hrel
    by_cases hlt : j < la.length
    · obtain ⟨o, ho⟩ : ∃ o, la[j]? = some o := ⟨_, List.getElem?_eq_getElem hlt⟩
      obtain ⟨_, _, hv64, hbl, b, off, u, rfl, d0, d1, d2, d3, hu⟩ := hopa j o ho
      have hbw : b < w.heap.size := World.block_lt_of_cell? _ _ d0
      have e0 := hO.ext.cell d0
      have e1 := hO.ext.cell d1
      have e2 := hO.ext.cell d2
      have e3 := hO.ext.cell d3
      have hjw : (j : Int) < (la.length : Int) := by omega
      have HX := Lib.hid ho
      have hu0 := hu
      obtain ⟨au, capu, rfl, _⟩ := hu
      have HX' := HX.out
      have hto := total_take HX'
      have htl := total_take_le la (j + 1)
      have hln := runOps_len (some []) (la.take j)
      rw [List.length_take, show (stAll (some ([] : List UInt8))).length = 0 from rfl] at hln
      have hlen : (stAll (runOps (some []) (la.take j))).length ≤ 20800 ∧ o.b.length ≤ 20000 := by omega
      have hlnS := runOps_len (some []) (la.take (j + 1))
      rw [List.length_take, show (stAll (some ([] : List UInt8))).length = 0 from rfl] at hlnS
      have hSl : (stAll (runOps (some []) (la.take (j + 1)))).length ≤ 20800 := by omega
      have hlen1 := hlen.1
      have hlen2 := hlen.2
      have hSS := runOps_snoc (some []) HX'
      obtain ⟨S, hS⟩ : ∃ S, runOps (some []) (la.take (j + 1)) = S := ⟨_, rfl⟩
      obtain ⟨S0, hS0⟩ : ∃ S, runOps (some []) (la.take j) = S := ⟨_, rfl⟩
      rw [hS] at hSS hSl
      rw [hS0] at hSS hO hlen1
      have HS := Lib.hid hS
      clear ho hopa HO hva hlen HX' hto htl hln hlnS hS hS0 HX
      go_wp2_with fail
      refine (VRef01.Twin_calls _ o.b _ (hu0.ext hO.ext) (by omega)).mono ?_
      rintro e w3 ⟨own, rfl, hown, hx3⟩
      have hT := hO.fresh hown hx3
      obtain ⟨oa, ocap, rfl⟩ := hown.slice
      have e0 := hx3.cell e0
      have e1 := hx3.cell e1
      have e2 := hx3.cell e2
      have e3 := hx3.cell e3
      clear hown hO hx3
      have kw : ∀ W, Ext w W → W.cell? ⟨b, off + j * 4, none⟩ = some (.int .i64 o.kind) ∧ W.cell? ⟨b, off + j * 4 + 1, none⟩ = some (.int .i64 o.n) ∧ W.cell? ⟨b, off + j * 4 + 2, none⟩ = some (.int .u64 (o.v : Int)) ∧ W.cell? ⟨b, off + j * 4 + 3, none⟩ = some (.slice au o.b.length capu) := fun W h => ⟨h.cell d0, h.cell d1, h.cell d2, h.cell d3⟩
      clear d0 d1 d2 d3
      by_cases hk0 : o.kind = 0
      · have hSp : S = stPut S0 o.n o.v := by rw [hSS]; unfold stOp; rw [if_pos hk0]
        have HSP := Lib.hid hSp
        clear hSS hSp
        have e0' : w3.cell? ⟨b, off + j * 4, none⟩ = some (.int .i64 0) := by rw [← hk0]; exact e0
        clear e0
        go_wp2_with fail
        have k0 : ∀ W, TouchO B2 s w3.drew W → W.cell? ⟨b, off + j * 4, none⟩ = some (.int .i64 o.kind) ∧ W.cell? ⟨b, off + j * 4 + 1, none⟩ = some (.int .i64 o.n) ∧ W.cell? ⟨b, off + j * 4 + 2, none⟩ = some (.int .u64 (o.v : Int)) ∧ W.cell? ⟨b, off + j * 4 + 3, none⟩ = some (.slice au o.b.length capu) := fun W h => kw W (hT.ext.below.trans (((Ext.drew _).below.mono hT.ext.size).trans (h.below hT.ext.size hT.g2 hT.h2)))
        refine wp_region_rg2 (TouchO B2 s) Eq [(11, .last (fun _ W' => ∃ s', Trio w W' B1 r S0 B2 s' S (.slice oa o.b.length ocap) o.b))] (by kernel_rfl) (by kernel_rfl) (by kernel_rfl) (fun a b h => by rw [h]; exact TouchO.refl _ _ _) (fun _ => rfl) (fun _ _ _ h k => h.trans k) (TouchO.refl _ _) (fun _ _ _ h k => h.same k) ?_
        intro σ
        simp only
        clear e0' e1 e2 e3
        repeat (first | (refine rg_pure (x := ?_) rfl (by rfl) (fun W hW => ?_) ?_; rotate_left; (· obtain ⟨e0, e1, e2, e3⟩ := k0 W hW; go_simp; with_reducible rfl); simp only [Nat.reduceAdd, Act.put, List.setIfInBounds_toArray, List.set_cons_zero, List.set_cons_succ]) | (refine rg_skip rfl (by rfl) ?_; simp only [Nat.reduceAdd, Act.put, List.setIfInBounds_toArray, List.set_cons_zero, List.set_cons_succ]))
        refine rg_last rfl (by rfl) (fun W hW hF => ?_) ?_
        · subst hW
          go_simp
          refine (refOPut_calls B2 s S0 o.n o.v _ (hT.later (Ext.drew _)).b hv64 (by omega)).mono ?_
          rintro e W' ⟨⟨z, rfl⟩, s', h1, h2, h3⟩
          exact ⟨_, rfl, h2, s', by rw [HSP.out]; exact (hT.later (Ext.drew _)).turnB h1 h2 h3⟩
        simp only [Nat.reduceAdd, Act.put, List.setIfInBounds_toArray, List.set_cons_zero, List.set_cons_succ]
        refine rg_done' fun wx hW hF hL => ?_
        obtain ⟨s', hT2⟩ := hL 11 _ rfl (by decide)
        clear hF hL hW k0 hT
        go_wp2_with fail
        have k0 : ∀ W, TouchO B1 r wx.drew W → W.cell? ⟨b, off + j * 4, none⟩ = some (.int .i64 o.kind) ∧ W.cell? ⟨b, off + j * 4 + 1, none⟩ = some (.int .i64 o.n) ∧ W.cell? ⟨b, off + j * 4 + 2, none⟩ = some (.int .u64 (o.v : Int)) ∧ W.cell? ⟨b, off + j * 4 + 3, none⟩ = some (.slice au o.b.length capu) := fun W h => kw W (hT2.ext.below.trans (((Ext.drew _).below.mono hT2.ext.size).trans (h.below hT2.ext.size hT2.g1 hT2.h1)))
        refine wp_region_chain (TouchO B1 r) Eq [(10, .known (.pointer (some ⟨B1, 0, none⟩)))] [10] (fun vs W' => (vs = [] → Trio w W' B1 r S0 B2 s' S (.slice oa o.b.length ocap) o.b) ∧ (vs ≠ [] → ∃ r', Trio w W' B1 r' S B2 s' S (.slice oa o.b.length ocap) o.b)) (by kernel_rfl) (by kernel_rfl) (by kernel_rfl) (by kernel_rfl) (fun a b h => by rw [h]; exact TouchO.refl _ _ _) (fun _ _ _ h k => by rw [← h]; exact k) (TouchO.refl _ _) (fun _ _ _ h k => h.same k) ⟨fun _ => hT2.later (Ext.drew _), fun h => absurd rfl h⟩ ?_

        intro σ
        simp only
        repeat (first | (refine cg_pure (x := ?_) rfl (by rfl) (fun W hW => ?_) ?_; rotate_left; (· obtain ⟨e0, e1, e2, e3⟩ := k0 W hW; go_simp; with_reducible rfl); simp only [Nat.reduceAdd, Act.put, List.setIfInBounds_toArray, List.set_cons_zero, List.set_cons_succ]) | (refine cg_skip rfl (by rfl) ?_; simp only [Nat.reduceAdd, Act.put, List.setIfInBounds_toArray, List.set_cons_zero, List.set_cons_succ]))
        refine cg_call 0 rfl rfl (by decide) rfl (by rfl) (fun W hW hF hS => ?_) ?_
        · have hT3 := hS.1 rfl
          go_simp
          refine (Put_calls B1 r S0 o.n o.v W hT3.a hv64 (by omega)).mono ?_
          rintro e W' ⟨rfl, r', h1, h2, h3⟩
          exact ⟨_, rfl, h2, rfl, r', by rw [HSP.out] at hT3 ⊢; exact hT3.turnA h1 h2 h3⟩
        simp only [Nat.reduceAdd, Act.put, List.setIfInBounds_toArray, List.set_cons_zero, List.set_cons_succ]
        repeat (first | (refine cg_pure (x := ?_) rfl (by rfl) (fun W hW => ?_) ?_; rotate_left; (· obtain ⟨e0, e1, e2, e3⟩ := k0 W hW; go_simp; with_reducible rfl); simp only [Nat.reduceAdd, Act.put, List.setIfInBounds_toArray, List.set_cons_zero, List.set_cons_succ]) | (refine cg_skip rfl (by rfl) ?_; simp only [Nat.reduceAdd, Act.put, List.setIfInBounds_toArray, List.set_cons_zero, List.set_cons_succ]))
        refine cg_done rfl fun W3 hW hF hS => ?_
        obtain ⟨r', hT⟩ := hS.2 (by simp)
        clear hF hS hW k0 hT2
        go_wp2_with fail

        go_loopw [7, 81] (fun _ i wq => ∃ (k : Nat) (X : List UInt8), k ≤ o.b.length ∧ i = .int .i64 (k : Int) ∧ X.length = o.b.length ∧ Trio w wq B1 r' S B2 s' S (.slice oa o.b.length ocap) X) (fun _ i _ => o.b.length - (intOf i).toNat)
        case atStart => exact ⟨0, o.b, Nat.zero_le _, rfl, rfl, hT⟩
        case round =>
          clear hT
          obtain ⟨k, X, hk, rfl, hX, hT⟩ := hrel
          by_cases hkl : k < o.b.length
          · have hkw : (k : Int) < (o.b.length : Int) := by omega
            obtain ⟨c, hc⟩ := get_some (l := X) (k := k) (by omega)
            obtain ⟨gx, cx', hv0, -, -, -, hcells⟩ := hT.o.row (by intro e; subst e; simp at hc)
            simp only [Value.slice.injEq] at hv0
            obtain ⟨rfl, -, rfl⟩ := hv0
            obtain ⟨hce, hfr⟩ := hcells k c hc
            have HT := Lib.hid (hT.bump k (by omega) (c + 1))
            have hcv : IntKind.u8.wrap ((c.toNat : Int) + 1) = ((c + 1).toNat : Int) := by rw [IntKind.wrap_u8, UInt8.toNat_add]; simp
            have HX := Lib.hid hX
            have hcl := c.toNat_lt
            clear hcells hX hc hT
            generalize (c + 1).toNat = c1 at *
            generalize c.toNat = c0 at *
            go_wp2_with fail
            go_roundw
            case rel => exact ⟨k + 1, X.set k (c + 1), by omega, by go_num, by simp [HX.out], HT.out⟩
            case measure => simp [intOf]; omega
          · have hkw : decide ((k : Int) < (o.b.length : Int)) = false := decide_eq_false (by omega)
            go_wp2_with fail
            refine (All_calls B1 r' S _ hT.a (by omega)).mono ?_
            rintro e w5 ⟨v5, rfl, hv5, hx5⟩
            have hT5 := hT.fresh hv5 hx5
            clear hT hv5 hx5
            have hb5 := hT5.o.bys (by unfold maxLen; omega)
            obtain ⟨ba, bcap, rfl⟩ := hT5.o.slice
            obtain ⟨fa, fcap, f0, f1, fb⟩ := outAt_cells hT5.b (by omega)
            have hS1 := Len_calls B1 r' S
            have hS2 := Spoilt_calls B1 r' S
            go_wp2_with fail
            refine wp_region_rg Ext [(9, .known (.int .i64 ((stAll S).length : Int))), (18, .known (.bool S.isNone))] (by kernel_rfl) (by kernel_rfl) (by kernel_rfl) Ext.refl (fun _ _ _ => Ext.trans) ?_
            intro σ
            simp only
            have q0 : ∀ W, Ext w5.drew W → W.cell? ⟨B2, 0, none⟩ = some (.slice fa (stAll S).length fcap) ∧ W.cell? ⟨B2, 1, none⟩ = some (.bool S.isNone) := fun W h => ⟨h.cell f0, h.cell f1⟩
            have q1 : ∀ W, Ext w5.drew W → (convert 24 9 (.slice ba (stAll S).length bcap)).run Try.prog W = .ok (.string (strB (stAll S))) W ∧ (convert 24 9 (.slice fa (stAll S).length fcap)).run Try.prog W = .ok (.string (strB (stAll S))) W := fun W h => ⟨ks W _ _ (hb5.ext (Ext.of_drew h)), ks W _ _ (fb.ext (Ext.of_drew h))⟩
            generalize S.isNone = sn at *
            generalize strB (stAll S) = S1 at *
            have HSL := Lib.hid hSl
            clear hSl f0 f1 hb5 fb
            repeat (first | (refine rg_pure (x := ?_) rfl (by rfl) (fun W hW => ?_) ?_; rotate_left; (· obtain ⟨e0, e1⟩ := q0 W hW; obtain ⟨f0, f1⟩ := q1 W hW; go_simp; with_reducible rfl); simp only [Nat.reduceAdd, Act.put, List.setIfInBounds_toArray, List.set_cons_zero, List.set_cons_succ]) | (refine rg_skip rfl (by rfl) ?_; simp only [Nat.reduceAdd, Act.put, List.setIfInBounds_toArray, List.set_cons_zero, List.set_cons_succ]))
            refine rg_known rfl (by rfl) (fun W hW hF => ?_) ?_
            · go_simp
              refine (hS1 W (hT5.a.ext (Ext.of_drew hW))).mono ?_
              rintro e W' ⟨rfl, rfl⟩
              exact ⟨_, rfl, Ext.refl _, rfl⟩
            simp only [Nat.reduceAdd, Act.put, List.setIfInBounds_toArray, List.set_cons_zero, List.set_cons_succ]
            repeat (first | (refine rg_pure (x := ?_) rfl (by rfl) (fun W hW => ?_) ?_; rotate_left; (· obtain ⟨e0, e1⟩ := q0 W hW; obtain ⟨f0, f1⟩ := q1 W hW; go_simp; with_reducible rfl); simp only [Nat.reduceAdd, Act.put, List.setIfInBounds_toArray, List.set_cons_zero, List.set_cons_succ]) | (refine rg_skip rfl (by rfl) ?_; simp only [Nat.reduceAdd, Act.put, List.setIfInBounds_toArray, List.set_cons_zero, List.set_cons_succ]))
            refine rg_known rfl (by rfl) (fun W hW hF => ?_) ?_
            · go_simp
              refine (hS2 W (hT5.a.ext (Ext.of_drew hW))).mono ?_
              rintro e W' ⟨rfl, rfl⟩
              exact ⟨_, rfl, Ext.refl _, rfl⟩
            simp only [Nat.reduceAdd, Act.put, List.setIfInBounds_toArray, List.set_cons_zero, List.set_cons_succ]
            repeat (first | (refine rg_pure (x := ?_) rfl (by rfl) (fun W hW => ?_) ?_; rotate_left; (· obtain ⟨e0, e1⟩ := q0 W hW; obtain ⟨f0, f1⟩ := q1 W hW; go_simp; with_reducible rfl); simp only [Nat.reduceAdd, Act.put, List.setIfInBounds_toArray, List.set_cons_zero, List.set_cons_succ]) | (refine rg_skip rfl (by rfl) ?_; simp only [Nat.reduceAdd, Act.put, List.setIfInBounds_toArray, List.set_cons_zero, List.set_cons_succ]))
            refine rg_done fun W hW hF => ?_
            have hT6 := hT5.later (Ext.of_drew hW)
            clear hF hW q0 q1 hT5
            go_wp2_with fail
            go_loopw [9, 119] (fun _ i wq => ∃ (k : Nat) (X : List UInt8), k ≤ (stAll S).length ∧ i = .int .i64 (k : Int) ∧ X.length = (stAll S).length ∧ Trio w wq B1 r' S B2 s' S (.slice ba (stAll S).length bcap) X) (fun _ i _ => (stAll S).length - (intOf i).toNat)
            case atStart => exact ⟨0, stAll S, Nat.zero_le _, rfl, rfl, hT6⟩
            case round =>
              clear hT6
              obtain ⟨k, X, hk, rfl, hX, hT⟩ := hrel
              by_cases hkl : k < (stAll S).length
              · have hkw : (k : Int) < ((stAll S).length : Int) := by omega
                obtain ⟨c, hc⟩ := get_some (l := X) (k := k) (by omega)
                obtain ⟨gx, cx', hv0, -, -, -, hcells⟩ := hT.o.row (by intro e; subst e; simp at hc)
                simp only [Value.slice.injEq] at hv0
                obtain ⟨rfl, -, rfl⟩ := hv0
                obtain ⟨hce, hfr⟩ := hcells k c hc
                have HT := Lib.hid (hT.bump k (by omega) (c + 1))
                have hcv : IntKind.u8.wrap ((c.toNat : Int) + 1) = ((c + 1).toNat : Int) := by rw [IntKind.wrap_u8, UInt8.toNat_add]; simp
                have HX := Lib.hid hX
                have hcl := c.toNat_lt
                have hSl := HSL.out
                clear hcells hX hc hT
                generalize (c + 1).toNat = c1 at *
                generalize c.toNat = c0 at *
                go_wp2_with fail
                go_roundw
                case rel => exact ⟨k + 1, X.set k (c + 1), by omega, by go_num, by simp [HX.out], HT.out⟩
                case measure => simp [intOf]; omega
              · have hkw : decide ((k : Int) < ((stAll S).length : Int)) = false := decide_eq_false (by omega)
                go_wp2_with fail
                go_roundw
                case rel => exact ⟨j + 1, r', s', _, X, by omega, by go_num, by rw [HS.out]; exact hT⟩
                case measure => simp [intOf]; omega
      · by_cases hk1 : o.kind = 1
        · have hSp : S = stTail S0 o.b := by rw [hSS]; unfold stOp; rw [if_neg hk0, if_pos hk1]
          have HSP := Lib.hid hSp
          clear hSS hSp
          have e0' : w3.cell? ⟨b, off + j * 4, none⟩ = some (.int .i64 1) := by rw [← hk1]; exact e0
          clear e0 hk0
          go_wp2_with fail
          refine (refTail_calls B2 s S0 _ o.b w3 hT.b (hu0.ext hT.ext) (by omega)).mono ?_
          rintro e wx ⟨⟨z, rfl⟩, s', h1, h2, h3⟩
          have hT2 : Trio w wx B1 r S0 B2 s' S (.slice oa o.b.length ocap) o.b := by rw [HSP.out]; exact hT.turnB h1 h2 h3
          clear h1 h2 h3 hT e0' e1 e2 e3
          go_wp2_with fail
          have k1 : ∀ W, TouchO B1 r wx.drew W → (convert 24 9 (.slice oa o.b.length ocap)).run Try.prog W = .ok (.string (strB o.b)) W ∧ (convert 24 9 (.slice au o.b.length capu)).run Try.prog W = .ok (.string (strB o.b)) W := fun W h => ⟨ks W _ _ ((own_touch h (hT2.later (Ext.drew _)).o hT2.o1 hT2.o3).bys (by unfold maxLen; omega)), ks W _ _ (hu0.ext (hT2.ext.below.trans (((Ext.drew _).below.mono hT2.ext.size).trans (h.below hT2.ext.size hT2.g1 hT2.h1))))⟩
          obtain ⟨So, hSo⟩ : ∃ z, strB o.b = z := ⟨_, rfl⟩
          rw [hSo] at k1
          clear hSo
          have k0 : ∀ W, TouchO B1 r wx.drew W → W.cell? ⟨b, off + j * 4, none⟩ = some (.int .i64 o.kind) ∧ W.cell? ⟨b, off + j * 4 + 1, none⟩ = some (.int .i64 o.n) ∧ W.cell? ⟨b, off + j * 4 + 2, none⟩ = some (.int .u64 (o.v : Int)) ∧ W.cell? ⟨b, off + j * 4 + 3, none⟩ = some (.slice au o.b.length capu) := fun W h => kw W (hT2.ext.below.trans (((Ext.drew _).below.mono hT2.ext.size).trans (h.below hT2.ext.size hT2.g1 hT2.h1)))
          refine wp_region_chain (TouchO B1 r) Eq [(1, .known (.pointer (some ⟨B1, 0, none⟩)))] [1] (fun vs W' => (vs = [] → Trio w W' B1 r S0 B2 s' S (.slice oa o.b.length ocap) o.b) ∧ (vs ≠ [] → ∃ r', Trio w W' B1 r' S B2 s' S (.slice oa o.b.length ocap) o.b)) (by kernel_rfl) (by kernel_rfl) (by kernel_rfl) (by kernel_rfl) (fun a b h => by rw [h]; exact TouchO.refl _ _ _) (fun _ _ _ h k => by rw [← h]; exact k) (TouchO.refl _ _) (fun _ _ _ h k => h.same k) ⟨fun _ => hT2.later (Ext.drew _), fun h => absurd rfl h⟩ ?_

          intro σ
          simp only
          repeat (first | (refine cg_pure (x := ?_) rfl (by rfl) (fun W hW => ?_) ?_; rotate_left; (· obtain ⟨e0, e1, e2, e3⟩ := k0 W hW; obtain ⟨f0, f1⟩ := k1 W hW; go_simp; with_reducible rfl); simp only [Nat.reduceAdd, Act.put, List.setIfInBounds_toArray, List.set_cons_zero, List.set_cons_succ]) | (refine cg_skip rfl (by rfl) ?_; simp only [Nat.reduceAdd, Act.put, List.setIfInBounds_toArray, List.set_cons_zero, List.set_cons_succ]))
          refine cg_call 0 rfl rfl (by decide) rfl (by rfl) (fun W hW hF hS => ?_) ?_
          · have hT3 := hS.1 rfl
            go_simp
            refine (Tail_calls B1 r S0 _ o.b W hT3.a (hT3.o.bys (by unfold maxLen; omega)) (by omega)).mono ?_
            rintro e W' ⟨rfl, r', h1, h2, h3⟩
            exact ⟨_, rfl, h2, rfl, r', by rw [HSP.out] at hT3 ⊢; exact hT3.turnA h1 h2 h3⟩
          simp only [Nat.reduceAdd, Act.put, List.setIfInBounds_toArray, List.set_cons_zero, List.set_cons_succ]
          repeat (first | (refine cg_pure (x := ?_) rfl (by rfl) (fun W hW => ?_) ?_; rotate_left; (· obtain ⟨e0, e1, e2, e3⟩ := k0 W hW; obtain ⟨f0, f1⟩ := k1 W hW; go_simp; with_reducible rfl); simp only [Nat.reduceAdd, Act.put, List.setIfInBounds_toArray, List.set_cons_zero, List.set_cons_succ]) | (refine cg_skip rfl (by rfl) ?_; simp only [Nat.reduceAdd, Act.put, List.setIfInBounds_toArray, List.set_cons_zero, List.set_cons_succ]))
          refine cg_done rfl fun W3 hW hF hS => ?_
          obtain ⟨r', hT⟩ := hS.2 (by simp)
          clear hF hS hW k0 k1 hT2
          go_wp2_with fail

          go_loopw [7, 81] (fun _ i wq => ∃ (k : Nat) (X : List UInt8), k ≤ o.b.length ∧ i = .int .i64 (k : Int) ∧ X.length = o.b.length ∧ Trio w wq B1 r' S B2 s' S (.slice oa o.b.length ocap) X) (fun _ i _ => o.b.length - (intOf i).toNat)
          case atStart => exact ⟨0, o.b, Nat.zero_le _, rfl, rfl, hT⟩
          case round =>
            clear hT
            obtain ⟨k, X, hk, rfl, hX, hT⟩ := hrel
            by_cases hkl : k < o.b.length
            · have hkw : (k : Int) < (o.b.length : Int) := by omega
              obtain ⟨c, hc⟩ := get_some (l := X) (k := k) (by omega)
              obtain ⟨gx, cx', hv0, -, -, -, hcells⟩ := hT.o.row (by intro e; subst e; simp at hc)
              simp only [Value.slice.injEq] at hv0
              obtain ⟨rfl, -, rfl⟩ := hv0
              obtain ⟨hce, hfr⟩ := hcells k c hc
              have HT := Lib.hid (hT.bump k (by omega) (c + 1))
              have hcv : IntKind.u8.wrap ((c.toNat : Int) + 1) = ((c + 1).toNat : Int) := by rw [IntKind.wrap_u8, UInt8.toNat_add]; simp
              have HX := Lib.hid hX
              have hcl := c.toNat_lt
              clear hcells hX hc hT
              generalize (c + 1).toNat = c1 at *
              generalize c.toNat = c0 at *
              go_wp2_with fail
              go_roundw
              case rel => exact ⟨k + 1, X.set k (c + 1), by omega, by go_num, by simp [HX.out], HT.out⟩
              case measure => simp [intOf]; omega
            · have hkw : decide ((k : Int) < (o.b.length : Int)) = false := decide_eq_false (by omega)
              go_wp2_with fail
              refine (All_calls B1 r' S _ hT.a (by omega)).mono ?_
              rintro e w5 ⟨v5, rfl, hv5, hx5⟩
              have hT5 := hT.fresh hv5 hx5
              clear hT hv5 hx5
              have hb5 := hT5.o.bys (by unfold maxLen; omega)
              obtain ⟨ba, bcap, rfl⟩ := hT5.o.slice
              obtain ⟨fa, fcap, f0, f1, fb⟩ := outAt_cells hT5.b (by omega)
              have hS1 := Len_calls B1 r' S
              have hS2 := Spoilt_calls B1 r' S
              go_wp2_with fail
              refine wp_region_rg Ext [(9, .known (.int .i64 ((stAll S).length : Int))), (18, .known (.bool S.isNone))] (by kernel_rfl) (by kernel_rfl) (by kernel_rfl) Ext.refl (fun _ _ _ => Ext.trans) ?_
              intro σ
              simp only
              have q0 : ∀ W, Ext w5.drew W → W.cell? ⟨B2, 0, none⟩ = some (.slice fa (stAll S).length fcap) ∧ W.cell? ⟨B2, 1, none⟩ = some (.bool S.isNone) := fun W h => ⟨h.cell f0, h.cell f1⟩
              have q1 : ∀ W, Ext w5.drew W → (convert 24 9 (.slice ba (stAll S).length bcap)).run Try.prog W = .ok (.string (strB (stAll S))) W ∧ (convert 24 9 (.slice fa (stAll S).length fcap)).run Try.prog W = .ok (.string (strB (stAll S))) W := fun W h => ⟨ks W _ _ (hb5.ext (Ext.of_drew h)), ks W _ _ (fb.ext (Ext.of_drew h))⟩
              generalize S.isNone = sn at *
              generalize strB (stAll S) = S1 at *
              have HSL := Lib.hid hSl
              clear hSl f0 f1 hb5 fb
              repeat (first | (refine rg_pure (x := ?_) rfl (by rfl) (fun W hW => ?_) ?_; rotate_left; (· obtain ⟨e0, e1⟩ := q0 W hW; obtain ⟨f0, f1⟩ := q1 W hW; go_simp; with_reducible rfl); simp only [Nat.reduceAdd, Act.put, List.setIfInBounds_toArray, List.set_cons_zero, List.set_cons_succ]) | (refine rg_skip rfl (by rfl) ?_; simp only [Nat.reduceAdd, Act.put, List.setIfInBounds_toArray, List.set_cons_zero, List.set_cons_succ]))
              refine rg_known rfl (by rfl) (fun W hW hF => ?_) ?_
              · go_simp
                refine (hS1 W (hT5.a.ext (Ext.of_drew hW))).mono ?_
                rintro e W' ⟨rfl, rfl⟩
                exact ⟨_, rfl, Ext.refl _, rfl⟩
              simp only [Nat.reduceAdd, Act.put, List.setIfInBounds_toArray, List.set_cons_zero, List.set_cons_succ]
              repeat (first | (refine rg_pure (x := ?_) rfl (by rfl) (fun W hW => ?_) ?_; rotate_left; (· obtain ⟨e0, e1⟩ := q0 W hW; obtain ⟨f0, f1⟩ := q1 W hW; go_simp; with_reducible rfl); simp only [Nat.reduceAdd, Act.put, List.setIfInBounds_toArray, List.set_cons_zero, List.set_cons_succ]) | (refine rg_skip rfl (by rfl) ?_; simp only [Nat.reduceAdd, Act.put, List.setIfInBounds_toArray, List.set_cons_zero, List.set_cons_succ]))
              refine rg_known rfl (by rfl) (fun W hW hF => ?_) ?_
              · go_simp
                refine (hS2 W (hT5.a.ext (Ext.of_drew hW))).mono ?_
                rintro e W' ⟨rfl, rfl⟩
                exact ⟨_, rfl, Ext.refl _, rfl⟩
              simp only [Nat.reduceAdd, Act.put, List.setIfInBounds_toArray, List.set_cons_zero, List.set_cons_succ]
              repeat (first | (refine rg_pure (x := ?_) rfl (by rfl) (fun W hW => ?_) ?_; rotate_left; (· obtain ⟨e0, e1⟩ := q0 W hW; obtain ⟨f0, f1⟩ := q1 W hW; go_simp; with_reducible rfl); simp only [Nat.reduceAdd, Act.put, List.setIfInBounds_toArray, List.set_cons_zero, List.set_cons_succ]) | (refine rg_skip rfl (by rfl) ?_; simp only [Nat.reduceAdd, Act.put, List.setIfInBounds_toArray, List.set_cons_zero, List.set_cons_succ]))
              refine rg_done fun W hW hF => ?_
              have hT6 := hT5.later (Ext.of_drew hW)
              clear hF hW q0 q1 hT5
              go_wp2_with fail
              go_loopw [9, 119] (fun _ i wq => ∃ (k : Nat) (X : List UInt8), k ≤ (stAll S).length ∧ i = .int .i64 (k : Int) ∧ X.length = (stAll S).length ∧ Trio w wq B1 r' S B2 s' S (.slice ba (stAll S).length bcap) X) (fun _ i _ => (stAll S).length - (intOf i).toNat)
              case atStart => exact ⟨0, stAll S, Nat.zero_le _, rfl, rfl, hT6⟩
              case round =>
                clear hT6
                obtain ⟨k, X, hk, rfl, hX, hT⟩ := hrel
                by_cases hkl : k < (stAll S).length
                · have hkw : (k : Int) < ((stAll S).length : Int) := by omega
                  obtain ⟨c, hc⟩ := get_some (l := X) (k := k) (by omega)
                  obtain ⟨gx, cx', hv0, -, -, -, hcells⟩ := hT.o.row (by intro e; subst e; simp at hc)
                  simp only [Value.slice.injEq] at hv0
                  obtain ⟨rfl, -, rfl⟩ := hv0
                  obtain ⟨hce, hfr⟩ := hcells k c hc
                  have HT := Lib.hid (hT.bump k (by omega) (c + 1))
                  have hcv : IntKind.u8.wrap ((c.toNat : Int) + 1) = ((c + 1).toNat : Int) := by rw [IntKind.wrap_u8, UInt8.toNat_add]; simp
                  have HX := Lib.hid hX
                  have hcl := c.toNat_lt
                  have hSl := HSL.out
                  clear hcells hX hc hT
                  generalize (c + 1).toNat = c1 at *
                  generalize c.toNat = c0 at *
                  go_wp2_with fail
                  go_roundw
                  case rel => exact ⟨k + 1, X.set k (c + 1), by omega, by go_num, by simp [HX.out], HT.out⟩
                  case measure => simp [intOf]; omega
                · have hkw : decide ((k : Int) < ((stAll S).length : Int)) = false := decide_eq_false (by omega)
                  go_wp2_with fail
                  go_roundw
                  case rel => exact ⟨j + 1, r', s', _, X, by omega, by go_num, by rw [HS.out]; exact hT⟩
                  case measure => simp [intOf]; omega
        · have hSp : S = S0 := by rw [hSS]; unfold stOp; rw [if_neg hk0, if_neg hk1]
          subst hSp
          have n0 : (o.kind == 0) = false := by simpa using hk0
          have n1 : (o.kind == 1) = false := by simpa using hk1
          clear hSS hk0 hk1
          go_wp2_with fail
          clear e0 e1 e2 e3 n0 n1
          go_loopw [7, 81] (fun _ i wq => ∃ (k : Nat) (X : List UInt8), k ≤ o.b.length ∧ i = .int .i64 (k : Int) ∧ X.length = o.b.length ∧ Trio w wq B1 r S B2 s S (.slice oa o.b.length ocap) X) (fun _ i _ => o.b.length - (intOf i).toNat)
          case atStart => exact ⟨0, o.b, Nat.zero_le _, rfl, rfl, hT⟩
          case round =>
            clear hT
            obtain ⟨k, X, hk, rfl, hX, hT⟩ := hrel
            by_cases hkl : k < o.b.length
            · have hkw : (k : Int) < (o.b.length : Int) := by omega
              obtain ⟨c, hc⟩ := get_some (l := X) (k := k) (by omega)
              obtain ⟨gx, cx', hv0, -, -, -, hcells⟩ := hT.o.row (by intro e; subst e; simp at hc)
              simp only [Value.slice.injEq] at hv0
              obtain ⟨rfl, -, rfl⟩ := hv0
              obtain ⟨hce, hfr⟩ := hcells k c hc
              have HT := Lib.hid (hT.bump k (by omega) (c + 1))
              have hcv : IntKind.u8.wrap ((c.toNat : Int) + 1) = ((c + 1).toNat : Int) := by rw [IntKind.wrap_u8, UInt8.toNat_add]; simp
              have HX := Lib.hid hX
              have hcl := c.toNat_lt
              clear hcells hX hc hT
              generalize (c + 1).toNat = c1 at *
              generalize c.toNat = c0 at *
              go_wp2_with fail
              go_roundw
              case rel => exact ⟨k + 1, X.set k (c + 1), by omega, by go_num, by simp [HX.out], HT.out⟩
              case measure => simp [intOf]; omega
            · have hkw : decide ((k : Int) < (o.b.length : Int)) = false := decide_eq_false (by omega)
              go_wp2_with fail
              refine (All_calls B1 r S _ hT.a (by omega)).mono ?_
              rintro e w5 ⟨v5, rfl, hv5, hx5⟩
              have hT5 := hT.fresh hv5 hx5
              clear hT hv5 hx5
              have hb5 := hT5.o.bys (by unfold maxLen; omega)
              obtain ⟨ba, bcap, rfl⟩ := hT5.o.slice
              obtain ⟨fa, fcap, f0, f1, fb⟩ := outAt_cells hT5.b (by omega)
              have hS1 := Len_calls B1 r S
              have hS2 := Spoilt_calls B1 r S
              go_wp2_with fail
              refine wp_region_rg Ext [(9, .known (.int .i64 ((stAll S).length : Int))), (18, .known (.bool S.isNone))] (by kernel_rfl) (by kernel_rfl) (by kernel_rfl) Ext.refl (fun _ _ _ => Ext.trans) ?_
              intro σ
              simp only
              have q0 : ∀ W, Ext w5.drew W → W.cell? ⟨B2, 0, none⟩ = some (.slice fa (stAll S).length fcap) ∧ W.cell? ⟨B2, 1, none⟩ = some (.bool S.isNone) := fun W h => ⟨h.cell f0, h.cell f1⟩
              have q1 : ∀ W, Ext w5.drew W → (convert 24 9 (.slice ba (stAll S).length bcap)).run Try.prog W = .ok (.string (strB (stAll S))) W ∧ (convert 24 9 (.slice fa (stAll S).length fcap)).run Try.prog W = .ok (.string (strB (stAll S))) W := fun W h => ⟨ks W _ _ (hb5.ext (Ext.of_drew h)), ks W _ _ (fb.ext (Ext.of_drew h))⟩
              generalize S.isNone = sn at *
              generalize strB (stAll S) = S1 at *
              have HSL := Lib.hid hSl
              clear hSl f0 f1 hb5 fb
              repeat (first | (refine rg_pure (x := ?_) rfl (by rfl) (fun W hW => ?_) ?_; rotate_left; (· obtain ⟨e0, e1⟩ := q0 W hW; obtain ⟨f0, f1⟩ := q1 W hW; go_simp; with_reducible rfl); simp only [Nat.reduceAdd, Act.put, List.setIfInBounds_toArray, List.set_cons_zero, List.set_cons_succ]) | (refine rg_skip rfl (by rfl) ?_; simp only [Nat.reduceAdd, Act.put, List.setIfInBounds_toArray, List.set_cons_zero, List.set_cons_succ]))
              refine rg_known rfl (by rfl) (fun W hW hF => ?_) ?_
              · go_simp
                refine (hS1 W (hT5.a.ext (Ext.of_drew hW))).mono ?_
                rintro e W' ⟨rfl, rfl⟩
                exact ⟨_, rfl, Ext.refl _, rfl⟩
              simp only [Nat.reduceAdd, Act.put, List.setIfInBounds_toArray, List.set_cons_zero, List.set_cons_succ]
              repeat (first | (refine rg_pure (x := ?_) rfl (by rfl) (fun W hW => ?_) ?_; rotate_left; (· obtain ⟨e0, e1⟩ := q0 W hW; obtain ⟨f0, f1⟩ := q1 W hW; go_simp; with_reducible rfl); simp only [Nat.reduceAdd, Act.put, List.setIfInBounds_toArray, List.set_cons_zero, List.set_cons_succ]) | (refine rg_skip rfl (by rfl) ?_; simp only [Nat.reduceAdd, Act.put, List.setIfInBounds_toArray, List.set_cons_zero, List.set_cons_succ]))
              refine rg_known rfl (by rfl) (fun W hW hF => ?_) ?_
              · go_simp
                refine (hS2 W (hT5.a.ext (Ext.of_drew hW))).mono ?_
                rintro e W' ⟨rfl, rfl⟩
                exact ⟨_, rfl, Ext.refl _, rfl⟩
              simp only [Nat.reduceAdd, Act.put, List.setIfInBounds_toArray, List.set_cons_zero, List.set_cons_succ]
              repeat (first | (refine rg_pure (x := ?_) rfl (by rfl) (fun W hW => ?_) ?_; rotate_left; (· obtain ⟨e0, e1⟩ := q0 W hW; obtain ⟨f0, f1⟩ := q1 W hW; go_simp; with_reducible rfl); simp only [Nat.reduceAdd, Act.put, List.setIfInBounds_toArray, List.set_cons_zero, List.set_cons_succ]) | (refine rg_skip rfl (by rfl) ?_; simp only [Nat.reduceAdd, Act.put, List.setIfInBounds_toArray, List.set_cons_zero, List.set_cons_succ]))
              refine rg_done fun W hW hF => ?_
              have hT6 := hT5.later (Ext.of_drew hW)
              clear hF hW q0 q1 hT5
              go_wp2_with fail
              go_loopw [9, 119] (fun _ i wq => ∃ (k : Nat) (X : List UInt8), k ≤ (stAll S).length ∧ i = .int .i64 (k : Int) ∧ X.length = (stAll S).length ∧ Trio w wq B1 r S B2 s S (.slice ba (stAll S).length bcap) X) (fun _ i _ => (stAll S).length - (intOf i).toNat)
              case atStart => exact ⟨0, stAll S, Nat.zero_le _, rfl, rfl, hT6⟩
              case round =>
                clear hT6
                obtain ⟨k, X, hk, rfl, hX, hT⟩ := hrel
                by_cases hkl : k < (stAll S).length
                · have hkw : (k : Int) < ((stAll S).length : Int) := by omega
                  obtain ⟨c, hc⟩ := get_some (l := X) (k := k) (by omega)
                  obtain ⟨gx, cx', hv0, -, -, -, hcells⟩ := hT.o.row (by intro e; subst e; simp at hc)
                  simp only [Value.slice.injEq] at hv0
                  obtain ⟨rfl, -, rfl⟩ := hv0
                  obtain ⟨hce, hfr⟩ := hcells k c hc
                  have HT := Lib.hid (hT.bump k (by omega) (c + 1))
                  have hcv : IntKind.u8.wrap ((c.toNat : Int) + 1) = ((c + 1).toNat : Int) := by rw [IntKind.wrap_u8, UInt8.toNat_add]; simp
                  have HX := Lib.hid hX
                  have hcl := c.toNat_lt
                  have hSl := HSL.out
                  clear hcells hX hc hT
                  generalize (c + 1).toNat = c1 at *
                  generalize c.toNat = c0 at *
                  go_wp2_with fail
                  go_roundw
                  case rel => exact ⟨k + 1, X.set k (c + 1), by omega, by go_num, by simp [HX.out], HT.out⟩
                  case measure => simp [intOf]; omega
                · have hkw : decide ((k : Int) < ((stAll S).length : Int)) = false := decide_eq_false (by omega)
                  go_wp2_with fail
                  go_roundw
                  case rel => exact ⟨j + 1, r, s, _, X, by omega, by go_num, by rw [HS.out]; exact hT⟩
                  case measure => simp [intOf]; omega
    · have hjl : j = la.length := by omega
      subst hjl
      rw [List.take_length] at hO
      obtain ⟨S, hS⟩ : ∃ S, runOps (some []) la = S := ⟨_, rfl⟩
      have hSl : (stAll S).length ≤ 20800 := by
        have := runOps_len (some []) la
        rw [hS, show (stAll (some ([] : List UInt8))).length = 0 from rfl] at this
        omega
      rw [hS] at hO
      clear hopa HO hva hS hj hlt
      obtain ⟨fa, fcap, f0, f1, fb⟩ := outAt_cells hO.b (by omega)
      go_wp2_with fail
      refine wp_region_rg Ext [(0, .unk (fun v W => Bys W v (stAll S)) (fun _ _ _ e h => h.ext e)), (1, .known (.string (strB (stAll S))))] (by kernel_rfl) (by kernel_rfl) (by kernel_rfl) Ext.refl (fun _ _ _ => Ext.trans) ?_
      intro σ
      simp only
      have q0 : ∀ W, Ext wr.drew W → W.cell? ⟨B2, 0, none⟩ = some (.slice fa (stAll S).length fcap) := fun W h => h.cell f0
      have q1 : ∀ W, Ext wr.drew W → (convert 24 9 (.slice fa (stAll S).length fcap)).run Try.prog W = .ok (.string (strB (stAll S))) W := fun W h => ks W _ _ (fb.ext (Ext.of_drew h))
      clear f0 f1 fb
      refine rg_unk rfl (by rfl) (fun W hW hF => ?_) ?_
      · go_simp
        refine (All_calls B1 r S W (hO.a.ext (Ext.of_drew hW)) (by omega)).mono ?_
        rintro e W' ⟨u, rfl, hu, hx⟩
        exact ⟨_, rfl, hx, hu.bys (by unfold maxLen; omega)⟩
      simp only [Nat.reduceAdd, Act.put, List.setIfInBounds_toArray, List.set_cons_zero, List.set_cons_succ]
      refine rg_known rfl (by rfl) (fun W hW hF => ?_) ?_
      · have k1 := ks W _ _ (hF 0 _ _ rfl (by kernel_rfl))
        go_simp
        exact ⟨Ext.refl _, rfl⟩
      simp only [Nat.reduceAdd, Act.put, List.setIfInBounds_toArray, List.set_cons_zero, List.set_cons_succ]
      repeat (first | (refine rg_pure (x := ?_) rfl (by rfl) (fun W hW => ?_) ?_; rotate_left; (· have e0 := q0 W hW; have f0 := q1 W hW; go_simp; with_reducible rfl); simp only [Nat.reduceAdd, Act.put, List.setIfInBounds_toArray, List.set_cons_zero, List.set_cons_succ]) | (refine rg_skip rfl (by rfl) ?_; simp only [Nat.reduceAdd, Act.put, List.setIfInBounds_toArray, List.set_cons_zero, List.set_cons_succ]))
      refine rg_done fun W hW hF => ?_
      have hE := (hO.later (Ext.of_drew hW)).ext
      clear hF hW q0 q1
      go_wp2_with fail
      go_ret
      exact ⟨rfl, hE⟩

end Go.Proofs.Ytolmcdimhnnpaaa.VOct
