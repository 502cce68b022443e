/- OctetIns: the walk (printed by gen_ins.py). -/
import Derived.Test.YtolmcdimhnnpaaaVDuo
import Derived.Test.YtolmcdimhnnpaaaVGreat
namespace Go.Proofs.Ytolmcdimhnnpaaa.VOct
open Go.RowKit Go.VBase Go.VOct Go.VRg

theorem inTake_rest (st : Option (List UInt8)) (n : Int) : (stAll (inTake st n).2).length ≤ (stAll st).length := by
  cases st with
  | none => exact Nat.zero_le _
  | some l =>
    show (stAll (if 0 ≤ n ∧ n ≤ l.length then (l.take n.toNat, some (l.drop n.toNat)) else ([], none)).2).length ≤ l.length
    split
    · simp [stAll]
    · simp [stAll]
theorem inTake_fst (st : Option (List UInt8)) (n : Int) : (inTake st n).1.length ≤ (stAll st).length := inTake_len st n
/-- How it stands with an In. -/
theorem in_case (T : Option (List UInt8)) : (T.isNone = true ∧ (T == some []) = false) ∨ (T.isNone = false ∧ (((stAll T).length : Int) == 0) = (T == some [])) := by
  cases T with
  | none => exact .inl ⟨rfl, rfl⟩
  | some l =>
    right
    refine ⟨rfl, ?_⟩
    cases l with
    | nil => rfl
    | cons c l =>
      rw [show (some (c :: l) == some []) = false from rfl]
      simp [stAll]; omega

set_option maxRecDepth 100000 in
set_option maxHeartbeats 4000000 in
theorem Ins_any (vb va : Value) (lb : List UInt8) (la : List OpD) (w : World) (hb : Bys w vb lb) (ha : OpsR w va la) :
    Calls Try.prog 6 #[vb, va] w fun e w' => e = .returned (.bool true) ∧ Ext w w' := by
  have ks := fun (W : World) (v : Value) (l : List UInt8) (h : Bys W v l) => run_string_bys (P := Try.prog) Try.underlying24 Try.underlying5 Try.underlying9 h
  have hva := ha
  have hvb := hb
  obtain ⟨aa, capa, rfl, hcapa, hcma, hopa⟩ := ha
  obtain ⟨ab, capb, rfl, _⟩ := hb
  go_enter Try.func6, Try.ntmps6
  go_wp2_with fail
  refine (great_calls _ la w hva).mono ?_
  rintro e w' ⟨rfl, b1, rfl, hg1⟩
  cases b1 with
  | true =>
    go_wp2_with fail
    go_ret
    exact ⟨rfl, Ext.refl _⟩
  | false =>
  obtain ⟨ga1, ga2⟩ := hg1 rfl
  clear hg1
  by_cases hlb : 20000 < lb.length
  · have hd : decide ((20000 : Int) < (lb.length : Int)) = true := decide_eq_true (by omega)
    go_wp2_with fail
    go_ret
    exact ⟨rfl, Ext.refl _⟩
  have hd : decide ((20000 : Int) < (lb.length : Int)) = false := decide_eq_false (by omega)
  have hlb2 : lb.length ≤ 20000 := by omega
  clear hlb
  go_wp2_with fail
  refine (VRef01.Twin_calls _ lb _ hvb (by omega)).mono ?_
  rintro e w1 ⟨own, rfl, hown, hx1⟩
  have hob := hown.bys (by unfold maxLen; omega)
  obtain ⟨oa, ocap, rfl⟩ := hown.slice
  go_wp2_with fail
  refine (From_calls2 _ lb _ hob (by omega)).mono ?_
  rintro e w2 ⟨Bx, rfl, hBx, hin, hx2, hsep⟩
  clear hob
  go_wp2_with fail
  refine (VRef01.Twin_calls _ lb _ ((hvb.ext hx1).ext hx2) (by omega)).mono ?_
  rintro e w3 ⟨tw, rfl, htw, hx3⟩
  have hDs := Duo.start hx1 hown hx2 hBx hin hsep hx3 htw (by omega)
  obtain ⟨ta, tcap, rfl⟩ := htw.slice
  clear hown hin hsep hx1 hx2 hx3 htw hBx
  go_wp2_with fail
  generalize w3.alloc (.cells #[.slice ta lb.length tcap, .bool false] TRI) = w4 at *
  generalize w3.heap.size = Br at *
  generalize (Value.slice ta lb.length tcap).ownBlock = K at *
  go_loopw [8, 29] (fun _ i wq => ∃ (k : Nat) (X : List UInt8), k ≤ lb.length ∧ i = .int .i64 (k : Int) ∧ X.length = lb.length ∧ Duo w wq Bx (some lb) Br K (some lb) (.slice oa lb.length ocap) X) (fun _ i _ => lb.length - (intOf i).toNat)
  case atStart => exact ⟨0, _, Nat.zero_le _, rfl, rfl, hDs⟩
  case round =>
    clear hDs
    obtain ⟨k, X, hk, rfl, hX, hD⟩ := hrel
    by_cases hkl : k < lb.length
    · have hkw : (k : Int) < (lb.length : Int) := by omega
      obtain ⟨c, hc⟩ := get_some (l := X) (k := k) (by omega)
      obtain ⟨gx, cx', hv0, -, -, -, hcells⟩ := hD.o.row (by intro e; subst e; simp at hc)
      simp only [Value.slice.injEq] at hv0
      obtain ⟨rfl, -, rfl⟩ := hv0
      obtain ⟨hce, hfr⟩ := hcells k c hc
      have HT := Lib.hid (hD.bump k (by omega) (c + 1))
      have hcv : IntKind.u8.wrap ((c.toNat : Int) + 1) = ((c + 1).toNat : Int) := by rw [IntKind.wrap_u8, UInt8.toNat_add]; simp
      have HX := Lib.hid hX
      have hcl := c.toNat_lt
      clear hcells hX hc hD
      generalize (c + 1).toNat = c1 at *
      generalize c.toNat = c0 at *
      go_wp2_with fail
      go_roundw
      case rel => exact ⟨k + 1, X.set k (c + 1), by omega, by go_num, by simp [HX.out], HT.out⟩
      case measure => simp [intOf]; omega
    · have hkw : decide ((k : Int) < (lb.length : Int)) = false := decide_eq_false (by omega)
      go_wp2_with fail
      go_loopw [9, 10, 11, 41] (fun _ _ _ i wr => ∃ (j : Nat) (T : Option (List UInt8)) (v : Value) (X : List UInt8), j ≤ la.length ∧ i = .int .i64 (j : Int) ∧ (stAll T).length ≤ 20000 ∧ Duo w wr Bx T Br K T v X) (fun _ _ _ i _ => la.length - (intOf i).toNat)
      case atStart => exact ⟨0, some lb, _, X, Nat.zero_le _, rfl, hlb2, hD⟩
      case round =>
        clear hD
        obtain ⟨j, T0, v, X', hj, rfl, hTl0, hD⟩ := hrel
        by_cases hlt : j < la.length
        · obtain ⟨o, ho⟩ : ∃ o, la[j]? = some o := ⟨_, List.getElem?_eq_getElem hlt⟩
          obtain ⟨_, ⟨hn0, hn1⟩, hv64, hbl, b, off, u, rfl, d0, d1, d2, d3, hu⟩ := hopa j o ho
          have hjw : (j : Int) < (la.length : Int) := by omega
          have kw : ∀ W, Below w.heap.size w W → W.cell? ⟨b, off + j * 4, none⟩ = some (.int .i64 o.kind) ∧ W.cell? ⟨b, off + j * 4 + 1, none⟩ = some (.int .i64 o.n) := fun W h => ⟨(h.cell (World.block_lt_of_cell? _ _ d0)).trans d0, (h.cell (World.block_lt_of_cell? _ _ d1)).trans d1⟩
          clear d0 d1 d2 d3 hu hopa ho hX hk hkl hkw
          obtain ⟨e0, e1⟩ := kw _ hD.ext.below
          by_cases hk0 : o.kind = 0
          · have e0' : wr.cell? ⟨b, off + j * 4, none⟩ = some (.int .i64 0) := by rw [← hk0]; exact e0
            clear e0
            obtain ⟨x, hx⟩ : ∃ x, inTake T0 (getW o.n) = x := ⟨_, rfl⟩
            have hTl : (stAll x.2).length ≤ 20000 := by rw [← hx]; exact Nat.le_trans (inTake_rest _ _) hTl0
            have hG1 := fun W h => Get_calls Bx T0 o.n W h hn0 hn1
            have hG2 := fun W h => refGet_calls Br K T0 o.n W h hn0 hn1 (by omega)
            rw [hx] at hG1 hG2
            obtain ⟨y, T⟩ := x
            simp only at hTl
            unfold GetPost at hG1
            unfold RGetPost at hG2
            simp only at hG1 hG2
            clear hx
            generalize numB y = m at *
            go_wp2_with fail
            have k0 : ∀ W, Below w.heap.size wr.drew W → W.cell? ⟨b, off + j * 4, none⟩ = some (.int .i64 o.kind) ∧ W.cell? ⟨b, off + j * 4 + 1, none⟩ = some (.int .i64 o.n) := fun W h => kw W (hD.ext.below.trans (((Ext.drew _).below.mono hD.ext.size).trans h))
            refine wp_region_chain (Below w.heap.size) Eq [(6, .known (.int .u64 (m : Int))), (13, .known (.int .u64 (m : Int)))] [6, 13] (fun vs W' => (vs.length = 0 → Duo w W' Bx T0 Br K T0 v X') ∧ (vs.length = 1 → Duo w W' Bx T Br K T0 (.slice none 0 0) []) ∧ (vs.length = 2 → Duo w W' Bx T Br K T (.slice none 0 0) [])) (by kernel_rfl) (by kernel_rfl) (by kernel_rfl) (by kernel_rfl) (fun a b h => by rw [h]; exact Below.refl _ _) (fun _ _ _ h k => by rw [← h]; exact k) (Below.refl _) (fun _ _ _ h k => h.trans k) ⟨fun _ => hD.later (Ext.drew _), fun h => (by cases h), fun h => (by cases h)⟩ ?_
            intro σ
            simp only
            clear e0' e1
            repeat (first | (refine cg_pure (x := ?_) rfl (by rfl) (fun W hW => ?_) ?_; rotate_left; (· obtain ⟨e0, e1⟩ := k0 W hW; go_simp; with_reducible rfl); simp only [Nat.reduceAdd, Act.put, List.setIfInBounds_toArray, List.set_cons_zero, List.set_cons_succ]) | (refine cg_skip rfl (by rfl) ?_; simp only [Nat.reduceAdd, Act.put, List.setIfInBounds_toArray, List.set_cons_zero, List.set_cons_succ]))
            refine cg_call 0 rfl rfl (by decide) rfl (by rfl) (fun W hW hF hS => ?_) ?_
            · have hT3 := hS.1 rfl
              go_simp
              refine (hG1 W hT3.x).mono ?_
              rintro e W' ⟨rfl, h1, h2⟩
              exact ⟨_, rfl, h2.below hT3.ext.size hT3.gx (fun g e => by cases e), rfl, hT3.turnX h1 h2⟩
            simp only [Nat.reduceAdd, Act.put, List.setIfInBounds_toArray, List.set_cons_zero, List.set_cons_succ]
            repeat (first | (refine cg_pure (x := ?_) rfl (by rfl) (fun W hW => ?_) ?_; rotate_left; (· obtain ⟨e0, e1⟩ := k0 W hW; go_simp; with_reducible rfl); simp only [Nat.reduceAdd, Act.put, List.setIfInBounds_toArray, List.set_cons_zero, List.set_cons_succ]) | (refine cg_skip rfl (by rfl) ?_; simp only [Nat.reduceAdd, Act.put, List.setIfInBounds_toArray, List.set_cons_zero, List.set_cons_succ]))
            refine cg_call 1 rfl rfl (by decide) rfl (by rfl) (fun W hW hF hS => ?_) ?_
            · have hT3 := hS.2.1 rfl
              go_simp
              refine (hG2 W hT3.r).mono ?_
              rintro e W' ⟨rfl, h1, h2⟩
              exact ⟨_, rfl, h2.below hT3.ext.size hT3.gr (fun g e => by cases e), rfl, hT3.turnR h1 h2⟩
            simp only [Nat.reduceAdd, Act.put, List.setIfInBounds_toArray, List.set_cons_zero, List.set_cons_succ]
            repeat (first | (refine cg_pure (x := ?_) rfl (by rfl) (fun W hW => ?_) ?_; rotate_left; (· obtain ⟨e0, e1⟩ := k0 W hW; go_simp; with_reducible rfl); simp only [Nat.reduceAdd, Act.put, List.setIfInBounds_toArray, List.set_cons_zero, List.set_cons_succ]) | (refine cg_skip rfl (by rfl) ?_; simp only [Nat.reduceAdd, Act.put, List.setIfInBounds_toArray, List.set_cons_zero, List.set_cons_succ]))
            refine cg_done rfl fun W3 hW hF hS => ?_
            have hD3 := hS.2.2 rfl
            clear hF hS hW k0 hD hG1 hG2
            have hD := hD3
            clear hD3
            go_wp2_with fail
            obtain ⟨ra, rcap, f0, f1⟩ := rIn_cells hD.r
            have hl1 := Left_calls Bx T
            have hl2 := InSpoilt_calls Bx T
            have hl3 := Done_calls Bx T
            have q0 : ∀ W, Ext (W3).drew W → W.cell? ⟨Br, 0, none⟩ = some (.slice ra (stAll T).length rcap) ∧ W.cell? ⟨Br, 1, none⟩ = some (.bool T.isNone) := fun W h => ⟨h.cell f0, h.cell f1⟩
            have hcs := in_case T
            obtain ⟨L, hL⟩ : ∃ L, (stAll T).length = L := ⟨_, rfl⟩
            obtain ⟨n, hn⟩ : ∃ n, T.isNone = n := ⟨_, rfl⟩
            obtain ⟨d, hd⟩ : ∃ d, (T == some []) = d := ⟨_, rfl⟩
            simp only [hL, hn, hd] at hl1 hl2 hl3 q0 hcs
            clear f0 f1 hL hn hd
            rcases hcs with ⟨rfl, rfl⟩ | ⟨rfl, hz⟩
            · refine wp_region_rg Ext [(1, .known (.int .i64 (L : Int))), (10, .known (.bool true)), (19, .known (.bool false))] (by kernel_rfl) (by kernel_rfl) (by kernel_rfl) Ext.refl (fun _ _ _ => Ext.trans) ?_
              intro σ
              simp only
              repeat (first | (refine rg_pure (x := ?_) rfl (by rfl) (fun W hW => ?_) ?_; rotate_left; (· obtain ⟨e0, e1⟩ := q0 W hW; go_simp; with_reducible rfl); simp only [Nat.reduceAdd, Act.put, List.setIfInBounds_toArray, List.set_cons_zero, List.set_cons_succ]) | (refine rg_skip rfl (by rfl) ?_; simp only [Nat.reduceAdd, Act.put, List.setIfInBounds_toArray, List.set_cons_zero, List.set_cons_succ]))
              refine rg_known rfl (by rfl) (fun W hW hF => ?_) ?_
              · go_simp
                refine (hl1 W (hD.x.ext (Ext.of_drew hW))).mono ?_
                rintro e W' ⟨rfl, rfl⟩
                exact ⟨_, rfl, Ext.refl _, rfl⟩
              simp only [Nat.reduceAdd, Act.put, List.setIfInBounds_toArray, List.set_cons_zero, List.set_cons_succ]
              repeat (first | (refine rg_pure (x := ?_) rfl (by rfl) (fun W hW => ?_) ?_; rotate_left; (· obtain ⟨e0, e1⟩ := q0 W hW; go_simp; with_reducible rfl); simp only [Nat.reduceAdd, Act.put, List.setIfInBounds_toArray, List.set_cons_zero, List.set_cons_succ]) | (refine rg_skip rfl (by rfl) ?_; simp only [Nat.reduceAdd, Act.put, List.setIfInBounds_toArray, List.set_cons_zero, List.set_cons_succ]))
              refine rg_known rfl (by rfl) (fun W hW hF => ?_) ?_
              · go_simp
                refine (hl2 W (hD.x.ext (Ext.of_drew hW))).mono ?_
                rintro e W' ⟨rfl, rfl⟩
                exact ⟨_, rfl, Ext.refl _, rfl⟩
              simp only [Nat.reduceAdd, Act.put, List.setIfInBounds_toArray, List.set_cons_zero, List.set_cons_succ]
              repeat (first | (refine rg_pure (x := ?_) rfl (by rfl) (fun W hW => ?_) ?_; rotate_left; (· obtain ⟨e0, e1⟩ := q0 W hW; go_simp; with_reducible rfl); simp only [Nat.reduceAdd, Act.put, List.setIfInBounds_toArray, List.set_cons_zero, List.set_cons_succ]) | (refine rg_skip rfl (by rfl) ?_; simp only [Nat.reduceAdd, Act.put, List.setIfInBounds_toArray, List.set_cons_zero, List.set_cons_succ]))
              refine rg_known rfl (by rfl) (fun W hW hF => ?_) ?_
              · go_simp
                refine (hl3 W (hD.x.ext (Ext.of_drew hW))).mono ?_
                rintro e W' ⟨rfl, rfl⟩
                exact ⟨_, rfl, Ext.refl _, rfl⟩
              simp only [Nat.reduceAdd, Act.put, List.setIfInBounds_toArray, List.set_cons_zero, List.set_cons_succ]
              repeat (first | (refine rg_pure (x := ?_) rfl (by rfl) (fun W hW => ?_) ?_; rotate_left; (· obtain ⟨e0, e1⟩ := q0 W hW; go_simp; with_reducible rfl); simp only [Nat.reduceAdd, Act.put, List.setIfInBounds_toArray, List.set_cons_zero, List.set_cons_succ]) | (refine rg_skip rfl (by rfl) ?_; simp only [Nat.reduceAdd, Act.put, List.setIfInBounds_toArray, List.set_cons_zero, List.set_cons_succ]))
              refine rg_done fun W hW hF => ?_
              have hD2 := hD.later (Ext.of_drew hW)
              clear hF hW q0 hD
              go_wp2_with fail
              go_roundw
              case rel => exact ⟨j + 1, T, _, _, by omega, by go_num, hTl, hD2⟩
              case measure => simp [intOf]; omega
            · refine wp_region_rg Ext [(1, .known (.int .i64 (L : Int))), (10, .known (.bool false)), (19, .known (.bool d))] (by kernel_rfl) (by kernel_rfl) (by kernel_rfl) Ext.refl (fun _ _ _ => Ext.trans) ?_
              intro σ
              simp only
              repeat (first | (refine rg_pure (x := ?_) rfl (by rfl) (fun W hW => ?_) ?_; rotate_left; (· obtain ⟨e0, e1⟩ := q0 W hW; go_simp; with_reducible rfl); simp only [Nat.reduceAdd, Act.put, List.setIfInBounds_toArray, List.set_cons_zero, List.set_cons_succ]) | (refine rg_skip rfl (by rfl) ?_; simp only [Nat.reduceAdd, Act.put, List.setIfInBounds_toArray, List.set_cons_zero, List.set_cons_succ]))
              refine rg_known rfl (by rfl) (fun W hW hF => ?_) ?_
              · go_simp
                refine (hl1 W (hD.x.ext (Ext.of_drew hW))).mono ?_
                rintro e W' ⟨rfl, rfl⟩
                exact ⟨_, rfl, Ext.refl _, rfl⟩
              simp only [Nat.reduceAdd, Act.put, List.setIfInBounds_toArray, List.set_cons_zero, List.set_cons_succ]
              repeat (first | (refine rg_pure (x := ?_) rfl (by rfl) (fun W hW => ?_) ?_; rotate_left; (· obtain ⟨e0, e1⟩ := q0 W hW; go_simp; with_reducible rfl); simp only [Nat.reduceAdd, Act.put, List.setIfInBounds_toArray, List.set_cons_zero, List.set_cons_succ]) | (refine rg_skip rfl (by rfl) ?_; simp only [Nat.reduceAdd, Act.put, List.setIfInBounds_toArray, List.set_cons_zero, List.set_cons_succ]))
              refine rg_known rfl (by rfl) (fun W hW hF => ?_) ?_
              · go_simp
                refine (hl2 W (hD.x.ext (Ext.of_drew hW))).mono ?_
                rintro e W' ⟨rfl, rfl⟩
                exact ⟨_, rfl, Ext.refl _, rfl⟩
              simp only [Nat.reduceAdd, Act.put, List.setIfInBounds_toArray, List.set_cons_zero, List.set_cons_succ]
              repeat (first | (refine rg_pure (x := ?_) rfl (by rfl) (fun W hW => ?_) ?_; rotate_left; (· obtain ⟨e0, e1⟩ := q0 W hW; go_simp; with_reducible rfl); simp only [Nat.reduceAdd, Act.put, List.setIfInBounds_toArray, List.set_cons_zero, List.set_cons_succ]) | (refine rg_skip rfl (by rfl) ?_; simp only [Nat.reduceAdd, Act.put, List.setIfInBounds_toArray, List.set_cons_zero, List.set_cons_succ]))
              refine rg_known rfl (by rfl) (fun W hW hF => ?_) ?_
              · go_simp
                refine (hl3 W (hD.x.ext (Ext.of_drew hW))).mono ?_
                rintro e W' ⟨rfl, rfl⟩
                exact ⟨_, rfl, Ext.refl _, rfl⟩
              simp only [Nat.reduceAdd, Act.put, List.setIfInBounds_toArray, List.set_cons_zero, List.set_cons_succ]
              repeat (first | (refine rg_pure (x := ?_) rfl (by rfl) (fun W hW => ?_) ?_; rotate_left; (· obtain ⟨e0, e1⟩ := q0 W hW; go_simp; with_reducible rfl); simp only [Nat.reduceAdd, Act.put, List.setIfInBounds_toArray, List.set_cons_zero, List.set_cons_succ]) | (refine rg_skip rfl (by rfl) ?_; simp only [Nat.reduceAdd, Act.put, List.setIfInBounds_toArray, List.set_cons_zero, List.set_cons_succ]))
              refine rg_done fun W hW hF => ?_
              have hD2 := hD.later (Ext.of_drew hW)
              clear hF hW q0 hD
              go_wp2_with fail
              go_roundw
              case rel => exact ⟨j + 1, T, _, _, by omega, by go_num, hTl, hD2⟩
              case measure => simp [intOf]; omega

          · by_cases hk1 : o.kind = 1
            · have e0' : wr.cell? ⟨b, off + j * 4, none⟩ = some (.int .i64 1) := by rw [← hk1]; exact e0
              clear e0 hk0
              obtain ⟨x, hx⟩ : ∃ x, inTake T0 o.n = x := ⟨_, rfl⟩
              have hTl : (stAll x.2).length ≤ 20000 := by rw [← hx]; exact Nat.le_trans (inTake_rest _ _) hTl0
              have hyl : x.1.length ≤ 20000 := by rw [← hx]; exact Nat.le_trans (inTake_fst _ _) hTl0
              have hG1 := fun W h => Take_calls2 Bx T0 o.n W h hn0 hn1 (by omega)
              have hG2 := fun W h => refTake_calls Br K T0 o.n W h hn0 hn1 (by omega)
              rw [hx] at hG1 hG2
              obtain ⟨y, T⟩ := x
              simp only at hTl hyl
              unfold TakePost2 at hG1
              unfold RTakePost at hG2
              simp only at hG1 hG2
              clear hx
              go_wp2_with fail
              refine (hG1 wr hD.x).mono ?_
              rintro e w5 ⟨av, rfl, g1, g2, g3, g4⟩
              have hD5 : Duo w w5 Bx T Br K T0 av y := hD.take (x := (y, T)) g1 g2 g3 g4
              have hay := hD5.o.bys (by unfold maxLen; omega)
              obtain ⟨aa, acap, rfl⟩ := hD5.o.slice
              clear e0' e1 hD g1 g2 g3 g4 hG1
              go_wp2_with fail
              have k0 : ∀ W, TouchO Br none w5.drew W → W.cell? ⟨b, off + j * 4, none⟩ = some (.int .i64 o.kind) ∧ W.cell? ⟨b, off + j * 4 + 1, none⟩ = some (.int .i64 o.n) := fun W h => kw W (hD5.ext.below.trans (((Ext.drew _).below.mono hD5.ext.size).trans (h.below hD5.ext.size hD5.gr (fun g e => by cases e))))
              have k1 : ∀ W, TouchO Br none w5.drew W → (convert 24 9 (.slice aa y.length acap)).run Try.prog W = .ok (.string (strB y)) W := fun W h => ks W _ _ ((own_touch h (hD5.later (Ext.drew _)).o hD5.or_ (by cases (Value.slice aa y.length acap).ownBlock <;> simp)).bys (by unfold maxLen; omega))
              obtain ⟨So, hSo⟩ : ∃ z, strB y = z := ⟨_, rfl⟩
              rw [hSo] at k1
              refine wp_region_chain (TouchO Br none) Eq [(8, .unk (fun v W => OwnB W w.heap.size TB v y ∧ v.ownBlock ≠ some Br) (fun v W W' t h => ⟨own_touch t h.1 h.2 (by cases v.ownBlock <;> simp), h.2⟩)), (9, .known (.string So))] [8] (fun vs W' => (vs.length = 0 → Duo w W' Bx T Br K T0 (.slice aa y.length acap) y) ∧ (vs.length = 1 → Duo w W' Bx T Br K T (.slice aa y.length acap) y)) (by kernel_rfl) (by kernel_rfl) (by kernel_rfl) (by kernel_rfl) (fun a b h => by rw [h]; exact TouchO.refl _ _ _) (fun _ _ _ h k => by rw [← h]; exact k) (TouchO.refl _ _) (fun _ _ _ h k => h.same k) ⟨fun _ => hD5.later (Ext.drew _), fun h => (by cases h)⟩ ?_
              intro σ
              simp only
              repeat (first | (refine cg_pure (x := ?_) rfl (by rfl) (fun W hW => ?_) ?_; rotate_left; (· obtain ⟨e0, e1⟩ := k0 W hW; have f0 := k1 W hW; go_simp; with_reducible rfl); simp only [Nat.reduceAdd, Act.put, List.setIfInBounds_toArray, List.set_cons_zero, List.set_cons_succ]) | (refine cg_skip rfl (by rfl) ?_; simp only [Nat.reduceAdd, Act.put, List.setIfInBounds_toArray, List.set_cons_zero, List.set_cons_succ]))
              refine cg_call' 0 rfl rfl (by decide) rfl (by rfl) (fun W hW hF hS => ?_) ?_
              · have hT3 := hS.1 rfl
                go_simp
                refine (hG2 W hT3.r).mono ?_
                rintro e W' ⟨u, rfl, h0, h1, h2⟩
                have hbr := hT3.r.lt
                exact ⟨_, rfl, h2, ⟨h0.mono hT3.ext.size, fun e => by have := h0.lt _ e; omega⟩, hT3.turnR h1 h2⟩
              simp only [Nat.reduceAdd, Act.put, List.setIfInBounds_toArray, List.set_cons_zero, List.set_cons_succ]
              refine cg_known rfl (by rfl) (by rfl) (fun W hW hF hS => ?_) ?_
              · have k2 := ks W _ _ ((hF 8 _ _ rfl (by kernel_rfl)).1.bys (by unfold maxLen; omega))
                rw [hSo] at k2
                go_simp
                exact ⟨rfl, rfl⟩
              simp only [Nat.reduceAdd, Act.put, List.setIfInBounds_toArray, List.set_cons_zero, List.set_cons_succ]
              repeat (first | (refine cg_pure (x := ?_) rfl (by rfl) (fun W hW => ?_) ?_; rotate_left; (· obtain ⟨e0, e1⟩ := k0 W hW; have f0 := k1 W hW; go_simp; with_reducible rfl); simp only [Nat.reduceAdd, Act.put, List.setIfInBounds_toArray, List.set_cons_zero, List.set_cons_succ]) | (refine cg_skip rfl (by rfl) ?_; simp only [Nat.reduceAdd, Act.put, List.setIfInBounds_toArray, List.set_cons_zero, List.set_cons_succ]))
              refine cg_done rfl fun W3 hW hF hS => ?_
              have hD3 := hS.2 rfl
              clear hF hS hW k0 k1 hD5 hG2 hSo
              go_wp2_with fail
              go_loopw [11, 88] (fun _ i wq => ∃ (k : Nat) (X : List UInt8), k ≤ y.length ∧ i = .int .i64 (k : Int) ∧ X.length = y.length ∧ Duo w wq Bx T Br K T (.slice aa y.length acap) X) (fun _ i _ => y.length - (intOf i).toNat)
              case atStart => exact ⟨0, _, Nat.zero_le _, rfl, rfl, hD3⟩
              case round =>
                clear hD3
                obtain ⟨k, X, hk, rfl, hX, hD⟩ := hrel
                by_cases hkl : k < y.length
                · have hkw : (k : Int) < (y.length : Int) := by omega
                  obtain ⟨c, hc⟩ := get_some (l := X) (k := k) (by omega)
                  obtain ⟨gx, cx', hv0, -, -, -, hcells⟩ := hD.o.row (by intro e; subst e; simp at hc)
                  simp only [Value.slice.injEq] at hv0
                  obtain ⟨rfl, -, rfl⟩ := hv0
                  obtain ⟨hce, hfr⟩ := hcells k c hc
                  have HT := Lib.hid (hD.bump k (by omega) (c + 1))
                  have hcv : IntKind.u8.wrap ((c.toNat : Int) + 1) = ((c + 1).toNat : Int) := by rw [IntKind.wrap_u8, UInt8.toNat_add]; simp
                  have HX := Lib.hid hX
                  have hcl := c.toNat_lt
                  clear hcells hX hc hD
                  generalize (c + 1).toNat = c1 at *
                  generalize c.toNat = c0 at *
                  go_wp2_with fail
                  go_roundw
                  case rel => exact ⟨k + 1, X.set k (c + 1), by omega, by go_num, by simp [HX.out], HT.out⟩
                  case measure => simp [intOf]; omega
                · have hkw : decide ((k : Int) < (y.length : Int)) = false := decide_eq_false (by omega)
                  go_wp2_with fail
                  obtain ⟨ra, rcap, f0, f1⟩ := rIn_cells hD.r
                  have hl1 := Left_calls Bx T
                  have hl2 := InSpoilt_calls Bx T
                  have hl3 := Done_calls Bx T
                  have q0 : ∀ W, Ext (wr).drew W → W.cell? ⟨Br, 0, none⟩ = some (.slice ra (stAll T).length rcap) ∧ W.cell? ⟨Br, 1, none⟩ = some (.bool T.isNone) := fun W h => ⟨h.cell f0, h.cell f1⟩
                  have hcs := in_case T
                  obtain ⟨L, hL⟩ : ∃ L, (stAll T).length = L := ⟨_, rfl⟩
                  obtain ⟨n, hn⟩ : ∃ n, T.isNone = n := ⟨_, rfl⟩
                  obtain ⟨d, hd⟩ : ∃ d, (T == some []) = d := ⟨_, rfl⟩
                  simp only [hL, hn, hd] at hl1 hl2 hl3 q0 hcs
                  clear f0 f1 hL hn hd
                  rcases hcs with ⟨rfl, rfl⟩ | ⟨rfl, hz⟩
                  · refine wp_region_rg Ext [(1, .known (.int .i64 (L : Int))), (10, .known (.bool true)), (19, .known (.bool false))] (by kernel_rfl) (by kernel_rfl) (by kernel_rfl) Ext.refl (fun _ _ _ => Ext.trans) ?_
                    intro σ
                    simp only
                    repeat (first | (refine rg_pure (x := ?_) rfl (by rfl) (fun W hW => ?_) ?_; rotate_left; (· obtain ⟨e0, e1⟩ := q0 W hW; go_simp; with_reducible rfl); simp only [Nat.reduceAdd, Act.put, List.setIfInBounds_toArray, List.set_cons_zero, List.set_cons_succ]) | (refine rg_skip rfl (by rfl) ?_; simp only [Nat.reduceAdd, Act.put, List.setIfInBounds_toArray, List.set_cons_zero, List.set_cons_succ]))
                    refine rg_known rfl (by rfl) (fun W hW hF => ?_) ?_
                    · go_simp
                      refine (hl1 W (hD.x.ext (Ext.of_drew hW))).mono ?_
                      rintro e W' ⟨rfl, rfl⟩
                      exact ⟨_, rfl, Ext.refl _, rfl⟩
                    simp only [Nat.reduceAdd, Act.put, List.setIfInBounds_toArray, List.set_cons_zero, List.set_cons_succ]
                    repeat (first | (refine rg_pure (x := ?_) rfl (by rfl) (fun W hW => ?_) ?_; rotate_left; (· obtain ⟨e0, e1⟩ := q0 W hW; go_simp; with_reducible rfl); simp only [Nat.reduceAdd, Act.put, List.setIfInBounds_toArray, List.set_cons_zero, List.set_cons_succ]) | (refine rg_skip rfl (by rfl) ?_; simp only [Nat.reduceAdd, Act.put, List.setIfInBounds_toArray, List.set_cons_zero, List.set_cons_succ]))
                    refine rg_known rfl (by rfl) (fun W hW hF => ?_) ?_
                    · go_simp
                      refine (hl2 W (hD.x.ext (Ext.of_drew hW))).mono ?_
                      rintro e W' ⟨rfl, rfl⟩
                      exact ⟨_, rfl, Ext.refl _, rfl⟩
                    simp only [Nat.reduceAdd, Act.put, List.setIfInBounds_toArray, List.set_cons_zero, List.set_cons_succ]
                    repeat (first | (refine rg_pure (x := ?_) rfl (by rfl) (fun W hW => ?_) ?_; rotate_left; (· obtain ⟨e0, e1⟩ := q0 W hW; go_simp; with_reducible rfl); simp only [Nat.reduceAdd, Act.put, List.setIfInBounds_toArray, List.set_cons_zero, List.set_cons_succ]) | (refine rg_skip rfl (by rfl) ?_; simp only [Nat.reduceAdd, Act.put, List.setIfInBounds_toArray, List.set_cons_zero, List.set_cons_succ]))
                    refine rg_known rfl (by rfl) (fun W hW hF => ?_) ?_
                    · go_simp
                      refine (hl3 W (hD.x.ext (Ext.of_drew hW))).mono ?_
                      rintro e W' ⟨rfl, rfl⟩
                      exact ⟨_, rfl, Ext.refl _, rfl⟩
                    simp only [Nat.reduceAdd, Act.put, List.setIfInBounds_toArray, List.set_cons_zero, List.set_cons_succ]
                    repeat (first | (refine rg_pure (x := ?_) rfl (by rfl) (fun W hW => ?_) ?_; rotate_left; (· obtain ⟨e0, e1⟩ := q0 W hW; go_simp; with_reducible rfl); simp only [Nat.reduceAdd, Act.put, List.setIfInBounds_toArray, List.set_cons_zero, List.set_cons_succ]) | (refine rg_skip rfl (by rfl) ?_; simp only [Nat.reduceAdd, Act.put, List.setIfInBounds_toArray, List.set_cons_zero, List.set_cons_succ]))
                    refine rg_done fun W hW hF => ?_
                    have hD2 := hD.later (Ext.of_drew hW)
                    clear hF hW q0 hD
                    go_wp2_with fail
                    go_roundw
                    case rel => exact ⟨j + 1, T, _, _, by omega, by go_num, hTl, hD2⟩
                    case measure => simp [intOf]; omega
                  · refine wp_region_rg Ext [(1, .known (.int .i64 (L : Int))), (10, .known (.bool false)), (19, .known (.bool d))] (by kernel_rfl) (by kernel_rfl) (by kernel_rfl) Ext.refl (fun _ _ _ => Ext.trans) ?_
                    intro σ
                    simp only
                    repeat (first | (refine rg_pure (x := ?_) rfl (by rfl) (fun W hW => ?_) ?_; rotate_left; (· obtain ⟨e0, e1⟩ := q0 W hW; go_simp; with_reducible rfl); simp only [Nat.reduceAdd, Act.put, List.setIfInBounds_toArray, List.set_cons_zero, List.set_cons_succ]) | (refine rg_skip rfl (by rfl) ?_; simp only [Nat.reduceAdd, Act.put, List.setIfInBounds_toArray, List.set_cons_zero, List.set_cons_succ]))
                    refine rg_known rfl (by rfl) (fun W hW hF => ?_) ?_
                    · go_simp
                      refine (hl1 W (hD.x.ext (Ext.of_drew hW))).mono ?_
                      rintro e W' ⟨rfl, rfl⟩
                      exact ⟨_, rfl, Ext.refl _, rfl⟩
                    simp only [Nat.reduceAdd, Act.put, List.setIfInBounds_toArray, List.set_cons_zero, List.set_cons_succ]
                    repeat (first | (refine rg_pure (x := ?_) rfl (by rfl) (fun W hW => ?_) ?_; rotate_left; (· obtain ⟨e0, e1⟩ := q0 W hW; go_simp; with_reducible rfl); simp only [Nat.reduceAdd, Act.put, List.setIfInBounds_toArray, List.set_cons_zero, List.set_cons_succ]) | (refine rg_skip rfl (by rfl) ?_; simp only [Nat.reduceAdd, Act.put, List.setIfInBounds_toArray, List.set_cons_zero, List.set_cons_succ]))
                    refine rg_known rfl (by rfl) (fun W hW hF => ?_) ?_
                    · go_simp
                      refine (hl2 W (hD.x.ext (Ext.of_drew hW))).mono ?_
                      rintro e W' ⟨rfl, rfl⟩
                      exact ⟨_, rfl, Ext.refl _, rfl⟩
                    simp only [Nat.reduceAdd, Act.put, List.setIfInBounds_toArray, List.set_cons_zero, List.set_cons_succ]
                    repeat (first | (refine rg_pure (x := ?_) rfl (by rfl) (fun W hW => ?_) ?_; rotate_left; (· obtain ⟨e0, e1⟩ := q0 W hW; go_simp; with_reducible rfl); simp only [Nat.reduceAdd, Act.put, List.setIfInBounds_toArray, List.set_cons_zero, List.set_cons_succ]) | (refine rg_skip rfl (by rfl) ?_; simp only [Nat.reduceAdd, Act.put, List.setIfInBounds_toArray, List.set_cons_zero, List.set_cons_succ]))
                    refine rg_known rfl (by rfl) (fun W hW hF => ?_) ?_
                    · go_simp
                      refine (hl3 W (hD.x.ext (Ext.of_drew hW))).mono ?_
                      rintro e W' ⟨rfl, rfl⟩
                      exact ⟨_, rfl, Ext.refl _, rfl⟩
                    simp only [Nat.reduceAdd, Act.put, List.setIfInBounds_toArray, List.set_cons_zero, List.set_cons_succ]
                    repeat (first | (refine rg_pure (x := ?_) rfl (by rfl) (fun W hW => ?_) ?_; rotate_left; (· obtain ⟨e0, e1⟩ := q0 W hW; go_simp; with_reducible rfl); simp only [Nat.reduceAdd, Act.put, List.setIfInBounds_toArray, List.set_cons_zero, List.set_cons_succ]) | (refine rg_skip rfl (by rfl) ?_; simp only [Nat.reduceAdd, Act.put, List.setIfInBounds_toArray, List.set_cons_zero, List.set_cons_succ]))
                    refine rg_done fun W hW hF => ?_
                    have hD2 := hD.later (Ext.of_drew hW)
                    clear hF hW q0 hD
                    go_wp2_with fail
                    go_roundw
                    case rel => exact ⟨j + 1, T, _, _, by omega, by go_num, hTl, hD2⟩
                    case measure => simp [intOf]; omega
            · have n0 : (o.kind == 0) = false := by simpa using hk0
              have n1 : (o.kind == 1) = false := by simpa using hk1
              clear hk0 hk1 e1
              go_wp2_with fail
              obtain ⟨ra, rcap, f0, f1⟩ := rIn_cells hD.r
              have hl1 := Left_calls Bx T0
              have hl2 := InSpoilt_calls Bx T0
              have hl3 := Done_calls Bx T0
              have q0 : ∀ W, Ext (wr).drew W → W.cell? ⟨Br, 0, none⟩ = some (.slice ra (stAll T0).length rcap) ∧ W.cell? ⟨Br, 1, none⟩ = some (.bool T0.isNone) := fun W h => ⟨h.cell f0, h.cell f1⟩
              have hcs := in_case T0
              obtain ⟨L, hL⟩ : ∃ L, (stAll T0).length = L := ⟨_, rfl⟩
              obtain ⟨n, hn⟩ : ∃ n, T0.isNone = n := ⟨_, rfl⟩
              obtain ⟨d, hd⟩ : ∃ d, (T0 == some []) = d := ⟨_, rfl⟩
              simp only [hL, hn, hd] at hl1 hl2 hl3 q0 hcs
              clear f0 f1 hL hn hd
              rcases hcs with ⟨rfl, rfl⟩ | ⟨rfl, hz⟩
              · refine wp_region_rg Ext [(1, .known (.int .i64 (L : Int))), (10, .known (.bool true)), (19, .known (.bool false))] (by kernel_rfl) (by kernel_rfl) (by kernel_rfl) Ext.refl (fun _ _ _ => Ext.trans) ?_
                intro σ
                simp only
                repeat (first | (refine rg_pure (x := ?_) rfl (by rfl) (fun W hW => ?_) ?_; rotate_left; (· obtain ⟨e0, e1⟩ := q0 W hW; go_simp; with_reducible rfl); simp only [Nat.reduceAdd, Act.put, List.setIfInBounds_toArray, List.set_cons_zero, List.set_cons_succ]) | (refine rg_skip rfl (by rfl) ?_; simp only [Nat.reduceAdd, Act.put, List.setIfInBounds_toArray, List.set_cons_zero, List.set_cons_succ]))
                refine rg_known rfl (by rfl) (fun W hW hF => ?_) ?_
                · go_simp
                  refine (hl1 W (hD.x.ext (Ext.of_drew hW))).mono ?_
                  rintro e W' ⟨rfl, rfl⟩
                  exact ⟨_, rfl, Ext.refl _, rfl⟩
                simp only [Nat.reduceAdd, Act.put, List.setIfInBounds_toArray, List.set_cons_zero, List.set_cons_succ]
                repeat (first | (refine rg_pure (x := ?_) rfl (by rfl) (fun W hW => ?_) ?_; rotate_left; (· obtain ⟨e0, e1⟩ := q0 W hW; go_simp; with_reducible rfl); simp only [Nat.reduceAdd, Act.put, List.setIfInBounds_toArray, List.set_cons_zero, List.set_cons_succ]) | (refine rg_skip rfl (by rfl) ?_; simp only [Nat.reduceAdd, Act.put, List.setIfInBounds_toArray, List.set_cons_zero, List.set_cons_succ]))
                refine rg_known rfl (by rfl) (fun W hW hF => ?_) ?_
                · go_simp
                  refine (hl2 W (hD.x.ext (Ext.of_drew hW))).mono ?_
                  rintro e W' ⟨rfl, rfl⟩
                  exact ⟨_, rfl, Ext.refl _, rfl⟩
                simp only [Nat.reduceAdd, Act.put, List.setIfInBounds_toArray, List.set_cons_zero, List.set_cons_succ]
                repeat (first | (refine rg_pure (x := ?_) rfl (by rfl) (fun W hW => ?_) ?_; rotate_left; (· obtain ⟨e0, e1⟩ := q0 W hW; go_simp; with_reducible rfl); simp only [Nat.reduceAdd, Act.put, List.setIfInBounds_toArray, List.set_cons_zero, List.set_cons_succ]) | (refine rg_skip rfl (by rfl) ?_; simp only [Nat.reduceAdd, Act.put, List.setIfInBounds_toArray, List.set_cons_zero, List.set_cons_succ]))
                refine rg_known rfl (by rfl) (fun W hW hF => ?_) ?_
                · go_simp
                  refine (hl3 W (hD.x.ext (Ext.of_drew hW))).mono ?_
                  rintro e W' ⟨rfl, rfl⟩
                  exact ⟨_, rfl, Ext.refl _, rfl⟩
                simp only [Nat.reduceAdd, Act.put, List.setIfInBounds_toArray, List.set_cons_zero, List.set_cons_succ]
                repeat (first | (refine rg_pure (x := ?_) rfl (by rfl) (fun W hW => ?_) ?_; rotate_left; (· obtain ⟨e0, e1⟩ := q0 W hW; go_simp; with_reducible rfl); simp only [Nat.reduceAdd, Act.put, List.setIfInBounds_toArray, List.set_cons_zero, List.set_cons_succ]) | (refine rg_skip rfl (by rfl) ?_; simp only [Nat.reduceAdd, Act.put, List.setIfInBounds_toArray, List.set_cons_zero, List.set_cons_succ]))
                refine rg_done fun W hW hF => ?_
                have hD2 := hD.later (Ext.of_drew hW)
                clear hF hW q0 hD
                go_wp2_with fail
                go_roundw
                case rel => exact ⟨j + 1, T0, _, _, by omega, by go_num, hTl0, hD2⟩
                case measure => simp [intOf]; omega
              · refine wp_region_rg Ext [(1, .known (.int .i64 (L : Int))), (10, .known (.bool false)), (19, .known (.bool d))] (by kernel_rfl) (by kernel_rfl) (by kernel_rfl) Ext.refl (fun _ _ _ => Ext.trans) ?_
                intro σ
                simp only
                repeat (first | (refine rg_pure (x := ?_) rfl (by rfl) (fun W hW => ?_) ?_; rotate_left; (· obtain ⟨e0, e1⟩ := q0 W hW; go_simp; with_reducible rfl); simp only [Nat.reduceAdd, Act.put, List.setIfInBounds_toArray, List.set_cons_zero, List.set_cons_succ]) | (refine rg_skip rfl (by rfl) ?_; simp only [Nat.reduceAdd, Act.put, List.setIfInBounds_toArray, List.set_cons_zero, List.set_cons_succ]))
                refine rg_known rfl (by rfl) (fun W hW hF => ?_) ?_
                · go_simp
                  refine (hl1 W (hD.x.ext (Ext.of_drew hW))).mono ?_
                  rintro e W' ⟨rfl, rfl⟩
                  exact ⟨_, rfl, Ext.refl _, rfl⟩
                simp only [Nat.reduceAdd, Act.put, List.setIfInBounds_toArray, List.set_cons_zero, List.set_cons_succ]
                repeat (first | (refine rg_pure (x := ?_) rfl (by rfl) (fun W hW => ?_) ?_; rotate_left; (· obtain ⟨e0, e1⟩ := q0 W hW; go_simp; with_reducible rfl); simp only [Nat.reduceAdd, Act.put, List.setIfInBounds_toArray, List.set_cons_zero, List.set_cons_succ]) | (refine rg_skip rfl (by rfl) ?_; simp only [Nat.reduceAdd, Act.put, List.setIfInBounds_toArray, List.set_cons_zero, List.set_cons_succ]))
                refine rg_known rfl (by rfl) (fun W hW hF => ?_) ?_
                · go_simp
                  refine (hl2 W (hD.x.ext (Ext.of_drew hW))).mono ?_
                  rintro e W' ⟨rfl, rfl⟩
                  exact ⟨_, rfl, Ext.refl _, rfl⟩
                simp only [Nat.reduceAdd, Act.put, List.setIfInBounds_toArray, List.set_cons_zero, List.set_cons_succ]
                repeat (first | (refine rg_pure (x := ?_) rfl (by rfl) (fun W hW => ?_) ?_; rotate_left; (· obtain ⟨e0, e1⟩ := q0 W hW; go_simp; with_reducible rfl); simp only [Nat.reduceAdd, Act.put, List.setIfInBounds_toArray, List.set_cons_zero, List.set_cons_succ]) | (refine rg_skip rfl (by rfl) ?_; simp only [Nat.reduceAdd, Act.put, List.setIfInBounds_toArray, List.set_cons_zero, List.set_cons_succ]))
                refine rg_known rfl (by rfl) (fun W hW hF => ?_) ?_
                · go_simp
                  refine (hl3 W (hD.x.ext (Ext.of_drew hW))).mono ?_
                  rintro e W' ⟨rfl, rfl⟩
                  exact ⟨_, rfl, Ext.refl _, rfl⟩
                simp only [Nat.reduceAdd, Act.put, List.setIfInBounds_toArray, List.set_cons_zero, List.set_cons_succ]
                repeat (first | (refine rg_pure (x := ?_) rfl (by rfl) (fun W hW => ?_) ?_; rotate_left; (· obtain ⟨e0, e1⟩ := q0 W hW; go_simp; with_reducible rfl); simp only [Nat.reduceAdd, Act.put, List.setIfInBounds_toArray, List.set_cons_zero, List.set_cons_succ]) | (refine rg_skip rfl (by rfl) ?_; simp only [Nat.reduceAdd, Act.put, List.setIfInBounds_toArray, List.set_cons_zero, List.set_cons_succ]))
                refine rg_done fun W hW hF => ?_
                have hD2 := hD.later (Ext.of_drew hW)
                clear hF hW q0 hD
                go_wp2_with fail
                go_roundw
                case rel => exact ⟨j + 1, T0, _, _, by omega, by go_num, hTl0, hD2⟩
                case measure => simp [intOf]; omega
        · have hjl : j = la.length := by omega
          subst hjl
          obtain ⟨ra, rcap, f0, f1⟩ := rIn_cells hD.r
          have hl1 := Left_calls Bx T0
          have q0 : ∀ W, Ext wr.drew W → W.cell? ⟨Br, 0, none⟩ = some (.slice ra (stAll T0).length rcap) := fun W h => h.cell f0
          obtain ⟨L, hL⟩ : ∃ L, (stAll T0).length = L := ⟨_, rfl⟩
          simp only [hL] at hl1 q0
          clear f0 f1 hL hTl0 hopa
          go_wp2_with fail
          refine wp_region_rg Ext [(1, .known (.int .i64 (L : Int)))] (by kernel_rfl) (by kernel_rfl) (by kernel_rfl) Ext.refl (fun _ _ _ => Ext.trans) ?_
          intro σ
          simp only
          repeat (first | (refine rg_pure (x := ?_) rfl (by rfl) (fun W hW => ?_) ?_; rotate_left; (· have e0 := q0 W hW; go_simp; with_reducible rfl); simp only [Nat.reduceAdd, Act.put, List.setIfInBounds_toArray, List.set_cons_zero, List.set_cons_succ]) | (refine rg_skip rfl (by rfl) ?_; simp only [Nat.reduceAdd, Act.put, List.setIfInBounds_toArray, List.set_cons_zero, List.set_cons_succ]))
          refine rg_known rfl (by rfl) (fun W hW hF => ?_) ?_
          · go_simp
            refine (hl1 W (hD.x.ext (Ext.of_drew hW))).mono ?_
            rintro e W' ⟨rfl, rfl⟩
            exact ⟨_, rfl, Ext.refl _, rfl⟩
          simp only [Nat.reduceAdd, Act.put, List.setIfInBounds_toArray, List.set_cons_zero, List.set_cons_succ]
          repeat (first | (refine rg_pure (x := ?_) rfl (by rfl) (fun W hW => ?_) ?_; rotate_left; (· have e0 := q0 W hW; go_simp; with_reducible rfl); simp only [Nat.reduceAdd, Act.put, List.setIfInBounds_toArray, List.set_cons_zero, List.set_cons_succ]) | (refine rg_skip rfl (by rfl) ?_; simp only [Nat.reduceAdd, Act.put, List.setIfInBounds_toArray, List.set_cons_zero, List.set_cons_succ]))
          refine rg_done fun W hW hF => ?_
          have hE := (hD.later (Ext.of_drew hW)).ext
          clear hF hW q0
          go_wp2_with fail
          go_ret
          exact ⟨rfl, hE⟩
end Go.Proofs.Ytolmcdimhnnpaaa.VOct
