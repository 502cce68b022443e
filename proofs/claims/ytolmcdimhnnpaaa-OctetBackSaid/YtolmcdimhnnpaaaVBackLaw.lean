/- OctetBack: the walk (printed by gen_back01.py). -/
import Derived.Test.YtolmcdimhnnpaaaVPack
import Derived.Test.YtolmcdimhnnpaaaVAlive01
import Derived.Test.YtolmcdimhnnpaaaVDuo
namespace Go.Proofs.Ytolmcdimhnnpaaa.VOct
open Go.RowKit Go.VBase Go.VOct Go.VRg

theorem opSl : ElemTy Try.prog 22 TOp (.agg #[.int .i64 0, .int .i64 0, .int .u64 0, .slice none 0 0]) 4 48 := by
  obtain ⟨i, h0, h1, h2, h3⟩ := info_parts (P := Try.prog) (e := TOp) (z := .agg #[.int .i64 0, .int .i64 0, .int .u64 0, .slice none 0 0]) (size := 4) (bytes := 48) (by kernel_rfl)
  exact ⟨Try.underlying22, i, h0, h1, h2, h3, rfl⟩
theorem stPut_ok {p : List UInt8} {n : Int} {v : Nat} (hw : widthB n = true) (hv : v < 256 ^ n.toNat) : stPut (some p) n v = some (p ++ beB n.toNat v) := by
  unfold stPut putB
  simp only
  rw [if_pos ⟨hw, hv⟩]; rfl
theorem stPut_bad {n : Int} {v : Nat} (h : ¬ (widthB n = true ∧ v < 256 ^ n.toNat)) : stPut (some []) n v = none := by
  unfold stPut putB
  simp only
  rw [if_neg h]; rfl

theorem cat_drop {l : List (OpD × Sl3)} {j : Nat} {y : OpD × Sl3} (h : l[j]? = some y) : catO (l.drop j) = opB y.1 ++ catO (l.drop (j + 1)) := by
  rw [drop_cons h]; unfold catO; rw [List.flatMap_cons]
theorem take_app (p q : List UInt8) (n : Int) (hn : n = (p.length : Int)) : inTake (some (p ++ q)) n = (p, some q) := by
  subst hn
  unfold inTake
  simp only
  rw [if_pos ⟨by omega, by simp; omega⟩, Int.toNat_natCast]
  simp
theorem done_len {w : World} {y : OpD × Sl3} (h : DoneOk w y) : (opB y.1).length ≤ 8 + y.1.b.length := by
  unfold opB
  split
  · rcases h.2.2.2 with ⟨h0, h1, h2⟩ | ⟨h0, h1⟩
    · rw [beB_len]; unfold widthB at h1; simp at h1; omega
    · omega
  · omega

set_option maxRecDepth 100000 in
set_option maxHeartbeats 4000000 in
theorem Back_any (va : Value) (la : List OpD) (w : World) (ha : OpsR w va la) :
    Calls Try.prog 8 #[va] w fun e w' => e = .returned (.bool true) ∧ Ext w w' := by
  have ks := fun (W : World) (v : Value) (l : List UInt8) (h : Bys W v l) => run_string_bys (P := Try.prog) Try.underlying24 Try.underlying5 Try.underlying9 h
  have hva := ha
  obtain ⟨aa, capa, rfl, hcapa, hcma, hopa⟩ := ha
  go_enter Try.func8, Try.ntmps8
  go_wp2_with fail
  refine (alive_calls _).mono ?_
  rintro e w1 ⟨rfl, h1⟩
  go_wp2_with fail
  refine (great_calls _ la w1 (hva.ext h1)).mono ?_
  rintro e w' ⟨rfl, b1, rfl, hg1⟩
  cases b1 with
  | true =>
    go_wp2_with fail
    go_ret
    exact ⟨rfl, h1⟩
  | false =>
  obtain ⟨ga1, ga2⟩ := hg1 rfl
  clear hg1
  go_wp2_with fail
  have HO : Pack w (w1.alloc (.cells #[.slice none 0 0, .bool false] TOut)) w1.heap.size none (.slice none 0 0) [] := ⟨OutAt.new w1 _ _, OwnG.nil _ _ _, h1.thenAlloc _, h1.size, fun _ h => (by cases h), fun _ h => (by cases h)⟩
  generalize w1.alloc (.cells #[.slice none 0 0, .bool false] TOut) = w2 at *
  generalize w1.heap.size = B at *
  clear h1
  go_loopw [5, 6, 7, 22] (fun vd _ _ i wr => ∃ (j : Nat) (r : Option Nat) (dn : List (OpD × Sl3)), j ≤ la.length ∧ i = .int .i64 (j : Int) ∧ dn.length ≤ j ∧ (catO dn).length ≤ 8 * j + total (la.take j) ∧ Pack w wr B r vd dn) (fun _ _ _ i _ => la.length - (intOf i).toNat)
  case atStart => exact ⟨0, none, [], Nat.zero_le _, rfl, by simp, by simp [catO], HO⟩
  case round =>
    obtain ⟨j, r, dn, hj, rfl, hdn, hcl, hO⟩ := hrel
    by_cases hlt : j < la.length
    · obtain ⟨o, ho⟩ : ∃ o, la[j]? = some o := ⟨_, List.getElem?_eq_getElem hlt⟩
      obtain ⟨_, ⟨hn0, hn1⟩, hv64, hbl, b, off, u, rfl, d0, d1, d2, d3, hu⟩ := hopa j o ho
      have hjw : (j : Int) < (la.length : Int) := by omega
      have hu0 := hu
      obtain ⟨au, capu, rfl, _⟩ := hu
      have hto := total_take ho
      have htl := total_take_le la (j + 1)
      have hlen1 : (catO dn).length ≤ 20800 := by omega
      have hlen2 : o.b.length ≤ 20000 := by omega
      have HL := Lib.hid (And.intro hto (And.intro hcl hdn))
      have hdn100 : dn.length ≤ 100 := by omega
      have kw : ∀ W, Ext w W → W.cell? ⟨b, off + j * 4, none⟩ = some (.int .i64 o.kind) ∧ W.cell? ⟨b, off + j * 4 + 1, none⟩ = some (.int .i64 o.n) ∧ W.cell? ⟨b, off + j * 4 + 2, none⟩ = some (.int .u64 (o.v : Int)) ∧ W.cell? ⟨b, off + j * 4 + 3, none⟩ = some (.slice au o.b.length capu) := fun W h => ⟨h.cell d0, h.cell d1, h.cell d2, h.cell d3⟩
      obtain ⟨vda, vdc, rfl⟩ := hO.o.slice
      clear d0 d1 d2 d3 ho hopa HO hva hto htl hcl hdn
      obtain ⟨y, hy⟩ : ∃ y : OpD × Sl3, y = (o, (au, o.b.length, capu)) := ⟨_, rfl⟩
      obtain ⟨e0, e1, e2, e3⟩ := kw _ hO.ext
      by_cases hk0 : o.kind = 0
      · have HK := Lib.hid hk0
        rw [hk0] at e0 kw
        clear hk0
        have hPn := OutI.new (w := wr)
        have hOp := hO.later (Ext.alloc wr (.cells #[.slice none 0 0, .bool false] TOut))
        have hBp := hO.ext.size
        obtain ⟨sp, hsp⟩ : ∃ sp, (stPut (some []) o.n o.v).isNone = sp := ⟨_, rfl⟩
        have HSP := Lib.hid hsp
        go_wp2_with fail
        generalize wr.alloc (.cells #[.slice none 0 0, .bool false] TOut) = wp at *
        generalize wr.heap.size = Bp at *
        clear e0 e1 e2 e3
        have k0 : ∀ W, TouchO Bp none wp.drew W → W.cell? ⟨b, off + j * 4, none⟩ = some (.int .i64 0) ∧ W.cell? ⟨b, off + j * 4 + 1, none⟩ = some (.int .i64 o.n) ∧ W.cell? ⟨b, off + j * 4 + 2, none⟩ = some (.int .u64 (o.v : Int)) ∧ W.cell? ⟨b, off + j * 4 + 3, none⟩ = some (.slice au o.b.length capu) := fun W h => kw W (hOp.ext.below.trans (((Ext.drew _).below.mono hOp.ext.size).trans (h.below hOp.ext.size hBp (fun g e => by cases e))))
        refine wp_region_chain (TouchO Bp none) Eq [(17, .known (.pointer (some ⟨Bp, 0, none⟩))), (18, .known (.bool sp))] [17, 18] (fun vs W' => (vs.length = 0 → OutI wr W' Bp none (some [])) ∧ (vs.length = 1 → ∃ r', OutI wr W' Bp r' (stPut (some []) o.n o.v)) ∧ (vs.length = 2 → ∃ r', OutI wr W' Bp r' (stPut (some []) o.n o.v))) (by kernel_rfl) (by kernel_rfl) (by kernel_rfl) (by kernel_rfl) (fun a b h => by rw [h]; exact TouchO.refl _ _ _) (fun _ _ _ h k => by rw [← h]; exact k) (TouchO.refl _ _) (fun _ _ _ h k => h.same k) ⟨fun _ => hPn.later (Ext.drew _), fun h => (by cases h), fun h => (by cases h)⟩ ?_
        intro σ
        simp only
        repeat (first | (refine cg_pure (x := ?_) rfl (by rfl) (fun W hW => ?_) ?_; rotate_left; (· obtain ⟨e0, e1, e2, e3⟩ := k0 W hW; go_simp; with_reducible rfl); simp only [Nat.reduceAdd, Act.put, List.setIfInBounds_toArray, List.set_cons_zero, List.set_cons_succ]) | (refine cg_skip rfl (by rfl) ?_; simp only [Nat.reduceAdd, Act.put, List.setIfInBounds_toArray, List.set_cons_zero, List.set_cons_succ]))
        refine cg_call 0 rfl rfl (by decide) rfl (by rfl) (fun W hW hF hS => ?_) ?_
        · have hT3 := hS.1 rfl
          go_simp
          refine (Put_calls Bp none (some []) o.n o.v W hT3.out hv64 (by simp [stAll])).mono ?_
          rintro e W' hP
          obtain ⟨rfl, r', hT4⟩ := hT3.turn hP
          obtain ⟨_, r2, _, h2, _⟩ := hP
          exact ⟨_, rfl, h2, rfl, r', hT4⟩
        simp only [Nat.reduceAdd, Act.put, List.setIfInBounds_toArray, List.set_cons_zero, List.set_cons_succ]
        refine cg_call 1 rfl rfl (by decide) rfl (by rfl) (fun W hW hF hS => ?_) ?_
        · obtain ⟨r', hT3⟩ := hS.2.1 rfl
          have hsp := HSP.out
          go_simp
          refine (Spoilt_calls Bp r' _ W hT3.out).mono ?_
          rintro e W' ⟨rfl, rfl⟩
          exact ⟨_, rfl, TouchO.refl _ _ _, by first | rw [hsp] | rfl, r', hT3⟩
        simp only [Nat.reduceAdd, Act.put, List.setIfInBounds_toArray, List.set_cons_zero, List.set_cons_succ]
        repeat (first | (refine cg_pure (x := ?_) rfl (by rfl) (fun W hW => ?_) ?_; rotate_left; (· obtain ⟨e0, e1, e2, e3⟩ := k0 W hW; go_simp; with_reducible rfl); simp only [Nat.reduceAdd, Act.put, List.setIfInBounds_toArray, List.set_cons_zero, List.set_cons_succ]) | (refine cg_skip rfl (by rfl) ?_; simp only [Nat.reduceAdd, Act.put, List.setIfInBounds_toArray, List.set_cons_zero, List.set_cons_succ]))
        refine cg_done rfl fun W3 hW hF hS => ?_
        obtain ⟨r', hT3⟩ := hS.2.2 rfl
        have hO3 := hO.later hT3.ext
        clear hF hS hW k0 hT3 hOp hPn hO
        obtain ⟨e0, e1, e2, e3⟩ := kw _ hO3.ext
        by_cases hfit : widthB o.n = true ∧ o.v < 256 ^ o.n.toNat
        · have hsf : sp = false := by have h := HSP.out; rw [stPut_ok (p := []) hfit.1 hfit.2] at h; simpa using h.symm
          subst hsf
          have hDo : DoneOk w y := by rw [hy]; exact ⟨⟨hn0, hn1⟩, hu0, hlen2, .inl ⟨HK.out, hfit⟩⟩
          have hput : stPut (some (catO dn)) o.n o.v = some (catO dn ++ opB y.1) := by rw [stPut_ok hfit.1 hfit.2, hy]; unfold opB; rw [if_pos HK.out]
          have HP := Lib.hid hput
          have HY := Lib.hid hy
          clear hput hfit hy HSP hsp
          go_wp2_with fail
          have k0 : ∀ W, TouchO B r W3.drew W → W.cell? ⟨b, off + j * 4, none⟩ = some (.int .i64 0) ∧ W.cell? ⟨b, off + j * 4 + 1, none⟩ = some (.int .i64 o.n) ∧ W.cell? ⟨b, off + j * 4 + 2, none⟩ = some (.int .u64 (o.v : Int)) ∧ W.cell? ⟨b, off + j * 4 + 3, none⟩ = some (.slice au o.b.length capu) := fun W h => kw W (hO3.ext.below.trans (((Ext.drew _).below.mono hO3.ext.size).trans (h.below hO3.ext.size hO3.g1 hO3.h1)))
          refine wp_region_rg2 (TouchO B r) Eq [(10, .last (fun _ W' => ∃ r', PackH w W' B r' (.slice vda dn.length vdc) dn y))] (by kernel_rfl) (by kernel_rfl) (by kernel_rfl) (fun a b h => by rw [h]; exact TouchO.refl _ _ _) (fun _ => rfl) (fun _ _ _ h k => h.trans k) (TouchO.refl _ _) (fun _ _ _ h k => h.same k) ?_
          intro σ
          simp only
          clear e0 e1 e2 e3
          repeat (first | (refine rg_pure (x := ?_) rfl (by rfl) (fun W hW => ?_) ?_; rotate_left; (· obtain ⟨e0, e1, e2, e3⟩ := k0 W hW; go_simp; with_reducible rfl); simp only [Nat.reduceAdd, Act.put, List.setIfInBounds_toArray, List.set_cons_zero, List.set_cons_succ]) | (refine rg_skip rfl (by rfl) ?_; simp only [Nat.reduceAdd, Act.put, List.setIfInBounds_toArray, List.set_cons_zero, List.set_cons_succ]))
          refine rg_last rfl (by rfl) (fun W hW hF => ?_) ?_
          · subst hW
            go_simp
            refine (Put_calls B r (some (catO dn)) o.n o.v _ (hO3.later (Ext.drew _)).a hv64 (by simp only [stAll, Option.getD_some]; omega)).mono ?_
            rintro e W' ⟨rfl, r', h1, h2, h3⟩
            rw [HP.out] at h1
            exact ⟨_, rfl, h2, r', (hO3.later (Ext.drew _)).turn h1 h2 h3 hDo⟩
          simp only [Nat.reduceAdd, Act.put, List.setIfInBounds_toArray, List.set_cons_zero, List.set_cons_succ]
          refine rg_done' fun W4 hW hF hL => ?_
          obtain ⟨r', hH⟩ := hL 10 _ rfl (by decide)
          clear hF hL hW k0 hO3
          obtain ⟨e0, e1, e2, e3⟩ := kw _ hH.ext
          go_wp2_with (at_builtin; refine wpList_append_G opSl (by decide) encO_len encO_one rfl _ _ rfl y (by rfl) (by rfl) (hH.o.alloc _) ?hx ?hl ?hl2 ?hb ?hk)
          case hx =>
            intro i u hi
            rw [HY.out] at hi
            have hi4 : i < 4 := (List.getElem?_eq_some_iff.1 hi).1
            match i, hi with
            | 0, hi => simp [encO, HK.out] at hi; subst hi; exact cell_new_mark _ _ _ (0, 0) 0
            | 1, hi => simp [encO] at hi; subst hi; exact cell_new_mark _ _ _ (0, 0) 1
            | 2, hi => simp [encO] at hi; subst hi; exact cell_new_mark _ _ _ (0, 0) 2
            | 3, hi => simp [encO, slV] at hi; subst hi; exact cell_new_mark _ _ _ (0, 0) 3
          case hl => omega
          case hl2 => omega
          case hb => exact Nat.le_trans hH.ext.size (by simp)
          case hk =>
          intro v' w' ho hg
          have hQ := (hH.later (Ext.alloc _ _)).close ho hg
          obtain ⟨vda', vdc', rfl⟩ := ho.slice
          have hbd := done_len hDo
          rw [HY.out] at hbd
          have hcs : (catO (dn ++ [y])).length = (catO dn).length + (opB y.1).length := by rw [cat_snoc]; simp
          rw [HY.out] at hcs
          have HC := Lib.hid (And.intro hbd hcs)
          clear ho hg hH e0 e1 e2 e3 hbd hcs
          obtain ⟨e0, e1, e2, e3⟩ := kw _ hQ.ext
          go_wp2_with fail
          go_roundw
          case rel =>
            refine ⟨j + 1, r', dn ++ [y], by omega, by go_num, by have := HL.out; simp; omega, ?_, hQ⟩
            have h1 := HL.out
            have h2 := HC.out
            have h3 := HY.out
            rw [h3]
            try simp only at h2
            have h4 : (opB o).length ≤ 8 := by
              rcases hDo.2.2.2 with ⟨z0, z1, z2⟩ | ⟨z0, z1⟩
              · rw [h3] at z0 z1; unfold opB; rw [if_pos z0, beB_len]; unfold widthB at z1; simp at z1; omega
              · rw [h3] at z0; have := HK.out; simp only at z0; omega
            omega
          case measure => simp [intOf]; omega
        · have hsf : sp = true := by have h := HSP.out; rw [stPut_bad hfit] at h; simpa using h.symm
          subst hsf
          clear hfit HSP hsp hy
          go_wp2_with fail
          go_roundw
          case rel => exact ⟨j + 1, r, dn, by omega, by go_num, by have := HL.out; omega, by have := HL.out; omega, hO3⟩
          case measure => simp [intOf]; omega
      · have n0 : (o.kind == 0) = false := by simpa using hk0
        by_cases hk1 : o.kind = 1
        · have HK := Lib.hid hk1
          have hO' := hO
          rw [hk1] at e0 kw n0
          clear hk0 hk1 hO' n0
          by_cases hb0 : 0 < o.b.length
          · have hdd : decide ((0 : Int) < (o.b.length : Int)) = true := decide_eq_true (by omega)
            have hDo : DoneOk w y := by rw [hy]; exact ⟨⟨hn0, hn1⟩, hu0, hlen2, .inr ⟨HK.out, fun e => by rw [e] at hb0; simp at hb0⟩⟩
            have hopb : opB y.1 = o.b := by rw [hy]; unfold opB; rw [if_neg (by have := HK.out; simp only; omega)]
            have HB := Lib.hid hopb
            have HY := Lib.hid hy
            clear hopb hy
            go_wp2_with fail
            have k0 : ∀ W, Ext (wr.alloc (.cells #[.slice none 0 0, .bool false] TOut)).drew W → W.cell? ⟨b, off + j * 4, none⟩ = some (.int .i64 1) ∧ W.cell? ⟨b, off + j * 4 + 1, none⟩ = some (.int .i64 o.n) ∧ W.cell? ⟨b, off + j * 4 + 2, none⟩ = some (.int .u64 (o.v : Int)) ∧ W.cell? ⟨b, off + j * 4 + 3, none⟩ = some (.slice au o.b.length capu) := fun W h => kw W ((hO.ext.trans (Ext.alloc wr _)).trans (Ext.of_drew h))
            refine wp_region_rg Ext [] (by kernel_rfl) (by kernel_rfl) (by kernel_rfl) Ext.refl (fun _ _ _ => Ext.trans) ?_
            intro σ
            simp only
            repeat (first | (refine rg_pure (x := ?_) rfl (by rfl) (fun W hW => ?_) ?_; rotate_left; (· obtain ⟨e0, e1, e2, e3⟩ := k0 W hW; go_simp; with_reducible rfl); simp only [Nat.reduceAdd, Act.put, List.setIfInBounds_toArray, List.set_cons_zero, List.set_cons_succ]) | (refine rg_skip rfl (by rfl) ?_; simp only [Nat.reduceAdd, Act.put, List.setIfInBounds_toArray, List.set_cons_zero, List.set_cons_succ]))
            refine rg_done fun W3 hW hF => ?_
            have hO3 := (hO.later (Ext.alloc wr _)).later (Ext.of_drew hW)
            clear hF hW k0 hO e0 e1 e2 e3
            obtain ⟨e0, e1, e2, e3⟩ := kw _ hO3.ext
            go_wp2_with fail
            refine (Tail_calls B r (some (catO dn)) _ o.b W3 hO3.a (hu0.ext hO3.ext) (by simp only [stAll, Option.getD_some]; omega)).mono ?_
            rintro e W4 ⟨rfl, r', h1, h2, h3⟩
            rw [show stTail (some (catO dn)) o.b = some (catO dn ++ o.b) from rfl, ← HB.out] at h1
            have hH := hO3.turn h1 h2 h3 hDo
            clear h1 h2 h3 hO3 e0 e1 e2 e3 hdd
            obtain ⟨e0, e1, e2, e3⟩ := kw _ hH.ext
            go_wp2_with (at_builtin; refine wpList_append_G opSl (by decide) encO_len encO_one rfl _ _ rfl y (by rfl) (by rfl) (hH.o.alloc _) ?hx ?hl ?hl2 ?hb ?hk)
            case hx =>
              intro i u hi
              rw [HY.out] at hi
              have hi4 : i < 4 := (List.getElem?_eq_some_iff.1 hi).1
              match i, hi with
              | 0, hi => simp [encO, HK.out] at hi; subst hi; exact cell_new_mark _ _ _ (0, 0) 0
              | 1, hi => simp [encO] at hi; subst hi; exact cell_new_mark _ _ _ (0, 0) 1
              | 2, hi => simp [encO] at hi; subst hi; exact cell_new_mark _ _ _ (0, 0) 2
              | 3, hi => simp [encO, slV] at hi; subst hi; exact cell_new_mark _ _ _ (0, 0) 3
            case hl => omega
            case hl2 => omega
            case hb => exact Nat.le_trans hH.ext.size (by simp)
            case hk =>
            intro v' w' ho hg
            have hQ := (hH.later (Ext.alloc _ _)).close ho hg
            obtain ⟨vda', vdc', rfl⟩ := ho.slice
            have hbd := done_len hDo
            rw [HY.out] at hbd
            have hcs : (catO (dn ++ [y])).length = (catO dn).length + (opB y.1).length := by rw [cat_snoc]; simp
            rw [HY.out] at hcs
            have HC := Lib.hid (And.intro hbd hcs)
            clear ho hg hH e0 e1 e2 e3 hbd hcs
            obtain ⟨e0, e1, e2, e3⟩ := kw _ hQ.ext
            go_wp2_with fail
            go_roundw
            case rel =>
              refine ⟨j + 1, r', dn ++ [y], by omega, by go_num, by have := HL.out; simp; omega, ?_, hQ⟩
              have h1 := HL.out
              have h2 := HC.out
              have h3 := HY.out
              rw [h3]
              try simp only at h2
              have h4 : opB o = o.b := by have := HB.out; rw [h3] at this; exact this
              rw [h4] at h2
              omega
            case measure => simp [intOf]; omega
          · have hdd : decide ((0 : Int) < (o.b.length : Int)) = false := decide_eq_false (by omega)
            clear hy
            go_wp2_with fail
            have k0 : ∀ W, Ext (wr.alloc (.cells #[.slice none 0 0, .bool false] TOut)).drew W → W.cell? ⟨b, off + j * 4, none⟩ = some (.int .i64 1) ∧ W.cell? ⟨b, off + j * 4 + 1, none⟩ = some (.int .i64 o.n) ∧ W.cell? ⟨b, off + j * 4 + 2, none⟩ = some (.int .u64 (o.v : Int)) ∧ W.cell? ⟨b, off + j * 4 + 3, none⟩ = some (.slice au o.b.length capu) := fun W h => kw W ((hO.ext.trans (Ext.alloc wr _)).trans (Ext.of_drew h))
            refine wp_region_rg Ext [] (by kernel_rfl) (by kernel_rfl) (by kernel_rfl) Ext.refl (fun _ _ _ => Ext.trans) ?_
            intro σ
            simp only
            repeat (first | (refine rg_pure (x := ?_) rfl (by rfl) (fun W hW => ?_) ?_; rotate_left; (· obtain ⟨e0, e1, e2, e3⟩ := k0 W hW; go_simp; with_reducible rfl); simp only [Nat.reduceAdd, Act.put, List.setIfInBounds_toArray, List.set_cons_zero, List.set_cons_succ]) | (refine rg_skip rfl (by rfl) ?_; simp only [Nat.reduceAdd, Act.put, List.setIfInBounds_toArray, List.set_cons_zero, List.set_cons_succ]))
            refine rg_done fun W3 hW hF => ?_
            have hO3 := (hO.later (Ext.alloc wr _)).later (Ext.of_drew hW)
            clear hF hW k0 hO e0 e1 e2 e3
            obtain ⟨e0, e1, e2, e3⟩ := kw _ hO3.ext
            go_wp2_with fail
            go_roundw
            case rel => exact ⟨j + 1, r, dn, by omega, by go_num, by have := HL.out; omega, by have := HL.out; omega, hO3⟩
            case measure => simp [intOf]; omega
        · have n1 : (o.kind == 1) = false := by simpa using hk1
          clear hk0 hk1 hy
          go_wp2_with fail
          have k0 : ∀ W, Ext (wr.alloc (.cells #[.slice none 0 0, .bool false] TOut)).drew W → W.cell? ⟨b, off + j * 4, none⟩ = some (.int .i64 o.kind) ∧ W.cell? ⟨b, off + j * 4 + 1, none⟩ = some (.int .i64 o.n) ∧ W.cell? ⟨b, off + j * 4 + 2, none⟩ = some (.int .u64 (o.v : Int)) ∧ W.cell? ⟨b, off + j * 4 + 3, none⟩ = some (.slice au o.b.length capu) := fun W h => kw W ((hO.ext.trans (Ext.alloc wr _)).trans (Ext.of_drew h))
          refine wp_region_rg Ext [] (by kernel_rfl) (by kernel_rfl) (by kernel_rfl) Ext.refl (fun _ _ _ => Ext.trans) ?_
          intro σ
          simp only
          repeat (first | (refine rg_pure (x := ?_) rfl (by rfl) (fun W hW => ?_) ?_; rotate_left; (· obtain ⟨e0, e1, e2, e3⟩ := k0 W hW; go_simp; with_reducible rfl); simp only [Nat.reduceAdd, Act.put, List.setIfInBounds_toArray, List.set_cons_zero, List.set_cons_succ]) | (refine rg_skip rfl (by rfl) ?_; simp only [Nat.reduceAdd, Act.put, List.setIfInBounds_toArray, List.set_cons_zero, List.set_cons_succ]))
          refine rg_done fun W3 hW hF => ?_
          have hO3 := (hO.later (Ext.alloc wr _)).later (Ext.of_drew hW)
          clear hF hW k0 hO e0 e1 e2 e3
          obtain ⟨e0, e1, e2, e3⟩ := kw _ hO3.ext
          go_wp2_with fail
          go_roundw
          case rel => exact ⟨j + 1, r, dn, by omega, by go_num, by have := HL.out; omega, by have := HL.out; omega, hO3⟩
          case measure => simp [intOf]; omega
    · have hjl : j = la.length := by omega
      subst hjl
      rw [List.take_length] at hcl
      have hlen1 : (catO dn).length ≤ 20800 := by omega
      clear hopa HO hva hcl
      obtain ⟨vda, vdc, rfl⟩ := hO.o.slice
      have hdl : dn.length ≤ 100 := by omega
      go_wp2_with fail
      refine (All_calls B r (some (catO dn)) _ hO.a (by simp only [stAll, Option.getD_some]; omega)).mono ?_
      rintro e w3 ⟨v3, rfl, hv3, hx3⟩
      have hb3 := hv3.bys (by unfold maxLen; simp only [stAll, Option.getD_some]; omega)
      rw [show stAll (some (catO dn)) = catO dn from rfl] at hb3
      replace hO := hO.later hx3
      obtain ⟨a3, c3, rfl⟩ := hv3.slice
      rw [show stAll (some (catO dn)) = catO dn from rfl] at hb3 ⊢
      clear hv3 hx3
      go_wp2_with fail
      refine (From_calls _ (catO dn) w3 hb3 (by omega)).mono ?_
      rintro e w4 ⟨Bx, rfl, hBx, hin, hx4⟩
      clear hb3
      go_wp2_with fail
      go_loopw [10, 97] (fun _ i wr => ∃ (j : Nat), j ≤ dn.length ∧ i = .int .i64 (j : Int) ∧ InAt wr TIn Bx (some (catO (dn.drop j))) ∧ Ext w3 wr) (fun _ i _ => dn.length - (intOf i).toNat)
      case atStart => exact ⟨0, Nat.zero_le _, rfl, hin, hx4⟩
      case round =>
        clear hin hx4
        obtain ⟨j, hj, rfl, hin, hE⟩ := hrel
        by_cases hlt : j < dn.length
        · have hjw : (j : Int) < (dn.length : Int) := by omega
          obtain ⟨y, hy⟩ := get_some hlt
          obtain ⟨g, cap, hv, -, -⟩ := hO.o.there (by intro e; rw [e] at hlt; simp at hlt)
          simp only [Value.slice.injEq] at hv
          obtain ⟨rfl, -, rfl⟩ := hv
          have hc := fun k u (hk : (encO y)[k]? = some u) => (OwnG.cell encO_len (hO.o.ext hE) hy hk).2.2
          have hDo := hO.ok y (List.mem_of_getElem? hy)
          have hne := opB_ne hDo
          have hcd := cat_drop hy
          rw [hcd] at hin
          obtain ⟨o, au, al, capu⟩ := y
          simp only at hne hin hcd
          obtain ⟨⟨hn0, hn1⟩, hu0, hlen2, hkk⟩ := hDo
          simp only at hn0 hn1 hu0 hlen2 hkk
          have e0 := hc 0 _ rfl
          have e1 := hc 1 _ rfl
          have e2 := hc 2 _ rfl
          have e3 := hc 3 _ rfl
          simp only [Nat.add_zero, slV] at e0 e1 e2 e3
          have hal : al = o.b.length := by obtain ⟨a', c', h1, _⟩ := hu0; simp [slV] at h1; exact h1.2.1
          subst hal
          unfold slV at hu0
          simp only at hu0 e0 e1 e2 e3
          have hrest : (catO (dn.drop (j + 1))).length ≤ 20800 := by
            have h1 := congrArg List.length (List.take_append_drop (j + 1) dn)
            have h2 : (catO dn).length = (catO (dn.take (j + 1))).length + (catO (dn.drop (j + 1))).length := by
              conv => lhs; rw [← List.take_append_drop (j + 1) dn]
              unfold catO; rw [List.flatMap_append, List.length_append]
            omega
          obtain ⟨rest, hrs⟩ : ∃ z, catO (dn.drop (j + 1)) = z := ⟨_, rfl⟩
          rw [hrs] at hin hrest
          have HR := Lib.hid hrs
          clear hc hcd hy hrs
          have hB3 := hO.ext.size
          rcases hkk with ⟨hk0, hw0, hv0⟩ | ⟨hk1, hb1⟩
          · have hob : opB o = beB o.n.toNat o.v := by unfold opB; rw [if_pos hk0]
            have hgw : getW o.n = o.n := by unfold getW; rw [hw0]; rfl
            have hol : o.n = ((opB o).length : Int) := by
              rw [hob, beB_len]
              have := hw0
              unfold widthB at this; simp at this; omega
            have hG := fun W h => Get_calls Bx (some (opB o ++ rest)) o.n W h hn0 hn1
            rw [hgw, take_app _ _ _ hol] at hG
            unfold GetPost at hG
            simp only [hob, numB_beB' _ _ hv0] at hG
            rw [hk0] at e0
            have hd : (some (opB o ++ rest) == some []) = false := by cases h : opB o with
              | nil => exact absurd h hne
              | cons c l => rfl
            rw [hob] at hd hin
            have hD := fun W => Done_calls Bx (some (beB o.n.toNat o.v ++ rest)) W
            rw [hd] at hD
            clear hob hgw hol hne hd hw0 hv0 hk0
            generalize beB o.n.toNat o.v = z at *
            go_wp2_with fail
            refine (hD _ (hin.ext (Ext.alloc _ _))).mono ?_
            rintro e w' ⟨rfl, rfl⟩
            have c0 : (wr.alloc (.cells #[.int .i64 0, .int .i64 o.n, .int .u64 (o.v : Int), .slice au o.b.length capu] TOp)).cell? ⟨wr.heap.size, 0, none⟩ = some (.int .i64 0) := cell_new_mark wr _ _ (0, 0) 0
            have c1 : (wr.alloc (.cells #[.int .i64 0, .int .i64 o.n, .int .u64 (o.v : Int), .slice au o.b.length capu] TOp)).cell? ⟨wr.heap.size, 1, none⟩ = some (.int .i64 o.n) := cell_new_mark wr _ _ (0, 0) 1
            have c2 : (wr.alloc (.cells #[.int .i64 0, .int .i64 o.n, .int .u64 (o.v : Int), .slice au o.b.length capu] TOp)).cell? ⟨wr.heap.size, 2, none⟩ = some (.int .u64 (o.v : Int)) := cell_new_mark wr _ _ (0, 0) 2
            have c3 : (wr.alloc (.cells #[.int .i64 0, .int .i64 o.n, .int .u64 (o.v : Int), .slice au o.b.length capu] TOp)).cell? ⟨wr.heap.size, 3, none⟩ = some (.slice au o.b.length capu) := cell_new_mark wr _ _ (0, 0) 3
            have hinY := hin.ext (Ext.alloc wr (.cells #[.int .i64 0, .int .i64 o.n, .int .u64 (o.v : Int), .slice au o.b.length capu] TOp))
            have hEY := hE.thenAlloc (.cells #[.int .i64 0, .int .i64 o.n, .int .u64 (o.v : Int), .slice au o.b.length capu] TOp)
            have hBy : wr.heap.size ≠ Bx := by have := hin.lt; omega
            clear e0 e1 e2 e3 hin hE
            generalize wr.alloc (.cells #[.int .i64 0, .int .i64 o.n, .int .u64 (o.v : Int), .slice au o.b.length capu] TOp) = wy at *
            generalize wr.heap.size = By at *
            have k0 : ∀ W, TouchO Bx none wy.drew W → W.cell? ⟨By, 0, none⟩ = some (.int .i64 0) ∧ W.cell? ⟨By, 1, none⟩ = some (.int .i64 o.n) ∧ W.cell? ⟨By, 2, none⟩ = some (.int .u64 (o.v : Int)) ∧ W.cell? ⟨By, 3, none⟩ = some (.slice au o.b.length capu) := fun W h => ⟨h.cell c0 hBy (by simp), h.cell c1 hBy (by simp), h.cell c2 hBy (by simp), h.cell c3 hBy (by simp)⟩
            have hEW : ∀ W, TouchO Bx none wy.drew W → Ext w3 W := fun W h => hEY.below.trans (((Ext.drew _).below.mono hEY.size).trans (h.below hEY.size hBx (fun g e => by cases e)))
            go_wp2_with fail
            refine wp_region_chain (TouchO Bx none) Eq [(7, .known (.int .u64 (o.v : Int)))] [7] (fun vs W' => (vs.length = 0 → InAt W' TIn Bx (some (z ++ rest))) ∧ (vs.length = 1 → InAt W' TIn Bx (some rest))) (by kernel_rfl) (by kernel_rfl) (by kernel_rfl) (by kernel_rfl) (fun a b h => by rw [h]; exact TouchO.refl _ _ _) (fun _ _ _ h k => by rw [← h]; exact k) (TouchO.refl _ _) (fun _ _ _ h k => h.same k) ⟨fun _ => hinY.ext (Ext.drew _), fun h => (by cases h)⟩ ?_
            intro σ
            simp only
            repeat (first | (refine cg_pure (x := ?_) rfl (by rfl) (fun W hW => ?_) ?_; rotate_left; (· obtain ⟨e0, e1, e2, e3⟩ := k0 W hW; go_simp; with_reducible rfl); simp only [Nat.reduceAdd, Act.put, List.setIfInBounds_toArray, List.set_cons_zero, List.set_cons_succ]) | (refine cg_skip rfl (by rfl) ?_; simp only [Nat.reduceAdd, Act.put, List.setIfInBounds_toArray, List.set_cons_zero, List.set_cons_succ]))
            refine cg_call 0 rfl rfl (by decide) rfl (by rfl) (fun W hW hF hS => ?_) ?_
            · have hT3 := hS.1 rfl
              go_simp
              refine (hG W hT3).mono ?_
              rintro e W' ⟨rfl, h1, h2⟩
              exact ⟨_, rfl, h2, rfl, h1⟩
            simp only [Nat.reduceAdd, Act.put, List.setIfInBounds_toArray, List.set_cons_zero, List.set_cons_succ]
            repeat (first | (refine cg_pure (x := ?_) rfl (by rfl) (fun W hW => ?_) ?_; rotate_left; (· obtain ⟨e0, e1, e2, e3⟩ := k0 W hW; go_simp; with_reducible rfl); simp only [Nat.reduceAdd, Act.put, List.setIfInBounds_toArray, List.set_cons_zero, List.set_cons_succ]) | (refine cg_skip rfl (by rfl) ?_; simp only [Nat.reduceAdd, Act.put, List.setIfInBounds_toArray, List.set_cons_zero, List.set_cons_succ]))
            refine cg_done rfl fun W3 hW hF hS => ?_
            have hin3 := hS.2 rfl
            have hE3 := hEW _ hW
            clear hF hS hW k0 hEY hinY hG hD c0 c1 c2 c3 hEW
            go_wp2_with fail
            go_roundw
            case rel => exact ⟨j + 1, by omega, by go_num, by rw [HR.out]; exact hin3, hE3⟩
            case measure => simp [intOf]; omega
          · have hob : opB o = o.b := by unfold opB; rw [if_neg (by omega)]
            rw [hob] at hin hne
            have hG := fun W h => Take_calls Bx (some (o.b ++ rest)) (o.b.length : Int) W h (by omega) (by omega) (by simp only [stAll, Option.getD_some, List.length_append]; omega)
            rw [take_app _ _ _ rfl] at hG
            unfold TakePost at hG
            simp only at hG
            rw [hk1] at e0
            have hd : (some (o.b ++ rest) == some []) = false := by cases h : o.b with
              | nil => exact absurd h hne
              | cons c l => rfl
            have hD := fun W => Done_calls Bx (some (o.b ++ rest)) W
            rw [hd] at hD
            clear hob hne hd hk1 hb1
            go_wp2_with fail
            refine (hD _ (hin.ext (Ext.alloc _ _))).mono ?_
            rintro e w' ⟨rfl, rfl⟩
            have c0 : (wr.alloc (.cells #[.int .i64 1, .int .i64 o.n, .int .u64 (o.v : Int), .slice au o.b.length capu] TOp)).cell? ⟨wr.heap.size, 0, none⟩ = some (.int .i64 1) := cell_new_mark wr _ _ (0, 0) 0
            have c1 : (wr.alloc (.cells #[.int .i64 1, .int .i64 o.n, .int .u64 (o.v : Int), .slice au o.b.length capu] TOp)).cell? ⟨wr.heap.size, 1, none⟩ = some (.int .i64 o.n) := cell_new_mark wr _ _ (0, 0) 1
            have c2 : (wr.alloc (.cells #[.int .i64 1, .int .i64 o.n, .int .u64 (o.v : Int), .slice au o.b.length capu] TOp)).cell? ⟨wr.heap.size, 2, none⟩ = some (.int .u64 (o.v : Int)) := cell_new_mark wr _ _ (0, 0) 2
            have c3 : (wr.alloc (.cells #[.int .i64 1, .int .i64 o.n, .int .u64 (o.v : Int), .slice au o.b.length capu] TOp)).cell? ⟨wr.heap.size, 3, none⟩ = some (.slice au o.b.length capu) := cell_new_mark wr _ _ (0, 0) 3
            have hinY := hin.ext (Ext.alloc wr (.cells #[.int .i64 1, .int .i64 o.n, .int .u64 (o.v : Int), .slice au o.b.length capu] TOp))
            have hEY := hE.thenAlloc (.cells #[.int .i64 1, .int .i64 o.n, .int .u64 (o.v : Int), .slice au o.b.length capu] TOp)
            have hBy : wr.heap.size ≠ Bx := by have := hin.lt; omega
            clear e0 e1 e2 e3 hin hE
            generalize wr.alloc (.cells #[.int .i64 1, .int .i64 o.n, .int .u64 (o.v : Int), .slice au o.b.length capu] TOp) = wy at *
            generalize wr.heap.size = By at *
            have k0 : ∀ W, TouchO Bx none wy.drew W → W.cell? ⟨By, 0, none⟩ = some (.int .i64 1) ∧ W.cell? ⟨By, 1, none⟩ = some (.int .i64 o.n) ∧ W.cell? ⟨By, 2, none⟩ = some (.int .u64 (o.v : Int)) ∧ W.cell? ⟨By, 3, none⟩ = some (.slice au o.b.length capu) := fun W h => ⟨h.cell c0 hBy (by simp), h.cell c1 hBy (by simp), h.cell c2 hBy (by simp), h.cell c3 hBy (by simp)⟩
            have hEW : ∀ W, TouchO Bx none wy.drew W → Ext w3 W := fun W h => hEY.below.trans (((Ext.drew _).below.mono hEY.size).trans (h.below hEY.size hBx (fun g e => by cases e)))
            have k1 : ∀ W, TouchO Bx none wy.drew W → (convert 24 9 (.slice au o.b.length capu)).run Try.prog W = .ok (.string (strB o.b)) W := fun W h => ks W _ _ (hu0.ext (hO.ext.trans (hEW W h)))
            have hks2 := fun W v (h : Bys W v o.b) => ks W v o.b h
            obtain ⟨So, hSo⟩ : ∃ z, strB o.b = z := ⟨_, rfl⟩
            rw [hSo] at k1
            go_wp2_with fail
            refine wp_region_chain (TouchO Bx none) Eq [(21, .unk (fun v W => OwnB W w.heap.size TB v o.b ∧ v.ownBlock ≠ some Bx) (fun v W W' t h => ⟨own_touch t h.1 h.2 (by cases v.ownBlock <;> simp), h.2⟩)), (22, .known (.string So))] [21] (fun vs W' => (vs.length = 0 → InAt W' TIn Bx (some (o.b ++ rest))) ∧ (vs.length = 1 → InAt W' TIn Bx (some rest))) (by kernel_rfl) (by kernel_rfl) (by kernel_rfl) (by kernel_rfl) (fun a b h => by rw [h]; exact TouchO.refl _ _ _) (fun _ _ _ h k => by rw [← h]; exact k) (TouchO.refl _ _) (fun _ _ _ h k => h.same k) ⟨fun _ => hinY.ext (Ext.drew _), fun h => (by cases h)⟩ ?_
            intro σ
            simp only
            repeat (first | (refine cg_pure (x := ?_) rfl (by rfl) (fun W hW => ?_) ?_; rotate_left; (· obtain ⟨e0, e1, e2, e3⟩ := k0 W hW; have f0 := k1 W hW; go_simp; with_reducible rfl); simp only [Nat.reduceAdd, Act.put, List.setIfInBounds_toArray, List.set_cons_zero, List.set_cons_succ]) | (refine cg_skip rfl (by rfl) ?_; simp only [Nat.reduceAdd, Act.put, List.setIfInBounds_toArray, List.set_cons_zero, List.set_cons_succ]))
            refine cg_call' 0 rfl rfl (by decide) rfl (by rfl) (fun W hW hF hS => ?_) ?_
            · have hT3 := hS.1 rfl
              have hwl : w.heap.size ≤ W.heap.size := Nat.le_trans hO.ext.size (hEW W hW).size
              go_simp
              refine (hG W hT3).mono ?_
              rintro e W' ⟨u, rfl, h0, h1, h2⟩
              have hbr := hT3.lt
              exact ⟨_, rfl, h2, ⟨h0.mono hwl, fun e => by have := h0.lt _ e; omega⟩, h1⟩
            simp only [Nat.reduceAdd, Act.put, List.setIfInBounds_toArray, List.set_cons_zero, List.set_cons_succ]
            refine cg_known rfl (by rfl) (by rfl) (fun W hW hF hS => ?_) ?_
            · have k2 := ks W _ _ ((hF 21 _ _ rfl (by kernel_rfl)).1.bys (by unfold maxLen; omega))
              rw [hSo] at k2
              go_simp
              exact ⟨rfl, rfl⟩
            simp only [Nat.reduceAdd, Act.put, List.setIfInBounds_toArray, List.set_cons_zero, List.set_cons_succ]
            repeat (first | (refine cg_pure (x := ?_) rfl (by rfl) (fun W hW => ?_) ?_; rotate_left; (· obtain ⟨e0, e1, e2, e3⟩ := k0 W hW; have f0 := k1 W hW; go_simp; with_reducible rfl); simp only [Nat.reduceAdd, Act.put, List.setIfInBounds_toArray, List.set_cons_zero, List.set_cons_succ]) | (refine cg_skip rfl (by rfl) ?_; simp only [Nat.reduceAdd, Act.put, List.setIfInBounds_toArray, List.set_cons_zero, List.set_cons_succ]))
            refine cg_done rfl fun W3 hW hF hS => ?_
            have hin3 := hS.2 rfl
            have hE3 := hEW _ hW
            clear hF hS hW k0 k1 hEY hinY hG hD c0 c1 c2 c3 hEW hks2 hSo
            go_wp2_with fail
            go_roundw
            case rel => exact ⟨j + 1, by omega, by go_num, by rw [HR.out]; exact hin3, hE3⟩
            case measure => simp [intOf]; omega
        · have hjl : j = dn.length := by omega
          subst hjl
          rw [List.drop_length] at hin
          have hin : InAt wr TIn Bx (some []) := hin
          have hw3 := hO.ext
          have hBx' : w.heap.size ≤ Bx := Nat.le_trans hw3.size hBx
          go_wp2_with fail
          refine (Done_calls Bx (some []) _ hin).mono ?_
          rintro e w' ⟨rfl, rfl⟩
          rw [show ((some ([] : List UInt8)) == some []) = true from rfl]
          go_wp2_with fail
          refine (Take_calls Bx (some []) 1 _ hin (by decide) (by decide) (by decide)).mono ?_
          rintro e w5 ⟨u, rfl, hu, hin5, ht5⟩
          rw [show (inTake (some ([] : List UInt8)) 1).2 = none from rfl] at hin5
          have hO5 := hO.later hE
          have hE5 : Ext w3 w5 := hE.below.trans (ht5.below hE.size hBx (fun g h => by cases h))
          have hO6 := hO.later hE5
          obtain ⟨ua, uc, rfl⟩ := hu.slice
          clear hu ht5 hin
          go_wp2_with fail
          refine (InSpoilt_calls Bx none _ hin5).mono ?_
          rintro e w' ⟨rfl, rfl⟩
          rw [show (none : Option (List UInt8)).isNone = true from rfl]
          go_wp2_with fail
          refine (Spoilt_calls B r _ _ hO6.a).mono ?_
          rintro e w' ⟨rfl, rfl⟩
          rw [show (some (catO dn)).isNone = false from rfl]
          go_wp2_with fail
          go_ret
          exact ⟨rfl, hO6.ext⟩
end Go.Proofs.Ytolmcdimhnnpaaa.VOct
