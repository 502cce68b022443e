/- CrcSeals: the walk. -/
import Derived.Test.YtlliemaohejpbaaVCrcRefSeal
import Derived.Test.YtlliemaohejpbaaVSet
namespace Go.Proofs.Ytlliemaohejpbaa.VCrc
open Go.RowKit Go.VBase Go.VCrc Go.VOct Go.VRg VOct

theorem bys_set {w : World} {v : Value} {l : List UInt8} (h : Bys w v l) (g i : Nat) (u : Value) (hc : ∀ a len cap, v = .slice (some a) len cap → a.block ≠ g) : Bys (w.setCell ⟨g, i, none⟩ u) v l :=
  VOct.bys_touch (TouchO.of_setCell (r := none) w i u) h (fun _ a len cap e => ⟨hc a len cap e, by simp⟩)
theorem strB_snoc (l : List UInt8) (c : UInt8) : strB l ++ (⟨#[c]⟩ : ByteArray) = strB (l ++ [c]) := by
  unfold strB
  apply ByteArray.ext
  simp [ByteArray.data_append]

set_option maxRecDepth 100000 in
set_option maxHeartbeats 4000000 in
theorem Seals_any (v : Value) (l : List UInt8) (w : World) (hb : Bys w v l) :
    Calls Try.prog 7 #[v] w fun e w' => e = .returned (.bool true) ∧ Ext w w' := by
  have ks := fun (W : World) (v : Value) (l : List UInt8) (h : Bys W v l) => run_string_bys (P := Try.prog) Try.underlying22 Try.underlying5 Try.underlying9 h
  have hb' := hb
  obtain ⟨a, cap, rfl, _, _, _⟩ := hb'
  by_cases hl : 5000 < l.length
  · have hd : decide (5000 < (l.length : Int)) = true := decide_eq_true (by omega)
    clear hl ks
    go_enter Try.func7, Try.ntmps7
    go_wp2_with fail
    go_ret
    exact ⟨rfl, Ext.refl _⟩
  have hd : decide (5000 < (l.length : Int)) = false := decide_eq_false (by omega)
  have hll : l.length ≤ 5000 := by omega
  clear hl
  have kS := fun v w h => Seal_calls v l w h (by omega)
  have kO := fun v w h => Open_calls v l w h (by omega)
  have kR := fun v w h => refSeal_calls v l w h (by omega)
  have kP := fun v w h => refOpen_calls v l w h (by omega)
  unfold MadeB at kS kR
  unfold OpenPost at kO kP
  have hsl : (sealB l).length ≤ 5003 := by unfold sealB; rw [List.length_append, beB_len]; omega
  have hol : ((openB l).getD []).length ≤ 5000 := by
    unfold openB
    split
    · simp only [Option.getD_some]; rw [List.length_take]; omega
    · simp
  generalize sealB l = X at *
  generalize (openB l).getD [] = Y at *
  generalize (if (openB l).isSome = true then (0 : Int) else 20) = ne at *
  go_enter Try.func7, Try.ntmps7
  go_wp2_with fail
  refine (VRef01.Twin_calls _ l _ hb (by omega)).mono ?_
  rintro e w1 ⟨u0, rfl, hu0, h1⟩
  obtain ⟨a0, cap0, rfl⟩ := hu0.slice
  have hlow := hu0.lt
  go_wp2_with (at_builtin; go_loud (refine wpList_append_B byteSl rfl _ _ rfl (by rfl) (by rfl) (hu0.alloc _) (bys_new [7] rfl rfl rfl (by simp [maxLen])) ?hl ?hb ?hk))
  case hl => simp only [List.length_cons, List.length_nil]; omega
  case hb => have := h1.size; simp; omega
  case hk =>
  intro own w2 hown hg2 hrow2
  have hw2 : Ext w w2 := Below.trans (h1.thenAlloc _) (grown_below hg2 (Nat.le_trans h1.size (by simp)) hlow)
  have hob := hown.bys (by simp [maxLen]; omega)
  have holt : ∀ a len cap, own = .slice (some a) len cap → a.block < w2.heap.size := fun a len cap h => (OwnB.head hown h).2
  obtain ⟨ao, co, rfl⟩ := hown.slice
  have hoc : l.length + 1 ≤ co := by
    obtain ⟨_, _, e, h, _⟩ := hob
    cases e
    simpa using h
  have hot := hob.take (i := l.length) (by simp)
  rw [List.take_left' rfl] at hot
  have hoci : (l.length : Int) ≤ (co : Int) := by omega
  clear hown hg2 hrow2 hlow hu0 h1
  go_wp2_with fail
  refine (kS _ _ hot).mono ?_
  rintro e w3 ⟨us, rfl, hs, h3⟩
  have hot3 := hot.ext h3
  have hob3 := hob.ext h3
  have hw3 := hw2.trans h3
  have hslt : ∀ k, us.ownBlock = some k → k < w3.heap.size := fun k hk => (World.ownsRow.lt hs k hk).2
  have hz2 := hw2.size
  have hz3 := h3.size
  clear hot hob h3 hw2 kS
  obtain ⟨aS, cs, rfl⟩ := hs.slice
  go_wp2_with fail
  refine (kO _ _ hot3).mono ?_
  rintro e w4 ⟨ux, rfl, hx, h4⟩
  have hob4 := hob3.ext h4
  have hs4 := hs.ext h4
  have hw4 := hw3.trans h4
  clear hot3 hob3 hs h4 hw3 kO
  obtain ⟨ax, cx, rfl⟩ := hx.slice
  go_wp2_with fail
  refine (kP _ _ (hb.ext hw4)).mono ?_
  rintro e w5 ⟨uy, rfl, hy, h5⟩
  have hob5 := hob4.ext h5
  have hs5 := hs4.ext h5
  have hx5 := hx.ext h5
  have hw5 := hw4.trans h5
  have hyb5 := hy.bys (by unfold maxLen; omega)
  clear hob4 hs4 hx h5 hw4 kP
  obtain ⟨ay, cy, rfl⟩ := hy.slice
  clear hy
  go_wp2_with fail
  have hsb5 := hs5.bys (by unfold maxLen; omega)
  have hxb5 := hx5.bys (by unfold maxLen; omega)
  obtain ⟨S1, hS1⟩ : ∃ z, strB X = z := ⟨_, rfl⟩
  obtain ⟨S2, hS2⟩ : ∃ z, strB Y = z := ⟨_, rfl⟩
  have HL := Lib.hid (And.intro hsl (And.intro hol hll))
  clear hsl hol hll
  refine wp_region_rg Ext [(3, .unk (fun v W => Bys W v X) (fun _ _ _ e h => h.ext e)), (4, .known (.string S1))] (by kernel_rfl) (by kernel_rfl) (by kernel_rfl) Ext.refl (fun _ _ _ => Ext.trans) ?_
  intro σ
  simp only
  have k0 : ∀ W, Ext w5.drew W → (convert 22 9 (.slice aS X.length cs)).run Try.prog W = .ok (.string S1) W := fun W h => by rw [← hS1]; exact ks W _ _ (hsb5.ext (Ext.of_drew h))
  have k1 : ∀ W, Ext w5.drew W → (convert 22 9 (.slice ax Y.length cx)).run Try.prog W = .ok (.string S2) W := fun W h => by rw [← hS2]; exact ks W _ _ (hxb5.ext (Ext.of_drew h))
  have k2 : ∀ W, Ext w5.drew W → (convert 22 9 (.slice ay Y.length cy)).run Try.prog W = .ok (.string S2) W := fun W h => by rw [← hS2]; exact ks W _ _ (hyb5.ext (Ext.of_drew h))
  repeat (first | (refine rg_pure (x := ?_) rfl (by rfl) (fun W hW => ?_) ?_; rotate_left; (· have f0 := k0 W hW; have f1 := k1 W hW; have f2 := k2 W hW; go_simp; with_reducible rfl); simp only [Nat.reduceAdd, Act.put, List.setIfInBounds_toArray, List.set_cons_zero, List.set_cons_succ]) | (refine rg_skip rfl (by rfl) ?_; simp only [Nat.reduceAdd, Act.put, List.setIfInBounds_toArray, List.set_cons_zero, List.set_cons_succ]))
  refine rg_unk rfl (by rfl) (fun W hW hF => ?_) ?_
  · go_simp
    refine (kR _ W ((hb.ext hw5).ext (Ext.of_drew hW))).mono ?_
    rintro e W' ⟨u, rfl, hu, hx⟩
    exact ⟨_, rfl, hx, hu.bys (by have := HL.out.1; unfold maxLen; omega)⟩
  simp only [Nat.reduceAdd, Act.put, List.setIfInBounds_toArray, List.set_cons_zero, List.set_cons_succ]
  refine rg_known rfl (by rfl) (fun W hW hF => ?_) ?_
  · have hbb := hF 3 _ _ rfl (by kernel_rfl)
    have hq := ks W _ _ hbb
    rw [hS1] at hq
    go_simp
    exact ⟨Ext.refl _, rfl⟩
  simp only [Nat.reduceAdd, Act.put, List.setIfInBounds_toArray, List.set_cons_zero, List.set_cons_succ]
  repeat (first | (refine rg_pure (x := ?_) rfl (by rfl) (fun W hW => ?_) ?_; rotate_left; (· have f0 := k0 W hW; have f1 := k1 W hW; have f2 := k2 W hW; go_simp; with_reducible rfl); simp only [Nat.reduceAdd, Act.put, List.setIfInBounds_toArray, List.set_cons_zero, List.set_cons_succ]) | (refine rg_skip rfl (by rfl) ?_; simp only [Nat.reduceAdd, Act.put, List.setIfInBounds_toArray, List.set_cons_zero, List.set_cons_succ]))
  refine rg_done fun W hW hF => ?_
  have hE := Ext.of_drew hW
  have hob6 := hob5.ext hE
  have hs6 := hs5.ext hE
  have hx6 := hx5.ext hE
  have hw6 := hw5.trans hE
  clear hF hW hE k0 k1 k2 hob5 hs5 hx5 hw5 hsb5 hxb5 hyb5 kR hS1 hS2
  go_wp2_with fail
  generalize σ 3 = u3 at *
  go_loopw [57] (fun i wr => ∃ (j : Nat) (X' : List UInt8), j ≤ X.length ∧ i = .int .i64 (j : Int) ∧ X'.length = X.length ∧ OwnB wr w2.heap.size TB (.slice aS X.length cs) X' ∧ OwnB wr w3.heap.size TB (.slice ax Y.length cx) Y ∧ Bys wr (.slice ao (l ++ [7]).length co) (l ++ [7]) ∧ Ext w wr) (fun i _ => X.length - (intOf i).toNat)
  case atStart => exact ⟨0, X, by omega, rfl, rfl, hs6, hx6, hob6, hw6⟩
  case round =>
    clear hob6 hs6 hx6 hw6
    obtain ⟨j, X', hj, rfl, hXl, hs6, hx6, hob6, hw6⟩ := hrel
    have hj8 : j ≤ 5003 := by have := HL.out.1; omega
    by_cases hlt : j < X.length
    · have hd2 : decide ((j : Int) < (X.length : Int)) = true := decide_eq_true (by omega)
      obtain ⟨c, hc⟩ := get_some (l := X') (k := j) (by omega)
      obtain ⟨gx, cx', hv0, hgb, -, hcap, hcells⟩ := hs6.row (by intro e; subst e; simp at hc)
      simp only [Value.slice.injEq] at hv0
      obtain ⟨rfl, -, rfl⟩ := hv0
      obtain ⟨hce, hfr⟩ := hcells j c hc
      have hlt2 := hslt gx rfl
      have hSx := hs6.set j (by omega) (c + 1)
      have hSy : OwnB (wr.setCell ⟨gx, j, none⟩ (.int .u8 ((c + 1).toNat : Int))) w3.heap.size TB (.slice ax Y.length cx) Y := ownsRow_setCell_below hx6 hlt2 _
      have hSo := bys_set hob6 gx j (.int .u8 ((c + 1).toNat : Int)) (fun a len cap h => by have := holt a len cap h; omega)
      have hw9 : Ext w (wr.setCell ⟨gx, j, none⟩ (.int .u8 ((c + 1).toNat : Int))) := Below.setCell hw6 (by show w.heap.size ≤ gx; omega) _
      have hcv : IntKind.u8.wrap ((c.toNat : Int) + 1) = ((c + 1).toNat : Int) := by rw [IntKind.wrap_u8, UInt8.toNat_add]; simp
      have hjx : (j : Int) < (X.length : Int) := by omega
      have HS := Lib.hid (And.intro hSx (And.intro hSy (And.intro hSo hw9)))
      clear hSx hSy hSo hw9 hs6 hx6 hob6 hw6 hcells hcap
      have hcl := c.toNat_lt
      generalize (c + 1).toNat = c1 at *
      generalize c.toNat = c0 at *
      go_wp2_with fail
      go_round
      · exact ⟨j + 1, X'.set j (c + 1), by omega, by go_num, by simp [hXl], HS.out.1, HS.out.2.1, HS.out.2.2.1, HS.out.2.2.2⟩
      · simp [intOf]; omega
    · have hd2 : decide ((j : Int) < (X.length : Int)) = false := decide_eq_false (by omega)
      clear hs6
      go_wp2_with fail
      go_loopw [69] (fun i wr => ∃ (j : Nat) (Y' : List UInt8), j ≤ Y.length ∧ i = .int .i64 (j : Int) ∧ Y'.length = Y.length ∧ OwnB wr w3.heap.size TB (.slice ax Y.length cx) Y' ∧ Bys wr (.slice ao (l ++ [7]).length co) (l ++ [7]) ∧ Ext w wr) (fun i _ => Y.length - (intOf i).toNat)
      case atStart => exact ⟨0, Y, by omega, rfl, rfl, hx6, hob6, hw6⟩
      case round =>
        clear hx6 hob6 hw6 hXl hj hj8 hlt hd2
        obtain ⟨j, Y', hj, rfl, hYl, hx6, hob6, hw6⟩ := hrel
        have hj8 : j ≤ 5003 := by have := HL.out.2.1; omega
        by_cases hlt : j < Y.length
        · have hd2 : decide ((j : Int) < (Y.length : Int)) = true := decide_eq_true (by omega)
          obtain ⟨c, hc⟩ := get_some (l := Y') (k := j) (by omega)
          obtain ⟨gx, cx', hv0, hgb, -, hcap, hcells⟩ := hx6.row (by intro e; subst e; simp at hc)
          simp only [Value.slice.injEq] at hv0
          obtain ⟨rfl, -, rfl⟩ := hv0
          obtain ⟨hce, hfr⟩ := hcells j c hc
          have hSx := hx6.set j (by omega) (c + 1)
          have hSo := bys_set hob6 gx j (.int .u8 ((c + 1).toNat : Int)) (fun a len cap h => by have := holt a len cap h; omega)
          have hw9 : Ext w (wr.setCell ⟨gx, j, none⟩ (.int .u8 ((c + 1).toNat : Int))) := Below.setCell hw6 (by show w.heap.size ≤ gx; omega) _
          have hcv : IntKind.u8.wrap ((c.toNat : Int) + 1) = ((c + 1).toNat : Int) := by rw [IntKind.wrap_u8, UInt8.toNat_add]; simp
          have hjx : (j : Int) < (Y.length : Int) := by omega
          have HS := Lib.hid (And.intro hSx (And.intro hSo hw9))
          clear hSx hSo hw9 hx6 hob6 hw6 hcells hcap
          have hcl := c.toNat_lt
          generalize (c + 1).toNat = c1 at *
          generalize c.toNat = c0 at *
          go_wp2_with fail
          go_round
          · exact ⟨j + 1, Y'.set j (c + 1), by omega, by go_num, by simp [hYl], HS.out.1, HS.out.2.1, HS.out.2.2⟩
          · simp [intOf]; omega
        · have hd2 : decide ((j : Int) < (Y.length : Int)) = false := decide_eq_false (by omega)
          have q1 := ks wr _ _ hob6
          have q2 := ks wr _ _ (hb.ext hw6)
          have hcat := strB_snoc l 7
          have hsz4 : (strB l).size ≤ 5000 := by have := HL.out.2.2; show (l.toArray).size ≤ 5000; simpa using this
          have hsz4' : ¬ 9223372036854775807 < (strB l).size + 1 := by omega
          generalize strB (l ++ [7]) = S3 at *
          generalize strB l = S4 at *
          have q3 := q1
          simp only [List.length_append, List.length_cons, List.length_nil, Nat.zero_add] at q3
          clear hx6 hob6 ks
          go_wp2_with fail
          go_ret
          exact ⟨rfl, hw6⟩
end Go.Proofs.Ytlliemaohejpbaa.VCrc
