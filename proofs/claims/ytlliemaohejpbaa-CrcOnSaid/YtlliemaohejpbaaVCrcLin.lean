/- CrcOn: the walk. -/
import Derived.Test.YtlliemaohejpbaaVCrcAlive
import Derived.StillTailTactics
import Derived.Deep.LoopGhost
namespace Go.Proofs.Ytlliemaohejpbaa.VCrc
open Go.RowKit Go.VBase Go.VCrc Go.VRg

/-- The first k bytes of three messages laid over one another. -/
def over3 (l0 l1 l2 : List UInt8) (k : Nat) : List UInt8 := over (over (l0.take k) (l1.take k)) (l2.take k)

theorem xor3_walk {x0 x1 x2 c : UInt8} (h : x0 ^^^ x1 ^^^ x2 = c) : bits BinOp.xor IntKind.u8 (bits BinOp.xor IntKind.u8 (x0.toNat : Int) (x1.toNat : Int)) (x2.toNat : Int) = (c.toNat : Int) := by
  subst h
  have h1 : x0.toNat ^^^ x1.toNat < 256 := Nat.xor_lt_two_pow (n := 8) x0.toNat_lt x1.toNat_lt
  rw [u8_xor_nat _ _ x0.toNat_lt x1.toNat_lt, u8_xor_nat _ _ h1 x2.toNat_lt, UInt8.toNat_xor, UInt8.toNat_xor]
theorem over3_snoc {l0 l1 l2 : List UInt8} {k : Nat} {x0 x1 x2 c : UInt8} (h0 : l0[k]? = some x0) (h1 : l1[k]? = some x1) (h2 : l2[k]? = some x2) (h : x0 ^^^ x1 ^^^ x2 = c) :
    over3 l0 l1 l2 (k + 1) = over3 l0 l1 l2 k ++ [c] := by
  subst h
  unfold over3 over
  have e0 := (List.getElem?_eq_some_iff.1 h0).1
  have e1 := (List.getElem?_eq_some_iff.1 h1).1
  have e2 := (List.getElem?_eq_some_iff.1 h2).1
  rw [take_snoc h0, take_snoc h1, take_snoc h2, List.zipWith_append (by simp; omega), List.zipWith_append (by simp; omega)]
  rfl

theorem over3_len (l0 l1 l2 : List UInt8) (k : Nat) : (over3 l0 l1 l2 k).length ≤ l0.length := by
  unfold over3 over
  rw [List.length_zipWith, List.length_zipWith, List.length_take]; omega

set_option maxRecDepth 100000 in
set_option maxHeartbeats 1000000 in
theorem lin_small (v0 v1 v2 : Value) (l0 l1 l2 : List UInt8) (s t S T : Nat) (w : World) (hv0 : Bys w v0 l0) (hv1 : Bys w v1 l1) (hv2 : Bys w v2 l2) (hs : s < 4294967296) (ht : t < 4294967296) (hl0 : l0.length ≤ 2000) (hl1 : l1.length ≤ 2000) (hl2 : l2.length ≤ 2000)
    (hS : (s : Int) % 16777216 = (S : Int)) (hT : (t : Int) % 16777216 = (T : Int)) (hS1 : S < 16777216) (hT1 : T < 16777216)
    (A B : Nat) (hA : onN S l0 = A) (hB : onN T l0 = B) (hge : decide ((16777216 : Int) ≤ (A : Int)) = false) (N : Nat) (hN0 : N ≤ l0.length) (hN1 : N ≤ l1.length) (hN2 : N ≤ l2.length)
    (hN : ∀ W, (Builtin.min_ #[3, 3, 3] 3 #[.int .i64 (l0.length : Int), .int .i64 (l1.length : Int), .int .i64 (l2.length : Int)]).run Try.prog W = .ok (.int .i64 (N : Int)) W)
    (C0 C1 C2 C3 D : Nat) (hC0 : ofN (l0.take N) = C0) (hC1 : ofN (l1.take N) = C1) (hC2 : ofN (l2.take N) = C2) (hC3 : ofN (over3 l0 l1 l2 N) = C3)
    (hx1 : bits BinOp.xor IntKind.u32 (C0 : Int) (C1 : Int) = (D : Int)) (hx2 : bits BinOp.xor IntKind.u32 (D : Int) (C2 : Int) = (C3 : Int))
    (hq : ((A : Int) == (B : Int)) = ((S : Int) == (T : Int))) :
    Calls Try.prog 3 #[v0, v1, v2, .int .u32 (s : Int), .int .u32 (t : Int)] w fun e w' => e = .returned (.bool true) ∧ Ext w w' := by
  have HA := Lib.hid hA
  have HB := Lib.hid hB
  clear hA hB
  have HC0 := Lib.hid hC0
  have HC1 := Lib.hid hC1
  have HC2 := Lib.hid hC2
  have HC3 := Lib.hid hC3
  clear hC0 hC1 hC2 hC3
  have hv0' := hv0
  have hv1' := hv1
  have hv2' := hv2
  obtain ⟨a0, cap0, rfl, hle0, hcap0, hc0⟩ := hv0
  obtain ⟨a1, cap1, rfl, hle1, hcap1, hc1⟩ := hv1
  obtain ⟨a2, cap2, rfl, hle2, hcap2, hc2⟩ := hv2
  unfold maxLen at hcap0 hcap1 hcap2
  go_enter Try.func3, Try.ntmps3
  go_wp2_with fail
  refine (alive_calls _).mono ?_
  rintro e w1 ⟨rfl, h1⟩
  go_wp2_with fail
  refine (On_to S A _ l0 _ (by omega) (hv0'.ext h1) HA.out).mono ?_
  rintro e w' ⟨rfl, rfl⟩
  go_wp2_with fail
  refine (On_to T B _ l0 _ (by omega) (hv0'.ext h1) HB.out).mono ?_
  rintro e w' ⟨rfl, rfl⟩
  go_wp2_with fail
  refine (On_to S A _ l0 _ (by omega) (hv0'.ext h1) HA.out).mono ?_
  rintro e w' ⟨rfl, rfl⟩
  go_wp2_with fail
  go_loopw [13, 14] (fun v i wr => ∃ (k : Nat), k ≤ N ∧ i = .int .i64 (k : Int) ∧ OwnB wr w1.heap.size 5 v (over3 l0 l1 l2 k) ∧ Below w1.heap.size w1 wr) (fun _ i _ => N - (intOf i).toNat)
  case atStart => exact ⟨0, by omega, rfl, OwnB.nil _ _ _, Below.refl _ _⟩
  case round =>
    obtain ⟨k, hk, rfl, hown, hB⟩ := hrel
    by_cases hlt : k < N
    · obtain ⟨x0, hx0⟩ := get_some (show k < l0.length by omega)
      obtain ⟨x1, hx1⟩ := get_some (show k < l1.length by omega)
      obtain ⟨x2, hx2⟩ := get_some (show k < l2.length by omega)
      obtain ⟨b0, o0, rfl, hcell0⟩ := hc0 (by intro h; rw [h] at hN0; simp at hN0; omega)
      obtain ⟨b1, o1, rfl, hcell1⟩ := hc1 (by intro h; rw [h] at hN1; simp at hN1; omega)
      obtain ⟨b2, o2, rfl, hcell2⟩ := hc2 (by intro h; rw [h] at hN2; simp at hN2; omega)
      have hd0' := hcell0 k x0 hx0
      have hd1' := hcell1 k x1 hx1
      have hd2' := hcell2 k x2 hx2
      have hd0 := Ext.cell (Ext.trans h1 hB) (hcell0 k x0 hx0)
      have hd1 := Ext.cell (Ext.trans h1 hB) (hcell1 k x1 hx1)
      have hd2 := Ext.cell (Ext.trans h1 hB) (hcell2 k x2 hx2)
      have hk0 : k < l0.length := by omega
      have hk1 : k < l1.length := by omega
      have hk2 : k < l2.length := by omega
      clear hc0 hc1 hc2 hcell0 hcell1 hcell2
      go_wp2_with fail
      obtain ⟨c, hcx⟩ : ∃ c, x0 ^^^ x1 ^^^ x2 = c := ⟨_, rfl⟩
      have hxor : bits BinOp.xor IntKind.u8 (bits BinOp.xor IntKind.u8 (x0.toNat : Int) (x1.toNat : Int)) (x2.toNat : Int) = (c.toNat : Int) := xor3_walk hcx
      have hov := over3_snoc hx0 hx1 hx2 hcx
      have HOV := Lib.hid hov
      clear hov hcx
      have hrow : ∀ g, u13.ownBlock = some g → w1.heap.size ≤ g := hown.lt
      have hrow2 : ∀ g, u13.ownBlock = some g → g < wr.heap.size := fun g hg => (World.ownsRow.lt hown g hg).2
      have lt0 : b0 < w1.heap.size := World.block_lt_of_cell? _ _ (h1.cell hd0')
      have lt1 : b1 < w1.heap.size := World.block_lt_of_cell? _ _ (h1.cell hd1')
      have lt2 : b2 < w1.heap.size := World.block_lt_of_cell? _ _ (h1.cell hd2')
      have n0 : some b0 ≠ u13.ownBlock := fun h => by have := hrow _ h.symm; omega
      have n1 : some b1 ≠ u13.ownBlock := fun h => by have := hrow _ h.symm; omega
      have n2 : some b2 ≠ u13.ownBlock := fun h => by have := hrow _ h.symm; omega
      refine wp_region_rg2 (fun W W' => W.grownBy W' u13.ownBlock) Ext [(15, .unk (NewOne u13.ownBlock c) NewOne.stable), (16, .last (fun u W => OwnB W w1.heap.size 5 u (over3 l0 l1 l2 (k + 1))))]
        (by kernel_rfl) (by kernel_rfl) (by kernel_rfl) (ext_grown _) Ext.refl (fun _ _ _ => Ext.trans) (grown_refl _) (fun _ _ _ => grown_trans) ?_
      intro σ
      simp only
      repeat (refine rg_pure (x := ?_) rfl (by rfl) (fun W hW => ?_) ?_; rotate_left; (· have e0 := hW.cell hd0 n0; have e1 := hW.cell hd1 n1; have e2 := hW.cell hd2 n2; go_simp; with_reducible rfl); simp only [Nat.reduceAdd, Act.put, List.setIfInBounds_toArray, List.set_cons_zero, List.set_cons_succ])
      refine rg_unk rfl (by rfl) (fun W hW hF => ?_) ?_
      · go_simp
        exact ⟨Ext.alloc _ _, NewOne.mk _ fun g hg => Nat.lt_of_lt_of_le (hrow2 g hg) hW.size⟩
      simp only [Nat.reduceAdd, Act.put, List.setIfInBounds_toArray, List.set_cons_zero, List.set_cons_succ]
      refine rg_last rfl (by rfl) (fun W hW hF => ?_) ?_
      · refine eff_append byteSl rfl rfl rfl (hown.drew.ext hW) (NewOne.bys (hF 15 _ _ rfl (by kernel_rfl))) ?_ (Nat.le_trans hB.size hW.size) (fun v' w' h _ => by rw [HOV.out]; exact h)
        have := over3_len l0 l1 l2 k
        simp only [List.length_cons, List.length_nil]; omega
      simp only [Nat.reduceAdd, Act.put, List.setIfInBounds_toArray, List.set_cons_zero, List.set_cons_succ]
      refine rg_pure (x := ?_) rfl (by rfl) (fun W hW => ?_) ?_; rotate_left
      · go_simp; with_reducible rfl
      simp only [Nat.reduceAdd, Act.put, List.setIfInBounds_toArray, List.set_cons_zero, List.set_cons_succ]
      refine rg_done' fun W hW hF hG => ?_
      have hown' := hG 16 _ rfl (by decide)
      have hB' := hB.trans (grown_below (B := w1.heap.size) (grown_drew hW) hB.size hrow)
      generalize σ 16 = v' at *
      clear hF hG hW hown hrow hrow2 hB HOV hxor
      go_wp2_with fail
      go_roundw
      case rel => exact ⟨k + 1, by omega, by go_num, hown', hB'⟩
      case measure => simp [intOf]; omega
    · have hkN : k = N := by omega
      subst hkN
      have hob := hown.bys (by have := over3_len l0 l1 l2 k; unfold maxLen; omega)
      have g0 := hv0'.ext (h1.trans hB)
      have g1 := hv1'.ext (h1.trans hB)
      have g2 := hv2'.ext (h1.trans hB)
      have hm0 : k ≤ cap0 := by omega
      have hm1 : k ≤ cap1 := by omega
      have hm2 : k ≤ cap2 := by omega
      clear hc0 hc1 hc2
      obtain ⟨ax, cx, hux⟩ := hown.slice
      subst hux
      go_wp2_with fail
      refine wp_region_rg Ext [(3, .unk (fun v w => BysL w v [over3 l0 l1 l2 k]) (fun _ _ _ e h => h.ext e)), (4, .known (.int .u32 (C3 : Int))), (8, .unk (fun v w => BysL w v [l0.take k]) (fun _ _ _ e h => h.ext e)), (9, .known (.int .u32 (C0 : Int))),
        (13, .unk (fun v w => BysL w v [l1.take k]) (fun _ _ _ e h => h.ext e)), (14, .known (.int .u32 (C1 : Int))), (19, .unk (fun v w => BysL w v [l2.take k]) (fun _ _ _ e h => h.ext e)), (20, .known (.int .u32 (C2 : Int)))]
        (by kernel_rfl) (by kernel_rfl) (by kernel_rfl) Ext.refl (fun _ _ _ => Ext.trans) ?_
      intro σ
      simp only
      repeat (refine rg_pure (x := ?_) rfl (by rfl) (fun W hW => ?_) ?_; rotate_left; (· go_simp; with_reducible rfl); simp only [Nat.reduceAdd, Act.put, List.setIfInBounds_toArray, List.set_cons_zero, List.set_cons_succ])
      refine rg_unk rfl (by rfl) (fun W hW hF => ?_) ?_
      · go_simp
        exact ⟨Ext.alloc _ _, bysL_one rfl (hob.ext (Ext.of_drew hW))⟩
      simp only [Nat.reduceAdd, Act.put, List.setIfInBounds_toArray, List.set_cons_zero, List.set_cons_succ]
      repeat (refine rg_pure (x := ?_) rfl (by rfl) (fun W hW => ?_) ?_; rotate_left; (· go_simp; with_reducible rfl); simp only [Nat.reduceAdd, Act.put, List.setIfInBounds_toArray, List.set_cons_zero, List.set_cons_succ])
      refine rg_known rfl (by rfl) (fun W hW hF => ?_) ?_
      · go_simp
        refine (Of_to C3 _ _ _ (hF 3 _ _ rfl (by kernel_rfl)) (by rw [List.flatten_singleton]; exact HC3.out)).mono ?_
        rintro e W' ⟨rfl, rfl⟩
        exact ⟨_, rfl, Ext.refl _, rfl⟩
      simp only [Nat.reduceAdd, Act.put, List.setIfInBounds_toArray, List.set_cons_zero, List.set_cons_succ]
      repeat (refine rg_pure (x := ?_) rfl (by rfl) (fun W hW => ?_) ?_; rotate_left; (· go_simp; with_reducible rfl); simp only [Nat.reduceAdd, Act.put, List.setIfInBounds_toArray, List.set_cons_zero, List.set_cons_succ])
      refine rg_unk rfl (by rfl) (fun W hW hF => ?_) ?_
      · go_simp
        exact ⟨Ext.alloc _ _, bysL_one rfl ((g0.ext (Ext.of_drew hW)).take hN0)⟩
      simp only [Nat.reduceAdd, Act.put, List.setIfInBounds_toArray, List.set_cons_zero, List.set_cons_succ]
      repeat (refine rg_pure (x := ?_) rfl (by rfl) (fun W hW => ?_) ?_; rotate_left; (· go_simp; with_reducible rfl); simp only [Nat.reduceAdd, Act.put, List.setIfInBounds_toArray, List.set_cons_zero, List.set_cons_succ])
      refine rg_known rfl (by rfl) (fun W hW hF => ?_) ?_
      · go_simp
        refine (Of_to C0 _ _ _ (hF 8 _ _ rfl (by kernel_rfl)) (by rw [List.flatten_singleton]; exact HC0.out)).mono ?_
        rintro e W' ⟨rfl, rfl⟩
        exact ⟨_, rfl, Ext.refl _, rfl⟩
      simp only [Nat.reduceAdd, Act.put, List.setIfInBounds_toArray, List.set_cons_zero, List.set_cons_succ]
      repeat (refine rg_pure (x := ?_) rfl (by rfl) (fun W hW => ?_) ?_; rotate_left; (· go_simp; with_reducible rfl); simp only [Nat.reduceAdd, Act.put, List.setIfInBounds_toArray, List.set_cons_zero, List.set_cons_succ])
      refine rg_unk rfl (by rfl) (fun W hW hF => ?_) ?_
      · go_simp
        exact ⟨Ext.alloc _ _, bysL_one rfl ((g1.ext (Ext.of_drew hW)).take hN1)⟩
      simp only [Nat.reduceAdd, Act.put, List.setIfInBounds_toArray, List.set_cons_zero, List.set_cons_succ]
      repeat (refine rg_pure (x := ?_) rfl (by rfl) (fun W hW => ?_) ?_; rotate_left; (· go_simp; with_reducible rfl); simp only [Nat.reduceAdd, Act.put, List.setIfInBounds_toArray, List.set_cons_zero, List.set_cons_succ])
      refine rg_known rfl (by rfl) (fun W hW hF => ?_) ?_
      · go_simp
        refine (Of_to C1 _ _ _ (hF 13 _ _ rfl (by kernel_rfl)) (by rw [List.flatten_singleton]; exact HC1.out)).mono ?_
        rintro e W' ⟨rfl, rfl⟩
        exact ⟨_, rfl, Ext.refl _, rfl⟩
      simp only [Nat.reduceAdd, Act.put, List.setIfInBounds_toArray, List.set_cons_zero, List.set_cons_succ]
      repeat (refine rg_pure (x := ?_) rfl (by rfl) (fun W hW => ?_) ?_; rotate_left; (· go_simp; with_reducible rfl); simp only [Nat.reduceAdd, Act.put, List.setIfInBounds_toArray, List.set_cons_zero, List.set_cons_succ])
      refine rg_unk rfl (by rfl) (fun W hW hF => ?_) ?_
      · go_simp
        exact ⟨Ext.alloc _ _, bysL_one rfl ((g2.ext (Ext.of_drew hW)).take hN2)⟩
      simp only [Nat.reduceAdd, Act.put, List.setIfInBounds_toArray, List.set_cons_zero, List.set_cons_succ]
      repeat (refine rg_pure (x := ?_) rfl (by rfl) (fun W hW => ?_) ?_; rotate_left; (· go_simp; with_reducible rfl); simp only [Nat.reduceAdd, Act.put, List.setIfInBounds_toArray, List.set_cons_zero, List.set_cons_succ])
      refine rg_known rfl (by rfl) (fun W hW hF => ?_) ?_
      · go_simp
        refine (Of_to C2 _ _ _ (hF 19 _ _ rfl (by kernel_rfl)) (by rw [List.flatten_singleton]; exact HC2.out)).mono ?_
        rintro e W' ⟨rfl, rfl⟩
        exact ⟨_, rfl, Ext.refl _, rfl⟩
      simp only [Nat.reduceAdd, Act.put, List.setIfInBounds_toArray, List.set_cons_zero, List.set_cons_succ]
      repeat (refine rg_pure (x := ?_) rfl (by rfl) (fun W hW => ?_) ?_; rotate_left; (· go_simp; with_reducible rfl); simp only [Nat.reduceAdd, Act.put, List.setIfInBounds_toArray, List.set_cons_zero, List.set_cons_succ])
      refine rg_done fun W hW hF => ?_
      go_wp2_with fail
      all_goals
        go_ret
        exact ⟨rfl, h1.trans (hB.trans (Below.mono (Ext.of_drew hW) hB.size))⟩
set_option maxRecDepth 100000 in
set_option maxHeartbeats 1000000 in
theorem lin_large (v0 v1 v2 : Value) (l0 l1 l2 : List UInt8) (s t : Nat) (w : World) (hv0 : Bys w v0 l0) (hv1 : Bys w v1 l1) (hv2 : Bys w v2 l2)
    (h : 2000 < l0.length ∨ (l0.length ≤ 2000 ∧ 2000 < l1.length) ∨ (l0.length ≤ 2000 ∧ l1.length ≤ 2000 ∧ 2000 < l2.length)) :
    Calls Try.prog 3 #[v0, v1, v2, .int .u32 (s : Int), .int .u32 (t : Int)] w fun e w' => e = .returned (.bool true) ∧ Ext w w' := by
  obtain ⟨a0, cap0, rfl, hle0, hcap0, hc0⟩ := hv0
  obtain ⟨a1, cap1, rfl, hle1, hcap1, hc1⟩ := hv1
  obtain ⟨a2, cap2, rfl, hle2, hcap2, hc2⟩ := hv2
  clear hc0 hc1 hc2
  rcases h with h | ⟨h, h'⟩ | ⟨h, h', h''⟩
  all_goals
    go_enter Try.func3, Try.ntmps3
    go_wp2_with fail
    refine (alive_calls _).mono ?_
    rintro e w1 ⟨rfl, h1⟩
    go_wp2_with fail
    go_ret
    exact ⟨rfl, h1⟩

theorem xor_walk {a b : Nat} (ha : a < 16777216) (hb : b < 16777216) : bits BinOp.xor IntKind.u32 (a : Int) (b : Int) = ((a ^^^ b : Nat) : Int) := u32_xor_nat a b (by omega) (by omega)

theorem of_over3 (l0 l1 l2 : List UInt8) (k : Nat) (h0 : k ≤ l0.length) (h1 : k ≤ l1.length) (h2 : k ≤ l2.length) : ofN (over3 l0 l1 l2 k) = ofN (l0.take k) ^^^ ofN (l1.take k) ^^^ ofN (l2.take k) := by
  have e0 : (l0.take k).length = k := by rw [List.length_take]; omega
  have e1 : (l1.take k).length = k := by rw [List.length_take]; omega
  have e2 : (l2.take k).length = k := by rw [List.length_take]; omega
  have q0 := onN_over (l0.take k) (l1.take k) begN begN (by rw [e0, e1])
  have q1 := onN_over (over (l0.take k) (l1.take k)) (l2.take k) 0 begN (by unfold over; rw [List.length_zipWith, e0, e1, e2]; omega)
  rw [Nat.xor_self] at q0
  rw [Nat.zero_mod, Nat.zero_xor] at q1
  unfold over3 ofN
  rw [← q0]
  have hb : begN % 16777216 = begN := by decide
  rw [hb] at q1
  exact q1

theorem lin_any (v0 v1 v2 : Value) (l0 l1 l2 : List UInt8) (s t : Nat) (w : World) (hv0 : Bys w v0 l0) (hv1 : Bys w v1 l1) (hv2 : Bys w v2 l2) (hs : s < 4294967296) (ht : t < 4294967296) :
    Calls Try.prog 3 #[v0, v1, v2, .int .u32 (s : Int), .int .u32 (t : Int)] w fun e w' => e = .returned (.bool true) ∧ Ext w w' := by
  by_cases h0 : 2000 < l0.length
  · exact lin_large v0 v1 v2 l0 l1 l2 s t w hv0 hv1 hv2 (.inl h0)
  by_cases h1 : 2000 < l1.length
  · exact lin_large v0 v1 v2 l0 l1 l2 s t w hv0 hv1 hv2 (.inr (.inl ⟨by omega, h1⟩))
  by_cases h2 : 2000 < l2.length
  · exact lin_large v0 v1 v2 l0 l1 l2 s t w hv0 hv1 hv2 (.inr (.inr ⟨by omega, by omega, h2⟩))
  have hN0 : min (min l0.length l1.length) l2.length ≤ l0.length := by omega
  have hN1 : min (min l0.length l1.length) l2.length ≤ l1.length := by omega
  have hN2 : min (min l0.length l1.length) l2.length ≤ l2.length := by omega
  have hNe : ∀ (W : World), (Builtin.min_ #[3, 3, 3] 3 #[.int .i64 (l0.length : Int), .int .i64 (l1.length : Int), .int .i64 (l2.length : Int)]).run Try.prog W = .ok (.int .i64 ((min (min l0.length l1.length) l2.length : Nat) : Int)) W := by
    intro W
    rw [run_min_int3]
    congr 2
    split <;> split <;> omega
  generalize min (min l0.length l1.length) l2.length = N at *
  have hS1 : s % 16777216 < 16777216 := Nat.mod_lt _ (by decide)
  have hT1 : t % 16777216 < 16777216 := Nat.mod_lt _ (by decide)
  refine lin_small v0 v1 v2 l0 l1 l2 s t (s % 16777216) (t % 16777216) w hv0 hv1 hv2 hs ht (by omega) (by omega) (by omega) (by omega) (by omega) hS1 hT1
    _ _ rfl rfl ?_ N hN0 hN1 hN2 hNe _ _ _ _ (ofN (l0.take N) ^^^ ofN (l1.take N)) rfl rfl rfl rfl (xor_walk (ofN_lt _) (ofN_lt _)) ?_ ?_
  · have := onN_lt (s % 16777216) l0
    apply decide_eq_false
    omega
  · rw [of_over3 l0 l1 l2 N hN0 hN1 hN2]
    exact xor_walk (xor_lt24 (ofN_lt _) (ofN_lt _)) (ofN_lt _)
  · rw [Bool.eq_iff_iff, beq_iff_eq, beq_iff_eq]
    constructor
    · intro h; have := onN_inj l0 _ _ hS1 hT1 (Int.ofNat.inj h); rw [this]
    · intro h; rw [show s % 16777216 = t % 16777216 from Int.ofNat.inj h]
end Go.Proofs.Ytlliemaohejpbaa.VCrc
