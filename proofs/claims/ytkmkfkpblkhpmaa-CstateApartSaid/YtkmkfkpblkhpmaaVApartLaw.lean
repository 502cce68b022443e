/- CstateApart: the walk. -/
import Derived.Test.YtkmkfkpblkhpmaaVGrpIter
import Derived.Test.YtkmkfkpblkhpmaaVAlive04
import Derived.Test.YtkmkfkpblkhpmaaVApart
import Derived.Test.YtkmkfkpblkhpmaaVFollows
import Derived.Test.YtkmkfkpblkhpmaaVRgBox
namespace Go.Proofs.Ytkmkfkpblkhpmaa.VCst
open Go.RowKit Go.VBase Go.VRg VGrp

/-- One after the other with, or without. -/
def vecN (g g' : Nat) (l : List Int) : Nat := l.foldl (fun a n => seenG a n (hasN g' n)) g
theorem vecN_snoc (g g' : Nat) (l : List Int) (n : Int) : vecN g g' (l ++ [n]) = seenG (vecN g g' l) n (hasN g' n) := by simp [vecN]
theorem seenG_lt {g : Nat} (n : Int) (b : Bool) (hg : g < 65536) : seenG g n b < 65536 := by
  unfold seenG
  split
  · exact Nat.or_lt_two_pow (n := 16) hg (VGrp.onlyN_lt n)
  · exact Nat.lt_of_le_of_lt Nat.and_le_left hg
theorem vecN_lt (g' : Nat) : ∀ (l : List Int) (g : Nat), g < 65536 → vecN g g' l < 65536
  | [], g, h => h
  | n :: l, g, h => vecN_lt g' l _ (seenG_lt n (hasN g' n) h)
theorem seenG_bit {g k : Nat} (hg : g < 65536) (hk : k < 16) (b : Bool) (i : Nat) : (seenG g (k : Int) b).testBit i = if i = k then b else g.testBit i := by
  have ho : VGrp.onlyN (k : Int) = 2 ^ k := by unfold VGrp.onlyN; rw [if_pos (by omega)]; rfl
  unfold seenG
  rw [ho]
  cases b with
  | true =>
    rw [if_pos rfl, Nat.testBit_or, Nat.testBit_two_pow]
    by_cases h : i = k
    · subst h; simp
    · have hne : decide (k = i) = false := decide_eq_false (fun e => h e.symm)
      rw [if_neg h, hne, Bool.or_false]
  | false =>
    have hlt : 2 ^ k < 2 ^ 16 := Nat.pow_lt_pow_right (by decide) hk
    rw [if_neg (by simp), Nat.testBit_and, show 65535 - 2 ^ k = 2 ^ 16 - (2 ^ k + 1) by omega, Nat.testBit_two_pow_sub_succ hlt, Nat.testBit_two_pow]
    by_cases h : i = k
    · subst h; simp
    · have hne : decide (k = i) = false := decide_eq_false (fun e => h e.symm)
      rw [if_neg h, hne]
      by_cases h16 : i < 16
      · simp [h16]
      · rw [testBit_big hg (by omega)]; simp
theorem hasN_bit {g k : Nat} (hk : k < 16) : hasN g (k : Int) = g.testBit k := by
  unfold hasN
  rw [decide_eq_true (by omega : 0 ≤ (k : Int) ∧ (k : Int) ≤ 15), Nat.testBit_eq_decide_div_mod_eq]
  simp
theorem vecN_bit (g g' x : Nat) (hg : g < 65536) : ∀ k, k ≤ 16 → ∀ i, (vecN g g' (lsN x k)).testBit i = if i < k ∧ x.testBit i = true then g'.testBit i else g.testBit i
  | 0, _, i => by simp [lsN, vecN]
  | k + 1, hk, i => by
    have ih := vecN_bit g g' x hg k (by omega) i
    unfold lsN
    rw [hasN_bit (by omega)]
    cases hb : x.testBit k with
    | false =>
      rw [if_neg (by simp), List.append_nil, ih]
      by_cases h : i = k
      · subst h; simp [hb]
      · have : (i < k + 1 ∧ x.testBit i = true) ↔ (i < k ∧ x.testBit i = true) := by constructor <;> rintro ⟨h1, h2⟩ <;> exact ⟨by omega, h2⟩
        simp only [this]
    | true =>
      rw [if_pos rfl, vecN_snoc, seenG_bit (vecN_lt g' _ _ hg) (by omega), hasN_bit (by omega)]
      by_cases h : i = k
      · subst h; rw [if_pos rfl, if_pos ⟨by omega, hb⟩]
      · rw [if_neg h, ih]
        have : (i < k + 1 ∧ x.testBit i = true) ↔ (i < k ∧ x.testBit i = true) := by constructor <;> rintro ⟨h1, h2⟩ <;> exact ⟨by omega, h2⟩
        simp only [this]
/-- In whom they differ, taken over from the other one: it is the other one. -/
theorem vecN_all {g g' : Nat} (hg : g < 65536) (hg' : g' < 65536) : vecN g g' (lsN (g ^^^ g') 16) = g' := by
  apply Nat.eq_of_testBit_eq
  intro i
  rw [vecN_bit g g' _ hg 16 (by omega)]
  by_cases h : i < 16
  · rw [Nat.testBit_xor]
    by_cases h2 : g.testBit i = g'.testBit i
    · rw [h2]; simp
    · rw [if_pos ⟨h, by simp [h2]⟩]
  · rw [if_neg (fun hc => h hc.1), testBit_big hg (by omega), testBit_big hg' (by omega)]
theorem apartB_comm (r s m r' s' m' : Int) : apartB r s m r' s' m' = apartB r' s' m' r s m := by
  unfold apartB
  rw [Bool.eq_iff_iff]
  simp only [Bool.and_eq_true, beq_iff_eq]
  omega
theorem apartB_self (r s m : Int) : apartB r s m r s m = true := by unfold apartB; simp

set_option maxRecDepth 100000 in
set_option maxHeartbeats 4000000 in
theorem ApartLaw_any (r s m r' s' m' : Int) (g g' n : Nat) (hg : g < 65536) (hg' : g' < 65536) (hn : n < 256) (w : World) :
    Calls Try.prog 9 #[cst r s m (g : Int), cst r' s' m' (g' : Int), .int .u8 (n : Int)] w fun e w' => e = .returned (.bool true) ∧ Ext w w' := by
  have kA := fun w => alive_calls w
  have kP := fun r s m r' s' m' g g' h1 h2 w => Apart_calls r s m r' s' m' g g' h1 h2 w
  have kL := fun x w h => List_calls x w h
  have kH := fun g n w h => Has_calls g n w h
  have kS := fun r s m n g is hg w => Seen_calls r s m n g is hg w
  have kC := fun r s m v w => Check_calls r s m v w
  have kR := fun r s m v w => refCheck_calls r s m v w
  have hxlt : g ^^^ g' < 65536 := Nat.xor_lt_two_pow (n := 16) hg hg'
  have hvl := vecN_all hg hg'
  have hvlt := fun l => vecN_lt g' l g hg
  have hxc : g' ^^^ g = g ^^^ g' := Nat.xor_comm _ _
  obtain ⟨x, hx⟩ : ∃ x, g ^^^ g' = x := ⟨_, rfl⟩
  obtain ⟨q, hq⟩ : ∃ q, apartB r s m r' s' m' = q := ⟨_, rfl⟩
  obtain ⟨k, hk⟩ : ∃ k, n % 16 = k := ⟨_, rfl⟩
  have hk16 : k < 16 := by omega
  have hkm : (n : Int).tmod 16 = (k : Int) := by rw [Int.tmod_eq_emod_of_nonneg (by omega)]; omega
  unfold ApartPost at kP
  unfold CheckPost at kC kR
  have hll := lsN_len x 16
  rw [hx] at hvl hxlt hxc
  unfold cst at *
  have kP1 := fun w => kP r s m r' s' m' g g' hg hg' w
  have kL1 := fun w => kL x w hxlt
  rw [hx, hq] at kP1
  generalize lsN x 16 = l at *
  go_enter Try.func9, Try.ntmps9
  go_wp2_with fail
  refine (kA _).mono ?_
  rintro e w1 ⟨rfl, hx1⟩
  have q0 := hx1.block (heap_alloc2_old w (.cells #[.int .i64 r, .int .i64 s, .int .i64 m, .int .u16 (g : Int)] 25) (.cells #[.int .i64 r', .int .i64 s', .int .i64 m', .int .u16 (g' : Int)] 25))
  have q1 := hx1.block (heap_alloc2_new w (.cells #[.int .i64 r, .int .i64 s, .int .i64 m, .int .u16 (g : Int)] 25) (.cells #[.int .i64 r', .int .i64 s', .int .i64 m', .int .u16 (g' : Int)] 25))
  have hw1 := ((Ext.alloc w _).thenAlloc _).trans hx1
  clear hx1
  obtain ⟨⟨a0, a1, a2, a3⟩, _⟩ := row4 q0
  obtain ⟨⟨b0, b1, b2, b3⟩, _⟩ := row4 q1
  go_wp2_with fail
  refine (kP1 _).mono ?_
  rintro e w2 ⟨rfl, hx2⟩
  have p0 := hx2.block q0
  have p1 := hx2.block q1
  have hw2 := hw1.trans hx2
  clear hx2 hw1 q0 q1 a0 a1 a2 a3 b0 b1 b2 b3 kP1 kA
  obtain ⟨⟨a0, a1, a2, a3⟩, _⟩ := row4 p0
  go_wp2_with fail
  have q0 := (Ext.alloc w2 (.cells #[.int .i64 r, .int .i64 s, .int .i64 m, .int .u16 (g : Int)] 25)).block p0
  have q1 := (Ext.alloc w2 (.cells #[.int .i64 r, .int .i64 s, .int .i64 m, .int .u16 (g : Int)] 25)).block p1
  have q2 := heap_alloc_new w2 (.cells #[.int .i64 r, .int .i64 s, .int .i64 m, .int .u16 (g : Int)] 25)
  have hw3 := hw2.thenAlloc (.cells #[.int .i64 r, .int .i64 s, .int .i64 m, .int .u16 (g : Int)] 25)
  have hb10 : w.heap.size + 1 < w2.heap.size := (Array.getElem?_eq_some_iff.1 p1).1
  clear p0 p1 hw2 a0 a1 a2 a3
  refine (kL1 _).mono ?_
  rintro e w4 ⟨v, rfl, hO, hx4⟩
  have p0 := hx4.block q0
  have p1 := hx4.block q1
  have p2 := hx4.block q2
  have hw4 := hw3.trans hx4
  clear hx4 hw3 q0 q1 q2 kL1
  obtain ⟨bc, hbc⟩ : ∃ z, w2.heap.size = z := ⟨_, rfl⟩
  rw [hbc] at hb10 p2 ⊢
  obtain ⟨av, capv, rfl⟩ := hO.slice
  have hO' : OwnI w4 (bc + 1) 3 (.slice av l.length capv) l := by rw [← hbc]; simpa using hO
  clear hO hbc
  go_wp2_with fail
  go_loopw [31] (fun i wr => ∃ (j : Nat), j ≤ l.length ∧ i = .int .i64 (j : Int) ∧ wr.heap[w.heap.size]? = some (.cells #[.int .i64 r, .int .i64 s, .int .i64 m, .int .u16 (g : Int)] 25) ∧ wr.heap[w.heap.size + 1]? = some (.cells #[.int .i64 r', .int .i64 s', .int .i64 m', .int .u16 (g' : Int)] 25) ∧ wr.heap[bc]? = some (.cells #[.int .i64 r, .int .i64 s, .int .i64 m, .int .u16 (vecN g g' (l.take j) : Int)] 25) ∧ OwnI wr (bc + 1) 3 (.slice av l.length capv) l ∧ Ext w wr) (fun i _ => l.length - (intOf i).toNat)
  case atStart => exact ⟨0, by omega, rfl, p0, p1, p2, hO', hw4⟩
  case round =>
    clear p0 p1 p2 hO' hw4
    obtain ⟨j, hj, rfl, r0, r1, r2, hO, hw4⟩ := hrel
    by_cases hlt : j < l.length
    · have hd : decide ((j : Int) < (l.length : Int)) = true := decide_eq_true (by omega)
      obtain ⟨nn, hnn⟩ := get_some hlt
      obtain ⟨bb, cap', hv, h1, h2⟩ := hO.there (by intro h; subst h; simp at hlt)
      cases hv
      have hc := (hO.cell encI_len hnn (j := 0) (u := .int .i64 nn) rfl).2.2
      simp only [Nat.mul_one, Nat.add_zero] at hc
      have ht : vecN g g' (l.take (j + 1)) = seenG (vecN g g' (l.take j)) nn (hasN g' nn) := by rw [take_snoc hnn, vecN_snoc]
      have hz := hvlt (l.take j)
      have kH1 := fun w => kH g' nn w hg'
      have kS1 := fun is w => kS r s m nn (vecN g g' (l.take j)) is hz w
      have HT := Lib.hid ht
      generalize vecN g g' (l.take j) = z at *
      generalize hasN g' nn = hb at *
      have kS2 := fun w => kS1 hb w
      rw [← HT.out] at kS2
      obtain ⟨y, hy⟩ : ∃ y, vecN g g' (l.take (j + 1)) = y := ⟨_, rfl⟩
      rw [hy] at kS2
      clear HT ht kS1 hz
      go_wp2_with fail
      obtain ⟨⟨b0, b1, b2, b3⟩, _⟩ := row4 r1
      obtain ⟨⟨c0, c1, c2, c3⟩, _⟩ := row4 r2
      refine wp_region_rg2_tail 7 Ext Ext [(5, .known (.bool hb)), (6, .known (.agg #[.int .i64 r, .int .i64 s, .int .i64 m, .int .u16 (y : Int)]))] (by kernel_rfl) (by kernel_rfl) (by kernel_rfl) (by kernel_rfl) (fun _ _ h => h) Ext.refl (fun _ _ _ => Ext.trans) Ext.refl (fun _ _ _ => Ext.trans) ?_
      intro σ
      simp only [List.take_succ_cons, List.take_zero, List.drop_succ_cons, List.drop_zero]
      have k1 : ∀ W, Ext wr.drew W → W.cell? ⟨w.heap.size + 1, 3, none⟩ = some (.int .u16 (g' : Int)) := fun W h => h.cell b3
      have k2 : ∀ W, Ext wr.drew W → W.cell? ⟨bc, 0, none⟩ = some (.int .i64 r) ∧ W.cell? ⟨bc, 1, none⟩ = some (.int .i64 s) ∧ W.cell? ⟨bc, 2, none⟩ = some (.int .i64 m) ∧ W.cell? ⟨bc, 3, none⟩ = some (.int .u16 (z : Int)) := fun W h => ⟨h.cell c0, h.cell c1, h.cell c2, h.cell c3⟩
      repeat (first | (refine rg_pure (x := ?_) rfl (by rfl) (fun W hW => ?_) ?_; rotate_left; (· have f0 := k1 W hW; obtain ⟨f1, f2, f3, f4⟩ := k2 W hW; go_simp; with_reducible rfl); simp only [Nat.reduceAdd, Act.put, List.setIfInBounds_toArray, List.set_cons_zero, List.set_cons_succ]) | (refine rg_skip rfl (by rfl) ?_; simp only [Nat.reduceAdd, Act.put, List.setIfInBounds_toArray, List.set_cons_zero, List.set_cons_succ]))
      refine rg_known rfl (by rfl) (fun W hW hno => ?_) ?_
      · go_simp
        refine (kH1 W).mono ?_
        rintro e W' ⟨rfl, rfl⟩
        exact ⟨_, rfl, Ext.refl _, rfl⟩
      simp only [Nat.reduceAdd, Act.put, List.setIfInBounds_toArray, List.set_cons_zero, List.set_cons_succ]
      repeat (first | (refine rg_pure (x := ?_) rfl (by rfl) (fun W hW => ?_) ?_; rotate_left; (· have f0 := k1 W hW; obtain ⟨f1, f2, f3, f4⟩ := k2 W hW; go_simp; with_reducible rfl); simp only [Nat.reduceAdd, Act.put, List.setIfInBounds_toArray, List.set_cons_zero, List.set_cons_succ]) | (refine rg_skip rfl (by rfl) ?_; simp only [Nat.reduceAdd, Act.put, List.setIfInBounds_toArray, List.set_cons_zero, List.set_cons_succ]))
      refine rg_known rfl (by rfl) (fun W hW hno => ?_) ?_
      · go_simp
        refine (kS2 W).mono ?_
        rintro e W' ⟨rfl, h⟩
        exact ⟨_, rfl, h, rfl⟩
      simp only [Nat.reduceAdd, Act.put, List.setIfInBounds_toArray, List.set_cons_zero, List.set_cons_succ]
      repeat (first | (refine rg_pure (x := ?_) rfl (by rfl) (fun W hW => ?_) ?_; rotate_left; (· have f0 := k1 W hW; obtain ⟨f1, f2, f3, f4⟩ := k2 W hW; go_simp; with_reducible rfl); simp only [Nat.reduceAdd, Act.put, List.setIfInBounds_toArray, List.set_cons_zero, List.set_cons_succ]) | (refine rg_skip rfl (by rfl) ?_; simp only [Nat.reduceAdd, Act.put, List.setIfInBounds_toArray, List.set_cons_zero, List.set_cons_succ]))
      refine rg_done fun W hW hno => ?_
      have hE := Ext.of_drew hW
      have s0 := hE.block r0
      have s1 := hE.block r1
      have s2 := hE.block r2
      have sO := hO.ext hE
      have hw5 := hw4.trans hE
      clear hno hW hE k1 k2 b0 b1 b2 b3 c0 c1 c2 c3 r0 r1 r2 hO hw4 hc
      obtain ⟨⟨c0, c1, c2, c3⟩, u0, u1, u2, u3⟩ := row4 s2
      show wpList _ _ _ _ _ _
      go_wp2_with fail
      go_round
      · obtain ⟨g1, g2, g3⟩ := set4 (x0 := .int .i64 r) (x1 := .int .i64 s) (x2 := .int .i64 m) (x3 := .int .u16 (y : Int)) s2
        refine ⟨j + 1, by omega, by go_num, (g2 _ (by omega)).trans s0, (g2 _ (by omega)).trans s1, by rw [hy]; exact g1, ?_, g3 _ hw5 (by omega)⟩
        refine sO.grown (row := some bc) ⟨rfl, rfl, rfl, by simp, fun k hk hne => g2 k (fun e => hne (by rw [e]))⟩ ?_
        right
        intro e
        simp [Value.ownBlock] at e
        omega
      · simp [intOf]; omega
    · have hd : decide ((j : Int) < (l.length : Int)) = false := decide_eq_false (by omega)
      have hjl : j = l.length := by omega
      rw [hjl, List.take_length, hvl] at r2
      clear hjl hvl hj hll hvlt
      obtain ⟨⟨a0, a1, a2, a3⟩, _⟩ := row4 r0
      go_wp2_with fail
      clear a0 a1 a2 a3
      have kS1 := fun w => kS r s m (k : Int) g true hg w
      have kS2 := fun w => kS r s m (k : Int) g false hg w
      have s1b : hasN (seenG g (k : Int) true) (k : Int) = true := by rw [hasN_bit hk16, seenG_bit hg hk16, if_pos rfl]
      have s2b : hasN (seenG g (k : Int) false) (k : Int) = false := by rw [hasN_bit hk16, seenG_bit hg hk16, if_pos rfl]
      have s1l := seenG_lt (k : Int) true hg
      have s2l := seenG_lt (k : Int) false hg
      have kH1 := fun w => kH (seenG g (k : Int) true) (k : Int) w s1l
      have kH2 := fun w => kH (seenG g (k : Int) false) (k : Int) w s2l
      rw [s1b] at kH1
      rw [s2b] at kH2
      have kP3 := fun w => kP r s m r s m g (seenG g (k : Int) true) hg s1l w
      rw [apartB_self] at kP3
      have kP4 := fun w => kP r' s' m' r s m g' g hg' hg w
      rw [hxc, apartB_comm, hq] at kP4
      clear kP kS kH kL s1b s2b s1l s2l
      generalize seenG g (k : Int) true = v1 at *
      generalize seenG g (k : Int) false = v2 at *
      generalize g ^^^ v1 = x3 at *
      have hbc : bc < wr.heap.size := (Array.getElem?_eq_some_iff.1 r2).1
      obtain ⟨⟨a0, a1, a2, a3⟩, _⟩ := row4 r0
      refine wp_region_box_tail 8 Ext Ext [(2, .known (.agg #[.int .i64 r, .int .i64 s, .int .i64 m, .int .u16 (v1 : Int)])), (5, .known (.agg #[.int .i64 r, .int .i64 s, .int .i64 m, .int .u16 (v2 : Int)])),
        (6, .unk (fun v W => ∃ b, v = .pointer (some ⟨b, 0, none⟩) ∧ bc < b ∧ W.heap[b]? = some (.cells #[.int .i64 0, .int .i64 0, .int .i64 0, .int .u16 0] 25)) (fun _ _ _ x ⟨b, h1, h2, h3⟩ => ⟨b, h1, h2, x.block h3⟩)),
        (7, .unk (fun v W => ∃ b, v = .pointer (some ⟨b, 0, none⟩) ∧ bc < b ∧ W.heap[b]? = some (.cells #[.int .i64 0, .int .i64 0, .int .i64 0, .int .u16 0] 25)) (fun _ _ _ x ⟨b, h1, h2, h3⟩ => ⟨b, h1, h2, x.block h3⟩))] [6, 7]
        (by kernel_rfl) (by kernel_rfl) (by kernel_rfl) (by kernel_rfl) (fun _ _ h => h) Ext.refl (fun _ _ _ => Ext.trans) Ext.refl (fun _ _ _ => Ext.trans) (fun _ _ h => h.size) ?_ ?_
      · intro i hi
        simp at hi
        rcases hi with rfl | rfl
        · exact ⟨rfl, fun o ho => by cases ho; exact ⟨_, fun a W => by go_simp; rfl⟩⟩
        · exact ⟨rfl, fun o ho => by cases ho; exact ⟨_, fun a W => by go_simp; rfl⟩⟩
      intro σ
      simp only [List.take_succ_cons, List.take_zero, List.drop_succ_cons, List.drop_zero]
      have k0 : ∀ W, Ext wr.drew W → W.cell? ⟨w.heap.size, 0, none⟩ = some (.int .i64 r) ∧ W.cell? ⟨w.heap.size, 1, none⟩ = some (.int .i64 s) ∧ W.cell? ⟨w.heap.size, 2, none⟩ = some (.int .i64 m) ∧ W.cell? ⟨w.heap.size, 3, none⟩ = some (.int .u16 (g : Int)) := fun W h => ⟨h.cell a0, h.cell a1, h.cell a2, h.cell a3⟩
      repeat (first | (refine rg_pure (x := ?_) rfl (by rfl) (fun W hW => ?_) ?_; rotate_left; (· obtain ⟨f1, f2, f3, f4⟩ := k0 W hW; go_simp; with_reducible rfl); simp only [Nat.reduceAdd, Act.put, List.setIfInBounds_toArray, List.set_cons_zero, List.set_cons_succ]) | (refine rg_skip rfl (by rfl) ?_; simp only [Nat.reduceAdd, Act.put, List.setIfInBounds_toArray, List.set_cons_zero, List.set_cons_succ]))
      refine rg_known rfl (by rfl) (fun W hW hno => ?_) ?_
      · go_simp
        refine (kS1 W).mono ?_
        rintro e W' ⟨rfl, h⟩
        exact ⟨_, rfl, h, rfl⟩
      simp only [Nat.reduceAdd, Act.put, List.setIfInBounds_toArray, List.set_cons_zero, List.set_cons_succ]
      repeat (first | (refine rg_pure (x := ?_) rfl (by rfl) (fun W hW => ?_) ?_; rotate_left; (· obtain ⟨f1, f2, f3, f4⟩ := k0 W hW; go_simp; with_reducible rfl); simp only [Nat.reduceAdd, Act.put, List.setIfInBounds_toArray, List.set_cons_zero, List.set_cons_succ]) | (refine rg_skip rfl (by rfl) ?_; simp only [Nat.reduceAdd, Act.put, List.setIfInBounds_toArray, List.set_cons_zero, List.set_cons_succ]))
      refine rg_known rfl (by rfl) (fun W hW hno => ?_) ?_
      · go_simp
        refine (kS2 W).mono ?_
        rintro e W' ⟨rfl, h⟩
        exact ⟨_, rfl, h, rfl⟩
      simp only [Nat.reduceAdd, Act.put, List.setIfInBounds_toArray, List.set_cons_zero, List.set_cons_succ]
      refine rg_unk rfl (by rfl) (fun W hW hno => ?_) ?_
      · go_simp
        exact ⟨Ext.alloc _ _, _, rfl, Nat.lt_of_lt_of_le hbc hW.size, heap_alloc_new _ _⟩
      simp only [Nat.reduceAdd, Act.put, List.setIfInBounds_toArray, List.set_cons_zero, List.set_cons_succ]
      refine rg_unk rfl (by rfl) (fun W hW hno => ?_) ?_
      · go_simp
        exact ⟨Ext.alloc _ _, _, rfl, Nat.lt_of_lt_of_le hbc hW.size, heap_alloc_new _ _⟩
      simp only [Nat.reduceAdd, Act.put, List.setIfInBounds_toArray, List.set_cons_zero, List.set_cons_succ]
      refine rg_done fun W hW hF => ?_
      intro hap
      have hne := hap 6 (by simp) 7 (by simp) (by decide) (by decide) (by decide)
      obtain ⟨b14, h14, l14, p14⟩ := hF 6 _ _ rfl (by decide)
      obtain ⟨b15, h15, l15, p15⟩ := hF 7 _ _ rfl (by decide)
      rw [h14, h15] at hne ⊢
      have hbb : b14 ≠ b15 := fun e => hne (by rw [e])
      have hE := Ext.of_drew hW
      have t0 := hE.block r0
      have t1 := hE.block r1
      have t2 := hE.block r2
      have hw5 := hw4.trans hE
      clear hF hap hne hW hE k0 a0 a1 a2 a3 r0 r1 r2 hw4 h14 h15 hO
      show wpList _ _ _ _ _ _
      refine wpList_store_row rfl _ _ _ rfl b14 _ rfl rfl _ _ p14 (by kernel_rfl) rfl (by simp [Value.oneCell']) ?_
      refine wpList_store_row rfl _ _ _ rfl b15 _ rfl rfl _ _ ((setRow_other _ _ _ _ (fun e => hbb e.symm)).trans p15) (by kernel_rfl) rfl (by simp [Value.oneCell']) ?_
      have n0 : w.heap.size ≠ b14 := by omega
      have n1 : w.heap.size ≠ b15 := by omega
      have n2 : w.heap.size + 1 ≠ b14 := by omega
      have n3 : w.heap.size + 1 ≠ b15 := by omega
      have s14 := (setRow_other (W.setRow b14 #[.int .i64 r, .int .i64 s, .int .i64 m, .int .u16 (v1 : Int)]) b15 b14 #[.int .i64 r, .int .i64 s, .int .i64 m, .int .u16 (v2 : Int)] hbb).trans (setRow_heap W b14 _ #[.int .i64 r, .int .i64 s, .int .i64 m, .int .u16 (v1 : Int)] _ _ p14)
      have s15 := setRow_heap (W.setRow b14 #[.int .i64 r, .int .i64 s, .int .i64 m, .int .u16 (v1 : Int)]) b15 _ #[.int .i64 r, .int .i64 s, .int .i64 m, .int .u16 (v2 : Int)] _ _ ((setRow_other _ _ _ _ (fun e => hbb e.symm)).trans p15)
      have s0 := (setRow_other (W.setRow b14 #[.int .i64 r, .int .i64 s, .int .i64 m, .int .u16 (v1 : Int)]) b15 w.heap.size #[.int .i64 r, .int .i64 s, .int .i64 m, .int .u16 (v2 : Int)] n1).trans ((setRow_other W b14 _ #[.int .i64 r, .int .i64 s, .int .i64 m, .int .u16 (v1 : Int)] n0).trans t0)
      have s1 := (setRow_other (W.setRow b14 #[.int .i64 r, .int .i64 s, .int .i64 m, .int .u16 (v1 : Int)]) b15 (w.heap.size + 1) #[.int .i64 r, .int .i64 s, .int .i64 m, .int .u16 (v2 : Int)] n3).trans ((setRow_other W b14 _ #[.int .i64 r, .int .i64 s, .int .i64 m, .int .u16 (v1 : Int)] n2).trans t1)
      have s2 := (setRow_other (W.setRow b14 #[.int .i64 r, .int .i64 s, .int .i64 m, .int .u16 (v1 : Int)]) b15 bc #[.int .i64 r, .int .i64 s, .int .i64 m, .int .u16 (v2 : Int)] (by omega)).trans ((setRow_other W b14 _ #[.int .i64 r, .int .i64 s, .int .i64 m, .int .u16 (v1 : Int)] (by omega)).trans t2)
      have hw6 : Ext w ((W.setRow b14 #[.int .i64 r, .int .i64 s, .int .i64 m, .int .u16 (v1 : Int)]).setRow b15 #[.int .i64 r, .int .i64 s, .int .i64 m, .int .u16 (v2 : Int)]) := (hw5.setRow (by omega) _).setRow (by omega) _
      clear t0 t1 t2 hw5 p14 p15
      generalize (W.setRow b14 #[.int .i64 r, .int .i64 s, .int .i64 m, .int .u16 (v1 : Int)]).setRow b15 #[.int .i64 r, .int .i64 s, .int .i64 m, .int .u16 (v2 : Int)] = W6 at *
      simp only [Act.put]
      obtain ⟨⟨a0, a1, a2, a3⟩, _⟩ := row4 s0
      obtain ⟨⟨c0, c1, c2, c3⟩, _⟩ := row4 s14
      go_wp2_with fail
      refine (kP3 _).mono ?_
      rintro e w7 ⟨rfl, hx7⟩
      have t0 := hx7.block s0
      have t1 := hx7.block s1
      have t2 := hx7.block s2
      have t14 := hx7.block s14
      have t15 := hx7.block s15
      have hw7 := hw6.trans hx7
      clear s0 s1 s2 s14 s15 hx7 hw6 a0 a1 a2 a3 c0 c1 c2 c3 kP3
      obtain ⟨⟨a0, a1, a2, a3⟩, _⟩ := row4 t0
      obtain ⟨⟨c0, c1, c2, c3⟩, _⟩ := row4 t1
      go_wp2_with fail
      refine (kP4 _).mono ?_
      rintro e w8 ⟨rfl, hx8⟩
      have s0 := hx8.block t0
      have s1 := hx8.block t1
      have s2 := hx8.block t2
      have s14 := hx8.block t14
      have s15 := hx8.block t15
      have hw8 := hw7.trans hx8
      clear t0 t1 t2 t14 t15 hx8 hw7 a0 a1 a2 a3 c0 c1 c2 c3 kP4
      obtain ⟨⟨a0, a1, a2, a3⟩, _⟩ := row4 s0
      obtain ⟨⟨b0, b1, b2, b3⟩, _⟩ := row4 s1
      obtain ⟨⟨c0, c1, c2, c3⟩, _⟩ := row4 s2
      obtain ⟨⟨d0, d1, d2, d3⟩, _⟩ := row4 s14
      obtain ⟨⟨e0, e1, e2, e3⟩, _⟩ := row4 s15
      go_wp2_with fail
      have hck := kC r s m (v1 : Int)
      have hrk := kR r s m (g : Int)
      generalize (if chkB r s m = true then (0 : Int) else 40) = ck at *
      refine wp_region_rg Ext [(19, .known (.bool true)), (25, .known (.bool false)), (43, .known (.int .i64 ck)), (45, .known (.int .i64 ck))] (by kernel_rfl) (by kernel_rfl) (by kernel_rfl) Ext.refl (fun _ _ _ => Ext.trans) ?_
      intro σ
      simp only
      have k0 : ∀ W, Ext w8.drew W → W.cell? ⟨w.heap.size, 0, none⟩ = some (.int .i64 r) ∧ W.cell? ⟨w.heap.size, 1, none⟩ = some (.int .i64 s) ∧ W.cell? ⟨w.heap.size, 2, none⟩ = some (.int .i64 m) ∧ W.cell? ⟨w.heap.size, 3, none⟩ = some (.int .u16 (g : Int)) := fun W h => ⟨h.cell a0, h.cell a1, h.cell a2, h.cell a3⟩
      have k1 : ∀ W, Ext w8.drew W → W.cell? ⟨w.heap.size + 1, 0, none⟩ = some (.int .i64 r') ∧ W.cell? ⟨w.heap.size + 1, 1, none⟩ = some (.int .i64 s') ∧ W.cell? ⟨w.heap.size + 1, 2, none⟩ = some (.int .i64 m') ∧ W.cell? ⟨w.heap.size + 1, 3, none⟩ = some (.int .u16 (g' : Int)) := fun W h => ⟨h.cell b0, h.cell b1, h.cell b2, h.cell b3⟩
      have k2 : ∀ W, Ext w8.drew W → W.cell? ⟨bc, 0, none⟩ = some (.int .i64 r) ∧ W.cell? ⟨bc, 1, none⟩ = some (.int .i64 s) ∧ W.cell? ⟨bc, 2, none⟩ = some (.int .i64 m) ∧ W.cell? ⟨bc, 3, none⟩ = some (.int .u16 (g' : Int)) := fun W h => ⟨h.cell c0, h.cell c1, h.cell c2, h.cell c3⟩
      have k3 : ∀ W, Ext w8.drew W → W.cell? ⟨b14, 0, none⟩ = some (.int .i64 r) ∧ W.cell? ⟨b14, 1, none⟩ = some (.int .i64 s) ∧ W.cell? ⟨b14, 2, none⟩ = some (.int .i64 m) ∧ W.cell? ⟨b14, 3, none⟩ = some (.int .u16 (v1 : Int)) := fun W h => ⟨h.cell d0, h.cell d1, h.cell d2, h.cell d3⟩
      have k4 : ∀ W, Ext w8.drew W → W.cell? ⟨b15, 3, none⟩ = some (.int .u16 (v2 : Int)) := fun W h => h.cell e3
      repeat (first | (refine rg_pure (x := ?_) rfl (by rfl) (fun W hW => ?_) ?_; rotate_left; (· obtain ⟨f1, f2, f3, f4⟩ := k0 W hW; obtain ⟨f5, f6, f7, f8⟩ := k1 W hW; obtain ⟨f9, fa, fb, fc⟩ := k2 W hW; obtain ⟨fd, fe, ff, fg⟩ := k3 W hW; have fh := k4 W hW; go_simp; with_reducible rfl); simp only [Nat.reduceAdd, Act.put, List.setIfInBounds_toArray, List.set_cons_zero, List.set_cons_succ]) | (refine rg_skip rfl (by rfl) ?_; simp only [Nat.reduceAdd, Act.put, List.setIfInBounds_toArray, List.set_cons_zero, List.set_cons_succ]))
      refine rg_pure (x := .bool q) rfl (by rfl) (fun W hW => ?_) ?_
      · go_simp
        rw [← hq]
        unfold apartB
        by_cases z1 : r = r' <;> by_cases z2 : s = s' <;> by_cases z3 : m = m' <;> simp [z1, z2, z3]
      simp only [Nat.reduceAdd, Act.put, List.setIfInBounds_toArray, List.set_cons_zero, List.set_cons_succ]
      repeat (first | (refine rg_pure (x := ?_) rfl (by rfl) (fun W hW => ?_) ?_; rotate_left; (· obtain ⟨f1, f2, f3, f4⟩ := k0 W hW; obtain ⟨f5, f6, f7, f8⟩ := k1 W hW; obtain ⟨f9, fa, fb, fc⟩ := k2 W hW; obtain ⟨fd, fe, ff, fg⟩ := k3 W hW; have fh := k4 W hW; go_simp; with_reducible rfl); simp only [Nat.reduceAdd, Act.put, List.setIfInBounds_toArray, List.set_cons_zero, List.set_cons_succ]) | (refine rg_skip rfl (by rfl) ?_; simp only [Nat.reduceAdd, Act.put, List.setIfInBounds_toArray, List.set_cons_zero, List.set_cons_succ]))
      refine rg_known rfl (by rfl) (fun W hW hno => ?_) ?_
      · go_simp
        refine (kH1 W).mono ?_
        rintro e W' ⟨rfl, rfl⟩
        exact ⟨_, rfl, Ext.refl _, rfl⟩
      simp only [Nat.reduceAdd, Act.put, List.setIfInBounds_toArray, List.set_cons_zero, List.set_cons_succ]
      repeat (first | (refine rg_pure (x := ?_) rfl (by rfl) (fun W hW => ?_) ?_; rotate_left; (· obtain ⟨f1, f2, f3, f4⟩ := k0 W hW; obtain ⟨f5, f6, f7, f8⟩ := k1 W hW; obtain ⟨f9, fa, fb, fc⟩ := k2 W hW; obtain ⟨fd, fe, ff, fg⟩ := k3 W hW; have fh := k4 W hW; go_simp; with_reducible rfl); simp only [Nat.reduceAdd, Act.put, List.setIfInBounds_toArray, List.set_cons_zero, List.set_cons_succ]) | (refine rg_skip rfl (by rfl) ?_; simp only [Nat.reduceAdd, Act.put, List.setIfInBounds_toArray, List.set_cons_zero, List.set_cons_succ]))
      refine rg_known rfl (by rfl) (fun W hW hno => ?_) ?_
      · go_simp
        refine (kH2 W).mono ?_
        rintro e W' ⟨rfl, rfl⟩
        exact ⟨_, rfl, Ext.refl _, rfl⟩
      simp only [Nat.reduceAdd, Act.put, List.setIfInBounds_toArray, List.set_cons_zero, List.set_cons_succ]
      repeat (first | (refine rg_pure (x := ?_) rfl (by rfl) (fun W hW => ?_) ?_; rotate_left; (· obtain ⟨f1, f2, f3, f4⟩ := k0 W hW; obtain ⟨f5, f6, f7, f8⟩ := k1 W hW; obtain ⟨f9, fa, fb, fc⟩ := k2 W hW; obtain ⟨fd, fe, ff, fg⟩ := k3 W hW; have fh := k4 W hW; go_simp; with_reducible rfl); simp only [Nat.reduceAdd, Act.put, List.setIfInBounds_toArray, List.set_cons_zero, List.set_cons_succ]) | (refine rg_skip rfl (by rfl) ?_; simp only [Nat.reduceAdd, Act.put, List.setIfInBounds_toArray, List.set_cons_zero, List.set_cons_succ]))
      refine rg_known rfl (by rfl) (fun W hW hno => ?_) ?_
      · go_simp
        refine (hrk W).mono ?_
        rintro e W' ⟨rfl, h⟩
        exact ⟨_, rfl, h, rfl⟩
      simp only [Nat.reduceAdd, Act.put, List.setIfInBounds_toArray, List.set_cons_zero, List.set_cons_succ]
      repeat (first | (refine rg_pure (x := ?_) rfl (by rfl) (fun W hW => ?_) ?_; rotate_left; (· obtain ⟨f1, f2, f3, f4⟩ := k0 W hW; obtain ⟨f5, f6, f7, f8⟩ := k1 W hW; obtain ⟨f9, fa, fb, fc⟩ := k2 W hW; obtain ⟨fd, fe, ff, fg⟩ := k3 W hW; have fh := k4 W hW; go_simp; with_reducible rfl); simp only [Nat.reduceAdd, Act.put, List.setIfInBounds_toArray, List.set_cons_zero, List.set_cons_succ]) | (refine rg_skip rfl (by rfl) ?_; simp only [Nat.reduceAdd, Act.put, List.setIfInBounds_toArray, List.set_cons_zero, List.set_cons_succ]))
      refine rg_known rfl (by rfl) (fun W hW hno => ?_) ?_
      · go_simp
        refine (hck W).mono ?_
        rintro e W' ⟨rfl, h⟩
        exact ⟨_, rfl, h, rfl⟩
      simp only [Nat.reduceAdd, Act.put, List.setIfInBounds_toArray, List.set_cons_zero, List.set_cons_succ]
      repeat (first | (refine rg_pure (x := ?_) rfl (by rfl) (fun W hW => ?_) ?_; rotate_left; (· obtain ⟨f1, f2, f3, f4⟩ := k0 W hW; obtain ⟨f5, f6, f7, f8⟩ := k1 W hW; obtain ⟨f9, fa, fb, fc⟩ := k2 W hW; obtain ⟨fd, fe, ff, fg⟩ := k3 W hW; have fh := k4 W hW; go_simp; with_reducible rfl); simp only [Nat.reduceAdd, Act.put, List.setIfInBounds_toArray, List.set_cons_zero, List.set_cons_succ]) | (refine rg_skip rfl (by rfl) ?_; simp only [Nat.reduceAdd, Act.put, List.setIfInBounds_toArray, List.set_cons_zero, List.set_cons_succ]))
      refine rg_done fun W hW hno => ?_
      have hEnd := hw8.trans (Ext.of_drew hW)
      clear hno
      go_wp2_with fail
      go_ret
      exact ⟨rfl, hEnd⟩
end Go.Proofs.Ytkmkfkpblkhpmaa.VCst
