/- CstateFollows: the walk. -/
import Derived.Test.YtkmkfkpblkhpmaaVAlive04
import Derived.Test.YtkmkfkpblkhpmaaVRefCompare
import Derived.Test.YtkmkfkpblkhpmaaVRefAgo
import Derived.Test.YtkmkfkpblkhpmaaVCstArg
namespace Go.Proofs.Ytkmkfkpblkhpmaa.VCst
open Go.RowKit Go.VBase Go.VRg

/-- One step: the successor, and what stands so many slots ago. -/
theorem follow_step {ρ ς M g k R S i : Int} (hk : 1 ≤ k ∧ k ≤ 16) (h0 : 0 ≤ ρ) (h1 : ρ ≤ R + (i - 1)) (h2 : 0 ≤ ς ∧ ς < k) (hM : 0 ≤ M ∧ M ≤ 7) (hR : 0 ≤ R ∧ R ≤ 2147483446) (hS : 0 ≤ S ∧ S < k) (hi : 1 ≤ i ∧ i ≤ 100)
    (hs : ρ * k + ς = R * k + S + (i - 1)) : ∃ ρ' ς', succB ρ ς M g k = ((ρ', ς', M, g), 0) ∧ orB (cmpB ρ ρ') (cmpB ς ς') = -1 ∧ 0 ≤ ς' ∧ ς' < k ∧ 0 ≤ ρ' ∧ ρ' ≤ R + i ∧ ρ' * k + ς' = R * k + S + i ∧ agoB ρ' ς' M k i = (R, S, 0) := by
  have hof : ofB ρ ς M k = true := by
    unfold ofB
    rw [chkB_of ⟨h0, by omega, h2.1, by omega, hM.1, hM.2⟩]
    simp; omega
  have hago : ∀ ρ' ς', 0 ≤ ρ' → ρ' ≤ R + i → 0 ≤ ς' → ς' < k → ρ' * k + ς' = R * k + S + i → agoB ρ' ς' M k i = (R, S, 0) := fun ρ' ς' b0 b1 b2 b3 b4 => by
    unfold agoB
    have hof' : ofB ρ' ς' M k = true := by
      unfold ofB
      rw [chkB_of ⟨b0, by omega, b2, by omega, hM.1, hM.2⟩]
      simp; omega
    have hRk : 0 ≤ R * k := Int.mul_nonneg hR.1 (by omega)
    rw [if_pos ⟨hof', by omega, by rw [b4]; omega⟩, b4, show R * k + S + i - i = R * k + S by omega]
    have := div_of (ρ := R) (ς := S) (n := k) rfl hS.1 hS.2
    rw [this.1, this.2]
  unfold succB
  rw [hof]
  simp only [Bool.true_eq_false, if_false]
  by_cases hc : ς + 1 = k
  · rw [if_pos hc, if_neg (by omega)]
    have hsum : (ρ + 1) * k + 0 = R * k + S + i := by rw [Int.add_mul]; omega
    refine ⟨ρ + 1, 0, rfl, ?_, by omega, by omega, by omega, by omega, hsum, hago _ _ (by omega) (by omega) (by omega) (by omega) hsum⟩
    unfold orB cmpB
    have : ρ < ρ + 1 := by omega
    simp [this]
  · rw [if_neg hc]
    have hsum : ρ * k + (ς + 1) = R * k + S + i := by omega
    refine ⟨ρ, ς + 1, rfl, ?_, by omega, by omega, h0, by omega, hsum, hago _ _ h0 (by omega) (by omega) (by omega) hsum⟩
    unfold orB cmpB
    have : ς < ς + 1 := by omega
    simp [this]

theorem set3 {W : World} {b : Nat} {c0 c1 c2 c3 x0 x1 x2 : Value} {t : TypeId} (h : W.heap[b]? = some (.cells #[c0, c1, c2, c3] t)) :
    (((W.setCell ⟨b, 1, none⟩ x1).setCell ⟨b, 0, none⟩ x0).setCell ⟨b, 2, none⟩ x2).heap[b]? = some (.cells #[x0, x1, x2, c3] t) ∧
    (∀ w, Ext w W → w.heap.size ≤ b → Ext w (((W.setCell ⟨b, 1, none⟩ x1).setCell ⟨b, 0, none⟩ x0).setCell ⟨b, 2, none⟩ x2)) :=
  ⟨set1 (set1 (set1 h)), fun w hw hb => Below.setCell (Below.setCell (Below.setCell hw hb _) hb _) hb _⟩
theorem set4 {W : World} {b : Nat} {c0 c1 c2 c3 x0 x1 x2 x3 : Value} {t : TypeId} (h : W.heap[b]? = some (.cells #[c0, c1, c2, c3] t)) :
    ((((W.setCell ⟨b, 0, none⟩ x0).setCell ⟨b, 1, none⟩ x1).setCell ⟨b, 2, none⟩ x2).setCell ⟨b, 3, none⟩ x3).heap[b]? = some (.cells #[x0, x1, x2, x3] t) ∧
    (∀ k, k ≠ b → ((((W.setCell ⟨b, 0, none⟩ x0).setCell ⟨b, 1, none⟩ x1).setCell ⟨b, 2, none⟩ x2).setCell ⟨b, 3, none⟩ x3).heap[k]? = W.heap[k]?) ∧
    (∀ w, Ext w W → w.heap.size ≤ b → Ext w ((((W.setCell ⟨b, 0, none⟩ x0).setCell ⟨b, 1, none⟩ x1).setCell ⟨b, 2, none⟩ x2).setCell ⟨b, 3, none⟩ x3)) :=
  ⟨set1 (set1 (set1 (set1 h))), fun k hk => (heap_setCell_other _ ⟨b, 3, none⟩ k _ hk).trans ((heap_setCell_other _ ⟨b, 2, none⟩ k _ hk).trans ((heap_setCell_other _ ⟨b, 1, none⟩ k _ hk).trans (heap_setCell_other _ ⟨b, 0, none⟩ k _ hk))),
   fun w hw hb => Below.setCell (Below.setCell (Below.setCell (Below.setCell hw hb _) hb _) hb _) hb _⟩

set_option maxRecDepth 100000 in
set_option maxHeartbeats 4000000 in
theorem Follows_any (r s m g : Int) (n q : Nat) (hn : n < 256) (hq : q < 256) (w : World) :
    Calls Try.prog 8 #[cst r s m g, .int .u8 (n : Int), .int .u8 (q : Int)] w fun e w' => e = .returned (.bool true) ∧ Ext w w' := by
  have kA := fun w => alive_calls w
  have kS := fun ρ ς M k w => Succ_calls ρ ς M g k w
  have kC := fun r s m g r' s' m' g' w => Compare_calls r s m g r' s' m' g' w
  have kG := fun ρ ς M k i hi w => Ago_calls ρ ς M g k i hi w
  -- the numbers that the law draws from its arguments
  obtain ⟨k0, hk0⟩ : ∃ z, (n : Int).tmod 16 = z := ⟨_, rfl⟩
  obtain ⟨k, hk⟩ : ∃ z, 1 + k0 = z := ⟨_, rfl⟩
  obtain ⟨t, ht⟩ : ∃ z, (q : Int).tmod 101 = z := ⟨_, rfl⟩
  obtain ⟨us, hus⟩ : ∃ z, IntKind.u32.wrap s = z := ⟨_, rfl⟩
  obtain ⟨ur, hur⟩ : ∃ z, IntKind.u32.wrap r = z := ⟨_, rfl⟩
  obtain ⟨um, hum⟩ : ∃ z, IntKind.u32.wrap m = z := ⟨_, rfl⟩
  obtain ⟨S, hS⟩ : ∃ z, us.tmod k = z := ⟨_, rfl⟩
  obtain ⟨R, hR⟩ : ∃ z, ur.tmod 2147483447 = z := ⟨_, rfl⟩
  obtain ⟨M, hM⟩ : ∃ z, um.tmod 8 = z := ⟨_, rfl⟩
  have bk : 1 ≤ k ∧ k ≤ 16 := by rw [Int.tmod_eq_emod_of_nonneg (by omega)] at hk0; omega
  have bt : 0 ≤ t ∧ t ≤ 100 := by rw [Int.tmod_eq_emod_of_nonneg (by omega)] at ht; omega
  have b0 : 0 ≤ us ∧ us < 4294967296 := by rw [IntKind.wrap_u32] at hus; omega
  have b1 : 0 ≤ ur ∧ ur < 4294967296 := by rw [IntKind.wrap_u32] at hur; omega
  have b2 : 0 ≤ um ∧ um < 4294967296 := by rw [IntKind.wrap_u32] at hum; omega
  have bS : 0 ≤ S ∧ S < k := by rw [Int.tmod_eq_emod_of_nonneg (by omega)] at hS; rw [← hS]; exact ⟨Int.emod_nonneg _ (by omega), Int.emod_lt_of_pos _ (by omega)⟩
  have bR : 0 ≤ R ∧ R ≤ 2147483446 := by rw [Int.tmod_eq_emod_of_nonneg (by omega)] at hR; omega
  have bM : 0 ≤ M ∧ M ≤ 7 := by rw [Int.tmod_eq_emod_of_nonneg (by omega)] at hM; omega
  have nk : k ≠ 0 := by omega
  have nk' : (k == 0) = false := by simp; omega
  unfold cst at *
  go_enter Try.func8, Try.ntmps8
  go_wp2_with fail
  refine (kA _).mono ?_
  rintro e w1 ⟨rfl, hx1⟩
  have q0 := hx1.block (heap_alloc_new w (.cells #[.int .i64 r, .int .i64 s, .int .i64 m, .int .u16 g] 25))
  have hw1 := (Ext.alloc w (.cells #[.int .i64 r, .int .i64 s, .int .i64 m, .int .u16 g] 25)).trans hx1
  clear hx1
  obtain ⟨⟨a0, a1, a2, a3⟩, u0, u1, u2, u3⟩ := row4 q0
  go_wp2_with fail
  have hbs : w.heap.size < w1.heap.size := (Array.getElem?_eq_some_iff.1 q0).1
  have w3 := set3 (x0 := .int .i64 R) (x1 := .int .i64 S) (x2 := .int .i64 M) q0
  have r0 := (Ext.alloc _ (.cells #[.int .i64 R, .int .i64 S, .int .i64 M, .int .u16 g] 25)).block w3.1
  have r1 := heap_alloc_new (((w1.setCell ⟨w.heap.size, 1, none⟩ (.int .i64 S)).setCell ⟨w.heap.size, 0, none⟩ (.int .i64 R)).setCell ⟨w.heap.size, 2, none⟩ (.int .i64 M)) (.cells #[.int .i64 R, .int .i64 S, .int .i64 M, .int .u16 g] 25)
  simp only [World.size_setCell] at r1
  have hx2 := (w3.2 _ hw1 (Nat.le_refl _)).thenAlloc (.cells #[.int .i64 R, .int .i64 S, .int .i64 M, .int .u16 g] 25)
  generalize (((w1.setCell ⟨w.heap.size, 1, none⟩ (.int .i64 S)).setCell ⟨w.heap.size, 0, none⟩ (.int .i64 R)).setCell ⟨w.heap.size, 2, none⟩ (.int .i64 M)).alloc (.cells #[.int .i64 R, .int .i64 S, .int .i64 M, .int .u16 g] 25) = W0 at *
  obtain ⟨bat, hbat⟩ : ∃ z, w1.heap.size = z := ⟨_, rfl⟩
  rw [hbat] at hbs r1 ⊢
  clear hbat w3 q0 hw1 a0 a1 a2 a3 u0 u1 u2 u3 hk0 hk ht hus hur hum hS hR hM b0 b1 b2 nk nk' hn hq
  obtain ⟨P, hP⟩ : ∃ z, R * k = z := ⟨_, rfl⟩
  have bP : 0 ≤ P ∧ P ≤ 34359735136 := by
    rw [← hP]
    exact ⟨Int.mul_nonneg bR.1 (by omega), Int.le_trans (Int.mul_le_mul_of_nonneg_left bk.2 bR.1) (by omega)⟩
  go_loopw [11] (fun v wr => ∃ (j ρ ς : Int), v = .int .i64 j ∧ 1 ≤ j ∧ j ≤ t + 1 ∧ 0 ≤ ρ ∧ ρ ≤ R + (j - 1) ∧ (0 ≤ ς ∧ ς < k) ∧ ρ * k + ς = R * k + S + (j - 1) ∧ wr.heap[w.heap.size]? = some (.cells #[.int .i64 R, .int .i64 S, .int .i64 M, .int .u16 g] 25) ∧ wr.heap[bat]? = some (.cells #[.int .i64 ρ, .int .i64 ς, .int .i64 M, .int .u16 g] 25) ∧ Ext w wr) (fun v _ => (t + 1).toNat - (intOf v).toNat)
  case atStart => exact ⟨1, R, S, rfl, by omega, by omega, bR.1, by omega, bS, by omega, r0, r1, hx2⟩
  case round =>
    clear r0 r1 hx2
    obtain ⟨j, ρ, ς, rfl, hj1, hj2, hρ0, hρ1, hς, hsum, r0, r1, hx2⟩ := hrel
    by_cases hjt : j ≤ t
    · have hd : decide (j ≤ t) = true := decide_eq_true hjt
      obtain ⟨ρ', ς', f1, f2, f3, f4, f5, f6, f7, f8⟩ := follow_step (g := g) bk hρ0 hρ1 hς bM bR bS ⟨hj1, by omega⟩ hsum
      have kS1 := fun w => kS ρ ς M k w
      rw [f1] at kS1
      have kC1 := fun w => kC ρ ς M g ρ' ς' M g w
      rw [f2] at kC1
      have kG1 := fun w => kG ρ' ς' M k j ⟨by omega, by omega⟩ w
      rw [f8] at kG1
      unfold SuccPost cst at kS1
      unfold AgoPost at kG1
      obtain ⟨P', hP'⟩ : ∃ z, ρ' * k = z := ⟨_, rfl⟩
      have bP' : 0 ≤ P' ∧ P' ≤ 34359737000 := by
        rw [← hP']
        exact ⟨Int.mul_nonneg f5 (by omega), Int.le_trans (Int.mul_le_mul_of_nonneg_left bk.2 f5) (by omega)⟩
      have hq : P' + ς' = P + S + j := by rw [← hP', ← hP]; exact f7
      have hge : decide (k ≤ ς') = false := decide_eq_false (by omega)
      have F := Lib.hid (And.intro f6 f7)
      clear f1 f2 f6 f7 f8 kS kC kG hsum
      obtain ⟨⟨a0, a1, a2, a3⟩, _⟩ := row4 r0
      obtain ⟨⟨c0, c1, c2, c3⟩, _⟩ := row4 r1
      go_wp2_with fail
      refine (kS1 _).mono ?_
      rintro e w2 ⟨rfl, hx⟩
      have p0 := (hx.trans (Ext.alloc w2 (.cells #[.int .i64 ρ', .int .i64 ς', .int .i64 M, .int .u16 g] 25))).block r0
      have p1 := (hx.trans (Ext.alloc w2 (.cells #[.int .i64 ρ', .int .i64 ς', .int .i64 M, .int .u16 g] 25))).block r1
      have p2 := heap_alloc_new w2 (.cells #[.int .i64 ρ', .int .i64 ς', .int .i64 M, .int .u16 g] 25)
      have hx3 := (hx2.trans hx).thenAlloc (.cells #[.int .i64 ρ', .int .i64 ς', .int .i64 M, .int .u16 g] 25)
      have aa : ∀ c T, ((w2.alloc (.cells c T)).cell? ⟨w.heap.size, 2, none⟩ = some (.int .i64 M)) := fun c T => (hx.trans (Ext.alloc w2 _)).cell a2
      have ab : ∀ c T, ((w2.alloc (.cells c T)).cell? ⟨w.heap.size, 3, none⟩ = some (.int .u16 g)) := fun c T => (hx.trans (Ext.alloc w2 _)).cell a3
      have ac : ∀ c T, ((w2.alloc (.cells c T)).cell? ⟨bat, 0, none⟩ = some (.int .i64 ρ)) := fun c T => (hx.trans (Ext.alloc w2 _)).cell c0
      have ad : ∀ c T, ((w2.alloc (.cells c T)).cell? ⟨bat, 1, none⟩ = some (.int .i64 ς)) := fun c T => (hx.trans (Ext.alloc w2 _)).cell c1
      have ae : ∀ c T, ((w2.alloc (.cells c T)).cell? ⟨bat, 2, none⟩ = some (.int .i64 M)) := fun c T => (hx.trans (Ext.alloc w2 _)).cell c2
      have af : ∀ c T, ((w2.alloc (.cells c T)).cell? ⟨bat, 3, none⟩ = some (.int .u16 g)) := fun c T => (hx.trans (Ext.alloc w2 _)).cell c3
      clear a0 a1 a2 a3 c0 c1 c2 c3 hx hx2 r0 r1
      go_wp2_with fail
      refine (kC1 _).mono ?_
      rintro e w4 ⟨rfl, hx⟩
      have r0 := hx.block p0
      have r1 := hx.block p1
      have r2 := hx.block p2
      have hx4 := hx3.trans hx
      generalize w2.heap.size = bn at *
      clear aa ab ac ad ae af p0 p1 p2 hx hx3
      obtain ⟨⟨a0, a1, a2, a3⟩, _⟩ := row4 r0
      obtain ⟨⟨c0, c1, c2, c3⟩, _⟩ := row4 r1
      obtain ⟨⟨d0, d1, d2, d3⟩, _⟩ := row4 r2
      go_wp2_with fail
      refine (kG1 _).mono ?_
      rintro e w5 ⟨rfl, hx⟩
      have p0 := hx.block r0
      have p1 := hx.block r1
      have p2 := hx.block r2
      have hx5 := hx4.trans hx
      clear a0 a1 a2 a3 c0 c1 c2 c3 d0 d1 d2 d3 r0 r1 r2 hx4 hx
      obtain ⟨⟨a0, a1, a2, a3⟩, _⟩ := row4 p0
      obtain ⟨⟨c0, c1, c2, c3⟩, u0, u1, u2, u3⟩ := row4 p1
      obtain ⟨⟨d0, d1, d2, d3⟩, _⟩ := row4 p2
      go_wp2_with fail
      go_round
      · obtain ⟨g1, g2, g3⟩ := set4 (x0 := .int .i64 ρ') (x1 := .int .i64 ς') (x2 := .int .i64 M) (x3 := .int .u16 g) p1
        refine ⟨j + 1, ρ', ς', by go_num, by omega, by omega, f5, by have := F.out.1; omega, ⟨f3, f4⟩, by have := F.out.2; omega, (g2 _ (by omega)).trans p0, g1, g3 _ hx5 (by omega)⟩
      · simp [intOf]; omega
    · have hd : decide (j ≤ t) = false := decide_eq_false hjt
      go_wp2_with fail
      go_ret
      exact ⟨rfl, hx2⟩
end Go.Proofs.Ytkmkfkpblkhpmaa.VCst
