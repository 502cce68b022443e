/- The document's Ago. -/
import Derived.Test.YtkmkfkpblkhpmaaVAgo
namespace Go.Proofs.Ytkmkfkpblkhpmaa.VCst
open Go.RowKit Go.VBase Go.VRg

theorem div_of {ρ ς n t : Int} (h : ρ * n + ς = t) (h0 : 0 ≤ ς) (h1 : ς < n) : t / n = ρ ∧ t % n = ς := by
  have hn : n ≠ 0 := by omega
  rw [← h, Int.add_comm]
  constructor
  · rw [Int.add_mul_ediv_right _ _ hn, Int.ediv_eq_zero_of_lt h0 h1]; omega
  · rw [Int.add_mul_emod_self_right]; exact Int.emod_eq_of_lt h0 h1

set_option maxHeartbeats 1000000 in
theorem refAgo_calls (r s m v n k : Int) (hk : -9223372036854775808 ≤ k ∧ k ≤ 9223372036854775807) (w : World) : Calls Try.prog 14 #[cst r s m v, .int .i64 n, .int .i64 k] w (AgoPost (agoB r s m n k) w) := by
  have hO := fun w => fits_calls r s m v n w
  obtain ⟨x, hx⟩ : ∃ x, agoB r s m n k = x := ⟨_, rfl⟩
  rw [hx]
  have HX := Lib.hid hx
  clear hx
  unfold cst at hO ⊢
  go_enter Try.func14, Try.ntmps14
  go_wp2_with fail
  refine (hO _).mono ?_
  rintro e w1 ⟨rfl, hx⟩
  have hx1 := (Ext.alloc w _).trans hx
  have r0 : w1.heap[w.heap.size]? = some (.cells #[.int .i64 r, .int .i64 s, .int .i64 m, .int .u16 v] 25) := hx.block (heap_alloc_new w _)
  obtain ⟨⟨a0, a1, a2, a3⟩, f0, f1, f2, f3⟩ := row4 r0
  clear r0 hx
  cases hb : ofB r s m n with
  | false =>
    have hxx : x = (0, 0, 40) := by rw [← HX.out]; unfold agoB; rw [if_neg (by rw [hb]; simp)]
    clear HX hb
    go_wp2_with fail
    refine wp_region_rg Eq [] (by kernel_rfl) (by kernel_rfl) (by kernel_rfl) (fun _ => rfl) (fun _ _ _ => Eq.trans) ?_
    intro σ
    simp only
    repeat (first
      | (refine rg_pure (x := ?_) rfl (by rfl) (fun W hW => ?_) ?_; rotate_left; (· subst hW; go_simp; with_reducible rfl); simp only [Nat.reduceAdd, Act.put, List.setIfInBounds_toArray, List.set_cons_zero, List.set_cons_succ])
      | (refine rg_skip rfl (by rfl) ?_; simp only [Nat.reduceAdd, Act.put, List.setIfInBounds_toArray, List.set_cons_zero, List.set_cons_succ]))
    refine rg_done fun W hW hno => ?_
    subst hW
    clear hno
    go_wp2_with fail
    refine bodyPost_ret (results_tmp3 rfl _ _ _) rfl ?_
    subst hxx
    exact ⟨rfl, hx1.thenDrew⟩
  | true =>
    obtain ⟨j1, j2, j3, j4, j5, j6, j7, j8, j9⟩ := ofB_facts hb
    by_cases h0 : k < 0
    · have hxx : x = (0, 0, 40) := by rw [← HX.out]; unfold agoB; rw [if_neg (by omega)]
      have h0' : decide (k < 0) = true := decide_eq_true h0
      clear HX hb
      go_wp2_with fail
      refine wp_region_rg Eq [] (by kernel_rfl) (by kernel_rfl) (by kernel_rfl) (fun _ => rfl) (fun _ _ _ => Eq.trans) ?_
      intro σ
      simp only
      repeat (first
        | (refine rg_pure (x := ?_) rfl (by rfl) (fun W hW => ?_) ?_; rotate_left; (· subst hW; go_simp; with_reducible rfl); simp only [Nat.reduceAdd, Act.put, List.setIfInBounds_toArray, List.set_cons_zero, List.set_cons_succ])
        | (refine rg_skip rfl (by rfl) ?_; simp only [Nat.reduceAdd, Act.put, List.setIfInBounds_toArray, List.set_cons_zero, List.set_cons_succ]))
      refine rg_done fun W hW hno => ?_
      subst hW
      clear hno
      go_wp2_with fail
      refine bodyPost_ret (results_tmp3 rfl _ _ _) rfl ?_
      subst hxx
      exact ⟨rfl, hx1.thenDrew⟩
    · have h0' : decide (k < 0) = false := decide_eq_false h0
      have hk0 : 0 ≤ k := by omega
      obtain ⟨q, hq⟩ : ∃ q, k / n = q := ⟨_, rfl⟩
      obtain ⟨e, he⟩ : ∃ e, k % n = e := ⟨_, rfl⟩
      have hqe : q * n + e = k := by rw [← hq, ← he, Int.mul_comm]; exact Int.mul_ediv_add_emod k n
      have he0 : 0 ≤ e ∧ e < n := by rw [← he]; exact ⟨Int.emod_nonneg _ (by omega), Int.emod_lt_of_pos _ (by omega)⟩
      have hq0 : 0 ≤ q ∧ q ≤ 9223372036854775807 := by
        rw [← hq]
        exact ⟨Int.ediv_nonneg hk0 (by omega), Int.le_trans (Int.ediv_le_self _ hk0) hk.2⟩
      have d1 : k.tdiv n = q := by rw [Int.tdiv_eq_ediv_of_nonneg hk0]; exact hq
      have d2 : k.tmod n = e := by rw [Int.tmod_eq_emod_of_nonneg hk0]; exact he
      have d3 : IntKind.i64.wrap q = q := by rw [IntKind.wrap_i64]; omega
      have d4 : IntKind.i64.wrap e = e := by rw [IntKind.wrap_i64]; omega
      have d5 : (n == 0) = false := by simp; omega
      have d6 : n ≠ 0 := by omega
      have hiff : (k ≤ r * n + s) ↔ (q < r ∨ (q = r ∧ e ≤ s)) := by
        rw [← hqe]
        constructor
        · intro h
          rcases Int.lt_trichotomy q r with h1 | h1 | h1
          · exact .inl h1
          · right; subst h1; exact ⟨rfl, by omega⟩
          · exfalso
            have : (r + 1) * n ≤ q * n := Int.mul_le_mul_of_nonneg_right (by omega) (by omega)
            rw [Int.add_mul] at this; omega
        · rintro (h1 | ⟨rfl, h1⟩)
          · have : (q + 1) * n ≤ r * n := Int.mul_le_mul_of_nonneg_right (by omega) (by omega)
            rw [Int.add_mul] at this; omega
          · omega
      by_cases h1 : r < q
      · skip
        have hxx : x = (0, 0, 40) := by rw [← HX.out]; unfold agoB; rw [if_neg (fun hc => by have := hiff.1 hc.2.2; omega)]
        have g1 : decide (r < q) = true := decide_eq_true h1
        clear HX hb hiff hqe hq he
        try clear h2
        go_wp2_with fail
        refine wp_region_rg Eq [] (by kernel_rfl) (by kernel_rfl) (by kernel_rfl) (fun _ => rfl) (fun _ _ _ => Eq.trans) ?_
        intro σ
        simp only
        repeat (first
          | (refine rg_pure (x := ?_) rfl (by rfl) (fun W hW => ?_) ?_; rotate_left; (· subst hW; go_simp; with_reducible rfl); simp only [Nat.reduceAdd, Act.put, List.setIfInBounds_toArray, List.set_cons_zero, List.set_cons_succ])
          | (refine rg_skip rfl (by rfl) ?_; simp only [Nat.reduceAdd, Act.put, List.setIfInBounds_toArray, List.set_cons_zero, List.set_cons_succ]))
        refine rg_done fun W hW hno => ?_
        subst hW
        clear hno
        go_wp2_with fail
        refine bodyPost_ret (results_tmp3 rfl _ _ _) rfl ?_
        subst hxx
        exact ⟨rfl, hx1.thenDrew⟩
      have g1 : decide (r < q) = false := decide_eq_false h1
      by_cases h2 : q = r ∧ s < e
      · skip
        have hxx : x = (0, 0, 40) := by rw [← HX.out]; unfold agoB; rw [if_neg (fun hc => by have := hiff.1 hc.2.2; omega)]
        have g2 : (q == r) = true := by simpa using h2.1
        have g3 : decide (s < e) = true := decide_eq_true h2.2
        clear HX hb hiff hqe hq he
        try clear h2
        go_wp2_with fail
        refine wp_region_rg Eq [] (by kernel_rfl) (by kernel_rfl) (by kernel_rfl) (fun _ => rfl) (fun _ _ _ => Eq.trans) ?_
        intro σ
        simp only
        repeat (first
          | (refine rg_pure (x := ?_) rfl (by rfl) (fun W hW => ?_) ?_; rotate_left; (· subst hW; go_simp; with_reducible rfl); simp only [Nat.reduceAdd, Act.put, List.setIfInBounds_toArray, List.set_cons_zero, List.set_cons_succ])
          | (refine rg_skip rfl (by rfl) ?_; simp only [Nat.reduceAdd, Act.put, List.setIfInBounds_toArray, List.set_cons_zero, List.set_cons_succ]))
        refine rg_done fun W hW hno => ?_
        subst hW
        clear hno
        go_wp2_with fail
        refine bodyPost_ret (results_tmp3 rfl _ _ _) rfl ?_
        subst hxx
        exact ⟨rfl, hx1.thenDrew⟩
      have hgood : q < r ∨ (q = r ∧ e ≤ s) := by omega
      have hxx : x = ((r * n + s - k) / n, (r * n + s - k) % n, 0) := by rw [← HX.out]; unfold agoB; rw [if_pos ⟨hb, hk0, hiff.2 hgood⟩]
      obtain ⟨ρ0, hρ0⟩ : ∃ z, r - q = z := ⟨_, rfl⟩
      have hd7 : IntKind.i64.wrap (r - q) = ρ0 := by rw [IntKind.wrap_i64]; omega
      have hρb : 0 ≤ ρ0 ∧ ρ0 ≤ 2147483647 := by omega
      have HT := Lib.hid (show ρ0 * n + s - e = r * n + s - k by rw [← hρ0, ← hqe, Int.sub_mul]; omega)
      have H3 : (q == r) = true ∧ decide (s < e) = false ∨ (q == r) = false := by
        by_cases h3 : q = r
        · left; exact ⟨by simpa using h3, decide_eq_false (by omega)⟩
        · right; simpa using h3
      rcases H3 with ⟨g2, g3⟩ | g2
      all_goals
        clear HX hb hiff hqe hq he h2 hgood hρ0
        go_wp2_with fail
        refine wp_region_rg Eq [] (by kernel_rfl) (by kernel_rfl) (by kernel_rfl) (fun _ => rfl) (fun _ _ _ => Eq.trans) ?_
        intro σ
        simp only
        repeat (first
          | (refine rg_pure (x := ?_) rfl (by rfl) (fun W hW => ?_) ?_; rotate_left; (· subst hW; go_simp; with_reducible rfl); simp only [Nat.reduceAdd, Act.put, List.setIfInBounds_toArray, List.set_cons_zero, List.set_cons_succ])
          | (refine rg_skip rfl (by rfl) ?_; simp only [Nat.reduceAdd, Act.put, List.setIfInBounds_toArray, List.set_cons_zero, List.set_cons_succ]))
        refine rg_done fun W hW hno => ?_
        subst hW
        clear hno
        go_wp2_with fail
        refine wp_region_rg Eq [] (by kernel_rfl) (by kernel_rfl) (by kernel_rfl) (fun _ => rfl) (fun _ _ _ => Eq.trans) ?_
        intro σ
        simp only
        repeat (first
          | (refine rg_pure (x := ?_) rfl (by rfl) (fun W hW => ?_) ?_; rotate_left; (· subst hW; go_simp; with_reducible rfl); simp only [Nat.reduceAdd, Act.put, List.setIfInBounds_toArray, List.set_cons_zero, List.set_cons_succ])
          | (refine rg_skip rfl (by rfl) ?_; simp only [Nat.reduceAdd, Act.put, List.setIfInBounds_toArray, List.set_cons_zero, List.set_cons_succ]))
        refine rg_done fun W hW hno => ?_
        subst hW
        clear hno
        go_wp2_with fail
        have hEx : Ext w w1.drew.drew := hx1.thenDrew.thenDrew
        generalize w1.drew.drew = W2 at *
        clear hx1 a0 a1 a2 a3 f0 f1 f2 f3 hO g1 g2 d1 d2 d3 d4 hd7
        go_loop [10, 11, 12] (fun ro sl kk => ∃ (i ρ ς : Int), 0 ≤ i ∧ kk = .int .i64 i ∧ ro = .int .i64 ρ ∧ sl = .int .i64 ς ∧ ρ * n + ς = ρ0 * n + s - e + i ∧ 0 ≤ ς ∧ ς < n ∧ i ≤ e ∧ ρ0 - e + i ≤ ρ ∧ ρ ≤ ρ0) (fun _ _ kk => (intOf kk).toNat)
        case atStart => exact ⟨e, ρ0, s, he0.1, rfl, rfl, rfl, by omega, j5, j9, by omega, by omega, by omega⟩
        case round =>
          obtain ⟨i, ρ, ς, hi0, rfl, rfl, rfl, hsum, hς0, hς1, hie, hρl, hρu⟩ := hrel
          have HS := Lib.hid hsum
          clear hsum
          by_cases hi : 0 < i
          · have hpos : decide (0 < i) = true := decide_eq_true hi
            by_cases hz : ς = 0
            · have hneg : decide (ς - 1 < 0) = true := by apply decide_eq_true; omega
              clear hxx
              go_wp2_with fail
              go_round
              · refine ⟨i - 1, ρ - 1, n - 1, by omega, by go_num, by go_num, by go_num, ?_, by omega, by omega, by omega, by omega, by omega⟩
                have := HS.out
                rw [Int.sub_mul]; omega
              · simp [intOf]; omega
            · have hneg : decide (ς - 1 < 0) = false := by apply decide_eq_false; omega
              clear hxx
              go_wp2_with fail
              go_round
              · refine ⟨i - 1, ρ, ς - 1, by omega, by go_num, by go_num, by go_num, ?_, by omega, by omega, by omega, by omega, by omega⟩
                have := HS.out
                omega
              · simp [intOf]; omega
          · have hpos : decide (0 < i) = false := decide_eq_false hi
            have hdv := div_of (ρ := ρ) (ς := ς) (n := n) (t := ρ0 * n + s - e) (by have := HS.out; omega) hς0 hς1
            rw [HT.out] at hdv
            rw [hdv.1, hdv.2] at hxx
            clear hdv
            go_wp2_with fail
            refine bodyPost_ret (results_tmp3 rfl _ _ _) rfl ?_
            subst hxx
            exact ⟨rfl, hEx⟩
end Go.Proofs.Ytkmkfkpblkhpmaa.VCst
