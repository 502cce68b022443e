/- cstate.Ago, and the document's. -/
import Derived.Test.YtkmkfkpblkhpmaaVSucc
import Derived.Test.YtkmkfkpblkhpmaaVRg
import Derived.OwnWalk
namespace Go.Proofs.Ytkmkfkpblkhpmaa.VCst
open Go.RowKit Go.VBase Go.VRg

def agoB (r s m n k : Int) : Int × Int × Int := if ofB r s m n = true ∧ 0 ≤ k ∧ k ≤ r * n + s then ((r * n + s - k) / n, (r * n + s - k) % n, 0) else (0, 0, 40)
def AgoPost (x : Int × Int × Int) (w : World) (e : Ending) (w' : World) : Prop := e = .returned (.tuple #[.int .i64 x.1, .int .i64 x.2.1, .int .i64 x.2.2]) ∧ Ext w w'

set_option maxHeartbeats 1000000 in
theorem Ago_calls (r s m v n k : Int) (hk : -9223372036854775808 ≤ k ∧ k ≤ 9223372036854775807) (w : World) : Calls Try.prog 13 #[cst r s m v, .int .i64 n, .int .i64 k] w (AgoPost (agoB r s m n k) w) := by
  have hO := fun w => of_calls r s m v n w
  obtain ⟨x, hx⟩ : ∃ x, agoB r s m n k = x := ⟨_, rfl⟩
  rw [hx]
  have HX := Lib.hid hx
  clear hx
  unfold cst at hO ⊢
  go_enter Try.func13, Try.ntmps13
  go_wp2_with fail
  refine (hO _).mono ?_
  rintro e w1 ⟨rfl, hx⟩
  have hx1 := (Ext.alloc w _).trans hx
  have r0 : w1.heap[w.heap.size]? = some (.cells #[.int .i64 r, .int .i64 s, .int .i64 m, .int .u16 v] 25) := hx.block (heap_alloc_new w _)
  obtain ⟨⟨a0, a1, a2, a3⟩, f0, f1, f2, f3⟩ := row4 r0
  clear r0 hx
  cases hb : ofB r s m n with
  | false =>
    have hxx : x = (0, 0, 40) := by rw [← HX.out]; unfold agoB; rw [if_neg (by rw [hb]; simp)]
    clear HX hb
    go_wp2_with fail
    refine bodyPost_ret (results_tmp3 rfl _ _ _) rfl ?_
    subst hxx
    exact ⟨rfl, hx1⟩
  | true =>
    obtain ⟨j1, j2, j3, j4, j5, j6, j7, j8, j9⟩ := ofB_facts hb
    by_cases h0 : k < 0
    · have hxx : x = (0, 0, 40) := by rw [← HX.out]; unfold agoB; rw [if_neg (by omega)]
      have h0' : decide (k < 0) = true := decide_eq_true h0
      clear HX hb
      go_wp2_with fail
      refine bodyPost_ret (results_tmp3 rfl _ _ _) rfl ?_
      subst hxx
      exact ⟨rfl, hx1⟩
    · have h0' : decide (k < 0) = false := decide_eq_false h0
      obtain ⟨rn, hrn⟩ : ∃ rn, r * n = rn := ⟨_, rfl⟩
      have hrn0 : 0 ≤ rn := by rw [← hrn]; exact Int.mul_nonneg j3 (by omega)
      have hrn1 : rn ≤ 2147483647 * 16 := by
        rw [← hrn]
        exact Int.mul_le_mul j4 j2 (by omega) (by decide)
      by_cases h1 : rn + s < k
      · have hxx : x = (0, 0, 40) := by rw [← HX.out]; unfold agoB; rw [hrn, if_neg (by omega)]
        have h1' : decide (rn + s < k) = true := decide_eq_true h1
        clear HX hb h0
        go_wp2_with fail
        refine bodyPost_ret (results_tmp3 rfl _ _ _) rfl ?_
        subst hxx
        exact ⟨rfl, hx1⟩
      · obtain ⟨t, ht⟩ : ∃ t, rn + s - k = t := ⟨_, rfl⟩
        have ht0 : 0 ≤ t := by omega
        have ht1 : t ≤ 34359738383 := by omega
        obtain ⟨qt, hqt⟩ : ∃ qt, t / n = qt := ⟨_, rfl⟩
        obtain ⟨rt, hrt⟩ : ∃ rt, t % n = rt := ⟨_, rfl⟩
        have hxx : x = (qt, rt, 0) := by rw [← HX.out]; unfold agoB; rw [hrn, ht, hqt, hrt, if_pos ⟨hb, by omega, by omega⟩]
        have hrt0 : 0 ≤ rt ∧ rt < n := by rw [← hrt]; exact ⟨Int.emod_nonneg _ (by omega), Int.emod_lt_of_pos _ (by omega)⟩
        have hqt0 : 0 ≤ qt ∧ qt ≤ 34359738383 := by
          rw [← hqt]
          exact ⟨Int.ediv_nonneg ht0 (by omega), Int.le_trans (Int.ediv_le_self _ ht0) ht1⟩
        have h1' : decide (rn + s < k) = false := decide_eq_false h1
        have d1 : t.tdiv n = qt := by rw [Int.tdiv_eq_ediv_of_nonneg ht0]; exact hqt
        have d2 : t.tmod n = rt := by rw [Int.tmod_eq_emod_of_nonneg ht0]; exact hrt
        have d3 : IntKind.i64.wrap qt = qt := by rw [IntKind.wrap_i64]; omega
        have d4 : IntKind.i64.wrap rt = rt := by rw [IntKind.wrap_i64]; omega
        have d5 : (n == 0) = false := by simp; omega
        have d6 : n ≠ 0 := by omega
        have HT := Lib.hid (And.intro hqt hrt)
        clear HX hb hqt hrt
        go_wp2_with fail
        refine wp_region_rg Eq [] (by kernel_rfl) (by kernel_rfl) (by kernel_rfl) (fun _ => rfl) (fun _ _ _ => Eq.trans) ?_
        intro σ
        simp only
        repeat (refine rg_pure (x := ?_) rfl (by rfl) (fun W hW => ?_) ?_; rotate_left; (· go_simp; with_reducible rfl); simp only [Nat.reduceAdd, Act.put, List.setIfInBounds_toArray, List.set_cons_zero, List.set_cons_succ])
        refine rg_done fun W hW hno => ?_
        subst hW
        clear hno
        go_wp2_with fail
        refine bodyPost_ret (results_tmp3 rfl _ _ _) rfl ?_
        subst hxx
        exact ⟨rfl, hx1.thenDrew⟩
end Go.Proofs.Ytkmkfkpblkhpmaa.VCst
