/- cstate.Apart and the document's. -/
import Derived.Test.YtkmkfkpblkhpmaaVSeen
import Derived.Test.YtkmkfkpblkhpmaaVGrpList
import Derived.Test.YtkmkfkpblkhpmaaVRefAgo
import Derived.OwnWalk
namespace Go.Proofs.Ytkmkfkpblkhpmaa.VCst
open Go.RowKit Go.VBase Go.VRg VGrp

def apartB (r s m r' s' m' : Int) : Bool := (r == r') && (s == s') && (m == m')
def ApartPost (x : Nat) (b : Bool) (w : World) (e : Ending) (w' : World) : Prop := e = .returned (.tuple #[.int .u16 (x : Int), .bool b]) ∧ Ext w w'

set_option maxHeartbeats 1000000 in
theorem Apart_calls (r s m r' s' m' : Int) (g g' : Nat) (hg : g < 65536) (hg' : g' < 65536) (w : World) : Calls Try.prog 15 #[cst r s m (g : Int), cst r' s' m' (g' : Int)] w (ApartPost (g ^^^ g') (apartB r s m r' s' m') w) := by
  have hx := u16_xor_nat g g' hg hg'
  obtain ⟨x, hxx⟩ : ∃ x, g ^^^ g' = x := ⟨_, rfl⟩
  rw [hxx] at hx ⊢
  clear hxx
  unfold cst
  go_enter Try.func15, Try.ntmps15
  go_wp2_with fail
  have r0 := heap_alloc2_old w (.cells #[.int .i64 r, .int .i64 s, .int .i64 m, .int .u16 (g' : Int)] 25) (.cells #[.int .i64 r', .int .i64 s', .int .i64 m', .int .u16 (g' : Int)] 25)
  have r1 := heap_alloc2_new w (.cells #[.int .i64 r, .int .i64 s, .int .i64 m, .int .u16 (g' : Int)] 25) (.cells #[.int .i64 r', .int .i64 s', .int .i64 m', .int .u16 (g' : Int)] 25)
  have hE : Ext w ((w.alloc (.cells #[.int .i64 r, .int .i64 s, .int .i64 m, .int .u16 (g' : Int)] 25)).alloc (.cells #[.int .i64 r', .int .i64 s', .int .i64 m', .int .u16 (g' : Int)] 25)) := (Ext.alloc _ _).thenAlloc _
  generalize ((w.alloc (.cells #[.int .i64 r, .int .i64 s, .int .i64 m, .int .u16 (g' : Int)] 25)).alloc (.cells #[.int .i64 r', .int .i64 s', .int .i64 m', .int .u16 (g' : Int)] 25)) = w1 at *
  obtain ⟨⟨a0, a1, a2, a3⟩, f0, f1, f2, f3⟩ := row4 r0
  obtain ⟨⟨b0, b1, b2, b3⟩, g0, g1, g2, g3⟩ := row4 r1
  clear r0 r1
  refine wp_region_rg Eq [] (by kernel_rfl) (by kernel_rfl) (by kernel_rfl) (fun _ => rfl) (fun _ _ _ => Eq.trans) ?_
  intro σ
  simp only
  repeat (first
    | (refine rg_pure (x := ?_) rfl (by rfl) (fun W hW => ?_) ?_; rotate_left; (· subst hW; go_simp; with_reducible rfl); simp only [Nat.reduceAdd, Act.put, List.setIfInBounds_toArray, List.set_cons_zero, List.set_cons_succ])
    | (refine rg_skip rfl (by rfl) ?_; simp only [Nat.reduceAdd, Act.put, List.setIfInBounds_toArray, List.set_cons_zero, List.set_cons_succ]))
  refine rg_pure (x := .bool (apartB r s m r' s' m')) rfl (by rfl) (fun W hW => ?_) ?_
  · subst hW
    go_simp
    unfold apartB
    by_cases c1 : r = r' <;> by_cases c2 : s = s' <;> by_cases c3 : m = m' <;> simp [c1, c2, c3]
  simp only [Nat.reduceAdd, Act.put, List.setIfInBounds_toArray, List.set_cons_zero, List.set_cons_succ]
  repeat (first
    | (refine rg_pure (x := ?_) rfl (by rfl) (fun W hW => ?_) ?_; rotate_left; (· subst hW; go_simp; with_reducible rfl); simp only [Nat.reduceAdd, Act.put, List.setIfInBounds_toArray, List.set_cons_zero, List.set_cons_succ])
    | (refine rg_skip rfl (by rfl) ?_; simp only [Nat.reduceAdd, Act.put, List.setIfInBounds_toArray, List.set_cons_zero, List.set_cons_succ]))
  refine rg_done fun W hW hno => ?_
  subst hW
  clear hno
  go_wp2_with fail
  refine bodyPost_ret (results_tmp2 rfl _ _ _) rfl ?_
  exact ⟨rfl, hE.thenDrew⟩

set_option maxHeartbeats 1000000 in
theorem refApart_calls (r s m r' s' m' : Int) (g g' : Nat) (hg : g < 65536) (hg' : g' < 65536) (w : World) : Calls Try.prog 16 #[cst r s m (g : Int), cst r' s' m' (g' : Int)] w (ApartPost (g ^^^ g') (apartB r s m r' s' m') w) := by
  have hA := fun w => refLess_calls g g' w hg hg'
  have hB := fun w => refLess_calls g' g w hg' hg
  have hs := less_sum hg hg'
  have hxlt : g ^^^ g' < 65536 := Nat.xor_lt_two_pow (n := 16) hg hg'
  obtain ⟨x, hxx⟩ : ∃ x, g ^^^ g' = x := ⟨_, rfl⟩
  rw [hxx] at hs hxlt ⊢
  clear hxx
  generalize lessB g g' = y at *
  generalize lessB g' g = z at *
  have hsz : (y : Int) + (z : Int) = (x : Int) := by omega
  have hsw : IntKind.u16.wrap (x : Int) = (x : Int) := by rw [IntKind.wrap_u16]; omega
  clear hs
  obtain ⟨q, hq⟩ : ∃ q, apartB r s m r' s' m' = q := ⟨_, rfl⟩
  rw [hq]
  unfold apartB at hq
  unfold cst
  go_enter Try.func16, Try.ntmps16
  go_wp2_with fail
  have r0 := heap_alloc2_old w (.cells #[.int .i64 r, .int .i64 s, .int .i64 m, .int .u16 (g : Int)] 25) (.cells #[.int .i64 r', .int .i64 s', .int .i64 m', .int .u16 (g' : Int)] 25)
  have r1 := heap_alloc2_new w (.cells #[.int .i64 r, .int .i64 s, .int .i64 m, .int .u16 (g : Int)] 25) (.cells #[.int .i64 r', .int .i64 s', .int .i64 m', .int .u16 (g' : Int)] 25)
  have hE : Ext w ((w.alloc (.cells #[.int .i64 r, .int .i64 s, .int .i64 m, .int .u16 (g : Int)] 25)).alloc (.cells #[.int .i64 r', .int .i64 s', .int .i64 m', .int .u16 (g' : Int)] 25)) := (Ext.alloc _ _).thenAlloc _
  generalize ((w.alloc (.cells #[.int .i64 r, .int .i64 s, .int .i64 m, .int .u16 (g : Int)] 25)).alloc (.cells #[.int .i64 r', .int .i64 s', .int .i64 m', .int .u16 (g' : Int)] 25)) = w1 at *
  refine (hA _).mono ?_
  rintro e w2 ⟨rfl, hx2⟩
  have q0 := hx2.block r0
  have q1 := hx2.block r1
  obtain ⟨⟨a0, a1, a2, a3⟩, f0, f1, f2, f3⟩ := row4 q0
  obtain ⟨⟨b0, b1, b2, b3⟩, g0, g1, g2, g3⟩ := row4 q1
  go_wp2_with fail
  refine (hB _).mono ?_
  rintro e w3 ⟨rfl, hx3⟩
  have p0 := hx3.block q0
  have p1 := hx3.block q1
  have hE3 := (hE.trans hx2).trans hx3
  clear a0 a1 a2 a3 f0 f1 f2 f3 b0 b1 b2 b3 g0 g1 g2 g3 r0 r1 q0 q1 hx2 hx3 hE
  obtain ⟨⟨a0, a1, a2, a3⟩, f0, f1, f2, f3⟩ := row4 p0
  obtain ⟨⟨b0, b1, b2, b3⟩, g0, g1, g2, g3⟩ := row4 p1
  clear p0 p1
  cases k1 : (r == r') with
  | false =>
    have hqq : q = false := by rw [← hq, k1]; simp
    subst hqq
    clear hq
    go_wp2_with fail
    refine wp_region_rg Eq [] (by kernel_rfl) (by kernel_rfl) (by kernel_rfl) (fun _ => rfl) (fun _ _ _ => Eq.trans) ?_
    intro σ
    simp only
    repeat (first
      | (refine rg_pure (x := ?_) rfl (by rfl) (fun W hW => ?_) ?_; rotate_left; (· subst hW; go_simp; with_reducible rfl); simp only [Nat.reduceAdd, Act.put, List.setIfInBounds_toArray, List.set_cons_zero, List.set_cons_succ])
      | (refine rg_skip rfl (by rfl) ?_; simp only [Nat.reduceAdd, Act.put, List.setIfInBounds_toArray, List.set_cons_zero, List.set_cons_succ]))
    refine rg_done fun W hW hno => ?_
    subst hW
    clear hno
    go_wp2_with fail
    refine bodyPost_ret (results_tmp2 rfl _ _ _) rfl ?_
    exact ⟨rfl, hE3.thenDrew⟩
  | true =>
  cases k2 : (s == s') with
  | false =>
    have hqq : q = false := by rw [← hq, k1, k2]; simp
    subst hqq
    clear hq
    go_wp2_with fail
    refine wp_region_rg Eq [] (by kernel_rfl) (by kernel_rfl) (by kernel_rfl) (fun _ => rfl) (fun _ _ _ => Eq.trans) ?_
    intro σ
    simp only
    repeat (first
      | (refine rg_pure (x := ?_) rfl (by rfl) (fun W hW => ?_) ?_; rotate_left; (· subst hW; go_simp; with_reducible rfl); simp only [Nat.reduceAdd, Act.put, List.setIfInBounds_toArray, List.set_cons_zero, List.set_cons_succ])
      | (refine rg_skip rfl (by rfl) ?_; simp only [Nat.reduceAdd, Act.put, List.setIfInBounds_toArray, List.set_cons_zero, List.set_cons_succ]))
    refine rg_done fun W hW hno => ?_
    subst hW
    clear hno
    go_wp2_with fail
    refine bodyPost_ret (results_tmp2 rfl _ _ _) rfl ?_
    exact ⟨rfl, hE3.thenDrew⟩
  | true =>
  cases k3 : (m == m') with
  | false =>
    have hqq : q = false := by rw [← hq, k1, k2, k3]; simp
    subst hqq
    clear hq
    go_wp2_with fail
    refine wp_region_rg Eq [] (by kernel_rfl) (by kernel_rfl) (by kernel_rfl) (fun _ => rfl) (fun _ _ _ => Eq.trans) ?_
    intro σ
    simp only
    repeat (first
      | (refine rg_pure (x := ?_) rfl (by rfl) (fun W hW => ?_) ?_; rotate_left; (· subst hW; go_simp; with_reducible rfl); simp only [Nat.reduceAdd, Act.put, List.setIfInBounds_toArray, List.set_cons_zero, List.set_cons_succ])
      | (refine rg_skip rfl (by rfl) ?_; simp only [Nat.reduceAdd, Act.put, List.setIfInBounds_toArray, List.set_cons_zero, List.set_cons_succ]))
    refine rg_done fun W hW hno => ?_
    subst hW
    clear hno
    go_wp2_with fail
    refine bodyPost_ret (results_tmp2 rfl _ _ _) rfl ?_
    exact ⟨rfl, hE3.thenDrew⟩
  | true =>
    have hqq : q = true := by rw [← hq, k1, k2, k3]; simp
    subst hqq
    clear hq
    go_wp2_with fail
    refine wp_region_rg Eq [] (by kernel_rfl) (by kernel_rfl) (by kernel_rfl) (fun _ => rfl) (fun _ _ _ => Eq.trans) ?_
    intro σ
    simp only
    repeat (first
      | (refine rg_pure (x := ?_) rfl (by rfl) (fun W hW => ?_) ?_; rotate_left; (· subst hW; go_simp; with_reducible rfl); simp only [Nat.reduceAdd, Act.put, List.setIfInBounds_toArray, List.set_cons_zero, List.set_cons_succ])
      | (refine rg_skip rfl (by rfl) ?_; simp only [Nat.reduceAdd, Act.put, List.setIfInBounds_toArray, List.set_cons_zero, List.set_cons_succ]))
    refine rg_done fun W hW hno => ?_
    subst hW
    clear hno
    go_wp2_with fail
    refine bodyPost_ret (results_tmp2 rfl _ _ _) rfl ?_
    exact ⟨rfl, hE3.thenDrew⟩
end Go.Proofs.Ytkmkfkpblkhpmaa.VCst
