/- window.Judge. -/
import Derived.Test.YtcdaelgnankmfaaVTab2
namespace Go.Proofs.Ytcdaelgnankmfaa.VPlan
open Go.RowKit Go.VBase Go.VRg Go.VPlan

def mayW (x : Int) : Bool := decide (-4294967296 ≤ x) && decide (x ≤ 1152921504606846976)
theorem mayW_calls (x : Int) (w : World) : Calls Try.prog 55 #[.int .i64 x] w fun e w' => e = .returned (.bool (mayW x)) ∧ w = w' := by
  obtain ⟨X, hX⟩ : ∃ X, mayW x = X := ⟨_, rfl⟩
  rw [hX]
  unfold mayW at hX
  by_cases h0 : -4294967296 ≤ x
  · have e0 : decide (-4294967296 ≤ x) = true := decide_eq_true h0
    have hx : X = decide (x ≤ 1152921504606846976) := by rw [← hX, e0]; rfl
    subst hx
    clear hX
    go_enter Try.func55, Try.ntmps55
    go_wp2_with fail
    go_ret
    exact ⟨rfl, rfl⟩
  · have e0 : decide (-4294967296 ≤ x) = false := decide_eq_false h0
    have hx : X = false := by rw [← hX, e0]; rfl
    subst hx
    clear hX
    go_enter Try.func55, Try.ntmps55
    go_wp2_with fail
    go_ret
    exact ⟨rfl, rfl⟩
def verW (x lo hi : Int) : Int := if x < lo then 1 else if hi < x then 3 else 2
set_option maxRecDepth 100000 in
theorem says_calls (x lo hi : Int) (a b c : Nat) (w : World) (h0 : w.cell? ⟨a, 0, none⟩ = some (.int .i64 x)) (h1 : w.cell? ⟨b, 0, none⟩ = some (.int .i64 lo)) (h2 : w.cell? ⟨c, 0, none⟩ = some (.int .i64 hi)) :
    Calls Try.prog 56 #[.pointer (some ⟨a, 0, none⟩), .pointer (some ⟨b, 0, none⟩), .pointer (some ⟨c, 0, none⟩)] w fun e w' => e = .returned (.int .i64 (verW x lo hi)) ∧ w = w' := by
  obtain ⟨X, hX⟩ : ∃ X, verW x lo hi = X := ⟨_, rfl⟩
  rw [hX]
  unfold verW at hX
  by_cases e0 : x < lo
  · have d0 : decide (x < lo) = true := decide_eq_true e0
    rw [if_pos e0] at hX
    subst hX
    clear e0
    go_enter Try.func56, Try.ntmps56
    go_wp2_with fail
    go_ret
    exact ⟨rfl, rfl⟩
  rw [if_neg e0] at hX
  have d0 : decide (x < lo) = false := decide_eq_false e0
  by_cases e1 : hi < x
  · have d1 : decide (hi < x) = true := decide_eq_true e1
    rw [if_pos e1] at hX
    subst hX
    clear e0 e1
    go_enter Try.func56, Try.ntmps56
    go_wp2_with fail
    go_ret
    exact ⟨rfl, rfl⟩
  rw [if_neg e1] at hX
  have d1 : decide (hi < x) = false := decide_eq_false e1
  subst hX
  clear e0 e1
  go_enter Try.func56, Try.ntmps56
  go_wp2_with fail
  go_ret
  exact ⟨rfl, rfl⟩

def okW (p : PlanD) (r s x : Int) : Bool := hasP p r s && mayW x
def judW (p : PlanD) (r s x : Int) : Value := if okW p r s x then .tuple #[.int .i64 (verW x (expP p r s - p.window) (expP p r s + p.window)), .int .i64 (x - expP p r s), .int .i64 0] else .tuple #[.int .i64 0, .int .i64 0, .int .i64 160]
set_option maxRecDepth 100000 in
set_option maxHeartbeats 8000000 in
theorem winJudge_calls (p : PlanD) (r s x : Int) (w : World) : Calls Try.prog 34 #[planV p, plV r s, .int .i64 x] w fun e w' => e = .returned (judW p r s x) ∧ Ext w w' := by
  have kE := fun W => Expected_calls p r s W
  have kM := fun W => mayW_calls x W
  obtain ⟨V, hV⟩ : ∃ V, judW p r s x = V := ⟨_, rfl⟩
  rw [hV]
  unfold judW okW at hV
  have hb : hasP p r s = true → 0 ≤ expP p r s ∧ expP p r s ≤ 36028797021061120 := fun h => by
    have hh := has_of h
    have h1 := hh.beg
    have h2 := hh.mid
    have h3 := hh.f0
    have h4 := hh.f1
    unfold expP senP
    omega
  have hm : mayW x = true → -4294967296 ≤ x ∧ x ≤ 1152921504606846976 := fun h => by
    unfold mayW at h
    simpa using h
  generalize expP p r s = N at *
  generalize hasP p r s = B at *
  generalize mayW x = M at *
  have r0 := (Ext.alloc _ (.cells #[.int .i64 x] 2)).block ((Ext.alloc _ (.cells #[.int .i64 r, .int .i64 s] 37)).block (heap_alloc_new w (.cells (planC p) 35)))
  have r1 := (Ext.alloc _ (.cells #[.int .i64 x] 2)).block (heap_alloc_new (w.alloc (.cells (planC p) 35)) (.cells #[.int .i64 r, .int .i64 s] 37))
  have r2 := heap_alloc_new ((w.alloc (.cells (planC p) 35)).alloc (.cells #[.int .i64 r, .int .i64 s] 37)) (.cells #[.int .i64 x] 2)
  simp only [World.size_alloc] at r0 r1 r2
  have x0 := ((Ext.alloc w (.cells (planC p) 35)).thenAlloc (.cells #[.int .i64 r, .int .i64 s] 37)).thenAlloc (.cells #[.int .i64 x] 2)
  obtain ⟨W0, hW0⟩ : ∃ W0, W0 = ((w.alloc (.cells (planC p) 35)).alloc (.cells #[.int .i64 r, .int .i64 s] 37)).alloc (.cells #[.int .i64 x] 2) := ⟨_, rfl⟩
  rw [← hW0] at r0 r1 r2 x0
  have H0 := Lib.hid hW0
  clear hW0
  have e0 : W0.cell? ⟨w.heap.size + 1, 0, none⟩ = some (.int .i64 r) := cell_of_row _ _ 0 _ _ _ r1
  have e1 : W0.cell? ⟨w.heap.size + 1, 1, none⟩ = some (.int .i64 s) := cell_of_row _ _ 1 _ _ _ r1
  have HVV := Lib.hid hV
  clear hV
  unfold plV at kE ⊢
  unfold planV planC at ⊢
  go_enter Try.func34, Try.ntmps34
  refine wp_seq_k fun K hK => ?_
  have HK := Lib.hid hK
  clear hK
  go_wp2_with fail
  refine HK.out _ _ ?_
  clear HK
  show Code.wp _ _ _ _ (((w.alloc (.cells (planC p) 35)).alloc (.cells #[.int .i64 r, .int .i64 s] 37)).alloc (.cells #[.int .i64 x] 2))
  rw [← H0.out]
  clear H0
  go_wp2_with (refine loadPlanP r0 rfl rfl rfl ?_)
  refine (kE _).mono ?_
  rintro e w1 ⟨rfl, h1⟩
  have x1 := x0.trans h1
  have r21 := h1.block r2
  clear kE h1 r0 r1 r2 x0 e0 e1
  cases B with
  | false =>
    have hx : V = .tuple #[.int .i64 0, .int .i64 0, .int .i64 160] := HVV.out.symm
    subst hx
    simp only [Bool.false_eq_true, if_false]
    have x2 : Ext w ((w1.alloc (.cells #[.int .i64 0] 2)).alloc (.cells #[.int .i64 0] 2)) := (x1.thenAlloc _).thenAlloc _
    clear hb hm kM
    go_wp2_with fail
    refine bodyPost_ret (results_tmp3 rfl _ _ _) rfl ?_
    exact ⟨rfl, x2⟩
  | true =>
    obtain ⟨n0, n1⟩ := hb rfl
    simp only [if_true]
    obtain ⟨lo, hlo⟩ : ∃ lo, N - p.window = lo := ⟨_, rfl⟩
    obtain ⟨hi, hhi⟩ : ∃ hi, N + p.window = hi := ⟨_, rfl⟩
    rw [hlo, hhi] at HVV ⊢
    clear hb hlo hhi
    have x2 : Ext w1 ((w1.alloc (.cells #[.int .i64 lo] 2)).alloc (.cells #[.int .i64 hi] 2)) := (Ext.alloc _ _).thenAlloc _
    have ra := (Ext.alloc _ (.cells #[.int .i64 hi] 2)).block (heap_alloc_new w1 (.cells #[.int .i64 lo] 2))
    have rb := heap_alloc_new (w1.alloc (.cells #[.int .i64 lo] 2)) (.cells #[.int .i64 hi] 2)
    rw [World.size_alloc] at rb
    have rx := x2.block r21
    have c5 := cell_of_row _ _ 0 _ _ _ rx
    rw [show (#[Value.int .i64 x] : Array Value)[0]? = some (.int .i64 x) from rfl] at c5
    go_wp2_with fail
    refine (kM _).mono ?_
    rintro e w2 ⟨rfl, rfl⟩
    cases M with
    | false =>
      have hx : V = .tuple #[.int .i64 0, .int .i64 0, .int .i64 160] := HVV.out.symm
      subst hx
      have x3 := x1.trans x2
      clear ra rb rx c5 hm kM
      go_wp2_with fail
      refine bodyPost_ret (results_tmp3 rfl _ _ _) rfl ?_
      exact ⟨rfl, x3⟩
    | true =>
      obtain ⟨m0, m1⟩ := hm rfl
      have hx : V = .tuple #[.int .i64 (verW x lo hi), .int .i64 (x - N), .int .i64 0] := HVV.out.symm
      subst hx
      have x3 := x1.trans x2
      have q0 : IntKind.i64.wrap (x - N) = x - N := by rw [IntKind.wrap_i64]; omega
      generalize hgen : ((w1.alloc (.cells #[.int .i64 lo] 2)).alloc (.cells #[.int .i64 hi] 2)) = W2 at *
      have HG := Lib.hid hgen
      clear hm kM m0 m1 n0 n1 hgen
      go_wp2_with fail
      have k0 : ∀ W, Ext W2.drew W → W.cell? ⟨w.heap.size + 1 + 1, 0, none⟩ = some (.int .i64 x) := fun W h => (Ext.of_drew h).cell c5
      have kS := fun W (h : Ext W2.drew W) => says_calls x lo hi (w.heap.size + 1 + 1) w1.heap.size (w1.heap.size + 1) W (k0 W h) (cell_of_row _ _ 0 _ _ _ ((Ext.of_drew h).block ra)) (cell_of_row _ _ 0 _ _ _ ((Ext.of_drew h).block rb))
      obtain ⟨Y, hY⟩ : ∃ Y, verW x lo hi = Y := ⟨_, rfl⟩
      rw [hY] at kS
      have HY := Lib.hid hY
      clear hY
      clear c5 ra rb rx r21 x2
      refine wp_region_rg Ext [(1, .known (.int .i64 Y))] (by kernel_rfl) (by kernel_rfl) (by kernel_rfl) Ext.refl (fun _ _ _ => Ext.trans) ?_
      intro σ
      simp only
      refine rg_pure (x := ?_) rfl (by rfl) (fun W hW => ?_) ?_; rotate_left
      · go_simp; with_reducible rfl
      simp only [Nat.reduceAdd, Act.put, List.setIfInBounds_toArray, List.set_cons_zero, List.set_cons_succ]
      refine rg_known rfl (by rfl) (fun W hW hF => ?_) ?_
      · go_simp
        refine (kS W hW).mono ?_
        rintro e W' ⟨rfl, rfl⟩
        exact ⟨_, rfl, Ext.refl _, rfl⟩
      simp only [Nat.reduceAdd, Act.put, List.setIfInBounds_toArray, List.set_cons_zero, List.set_cons_succ]
      repeat (first | (refine rg_pure (x := ?_) rfl (by rfl) (fun W hW => ?_) ?_; rotate_left; (· have f0 := k0 W hW; go_simp; with_reducible rfl); simp only [Nat.reduceAdd, Act.put, List.setIfInBounds_toArray, List.set_cons_zero, List.set_cons_succ]))
      refine rg_done fun W hW hF => ?_
      have xE := x3.trans (Ext.of_drew hW)
      clear hF hW k0 kS
      go_wp2_with fail
      refine bodyPost_ret (results_tmp3 rfl _ _ _) rfl ?_
      have hY := HY.out
      subst hY
      exact ⟨rfl, xE⟩
end Go.Proofs.Ytcdaelgnankmfaa.VPlan
