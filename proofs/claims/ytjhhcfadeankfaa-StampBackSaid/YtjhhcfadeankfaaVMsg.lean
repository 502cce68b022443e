/- Messages (stamp): what they are in memory, how they stand, whether they are the same. -/
import Derived.Test.YtjhhcfadeankfaaProg
import Derived.Test.YtjhhcfadeankfaaVBase
import Derived.Test.YtjhhcfadeankfaaVCmpOr
import Derived.Test.YtjhhcfadeankfaaVRgBox
import Derived.Outline
namespace Go.Proofs.Ytjhhcfadeankfaa.VMsg
open Go.RowKit Go.VBase Go.VRg VCst

abbrev TMsg : TypeId := 24
/-- A message. -/
structure MsgD where
  st : Int
  se : Int
  nu : Int
  b : List UInt8
abbrev Sl3 := Option Addr × Nat × Nat
def slV (x : Sl3) : Value := .slice x.1 x.2.1 x.2.2
def msgV (m : MsgD) (u : Value) : Value := .agg #[.int .i64 m.st, .int .i64 m.se, .int .i64 m.nu, u]
/-- Which one stands ahead. -/
def or3B (a b c : Int) : Int := if a = 0 then (if b = 0 then c else b) else a
def cmpM (x y : MsgD) : Int := or3B (cmpB x.st y.st) (cmpB x.se y.se) (cmpB x.nu y.nu)
theorem cmpB_zero {a b : Int} : cmpB a b = 0 ↔ a = b := by
  unfold cmpB; split
  · omega
  · split <;> omega
theorem cmpM_zero {x y : MsgD} : cmpM x y = 0 ↔ x.st = y.st ∧ x.se = y.se ∧ x.nu = y.nu := by
  unfold cmpM or3B
  split
  · rename_i h1
    split
    · rename_i h2
      rw [cmpB_zero] at h1 h2 ⊢
      exact ⟨fun h => ⟨h1, h2, h⟩, fun h => h.2.2⟩
    · rename_i h2
      rw [cmpB_zero] at h2
      constructor
      · intro h; exact absurd (cmpB_zero.1 h) h2
      · intro h; exact absurd h.2.1 h2
  · rename_i h1
    rw [cmpB_zero] at h1
    constructor
    · intro h; exact absurd (cmpB_zero.1 h) h1
    · intro h; exact absurd h.1 h1
def sameM (x y : MsgD) : Bool := (cmpM x y == 0) && (x.b == y.b)
theorem sameM_refl (x : MsgD) : sameM x x = true := by
  unfold sameM
  have : cmpM x x = 0 := cmpM_zero.2 ⟨rfl, rfl, rfl⟩
  simp [this]

set_option maxHeartbeats 1000000 in
theorem isNaN64_calls (a : Int) (w : World) : Calls Try.prog 49 #[.int .i64 a] w fun e w' => e = .returned (.bool false) ∧ w = w' := by
  go_enter Try.func49, Try.ntmps49
  go_wp2_with fail
  go_ret
  exact ⟨by simp, rfl⟩
set_option maxHeartbeats 1000000 in
theorem cmp64_calls (a b : Int) (w : World) : Calls Try.prog 30 #[.int .i64 a, .int .i64 b] w fun e w' => e = .returned (.int .i64 (cmpB a b)) ∧ w = w' := by
  unfold cmpB
  have hc : a < b ∨ (¬ a < b ∧ b < a) ∨ (¬ a < b ∧ ¬ b < a) := by omega
  rcases hc with h1 | ⟨h1, h2⟩ | ⟨h1, h2⟩
  · rw [if_pos h1]
    have k1 : decide (a < b) = true := decide_eq_true h1
    go_enter Try.func30, Try.ntmps30
    go_wp2_with fail
    refine (isNaN64_calls a w).mono ?_
    rintro e w' ⟨rfl, rfl⟩
    go_wp2_with fail
    refine (isNaN64_calls b w).mono ?_
    rintro e w' ⟨rfl, rfl⟩
    go_wp2_with fail
    go_ret
    exact ⟨rfl, rfl⟩
  · rw [if_neg h1, if_pos h2]
    have k1 : decide (a < b) = false := decide_eq_false h1
    have k2 : decide (b < a) = true := decide_eq_true h2
    go_enter Try.func30, Try.ntmps30
    go_wp2_with fail
    refine (isNaN64_calls a w).mono ?_
    rintro e w' ⟨rfl, rfl⟩
    go_wp2_with fail
    refine (isNaN64_calls b w).mono ?_
    rintro e w' ⟨rfl, rfl⟩
    go_wp2_with fail
    go_ret
    exact ⟨rfl, rfl⟩
  · rw [if_neg h1, if_neg h2]
    have k1 : decide (a < b) = false := decide_eq_false h1
    have k2 : decide (b < a) = false := decide_eq_false h2
    go_enter Try.func30, Try.ntmps30
    go_wp2_with fail
    refine (isNaN64_calls a w).mono ?_
    rintro e w' ⟨rfl, rfl⟩
    go_wp2_with fail
    refine (isNaN64_calls b w).mono ?_
    rintro e w' ⟨rfl, rfl⟩
    go_wp2_with fail
    go_ret
    exact ⟨rfl, rfl⟩

set_option maxHeartbeats 1000000 in
theorem or3_calls (q : Nat) (a b c : Int) (w : World) (ha : w.cell? ⟨q, 0, none⟩ = some (.int .i64 a)) (hb : w.cell? ⟨q, 1, none⟩ = some (.int .i64 b)) (hc : w.cell? ⟨q, 2, none⟩ = some (.int .i64 c)) :
    Calls Try.prog 29 #[.slice (some ⟨q, 0, none⟩) 3 3] w fun e w' => e = .returned (.int .i64 (or3B a b c)) ∧ w = w' := by
  unfold or3B
  by_cases h0 : a = 0
  · subst h0
    rw [if_pos rfl]
    by_cases h1 : b = 0
    · subst h1
      rw [if_pos rfl]
      by_cases h2 : c = 0
      · subst h2
        go_enter Try.func29, Try.ntmps29
        go_wp2_with fail
        go_loop [5, 8] (fun _ i => ∃ j : Nat, j ≤ 3 ∧ i = .int .i64 (j : Int)) (fun _ i => 3 - (intOf i).toNat)
        case atStart => exact ⟨0, by omega, rfl⟩
        case round =>
          obtain ⟨j, hj, rfl⟩ := hrel
          have hc : j = 0 ∨ j = 1 ∨ j = 2 ∨ j = 3 := by omega
          rcases hc with rfl | rfl | rfl | rfl
          · go_wp2_with fail
            go_round
            · exact ⟨1, by omega, rfl⟩
            · simp [intOf]
          · go_wp2_with fail
            go_round
            · exact ⟨2, by omega, rfl⟩
            · simp [intOf]
          · go_wp2_with fail
            go_round
            · exact ⟨3, by omega, rfl⟩
            · simp [intOf]
          · go_wp2_with fail
            go_ret
            exact ⟨rfl, rfl⟩
      · have hne : (c == 0) = false := by simpa using h2
        go_enter Try.func29, Try.ntmps29
        go_wp2_with fail
        go_loop [5, 8] (fun _ i => ∃ j : Nat, j ≤ 2 ∧ i = .int .i64 (j : Int)) (fun _ i => 3 - (intOf i).toNat)
        case atStart => exact ⟨0, by omega, rfl⟩
        case round =>
          obtain ⟨j, hj, rfl⟩ := hrel
          have hc : j = 0 ∨ j = 1 ∨ j = 2 := by omega
          rcases hc with rfl | rfl | rfl
          · go_wp2_with fail
            go_round
            · exact ⟨1, by omega, rfl⟩
            · simp [intOf]
          · go_wp2_with fail
            go_round
            · exact ⟨2, by omega, rfl⟩
            · simp [intOf]
          · go_wp2_with fail
            go_ret
            exact ⟨rfl, rfl⟩
    · rw [if_neg h1]
      have hne : (b == 0) = false := by simpa using h1
      go_enter Try.func29, Try.ntmps29
      go_wp2_with fail
      go_loop [5, 8] (fun _ i => ∃ j : Nat, j ≤ 1 ∧ i = .int .i64 (j : Int)) (fun _ i => 3 - (intOf i).toNat)
      case atStart => exact ⟨0, by omega, rfl⟩
      case round =>
        obtain ⟨j, hj, rfl⟩ := hrel
        have hc : j = 0 ∨ j = 1 := by omega
        rcases hc with rfl | rfl
        · go_wp2_with fail
          go_round
          · exact ⟨1, by omega, rfl⟩
          · simp [intOf]
        · go_wp2_with fail
          go_ret
          exact ⟨rfl, rfl⟩
  · rw [if_neg h0]
    have hne : (a == 0) = false := by simpa using h0
    go_enter Try.func29, Try.ntmps29
    go_wp2_with fail
    go_loop [5, 8] (fun _ i => i = .int .i64 0) (fun _ i => 0)
    case atStart => rfl
    case round =>
      subst hrel
      go_wp2_with fail
      go_ret
      exact ⟨rfl, rfl⟩

theorem row4m {w : World} {b : Nat} {c0 c1 c2 c3 : Value} {t : TypeId} (h : w.heap[b]? = some (.cells #[c0, c1, c2, c3] t)) :
    w.cell? ⟨b, 0, none⟩ = some c0 ∧ w.cell? ⟨b, 1, none⟩ = some c1 ∧ w.cell? ⟨b, 2, none⟩ = some c2 ∧ w.cell? ⟨b, 3, none⟩ = some c3 :=
  ⟨cell_of_row w b 0 _ _ _ h, cell_of_row w b 1 _ _ _ h, cell_of_row w b 2 _ _ _ h, cell_of_row w b 3 _ _ _ h⟩

def Three (a b c : Int) (v : Value) (W : World) : Prop := ∃ q, v = .slice (some ⟨q, 0, none⟩) 3 3 ∧ W.cell? ⟨q, 0, none⟩ = some (.int .i64 a) ∧ W.cell? ⟨q, 1, none⟩ = some (.int .i64 b) ∧ W.cell? ⟨q, 2, none⟩ = some (.int .i64 c)
theorem Three.ext {a b c : Int} (v : Value) (W W' : World) (x : Ext W W') : Three a b c v W → Three a b c v W' := fun ⟨q, h1, h2, h3, h4⟩ => ⟨q, h1, x.cell h2, x.cell h3, x.cell h4⟩

set_option maxRecDepth 100000 in
set_option maxHeartbeats 2000000 in
theorem stampCompare_calls (x y : MsgD) (sx sy : Sl3) (w : World) : Calls Try.prog 13 #[msgV x (slV sx), msgV y (slV sy)] w fun e w' => e = .returned (.int .i64 (cmpM x y)) ∧ Ext w w' := by
  obtain ⟨x0, x1, x2, xb⟩ := x
  obtain ⟨y0, y1, y2, yb⟩ := y
  unfold msgV slV cmpM
  simp only
  go_enter Try.func13, Try.ntmps13
  go_wp2_with fail
  have r0 := (Ext.alloc (w.alloc (.cells #[.int .i64 x0, .int .i64 x1, .int .i64 x2, .slice sx.1 sx.2.1 sx.2.2] TMsg)) (.cells #[.int .i64 y0, .int .i64 y1, .int .i64 y2, .slice sy.1 sy.2.1 sy.2.2] TMsg)).block (heap_alloc_new w (.cells #[.int .i64 x0, .int .i64 x1, .int .i64 x2, .slice sx.1 sx.2.1 sx.2.2] TMsg))
  have r1 := heap_alloc_new (w.alloc (.cells #[.int .i64 x0, .int .i64 x1, .int .i64 x2, .slice sx.1 sx.2.1 sx.2.2] TMsg)) (.cells #[.int .i64 y0, .int .i64 y1, .int .i64 y2, .slice sy.1 sy.2.1 sy.2.2] TMsg)
  rw [World.size_alloc] at r1
  have hx := (Ext.alloc w (.cells #[.int .i64 x0, .int .i64 x1, .int .i64 x2, .slice sx.1 sx.2.1 sx.2.2] TMsg)).thenAlloc (.cells #[.int .i64 y0, .int .i64 y1, .int .i64 y2, .slice sy.1 sy.2.1 sy.2.2] TMsg)
  generalize (w.alloc (.cells #[.int .i64 x0, .int .i64 x1, .int .i64 x2, .slice sx.1 sx.2.1 sx.2.2] TMsg)).alloc (.cells #[.int .i64 y0, .int .i64 y1, .int .i64 y2, .slice sy.1 sy.2.1 sy.2.2] TMsg) = w1 at *
  obtain ⟨a0, a1, a2, _⟩ := row4m r0
  obtain ⟨b0, b1, b2, _⟩ := row4m r1
  clear r0 r1
  refine wp_region_rg Ext [(4, .known (.int .i64 (cmpB x0 y0))), (9, .known (.int .i64 (cmpB x1 y1))), (14, .known (.int .i64 (cmpB x2 y2))), (15, .unk (Three (cmpB x0 y0) (cmpB x1 y1) (cmpB x2 y2)) Three.ext), (16, .known (.int .i64 (or3B (cmpB x0 y0) (cmpB x1 y1) (cmpB x2 y2))))] (by kernel_rfl) (by kernel_rfl) (by kernel_rfl) Ext.refl (fun _ _ _ => Ext.trans) ?_
  intro σ
  simp only
  have k0 : ∀ W, Ext w1.drew W → W.cell? ⟨w.heap.size, 0, none⟩ = some (.int .i64 x0) ∧ W.cell? ⟨w.heap.size, 1, none⟩ = some (.int .i64 x1) ∧ W.cell? ⟨w.heap.size, 2, none⟩ = some (.int .i64 x2) := fun W h => ⟨h.cell a0, h.cell a1, h.cell a2⟩
  have k1 : ∀ W, Ext w1.drew W → W.cell? ⟨w.heap.size + 1, 0, none⟩ = some (.int .i64 y0) ∧ W.cell? ⟨w.heap.size + 1, 1, none⟩ = some (.int .i64 y1) ∧ W.cell? ⟨w.heap.size + 1, 2, none⟩ = some (.int .i64 y2) := fun W h => ⟨h.cell b0, h.cell b1, h.cell b2⟩
  repeat (refine rg_pure (x := ?_) rfl (by rfl) (fun W hW => ?_) ?_; rotate_left; (· obtain ⟨f0, f1, f2⟩ := k0 W hW; obtain ⟨g0, g1, g2⟩ := k1 W hW; go_simp; with_reducible rfl); simp only [Nat.reduceAdd, Act.put, List.setIfInBounds_toArray, List.set_cons_zero, List.set_cons_succ])
  refine rg_known rfl (by rfl) (fun W hW hF => ?_) ?_
  · go_simp
    refine (cmp64_calls x0 y0 W).mono ?_
    rintro e W' ⟨rfl, rfl⟩
    exact ⟨_, rfl, Ext.refl _, rfl⟩
  simp only [Nat.reduceAdd, Act.put, List.setIfInBounds_toArray, List.set_cons_zero, List.set_cons_succ]
  repeat (refine rg_pure (x := ?_) rfl (by rfl) (fun W hW => ?_) ?_; rotate_left; (· obtain ⟨f0, f1, f2⟩ := k0 W hW; obtain ⟨g0, g1, g2⟩ := k1 W hW; go_simp; with_reducible rfl); simp only [Nat.reduceAdd, Act.put, List.setIfInBounds_toArray, List.set_cons_zero, List.set_cons_succ])
  refine rg_known rfl (by rfl) (fun W hW hF => ?_) ?_
  · go_simp
    refine (cmp_calls x1 y1 W).mono ?_
    rintro e W' ⟨rfl, rfl⟩
    exact ⟨_, rfl, Ext.refl _, rfl⟩
  simp only [Nat.reduceAdd, Act.put, List.setIfInBounds_toArray, List.set_cons_zero, List.set_cons_succ]
  repeat (refine rg_pure (x := ?_) rfl (by rfl) (fun W hW => ?_) ?_; rotate_left; (· obtain ⟨f0, f1, f2⟩ := k0 W hW; obtain ⟨g0, g1, g2⟩ := k1 W hW; go_simp; with_reducible rfl); simp only [Nat.reduceAdd, Act.put, List.setIfInBounds_toArray, List.set_cons_zero, List.set_cons_succ])
  refine rg_known rfl (by rfl) (fun W hW hF => ?_) ?_
  · go_simp
    refine (cmp_calls x2 y2 W).mono ?_
    rintro e W' ⟨rfl, rfl⟩
    exact ⟨_, rfl, Ext.refl _, rfl⟩
  simp only [Nat.reduceAdd, Act.put, List.setIfInBounds_toArray, List.set_cons_zero, List.set_cons_succ]
  refine rg_unk rfl (by rfl) (fun W hW hF => ?_) ?_
  · go_simp
    exact ⟨Ext.alloc _ _, _, rfl, cell_of_row _ _ 0 _ _ _ (heap_alloc_new W _), cell_of_row _ _ 1 _ _ _ (heap_alloc_new W _), cell_of_row _ _ 2 _ _ _ (heap_alloc_new W _)⟩
  simp only [Nat.reduceAdd, Act.put, List.setIfInBounds_toArray, List.set_cons_zero, List.set_cons_succ]
  refine rg_known rfl (by rfl) (fun W hW hF => ?_) ?_
  · obtain ⟨q, hq, c0, c1, c2⟩ := hF 15 _ _ rfl (by kernel_rfl)
    generalize σ 15 = u at *
    subst hq
    go_simp
    refine (or3_calls q _ _ _ W c0 c1 c2).mono ?_
    rintro e W' ⟨rfl, rfl⟩
    exact ⟨_, rfl, Ext.refl _, rfl⟩
  simp only [Nat.reduceAdd, Act.put, List.setIfInBounds_toArray, List.set_cons_zero, List.set_cons_succ]
  repeat (refine rg_pure (x := ?_) rfl (by rfl) (fun W hW => ?_) ?_; rotate_left; (· go_simp; with_reducible rfl); simp only [Nat.reduceAdd, Act.put, List.setIfInBounds_toArray, List.set_cons_zero, List.set_cons_succ])
  refine rg_done fun W hW hF => ?_
  have hE := hx.trans (Ext.of_drew hW)
  clear hF
  go_wp2_with fail
  go_ret
  exact ⟨rfl, hE⟩

set_option maxHeartbeats 2000000 in
theorem refMCompare_calls (x y : MsgD) (sx sy : Sl3) (w : World) : Calls Try.prog 14 #[msgV x (slV sx), msgV y (slV sy)] w fun e w' => e = .returned (.int .i64 (cmpM x y)) ∧ Ext w w' := by
  obtain ⟨x0, x1, x2, xb⟩ := x
  obtain ⟨y0, y1, y2, yb⟩ := y
  unfold msgV slV cmpM
  simp only
  have hx := (Ext.alloc w (.cells #[.int .i64 x0, .int .i64 x1, .int .i64 x2, .slice sx.1 sx.2.1 sx.2.2] TMsg)).thenAlloc (.cells #[.int .i64 y0, .int .i64 y1, .int .i64 y2, .slice sy.1 sy.2.1 sy.2.2] TMsg)
  obtain ⟨c, hc⟩ : ∃ c, or3B (cmpB x0 y0) (cmpB x1 y1) (cmpB x2 y2) = c := ⟨_, rfl⟩
  rw [hc]
  by_cases h0 : x0 = y0
  · subst h0
    by_cases h1 : x1 = y1
    · subst h1
      have hc' : c = cmpB x2 y2 := by rw [← hc]; unfold or3B; simp [cmpB_zero]
      subst hc'
      clear hc
      rcases Int.lt_trichotomy x2 y2 with h2 | h2 | h2
      · rw [show cmpB x2 y2 = -1 from by unfold cmpB; rw [if_pos h2]]
        have d2 : decide (x2 < y2) = true := decide_eq_true h2
        go_enter Try.func14, Try.ntmps14
        go_wp2_with fail
        go_ret
        exact ⟨rfl, hx⟩
      · subst h2
        rw [show cmpB x2 x2 = 0 from cmpB_zero.2 rfl]
        go_enter Try.func14, Try.ntmps14
        go_wp2_with fail
        go_ret
        exact ⟨rfl, hx⟩
      · rw [show cmpB x2 y2 = 1 from by unfold cmpB; rw [if_neg (by omega), if_pos h2]]
        have d2 : decide (x2 < y2) = false := decide_eq_false (by omega)
        have d3 : decide (y2 < x2) = true := decide_eq_true h2
        go_enter Try.func14, Try.ntmps14
        go_wp2_with fail
        go_ret
        exact ⟨rfl, hx⟩
    · have hc' : c = cmpB x1 y1 := by rw [← hc]; unfold or3B; rw [if_pos (cmpB_zero.2 rfl), if_neg (fun h => h1 (cmpB_zero.1 h))]
      subst hc'
      clear hc
      have n1 : (x1 == y1) = false := by simpa using h1
      by_cases h2 : x1 < y1
      · rw [show cmpB x1 y1 = -1 from by unfold cmpB; rw [if_pos h2]]
        have d2 : decide (x1 < y1) = true := decide_eq_true h2
        go_enter Try.func14, Try.ntmps14
        go_wp2_with fail
        go_ret
        exact ⟨rfl, hx⟩
      · rw [show cmpB x1 y1 = 1 from by unfold cmpB; rw [if_neg h2, if_pos (by omega)]]
        have d2 : decide (x1 < y1) = false := decide_eq_false h2
        go_enter Try.func14, Try.ntmps14
        go_wp2_with fail
        go_ret
        exact ⟨rfl, hx⟩
  · have hc' : c = cmpB x0 y0 := by rw [← hc]; unfold or3B; rw [if_neg (fun h => h0 (cmpB_zero.1 h))]
    subst hc'
    clear hc
    have n1 : (x0 == y0) = false := by simpa using h0
    by_cases h2 : x0 < y0
    · rw [show cmpB x0 y0 = -1 from by unfold cmpB; rw [if_pos h2]]
      have d2 : decide (x0 < y0) = true := decide_eq_true h2
      go_enter Try.func14, Try.ntmps14
      go_wp2_with fail
      go_ret
      exact ⟨rfl, hx⟩
    · rw [show cmpB x0 y0 = 1 from by unfold cmpB; rw [if_neg h2, if_pos (by omega)]]
      have d2 : decide (x0 < y0) = false := decide_eq_false h2
      go_enter Try.func14, Try.ntmps14
      go_wp2_with fail
      go_ret
      exact ⟨rfl, hx⟩
end Go.Proofs.Ytjhhcfadeankfaa.VMsg
