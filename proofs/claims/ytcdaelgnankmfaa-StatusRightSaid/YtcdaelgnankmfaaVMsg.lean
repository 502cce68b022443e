/- Messages (stamp): what they are in memory, how they stand, whether they are the same. -/
import Derived.Test.YtcdaelgnankmfaaProg
import Derived.Test.YtcdaelgnankmfaaVBase
import Derived.Test.YtcdaelgnankmfaaVCmpOr
import Derived.Test.YtcdaelgnankmfaaVRgBox
import Derived.Outline
namespace Go.Proofs.Ytcdaelgnankmfaa.VMsg
open Go.RowKit Go.VBase Go.VRg VCst

/-- A message. -/
structure MsgD where
  st : Int
  se : Int
  nu : Int
  b : List UInt8
abbrev Sl3 := Option Addr × Nat × Nat
def slV (x : Sl3) : Value := .slice x.1 x.2.1 x.2.2
def msgV (m : MsgD) (u : Value) : Value := .agg #[.int .i64 m.st, .int .i64 m.se, .int .i64 m.nu, u]
/-- Which one stands ahead. -/
def or3B (a b c : Int) : Int := if a = 0 then (if b = 0 then c else b) else a
def cmpM (x y : MsgD) : Int := or3B (cmpB x.st y.st) (cmpB x.se y.se) (cmpB x.nu y.nu)
theorem cmpB_zero {a b : Int} : cmpB a b = 0 ↔ a = b := by
  unfold cmpB; split
  · omega
  · split <;> omega
theorem cmpM_zero {x y : MsgD} : cmpM x y = 0 ↔ x.st = y.st ∧ x.se = y.se ∧ x.nu = y.nu := by
  unfold cmpM or3B
  split
  · rename_i h1
    split
    · rename_i h2
      rw [cmpB_zero] at h1 h2 ⊢
      exact ⟨fun h => ⟨h1, h2, h⟩, fun h => h.2.2⟩
    · rename_i h2
      rw [cmpB_zero] at h2
      constructor
      · intro h; exact absurd (cmpB_zero.1 h) h2
      · intro h; exact absurd h.2.1 h2
  · rename_i h1
    rw [cmpB_zero] at h1
    constructor
    · intro h; exact absurd (cmpB_zero.1 h) h1
    · intro h; exact absurd h.1 h1
def sameM (x y : MsgD) : Bool := (cmpM x y == 0) && (x.b == y.b)
theorem sameM_refl (x : MsgD) : sameM x x = true := by
  unfold sameM
  have : cmpM x x = 0 := cmpM_zero.2 ⟨rfl, rfl, rfl⟩
  simp [this]

set_option maxHeartbeats 1000000 in
theorem or3_calls (q : Nat) (a b c : Int) (w : World) (ha : w.cell? ⟨q, 0, none⟩ = some (.int .i64 a)) (hb : w.cell? ⟨q, 1, none⟩ = some (.int .i64 b)) (hc : w.cell? ⟨q, 2, none⟩ = some (.int .i64 c)) :
    Calls Try.prog 21 #[.slice (some ⟨q, 0, none⟩) 3 3] w fun e w' => e = .returned (.int .i64 (or3B a b c)) ∧ w = w' := by
  unfold or3B
  by_cases h0 : a = 0
  · subst h0
    rw [if_pos rfl]
    by_cases h1 : b = 0
    · subst h1
      rw [if_pos rfl]
      by_cases h2 : c = 0
      · subst h2
        go_enter Try.func21, Try.ntmps21
        go_wp2_with fail
        go_loop [5, 8] (fun _ i => ∃ j : Nat, j ≤ 3 ∧ i = .int .i64 (j : Int)) (fun _ i => 3 - (intOf i).toNat)
        case atStart => exact ⟨0, by omega, rfl⟩
        case round =>
          obtain ⟨j, hj, rfl⟩ := hrel
          have hc : j = 0 ∨ j = 1 ∨ j = 2 ∨ j = 3 := by omega
          rcases hc with rfl | rfl | rfl | rfl
          · go_wp2_with fail
            go_round
            · exact ⟨1, by omega, rfl⟩
            · simp [intOf]
          · go_wp2_with fail
            go_round
            · exact ⟨2, by omega, rfl⟩
            · simp [intOf]
          · go_wp2_with fail
            go_round
            · exact ⟨3, by omega, rfl⟩
            · simp [intOf]
          · go_wp2_with fail
            go_ret
            exact ⟨rfl, rfl⟩
      · have hne : (c == 0) = false := by simpa using h2
        go_enter Try.func21, Try.ntmps21
        go_wp2_with fail
        go_loop [5, 8] (fun _ i => ∃ j : Nat, j ≤ 2 ∧ i = .int .i64 (j : Int)) (fun _ i => 3 - (intOf i).toNat)
        case atStart => exact ⟨0, by omega, rfl⟩
        case round =>
          obtain ⟨j, hj, rfl⟩ := hrel
          have hc : j = 0 ∨ j = 1 ∨ j = 2 := by omega
          rcases hc with rfl | rfl | rfl
          · go_wp2_with fail
            go_round
            · exact ⟨1, by omega, rfl⟩
            · simp [intOf]
          · go_wp2_with fail
            go_round
            · exact ⟨2, by omega, rfl⟩
            · simp [intOf]
          · go_wp2_with fail
            go_ret
            exact ⟨rfl, rfl⟩
    · rw [if_neg h1]
      have hne : (b == 0) = false := by simpa using h1
      go_enter Try.func21, Try.ntmps21
      go_wp2_with fail
      go_loop [5, 8] (fun _ i => ∃ j : Nat, j ≤ 1 ∧ i = .int .i64 (j : Int)) (fun _ i => 3 - (intOf i).toNat)
      case atStart => exact ⟨0, by omega, rfl⟩
      case round =>
        obtain ⟨j, hj, rfl⟩ := hrel
        have hc : j = 0 ∨ j = 1 := by omega
        rcases hc with rfl | rfl
        · go_wp2_with fail
          go_round
          · exact ⟨1, by omega, rfl⟩
          · simp [intOf]
        · go_wp2_with fail
          go_ret
          exact ⟨rfl, rfl⟩
  · rw [if_neg h0]
    have hne : (a == 0) = false := by simpa using h0
    go_enter Try.func21, Try.ntmps21
    go_wp2_with fail
    go_loop [5, 8] (fun _ i => i = .int .i64 0) (fun _ i => 0)
    case atStart => rfl
    case round =>
      subst hrel
      go_wp2_with fail
      go_ret
      exact ⟨rfl, rfl⟩

theorem row4m {w : World} {b : Nat} {c0 c1 c2 c3 : Value} {t : TypeId} (h : w.heap[b]? = some (.cells #[c0, c1, c2, c3] t)) :
    w.cell? ⟨b, 0, none⟩ = some c0 ∧ w.cell? ⟨b, 1, none⟩ = some c1 ∧ w.cell? ⟨b, 2, none⟩ = some c2 ∧ w.cell? ⟨b, 3, none⟩ = some c3 :=
  ⟨cell_of_row w b 0 _ _ _ h, cell_of_row w b 1 _ _ _ h, cell_of_row w b 2 _ _ _ h, cell_of_row w b 3 _ _ _ h⟩

def Three (a b c : Int) (v : Value) (W : World) : Prop := ∃ q, v = .slice (some ⟨q, 0, none⟩) 3 3 ∧ W.cell? ⟨q, 0, none⟩ = some (.int .i64 a) ∧ W.cell? ⟨q, 1, none⟩ = some (.int .i64 b) ∧ W.cell? ⟨q, 2, none⟩ = some (.int .i64 c)
theorem Three.ext {a b c : Int} (v : Value) (W W' : World) (x : Ext W W') : Three a b c v W → Three a b c v W' := fun ⟨q, h1, h2, h3, h4⟩ => ⟨q, h1, x.cell h2, x.cell h3, x.cell h4⟩

end Go.Proofs.Ytcdaelgnankmfaa.VMsg
