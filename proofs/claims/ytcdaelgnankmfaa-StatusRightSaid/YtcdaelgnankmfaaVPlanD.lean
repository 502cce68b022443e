/- A plan as numbers, and its conditions. No program in sight. -/
import Derived.WalkKit
import Derived.Lib.Hide
namespace Go.VPlan
open Go.RowKit

structure PlanD where
  nodes : Int
  k : Int
  slot : Int
  sendOff : Int
  window : Int
  air : Int
  dmin : Int
  dmax : Int
  rho : Int
  pi : Int
  cap : Int
  delta : Int
  queue : Int
  burst : Int
  payload : Int
  horizon : Int
deriving DecidableEq

def planC (p : PlanD) : Array Value := #[.int .i64 p.nodes, .int .i64 p.k, .int .i64 p.slot, .int .i64 p.sendOff, .int .i64 p.window, .int .i64 p.air, .int .i64 p.dmin, .int .i64 p.dmax, .int .i64 p.rho, .int .i64 p.pi, .int .i64 p.cap, .int .i64 p.delta, .int .i64 p.queue, .int .i64 p.burst, .int .i64 p.payload, .int .i64 p.horizon]
def planV (p : PlanD) : Value := .agg (planC p)

def rd (p : PlanD) : Int := p.nodes * p.slot
def eP (p : PlanD) : Int := p.dmax - p.dmin + 6
def gP (p : PlanD) : Int := 2 * (2 * rd p / p.rho + 4)
def aP (p : PlanD) : Int := 2 * (eP p + gP p)
def lPi (p : PlanD) : Int := 2 * (aP p + gP p) + eP p
def lWin (p : PlanD) : Int := p.pi + eP p
def lCap (p : PlanD) : Int := aP p + 2 * gP p + 2 * eP p
def lOff (p : PlanD) : Int := p.window + p.cap + p.pi
def lSlot (p : PlanD) : Int := p.sendOff + p.window + 2 * (p.dmax + p.air) + p.cap + p.pi + 8
def lDelta (p : PlanD) : Int := ((p.queue + p.burst - 1) / p.burst + 3) * rd p + 2 * p.pi
def inP (n least most : Int) : Bool := decide (least ≤ n) && decide (n ≤ most)

def c1 (p : PlanD) : Bool := inP p.nodes 4 16 && inP p.k 0 ((p.nodes - 2) / 2)
def c2 (p : PlanD) : Bool := inP p.air 1 1048576 && decide (0 ≤ p.dmin) && inP p.dmax p.dmin 1048576
def c3 (p : PlanD) : Bool := inP p.slot 1 1048576 && inP p.rho 4 1048576
def c4 (p : PlanD) : Bool := inP p.pi (lPi p) 1048576
def c5 (p : PlanD) : Bool := inP p.window (lWin p) 1048576
def c6 (p : PlanD) : Bool := inP p.cap (lCap p) 1048576
def c7 (p : PlanD) : Bool := inP p.sendOff (lOff p) 1048576
def c8 (p : PlanD) : Bool := decide (lSlot p ≤ p.slot)
def c9 (p : PlanD) : Bool := inP p.queue 1 64 && inP p.burst 1 8 && inP p.payload 1 32
def c10 (p : PlanD) : Bool := inP p.delta (lDelta p) (64 * rd p)
def c11 (p : PlanD) : Bool := inP p.horizon (40 * rd p) 2147483648
def cN (p : PlanD) : Nat → Bool
  | 1 => c1 p
  | 2 => c2 p
  | 3 => c3 p
  | 4 => c4 p
  | 5 => c5 p
  | 6 => c6 p
  | 7 => c7 p
  | 8 => c8 p
  | 9 => c9 p
  | 10 => c10 p
  | 11 => c11 p
  | _ => true
/-- The first condition that does not hold, from one on. -/
def firstFrom (p : PlanD) : Nat → Nat → Nat
  | _, 0 => 0
  | n, f + 1 => if cN p n then firstFrom p (n + 1) f else n
def failsN (p : PlanD) : Nat := firstFrom p 1 11
def planOk (p : PlanD) : Bool := failsN p == 0
def known (p : PlanD) : Bool := c1 p && c2 p && c3 p

theorem inP_iff {n least most : Int} : inP n least most = true ↔ least ≤ n ∧ n ≤ most := by unfold inP; simp
theorem firstFrom_zero {p : PlanD} : ∀ {f n : Nat}, firstFrom p n f = 0 → 1 ≤ n → ∀ j, n ≤ j → j < n + f → cN p j = true
  | 0, n, _, _, j, h1, h2 => by omega
  | f + 1, n, h, hn, j, h1, h2 => by
    unfold firstFrom at h
    split at h
    · rename_i hc
      by_cases e : j = n
      · subst e; exact hc
      · exact firstFrom_zero h (by omega) j (by omega) (by omega)
    · omega
theorem firstFrom_ok {p : PlanD} : ∀ {f n : Nat}, (∀ j, n ≤ j → j < n + f → cN p j = true) → firstFrom p n f = 0
  | 0, n, _ => rfl
  | f + 1, n, h => by
    unfold firstFrom
    rw [if_pos (h n (Nat.le_refl _) (by omega))]
    exact firstFrom_ok fun j h1 h2 => h j (by omega) (by omega)
theorem firstFrom_at {p : PlanD} : ∀ {f n m : Nat}, n ≤ m → m < n + f → (∀ j, n ≤ j → j < m → cN p j = true) → cN p m = false → firstFrom p n f = m
  | 0, n, m, h1, h2, _, _ => by omega
  | f + 1, n, m, h1, h2, h3, h4 => by
    unfold firstFrom
    by_cases e : n = m
    · subst e; rw [h4]; simp
    · rw [if_pos (h3 n (Nat.le_refl _) (by omega))]
      exact firstFrom_at (by omega) (by omega) (fun j a b => h3 j (by omega) b) h4
theorem planOk_all {p : PlanD} (h : planOk p = true) : c1 p = true ∧ c2 p = true ∧ c3 p = true ∧ c4 p = true ∧ c5 p = true ∧ c6 p = true ∧ c7 p = true ∧ c8 p = true ∧ c9 p = true ∧ c10 p = true ∧ c11 p = true := by
  have h0 : failsN p = 0 := by unfold planOk at h; simpa using h
  have hc := fun j h1 h2 => firstFrom_zero (f := 11) (n := 1) h0 (by omega) j h1 h2
  exact ⟨hc 1 (by omega) (by omega), hc 2 (by omega) (by omega), hc 3 (by omega) (by omega), hc 4 (by omega) (by omega), hc 5 (by omega) (by omega), hc 6 (by omega) (by omega), hc 7 (by omega) (by omega), hc 8 (by omega) (by omega), hc 9 (by omega) (by omega), hc 10 (by omega) (by omega), hc 11 (by omega) (by omega)⟩

/-- What the first three conditions say, in numbers. -/
structure Known (p : PlanD) : Prop where
  n0 : 4 ≤ p.nodes
  n1 : p.nodes ≤ 16
  k0 : 0 ≤ p.k
  k1 : p.k ≤ (p.nodes - 2) / 2
  a0 : 1 ≤ p.air
  a1 : p.air ≤ 1048576
  d0 : 0 ≤ p.dmin
  d1 : p.dmin ≤ p.dmax
  d2 : p.dmax ≤ 1048576
  s0 : 1 ≤ p.slot
  s1 : p.slot ≤ 1048576
  r0 : 4 ≤ p.rho
  r1 : p.rho ≤ 1048576
theorem known_iff {p : PlanD} : known p = true ↔ Known p := by
  unfold known c1 c2 c3
  simp only [Bool.and_eq_true, inP_iff, decide_eq_true_eq]
  constructor
  · rintro ⟨⟨⟨⟨h1, h2⟩, h3, h4⟩, ⟨⟨h5, h6⟩, h7⟩, h8, h9⟩, ⟨h10, h11⟩, h12, h13⟩
    exact ⟨h1, h2, h3, h4, h5, h6, h7, h8, h9, h10, h11, h12, h13⟩
  · rintro ⟨h1, h2, h3, h4, h5, h6, h7, h8, h9, h10, h11, h12, h13⟩
    exact ⟨⟨⟨⟨h1, h2⟩, h3, h4⟩, ⟨⟨h5, h6⟩, h7⟩, h8, h9⟩, ⟨h10, h11⟩, h12, h13⟩
theorem Known.rd {p : PlanD} (h : Known p) : 4 ≤ rd p ∧ rd p ≤ 16777216 := by
  unfold VPlan.rd
  have h0 := h.n0; have h1 := h.n1; have h2 := h.s0; have h3 := h.s1
  constructor
  · calc (4 : Int) = 4 * 1 := rfl
      _ ≤ p.nodes * p.slot := Int.mul_le_mul h0 h2 (by omega) (by omega)
  · calc p.nodes * p.slot ≤ 16 * 1048576 := Int.mul_le_mul h1 h3 (by omega) (by omega)
      _ = 16777216 := rfl
theorem Known.q {p : PlanD} (h : Known p) : 0 ≤ 2 * VPlan.rd p / p.rho ∧ 2 * VPlan.rd p / p.rho ≤ 8388608 := by
  obtain ⟨h1, h2⟩ := h.rd
  have h3 := h.r0
  refine ⟨Int.ediv_nonneg (by omega) (by omega), ?_⟩
  have : 2 * VPlan.rd p / p.rho ≤ 2 * VPlan.rd p / 4 := by
    apply Int.le_ediv_of_mul_le (by omega)
    have h4 : 0 ≤ 2 * VPlan.rd p / p.rho := Int.ediv_nonneg (by omega) (by omega)
    have h5 := Int.ediv_mul_le (2 * VPlan.rd p) (b := p.rho) (by omega)
    calc 2 * VPlan.rd p / p.rho * 4 ≤ 2 * VPlan.rd p / p.rho * p.rho := Int.mul_le_mul_of_nonneg_left h3 h4
      _ ≤ 2 * VPlan.rd p := h5
  omega
theorem Known.eb {p : PlanD} (h : Known p) : 6 ≤ eP p ∧ eP p ≤ 1048582 := by
  unfold eP; have h0 := h.d0; have h1 := h.d1; have h2 := h.d2; omega
theorem Known.gb {p : PlanD} (h : Known p) : 8 ≤ gP p ∧ gP p ≤ 16777224 := by
  unfold gP; have := h.q; omega
theorem Known.ab {p : PlanD} (h : Known p) : 28 ≤ aP p ∧ aP p ≤ 35651612 := by
  unfold aP; have := h.eb; have := h.gb; omega
end Go.VPlan
