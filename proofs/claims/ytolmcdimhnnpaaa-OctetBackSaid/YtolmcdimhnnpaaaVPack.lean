/- An Out, and a list of calls of one's own beside it (OctetBack). -/
import Derived.Test.YtolmcdimhnnpaaaVJoinPlain
import Derived.Test.YtolmcdimhnnpaaaVOutI
import Derived.Test.YtolmcdimhnnpaaaVOwn
namespace Go.Proofs.Ytolmcdimhnnpaaa.VOct
open Go.RowKit Go.VBase Go.VOct Go.VRg

abbrev TOp : TypeId := 33
/-- A slice's three words. -/
abbrev Sl3 := Option Addr × Nat × Nat
def slV (x : Sl3) : Value := .slice x.1 x.2.1 x.2.2
/-- A call as it lies in memory. -/
def encO (x : OpD × Sl3) : List Value := [.int .i64 x.1.kind, .int .i64 x.1.n, .int .u64 (x.1.v : Int), slV x.2]
theorem encO_len (x : OpD × Sl3) : (encO x).length = 4 := rfl
theorem encO_one (x : OpD × Sl3) : ∀ u ∈ encO x, u.oneCell' = true := by
  intro u hu
  unfold encO at hu
  simp at hu
  rcases hu with rfl | rfl | rfl | rfl <;> rfl
/-- What a call's bytes are. -/
def opB (o : OpD) : List UInt8 := if o.kind = 0 then beB o.n.toNat o.v else o.b
def catO (l : List (OpD × Sl3)) : List UInt8 := l.flatMap fun x => opB x.1
/-- A call that was done. -/
def DoneOk (w : World) (x : OpD × Sl3) : Prop :=
  (-9223372036854775808 ≤ x.1.n ∧ x.1.n ≤ 9223372036854775807) ∧ Bys w (slV x.2) x.1.b ∧ x.1.b.length ≤ 20000 ∧
    ((x.1.kind = 0 ∧ widthB x.1.n = true ∧ x.1.v < 256 ^ x.1.n.toNat) ∨ (x.1.kind = 1 ∧ x.1.b ≠ []))

structure Pack (w0 W : World) (B : Nat) (r : Option Nat) (v : Value) (l : List (OpD × Sl3)) : Prop where
  a : OutAt W TOut TB B r (some (catO l))
  o : OwnG encO 4 W w0.heap.size TOp v l
  ext : Ext w0 W
  g1 : w0.heap.size ≤ B
  h1 : ∀ g, r = some g → w0.heap.size ≤ g
  ok : ∀ x ∈ l, DoneOk w0 x

theorem Pack.later {w0 W W' : World} {B : Nat} {r : Option Nat} {v : Value} {l : List (OpD × Sl3)} (h : Pack w0 W B r v l) (x : Ext W W') : Pack w0 W' B r v l :=
  { h with a := h.a.ext x, o := h.o.ext x, ext := h.ext.trans x }

theorem cat_snoc (l : List (OpD × Sl3)) (x : OpD × Sl3) : catO (l ++ [x]) = catO l ++ opB x.1 := by
  unfold catO; rw [List.flatMap_append]; simp
theorem opB_ne {w : World} {x : OpD × Sl3} (h : DoneOk w x) : opB x.1 ≠ [] := by
  rcases h.2.2.2 with ⟨h0, h1, h2⟩ | ⟨h0, h1⟩
  · unfold opB
    rw [if_pos h0]
    intro e
    have := congrArg List.length e
    rw [beB_len] at this
    unfold widthB at h1
    simp at h1 this
    omega
  · unfold opB
    rw [if_neg (by omega)]; exact h1

/-- The row of a list of calls is an object of that kind. -/
theorem ownG_obj {w : World} {base e : Nat} {v : Value} {l : List (OpD × Sl3)} (h : OwnG encO 4 w base e v l) : ∀ g, v.ownBlock = some g → base ≤ g ∧ ∃ cur, w.heap[g]? = some (.cells cur e) := by
  intro g hg
  rcases h.2 with hn | ⟨g', cap, cur, rfl, hb, hgg, rest⟩
  · rw [hn.1] at hg; simp [Value.ownBlock] at hg
  · simp [Value.ownBlock] at hg
    subst hg
    exact ⟨hb, cur, hgg⟩
theorem ownB_obj {w : World} {base e : Nat} {v : Value} {l : List UInt8} (h : OwnB w base e v l) : ∀ g, v.ownBlock = some g → base ≤ g ∧ ∃ cur, w.heap[g]? = some (.cells cur e) := by
  intro g hg
  rcases h.2 with hn | ⟨g', cap, cur, rfl, hb, hgg, rest⟩
  · rw [hn.1] at hg; simp [Value.ownBlock] at hg
  · simp [Value.ownBlock] at hg
    subst hg
    exact ⟨hb, cur, hgg⟩
/-- Out's block and row are none of a list of calls. -/
theorem pack_apart {W : World} {B base : Nat} {r : Option Nat} {st : Option (List UInt8)} {v : Value} {l : List (OpD × Sl3)} (ha : OutAt W TOut TB B r st) (ho : OwnG encO 4 W base TOp v l) : v.ownBlock ≠ some B ∧ (v.ownBlock = none ∨ v.ownBlock ≠ r) ∧ (r = none ∨ r ≠ v.ownBlock) := by
  have hk : ∀ g, v.ownBlock = some g → g ≠ B ∧ some g ≠ r := fun g hg => by
    obtain ⟨_, cur, hc⟩ := ownG_obj ho g hg
    cases st with
    | none =>
      refine ⟨fun e => ?_, by rw [ha.2]; simp⟩
      subst e
      have := hc.symm.trans ha.1
      simp at this
      exact absurd this.2 (by decide)
    | some m =>
      obtain ⟨u, h1, h2, h3, h4⟩ := ha
      refine ⟨fun e => ?_, fun e => ?_⟩
      · subst e
        have := hc.symm.trans h1
        simp at this
        exact absurd this.2 (by decide)
      · obtain ⟨_, cur2, hc2⟩ := ownB_obj h2 g (h3.trans e.symm)
        have := hc.symm.trans hc2
        simp at this
        exact absurd this.2 (by decide)
  refine ⟨fun e => (hk B e).1 rfl, ?_, ?_⟩
  · cases hv : v.ownBlock with
    | none => exact .inl rfl
    | some g => exact .inr (hk g hv).2
  · cases hr : r with
    | none => exact .inl rfl
    | some g =>
      right; intro e
      exact (hk g e.symm).2 hr.symm
theorem ownG_touch {B e base : Nat} {r : Option Nat} {w w' : World} (t : TouchO B r w w') {v : Value} {l : List (OpD × Sl3)} (h : OwnG encO 4 w base e v l) (hB : v.ownBlock ≠ some B) (hr : v.ownBlock = none ∨ v.ownBlock ≠ r) : OwnG encO 4 w' base e v l := by
  refine ⟨h.1, ?_⟩
  rcases h.2 with hn | ⟨g, cap, cur, rfl, hb, hgg, rest⟩
  · exact .inl hn
  · refine .inr ⟨g, cap, cur, rfl, hb, ?_, rest⟩
    have n2 : some g ≠ r := by
      rcases hr with h | h
      · simp [Value.ownBlock] at h
      · simpa [Value.ownBlock] using h
    rw [t.block g (Array.getElem?_eq_some_iff.1 hgg).1 (fun e => hB (by simp [Value.ownBlock, e])) n2]
    exact hgg
/-- What a Pack becomes when the Out is turned, ahead of the list. -/
structure PackH (w0 W : World) (B : Nat) (r : Option Nat) (v : Value) (l : List (OpD × Sl3)) (y : OpD × Sl3) : Prop where
  a : OutAt W TOut TB B r (some (catO (l ++ [y])))
  o : OwnG encO 4 W w0.heap.size TOp v l
  ext : Ext w0 W
  g1 : w0.heap.size ≤ B
  h1 : ∀ g, r = some g → w0.heap.size ≤ g
  ok : ∀ x ∈ l ++ [y], DoneOk w0 x
theorem Pack.turn {w0 W W' : World} {B : Nat} {r r' : Option Nat} {v : Value} {l : List (OpD × Sl3)} {y : OpD × Sl3} (h : Pack w0 W B r v l) (ho : OutAt W' TOut TB B r' (some (catO l ++ opB y.1))) (ht : TouchO B r W W') (hn : RowNext W r r') (hy : DoneOk w0 y) : PackH w0 W' B r' v l y := by
  obtain ⟨p1, p2, _⟩ := pack_apart h.a h.o
  refine ⟨by rw [cat_snoc]; exact ho, ownG_touch ht h.o p1 p2, h.ext.below.trans (ht.below h.ext.size h.g1 h.h1), h.g1, fun g hg => ?_, fun x hx => ?_⟩
  · rcases hn g hg with h1 | h1
    · exact h.h1 g h1
    · exact Nat.le_trans h.ext.size h1
  · rcases List.mem_append.1 hx with hx | hx
    · exact h.ok x hx
    · simp at hx; subst hx; exact hy
theorem PackH.later {w0 W W' : World} {B : Nat} {r : Option Nat} {v : Value} {l : List (OpD × Sl3)} {y : OpD × Sl3} (h : PackH w0 W B r v l y) (x : Ext W W') : PackH w0 W' B r v l y :=
  { h with a := h.a.ext x, o := h.o.ext x, ext := h.ext.trans x }
theorem PackH.close {w0 W W' : World} {B : Nat} {r : Option Nat} {v v' : Value} {l : List (OpD × Sl3)} {y : OpD × Sl3} (h : PackH w0 W B r v l y) (ho : OwnG encO 4 W' w0.heap.size TOp v' (l ++ [y])) (hg : W.grownBy W' v.ownBlock) : Pack w0 W' B r v' (l ++ [y]) := by
  obtain ⟨p1, p2, p3⟩ := pack_apart h.a h.o
  have hlt := h.a.lt
  have hrl := h.a.rlt
  refine ⟨h.a.touch (TouchO.of_grown (B := W.heap.size) hg) (by omega) (fun e => p1 e.symm) (fun e => ?_) p3, ho, h.ext.below.trans (grown_below hg h.ext.size (fun k hk => (ownG_obj h.o k hk).1)), h.g1, h.h1, h.ok⟩
  have := hrl _ e; omega
end Go.Proofs.Ytolmcdimhnnpaaa.VOct
