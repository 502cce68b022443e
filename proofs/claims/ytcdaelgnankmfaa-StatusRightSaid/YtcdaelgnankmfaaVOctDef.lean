/- What an Out and an In of octet are in memory. No program in sight. -/
import Derived.Test.YtcdaelgnankmfaaVBase
namespace Go.VOct
open Go.RowKit Go.VBase

/-- Block B is an Out: spoilt (none), or with these bytes, which lie in the row r (if there is one). T: its type's number, e: a byte's. -/
def OutAt (w : World) (T e B : Nat) (r : Option Nat) : Option (List UInt8) → Prop
  | none => w.heap[B]? = some (.cells #[.slice none 0 0, .bool true] T) ∧ r = none
  | some l => ∃ v, w.heap[B]? = some (.cells #[v, .bool false] T) ∧ OwnB w 0 e v l ∧ v.ownBlock = r ∧ r ≠ some B

/-- Block B is an In: spoilt (none), or with these bytes left. -/
def InAt (w : World) (T B : Nat) : Option (List UInt8) → Prop
  | none => ∃ v, w.heap[B]? = some (.cells #[v, .bool false] T)
  | some l => ∃ v, w.heap[B]? = some (.cells #[v, .bool true] T) ∧ Bys w v l ∧ (∀ a len cap, v = .slice (some a) len cap → a.block ≠ B)

theorem InAt.lt {w : World} {T B : Nat} {st : Option (List UInt8)} (h : InAt w T B st) : B < w.heap.size := by
  cases st with
  | none => obtain ⟨v, h1⟩ := h; exact (Array.getElem?_eq_some_iff.1 h1).1
  | some l => obtain ⟨v, h1, _⟩ := h; exact (Array.getElem?_eq_some_iff.1 h1).1
theorem InAt.ext {w w' : World} {T B : Nat} {st : Option (List UInt8)} (h : InAt w T B st) (x : Ext w w') : InAt w' T B st := by
  cases st with
  | none => obtain ⟨v, h1⟩ := h; exact ⟨v, x.block h1⟩
  | some l => obtain ⟨v, h1, h2, h3⟩ := h; exact ⟨v, x.block h1, h2.ext x, h3⟩

/-- What has turned is block B and the row r; the world has grown. -/
structure TouchO (B : Nat) (r : Option Nat) (w w' : World) : Prop where
  os : w'.os = w.os
  tape : w'.tape = w.tape
  output : w'.output = w.output
  size : w.heap.size ≤ w'.heap.size
  block : ∀ k, k < w.heap.size → k ≠ B → some k ≠ r → w'.heap[k]? = w.heap[k]?

theorem TouchO.refl (B : Nat) (r : Option Nat) (w : World) : TouchO B r w w := ⟨rfl, rfl, rfl, Nat.le_refl _, fun _ _ _ _ => rfl⟩
theorem TouchO.of_ext {B : Nat} {r : Option Nat} {w w' : World} (h : Ext w w') : TouchO B r w w' := ⟨h.os, h.tape, h.output, Below.size h, fun k hk _ _ => Below.block h k hk⟩
theorem TouchO.of_grown {B : Nat} {r : Option Nat} {w w' : World} (h : w.grownBy w' r) : TouchO B r w w' := ⟨h.os, h.tape, h.output, h.size, fun k hk _ hr => h.block k hk hr⟩
theorem TouchO.of_setCell {B : Nat} {r : Option Nat} (w : World) (i : Nat) (u : Value) : TouchO B r w (w.setCell ⟨B, i, none⟩ u) :=
  ⟨rfl, rfl, rfl, by simp, fun k _ hk _ => heap_setCell_other w _ k u hk⟩
/-- The row may have moved to a new block on the way. -/
theorem TouchO.trans {B : Nat} {r r' : Option Nat} {a b c : World} (h : TouchO B r a b) (k : TouchO B r' b c) (hr : ∀ g, r' = some g → r = some g ∨ a.heap.size ≤ g) : TouchO B r a c :=
  ⟨k.os.trans h.os, k.tape.trans h.tape, k.output.trans h.output, Nat.le_trans h.size k.size, fun i hi hB hne => by
    refine (k.block i (Nat.lt_of_lt_of_le hi h.size) hB fun e => ?_).trans (h.block i hi hB hne)
    rcases hr i e.symm with h1 | h1
    · exact hne h1.symm
    · omega⟩
theorem TouchO.same {B : Nat} {r : Option Nat} {a b c : World} (h : TouchO B r a b) (k : TouchO B r b c) : TouchO B r a c := h.trans k fun _ h => .inl h
theorem TouchO.below {B n : Nat} {r : Option Nat} {a b : World} (h : TouchO B r a b) (hn : n ≤ a.heap.size) (hB : n ≤ B) (hr : ∀ g, r = some g → n ≤ g) : Below n a b :=
  ⟨h.os, h.tape, h.output, h.size, fun k hk => h.block k (by omega) (by omega) fun e => by have := hr k e.symm; omega⟩
theorem TouchO.cell {B : Nat} {r : Option Nat} {w w' : World} (h : TouchO B r w w') {p : Addr} {v : Value} (hc : w.cell? p = some v) (hB : p.block ≠ B) (hr : some p.block ≠ r) : w'.cell? p = some v :=
  (World.cell?_of_block (h.block p.block (World.block_lt_of_cell? _ _ hc) hB hr)).trans hc

/-- The row r' is r, or new. -/
def RowNext (w : World) (r r' : Option Nat) : Prop := ∀ g, r' = some g → r = some g ∨ w.heap.size ≤ g
theorem RowNext.refl (w : World) (r : Option Nat) : RowNext w r r := fun _ h => .inl h
theorem RowNext.none (w : World) (r : Option Nat) : RowNext w r none := fun _ h => by cases h
theorem RowNext.trans {a b : World} {r s t : Option Nat} (h : RowNext a r s) (k : RowNext b s t) (hs : a.heap.size ≤ b.heap.size) : RowNext a r t := fun g hg => by
  rcases k g hg with h1 | h1
  · exact h g h1
  · right; omega

/-- Bytes that lie elsewhere stay. -/
def Clear (v : Value) (B : Nat) (r : Option Nat) : Prop := ∀ a len cap, v = .slice (some a) len cap → a.block ≠ B ∧ some a.block ≠ r
theorem Bys.touch {B : Nat} {r : Option Nat} {w w' : World} (t : TouchO B r w w') {v : Value} {l : List UInt8} (h : Bys w v l) (hc : Clear v B r) : Bys w' v l := by
  obtain ⟨a, cap, rfl, h2, h3, h4⟩ := h
  refine ⟨a, cap, rfl, h2, h3, fun hl => ?_⟩
  obtain ⟨b, off, rfl, h5⟩ := h4 hl
  have := hc _ _ _ rfl
  exact ⟨b, off, rfl, fun i c hi => t.cell (h5 i c hi) this.1 this.2⟩
theorem own_touch {B e base : Nat} {r : Option Nat} {w w' : World} (t : TouchO B r w w') {v : Value} {l : List UInt8} (h : OwnB w base e v l) (hB : v.ownBlock ≠ some B) (hr : v.ownBlock = none ∨ v.ownBlock ≠ r) : OwnB w' base e v l := by
  refine ⟨h.1, ?_⟩
  rcases h.2 with hn | ⟨g, cap, cur, rfl, hb, hgg, rest⟩
  · exact .inl hn
  · refine .inr ⟨g, cap, cur, rfl, hb, ?_, rest⟩
    have n2 : some g ≠ r := by
      rcases hr with h | h
      · simp [Value.ownBlock] at h
      · simpa [Value.ownBlock] using h
    rw [t.block g (Array.getElem?_eq_some_iff.1 hgg).1 (fun e => hB (by simp [Value.ownBlock, e])) n2]
    exact hgg
/-- Another Out stays. -/
theorem OutAt.touch {T e B B' : Nat} {r r' : Option Nat} {w w' : World} (t : TouchO B' r' w w') {st : Option (List UInt8)} (h : OutAt w T e B r st) (hB : B ≠ B') (hBr : some B ≠ r') (hr : r ≠ some B') (hrr : r = none ∨ r ≠ r') : OutAt w' T e B r st := by
  cases st with
  | none => exact ⟨(t.block B (Array.getElem?_eq_some_iff.1 h.1).1 hB hBr).trans h.1, h.2⟩
  | some l =>
    obtain ⟨v, h1, h2, h3, h4⟩ := h
    exact ⟨v, (t.block B (Array.getElem?_eq_some_iff.1 h1).1 hB hBr).trans h1, own_touch t h2 (by rw [h3]; exact hr) (by rw [h3]; exact hrr), h3, h4⟩
theorem OutAt.ext {T e B : Nat} {r : Option Nat} {w w' : World} {st : Option (List UInt8)} (h : OutAt w T e B r st) (x : Ext w w') : OutAt w' T e B r st := by
  cases st with
  | none => exact ⟨x.block h.1, h.2⟩
  | some l =>
    obtain ⟨v, h1, h2, h3, h4⟩ := h
    exact ⟨v, x.block h1, h2.ext x, h3, h4⟩
theorem OutAt.lt {T e B : Nat} {r : Option Nat} {w : World} {st : Option (List UInt8)} (h : OutAt w T e B r st) : B < w.heap.size := by
  cases st with
  | none => exact (Array.getElem?_eq_some_iff.1 h.1).1
  | some l => obtain ⟨v, h1, _⟩ := h; exact (Array.getElem?_eq_some_iff.1 h1).1
theorem OutAt.rlt {T e B : Nat} {r : Option Nat} {w : World} {st : Option (List UInt8)} (h : OutAt w T e B r st) : ∀ g, r = some g → g < w.heap.size := by
  intro g hg
  cases st with
  | none => rw [h.2] at hg; cases hg
  | some l => obtain ⟨v, h1, h2, h3, h4⟩ := h; exact (World.ownsRow.lt h2 g (h3.trans hg)).2
theorem OutAt.new (w : World) (T e : Nat) : OutAt (w.alloc (.cells #[.slice none 0 0, .bool false] T)) T e w.heap.size none (some []) :=
  ⟨_, heap_alloc_new w _, OwnB.nil _ _ _, rfl, by simp⟩

/-! ### What is written -/

/-- A number's bytes, the highest first. -/
def beB : Nat → Nat → List UInt8
  | 0, _ => []
  | k + 1, n => beB k (n / 256) ++ [UInt8.ofNat (n % 256)]
def widthB (w : Int) : Bool := w == 1 || w == 2 || w == 4 || w == 8
/-- A number's bytes; none: it is none of that width. -/
def putB (width : Int) (n : Nat) : Option (List UInt8) := if widthB width = true ∧ n < 256 ^ width.toNat then some (beB width.toNat n) else none
def stPut (st : Option (List UInt8)) (width : Int) (n : Nat) : Option (List UInt8) := match st with
  | none => none
  | some l => (putB width n).map (l ++ ·)
def stTail (st : Option (List UInt8)) (b : List UInt8) : Option (List UInt8) := st.map (· ++ b)
def stAll (st : Option (List UInt8)) : List UInt8 := st.getD []

/-! ### What is read -/

def inTake (st : Option (List UInt8)) (n : Int) : List UInt8 × Option (List UInt8) := match st with
  | none => ([], none)
  | some l => if 0 ≤ n ∧ n ≤ l.length then (l.take n.toNat, some (l.drop n.toNat)) else ([], none)

theorem beB_len (k n : Nat) : (beB k n).length = k := by
  induction k generalizing n with
  | zero => rfl
  | succ k ih => rw [beB, List.length_append, ih]; rfl

end Go.VOct
