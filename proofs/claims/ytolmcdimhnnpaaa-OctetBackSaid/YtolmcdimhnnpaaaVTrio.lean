/- An Out, the reference's Out beside it, and a row of bytes that is neither's. -/
import Derived.Test.YtolmcdimhnnpaaaVRefOut
namespace Go.Proofs.Ytolmcdimhnnpaaa.VOct
open Go.RowKit Go.VBase Go.VOct Go.VRg

structure Trio (w0 W : World) (B1 : Nat) (r1 : Option Nat) (s1 : Option (List UInt8)) (B2 : Nat) (r2 : Option Nat) (s2 : Option (List UInt8)) (v : Value) (l : List UInt8) : Prop where
  a : OutAt W TOut TB B1 r1 s1
  b : OutAt W TRef TB B2 r2 s2
  o : OwnB W w0.heap.size TB v l
  ext : Ext w0 W
  g1 : w0.heap.size ≤ B1
  g2 : w0.heap.size ≤ B2
  h1 : ∀ g, r1 = some g → w0.heap.size ≤ g
  h2 : ∀ g, r2 = some g → w0.heap.size ≤ g
  ne : B1 ≠ B2
  x1 : r1 ≠ some B2
  x2 : r2 ≠ some B1
  x3 : r1 = none ∨ r1 ≠ r2
  o1 : v.ownBlock ≠ some B1
  o2 : v.ownBlock ≠ some B2
  o3 : v.ownBlock = none ∨ v.ownBlock ≠ r1
  o4 : v.ownBlock = none ∨ v.ownBlock ≠ r2

theorem ownB_blk {w : World} {base e : Nat} {v : Value} {l : List UInt8} (h : OwnB w base e v l) : ∀ k, v.ownBlock = some k → base ≤ k ∧ k < w.heap.size := fun k hk => World.ownsRow.lt h k hk

theorem row_apart {r r' v : Option Nat} {W : World} (hn : RowNext W r r') (hv : v = none ∨ v ≠ r) (hl : ∀ g, v = some g → g < W.heap.size) : v = none ∨ v ≠ r' := by
  cases v with
  | none => exact .inl rfl
  | some g =>
    right; intro e
    rcases hn g e.symm with h | h
    · rcases hv with hv | hv
      · cases hv
      · exact hv h.symm
    · have := hl g rfl; omega

theorem Trio.later {w0 W W' : World} {B1 B2 : Nat} {r1 r2 : Option Nat} {s1 s2 : Option (List UInt8)} {v : Value} {l : List UInt8} (h : Trio w0 W B1 r1 s1 B2 r2 s2 v l) (x : Ext W W') : Trio w0 W' B1 r1 s1 B2 r2 s2 v l :=
  { h with a := h.a.ext x, b := h.b.ext x, o := h.o.ext x, ext := h.ext.trans x }
theorem Trio.turnA {w0 W W' : World} {B1 B2 : Nat} {r1 r2 r1' : Option Nat} {s1 s2 s1' : Option (List UInt8)} {v : Value} {l : List UInt8} (h : Trio w0 W B1 r1 s1 B2 r2 s2 v l) (ho : OutAt W' TOut TB B1 r1' s1') (ht : TouchO B1 r1 W W') (hn : RowNext W r1 r1') :
    Trio w0 W' B1 r1' s1' B2 r2 s2 v l := by
  have hl2 := h.b.rlt
  have hB2 := h.b.lt
  refine { h with a := ho, b := h.b.touch ht h.ne.symm (fun e => h.x1 e.symm) h.x2 ?_, o := own_touch ht h.o h.o1 h.o3, ext := h.ext.below.trans (ht.below h.ext.size h.g1 h.h1), h1 := ?_, x1 := ?_, x3 := ?_, o3 := row_apart hn h.o3 (fun g hg => (ownB_blk h.o g hg).2) }
  · rcases h.x3 with e | e
    · rw [e]; cases r2 <;> simp
    · exact .inr fun e' => e e'.symm
  · intro g hg
    rcases hn g hg with h1 | h1
    · exact h.h1 g h1
    · exact Nat.le_trans h.ext.size h1
  · intro e
    rcases hn _ e with h1 | h1
    · exact h.x1 h1
    · omega
  · cases hr : r1' with
    | none => exact .inl rfl
    | some g =>
      right; intro e
      rcases hn g hr with h1 | h1
      · rcases h.x3 with h2 | h2
        · rw [h2] at h1; cases h1
        · exact h2 (h1.trans e)
      · have := hl2 g e.symm; omega
theorem Trio.turnB {w0 W W' : World} {B1 B2 : Nat} {r1 r2 r2' : Option Nat} {s1 s2 s2' : Option (List UInt8)} {v : Value} {l : List UInt8} (h : Trio w0 W B1 r1 s1 B2 r2 s2 v l) (ho : OutAt W' TRef TB B2 r2' s2') (ht : TouchO B2 r2 W W') (hn : RowNext W r2 r2') :
    Trio w0 W' B1 r1 s1 B2 r2' s2' v l := by
  have hl1 := h.a.rlt
  have hB1 := h.a.lt
  refine { h with a := h.a.touch ht h.ne (fun e => h.x2 e.symm) h.x1 h.x3, b := ho, o := own_touch ht h.o h.o2 h.o4, ext := h.ext.below.trans (ht.below h.ext.size h.g2 h.h2), h2 := ?_, x2 := ?_, x3 := row_apart hn h.x3 hl1, o4 := row_apart hn h.o4 (fun g hg => (ownB_blk h.o g hg).2) }
  · intro g hg
    rcases hn g hg with h1 | h1
    · exact h.h2 g h1
    · exact Nat.le_trans h.ext.size h1
  · intro e
    rcases hn _ e with h1 | h1
    · exact h.x2 h1
    · omega
theorem Trio.fresh {w0 W W' : World} {B1 B2 : Nat} {r1 r2 : Option Nat} {s1 s2 : Option (List UInt8)} {v v' : Value} {l l' : List UInt8} (h : Trio w0 W B1 r1 s1 B2 r2 s2 v l) (ho : OwnB W' W.heap.size TB v' l') (x : Ext W W') :
    Trio w0 W' B1 r1 s1 B2 r2 s2 v' l' := by
  have hb := fun g hg => (ownB_blk ho g hg).1
  have n1 := h.a.lt
  have n2 := h.b.lt
  have n3 := h.a.rlt
  have n4 := h.b.rlt
  refine { h.later x with o := ho.mono h.ext.size, o1 := fun e => ?_, o2 := fun e => ?_, o3 := ?_, o4 := ?_ }
  · have := hb _ e; omega
  · have := hb _ e; omega
  · cases e : v'.ownBlock with
    | none => exact .inl rfl
    | some g =>
      right; intro e2
      have := hb g e
      have := n3 g e2.symm
      omega
  · cases e : v'.ownBlock with
    | none => exact .inl rfl
    | some g =>
      right; intro e2
      have := hb g e
      have := n4 g e2.symm
      omega
theorem Trio.bump {w0 W : World} {B1 B2 : Nat} {r1 r2 : Option Nat} {s1 s2 : Option (List UInt8)} {l : List UInt8} {g n cap : Nat} (h : Trio w0 W B1 r1 s1 B2 r2 s2 (.slice (some ⟨g, 0, none⟩) n cap) l) (i : Nat) (hi : i < l.length) (c : UInt8) :
    Trio w0 (W.setCell ⟨g, i, none⟩ (.int .u8 (c.toNat : Int))) B1 r1 s1 B2 r2 s2 (.slice (some ⟨g, 0, none⟩) n cap) (l.set i c) := by
  have ht : TouchO g none W (W.setCell ⟨g, i, none⟩ (.int .u8 (c.toNat : Int))) := TouchO.of_setCell W i _
  have hg := ownB_blk h.o g rfl
  have e1 : B1 ≠ g := fun e => h.o1 (by rw [e]; rfl)
  have e2 : B2 ≠ g := fun e => h.o2 (by rw [e]; rfl)
  have e3 : r1 ≠ some g := fun e => by
    rcases h.o3 with h1 | h1
    · cases h1
    · exact h1 e.symm
  have e4 : r2 ≠ some g := fun e => by
    rcases h.o4 with h1 | h1
    · cases h1
    · exact h1 e.symm
  exact { h with a := h.a.touch ht e1 (by simp) e3 (by cases r1 <;> simp), b := h.b.touch ht e2 (by simp) e4 (by cases r2 <;> simp), o := h.o.set i hi c, ext := Below.setCell h.ext hg.1 _ }
/-- Two new ones. -/
theorem Trio.start {w0 W : World} (h : Ext w0 W) : Trio w0 ((W.alloc (.cells #[.slice none 0 0, .bool false] TOut)).alloc (.cells #[.slice none 0 0, .bool false] TRef)) W.heap.size none (some []) (W.heap.size + 1) none (some []) (.slice none 0 0) [] := by
  have hs := h.size
  have e : (W.alloc (.cells #[.slice none 0 0, .bool false] TOut)).heap.size = W.heap.size + 1 := World.size_alloc _ _
  refine ⟨(OutAt.new W TOut TB).ext (Ext.alloc _ _), ?_, OwnB.nil _ _ _, (h.thenAlloc _).thenAlloc _, hs, by omega, fun _ h => (by cases h), fun _ h => (by cases h), by omega, by simp, by simp, .inl rfl, by simp [Value.ownBlock], by simp [Value.ownBlock], .inl rfl, .inl rfl⟩
  have := OutAt.new (W.alloc (.cells #[.slice none 0 0, .bool false] TOut)) TRef TB
  rw [e] at this
  exact this
/-- What lies in an Out's two cells. -/
theorem outAt_cells {W : World} {T B : Nat} {r : Option Nat} {st : Option (List UInt8)} (h : OutAt W T TB B r st) (hl : (stAll st).length ≤ 140737488355328) :
    ∃ a cap, W.cell? ⟨B, 0, none⟩ = some (.slice a (stAll st).length cap) ∧ W.cell? ⟨B, 1, none⟩ = some (.bool st.isNone) ∧ Bys W (.slice a (stAll st).length cap) (stAll st) := by
  cases st with
  | none => exact ⟨none, 0, cell_of_row W B 0 _ _ _ h.1, cell_of_row W B 1 _ _ _ h.1, Bys.nil _⟩
  | some l =>
    obtain ⟨v, h1, h2, h3, h4⟩ := h
    obtain ⟨a, cap, rfl⟩ := h2.slice
    exact ⟨a, cap, cell_of_row W B 0 _ _ _ h1, cell_of_row W B 1 _ _ _ h1, h2.bys (by unfold maxLen; simp [stAll] at hl; omega)⟩
end Go.Proofs.Ytolmcdimhnnpaaa.VOct
