/- Several Outs beside one another. -/
import Derived.Test.YtolmcdimhnnpaaaVLen
import Derived.Test.YtolmcdimhnnpaaaVCh
namespace Go.Proofs.Ytolmcdimhnnpaaa.VOct
open Go.RowKit Go.VBase Go.VOct Go.VRg

/-- An Out: its block, its row, its state. -/
structure OutS where
  b : Nat
  r : Option Nat
  st : Option (List UInt8)

def OutS.apart (x y : OutS) : Prop := x.b ≠ y.b ∧ x.r ≠ some y.b ∧ y.r ≠ some x.b ∧ (x.r = none ∨ x.r ≠ y.r)
theorem OutS.apart_symm {x y : OutS} (h : x.apart y) : y.apart x := ⟨fun e => h.1 e.symm, h.2.2.1, h.2.1, by
  rcases h.2.2.2 with h1 | h1
  · rcases Decidable.em (y.r = none) with h2 | h2
    · exact .inl h2
    · right; rw [h1]; exact h2
  · exact .inr fun e => h1 e.symm⟩

/-- Outs that were made since the world w0, and slices of bytes that lie beside them. -/
structure Outs (w0 W : World) (L : List OutS) (K : List (Value × List UInt8)) : Prop where
  at_ : ∀ x ∈ L, OutAt W TOut TB x.b x.r x.st
  new : ∀ x ∈ L, w0.heap.size ≤ x.b ∧ ∀ g, x.r = some g → w0.heap.size ≤ g
  apart : L.Pairwise OutS.apart
  ext : Ext w0 W
  kept : ∀ y ∈ K, Bys W y.1 y.2 ∧ (y.2 ≠ [] → ∀ x ∈ L, Clear y.1 x.b x.r)

theorem bys_low {w : World} {v : Value} {l : List UInt8} (h : Bys w v l) (hl : l ≠ []) : ∀ a len cap, v = .slice (some a) len cap → a.block < w.heap.size := by
  obtain ⟨a, cap, rfl, h2, h3, h4⟩ := h
  obtain ⟨b, off, rfl, h5⟩ := h4 hl
  intro a' len c e
  cases e
  obtain ⟨x, hx⟩ : ∃ x, l[0]? = some x := by
    cases l with
    | nil => exact absurd rfl hl
    | cons x l => exact ⟨x, rfl⟩
  exact World.block_lt_of_cell? _ _ (h5 0 x hx)

theorem Outs.nil {w0 W : World} (h : Ext w0 W) : Outs w0 W [] [] := ⟨fun _ h => (by cases h), fun _ h => (by cases h), List.Pairwise.nil, h, fun _ h => (by cases h)⟩
theorem Outs.later {w0 W W' : World} {L : List OutS} {K : List (Value × List UInt8)} (h : Outs w0 W L K) (x : Ext W W') : Outs w0 W' L K := ⟨fun y hy => (h.at_ y hy).ext x, h.new, h.apart, h.ext.trans x, fun y hy => ⟨(h.kept y hy).1.ext x, (h.kept y hy).2⟩⟩
theorem Outs.lt {w0 W : World} {L : List OutS} {K : List (Value × List UInt8)} (h : Outs w0 W L K) {x : OutS} (hx : x ∈ L) : x.b < W.heap.size ∧ ∀ g, x.r = some g → g < W.heap.size := ⟨(h.at_ x hx).lt, (h.at_ x hx).rlt⟩
/-- One slice more: one that lay there ahead of the Outs. -/
theorem Outs.old {w0 W : World} {L : List OutS} {K : List (Value × List UInt8)} {v : Value} {l : List UInt8} (h : Outs w0 W L K) (hv : Bys w0 v l) : Outs w0 W L (K ++ [(v, l)]) := by
  refine ⟨h.at_, h.new, h.apart, h.ext, fun y hy => ?_⟩
  rcases List.mem_append.1 hy with hy | hy
  · exact h.kept y hy
  · simp at hy; subst hy
    refine ⟨hv.ext h.ext, fun hl x hx a len cap e => ?_⟩
    have h1 := bys_low hv hl a len cap e
    have h2 := h.new x hx
    exact ⟨by omega, fun e => by have := h2.2 _ e.symm; omega⟩
/-- One slice more: one that was made just now. -/
theorem Outs.keep {w0 W W' : World} {L : List OutS} {K : List (Value × List UInt8)} {v : Value} {l : List UInt8} (h : Outs w0 W L K) (x : Ext W W') (hv : OwnB W' W.heap.size TB v l) (hl : l.length ≤ maxLen) : Outs w0 W' L (K ++ [(v, l)]) := by
  refine ⟨(h.later x).at_, h.new, h.apart, h.ext.trans x, fun y hy => ?_⟩
  rcases List.mem_append.1 hy with hy | hy
  · exact (h.later x).kept y hy
  · simp at hy; subst hy
    refine ⟨hv.bys hl, fun hne z hz a len cap e => ?_⟩
    have h2 := h.lt hz
    have : W.heap.size ≤ a.block := by
      rcases hv.2 with hn | ⟨g, cap', cur, e', hb, hgg, rest⟩
      · rw [hn.1] at e; cases e
      · rw [e'] at e; cases e; exact hb
    exact ⟨by omega, fun e => by have := h2.2 _ e.symm; omega⟩
theorem Outs.make {w0 W : World} {L : List OutS} {K : List (Value × List UInt8)} (h : Outs w0 W L K) : Outs w0 (W.alloc (.cells #[.slice none 0 0, .bool false] TOut)) (L ++ [⟨W.heap.size, none, some []⟩]) K := by
  have h' := h.later (Ext.alloc W (.cells #[.slice none 0 0, .bool false] TOut))
  refine ⟨fun y hy => ?_, fun y hy => ?_, ?_, h'.ext, fun y hy => ⟨(h'.kept y hy).1, fun hl x hx => ?_⟩⟩
  · rcases List.mem_append.1 hy with hy | hy
    · exact h'.at_ y hy
    · simp at hy; subst hy; exact OutAt.new W _ _
  · rcases List.mem_append.1 hy with hy | hy
    · exact h.new y hy
    · simp at hy; subst hy; exact ⟨h.ext.size, fun g e => by cases e⟩
  · rw [List.pairwise_append]
    refine ⟨h.apart, by simp, fun x hx y hy => ?_⟩
    simp at hy; subst hy
    have hl := h.lt hx
    refine ⟨?_, fun e => ?_, fun e => (by cases e), ?_⟩
    · simp only; omega
    · have := hl.2 _ e; simp only at this; omega
    · cases hr : x.r with
      | none => exact .inl rfl
      | some g => right; simp
  · rcases List.mem_append.1 hx with hx | hx
    · exact (h.kept y hy).2 hl x hx
    · simp at hx; subst hx
      intro a len cap e
      have := bys_low (h.kept y hy).1 hl a len cap e
      exact ⟨by simp only; omega, by simp⟩

/-- A call that turns the one in the middle. -/
theorem Outs.turn0 {w0 W W' : World} {L M : List OutS} {K : List (Value × List UInt8)} {B : Nat} {r r' : Option Nat} {st st' : Option (List UInt8)} (h : Outs w0 W (L ++ ⟨B, r, st⟩ :: M) K) (ho : OutAt W' TOut TB B r' st') (ht : TouchO B r W W') (hn : RowNext W r r') :
    Outs w0 W' (L ++ ⟨B, r', st'⟩ :: M) K := by
  have hB := h.lt (x := ⟨B, r, st⟩) (by simp)
  have hBn := h.new ⟨B, r, st⟩ (by simp)
  have hap : ∀ x, x ∈ L ∨ x ∈ M → x.apart ⟨B, r, st⟩ := fun x hx => by
    have h1 := List.pairwise_append.1 h.apart
    rcases hx with hx | hx
    · exact h1.2.2 x hx _ (by simp)
    · exact OutS.apart_symm ((List.pairwise_cons.1 h1.2.1).1 x hx)
  have hin : ∀ x, x ∈ L ∨ x ∈ M → x ∈ L ++ ⟨B, r, st⟩ :: M := fun x hx => by rcases hx with hx | hx <;> simp [hx]
  have hkeep : ∀ x, x ∈ L ∨ x ∈ M → OutAt W' TOut TB x.b x.r x.st := fun x hx => by
    have ha := hap x hx
    exact (h.at_ x (hin x hx)).touch ht ha.1 (fun e => ha.2.2.1 e.symm) ha.2.1 ha.2.2.2
  have hap' : ∀ x, x ∈ L ∨ x ∈ M → x.apart ⟨B, r', st'⟩ := fun x hx => by
    have ha := hap x hx
    have hl := h.lt (hin x hx)
    refine ⟨ha.1, ha.2.1, fun e => ?_, ?_⟩
    · rcases hn _ e with h1 | h1
      · exact ha.2.2.1 h1
      · omega
    · cases hr : x.r with
      | none => exact .inl rfl
      | some g =>
        right; intro e
        rcases hn g e.symm with h1 | h1
        · rcases ha.2.2.2 with h2 | h2
          · rw [hr] at h2; cases h2
          · exact h2 (hr.trans h1.symm)
        · have := hl.2 g hr; omega
  refine ⟨fun x hx => ?_, fun x hx => ?_, ?_, ?_, fun y hy => ?_⟩
  · rcases List.mem_append.1 hx with hx | hx
    · exact hkeep x (.inl hx)
    · rcases List.mem_cons.1 hx with rfl | hx
      · exact ho
      · exact hkeep x (.inr hx)
  · rcases List.mem_append.1 hx with hx | hx
    · exact h.new x (by simp [hx])
    · rcases List.mem_cons.1 hx with rfl | hx
      · refine ⟨hBn.1, fun g hg => ?_⟩
        rcases hn g hg with h1 | h1
        · exact hBn.2 g h1
        · exact Nat.le_trans h.ext.size h1
      · exact h.new x (by simp [hx])
  · have h1 := List.pairwise_append.1 h.apart
    rw [List.pairwise_append]
    refine ⟨h1.1, List.pairwise_cons.2 ⟨fun x hx => OutS.apart_symm (hap' x (.inr hx)), (List.pairwise_cons.1 h1.2.1).2⟩, fun x hx y hy => ?_⟩
    rcases List.mem_cons.1 hy with rfl | hy
    · exact hap' x (.inl hx)
    · exact h1.2.2 x hx y (by simp [hy])
  · exact h.ext.below.trans (ht.below h.ext.size hBn.1 hBn.2)
  · obtain ⟨hb, hc⟩ := h.kept y hy
    refine ⟨bys_touch ht hb (fun hl => hc hl ⟨B, r, st⟩ (by simp)), fun hl x hx => ?_⟩
    rcases List.mem_append.1 hx with hx | hx
    · exact hc hl x (hin x (.inl hx))
    · rcases List.mem_cons.1 hx with rfl | hx
      · intro a len cap e
        have h1 := hc hl ⟨B, r, st⟩ (by simp) a len cap e
        refine ⟨h1.1, fun e2 => ?_⟩
        have h3 := bys_low hb hl a len cap e
        rcases hn _ e2.symm with h2 | h2
        · exact h1.2 h2.symm
        · omega
      · exact hc hl x (hin x (.inr hx))
theorem Outs.turn {w0 W W' : World} {L M : List OutS} {K : List (Value × List UInt8)} {B : Nat} {r : Option Nat} {st st' : Option (List UInt8)} {e : Ending} (h : Outs w0 W (L ++ ⟨B, r, st⟩ :: M) K) (hp : TailPost W B r st' e W') :
    e = .returned (.pointer (some ⟨B, 0, none⟩)) ∧ ∃ r', Outs w0 W' (L ++ ⟨B, r', st'⟩ :: M) K := by
  obtain ⟨he, r', ho, ht, hn⟩ := hp
  exact ⟨he, r', h.turn0 ho ht hn⟩
theorem Outs.drop1 {w0 W : World} {x : OutS} {L : List OutS} {K : List (Value × List UInt8)} (h : Outs w0 W (x :: L) K) : Outs w0 W L [] :=
  ⟨fun y hy => h.at_ y (by simp [hy]), fun y hy => h.new y (by simp [hy]), (List.pairwise_cons.1 h.apart).2, h.ext, fun _ h => (by cases h)⟩
theorem Outs.get {w0 W : World} {L M : List OutS} {K : List (Value × List UInt8)} {x : OutS} (h : Outs w0 W (L ++ x :: M) K) : OutAt W TOut TB x.b x.r x.st := h.at_ x (by simp)
theorem Outs.bys {w0 W : World} {L : List OutS} {K J : List (Value × List UInt8)} {v : Value} {l : List UInt8} (h : Outs w0 W L (K ++ (v, l) :: J)) : Bys W v l := (h.kept (v, l) (by simp)).1
end Go.Proofs.Ytolmcdimhnnpaaa.VOct
