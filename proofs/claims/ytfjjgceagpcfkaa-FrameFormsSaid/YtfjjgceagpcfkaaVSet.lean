/- A byte of a row of a call's own is written; a row is made. No program in sight. -/
import Derived.Test.YtfjjgceagpcfkaaVBase
import Derived.OwnWalk
namespace Go.VBase
open Go.RowKit

theorem OwnB.row {w : World} {base e : Nat} {v : Value} {l : List UInt8} (h : OwnB w base e v l) (hne : l ≠ []) : ∃ g cap, v = .slice (some ⟨g, 0, none⟩) l.length cap ∧ base ≤ g ∧ g < w.heap.size ∧ l.length ≤ cap ∧
    ∀ (i : Nat) (c : UInt8), l[i]? = some c → w.cell? ⟨g, i, none⟩ = some (.int .u8 (c.toNat : Int)) ∧ w.frozen? ⟨g, i, none⟩ = false := by
  have hc := fun g hv => World.ownsRow.cells h (g := g) hv
  rcases h.2 with ⟨rfl, h0⟩ | ⟨g, cap, cur, rfl, hb, hg, hn, hcm, hcs, ht⟩
  · exact absurd (List.length_eq_zero_iff.1 h0) hne
  · refine ⟨g, cap, rfl, hb, (Array.getElem?_eq_some_iff.1 hg).1, hn, fun i c hi => ⟨?_, frozen_of_row w g i _ _ hg⟩⟩
    have := hc g rfl i (encB c) (by rw [List.getElem?_map, hi]; rfl)
    have e : (Addr.add ⟨g, 0, none⟩ i) = ⟨g, i, none⟩ := by
      unfold Addr.add; split
      · rename_i h0; rw [h0]
      · simp
    rwa [e] at this
theorem OwnB.set {w : World} {base e g n cap : Nat} {l : List UInt8} (h : OwnB w base e (.slice (some ⟨g, 0, none⟩) n cap) l) (i : Nat) (hi : i < l.length) (c : UInt8) :
    OwnB (w.setCell ⟨g, i, none⟩ (.int .u8 (c.toNat : Int))) base e (.slice (some ⟨g, 0, none⟩) n cap) (l.set i c) := by
  refine ⟨by simp, ?_⟩
  rcases h.2 with ⟨hv, h0⟩ | ⟨g', cap', cur, hv, hb, hg, hn, hcm, hcs, ht⟩
  · cases hv
  · cases hv
    refine .inr ⟨g, cap, cur.setIfInBounds i (.int .u8 (c.toNat : Int)), by simp, hb, heap_setCell_same _ _ _ _ _ _ hg, by simpa using hn, hcm, by simpa using hcs, ?_⟩
    simp only [List.length_set, Array.toList_setIfInBounds]
    apply List.ext_getElem?
    intro k
    have hk : (cur.toList.take (l.length * 1))[k]? = (l.map encB)[k]? := by rw [ht]
    rw [List.getElem?_take] at hk ⊢
    rw [List.getElem?_set, List.getElem?_map, List.getElem?_set]
    rw [List.getElem?_map] at hk
    by_cases hki : i = k
    · subst hki
      have h1 : i < cur.toList.length := by simp; omega
      rw [if_pos (by omega), if_pos rfl, if_pos h1, if_pos rfl, if_pos hi]
      rfl
    · rw [if_neg hki, if_neg hki]
      exact hk
theorem ownB_zeros {w : World} {base e g n : Nat} (h : w.ownsRow base e 1 (.slice (some ⟨g, 0, none⟩) n n) n (madeCells (Value.int .u8 0).cells (n * 1)).toList) : OwnB w base e (.slice (some ⟨g, 0, none⟩) n n) (List.replicate n 0) := by
  have e : (madeCells (Value.int .u8 0).cells (n * 1)).toList = (List.replicate n (0 : UInt8)).map encB := by
    apply List.ext_getElem?
    intro i
    rw [List.getElem?_map, Array.getElem?_toList]
    unfold madeCells
    rw [Array.getElem?_map]
    by_cases hi : i < n
    · simp [hi, Value.cells, encB, Nat.mod_one]
    · simp [hi]
  unfold OwnB
  rw [List.length_replicate, ← e]
  exact h
end Go.VBase
