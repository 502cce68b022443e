/- cstate.Successor, and the document's. -/
import Derived.Test.YtcdaelgnankmfaaVCst
import Derived.Laws.ResultCell
namespace Go.Proofs.Ytcdaelgnankmfaa.VCst
open Go.RowKit Go.VBase

theorem row4 {w : World} {b : Nat} {c0 c1 c2 c3 : Value} {t : TypeId} (h : w.heap[b]? = some (.cells #[c0, c1, c2, c3] t)) :
    (w.cell? ⟨b, 0, none⟩ = some c0 ∧ w.cell? ⟨b, 1, none⟩ = some c1 ∧ w.cell? ⟨b, 2, none⟩ = some c2 ∧ w.cell? ⟨b, 3, none⟩ = some c3) ∧ w.frozen? ⟨b, 0, none⟩ = false ∧ w.frozen? ⟨b, 1, none⟩ = false ∧ w.frozen? ⟨b, 2, none⟩ = false ∧ w.frozen? ⟨b, 3, none⟩ = false :=
  ⟨⟨cell_of_row w b 0 _ _ _ h, cell_of_row w b 1 _ _ _ h, cell_of_row w b 2 _ _ _ h, cell_of_row w b 3 _ _ _ h⟩, frozen_of_row w b 0 _ _ h, frozen_of_row w b 1 _ _ h, frozen_of_row w b 2 _ _ h, frozen_of_row w b 3 _ _ h⟩

/-- The successor: its round, slot and mode's.. and the error. -/
def succB (r s m v n : Int) : (Int × Int × Int × Int) × Int :=
  if ofB r s m n = false then ((0, 0, 0, 0), 40)
  else if s + 1 = n then (if r = 2147483647 then ((0, 0, 0, 0), 40) else ((r + 1, 0, m, v), 0))
  else ((r, s + 1, m, v), 0)
def SuccPost (x : (Int × Int × Int × Int) × Int) (w : World) (e : Ending) (w' : World) : Prop := e = .returned (.tuple #[cst x.1.1 x.1.2.1 x.1.2.2.1 x.1.2.2.2, .int .i64 x.2]) ∧ Ext w w'

theorem set1 {w : World} {b i : Nat} {cs : Array Value} {t : TypeId} {v : Value} (h : w.heap[b]? = some (.cells cs t)) : (w.setCell ⟨b, i, none⟩ v).heap[b]? = some (.cells (cs.setIfInBounds i v) t) := by
  rw [heap_setCell_same _ _ _ _ _ _ h]

theorem ofB_facts {r s m n : Int} (h : ofB r s m n = true) : 1 ≤ n ∧ n ≤ 16 ∧ 0 ≤ r ∧ r ≤ 2147483647 ∧ 0 ≤ s ∧ s ≤ 15 ∧ 0 ≤ m ∧ m ≤ 7 ∧ s < n := by
  simp [ofB, chkB, inB] at h; omega
theorem chkB_of {r s m : Int} (h : 0 ≤ r ∧ r ≤ 2147483647 ∧ 0 ≤ s ∧ s ≤ 15 ∧ 0 ≤ m ∧ m ≤ 7) : chkB r s m = true := by
  simp [chkB, inB]; omega

end Go.Proofs.Ytcdaelgnankmfaa.VCst
