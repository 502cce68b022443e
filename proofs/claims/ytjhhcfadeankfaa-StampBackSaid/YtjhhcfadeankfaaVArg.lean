/- A slice of bytes that a law is handed. -/
import Derived.Test.YtjhhcfadeankfaaProg
import Derived.Test.YtjhhcfadeankfaaVBase
import Derived.Lib.SmallJoins
import Derived.OpenShut
import Derived.Deep.Slices
import Derived.Deep.Fields
import Derived.ChangeSame
import Derived.OpenShut
import Derived.SizedLaws
namespace Go.Proofs.Ytjhhcfadeankfaa.VArg
open Go.RowKit Go.VBase Go.ChangeShapes Go.WideShapes Go.Deep

theorem bys_of_trod {H : Type} {enc : TypeId × Value → H} {w : World} {n : Nat} {v : Value} {x : DataW H × List MemPlace} (h : DataW.trod enc Try.prog w 0 (fun _ => true) true n 22 [v] = some x) (hw : ∀ n ∈ x.1.weights Try.prog 22, n ≤ reachBytes) :
    ∃ l : List UInt8, Bys w v l ∧ l.length ≤ 140737488351232 := by
  rcases open_ints Try.underlying22 Try.underlying5 (by kernel_rfl) h with ⟨hcs, _⟩ | ⟨y, l, c, zs, hcs, _, hl, hm, hz, hx, hcell, hwz⟩
  · simp at hcs; subst hcs
    exact ⟨[], Bys.nil _, by simp⟩
  · simp at hcs; subst hcs
    obtain ⟨m, hm1, hm2⟩ := bys_of_row (w := w) (a := some y) (len := l) (cap := c) (zs := zs) (.inr ⟨y, rfl, hl, hm, by simpa using hz, hcell, hwz⟩)
    refine ⟨m, hm2, ?_⟩
    have hb : Try.prog.bytesOf 5 = 1 := by kernel_rfl
    have := hw ((zs.take l).length * 1 + (zs.drop l).length * 1) (by
      rw [hx]
      simp only [DataW.weights, Try.underlying22, List.mem_cons]
      left
      rw [hb]; simp [lits])
    rw [List.length_take, List.length_drop] at this
    simp at hz
    have e : reachBytes = 140737488351232 := by decide
    omega

theorem bys_of_arg {H : Type} {enc : TypeId × Value → H} {w : World} {a : Option Addr} {len cap : Nat} {d : DataW H} {p : List MemPlace} (h : DataW.Trod enc Try.prog w 0 (fun _ => true) true 22 (.slice a len cap) d p) (hw : ∀ n ∈ d.weights Try.prog 22, n ≤ reachBytes) :
    ∃ l : List UInt8, Bys w (.slice a len cap) l ∧ l.length = len ∧ l.length ≤ 140737488351232 := by
  obtain ⟨fuel, hf⟩ := h
  obtain ⟨l, hb, hl⟩ := bys_of_trod (x := (d, p)) hf hw
  refine ⟨l, hb, ?_, hl⟩
  obtain ⟨a', cap', h1, _⟩ := hb
  cases h1; rfl
end Go.Proofs.Ytjhhcfadeankfaa.VArg
