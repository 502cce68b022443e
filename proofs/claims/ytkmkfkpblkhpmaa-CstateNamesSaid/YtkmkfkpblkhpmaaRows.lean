/-
  No cell of these rows narrows 'for every input' (looked for: loops, veiled, ifaces, maps, wideKeys, modest, calm, conditions, laid).
  DERIVED. THE GIVEN ROWS OF THIS SEAT. 8 by the template 'for every input the law returns true; each argument reads behind the call as it read before'; 0 by the template 'total and deterministic' (their statements: YtkmkfkpblkhpmaaTotals.lean).
  GIVEN WITH THE SEED: the statements are not yours to turn. If you find one false, say at which input.
  Laid BY PROGRAM, IN A SANDBOX (cutbox-rows.mjs): the forced cells as the released guide's own fill.sh prints them over the translation 649405bde52dc080… (all of the seat's roots in one cut). By AI agents, Wed Nov 11 2026. No macro, syntax, notation, axiom, sorry.
-/
import Derived.Test.YtkmkfkpblkhpmaaChecked
import GoSem.Claim
import GoSem.ClaimJoined
import GoSem.ClaimMapViews
import Derived.JoinedTies
import Derived.KernelRfl
namespace Go.Proofs.Ytkmkfkpblkhpmaa
/- THE CELL 'sum', in the pinned program and in every row, IS THE sha256 OF THE DUMP (.gsa) THAT YtkmkfkpblkhpmaaProg.lean LOADS. Nothing in Lean hashes anything: it is a label: what it is worth is what the hold of that sum in a sandbox is worth. -/
noncomputable def Try.pinned : Pinned := { name := "ytkmkfkpblkhpmaa", sum := "649405bde52dc0800cc3e077f95044ea1d0973cf52b1bd20edf841675fbfdc15", checked := Try.checked }
namespace Rows
def none {H : Type} : Left H := { results := [], args := [] }

/-- 'vesperslaw04.CstateSteps': WHATEVER THE INPUT: true; the input reads as it did. -/
def cstateStepsSpec : ChangeSpec := { name := "cstateSteps", fn := fun _ => fun
  | [d1, d2, d3] => { results := [.lit (.bool true)], args := [d1, d2, d3] }
  | _ => none }
def cstateStepsRow : OpenClaim := { program := "ytkmkfkpblkhpmaa", sum := "649405bde52dc0800cc3e077f95044ea1d0973cf52b1bd20edf841675fbfdc15", func := "vespers/vesperslaw04.CstateSteps", spec := "cstateSteps", apart := false }
def CstateStepsSaid : Prop := cstateStepsRow.holds Try.pinned (OpenSpec.ofChange cstateStepsSpec)

/-- ITS FALSE NEIGHBOUR: 'it returns false'. Refute it at one input. -/
def cstateStepsWrong : ChangeSpec := { name := "cstateSteps", fn := fun _ => fun
  | [d1, d2, d3] => { results := [.lit (.bool false)], args := [d1, d2, d3] }
  | _ => none }
def CstateStepsWrongFalsely : Prop := cstateStepsRow.holds Try.pinned (OpenSpec.ofChange cstateStepsWrong)

/-- 'vesperslaw04.CstateAsks': WHATEVER THE INPUT: true; the input reads as it did. -/
def cstateAsksSpec : ChangeSpec := { name := "cstateAsks", fn := fun _ => fun
  | [d1, d2, d3, d4] => { results := [.lit (.bool true)], args := [d1, d2, d3, d4] }
  | _ => none }
def cstateAsksRow : OpenClaim := { program := "ytkmkfkpblkhpmaa", sum := "649405bde52dc0800cc3e077f95044ea1d0973cf52b1bd20edf841675fbfdc15", func := "vespers/vesperslaw04.CstateAsks", spec := "cstateAsks", unfollowed := true, recurses := true, apart := false }
def CstateAsksSaid : Prop := cstateAsksRow.holds Try.pinned (OpenSpec.ofChange cstateAsksSpec)

/-- ITS FALSE NEIGHBOUR: 'it returns false'. Refute it at one input. -/
def cstateAsksWrong : ChangeSpec := { name := "cstateAsks", fn := fun _ => fun
  | [d1, d2, d3, d4] => { results := [.lit (.bool false)], args := [d1, d2, d3, d4] }
  | _ => none }
def CstateAsksWrongFalsely : Prop := cstateAsksRow.holds Try.pinned (OpenSpec.ofChange cstateAsksWrong)

/-- 'vesperslaw04.CstateForms': WHATEVER THE INPUT: true; the input reads as it did. -/
def cstateFormsSpec : ChangeSpec := { name := "cstateForms", fn := fun _ => fun
  | [d1, d2] => { results := [.lit (.bool true)], args := [d1, d2] }
  | _ => none }
def cstateFormsRow : OpenClaim := { program := "ytkmkfkpblkhpmaa", sum := "649405bde52dc0800cc3e077f95044ea1d0973cf52b1bd20edf841675fbfdc15", func := "vespers/vesperslaw04.CstateForms", spec := "cstateForms", unfollowed := true, recurses := true, apart := false }
def CstateFormsSaid : Prop := cstateFormsRow.holds Try.pinned (OpenSpec.ofChange cstateFormsSpec)

/-- ITS FALSE NEIGHBOUR: 'it returns false'. Refute it at one input. -/
def cstateFormsWrong : ChangeSpec := { name := "cstateForms", fn := fun _ => fun
  | [d1, d2] => { results := [.lit (.bool false)], args := [d1, d2] }
  | _ => none }
def CstateFormsWrongFalsely : Prop := cstateFormsRow.holds Try.pinned (OpenSpec.ofChange cstateFormsWrong)

/-- 'vesperslaw04.CstateOrders': WHATEVER THE INPUT: true; the input reads as it did. -/
def cstateOrdersSpec : ChangeSpec := { name := "cstateOrders", fn := fun _ => fun
  | [d1, d2, d3] => { results := [.lit (.bool true)], args := [d1, d2, d3] }
  | _ => none }
def cstateOrdersRow : OpenClaim := { program := "ytkmkfkpblkhpmaa", sum := "649405bde52dc0800cc3e077f95044ea1d0973cf52b1bd20edf841675fbfdc15", func := "vespers/vesperslaw04.CstateOrders", spec := "cstateOrders", unfollowed := true, recurses := true, apart := false }
def CstateOrdersSaid : Prop := cstateOrdersRow.holds Try.pinned (OpenSpec.ofChange cstateOrdersSpec)

/-- ITS FALSE NEIGHBOUR: 'it returns false'. Refute it at one input. -/
def cstateOrdersWrong : ChangeSpec := { name := "cstateOrders", fn := fun _ => fun
  | [d1, d2, d3] => { results := [.lit (.bool false)], args := [d1, d2, d3] }
  | _ => none }
def CstateOrdersWrongFalsely : Prop := cstateOrdersRow.holds Try.pinned (OpenSpec.ofChange cstateOrdersWrong)

/-- 'vesperslaw04.CstateBack': WHATEVER THE INPUT: true; the input reads as it did. -/
def cstateBackSpec : ChangeSpec := { name := "cstateBack", fn := fun _ => fun
  | [d1, d2, d3] => { results := [.lit (.bool true)], args := [d1, d2, d3] }
  | _ => none }
def cstateBackRow : OpenClaim := { program := "ytkmkfkpblkhpmaa", sum := "649405bde52dc0800cc3e077f95044ea1d0973cf52b1bd20edf841675fbfdc15", func := "vespers/vesperslaw04.CstateBack", spec := "cstateBack", unfollowed := true, recurses := true, apart := false }
def CstateBackSaid : Prop := cstateBackRow.holds Try.pinned (OpenSpec.ofChange cstateBackSpec)

/-- ITS FALSE NEIGHBOUR: 'it returns false'. Refute it at one input. -/
def cstateBackWrong : ChangeSpec := { name := "cstateBack", fn := fun _ => fun
  | [d1, d2, d3] => { results := [.lit (.bool false)], args := [d1, d2, d3] }
  | _ => none }
def CstateBackWrongFalsely : Prop := cstateBackRow.holds Try.pinned (OpenSpec.ofChange cstateBackWrong)

/-- 'vesperslaw04.CstateFollows': WHATEVER THE INPUT: true; the input reads as it did. -/
def cstateFollowsSpec : ChangeSpec := { name := "cstateFollows", fn := fun _ => fun
  | [d1, d2, d3] => { results := [.lit (.bool true)], args := [d1, d2, d3] }
  | _ => none }
def cstateFollowsRow : OpenClaim := { program := "ytkmkfkpblkhpmaa", sum := "649405bde52dc0800cc3e077f95044ea1d0973cf52b1bd20edf841675fbfdc15", func := "vespers/vesperslaw04.CstateFollows", spec := "cstateFollows", unfollowed := true, recurses := true, apart := false }
def CstateFollowsSaid : Prop := cstateFollowsRow.holds Try.pinned (OpenSpec.ofChange cstateFollowsSpec)

/-- ITS FALSE NEIGHBOUR: 'it returns false'. Refute it at one input. -/
def cstateFollowsWrong : ChangeSpec := { name := "cstateFollows", fn := fun _ => fun
  | [d1, d2, d3] => { results := [.lit (.bool false)], args := [d1, d2, d3] }
  | _ => none }
def CstateFollowsWrongFalsely : Prop := cstateFollowsRow.holds Try.pinned (OpenSpec.ofChange cstateFollowsWrong)

/-- 'vesperslaw04.CstateApart': WHATEVER THE INPUT: true; the input reads as it did. -/
def cstateApartSpec : ChangeSpec := { name := "cstateApart", fn := fun _ => fun
  | [d1, d2, d3] => { results := [.lit (.bool true)], args := [d1, d2, d3] }
  | _ => none }
def cstateApartRow : OpenClaim := { program := "ytkmkfkpblkhpmaa", sum := "649405bde52dc0800cc3e077f95044ea1d0973cf52b1bd20edf841675fbfdc15", func := "vespers/vesperslaw04.CstateApart", spec := "cstateApart", unfollowed := true, recurses := true, apart := false }
def CstateApartSaid : Prop := cstateApartRow.holds Try.pinned (OpenSpec.ofChange cstateApartSpec)

/-- ITS FALSE NEIGHBOUR: 'it returns false'. Refute it at one input. -/
def cstateApartWrong : ChangeSpec := { name := "cstateApart", fn := fun _ => fun
  | [d1, d2, d3] => { results := [.lit (.bool false)], args := [d1, d2, d3] }
  | _ => none }
def CstateApartWrongFalsely : Prop := cstateApartRow.holds Try.pinned (OpenSpec.ofChange cstateApartWrong)

/-- 'vesperslaw04.CstateNames': WHATEVER THE INPUT: true; the input reads as it did. -/
def cstateNamesSpec : ChangeSpec := { name := "cstateNames", fn := fun _ => fun
  | [] => { results := [.lit (.bool true)], args := [] }
  | _ => none }
def cstateNamesRow : OpenClaim := { program := "ytkmkfkpblkhpmaa", sum := "649405bde52dc0800cc3e077f95044ea1d0973cf52b1bd20edf841675fbfdc15", func := "vespers/vesperslaw04.CstateNames", spec := "cstateNames", unfollowed := true, recurses := true, apart := false }
def CstateNamesSaid : Prop := cstateNamesRow.holds Try.pinned (OpenSpec.ofChange cstateNamesSpec)

/-- ITS FALSE NEIGHBOUR: 'it returns false'. Refute it at one input. -/
def cstateNamesWrong : ChangeSpec := { name := "cstateNames", fn := fun _ => fun
  | [] => { results := [.lit (.bool false)], args := [] }
  | _ => none }
def CstateNamesWrongFalsely : Prop := cstateNamesRow.holds Try.pinned (OpenSpec.ofChange cstateNamesWrong)

/- THE SECOND FORM. 'bulk': how many values and letters a reading holds, each counted each time it is reached (what is shared counts as often as it is met; a slice's spare places count too). A statement '..UptoSaid' is the law's where the arguments, and the package variables that the reading takes, are together of bulk at most 1048576: NARROWER than '..Said'. Prove '..Said' where nothing that the law and all that it calls make is longer than what came in: it says more and counts as full. Else prove '..UptoSaid'. A law counts once. -/
mutual
def uptoBulk {H : Type} : DataW H → Nat
  | .lit (.string bytes) => bytes.length + 1
  | .lit _ => 1
  | .nil => 1
  | .ptr d => uptoBulk d + 1
  | .slice elems spare => uptoBulkAll elems + uptoBulkAll spare + 1
  | .agg parts => uptoBulkAll parts + 1
  | .iface _ d => uptoBulk d + 1
  | .map entries => uptoBulkEntries entries + 1
  | .held _ => 1
def uptoBulkAll {H : Type} : List (DataW H) → Nat
  | [] => 0
  | d :: r => uptoBulk d + uptoBulkAll r
def uptoBulkEntries {H : Type} : List (Lit × DataW H) → Nat
  | [] => 0
  | x :: r => uptoBulkEntry x + uptoBulkEntries r
def uptoBulkEntry {H : Type} : Lit × DataW H → Nat
  | (.string bytes, d) => bytes.length + uptoBulk d + 1
  | (_, d) => uptoBulk d + 1
 end
def uptoSmall : (H : Type) → List (DataW H) → Bool := fun _ ds => decide (uptoBulkAll ds ≤ 1048576)
def OpenSpec.upto (s : _root_.Go.ChangeSpec) : _root_.Go.OpenSpec := { _root_.Go.OpenSpec.ofChange s with cond := some uptoSmall }

/-- 'vesperslaw04.CstateSteps', WHERE WHAT IT READS IS OF BULK AT MOST 1048576: true; the input reads as it did. -/
def cstateStepsUptoRow : OpenClaim := { program := "ytkmkfkpblkhpmaa", sum := "649405bde52dc0800cc3e077f95044ea1d0973cf52b1bd20edf841675fbfdc15", func := "vespers/vesperslaw04.CstateSteps", spec := "cstateSteps", apart := false, narrowed := true }
def CstateStepsUptoSaid : Prop := cstateStepsUptoRow.holds Try.pinned (OpenSpec.upto cstateStepsSpec)

/-- 'vesperslaw04.CstateAsks', WHERE WHAT IT READS IS OF BULK AT MOST 1048576: true; the input reads as it did. -/
def cstateAsksUptoRow : OpenClaim := { program := "ytkmkfkpblkhpmaa", sum := "649405bde52dc0800cc3e077f95044ea1d0973cf52b1bd20edf841675fbfdc15", func := "vespers/vesperslaw04.CstateAsks", spec := "cstateAsks", unfollowed := true, recurses := true, apart := false, narrowed := true }
def CstateAsksUptoSaid : Prop := cstateAsksUptoRow.holds Try.pinned (OpenSpec.upto cstateAsksSpec)

/-- 'vesperslaw04.CstateForms', WHERE WHAT IT READS IS OF BULK AT MOST 1048576: true; the input reads as it did. -/
def cstateFormsUptoRow : OpenClaim := { program := "ytkmkfkpblkhpmaa", sum := "649405bde52dc0800cc3e077f95044ea1d0973cf52b1bd20edf841675fbfdc15", func := "vespers/vesperslaw04.CstateForms", spec := "cstateForms", unfollowed := true, recurses := true, apart := false, narrowed := true }
def CstateFormsUptoSaid : Prop := cstateFormsUptoRow.holds Try.pinned (OpenSpec.upto cstateFormsSpec)

/-- 'vesperslaw04.CstateOrders', WHERE WHAT IT READS IS OF BULK AT MOST 1048576: true; the input reads as it did. -/
def cstateOrdersUptoRow : OpenClaim := { program := "ytkmkfkpblkhpmaa", sum := "649405bde52dc0800cc3e077f95044ea1d0973cf52b1bd20edf841675fbfdc15", func := "vespers/vesperslaw04.CstateOrders", spec := "cstateOrders", unfollowed := true, recurses := true, apart := false, narrowed := true }
def CstateOrdersUptoSaid : Prop := cstateOrdersUptoRow.holds Try.pinned (OpenSpec.upto cstateOrdersSpec)

/-- 'vesperslaw04.CstateBack', WHERE WHAT IT READS IS OF BULK AT MOST 1048576: true; the input reads as it did. -/
def cstateBackUptoRow : OpenClaim := { program := "ytkmkfkpblkhpmaa", sum := "649405bde52dc0800cc3e077f95044ea1d0973cf52b1bd20edf841675fbfdc15", func := "vespers/vesperslaw04.CstateBack", spec := "cstateBack", unfollowed := true, recurses := true, apart := false, narrowed := true }
def CstateBackUptoSaid : Prop := cstateBackUptoRow.holds Try.pinned (OpenSpec.upto cstateBackSpec)

/-- 'vesperslaw04.CstateFollows', WHERE WHAT IT READS IS OF BULK AT MOST 1048576: true; the input reads as it did. -/
def cstateFollowsUptoRow : OpenClaim := { program := "ytkmkfkpblkhpmaa", sum := "649405bde52dc0800cc3e077f95044ea1d0973cf52b1bd20edf841675fbfdc15", func := "vespers/vesperslaw04.CstateFollows", spec := "cstateFollows", unfollowed := true, recurses := true, apart := false, narrowed := true }
def CstateFollowsUptoSaid : Prop := cstateFollowsUptoRow.holds Try.pinned (OpenSpec.upto cstateFollowsSpec)

/-- 'vesperslaw04.CstateApart', WHERE WHAT IT READS IS OF BULK AT MOST 1048576: true; the input reads as it did. -/
def cstateApartUptoRow : OpenClaim := { program := "ytkmkfkpblkhpmaa", sum := "649405bde52dc0800cc3e077f95044ea1d0973cf52b1bd20edf841675fbfdc15", func := "vespers/vesperslaw04.CstateApart", spec := "cstateApart", unfollowed := true, recurses := true, apart := false, narrowed := true }
def CstateApartUptoSaid : Prop := cstateApartUptoRow.holds Try.pinned (OpenSpec.upto cstateApartSpec)

/-- 'vesperslaw04.CstateNames', WHERE WHAT IT READS IS OF BULK AT MOST 1048576: true; the input reads as it did. -/
def cstateNamesUptoRow : OpenClaim := { program := "ytkmkfkpblkhpmaa", sum := "649405bde52dc0800cc3e077f95044ea1d0973cf52b1bd20edf841675fbfdc15", func := "vespers/vesperslaw04.CstateNames", spec := "cstateNames", unfollowed := true, recurses := true, apart := false, narrowed := true }
def CstateNamesUptoSaid : Prop := cstateNamesUptoRow.holds Try.pinned (OpenSpec.upto cstateNamesSpec)

end Rows
end Go.Proofs.Ytkmkfkpblkhpmaa
