/-
  No cell of these rows narrows 'for every input' (looked for: loops, veiled, ifaces, maps, wideKeys, modest, calm, conditions, laid).
  DERIVED. THE GIVEN ROWS OF THIS SEAT. 7 by the template 'for every input the law returns true; each argument reads behind the call as it read before'; 0 by the template 'total and deterministic' (their statements: YtfjjgceagpcfkaaTotals.lean).
  GIVEN WITH THE SEED: the statements are not yours to turn. If you find one false, say at which input.
  Laid BY PROGRAM, IN A SANDBOX (cutbox-rows.mjs): the forced cells as the released guide's own fill.sh prints them over the translation 4721bb6f8a208bbd… (all of the seat's roots in one cut). By AI agents, Wed Nov 11 2026. No macro, syntax, notation, axiom, sorry.
-/
import Derived.Test.YtfjjgceagpcfkaaChecked
import GoSem.Claim
import GoSem.ClaimJoined
import GoSem.ClaimMapViews
import Derived.JoinedTies
import Derived.KernelRfl
namespace Go.Proofs.Ytfjjgceagpcfkaa
/- THE CELL 'sum', in the pinned program and in every row, IS THE sha256 OF THE DUMP (.gsa) THAT YtfjjgceagpcfkaaProg.lean LOADS. Nothing in Lean hashes anything: it is a label: what it is worth is what the hold of that sum in a sandbox is worth. -/
noncomputable def Try.pinned : Pinned := { name := "ytfjjgceagpcfkaa", sum := "4721bb6f8a208bbde357db4d4890fd29daeb53cf89ccf18b8c3b4c8845eec3e5", checked := Try.checked }
namespace Rows
def none {H : Type} : Left H := { results := [], args := [] }

/-- 'vesperslaw05.FrameLong': WHATEVER THE INPUT: true; the input reads as it did. -/
def frameLongSpec : ChangeSpec := { name := "frameLong", fn := fun _ => fun
  | [d] => { results := [.lit (.bool true)], args := [d] }
  | _ => none }
def frameLongRow : OpenClaim := { program := "ytfjjgceagpcfkaa", sum := "4721bb6f8a208bbde357db4d4890fd29daeb53cf89ccf18b8c3b4c8845eec3e5", func := "vespers/vesperslaw05.FrameLong", spec := "frameLong", unfollowed := true, recurses := true, apart := false }
def FrameLongSaid : Prop := frameLongRow.holds Try.pinned (OpenSpec.ofChange frameLongSpec)

/-- ITS FALSE NEIGHBOUR: 'it returns false'. Refute it at one input. -/
def frameLongWrong : ChangeSpec := { name := "frameLong", fn := fun _ => fun
  | [d] => { results := [.lit (.bool false)], args := [d] }
  | _ => none }
def FrameLongWrongFalsely : Prop := frameLongRow.holds Try.pinned (OpenSpec.ofChange frameLongWrong)

/-- 'vesperslaw05.FrameFits': WHATEVER THE INPUT: true; the input reads as it did. -/
def frameFitsSpec : ChangeSpec := { name := "frameFits", fn := fun _ => fun
  | [d1, d2] => { results := [.lit (.bool true)], args := [d1, d2] }
  | _ => none }
def frameFitsRow : OpenClaim := { program := "ytfjjgceagpcfkaa", sum := "4721bb6f8a208bbde357db4d4890fd29daeb53cf89ccf18b8c3b4c8845eec3e5", func := "vespers/vesperslaw05.FrameFits", spec := "frameFits", unfollowed := true, recurses := true, apart := false }
def FrameFitsSaid : Prop := frameFitsRow.holds Try.pinned (OpenSpec.ofChange frameFitsSpec)

/-- ITS FALSE NEIGHBOUR: 'it returns false'. Refute it at one input. -/
def frameFitsWrong : ChangeSpec := { name := "frameFits", fn := fun _ => fun
  | [d1, d2] => { results := [.lit (.bool false)], args := [d1, d2] }
  | _ => none }
def FrameFitsWrongFalsely : Prop := frameFitsRow.holds Try.pinned (OpenSpec.ofChange frameFitsWrong)

/-- 'vesperslaw05.FrameForms': WHATEVER THE INPUT: true; the input reads as it did. -/
def frameFormsSpec : ChangeSpec := { name := "frameForms", fn := fun _ => fun
  | [d1, d2, d3] => { results := [.lit (.bool true)], args := [d1, d2, d3] }
  | _ => none }
def frameFormsRow : OpenClaim := { program := "ytfjjgceagpcfkaa", sum := "4721bb6f8a208bbde357db4d4890fd29daeb53cf89ccf18b8c3b4c8845eec3e5", func := "vespers/vesperslaw05.FrameForms", spec := "frameForms", unfollowed := true, recurses := true, apart := false }
def FrameFormsSaid : Prop := frameFormsRow.holds Try.pinned (OpenSpec.ofChange frameFormsSpec)

/-- ITS FALSE NEIGHBOUR: 'it returns false'. Refute it at one input. -/
def frameFormsWrong : ChangeSpec := { name := "frameForms", fn := fun _ => fun
  | [d1, d2, d3] => { results := [.lit (.bool false)], args := [d1, d2, d3] }
  | _ => none }
def FrameFormsWrongFalsely : Prop := frameFormsRow.holds Try.pinned (OpenSpec.ofChange frameFormsWrong)

/-- 'vesperslaw05.FrameBack': WHATEVER THE INPUT: true; the input reads as it did. -/
def frameBackSpec : ChangeSpec := { name := "frameBack", fn := fun _ => fun
  | [d1, d2] => { results := [.lit (.bool true)], args := [d1, d2] }
  | _ => none }
def frameBackRow : OpenClaim := { program := "ytfjjgceagpcfkaa", sum := "4721bb6f8a208bbde357db4d4890fd29daeb53cf89ccf18b8c3b4c8845eec3e5", func := "vespers/vesperslaw05.FrameBack", spec := "frameBack", unfollowed := true, recurses := true, apart := false }
def FrameBackSaid : Prop := frameBackRow.holds Try.pinned (OpenSpec.ofChange frameBackSpec)

/-- ITS FALSE NEIGHBOUR: 'it returns false'. Refute it at one input. -/
def frameBackWrong : ChangeSpec := { name := "frameBack", fn := fun _ => fun
  | [d1, d2] => { results := [.lit (.bool false)], args := [d1, d2] }
  | _ => none }
def FrameBackWrongFalsely : Prop := frameBackRow.holds Try.pinned (OpenSpec.ofChange frameBackWrong)

/-- 'vesperslaw05.FrameBinds': WHATEVER THE INPUT: true; the input reads as it did. -/
def frameBindsSpec : ChangeSpec := { name := "frameBinds", fn := fun _ => fun
  | [d1, d2] => { results := [.lit (.bool true)], args := [d1, d2] }
  | _ => none }
def frameBindsRow : OpenClaim := { program := "ytfjjgceagpcfkaa", sum := "4721bb6f8a208bbde357db4d4890fd29daeb53cf89ccf18b8c3b4c8845eec3e5", func := "vespers/vesperslaw05.FrameBinds", spec := "frameBinds", unfollowed := true, recurses := true, apart := false }
def FrameBindsSaid : Prop := frameBindsRow.holds Try.pinned (OpenSpec.ofChange frameBindsSpec)

/-- ITS FALSE NEIGHBOUR: 'it returns false'. Refute it at one input. -/
def frameBindsWrong : ChangeSpec := { name := "frameBinds", fn := fun _ => fun
  | [d1, d2] => { results := [.lit (.bool false)], args := [d1, d2] }
  | _ => none }
def FrameBindsWrongFalsely : Prop := frameBindsRow.holds Try.pinned (OpenSpec.ofChange frameBindsWrong)

/-- 'vesperslaw05.FrameNames': WHATEVER THE INPUT: true; the input reads as it did. -/
def frameNamesSpec : ChangeSpec := { name := "frameNames", fn := fun _ => fun
  | [] => { results := [.lit (.bool true)], args := [] }
  | _ => none }
def frameNamesRow : OpenClaim := { program := "ytfjjgceagpcfkaa", sum := "4721bb6f8a208bbde357db4d4890fd29daeb53cf89ccf18b8c3b4c8845eec3e5", func := "vespers/vesperslaw05.FrameNames", spec := "frameNames", unfollowed := true, recurses := true, apart := false }
def FrameNamesSaid : Prop := frameNamesRow.holds Try.pinned (OpenSpec.ofChange frameNamesSpec)

/-- ITS FALSE NEIGHBOUR: 'it returns false'. Refute it at one input. -/
def frameNamesWrong : ChangeSpec := { name := "frameNames", fn := fun _ => fun
  | [] => { results := [.lit (.bool false)], args := [] }
  | _ => none }
def FrameNamesWrongFalsely : Prop := frameNamesRow.holds Try.pinned (OpenSpec.ofChange frameNamesWrong)

/-- 'vesperslaw05.FrameCuts': WHATEVER THE INPUT: true; the input reads as it did. -/
def frameCutsSpec : ChangeSpec := { name := "frameCuts", fn := fun _ => fun
  | [d1, d2, d3] => { results := [.lit (.bool true)], args := [d1, d2, d3] }
  | _ => none }
def frameCutsRow : OpenClaim := { program := "ytfjjgceagpcfkaa", sum := "4721bb6f8a208bbde357db4d4890fd29daeb53cf89ccf18b8c3b4c8845eec3e5", func := "vespers/vesperslaw05.FrameCuts", spec := "frameCuts", unfollowed := true, recurses := true, apart := false }
def FrameCutsSaid : Prop := frameCutsRow.holds Try.pinned (OpenSpec.ofChange frameCutsSpec)

/-- ITS FALSE NEIGHBOUR: 'it returns false'. Refute it at one input. -/
def frameCutsWrong : ChangeSpec := { name := "frameCuts", fn := fun _ => fun
  | [d1, d2, d3] => { results := [.lit (.bool false)], args := [d1, d2, d3] }
  | _ => none }
def FrameCutsWrongFalsely : Prop := frameCutsRow.holds Try.pinned (OpenSpec.ofChange frameCutsWrong)

/- THE SECOND FORM. 'bulk': how many values and letters a reading holds, each counted each time it is reached (what is shared counts as often as it is met; a slice's spare places count too). A statement '..UptoSaid' is the law's where the arguments, and the package variables that the reading takes, are together of bulk at most 1048576: NARROWER than '..Said'. Prove '..Said' where nothing that the law and all that it calls make is longer than what came in: it says more and counts as full. Else prove '..UptoSaid'. A law counts once. -/
mutual
def uptoBulk {H : Type} : DataW H → Nat
  | .lit (.string bytes) => bytes.length + 1
  | .lit _ => 1
  | .nil => 1
  | .ptr d => uptoBulk d + 1
  | .slice elems spare => uptoBulkAll elems + uptoBulkAll spare + 1
  | .agg parts => uptoBulkAll parts + 1
  | .iface _ d => uptoBulk d + 1
  | .map entries => uptoBulkEntries entries + 1
  | .held _ => 1
def uptoBulkAll {H : Type} : List (DataW H) → Nat
  | [] => 0
  | d :: r => uptoBulk d + uptoBulkAll r
def uptoBulkEntries {H : Type} : List (Lit × DataW H) → Nat
  | [] => 0
  | x :: r => uptoBulkEntry x + uptoBulkEntries r
def uptoBulkEntry {H : Type} : Lit × DataW H → Nat
  | (.string bytes, d) => bytes.length + uptoBulk d + 1
  | (_, d) => uptoBulk d + 1
 end
def uptoSmall : (H : Type) → List (DataW H) → Bool := fun _ ds => decide (uptoBulkAll ds ≤ 1048576)
def OpenSpec.upto (s : _root_.Go.ChangeSpec) : _root_.Go.OpenSpec := { _root_.Go.OpenSpec.ofChange s with cond := some uptoSmall }

/-- 'vesperslaw05.FrameLong', WHERE WHAT IT READS IS OF BULK AT MOST 1048576: true; the input reads as it did. -/
def frameLongUptoRow : OpenClaim := { program := "ytfjjgceagpcfkaa", sum := "4721bb6f8a208bbde357db4d4890fd29daeb53cf89ccf18b8c3b4c8845eec3e5", func := "vespers/vesperslaw05.FrameLong", spec := "frameLong", unfollowed := true, recurses := true, apart := false, narrowed := true }
def FrameLongUptoSaid : Prop := frameLongUptoRow.holds Try.pinned (OpenSpec.upto frameLongSpec)

/-- 'vesperslaw05.FrameFits', WHERE WHAT IT READS IS OF BULK AT MOST 1048576: true; the input reads as it did. -/
def frameFitsUptoRow : OpenClaim := { program := "ytfjjgceagpcfkaa", sum := "4721bb6f8a208bbde357db4d4890fd29daeb53cf89ccf18b8c3b4c8845eec3e5", func := "vespers/vesperslaw05.FrameFits", spec := "frameFits", unfollowed := true, recurses := true, apart := false, narrowed := true }
def FrameFitsUptoSaid : Prop := frameFitsUptoRow.holds Try.pinned (OpenSpec.upto frameFitsSpec)

/-- 'vesperslaw05.FrameForms', WHERE WHAT IT READS IS OF BULK AT MOST 1048576: true; the input reads as it did. -/
def frameFormsUptoRow : OpenClaim := { program := "ytfjjgceagpcfkaa", sum := "4721bb6f8a208bbde357db4d4890fd29daeb53cf89ccf18b8c3b4c8845eec3e5", func := "vespers/vesperslaw05.FrameForms", spec := "frameForms", unfollowed := true, recurses := true, apart := false, narrowed := true }
def FrameFormsUptoSaid : Prop := frameFormsUptoRow.holds Try.pinned (OpenSpec.upto frameFormsSpec)

/-- 'vesperslaw05.FrameBack', WHERE WHAT IT READS IS OF BULK AT MOST 1048576: true; the input reads as it did. -/
def frameBackUptoRow : OpenClaim := { program := "ytfjjgceagpcfkaa", sum := "4721bb6f8a208bbde357db4d4890fd29daeb53cf89ccf18b8c3b4c8845eec3e5", func := "vespers/vesperslaw05.FrameBack", spec := "frameBack", unfollowed := true, recurses := true, apart := false, narrowed := true }
def FrameBackUptoSaid : Prop := frameBackUptoRow.holds Try.pinned (OpenSpec.upto frameBackSpec)

/-- 'vesperslaw05.FrameBinds', WHERE WHAT IT READS IS OF BULK AT MOST 1048576: true; the input reads as it did. -/
def frameBindsUptoRow : OpenClaim := { program := "ytfjjgceagpcfkaa", sum := "4721bb6f8a208bbde357db4d4890fd29daeb53cf89ccf18b8c3b4c8845eec3e5", func := "vespers/vesperslaw05.FrameBinds", spec := "frameBinds", unfollowed := true, recurses := true, apart := false, narrowed := true }
def FrameBindsUptoSaid : Prop := frameBindsUptoRow.holds Try.pinned (OpenSpec.upto frameBindsSpec)

/-- 'vesperslaw05.FrameNames', WHERE WHAT IT READS IS OF BULK AT MOST 1048576: true; the input reads as it did. -/
def frameNamesUptoRow : OpenClaim := { program := "ytfjjgceagpcfkaa", sum := "4721bb6f8a208bbde357db4d4890fd29daeb53cf89ccf18b8c3b4c8845eec3e5", func := "vespers/vesperslaw05.FrameNames", spec := "frameNames", unfollowed := true, recurses := true, apart := false, narrowed := true }
def FrameNamesUptoSaid : Prop := frameNamesUptoRow.holds Try.pinned (OpenSpec.upto frameNamesSpec)

/-- 'vesperslaw05.FrameCuts', WHERE WHAT IT READS IS OF BULK AT MOST 1048576: true; the input reads as it did. -/
def frameCutsUptoRow : OpenClaim := { program := "ytfjjgceagpcfkaa", sum := "4721bb6f8a208bbde357db4d4890fd29daeb53cf89ccf18b8c3b4c8845eec3e5", func := "vespers/vesperslaw05.FrameCuts", spec := "frameCuts", unfollowed := true, recurses := true, apart := false, narrowed := true }
def FrameCutsUptoSaid : Prop := frameCutsUptoRow.holds Try.pinned (OpenSpec.upto frameCutsSpec)

end Rows
end Go.Proofs.Ytfjjgceagpcfkaa
