/-
  No cell of these rows narrows 'for every input' (looked for: loops, veiled, ifaces, maps, wideKeys, modest, calm, conditions, laid).
  DERIVED. THE GIVEN ROWS OF THIS SEAT. 6 by the template 'for every input the law returns true; each argument reads behind the call as it read before'; 0 by the template 'total and deterministic' (their statements: YtolmcdimhnnpaaaTotals.lean).
  GIVEN WITH THE SEED: the statements are not yours to turn. If you find one false, say at which input.
  Laid BY PROGRAM, IN A SANDBOX (cutbox-rows.mjs): the forced cells as the released guide's own fill.sh prints them over the translation a86a4b5e8ad297b2… (all of the seat's roots in one cut). By AI agents, Wed Nov 11 2026. No macro, syntax, notation, axiom, sorry.
-/
import Derived.Test.YtolmcdimhnnpaaaChecked
import GoSem.Claim
import GoSem.ClaimJoined
import GoSem.ClaimMapViews
import Derived.JoinedTies
import Derived.KernelRfl
namespace Go.Proofs.Ytolmcdimhnnpaaa
/- THE CELL 'sum', in the pinned program and in every row, IS THE sha256 OF THE DUMP (.gsa) THAT YtolmcdimhnnpaaaProg.lean LOADS. Nothing in Lean hashes anything: it is a label: what it is worth is what the hold of that sum in a sandbox is worth. -/
noncomputable def Try.pinned : Pinned := { name := "ytolmcdimhnnpaaa", sum := "a86a4b5e8ad297b24d476152ac85e2aee0e0f87501106ffc1c60ea4f7fda2d18", checked := Try.checked }
namespace Rows
def none {H : Type} : Left H := { results := [], args := [] }

/-- 'vesperslaw01.OctetOuts': WHATEVER THE INPUT: true; the input reads as it did. -/
def octetOutsSpec : ChangeSpec := { name := "octetOuts", fn := fun _ => fun
  | [d] => { results := [.lit (.bool true)], args := [d] }
  | _ => none }
def octetOutsRow : OpenClaim := { program := "ytolmcdimhnnpaaa", sum := "a86a4b5e8ad297b24d476152ac85e2aee0e0f87501106ffc1c60ea4f7fda2d18", func := "vespers/vesperslaw01.OctetOuts", spec := "octetOuts", unfollowed := true, recurses := true, apart := false }
def OctetOutsSaid : Prop := octetOutsRow.holds Try.pinned (OpenSpec.ofChange octetOutsSpec)

/-- ITS FALSE NEIGHBOUR: 'it returns false'. Refute it at one input. -/
def octetOutsWrong : ChangeSpec := { name := "octetOuts", fn := fun _ => fun
  | [d] => { results := [.lit (.bool false)], args := [d] }
  | _ => none }
def OctetOutsWrongFalsely : Prop := octetOutsRow.holds Try.pinned (OpenSpec.ofChange octetOutsWrong)

/-- 'vesperslaw01.OctetHigh': WHATEVER THE INPUT: true; the input reads as it did. -/
def octetHighSpec : ChangeSpec := { name := "octetHigh", fn := fun _ => fun
  | [d1, d2, d3] => { results := [.lit (.bool true)], args := [d1, d2, d3] }
  | _ => none }
def octetHighRow : OpenClaim := { program := "ytolmcdimhnnpaaa", sum := "a86a4b5e8ad297b24d476152ac85e2aee0e0f87501106ffc1c60ea4f7fda2d18", func := "vespers/vesperslaw01.OctetHigh", spec := "octetHigh", unfollowed := true, recurses := true, apart := false }
def OctetHighSaid : Prop := octetHighRow.holds Try.pinned (OpenSpec.ofChange octetHighSpec)

/-- ITS FALSE NEIGHBOUR: 'it returns false'. Refute it at one input. -/
def octetHighWrong : ChangeSpec := { name := "octetHigh", fn := fun _ => fun
  | [d1, d2, d3] => { results := [.lit (.bool false)], args := [d1, d2, d3] }
  | _ => none }
def OctetHighWrongFalsely : Prop := octetHighRow.holds Try.pinned (OpenSpec.ofChange octetHighWrong)

/-- 'vesperslaw01.OctetJoined': WHATEVER THE INPUT: true; the input reads as it did. -/
def octetJoinedSpec : ChangeSpec := { name := "octetJoined", fn := fun _ => fun
  | [d1, d2] => { results := [.lit (.bool true)], args := [d1, d2] }
  | _ => none }
def octetJoinedRow : OpenClaim := { program := "ytolmcdimhnnpaaa", sum := "a86a4b5e8ad297b24d476152ac85e2aee0e0f87501106ffc1c60ea4f7fda2d18", func := "vespers/vesperslaw01.OctetJoined", spec := "octetJoined", unfollowed := true, recurses := true, apart := false }
def OctetJoinedSaid : Prop := octetJoinedRow.holds Try.pinned (OpenSpec.ofChange octetJoinedSpec)

/-- ITS FALSE NEIGHBOUR: 'it returns false'. Refute it at one input. -/
def octetJoinedWrong : ChangeSpec := { name := "octetJoined", fn := fun _ => fun
  | [d1, d2] => { results := [.lit (.bool false)], args := [d1, d2] }
  | _ => none }
def OctetJoinedWrongFalsely : Prop := octetJoinedRow.holds Try.pinned (OpenSpec.ofChange octetJoinedWrong)

/-- 'vesperslaw01.OctetIns': WHATEVER THE INPUT: true; the input reads as it did. -/
def octetInsSpec : ChangeSpec := { name := "octetIns", fn := fun _ => fun
  | [d1, d2] => { results := [.lit (.bool true)], args := [d1, d2] }
  | _ => none }
def octetInsRow : OpenClaim := { program := "ytolmcdimhnnpaaa", sum := "a86a4b5e8ad297b24d476152ac85e2aee0e0f87501106ffc1c60ea4f7fda2d18", func := "vespers/vesperslaw01.OctetIns", spec := "octetIns", unfollowed := true, recurses := true, apart := false }
def OctetInsSaid : Prop := octetInsRow.holds Try.pinned (OpenSpec.ofChange octetInsSpec)

/-- ITS FALSE NEIGHBOUR: 'it returns false'. Refute it at one input. -/
def octetInsWrong : ChangeSpec := { name := "octetIns", fn := fun _ => fun
  | [d1, d2] => { results := [.lit (.bool false)], args := [d1, d2] }
  | _ => none }
def OctetInsWrongFalsely : Prop := octetInsRow.holds Try.pinned (OpenSpec.ofChange octetInsWrong)

/-- 'vesperslaw01.OctetCut': WHATEVER THE INPUT: true; the input reads as it did. -/
def octetCutSpec : ChangeSpec := { name := "octetCut", fn := fun _ => fun
  | [d1, d2] => { results := [.lit (.bool true)], args := [d1, d2] }
  | _ => none }
def octetCutRow : OpenClaim := { program := "ytolmcdimhnnpaaa", sum := "a86a4b5e8ad297b24d476152ac85e2aee0e0f87501106ffc1c60ea4f7fda2d18", func := "vespers/vesperslaw01.OctetCut", spec := "octetCut", unfollowed := true, recurses := true, apart := false }
def OctetCutSaid : Prop := octetCutRow.holds Try.pinned (OpenSpec.ofChange octetCutSpec)

/-- ITS FALSE NEIGHBOUR: 'it returns false'. Refute it at one input. -/
def octetCutWrong : ChangeSpec := { name := "octetCut", fn := fun _ => fun
  | [d1, d2] => { results := [.lit (.bool false)], args := [d1, d2] }
  | _ => none }
def OctetCutWrongFalsely : Prop := octetCutRow.holds Try.pinned (OpenSpec.ofChange octetCutWrong)

/-- 'vesperslaw01.OctetBack': WHATEVER THE INPUT: true; the input reads as it did. -/
def octetBackSpec : ChangeSpec := { name := "octetBack", fn := fun _ => fun
  | [d] => { results := [.lit (.bool true)], args := [d] }
  | _ => none }
def octetBackRow : OpenClaim := { program := "ytolmcdimhnnpaaa", sum := "a86a4b5e8ad297b24d476152ac85e2aee0e0f87501106ffc1c60ea4f7fda2d18", func := "vespers/vesperslaw01.OctetBack", spec := "octetBack", unfollowed := true, recurses := true, apart := false }
def OctetBackSaid : Prop := octetBackRow.holds Try.pinned (OpenSpec.ofChange octetBackSpec)

/-- ITS FALSE NEIGHBOUR: 'it returns false'. Refute it at one input. -/
def octetBackWrong : ChangeSpec := { name := "octetBack", fn := fun _ => fun
  | [d] => { results := [.lit (.bool false)], args := [d] }
  | _ => none }
def OctetBackWrongFalsely : Prop := octetBackRow.holds Try.pinned (OpenSpec.ofChange octetBackWrong)

/- THE SECOND FORM. 'bulk': how many values and letters a reading holds, each counted each time it is reached (what is shared counts as often as it is met; a slice's spare places count too). A statement '..UptoSaid' is the law's where the arguments, and the package variables that the reading takes, are together of bulk at most 1048576: NARROWER than '..Said'. Prove '..Said' where nothing that the law and all that it calls make is longer than what came in: it says more and counts as full. Else prove '..UptoSaid'. A law counts once. -/
mutual
def uptoBulk {H : Type} : DataW H → Nat
  | .lit (.string bytes) => bytes.length + 1
  | .lit _ => 1
  | .nil => 1
  | .ptr d => uptoBulk d + 1
  | .slice elems spare => uptoBulkAll elems + uptoBulkAll spare + 1
  | .agg parts => uptoBulkAll parts + 1
  | .iface _ d => uptoBulk d + 1
  | .map entries => uptoBulkEntries entries + 1
  | .held _ => 1
def uptoBulkAll {H : Type} : List (DataW H) → Nat
  | [] => 0
  | d :: r => uptoBulk d + uptoBulkAll r
def uptoBulkEntries {H : Type} : List (Lit × DataW H) → Nat
  | [] => 0
  | x :: r => uptoBulkEntry x + uptoBulkEntries r
def uptoBulkEntry {H : Type} : Lit × DataW H → Nat
  | (.string bytes, d) => bytes.length + uptoBulk d + 1
  | (_, d) => uptoBulk d + 1
 end
def uptoSmall : (H : Type) → List (DataW H) → Bool := fun _ ds => decide (uptoBulkAll ds ≤ 1048576)
def OpenSpec.upto (s : _root_.Go.ChangeSpec) : _root_.Go.OpenSpec := { _root_.Go.OpenSpec.ofChange s with cond := some uptoSmall }

/-- 'vesperslaw01.OctetOuts', WHERE WHAT IT READS IS OF BULK AT MOST 1048576: true; the input reads as it did. -/
def octetOutsUptoRow : OpenClaim := { program := "ytolmcdimhnnpaaa", sum := "a86a4b5e8ad297b24d476152ac85e2aee0e0f87501106ffc1c60ea4f7fda2d18", func := "vespers/vesperslaw01.OctetOuts", spec := "octetOuts", unfollowed := true, recurses := true, apart := false, narrowed := true }
def OctetOutsUptoSaid : Prop := octetOutsUptoRow.holds Try.pinned (OpenSpec.upto octetOutsSpec)

/-- 'vesperslaw01.OctetHigh', WHERE WHAT IT READS IS OF BULK AT MOST 1048576: true; the input reads as it did. -/
def octetHighUptoRow : OpenClaim := { program := "ytolmcdimhnnpaaa", sum := "a86a4b5e8ad297b24d476152ac85e2aee0e0f87501106ffc1c60ea4f7fda2d18", func := "vespers/vesperslaw01.OctetHigh", spec := "octetHigh", unfollowed := true, recurses := true, apart := false, narrowed := true }
def OctetHighUptoSaid : Prop := octetHighUptoRow.holds Try.pinned (OpenSpec.upto octetHighSpec)

/-- 'vesperslaw01.OctetJoined', WHERE WHAT IT READS IS OF BULK AT MOST 1048576: true; the input reads as it did. -/
def octetJoinedUptoRow : OpenClaim := { program := "ytolmcdimhnnpaaa", sum := "a86a4b5e8ad297b24d476152ac85e2aee0e0f87501106ffc1c60ea4f7fda2d18", func := "vespers/vesperslaw01.OctetJoined", spec := "octetJoined", unfollowed := true, recurses := true, apart := false, narrowed := true }
def OctetJoinedUptoSaid : Prop := octetJoinedUptoRow.holds Try.pinned (OpenSpec.upto octetJoinedSpec)

/-- 'vesperslaw01.OctetIns', WHERE WHAT IT READS IS OF BULK AT MOST 1048576: true; the input reads as it did. -/
def octetInsUptoRow : OpenClaim := { program := "ytolmcdimhnnpaaa", sum := "a86a4b5e8ad297b24d476152ac85e2aee0e0f87501106ffc1c60ea4f7fda2d18", func := "vespers/vesperslaw01.OctetIns", spec := "octetIns", unfollowed := true, recurses := true, apart := false, narrowed := true }
def OctetInsUptoSaid : Prop := octetInsUptoRow.holds Try.pinned (OpenSpec.upto octetInsSpec)

/-- 'vesperslaw01.OctetCut', WHERE WHAT IT READS IS OF BULK AT MOST 1048576: true; the input reads as it did. -/
def octetCutUptoRow : OpenClaim := { program := "ytolmcdimhnnpaaa", sum := "a86a4b5e8ad297b24d476152ac85e2aee0e0f87501106ffc1c60ea4f7fda2d18", func := "vespers/vesperslaw01.OctetCut", spec := "octetCut", unfollowed := true, recurses := true, apart := false, narrowed := true }
def OctetCutUptoSaid : Prop := octetCutUptoRow.holds Try.pinned (OpenSpec.upto octetCutSpec)

/-- 'vesperslaw01.OctetBack', WHERE WHAT IT READS IS OF BULK AT MOST 1048576: true; the input reads as it did. -/
def octetBackUptoRow : OpenClaim := { program := "ytolmcdimhnnpaaa", sum := "a86a4b5e8ad297b24d476152ac85e2aee0e0f87501106ffc1c60ea4f7fda2d18", func := "vespers/vesperslaw01.OctetBack", spec := "octetBack", unfollowed := true, recurses := true, apart := false, narrowed := true }
def OctetBackUptoSaid : Prop := octetBackUptoRow.holds Try.pinned (OpenSpec.upto octetBackSpec)

end Rows
end Go.Proofs.Ytolmcdimhnnpaaa
