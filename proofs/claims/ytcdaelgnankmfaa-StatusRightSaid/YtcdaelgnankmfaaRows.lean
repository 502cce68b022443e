/-
  No cell of these rows narrows 'for every input' (looked for: loops, veiled, ifaces, maps, wideKeys, modest, calm, conditions, laid).
  DERIVED. THE GIVEN ROWS OF THIS SEAT. 3 by the template 'for every input the law returns true; each argument reads behind the call as it read before'; 0 by the template 'total and deterministic' (their statements: YtcdaelgnankmfaaTotals.lean).
  GIVEN WITH THE SEED: the statements are not yours to turn. If you find one false, say at which input.
  Laid BY PROGRAM, IN A SANDBOX (cutbox-rows.mjs): the forced cells as the released guide's own fill.sh prints them over the translation 9e2e5269f119477d… (all of the seat's roots in one cut). By AI agents, Wed Nov 11 2026. No macro, syntax, notation, axiom, sorry.
-/
import Derived.Test.YtcdaelgnankmfaaChecked
import GoSem.Claim
import GoSem.ClaimJoined
import GoSem.ClaimMapViews
import Derived.JoinedTies
import Derived.KernelRfl
namespace Go.Proofs.Ytcdaelgnankmfaa
/- THE CELL 'sum', in the pinned program and in every row, IS THE sha256 OF THE DUMP (.gsa) THAT YtcdaelgnankmfaaProg.lean LOADS. Nothing in Lean hashes anything: it is a label: what it is worth is what the hold of that sum in a sandbox is worth. -/
noncomputable def Try.pinned : Pinned := { name := "ytcdaelgnankmfaa", sum := "9e2e5269f119477de64facf0aaceada6c7e3e3fed933fb9f0444baf8fd0b06eb", checked := Try.checked }
namespace Rows
def none {H : Type} : Left H := { results := [], args := [] }

/-- 'vesperslaw17.StatusMerges': WHATEVER THE INPUT: true; the input reads as it did. -/
def statusMergesSpec : ChangeSpec := { name := "statusMerges", fn := fun _ => fun
  | [d1, d2] => { results := [.lit (.bool true)], args := [d1, d2] }
  | _ => none }
def statusMergesRow : OpenClaim := { program := "ytcdaelgnankmfaa", sum := "9e2e5269f119477de64facf0aaceada6c7e3e3fed933fb9f0444baf8fd0b06eb", func := "vespers/vesperslaw17.StatusMerges", spec := "statusMerges", unfollowed := true, recurses := true, apart := false }
def StatusMergesSaid : Prop := statusMergesRow.holds Try.pinned (OpenSpec.ofChange statusMergesSpec)

/-- ITS FALSE NEIGHBOUR: 'it returns false'. Refute it at one input. -/
def statusMergesWrong : ChangeSpec := { name := "statusMerges", fn := fun _ => fun
  | [d1, d2] => { results := [.lit (.bool false)], args := [d1, d2] }
  | _ => none }
def StatusMergesWrongFalsely : Prop := statusMergesRow.holds Try.pinned (OpenSpec.ofChange statusMergesWrong)

/-- 'vesperslaw17.StatusRight': WHATEVER THE INPUT: true; the input reads as it did. -/
def statusRightSpec : ChangeSpec := { name := "statusRight", fn := fun _ => fun
  | [d1, d2, d3, d4, d5, d6, d7] => { results := [.lit (.bool true)], args := [d1, d2, d3, d4, d5, d6, d7] }
  | _ => none }
def statusRightRow : OpenClaim := { program := "ytcdaelgnankmfaa", sum := "9e2e5269f119477de64facf0aaceada6c7e3e3fed933fb9f0444baf8fd0b06eb", func := "vespers/vesperslaw17.StatusRight", spec := "statusRight", unfollowed := true, recurses := true, apart := false }
def StatusRightSaid : Prop := statusRightRow.holds Try.pinned (OpenSpec.ofChange statusRightSpec)

/-- ITS FALSE NEIGHBOUR: 'it returns false'. Refute it at one input. -/
def statusRightWrong : ChangeSpec := { name := "statusRight", fn := fun _ => fun
  | [d1, d2, d3, d4, d5, d6, d7] => { results := [.lit (.bool false)], args := [d1, d2, d3, d4, d5, d6, d7] }
  | _ => none }
def StatusRightWrongFalsely : Prop := statusRightRow.holds Try.pinned (OpenSpec.ofChange statusRightWrong)

/-- 'vesperslaw17.StatusRows': WHATEVER THE INPUT: true; the input reads as it did. -/
def statusRowsSpec : ChangeSpec := { name := "statusRows", fn := fun _ => fun
  | [d1, d2, d3, d4, d5] => { results := [.lit (.bool true)], args := [d1, d2, d3, d4, d5] }
  | _ => none }
def statusRowsRow : OpenClaim := { program := "ytcdaelgnankmfaa", sum := "9e2e5269f119477de64facf0aaceada6c7e3e3fed933fb9f0444baf8fd0b06eb", func := "vespers/vesperslaw17.StatusRows", spec := "statusRows", unfollowed := true, recurses := true, apart := false }
def StatusRowsSaid : Prop := statusRowsRow.holds Try.pinned (OpenSpec.ofChange statusRowsSpec)

/-- ITS FALSE NEIGHBOUR: 'it returns false'. Refute it at one input. -/
def statusRowsWrong : ChangeSpec := { name := "statusRows", fn := fun _ => fun
  | [d1, d2, d3, d4, d5] => { results := [.lit (.bool false)], args := [d1, d2, d3, d4, d5] }
  | _ => none }
def StatusRowsWrongFalsely : Prop := statusRowsRow.holds Try.pinned (OpenSpec.ofChange statusRowsWrong)

/- THE SECOND FORM. 'bulk': how many values and letters a reading holds, each counted each time it is reached (what is shared counts as often as it is met; a slice's spare places count too). A statement '..UptoSaid' is the law's where the arguments, and the package variables that the reading takes, are together of bulk at most 1048576: NARROWER than '..Said'. Prove '..Said' where nothing that the law and all that it calls make is longer than what came in: it says more and counts as full. Else prove '..UptoSaid'. A law counts once. -/
mutual
def uptoBulk {H : Type} : DataW H → Nat
  | .lit (.string bytes) => bytes.length + 1
  | .lit _ => 1
  | .nil => 1
  | .ptr d => uptoBulk d + 1
  | .slice elems spare => uptoBulkAll elems + uptoBulkAll spare + 1
  | .agg parts => uptoBulkAll parts + 1
  | .iface _ d => uptoBulk d + 1
  | .map entries => uptoBulkEntries entries + 1
  | .held _ => 1
def uptoBulkAll {H : Type} : List (DataW H) → Nat
  | [] => 0
  | d :: r => uptoBulk d + uptoBulkAll r
def uptoBulkEntries {H : Type} : List (Lit × DataW H) → Nat
  | [] => 0
  | x :: r => uptoBulkEntry x + uptoBulkEntries r
def uptoBulkEntry {H : Type} : Lit × DataW H → Nat
  | (.string bytes, d) => bytes.length + uptoBulk d + 1
  | (_, d) => uptoBulk d + 1
 end
def uptoSmall : (H : Type) → List (DataW H) → Bool := fun _ ds => decide (uptoBulkAll ds ≤ 1048576)
def OpenSpec.upto (s : _root_.Go.ChangeSpec) : _root_.Go.OpenSpec := { _root_.Go.OpenSpec.ofChange s with cond := some uptoSmall }

/-- 'vesperslaw17.StatusMerges', WHERE WHAT IT READS IS OF BULK AT MOST 1048576: true; the input reads as it did. -/
def statusMergesUptoRow : OpenClaim := { program := "ytcdaelgnankmfaa", sum := "9e2e5269f119477de64facf0aaceada6c7e3e3fed933fb9f0444baf8fd0b06eb", func := "vespers/vesperslaw17.StatusMerges", spec := "statusMerges", unfollowed := true, recurses := true, apart := false, narrowed := true }
def StatusMergesUptoSaid : Prop := statusMergesUptoRow.holds Try.pinned (OpenSpec.upto statusMergesSpec)

/-- 'vesperslaw17.StatusRight', WHERE WHAT IT READS IS OF BULK AT MOST 1048576: true; the input reads as it did. -/
def statusRightUptoRow : OpenClaim := { program := "ytcdaelgnankmfaa", sum := "9e2e5269f119477de64facf0aaceada6c7e3e3fed933fb9f0444baf8fd0b06eb", func := "vespers/vesperslaw17.StatusRight", spec := "statusRight", unfollowed := true, recurses := true, apart := false, narrowed := true }
def StatusRightUptoSaid : Prop := statusRightUptoRow.holds Try.pinned (OpenSpec.upto statusRightSpec)

/-- 'vesperslaw17.StatusRows', WHERE WHAT IT READS IS OF BULK AT MOST 1048576: true; the input reads as it did. -/
def statusRowsUptoRow : OpenClaim := { program := "ytcdaelgnankmfaa", sum := "9e2e5269f119477de64facf0aaceada6c7e3e3fed933fb9f0444baf8fd0b06eb", func := "vespers/vesperslaw17.StatusRows", spec := "statusRows", unfollowed := true, recurses := true, apart := false, narrowed := true }
def StatusRowsUptoSaid : Prop := statusRowsUptoRow.holds Try.pinned (OpenSpec.upto statusRowsSpec)

end Rows
end Go.Proofs.Ytcdaelgnankmfaa
