/-
  No cell of these rows narrows 'for every input' (looked for: loops, veiled, ifaces, maps, wideKeys, modest, calm, conditions, laid).
  DERIVED. THE GIVEN ROWS OF THIS SEAT. 4 by the template 'for every input the law returns true; each argument reads behind the call as it read before'; 0 by the template 'total and deterministic' (their statements: YtcdaelgnankmfaaGreatTotals.lean).
  GIVEN WITH THE SEED: the statements are not yours to turn. If you find one false, say at which input.
  Laid BY PROGRAM, IN A SANDBOX (cutbox-rows.mjs): the forced cells as the released guide's own fill.sh prints them over the translation d13efb68a513bc02… (all of the seat's roots in one cut). By AI agents, Wed Nov 11 2026. No macro, syntax, notation, axiom, sorry.
-/
import Derived.Test.YtcdaelgnankmfaaGreatChecked
import GoSem.Claim
import GoSem.ClaimJoined
import GoSem.ClaimMapViews
import Derived.JoinedTies
import Derived.KernelRfl
namespace Go.Proofs.YtcdaelgnankmfaaGreat
/- THE CELL 'sum', in the pinned program and in every row, IS THE sha256 OF THE DUMP (.gsa) THAT YtcdaelgnankmfaaGreatProg.lean LOADS. Nothing in Lean hashes anything: it is a label: what it is worth is what the hold of that sum in a sandbox is worth. -/
noncomputable def Tryz.pinned : Pinned := { name := "ytcdaelgnankmfaagreat", sum := "d13efb68a513bc02a46b8a50aba9821a8010192efe9969e9aa6180ad7de7f112", checked := Tryz.checked }
namespace Rows
def none {H : Type} : Left H := { results := [], args := [] }

/-- 'vesperslaw17.StatusJudges': WHATEVER THE INPUT: true; the input reads as it did. -/
def statusJudgesSpec : ChangeSpec := { name := "statusJudges", fn := fun _ => fun
  | [d1, d2, d3, d4, d5] => { results := [.lit (.bool true)], args := [d1, d2, d3, d4, d5] }
  | _ => none }
def statusJudgesRow : OpenClaim := { program := "ytcdaelgnankmfaagreat", sum := "d13efb68a513bc02a46b8a50aba9821a8010192efe9969e9aa6180ad7de7f112", func := "vespers/vesperslaw17.StatusJudges", spec := "statusJudges", unfollowed := true, recurses := true, apart := false }
def StatusJudgesSaid : Prop := statusJudgesRow.holds Tryz.pinned (OpenSpec.ofChange statusJudgesSpec)

/-- ITS FALSE NEIGHBOUR: 'it returns false'. Refute it at one input. -/
def statusJudgesWrong : ChangeSpec := { name := "statusJudges", fn := fun _ => fun
  | [d1, d2, d3, d4, d5] => { results := [.lit (.bool false)], args := [d1, d2, d3, d4, d5] }
  | _ => none }
def StatusJudgesWrongFalsely : Prop := statusJudgesRow.holds Tryz.pinned (OpenSpec.ofChange statusJudgesWrong)

/-- 'vesperslaw17.StatusBetter': WHATEVER THE INPUT: true; the input reads as it did. -/
def statusBetterSpec : ChangeSpec := { name := "statusBetter", fn := fun _ => fun
  | [d1, d2, d3] => { results := [.lit (.bool true)], args := [d1, d2, d3] }
  | _ => none }
def statusBetterRow : OpenClaim := { program := "ytcdaelgnankmfaagreat", sum := "d13efb68a513bc02a46b8a50aba9821a8010192efe9969e9aa6180ad7de7f112", func := "vespers/vesperslaw17.StatusBetter", spec := "statusBetter", unfollowed := true, recurses := true, apart := false }
def StatusBetterSaid : Prop := statusBetterRow.holds Tryz.pinned (OpenSpec.ofChange statusBetterSpec)

/-- ITS FALSE NEIGHBOUR: 'it returns false'. Refute it at one input. -/
def statusBetterWrong : ChangeSpec := { name := "statusBetter", fn := fun _ => fun
  | [d1, d2, d3] => { results := [.lit (.bool false)], args := [d1, d2, d3] }
  | _ => none }
def StatusBetterWrongFalsely : Prop := statusBetterRow.holds Tryz.pinned (OpenSpec.ofChange statusBetterWrong)

/-- 'vesperslaw17.StatusNames': WHATEVER THE INPUT: true; the input reads as it did. -/
def statusNamesSpec : ChangeSpec := { name := "statusNames", fn := fun _ => fun
  | [] => { results := [.lit (.bool true)], args := [] }
  | _ => none }
def statusNamesRow : OpenClaim := { program := "ytcdaelgnankmfaagreat", sum := "d13efb68a513bc02a46b8a50aba9821a8010192efe9969e9aa6180ad7de7f112", func := "vespers/vesperslaw17.StatusNames", spec := "statusNames", unfollowed := true, recurses := true, apart := false }
def StatusNamesSaid : Prop := statusNamesRow.holds Tryz.pinned (OpenSpec.ofChange statusNamesSpec)

/-- ITS FALSE NEIGHBOUR: 'it returns false'. Refute it at one input. -/
def statusNamesWrong : ChangeSpec := { name := "statusNames", fn := fun _ => fun
  | [] => { results := [.lit (.bool false)], args := [] }
  | _ => none }
def StatusNamesWrongFalsely : Prop := statusNamesRow.holds Tryz.pinned (OpenSpec.ofChange statusNamesWrong)

/-- 'vesperslaw17.StatusChannels': WHATEVER THE INPUT: true; the input reads as it did. -/
def statusChannelsSpec : ChangeSpec := { name := "statusChannels", fn := fun _ => fun
  | [d1, d2, d3, d4, d5, d6] => { results := [.lit (.bool true)], args := [d1, d2, d3, d4, d5, d6] }
  | _ => none }
def statusChannelsRow : OpenClaim := { program := "ytcdaelgnankmfaagreat", sum := "d13efb68a513bc02a46b8a50aba9821a8010192efe9969e9aa6180ad7de7f112", func := "vespers/vesperslaw17.StatusChannels", spec := "statusChannels", unfollowed := true, recurses := true, apart := false }
def StatusChannelsSaid : Prop := statusChannelsRow.holds Tryz.pinned (OpenSpec.ofChange statusChannelsSpec)

/-- ITS FALSE NEIGHBOUR: 'it returns false'. Refute it at one input. -/
def statusChannelsWrong : ChangeSpec := { name := "statusChannels", fn := fun _ => fun
  | [d1, d2, d3, d4, d5, d6] => { results := [.lit (.bool false)], args := [d1, d2, d3, d4, d5, d6] }
  | _ => none }
def StatusChannelsWrongFalsely : Prop := statusChannelsRow.holds Tryz.pinned (OpenSpec.ofChange statusChannelsWrong)

/- THE SECOND FORM. 'bulk': how many values and letters a reading holds, each counted each time it is reached (what is shared counts as often as it is met; a slice's spare places count too). A statement '..UptoSaid' is the law's where the arguments, and the package variables that the reading takes, are together of bulk at most 1048576: NARROWER than '..Said'. Prove '..Said' where nothing that the law and all that it calls make is longer than what came in: it says more and counts as full. Else prove '..UptoSaid'. A law counts once. -/
mutual
def uptoBulk {H : Type} : DataW H → Nat
  | .lit (.string bytes) => bytes.length + 1
  | .lit _ => 1
  | .nil => 1
  | .ptr d => uptoBulk d + 1
  | .slice elems spare => uptoBulkAll elems + uptoBulkAll spare + 1
  | .agg parts => uptoBulkAll parts + 1
  | .iface _ d => uptoBulk d + 1
  | .map entries => uptoBulkEntries entries + 1
  | .held _ => 1
def uptoBulkAll {H : Type} : List (DataW H) → Nat
  | [] => 0
  | d :: r => uptoBulk d + uptoBulkAll r
def uptoBulkEntries {H : Type} : List (Lit × DataW H) → Nat
  | [] => 0
  | x :: r => uptoBulkEntry x + uptoBulkEntries r
def uptoBulkEntry {H : Type} : Lit × DataW H → Nat
  | (.string bytes, d) => bytes.length + uptoBulk d + 1
  | (_, d) => uptoBulk d + 1
 end
def uptoSmall : (H : Type) → List (DataW H) → Bool := fun _ ds => decide (uptoBulkAll ds ≤ 1048576)
def OpenSpec.upto (s : _root_.Go.ChangeSpec) : _root_.Go.OpenSpec := { _root_.Go.OpenSpec.ofChange s with cond := some uptoSmall }

/-- 'vesperslaw17.StatusJudges', WHERE WHAT IT READS IS OF BULK AT MOST 1048576: true; the input reads as it did. -/
def statusJudgesUptoRow : OpenClaim := { program := "ytcdaelgnankmfaagreat", sum := "d13efb68a513bc02a46b8a50aba9821a8010192efe9969e9aa6180ad7de7f112", func := "vespers/vesperslaw17.StatusJudges", spec := "statusJudges", unfollowed := true, recurses := true, apart := false, narrowed := true }
def StatusJudgesUptoSaid : Prop := statusJudgesUptoRow.holds Tryz.pinned (OpenSpec.upto statusJudgesSpec)

/-- 'vesperslaw17.StatusBetter', WHERE WHAT IT READS IS OF BULK AT MOST 1048576: true; the input reads as it did. -/
def statusBetterUptoRow : OpenClaim := { program := "ytcdaelgnankmfaagreat", sum := "d13efb68a513bc02a46b8a50aba9821a8010192efe9969e9aa6180ad7de7f112", func := "vespers/vesperslaw17.StatusBetter", spec := "statusBetter", unfollowed := true, recurses := true, apart := false, narrowed := true }
def StatusBetterUptoSaid : Prop := statusBetterUptoRow.holds Tryz.pinned (OpenSpec.upto statusBetterSpec)

/-- 'vesperslaw17.StatusNames', WHERE WHAT IT READS IS OF BULK AT MOST 1048576: true; the input reads as it did. -/
def statusNamesUptoRow : OpenClaim := { program := "ytcdaelgnankmfaagreat", sum := "d13efb68a513bc02a46b8a50aba9821a8010192efe9969e9aa6180ad7de7f112", func := "vespers/vesperslaw17.StatusNames", spec := "statusNames", unfollowed := true, recurses := true, apart := false, narrowed := true }
def StatusNamesUptoSaid : Prop := statusNamesUptoRow.holds Tryz.pinned (OpenSpec.upto statusNamesSpec)

/-- 'vesperslaw17.StatusChannels', WHERE WHAT IT READS IS OF BULK AT MOST 1048576: true; the input reads as it did. -/
def statusChannelsUptoRow : OpenClaim := { program := "ytcdaelgnankmfaagreat", sum := "d13efb68a513bc02a46b8a50aba9821a8010192efe9969e9aa6180ad7de7f112", func := "vespers/vesperslaw17.StatusChannels", spec := "statusChannels", unfollowed := true, recurses := true, apart := false, narrowed := true }
def StatusChannelsUptoSaid : Prop := statusChannelsUptoRow.holds Tryz.pinned (OpenSpec.upto statusChannelsSpec)

end Rows
end Go.Proofs.YtcdaelgnankmfaaGreat
