/-
  No cell of these rows narrows 'for every input' (looked for: loops, veiled, ifaces, maps, wideKeys, modest, calm, conditions, laid).
  DERIVED. THE GIVEN ROWS OF THIS SEAT. 7 by the template 'for every input the law returns true; each argument reads behind the call as it read before'; 0 by the template 'total and deterministic' (their statements: YtjhhcfadeankfaaTotals.lean).
  GIVEN WITH THE SEED: the statements are not yours to turn. If you find one false, say at which input.
  Laid BY PROGRAM, IN A SANDBOX (cutbox-rows.mjs): the forced cells as the released guide's own fill.sh prints them over the translation 7012f42208d78253… (all of the seat's roots in one cut). By AI agents, Wed Nov 11 2026. No macro, syntax, notation, axiom, sorry.
-/
import Derived.Test.YtjhhcfadeankfaaChecked
import GoSem.Claim
import GoSem.ClaimJoined
import GoSem.ClaimMapViews
import Derived.JoinedTies
import Derived.KernelRfl
namespace Go.Proofs.Ytjhhcfadeankfaa
/- THE CELL 'sum', in the pinned program and in every row, IS THE sha256 OF THE DUMP (.gsa) THAT YtjhhcfadeankfaaProg.lean LOADS. Nothing in Lean hashes anything: it is a label: what it is worth is what the hold of that sum in a sandbox is worth. -/
noncomputable def Try.pinned : Pinned := { name := "ytjhhcfadeankfaa", sum := "7012f42208d78253420af4ba41e5279cd9dc1504b954f001486ecad3ad5195b5", checked := Try.checked }
namespace Rows
def none {H : Type} : Left H := { results := [], args := [] }

/-- 'vesperslaw23.StampAsks': WHATEVER THE INPUT: true; the input reads as it did. -/
def stampAsksSpec : ChangeSpec := { name := "stampAsks", fn := fun _ => fun
  | [d1, d2] => { results := [.lit (.bool true)], args := [d1, d2] }
  | _ => none }
def stampAsksRow : OpenClaim := { program := "ytjhhcfadeankfaa", sum := "7012f42208d78253420af4ba41e5279cd9dc1504b954f001486ecad3ad5195b5", func := "vespers/vesperslaw23.StampAsks", spec := "stampAsks", plainKeys := false, apart := false }
def StampAsksSaid : Prop := stampAsksRow.holds Try.pinned (OpenSpec.ofChange stampAsksSpec)

/-- ITS FALSE NEIGHBOUR: 'it returns false'. Refute it at one input. -/
def stampAsksWrong : ChangeSpec := { name := "stampAsks", fn := fun _ => fun
  | [d1, d2] => { results := [.lit (.bool false)], args := [d1, d2] }
  | _ => none }
def StampAsksWrongFalsely : Prop := stampAsksRow.holds Try.pinned (OpenSpec.ofChange stampAsksWrong)

/-- 'vesperslaw23.StampLong': WHATEVER THE INPUT: true; the input reads as it did. -/
def stampLongSpec : ChangeSpec := { name := "stampLong", fn := fun _ => fun
  | [d1, d2, d3, d4] => { results := [.lit (.bool true)], args := [d1, d2, d3, d4] }
  | _ => none }
def stampLongRow : OpenClaim := { program := "ytjhhcfadeankfaa", sum := "7012f42208d78253420af4ba41e5279cd9dc1504b954f001486ecad3ad5195b5", func := "vespers/vesperslaw23.StampLong", spec := "stampLong", unfollowed := true, recurses := true, plainKeys := false, apart := false }
def StampLongSaid : Prop := stampLongRow.holds Try.pinned (OpenSpec.ofChange stampLongSpec)

/-- ITS FALSE NEIGHBOUR: 'it returns false'. Refute it at one input. -/
def stampLongWrong : ChangeSpec := { name := "stampLong", fn := fun _ => fun
  | [d1, d2, d3, d4] => { results := [.lit (.bool false)], args := [d1, d2, d3, d4] }
  | _ => none }
def StampLongWrongFalsely : Prop := stampLongRow.holds Try.pinned (OpenSpec.ofChange stampLongWrong)

/-- 'vesperslaw23.StampRefuses': WHATEVER THE INPUT: true; the input reads as it did. -/
def stampRefusesSpec : ChangeSpec := { name := "stampRefuses", fn := fun _ => fun
  | [d1, d2, d3] => { results := [.lit (.bool true)], args := [d1, d2, d3] }
  | _ => none }
def stampRefusesRow : OpenClaim := { program := "ytjhhcfadeankfaa", sum := "7012f42208d78253420af4ba41e5279cd9dc1504b954f001486ecad3ad5195b5", func := "vespers/vesperslaw23.StampRefuses", spec := "stampRefuses", unfollowed := true, recurses := true, plainKeys := false, apart := false }
def StampRefusesSaid : Prop := stampRefusesRow.holds Try.pinned (OpenSpec.ofChange stampRefusesSpec)

/-- ITS FALSE NEIGHBOUR: 'it returns false'. Refute it at one input. -/
def stampRefusesWrong : ChangeSpec := { name := "stampRefuses", fn := fun _ => fun
  | [d1, d2, d3] => { results := [.lit (.bool false)], args := [d1, d2, d3] }
  | _ => none }
def StampRefusesWrongFalsely : Prop := stampRefusesRow.holds Try.pinned (OpenSpec.ofChange stampRefusesWrong)

/-- 'vesperslaw23.StampSorted': WHATEVER THE INPUT: true; the input reads as it did. -/
def stampSortedSpec : ChangeSpec := { name := "stampSorted", fn := fun _ => fun
  | [d1, d2, d3] => { results := [.lit (.bool true)], args := [d1, d2, d3] }
  | _ => none }
def stampSortedRow : OpenClaim := { program := "ytjhhcfadeankfaa", sum := "7012f42208d78253420af4ba41e5279cd9dc1504b954f001486ecad3ad5195b5", func := "vespers/vesperslaw23.StampSorted", spec := "stampSorted", unfollowed := true, recurses := true, plainKeys := false, apart := false }
def StampSortedSaid : Prop := stampSortedRow.holds Try.pinned (OpenSpec.ofChange stampSortedSpec)

/-- ITS FALSE NEIGHBOUR: 'it returns false'. Refute it at one input. -/
def stampSortedWrong : ChangeSpec := { name := "stampSorted", fn := fun _ => fun
  | [d1, d2, d3] => { results := [.lit (.bool false)], args := [d1, d2, d3] }
  | _ => none }
def StampSortedWrongFalsely : Prop := stampSortedRow.holds Try.pinned (OpenSpec.ofChange stampSortedWrong)

/-- 'vesperslaw23.StampForms': WHATEVER THE INPUT: true; the input reads as it did. -/
def stampFormsSpec : ChangeSpec := { name := "stampForms", fn := fun _ => fun
  | [d1, d2, d3] => { results := [.lit (.bool true)], args := [d1, d2, d3] }
  | _ => none }
def stampFormsRow : OpenClaim := { program := "ytjhhcfadeankfaa", sum := "7012f42208d78253420af4ba41e5279cd9dc1504b954f001486ecad3ad5195b5", func := "vespers/vesperslaw23.StampForms", spec := "stampForms", unfollowed := true, recurses := true, plainKeys := false, apart := false }
def StampFormsSaid : Prop := stampFormsRow.holds Try.pinned (OpenSpec.ofChange stampFormsSpec)

/-- ITS FALSE NEIGHBOUR: 'it returns false'. Refute it at one input. -/
def stampFormsWrong : ChangeSpec := { name := "stampForms", fn := fun _ => fun
  | [d1, d2, d3] => { results := [.lit (.bool false)], args := [d1, d2, d3] }
  | _ => none }
def StampFormsWrongFalsely : Prop := stampFormsRow.holds Try.pinned (OpenSpec.ofChange stampFormsWrong)

/-- 'vesperslaw23.StampBack': WHATEVER THE INPUT: true; the input reads as it did. -/
def stampBackSpec : ChangeSpec := { name := "stampBack", fn := fun _ => fun
  | [d1, d2, d3] => { results := [.lit (.bool true)], args := [d1, d2, d3] }
  | _ => none }
def stampBackRow : OpenClaim := { program := "ytjhhcfadeankfaa", sum := "7012f42208d78253420af4ba41e5279cd9dc1504b954f001486ecad3ad5195b5", func := "vespers/vesperslaw23.StampBack", spec := "stampBack", unfollowed := true, recurses := true, plainKeys := false, apart := false }
def StampBackSaid : Prop := stampBackRow.holds Try.pinned (OpenSpec.ofChange stampBackSpec)

/-- ITS FALSE NEIGHBOUR: 'it returns false'. Refute it at one input. -/
def stampBackWrong : ChangeSpec := { name := "stampBack", fn := fun _ => fun
  | [d1, d2, d3] => { results := [.lit (.bool false)], args := [d1, d2, d3] }
  | _ => none }
def StampBackWrongFalsely : Prop := stampBackRow.holds Try.pinned (OpenSpec.ofChange stampBackWrong)

/-- 'vesperslaw23.StampNames': WHATEVER THE INPUT: true; the input reads as it did. -/
def stampNamesSpec : ChangeSpec := { name := "stampNames", fn := fun _ => fun
  | [] => { results := [.lit (.bool true)], args := [] }
  | _ => none }
def stampNamesRow : OpenClaim := { program := "ytjhhcfadeankfaa", sum := "7012f42208d78253420af4ba41e5279cd9dc1504b954f001486ecad3ad5195b5", func := "vespers/vesperslaw23.StampNames", spec := "stampNames", unfollowed := true, recurses := true, plainKeys := false, apart := false }
def StampNamesSaid : Prop := stampNamesRow.holds Try.pinned (OpenSpec.ofChange stampNamesSpec)

/-- ITS FALSE NEIGHBOUR: 'it returns false'. Refute it at one input. -/
def stampNamesWrong : ChangeSpec := { name := "stampNames", fn := fun _ => fun
  | [] => { results := [.lit (.bool false)], args := [] }
  | _ => none }
def StampNamesWrongFalsely : Prop := stampNamesRow.holds Try.pinned (OpenSpec.ofChange stampNamesWrong)

/- THE SECOND FORM. 'bulk': how many values and letters a reading holds, each counted each time it is reached (what is shared counts as often as it is met; a slice's spare places count too). A statement '..UptoSaid' is the law's where the arguments, and the package variables that the reading takes, are together of bulk at most 1048576: NARROWER than '..Said'. Prove '..Said' where nothing that the law and all that it calls make is longer than what came in: it says more and counts as full. Else prove '..UptoSaid'. A law counts once. -/
mutual
def uptoBulk {H : Type} : DataW H → Nat
  | .lit (.string bytes) => bytes.length + 1
  | .lit _ => 1
  | .nil => 1
  | .ptr d => uptoBulk d + 1
  | .slice elems spare => uptoBulkAll elems + uptoBulkAll spare + 1
  | .agg parts => uptoBulkAll parts + 1
  | .iface _ d => uptoBulk d + 1
  | .map entries => uptoBulkEntries entries + 1
  | .held _ => 1
def uptoBulkAll {H : Type} : List (DataW H) → Nat
  | [] => 0
  | d :: r => uptoBulk d + uptoBulkAll r
def uptoBulkEntries {H : Type} : List (Lit × DataW H) → Nat
  | [] => 0
  | x :: r => uptoBulkEntry x + uptoBulkEntries r
def uptoBulkEntry {H : Type} : Lit × DataW H → Nat
  | (.string bytes, d) => bytes.length + uptoBulk d + 1
  | (_, d) => uptoBulk d + 1
 end
def uptoSmall : (H : Type) → List (DataW H) → Bool := fun _ ds => decide (uptoBulkAll ds ≤ 1048576)
def OpenSpec.upto (s : _root_.Go.ChangeSpec) : _root_.Go.OpenSpec := { _root_.Go.OpenSpec.ofChange s with cond := some uptoSmall }

/-- 'vesperslaw23.StampAsks', WHERE WHAT IT READS IS OF BULK AT MOST 1048576: true; the input reads as it did. -/
def stampAsksUptoRow : OpenClaim := { program := "ytjhhcfadeankfaa", sum := "7012f42208d78253420af4ba41e5279cd9dc1504b954f001486ecad3ad5195b5", func := "vespers/vesperslaw23.StampAsks", spec := "stampAsks", plainKeys := false, apart := false, narrowed := true }
def StampAsksUptoSaid : Prop := stampAsksUptoRow.holds Try.pinned (OpenSpec.upto stampAsksSpec)

/-- 'vesperslaw23.StampLong', WHERE WHAT IT READS IS OF BULK AT MOST 1048576: true; the input reads as it did. -/
def stampLongUptoRow : OpenClaim := { program := "ytjhhcfadeankfaa", sum := "7012f42208d78253420af4ba41e5279cd9dc1504b954f001486ecad3ad5195b5", func := "vespers/vesperslaw23.StampLong", spec := "stampLong", unfollowed := true, recurses := true, plainKeys := false, apart := false, narrowed := true }
def StampLongUptoSaid : Prop := stampLongUptoRow.holds Try.pinned (OpenSpec.upto stampLongSpec)

/-- 'vesperslaw23.StampRefuses', WHERE WHAT IT READS IS OF BULK AT MOST 1048576: true; the input reads as it did. -/
def stampRefusesUptoRow : OpenClaim := { program := "ytjhhcfadeankfaa", sum := "7012f42208d78253420af4ba41e5279cd9dc1504b954f001486ecad3ad5195b5", func := "vespers/vesperslaw23.StampRefuses", spec := "stampRefuses", unfollowed := true, recurses := true, plainKeys := false, apart := false, narrowed := true }
def StampRefusesUptoSaid : Prop := stampRefusesUptoRow.holds Try.pinned (OpenSpec.upto stampRefusesSpec)

/-- 'vesperslaw23.StampSorted', WHERE WHAT IT READS IS OF BULK AT MOST 1048576: true; the input reads as it did. -/
def stampSortedUptoRow : OpenClaim := { program := "ytjhhcfadeankfaa", sum := "7012f42208d78253420af4ba41e5279cd9dc1504b954f001486ecad3ad5195b5", func := "vespers/vesperslaw23.StampSorted", spec := "stampSorted", unfollowed := true, recurses := true, plainKeys := false, apart := false, narrowed := true }
def StampSortedUptoSaid : Prop := stampSortedUptoRow.holds Try.pinned (OpenSpec.upto stampSortedSpec)

/-- 'vesperslaw23.StampForms', WHERE WHAT IT READS IS OF BULK AT MOST 1048576: true; the input reads as it did. -/
def stampFormsUptoRow : OpenClaim := { program := "ytjhhcfadeankfaa", sum := "7012f42208d78253420af4ba41e5279cd9dc1504b954f001486ecad3ad5195b5", func := "vespers/vesperslaw23.StampForms", spec := "stampForms", unfollowed := true, recurses := true, plainKeys := false, apart := false, narrowed := true }
def StampFormsUptoSaid : Prop := stampFormsUptoRow.holds Try.pinned (OpenSpec.upto stampFormsSpec)

/-- 'vesperslaw23.StampBack', WHERE WHAT IT READS IS OF BULK AT MOST 1048576: true; the input reads as it did. -/
def stampBackUptoRow : OpenClaim := { program := "ytjhhcfadeankfaa", sum := "7012f42208d78253420af4ba41e5279cd9dc1504b954f001486ecad3ad5195b5", func := "vespers/vesperslaw23.StampBack", spec := "stampBack", unfollowed := true, recurses := true, plainKeys := false, apart := false, narrowed := true }
def StampBackUptoSaid : Prop := stampBackUptoRow.holds Try.pinned (OpenSpec.upto stampBackSpec)

/-- 'vesperslaw23.StampNames', WHERE WHAT IT READS IS OF BULK AT MOST 1048576: true; the input reads as it did. -/
def stampNamesUptoRow : OpenClaim := { program := "ytjhhcfadeankfaa", sum := "7012f42208d78253420af4ba41e5279cd9dc1504b954f001486ecad3ad5195b5", func := "vespers/vesperslaw23.StampNames", spec := "stampNames", unfollowed := true, recurses := true, plainKeys := false, apart := false, narrowed := true }
def StampNamesUptoSaid : Prop := stampNamesUptoRow.holds Try.pinned (OpenSpec.upto stampNamesSpec)

end Rows
end Go.Proofs.Ytjhhcfadeankfaa
