/- Calls one behind the other. No program in sight but octet's words. -/
import Derived.Test.YtolmcdimhnnpaaaVWrite
import Derived.Test.YtolmcdimhnnpaaaVGreat
namespace Go.Proofs.Ytolmcdimhnnpaaa.VOct
open Go.RowKit Go.VBase Go.VOct

/-- Calls, one behind the other. -/
def runOps (st : Option (List UInt8)) (l : List OpD) : Option (List UInt8) := l.foldl stOp st
theorem stOp_none (o : OpD) : stOp none o = none := by
  unfold stOp; split
  · rfl
  · split <;> rfl
theorem stOp_some (p : List UInt8) (o : OpD) : stOp (some p) o = (stOp (some []) o).map (p ++ ·) := by
  unfold stOp stPut stTail
  split
  · cases putB o.n o.v <;> simp
  · split <;> simp
theorem runOps_none : ∀ (l : List OpD), runOps none l = none
  | [] => rfl
  | o :: l => by rw [runOps, List.foldl_cons, stOp_none]; exact runOps_none l
theorem runOps_some (p : List UInt8) : ∀ (l : List OpD) (q : List UInt8), runOps (some (p ++ q)) l = (runOps (some q) l).map (p ++ ·)
  | [], q => rfl
  | o :: l, q => by
    have e : stOp (some (p ++ q)) o = (stOp (some q) o).map (p ++ ·) := by
      rw [stOp_some (p ++ q), stOp_some q]; cases stOp (some []) o <;> simp
    show runOps (stOp (some (p ++ q)) o) l = (runOps (stOp (some q) o) l).map (p ++ ·)
    rw [e]
    cases h : stOp (some q) o with
    | none => rw [Option.map_none, runOps_none]; rfl
    | some z => rw [Option.map_some]; exact runOps_some p l z
theorem runOps_snoc {l : List OpD} {j : Nat} {o : OpD} (st : Option (List UInt8)) (h : l[j]? = some o) : runOps st (l.take (j + 1)) = stOp (runOps st (l.take j)) o := by
  rw [take_snoc h]; unfold runOps; rw [List.foldl_append]; rfl
theorem stPut_len (st : Option (List UInt8)) (n : Int) (v : Nat) : (stAll (stPut st n v)).length ≤ (stAll st).length + 8 := by
  cases st with
  | none => simp [stPut, stAll]
  | some p =>
    show (stAll ((putB n v).map (p ++ ·))).length ≤ _
    unfold putB
    split
    · rename_i h
      have : n.toNat ≤ 8 := by have := h.1; unfold widthB at this; simp at this; omega
      simp only [Option.map_some, stAll, Option.getD_some, List.length_append, beB_len]; omega
    · simp [stAll]
theorem stOp_len (st : Option (List UInt8)) (o : OpD) : (stAll (stOp st o)).length ≤ (stAll st).length + 8 + o.b.length := by
  unfold stOp
  split
  · have := stPut_len st o.n o.v; omega
  · split
    · cases st with
      | none => simp [stTail, stAll]
      | some p => simp [stTail, stAll]; try omega
    · omega
theorem runOps_len (st : Option (List UInt8)) (l : List OpD) : (stAll (runOps st l)).length ≤ (stAll st).length + 8 * l.length + total l := by
  induction l generalizing st with
  | nil => simp [runOps, total]
  | cons o l ih =>
    have h1 := ih (stOp st o)
    have h2 := stOp_len st o
    have e : total (o :: l) = o.b.length + total l := by simp [total]
    rw [e, List.length_cons]
    show (stAll (runOps (stOp st o) l)).length ≤ _
    omega
theorem total_take_le (l : List OpD) (j : Nat) : total (l.take j) ≤ total l := by
  conv => rhs; rw [← List.take_append_drop j l]
  unfold total; rw [List.map_append, List.sum_append]; omega
end Go.Proofs.Ytolmcdimhnnpaaa.VOct
