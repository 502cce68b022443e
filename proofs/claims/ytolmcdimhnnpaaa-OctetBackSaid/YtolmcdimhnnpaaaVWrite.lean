/- write: a call of an Out. -/
import Derived.Test.YtolmcdimhnnpaaaVOuts
import Derived.Test.YtolmcdimhnnpaaaVOps
namespace Go.Proofs.Ytolmcdimhnnpaaa.VOct
open Go.RowKit Go.VBase Go.VOct Go.VRg

/-- What a call does to an Out. -/
def stOp (st : Option (List UInt8)) (o : OpD) : Option (List UInt8) := if o.kind = 0 then stPut st o.n o.v else if o.kind = 1 then stTail st o.b else st
def WritePost (w : World) (B : Nat) (r : Option Nat) (st : Option (List UInt8)) (e : Ending) (w' : World) : Prop := (∃ v, e = .returned v) ∧ ∃ r', OutAt w' TOut TB B r' st ∧ TouchO B r w w' ∧ RowNext w r r'
theorem TailPost.write {w0 w w' : World} {B : Nat} {r : Option Nat} {st : Option (List UInt8)} {e : Ending} (h : TailPost w B r st e w') (x : Ext w0 w) : ∃ r', OutAt w' TOut TB B r' st ∧ TouchO B r w0 w' ∧ RowNext w0 r r' := by
  obtain ⟨_, r', h1, h2, h3⟩ := h
  exact ⟨r', h1, (TouchO.of_ext x).same h2, fun g hg => by
    rcases h3 g hg with h4 | h4
    · exact .inl h4
    · exact .inr (Nat.le_trans x.size h4)⟩

set_option maxHeartbeats 1000000 in
theorem write_calls (B : Nat) (r : Option Nat) (st : Option (List UInt8)) (o : OpD) (u : Value) (w : World) (h : OutAt w TOut TB B r st) (hu : Bys w u o.b) (hn : o.v < 18446744073709551616) (hl : (stAll st).length + 8 ≤ 140737488355328) (hl2 : (stAll st).length + o.b.length ≤ 140737488355328) :
    Calls Try.prog 19 #[.pointer (some ⟨B, 0, none⟩), .agg #[.int .i64 o.kind, .int .i64 o.n, .int .u64 (o.v : Int), u]] w (WritePost w B r (stOp st o)) := by
  have hu0 := hu
  obtain ⟨a, cap, rfl, _⟩ := hu
  obtain ⟨wb, hwb⟩ : ∃ W, w.alloc (.cells #[.int .i64 o.kind, .int .i64 o.n, .int .u64 (o.v : Int), .slice a o.b.length cap] 33) = W := ⟨_, rfl⟩
  have hx : Ext w wb := by rw [← hwb]; exact Ext.alloc _ _
  have hrow : wb.heap[w.heap.size]? = some (.cells #[.int .i64 o.kind, .int .i64 o.n, .int .u64 (o.v : Int), .slice a o.b.length cap] 33) := by rw [← hwb]; exact heap_alloc_new w _
  have c0 : wb.cell? ⟨w.heap.size, 0, none⟩ = some (.int .i64 o.kind) := cell_of_row wb _ 0 _ _ _ hrow
  have c1 : wb.cell? ⟨w.heap.size, 1, none⟩ = some (.int .i64 o.n) := cell_of_row wb _ 1 _ _ _ hrow
  have c2 : wb.cell? ⟨w.heap.size, 2, none⟩ = some (.int .u64 (o.v : Int)) := cell_of_row wb _ 2 _ _ _ hrow
  have c3 : wb.cell? ⟨w.heap.size, 3, none⟩ = some (.slice a o.b.length cap) := cell_of_row wb _ 3 _ _ _ hrow
  have hb := h.ext hx
  have hub := hu0.ext hx
  clear hrow
  by_cases h0 : o.kind = 0
  · have e : stOp st o = stPut st o.n o.v := by unfold stOp; rw [if_pos h0]
    rw [e]
    rw [h0] at hwb c0 ⊢
    go_enter Try.func19, Try.ntmps19
    go_wp2_with fail
    refine (Put_calls B r st o.n o.v wb hb hn hl).mono ?_
    rintro e w' hP
    have hQ := hP.write hx
    obtain ⟨rfl, _⟩ := hP
    go_wp2_with fail
    first | go_end0 | refine bodyPost_ret (results_none rfl _ _ _) rfl ?_
    exact ⟨⟨_, rfl⟩, hQ⟩
  · by_cases h1 : o.kind = 1
    · have e : stOp st o = stTail st o.b := by unfold stOp; rw [if_neg h0, if_pos h1]
      rw [e]
      rw [h1] at hwb c0 ⊢
      go_enter Try.func19, Try.ntmps19
      go_wp2_with fail
      refine (Tail_calls B r st _ o.b wb hb hub hl2).mono ?_
      rintro e w' hP
      have hQ := hP.write hx
      obtain ⟨rfl, _⟩ := hP
      go_wp2_with fail
      first | go_end0 | refine bodyPost_ret (results_none rfl _ _ _) rfl ?_
      exact ⟨⟨_, rfl⟩, hQ⟩
    · have e : stOp st o = st := by unfold stOp; rw [if_neg h0, if_neg h1]
      rw [e]
      have k0 : (o.kind == 0) = false := by simpa using h0
      have k1 : (o.kind == 1) = false := by simpa using h1
      go_enter Try.func19, Try.ntmps19
      go_wp2_with fail
      first | go_end0 | refine bodyPost_ret (results_none rfl _ _ _) rfl ?_
      exact ⟨⟨_, rfl⟩, r, hb, TouchO.of_ext hx, RowNext.refl _ _⟩
end Go.Proofs.Ytolmcdimhnnpaaa.VOct
