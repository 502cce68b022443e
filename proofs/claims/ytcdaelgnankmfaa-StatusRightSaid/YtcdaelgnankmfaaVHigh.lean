/- octet.high: an iterator; what it gives to whoever ranges over it. -/
import Derived.Test.YtcdaelgnankmfaaVOct
import Derived.Test.YtcdaelgnankmfaaVSeq
import Derived.Shelf.Abstract
namespace Go.Proofs.Ytcdaelgnankmfaa.VOct
open Go.RowKit Go.VBase Go.VOct Go.VSeq

/-- What a round of a range over high gets: 8 times a number below 8. -/
def encH (j : Fin 8) : Array Value := #[.int .i64 (8 * (j.val : Int))]
def shf (k i : Nat) : Fin 8 := ⟨(k - 1 - i) % 8, Nat.mod_lt _ (by decide)⟩
def shifts (k : Nat) : List (Fin 8) := (List.range k).map (shf k)
theorem shifts_len (k : Nat) : (shifts k).length = k := by unfold shifts; rw [List.length_map, List.length_range]
theorem shifts_get {k i : Nat} (h : i < k) : (shifts k)[i]? = some (shf k i) := by unfold shifts; rw [List.getElem?_map, List.getElem?_range h]; rfl
/-- The iterator's own box is kept. -/
def KpB (Bn : Nat) (W W' : World) : Prop := W'.heap[Bn]? = W.heap[Bn]?

set_option maxHeartbeats 400000 in
theorem high_calls (n : Int) (w : World) :
    Calls Try.prog 71 #[.int .i64 n] w fun e w' => e = .returned (.func (.func 96) #[] #[.pointer (some ⟨w.heap.size, 0, none⟩)]) ∧ w' = w.alloc (.cells #[.int .i64 n] 3) := by
  go_enter Try.func71, Try.ntmps71
  go_wp2_with fail
  go_ret
  exact ⟨rfl, rfl⟩

attribute [local go_sem] Oper.semAt_some

set_option maxRecDepth 100000 in
set_option maxHeartbeats 1000000 in
theorem high1_in (l Bn k : Nat) (hk8 : k ≤ 8) (width : Int) (hwk : width.toNat = k) (hw0 : -1 ≤ width) (J Jx : List (Fin 8) → World → Prop)
    (hY : ∀ pre x W, J pre W → pre.length < k → YieldAt Fence.wide 7 Try.prog l (encH x) W fun e W' =>
      (e = .returned (.bool true) ∧ J (pre ++ [x]) W' ∧ KpB Bn W W') ∨ (e = .returned (.bool false) ∧ Jx (pre ++ [x]) W'))
    (W : World) (hBn : W.heap[Bn]? = some (.cells #[.int .i64 width] 3)) (h0 : J [] W) :
    CallsIn Fence.wide 8 Try.prog 96 #[.func (.yield l) #[] #[], .pointer (some ⟨Bn, 0, none⟩)] W fun e W' => (∃ v, e = .returned v) ∧
      ((∃ ys, ys = shifts k ∧ J ys W') ∨ (∃ pre, pre <+: shifts k ∧ Jx pre W')) := by
  have hc : W.cell? ⟨Bn, 0, none⟩ = some (.int .i64 width) := cell_of_row W Bn 0 _ _ _ hBn
  refine callsIn_of_wp Try.func96 rfl trivial ?_ rfl
  simp only [Try.ntmps96, List.size_toArray, List.length_cons, List.length_nil, Nat.reduceAdd, Nat.reduceSub, Array.replicate_succ, Array.replicate_zero, List.push_toArray, List.append_toArray, List.nil_append, List.cons_append]
  gi_wp2
  gi_loopw [3, 5] (fun _ i wr => ∃ j : Nat, j ≤ k ∧ i = .int .i64 (j : Int) ∧ J ((shifts k).take j) wr ∧ wr.heap[Bn]? = some (.cells #[.int .i64 width] 3)) (fun _ i _ => k - (intOf i).toNat)
  case atStart => exact ⟨0, by omega, rfl, by rw [List.take_zero]; exact h0, hBn⟩
  case round =>
    obtain ⟨j, hj, rfl, hJ, hb⟩ := hrel
    by_cases hlt : j < k
    · have hcr : wr.cell? ⟨Bn, 0, none⟩ = some (.int .i64 width) := cell_of_row wr Bn 0 _ _ _ hb
      obtain ⟨fn, tmps, assign, body, hy, hR⟩ := hY _ (shf k j) wr hJ (by rw [List.length_take, shifts_len]; omega)
      have hjw : (j : Int) < width := by omega
      have he : encH (shf k j) = #[.int .i64 (8 * (width - 1 - (j : Int)))] := by
        unfold encH shf
        simp only
        rw [Nat.mod_eq_of_lt (by omega)]
        congr 4
        omega
      rw [he] at hy
      have hw8 : width ≤ 8 := by omega
      have hsn := take_snoc (shifts_get hlt)
      rw [← hsn] at hR
      have HB := Lib.hid hb
      clear he hsn hb hY hBn h0 hJ hwk
      gi_wp2
      refine hR.mono ?_
      rintro e W3 (⟨rfl, hJ3, hk3⟩ | ⟨rfl, hJx3⟩)
      · have HK := Lib.hid (hk3.trans HB.out)
        clear hk3 hy
        gi_wp2
        go_roundw
        case rel => exact ⟨j + 1, by omega, by go_num, hJ3, HK.out⟩
        case measure => simp [intOf]; omega
      · clear hy
        gi_wp2
        refine bodyPost_ret (results_none rfl _ _ _) rfl ?_
        exact ⟨⟨_, rfl⟩, .inr ⟨_, List.take_prefix _ _, hJx3⟩⟩
    · have hjk : j = k := by omega
      have hjw : width ≤ (j : Int) := by omega
      clear hY hBn h0 hb
      gi_wp2
      go_end0
      exact ⟨⟨_, rfl⟩, .inl ⟨_, rfl, by rw [hjk, List.take_of_length_le (by rw [shifts_len]; exact Nat.le_refl _)] at hJ; exact hJ⟩⟩
theorem high_stops (w : World) (Bn k : Nat) (width : Int) (hk8 : k ≤ 8) (hwk : width.toNat = k) (hw0 : -1 ≤ width) (hb : w.heap[Bn]? = some (.cells #[.int .i64 width] 3)) :
    SeqStopsK Fence.wide 8 Try.prog 96 #[.pointer (some ⟨Bn, 0, none⟩)] encH (KpB Bn) (· = shifts k) (· <+: shifts k) k w :=
  fun l J Jx W hW _ _ hY h0 => high1_in l Bn k hk8 width hwk hw0 J Jx hY W ((Below.block hW Bn (Array.getElem?_eq_some_iff.1 hb).1).trans hb) h0
end Go.Proofs.Ytcdaelgnankmfaa.VOct
