/- frame: what stands in a frame of a kind, as an iterator tells it. -/
import Derived.Test.YtcdaelgnankmfaaVFrmD
import Derived.Test.YtcdaelgnankmfaaVSeqN
namespace Go.Proofs.Ytcdaelgnankmfaa.VSta
open Go.RowKit Go.VBase Go.VRg Go.VSeq

theorem parts_calls (k : Int) (w : World) :
    Calls Try.prog 48 #[.int .i64 k] w fun e w' => e = .returned (.func (.func 72) #[] #[.pointer (some ⟨w.heap.size, 0, none⟩)]) ∧ w' = w.alloc (.cells #[.int .i64 k] 3) := by
  go_enter Try.func48, Try.ntmps48
  go_wp2_with fail
  go_ret
  exact ⟨rfl, rfl⟩

def NxK (k : Int) (pre : List Int) (x : Int) : Prop := pre ++ [x] <+: partsL k
attribute [local go_sem] Oper.semAt_some

set_option maxRecDepth 100000 in
set_option maxHeartbeats 4000000 in
theorem parts1_in (k : Int) (l Bn : Nat) (J Jx : List Int → World → Prop)
    (hY : ∀ pre x W, J pre W → NxK k pre x → YieldAt Fence.wide 7 Try.prog l #[.int .i64 x] W fun e W' =>
      (e = .returned (.bool true) ∧ J (pre ++ [x]) W' ∧ True) ∨ (e = .returned (.bool false) ∧ Jx (pre ++ [x]) W'))
    (W : World) (hBn : W.cell? ⟨Bn, 0, none⟩ = some (.int .i64 k)) (h0 : J [] W) :
    CallsIn Fence.wide 8 Try.prog 72 #[.func (.yield l) #[] #[], .pointer (some ⟨Bn, 0, none⟩)] W fun e W' => (∃ v, e = .returned v) ∧
      ((∃ ys, ys = partsL k ∧ J ys W') ∨ (∃ pre, pre <+: partsL k ∧ Jx pre W')) := by
  refine callsIn_of_wp Try.func72 rfl trivial ?_ rfl
  simp only [Try.ntmps72, List.size_toArray, List.length_cons, List.length_nil, Nat.reduceAdd, Nat.reduceSub, Array.replicate_succ, Array.replicate_zero, List.push_toArray, List.append_toArray, List.nil_append, List.cons_append]
  by_cases k3 : k = 3
  · subst k3
    obtain ⟨fn, tmps, assign, body, hy, hR⟩ := hY [] 0 W h0 (by unfold NxK; rw [parts3]; exact ⟨[1], rfl⟩)
    gi_wp2
    refine hR.mono ?_
    rintro e W3 (⟨rfl, hJ3, hk3⟩ | ⟨rfl, hJx3⟩)
    · obtain ⟨fn2, tmps2, assign2, body2, hy2, hR2⟩ := hY [0] 1 W3 hJ3 (by unfold NxK; rw [parts3]; exact ⟨[], rfl⟩)
      clear hy hR hY h0 hBn hk3 hJ3
      gi_wp2
      refine hR2.mono ?_
      rintro e W4 (⟨rfl, hJ4, hk4⟩ | ⟨rfl, hJx4⟩)
      · clear hy2 hR2
        gi_wp2
        go_end0
        exact ⟨⟨_, rfl⟩, .inl ⟨_, rfl, by rw [parts3]; exact hJ4⟩⟩
      · clear hy2 hR2
        gi_wp2
        go_end0
        exact ⟨⟨_, rfl⟩, .inr ⟨_, by rw [parts3]; exact ⟨[], rfl⟩, hJx4⟩⟩
    · clear hy hR hY
      gi_wp2
      refine bodyPost_ret (results_none rfl _ _ _) rfl ?_
      exact ⟨⟨_, rfl⟩, .inr ⟨_, by rw [parts3]; exact ⟨[1], rfl⟩, hJx3⟩⟩
  by_cases k1 : k = 1
  · subst k1
    obtain ⟨fn, tmps, assign, body, hy, hR⟩ := hY [] 1 W h0 (by unfold NxK; rw [parts1]; exact ⟨[], rfl⟩)
    gi_wp2
    refine hR.mono ?_
    rintro e W3 (⟨rfl, hJ3, hk3⟩ | ⟨rfl, hJx3⟩)
    · clear hy hR hY
      gi_wp2
      go_end0
      exact ⟨⟨_, rfl⟩, .inl ⟨_, rfl, by rw [parts1]; exact hJ3⟩⟩
    · clear hy hR hY
      gi_wp2
      go_end0
      exact ⟨⟨_, rfl⟩, .inr ⟨_, by rw [parts1]; exact ⟨[], rfl⟩, hJx3⟩⟩
  by_cases k2 : k = 2
  · subst k2
    obtain ⟨fn, tmps, assign, body, hy, hR⟩ := hY [] 0 W h0 (by unfold NxK; rw [parts2]; exact ⟨[], rfl⟩)
    gi_wp2
    refine hR.mono ?_
    rintro e W3 (⟨rfl, hJ3, hk3⟩ | ⟨rfl, hJx3⟩)
    · clear hy hR hY
      gi_wp2
      go_end0
      exact ⟨⟨_, rfl⟩, .inl ⟨_, rfl, by rw [parts2]; exact hJ3⟩⟩
    · clear hy hR hY
      gi_wp2
      go_end0
      exact ⟨⟨_, rfl⟩, .inr ⟨_, by rw [parts2]; exact ⟨[], rfl⟩, hJx3⟩⟩
  by_cases k4 : k = 4
  · subst k4
    obtain ⟨fn, tmps, assign, body, hy, hR⟩ := hY [] 2 W h0 (by unfold NxK; rw [parts4]; exact ⟨[], rfl⟩)
    gi_wp2
    refine hR.mono ?_
    rintro e W3 (⟨rfl, hJ3, hk3⟩ | ⟨rfl, hJx3⟩)
    · clear hy hR hY
      gi_wp2
      go_end0
      exact ⟨⟨_, rfl⟩, .inl ⟨_, rfl, by rw [parts4]; exact hJ3⟩⟩
    · clear hy hR hY
      gi_wp2
      go_end0
      exact ⟨⟨_, rfl⟩, .inr ⟨_, by rw [parts4]; exact ⟨[], rfl⟩, hJx3⟩⟩
  have b3 : (k == 3) = false := by simpa using k3
  have b1 : (k == 1) = false := by simpa using k1
  have b2 : (k == 2) = false := by simpa using k2
  have b4 : (k == 4) = false := by simpa using k4
  have hp : partsL k = [] := by unfold partsL; rw [if_neg k3, if_neg k1, if_neg k2, if_neg k4]
  clear hY
  gi_wp2
  go_end0
  exact ⟨⟨_, rfl⟩, .inl ⟨_, rfl, by rw [hp]; exact h0⟩⟩
theorem parts_seq (k : Int) (w : World) (Bn : Nat) (hb : w.heap[Bn]? = some (.cells #[.int .i64 k] 3)) :
    SeqNx Try.prog 72 #[.pointer (some ⟨Bn, 0, none⟩)] (fun (x : Int) => #[.int .i64 x]) (NxK k) (fun _ _ => True) (· = partsL k) (· <+: partsL k) w :=
  fun l J Jx W hW hJ _ hY h0 => parts1_in k l Bn J Jx hY W (cell_of_row W Bn 0 _ _ _ ((Below.block hW Bn (Array.getElem?_eq_some_iff.1 hb).1).trans hb)) h0
end Go.Proofs.Ytcdaelgnankmfaa.VSta
