/- What frame.Cut comes to. -/
import Derived.Test.YtcdaelgnankmfaaVRef01
import Derived.Test.YtcdaelgnankmfaaVFrm
namespace Go.Proofs.Ytcdaelgnankmfaa.VSta
open Go.RowKit Go.VBase

set_option maxRecDepth 100000 in
set_option maxHeartbeats 1000000 in
theorem cloneB_calls (v : Value) (l : List UInt8) (w : World) (hv : Bys w v l) (hl : l.length ≤ 140737488355328) :
    Calls Try.prog 32 #[v] w (MadeB w 5 l) := by
  have hv' := hv
  obtain ⟨a, cap, rfl, _, _, h3⟩ := hv
  cases a with
  | none =>
    have hm : l = [] := by
      rcases Decidable.em (l = []) with h | h
      · exact h
      · obtain ⟨b, off, he, _⟩ := h3 h; cases he
    subst hm
    clear h3
    have hq := fun W => Lib.run_eql_slice_nil (P := Try.prog) W 26 5 none 0 cap 0 0 Try.underlying26
    go_enter Try.func32, Try.ntmps32
    go_wp2_with fail
    go_ret
    exact ⟨_, rfl, OwnB.nil _ _ _, Ext.refl _⟩
  | some a =>
    have hq := fun W => Lib.run_eql_slice_nil (P := Try.prog) W 26 5 (some a) l.length cap 0 0 Try.underlying26
    clear h3
    go_enter Try.func32, Try.ntmps32
    go_wp2_with (at_builtin; refine wpList_append_B VRef01.byteSl rfl _ _ rfl (by rfl) (by rfl) (OwnB.made0 w w.heap.size _ (Nat.le_refl _)) (hv'.alloc _) ?hl ?hb ?hk)
    case hl => simpa using hl
    case hb => simp
    case hk =>
    intro u w' ho hg _
    obtain ⟨a', cap', rfl⟩ := ho.slice
    go_wp2_with fail
    go_ret
    exact ⟨_, rfl, ho, Below.trans (Ext.alloc w _) (grown_below hg (by simp) (fun k h => by cases h; exact Nat.le_refl _))⟩
set_option maxRecDepth 100000 in
set_option maxHeartbeats 1000000 in
theorem frmCut_calls (v : Value) (l : List UInt8) (w : World) (hv : Bys w v l) (hl : l.length ≤ 100000000) :
    Calls Try.prog 17 #[v] w (MadeB w 5 (l.take (l.length - 1))) := by
  obtain ⟨a, cap, rfl, h1, h2, h3⟩ := hv
  have hv : Bys w (.slice a l.length cap) l := ⟨a, cap, rfl, h1, h2, h3⟩
  have ht := hv.take (i := l.length - 1) (by omega)
  have hk := cloneB_calls _ _ w ht (by rw [List.length_take]; omega)
  obtain ⟨n, hn⟩ : ∃ n, l.length - 1 = n := ⟨_, rfl⟩
  rw [hn] at hk ht ⊢
  have hnc : n ≤ cap := by omega
  have hsp : (l.length = 0 ∧ n = 0) ∨ (l.length = 1 ∧ n = 0) ∨ ∃ m, l.length = m + 2 ∧ n = m + 1 := by
    rcases (by omega : l.length = 0 ∨ l.length = 1 ∨ 2 ≤ l.length) with h | h | h
    · exact .inl ⟨h, by omega⟩
    · exact .inr (.inl ⟨h, by omega⟩)
    · exact .inr (.inr ⟨l.length - 2, by omega, by omega⟩)
  generalize l.length = L at *
  clear h3 hv ht hn
  rcases hsp with ⟨rfl, rfl⟩ | ⟨rfl, rfl⟩ | ⟨m, rfl, rfl⟩
  all_goals
  go_enter Try.func17, Try.ntmps17
  go_wp2_with fail
  refine hk.mono ?_
  rintro e w1 ⟨u, rfl, hu, h⟩
  go_wp2_with fail
  go_ret
  exact ⟨u, rfl, hu, h⟩
end Go.Proofs.Ytcdaelgnankmfaa.VSta
