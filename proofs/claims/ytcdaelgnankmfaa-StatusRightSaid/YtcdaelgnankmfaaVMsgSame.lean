/- Messages: whether they are the same; copies of bytes. -/
import Derived.Test.YtcdaelgnankmfaaVMsg
import Derived.Test.YtcdaelgnankmfaaVRef01
import Derived.Test.YtcdaelgnankmfaaVEq
import Derived.Lib.LazyBuf
import Derived.Lib.SliceRun
namespace Go.Proofs.Ytcdaelgnankmfaa.VMsg
open Go.RowKit Go.VBase Go.VRg Go.VEq VCst

theorem results_cell {fn : Func} {p : Tmp} {ty : TypeId} (h : fn.results = #[.cell p ty]) (tmps : Array Value) (P : Program) (w : World) :
    (results fn tmps).run P w = ((asAddr (tmps.getD p undef)).run P w).andThen fun a w₁ => (loadVar ty a).run P w₁ := by
  simp only [results, h]
  simp [Sem.run_bind, Result.andThen]

set_option maxHeartbeats 1000000 in
theorem bytesEqual_calls (v u : Value) (l m : List UInt8) (w : World) (hv : Bys w v l) (hu : Bys w u m) : Calls Try.prog 40 #[v, u] w fun e w' => e = .returned (.bool (l == m)) ∧ w = w' := by
  have k1 := run_string_bys (P := Try.prog) Try.underlying26 Try.underlying5 Try.underlying9 hv
  have k2 := run_string_bys (P := Try.prog) Try.underlying26 Try.underlying5 Try.underlying9 hu
  have hb : ((strB l).toList == (strB m).toList) = (l == m) := by rw [strB_toList, strB_toList]
  obtain ⟨a, cap, rfl, _⟩ := hv
  obtain ⟨a', cap', rfl, _⟩ := hu
  rw [← hb]
  clear hb
  generalize strB l = s1 at *
  generalize strB m = s2 at *
  go_enter Try.func40, Try.ntmps40
  go_wp2_with fail
  go_ret
  exact ⟨rfl, rfl⟩

set_option maxHeartbeats 400000 in
theorem bytesClone_calls (v : Value) (l : List UInt8) (w : World) (hv : Bys w v l) (hl : l.length ≤ 140737488355328) :
    Calls Try.prog 39 #[v] w (MadeB w 5 l) := by
  have hv' := hv
  obtain ⟨a, cap, rfl, h1, h2, h3⟩ := hv
  cases a with
  | none =>
    have hm : l = [] := by
      rcases Decidable.em (l = []) with h | h
      · exact h
      · obtain ⟨b, off, he, _⟩ := h3 h; cases he
    subst hm
    clear h3
    have hq := fun W => Lib.run_eql_slice_nil (P := Try.prog) W 26 5 none 0 cap 0 0 Try.underlying26
    go_enter Try.func39, Try.ntmps39
    go_wp2_with fail
    go_ret
    exact ⟨_, rfl, OwnB.nil _ _ _, Ext.refl _⟩
  | some x =>
    have hq := fun W => Lib.run_eql_slice_nil (P := Try.prog) W 26 5 (some x) l.length cap 0 0 Try.underlying26
    clear h3
    go_enter Try.func39, Try.ntmps39
    go_wp2_with (at_builtin; refine wpList_append_B VRef01.byteSl rfl _ _ rfl (by rfl) (by rfl) (OwnB.made0 w w.heap.size _ (Nat.le_refl _)) (hv'.alloc _) ?hl ?hb ?hk)
    case hl => simpa using hl
    case hb => simp
    case hk =>
    intro u w' ho hg _
    obtain ⟨a', cap', rfl⟩ := ho.slice
    go_wp2_with fail
    go_ret
    exact ⟨_, rfl, ho, Below.trans (Ext.alloc w _) (grown_below hg (by simp) (fun k h => by cases h; exact Nat.le_refl _))⟩

end Go.Proofs.Ytcdaelgnankmfaa.VMsg
