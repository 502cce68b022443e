/- The reference's Out: Put and Tail. -/
import Derived.Test.YtolmcdimhnnpaaaVOuts
import Derived.Test.YtolmcdimhnnpaaaVRefPut
import Derived.Test.YtolmcdimhnnpaaaVRef01
namespace Go.Proofs.Ytolmcdimhnnpaaa.VOct
open Go.RowKit Go.VBase Go.VOct Go.VRg VRefOct

abbrev TRef : TypeId := 29
def ROPost (w : World) (B : Nat) (r : Option Nat) (st : Option (List UInt8)) (e : Ending) (w' : World) : Prop := (∃ v, e = .returned v) ∧ ∃ r', OutAt w' TRef TB B r' st ∧ TouchO B r w w' ∧ RowNext w r r'

set_option maxHeartbeats 1000000 in
theorem refTail_calls (B : Nat) (r : Option Nat) (st : Option (List UInt8)) (v : Value) (m : List UInt8) (w : World) (h : OutAt w TRef TB B r st) (hv : Bys w v m) (hl : (stAll st).length + m.length ≤ 140737488355328) :
    Calls Try.prog 13 #[.pointer (some ⟨B, 0, none⟩), v] w (ROPost w B r (stTail st m)) := by
  have h0 := h
  have hv' := hv
  obtain ⟨a, cap, rfl, _⟩ := hv
  cases st with
  | none =>
    have hc1 : w.cell? ⟨B, 1, none⟩ = some (.bool true) := cell_of_row w B 1 _ _ _ h.1
    clear h
    go_enter Try.func13, Try.ntmps13
    go_wp2_with fail
    first | go_end0 | refine bodyPost_ret (results_none rfl _ _ _) rfl ?_
    exact ⟨⟨_, rfl⟩, r, h0, TouchO.refl _ _ _, RowNext.refl _ _⟩
  | some l =>
    obtain ⟨v, hb, ho, hr, hne⟩ := h
    obtain ⟨a1, cap1, rfl⟩ := ho.slice
    have hc0 : w.cell? ⟨B, 0, none⟩ = some (.slice a1 l.length cap1) := cell_of_row w B 0 _ _ _ hb
    have hc1 : w.cell? ⟨B, 1, none⟩ = some (.bool false) := cell_of_row w B 1 _ _ _ hb
    have hlt : B < w.heap.size := (Array.getElem?_eq_some_iff.1 hb).1
    go_enter Try.func13, Try.ntmps13
    have HB := Lib.hid hb
    clear hb
    go_wp2_with (at_builtin; refine wpList_append_B byteSl rfl _ _ rfl (by rfl) (by rfl) ho hv' ?hl ?hb ?hk)
    case hl => simpa [stAll] using hl
    case hb => exact Nat.zero_le _
    case hk =>
    intro u w' ho' hg hrow
    obtain ⟨a', cap', rfl⟩ := ho'.slice
    have hb' : w'.heap[B]? = some (.cells #[.slice a1 l.length cap1, .bool false] TRef) := (hg.block B hlt (fun e => hne e.symm)).trans HB.out
    have hc' : w'.cell? ⟨B, 0, none⟩ = some (.slice a1 l.length cap1) := cell_of_row w' B 0 _ _ _ hb'
    have hf' : w'.frozen? ⟨B, 0, none⟩ = false := frozen_of_row w' B 0 _ _ hb'
    have HB' := Lib.hid hb'
    clear hb' hr
    go_wp2_with fail
    first | go_end0 | refine bodyPost_ret (results_none rfl _ _ _) rfl ?_
    rw [List.length_append] at ho' hrow
    have hrow' : ∀ g, (Value.slice a' (l.length + m.length) cap').ownBlock = some g → r = some g ∨ w.heap.size ≤ g := fun g hg' => by
      rcases hrow g hg' with h1 | h1
      · exact .inl h1
      · exact .inr h1
    have hnB : (Value.slice a' (l.length + m.length) cap').ownBlock ≠ some B := fun e => by
      rcases hrow' B e with h1 | h1
      · exact hne h1
      · omega
    refine ⟨⟨_, rfl⟩, (Value.slice a' (l.length + m.length) cap').ownBlock, ⟨_, ?_, own_touch (r := none) (TouchO.of_setCell w' 0 _) ho' hnB ?_, rfl, hnB⟩, (TouchO.of_grown hg).same (TouchO.of_setCell w' 0 _), hrow'⟩
    · rw [heap_setCell_same _ _ _ _ _ _ HB'.out]; rfl
    · cases (Value.slice a' (l.length + m.length) cap').ownBlock <;> simp

set_option maxHeartbeats 2000000 in
theorem refOPut_calls (B : Nat) (r : Option Nat) (st : Option (List UInt8)) (width : Int) (n : Nat) (w : World) (h : OutAt w TRef TB B r st) (hn : n < 18446744073709551616) (hl : (stAll st).length + 8 ≤ 140737488355328) :
    Calls Try.prog 11 #[.pointer (some ⟨B, 0, none⟩), .int .i64 width, .int .u64 (n : Int)] w (ROPost w B r (stPut st width n)) := by
  have hP := fun w => refPut_calls width n hn w
  have bad : ∀ w1, Ext w w1 → OutAt w1 TRef TB B r st → ∃ v b, w1.heap[B]? = some (.cells #[v, .bool b] TRef) := fun w1 _ h => by
    cases st with
    | none => exact ⟨_, _, h.1⟩
    | some l => obtain ⟨v, h1, _⟩ := h; exact ⟨_, _, h1⟩
  cases hst : stPut st width n with
  | none =>
    go_enter Try.func11, Try.ntmps11
    go_wp2_with fail
    refine (hP _).mono ?_
    rintro e w1 ⟨u, rfl, hu, hx⟩
    have h1 := h.ext hx
    have hfin : ∀ v b, w1.heap[B]? = some (.cells #[v, .bool b] TRef) → ROPost w B r none (.returned (.tuple #[])) ((w1.setCell ⟨B, 0, none⟩ (.slice none 0 0)).setCell ⟨B, 1, none⟩ (.bool true)) := fun v b hb => by
      refine ⟨⟨_, rfl⟩, none, ⟨?_, rfl⟩, (TouchO.of_ext hx).same ((TouchO.of_setCell w1 0 _).same (TouchO.of_setCell _ 1 _)), RowNext.none _ _⟩
      rw [heap_setCell_same _ _ _ _ _ _ (heap_setCell_same _ _ _ _ _ _ hb)]; rfl
    cases st with
    | none =>
      have hb := h1.1
      have hc1 : w1.cell? ⟨B, 1, none⟩ = some (.bool true) := cell_of_row w1 B 1 _ _ _ hb
      have hc0 : w1.cell? ⟨B, 0, none⟩ = some (.slice none 0 0) := cell_of_row w1 B 0 _ _ _ hb
      have hf0 : w1.frozen? ⟨B, 0, none⟩ = false := frozen_of_row w1 B 0 _ _ hb
      have hf1 : w1.frozen? ⟨B, 1, none⟩ = false := frozen_of_row w1 B 1 _ _ hb
      have HB := Lib.hid (hfin _ _ hb)
      clear hb hfin hP bad hst h h1
      go_wp2_with fail
      first | go_end0 | refine bodyPost_ret (results_none rfl _ _ _) rfl ?_
      exact HB.out
    | some l =>
      obtain ⟨v, hb, ho, hr, hne⟩ := h1
      obtain ⟨a1, cap1, rfl⟩ := ho.slice
      have hno : (putB width n).isSome = false := by
        cases hp : putB width n with
        | none => rfl
        | some z => rw [stPut, hp] at hst; cases hst
      rw [hno] at *
      have hc1 : w1.cell? ⟨B, 1, none⟩ = some (.bool false) := cell_of_row w1 B 1 _ _ _ hb
      have hc0 : w1.cell? ⟨B, 0, none⟩ = some (.slice a1 l.length cap1) := cell_of_row w1 B 0 _ _ _ hb
      have hf0 : w1.frozen? ⟨B, 0, none⟩ = false := frozen_of_row w1 B 0 _ _ hb
      have hf1 : w1.frozen? ⟨B, 1, none⟩ = false := frozen_of_row w1 B 1 _ _ hb
      have HB := Lib.hid (hfin _ _ hb)
      clear hb hfin hP bad hst h ho hr hne hno
      go_wp2_with fail
      first | go_end0 | refine bodyPost_ret (results_none rfl _ _ _) rfl ?_
      exact HB.out
  | some q =>
    cases st with
    | none => cases hst
    | some l =>
    obtain ⟨m, hm⟩ : ∃ m, putB width n = some m := by
      cases hp : putB width n with
      | none => rw [stPut, hp] at hst; cases hst
      | some z => exact ⟨z, rfl⟩
    have hq : q = l ++ m := by rw [stPut, hm] at hst; simpa using hst.symm
    have hml : m.length ≤ 8 := by
      unfold putB at hm
      split at hm
      · rename_i h
        cases hm
        rw [beB_len]
        have := h.1; unfold widthB at this; simp at this; omega
      · cases hm
    rw [hm] at hP
    subst hq
    go_enter Try.func11, Try.ntmps11
    go_wp2_with fail
    refine (hP _).mono ?_
    rintro e w1 ⟨u, rfl, hu, hx⟩
    rw [show (some m).isSome = true from rfl]
    rw [show (some m).getD [] = m from rfl] at hu
    have hub := hu.bys (by unfold maxLen; omega)
    obtain ⟨ua, ucap, rfl⟩ := hu.slice
    obtain ⟨v, hb, ho, hr, hne⟩ := h.ext hx
    obtain ⟨a1, cap1, rfl⟩ := ho.slice
    have hc1 : w1.cell? ⟨B, 1, none⟩ = some (.bool false) := cell_of_row w1 B 1 _ _ _ hb
    have hc0 : w1.cell? ⟨B, 0, none⟩ = some (.slice a1 l.length cap1) := cell_of_row w1 B 0 _ _ _ hb
    have hlt : B < w1.heap.size := (Array.getElem?_eq_some_iff.1 hb).1
    have HB := Lib.hid hb
    clear hb hP bad hst hm h hu
    go_wp2_with (at_builtin; refine wpList_append_B byteSl rfl _ _ rfl (by rfl) (by rfl) ho hub ?hl ?hb ?hk)
    case hl => simp [stAll] at hl; omega
    case hb => exact Nat.zero_le _
    case hk =>
    intro u w' ho' hg hrow
    obtain ⟨a', cap', rfl⟩ := ho'.slice
    have hb' : w'.heap[B]? = some (.cells #[.slice a1 l.length cap1, .bool false] TRef) := (hg.block B hlt (fun e => hne e.symm)).trans HB.out
    have hc' : w'.cell? ⟨B, 0, none⟩ = some (.slice a1 l.length cap1) := cell_of_row w' B 0 _ _ _ hb'
    have hf' : w'.frozen? ⟨B, 0, none⟩ = false := frozen_of_row w' B 0 _ _ hb'
    have HB' := Lib.hid hb'
    clear hb' hub
    have HR := Lib.hid hr
    clear hr
    go_wp2_with fail
    first | go_end0 | refine bodyPost_ret (results_none rfl _ _ _) rfl ?_
    have hr := HR.out
    rw [List.length_append] at ho' hrow
    have hsz := hx.size
    have hrow' : ∀ g, (Value.slice a' (l.length + m.length) cap').ownBlock = some g → r = some g ∨ w.heap.size ≤ g := fun g hg' => by
      rcases hrow g hg' with h1 | h1
      · exact .inl h1
      · exact .inr (by omega)
    have hnB : (Value.slice a' (l.length + m.length) cap').ownBlock ≠ some B := fun e => by
      rcases hrow B e with h1 | h1
      · exact hne h1
      · omega
    refine ⟨⟨_, rfl⟩, (Value.slice a' (l.length + m.length) cap').ownBlock, ⟨_, ?_, own_touch (r := none) (TouchO.of_setCell w' 0 _) ho' hnB ?_, rfl, hnB⟩, (TouchO.of_ext hx).same ((TouchO.of_grown hg).same (TouchO.of_setCell w' 0 _)), hrow'⟩
    · rw [heap_setCell_same _ _ _ _ _ _ HB'.out]; rfl
    · cases (Value.slice a' (l.length + m.length) cap').ownBlock <;> simp
end Go.Proofs.Ytolmcdimhnnpaaa.VOct
