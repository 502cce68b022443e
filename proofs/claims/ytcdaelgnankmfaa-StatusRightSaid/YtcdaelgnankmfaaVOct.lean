/- The plain methods of octet's Out and In. -/
import Derived.Test.YtcdaelgnankmfaaProg
import Derived.Test.YtcdaelgnankmfaaVOctDef
import Derived.BigQuiet
import Derived.Deep.QuietTactic
import Derived.Outline
namespace Go.Proofs.Ytcdaelgnankmfaa.VOct
open Go.RowKit Go.VBase Go.VOct

theorem byteSl : ByteSl Try.prog 26 5 := ⟨Try.underlying26, info_parts (by kernel_rfl)⟩
abbrev TOut : Nat := 85
abbrev TIn : Nat := 140
abbrev TB : Nat := 5

set_option maxHeartbeats 400000 in
theorem Spoilt_calls (B : Nat) (r : Option Nat) (st : Option (List UInt8)) (w : World) (h : OutAt w TOut TB B r st) :
    Calls Try.prog 68 #[.pointer (some ⟨B, 0, none⟩)] w fun e w' => e = .returned (.bool st.isNone) ∧ w = w' := by
  obtain ⟨b, hb, hc⟩ : ∃ b, st.isNone = b ∧ w.cell? ⟨B, 1, none⟩ = some (.bool b) := by
    cases st with
    | none => exact ⟨true, rfl, cell_of_row w B 1 _ _ _ h.1⟩
    | some l => obtain ⟨v, h1, _⟩ := h; exact ⟨false, rfl, cell_of_row w B 1 _ _ _ h1⟩
  rw [hb]
  clear hb h
  go_enter Try.func68, Try.ntmps68
  go_wp2_with fail
  go_ret
  exact ⟨rfl, rfl⟩

/-- The two cells of an Out. -/
theorem out_cells {w : World} {B : Nat} {r : Option Nat} {st : Option (List UInt8)} (h : OutAt w TOut TB B r st) : ∃ v, w.heap[B]? = some (.cells #[v, .bool st.isNone] TOut) := by
  cases st with
  | none => exact ⟨_, h.1⟩
  | some l => obtain ⟨v, h1, _⟩ := h; exact ⟨v, h1⟩

def SpoilPost (w : World) (B : Nat) (e : Ending) (w' : World) : Prop := e = .returned (.pointer (some ⟨B, 0, none⟩)) ∧ OutAt w' TOut TB B none none ∧ TouchO B none w w'

set_option maxHeartbeats 400000 in
theorem spoil_calls (B : Nat) (r : Option Nat) (st : Option (List UInt8)) (w : World) (h : OutAt w TOut TB B r st) :
    Calls Try.prog 70 #[.pointer (some ⟨B, 0, none⟩)] w (SpoilPost w B) := by
  obtain ⟨v, hb⟩ := out_cells h
  have hc0 : w.cell? ⟨B, 0, none⟩ = some v := cell_of_row w B 0 _ _ _ hb
  have hc1 : w.cell? ⟨B, 1, none⟩ = some (.bool st.isNone) := cell_of_row w B 1 _ _ _ hb
  have hf0 : w.frozen? ⟨B, 0, none⟩ = false := frozen_of_row w B 0 _ _ hb
  have hf1 : w.frozen? ⟨B, 1, none⟩ = false := frozen_of_row w B 1 _ _ hb
  have HB := Lib.hid hb
  clear hb h
  go_enter Try.func70, Try.ntmps70
  go_wp2_with fail
  go_ret
  refine ⟨rfl, ⟨?_, rfl⟩, (TouchO.of_setCell w 0 _).same (TouchO.of_setCell _ 1 _)⟩
  rw [heap_setCell_same _ _ _ _ _ _ (heap_setCell_same _ _ _ _ _ _ HB.out)]; rfl

set_option maxHeartbeats 400000 in
theorem Clone_calls (v : Value) (l : List UInt8) (w : World) (hv : Bys w v l) (hl : l.length ≤ 140737488355328) :
    Calls Try.prog 32 #[v] w (MadeB w TB l) := by
  have hv' := hv
  obtain ⟨a, cap, rfl, h1, h2, h3⟩ := hv
  cases a with
  | none =>
    have hm : l = [] := by
      rcases Decidable.em (l = []) with h | h
      · exact h
      · obtain ⟨b, off, he, _⟩ := h3 h; cases he
    subst hm
    clear h3
    have hq := fun W => Lib.run_eql_slice_nil (P := Try.prog) W 26 5 none 0 cap 0 0 Try.underlying26
    go_enter Try.func32, Try.ntmps32
    go_wp2_with fail
    go_ret
    exact ⟨_, rfl, OwnB.nil _ _ _, Ext.refl _⟩
  | some x =>
    have hq := fun W => Lib.run_eql_slice_nil (P := Try.prog) W 26 5 (some x) l.length cap 0 0 Try.underlying26
    clear h3
    go_enter Try.func32, Try.ntmps32
    go_wp2_with (at_builtin; refine wpList_append_B byteSl rfl _ _ rfl (by rfl) (by rfl) (OwnB.made0 w w.heap.size _ (Nat.le_refl _)) (hv'.alloc _) ?hl ?hb ?hk)
    case hl => simpa using hl
    case hb => simp
    case hk =>
    intro u w' ho hg _
    obtain ⟨a', cap', rfl⟩ := ho.slice
    go_wp2_with fail
    go_ret
    exact ⟨_, rfl, ho, Below.trans (Ext.alloc w _) (grown_below hg (by simp) (fun k h => by cases h; exact Nat.le_refl _))⟩
def TailPost (w : World) (B : Nat) (r : Option Nat) (st : Option (List UInt8)) (e : Ending) (w' : World) : Prop :=
  e = .returned (.pointer (some ⟨B, 0, none⟩)) ∧ ∃ r', OutAt w' TOut TB B r' st ∧ TouchO B r w w' ∧ RowNext w r r'

set_option maxHeartbeats 400000 in
theorem Tail_calls (B : Nat) (r : Option Nat) (st : Option (List UInt8)) (v : Value) (m : List UInt8) (w : World) (h : OutAt w TOut TB B r st) (hv : Bys w v m) (hl : (stAll st).length + m.length ≤ 140737488355328) :
    Calls Try.prog 49 #[.pointer (some ⟨B, 0, none⟩), v] w (TailPost w B r (stTail st m)) := by
  have h0 := h
  have hv' := hv
  obtain ⟨a, cap, rfl, _⟩ := hv
  cases st with
  | none =>
    go_enter Try.func49, Try.ntmps49
    go_wp2_with fail
    refine (Spoilt_calls B r none _ h0).mono ?_
    rintro e w' ⟨rfl, rfl⟩
    go_wp2_with fail
    go_ret
    exact ⟨rfl, r, h0, TouchO.refl _ _ _, RowNext.refl _ _⟩
  | some l =>
    obtain ⟨v, hb, ho, hr, hne⟩ := h
    obtain ⟨a1, cap1, rfl⟩ := ho.slice
    have hc0 : w.cell? ⟨B, 0, none⟩ = some (.slice a1 l.length cap1) := cell_of_row w B 0 _ _ _ hb
    have hlt : B < w.heap.size := (Array.getElem?_eq_some_iff.1 hb).1
    go_enter Try.func49, Try.ntmps49
    have HB := Lib.hid hb
    clear hb
    go_wp2_with fail
    refine (Spoilt_calls B r (some l) _ h0).mono ?_
    rintro e w' ⟨rfl, rfl⟩
    go_wp2_with (at_builtin; refine wpList_append_B byteSl rfl _ _ rfl (by rfl) (by rfl) ho hv' ?hl ?hb ?hk)
    case hl => simpa [stAll] using hl
    case hb => exact Nat.zero_le _
    case hk =>
    intro u w' ho' hg hrow
    obtain ⟨a', cap', rfl⟩ := ho'.slice
    have hb' : w'.heap[B]? = some (.cells #[.slice a1 l.length cap1, .bool false] TOut) := (hg.block B hlt (fun e => hne e.symm)).trans HB.out
    have hc' : w'.cell? ⟨B, 0, none⟩ = some (.slice a1 l.length cap1) := cell_of_row w' B 0 _ _ _ hb'
    have hf' : w'.frozen? ⟨B, 0, none⟩ = false := frozen_of_row w' B 0 _ _ hb'
    have HB' := Lib.hid hb'
    clear hb' hr
    go_wp2_with fail
    go_ret
    rw [List.length_append] at ho' hrow
    have hrow' : ∀ g, (Value.slice a' (l.length + m.length) cap').ownBlock = some g → r = some g ∨ w.heap.size ≤ g := fun g hg' => by
      rcases hrow g hg' with h1 | h1
      · exact .inl h1
      · exact .inr h1
    have hnB : (Value.slice a' (l.length + m.length) cap').ownBlock ≠ some B := fun e => by
      rcases hrow' B e with h1 | h1
      · exact hne h1
      · omega
    refine ⟨rfl, (Value.slice a' (l.length + m.length) cap').ownBlock, ⟨_, ?_, own_touch (r := none) (TouchO.of_setCell w' 0 _) ho' hnB ?_, rfl, hnB⟩, (TouchO.of_grown hg).same (TouchO.of_setCell w' 0 _), hrow'⟩
    · rw [heap_setCell_same _ _ _ _ _ _ HB'.out]; rfl
    · cases (Value.slice a' (l.length + m.length) cap').ownBlock <;> simp
set_option maxHeartbeats 400000 in
theorem All_calls (B : Nat) (r : Option Nat) (st : Option (List UInt8)) (w : World) (h : OutAt w TOut TB B r st) (hl : (stAll st).length ≤ 140737488355328) :
    Calls Try.prog 51 #[.pointer (some ⟨B, 0, none⟩)] w (MadeB w TB (stAll st)) := by
  have h0 := h
  cases st with
  | none =>
    go_enter Try.func51, Try.ntmps51
    go_wp2_with fail
    refine (Spoilt_calls B r none _ h0).mono ?_
    rintro e w' ⟨rfl, rfl⟩
    go_wp2_with fail
    go_ret
    exact ⟨_, rfl, OwnB.nil _ _ _, Ext.refl _⟩
  | some l =>
    obtain ⟨v, hb, ho, hr, hne⟩ := h
    have hbys := ho.bys (by unfold maxLen; simp [stAll] at hl; omega)
    obtain ⟨a1, cap1, rfl⟩ := ho.slice
    have hc0 : w.cell? ⟨B, 0, none⟩ = some (.slice a1 l.length cap1) := cell_of_row w B 0 _ _ _ hb
    clear hb hr
    go_enter Try.func51, Try.ntmps51
    go_wp2_with fail
    refine (Spoilt_calls B r (some l) _ h0).mono ?_
    rintro e w' ⟨rfl, rfl⟩
    go_wp2_with fail
    refine (Clone_calls _ l _ hbys (by simpa [stAll] using hl)).mono ?_
    rintro e w' ⟨u, rfl, ho', hx⟩
    obtain ⟨a', cap', rfl⟩ := ho'.slice
    go_wp2_with fail
    go_ret
    exact ⟨_, rfl, ho', hx⟩

set_option maxHeartbeats 400000 in
theorem InSpoilt_calls (B : Nat) (st : Option (List UInt8)) (w : World) (h : InAt w TIn B st) :
    Calls Try.prog 101 #[.pointer (some ⟨B, 0, none⟩)] w fun e w' => e = .returned (.bool st.isNone) ∧ w = w' := by
  obtain ⟨b, hb, hc⟩ : ∃ b, st.isNone = !b ∧ w.cell? ⟨B, 1, none⟩ = some (.bool b) := by
    cases st with
    | none => obtain ⟨v, h1⟩ := h; exact ⟨false, rfl, cell_of_row w B 1 _ _ _ h1⟩
    | some l => obtain ⟨v, h1, _⟩ := h; exact ⟨true, rfl, cell_of_row w B 1 _ _ _ h1⟩
  rw [hb]
  clear hb h
  go_enter Try.func101, Try.ntmps101
  go_wp2_with fail
  go_ret
  exact ⟨rfl, rfl⟩

def NextPost (w : World) (B : Nat) (x : List UInt8 × Option (List UInt8)) (e : Ending) (w' : World) : Prop :=
  ∃ u, e = .returned u ∧ Bys w' u x.1 ∧ (∀ a len cap, u = .slice (some a) len cap → a.block ≠ B) ∧ InAt w' TIn B x.2 ∧ TouchO B none w w'

theorem next_close {w : World} {B : Nat} {l : List UInt8} {a : Option Addr} {cap k : Nat} (hb : w.heap[B]? = some (.cells #[.slice a l.length cap, .bool true] TIn)) (hv : Bys w (.slice a l.length cap) l)
    (hne : ∀ x len c, Value.slice a l.length cap = .slice (some x) len c → x.block ≠ B) (hk : k ≤ l.length) (u X : Value) (hu : u = .slice a k cap)
    (hX : X = .slice (if cap = k then a else Option.map (fun x => x.add k) a) (l.length - k) (cap - k)) :
    NextPost w B (inTake (some l) (k : Int)) (.returned u) (w.setCell ⟨B, 0, none⟩ X) := by
  subst hu hX
  have hc : Clear (.slice a k cap) B none := fun x len c h => by
    cases h
    exact ⟨hne x _ _ rfl, by simp⟩
  have hc2 : Clear (.slice (if cap = k then a else Option.map (fun x => x.add k) a) (l.length - k) (cap - k)) B none := fun x len c h => by
    simp only [Value.slice.injEq] at h
    obtain ⟨h1, _, _⟩ := h
    refine ⟨?_, by simp⟩
    split at h1
    · exact hne x _ _ (by rw [h1])
    · cases a with
      | none => cases h1
      | some y =>
        simp only [Option.map_some, Option.some.injEq] at h1
        have := hne y _ _ rfl
        rw [← h1]
        unfold Addr.add
        split <;> exact this
  have ht : TouchO B none w (w.setCell ⟨B, 0, none⟩ (.slice (if cap = k then a else Option.map (fun x => x.add k) a) (l.length - k) (cap - k))) := TouchO.of_setCell w 0 _
  have hst : inTake (some l) (k : Int) = (l.take k, some (l.drop k)) := by
    unfold inTake
    simp only
    rw [if_pos ⟨by omega, by omega⟩, Int.toNat_natCast]
  rw [hst]
  refine ⟨_, rfl, Bys.touch ht (hv.take hk) hc, fun x len c h => (hc x len c h).1, ⟨_, ?_, Bys.touch ht (hv.drop hk) hc2, fun x len c h => (hc2 x len c h).1⟩, ht⟩
  rw [heap_setCell_same _ _ _ _ _ _ hb]; rfl

set_option maxHeartbeats 1000000 in
theorem next_calls (B : Nat) (st : Option (List UInt8)) (n : Int) (w : World) (h : InAt w TIn B st) (h0 : -9223372036854775808 ≤ n) (h1 : n ≤ 9223372036854775807) :
    Calls Try.prog 99 #[.pointer (some ⟨B, 0, none⟩), .int .i64 n] w (NextPost w B (inTake st n)) := by
  have hin := h
  cases st with
  | none =>
    go_enter Try.func99, Try.ntmps99
    go_wp2_with fail
    refine (InSpoilt_calls B none _ hin).mono ?_
    rintro e w' ⟨rfl, rfl⟩
    go_wp2_with fail
    go_ret
    exact ⟨_, rfl, Bys.nil _, (fun _ _ _ h => by cases h), hin, TouchO.refl _ _ _⟩
  | some l =>
    obtain ⟨v, hb, hv, hne⟩ := h
    have hv' := hv
    obtain ⟨a, cap, rfl, hle, hcap, _⟩ := hv'
    have hc0 : w.cell? ⟨B, 0, none⟩ = some (.slice a l.length cap) := cell_of_row w B 0 _ _ _ hb
    have hc1 : w.cell? ⟨B, 1, none⟩ = some (.bool true) := cell_of_row w B 1 _ _ _ hb
    have hf0 : w.frozen? ⟨B, 0, none⟩ = false := frozen_of_row w B 0 _ _ hb
    have hf1 : w.frozen? ⟨B, 1, none⟩ = false := frozen_of_row w B 1 _ _ hb
    have hlt : B < w.heap.size := (Array.getElem?_eq_some_iff.1 hb).1
    have HB := Lib.hid hb
    have hln := hv.len
    unfold maxLen at hln hcap
    clear hb
    by_cases hok : 0 ≤ n ∧ n ≤ l.length
    · obtain ⟨k, rfl⟩ := Int.eq_ofNat_of_zero_le hok.1
      have hk : k ≤ l.length := by omega
      have hkc : k ≤ cap := by omega
      have hkl : ((k : Nat) : Int) ≤ (l.length : Int) := by omega
      clear hok
      go_enter Try.func99, Try.ntmps99
      go_wp2_with fail
      refine (InSpoilt_calls B (some l) _ hin).mono ?_
      rintro e w' ⟨rfl, rfl⟩
      go_wp2_with fail
      · have hck : cap = k := by assumption
        go_ret
        exact next_close HB.out hv hne hk _ _ (by rw [hck]; rfl) (by simp [hck])
      · have hck : ¬ cap = k := by assumption
        go_ret
        exact next_close HB.out hv hne hk _ _ rfl (by simp [hck])
    · have hst : inTake (some l) n = ([], none) := if_neg hok
      rw [hst]
      by_cases hneg : n < 0
      · have hd : decide (n < 0) = true := by simpa using hneg
        clear hok hst
        go_enter Try.func99, Try.ntmps99
        go_wp2_with fail
        refine (InSpoilt_calls B (some l) _ hin).mono ?_
        rintro e w' ⟨rfl, rfl⟩
        go_wp2_with fail
        go_ret
        refine ⟨_, rfl, Bys.nil _, (fun _ _ _ h => by cases h), ⟨.slice none 0 0, ?_⟩, (TouchO.of_setCell w 0 _).same (TouchO.of_setCell _ 1 _)⟩
        rw [heap_setCell_same _ _ _ _ _ _ (heap_setCell_same _ _ _ _ _ _ HB.out)]; rfl
      · have hgt : (l.length : Int) < n := by omega
        have hpos : 0 ≤ n := by omega
        clear hok hst
        go_enter Try.func99, Try.ntmps99
        go_wp2_with fail
        refine (InSpoilt_calls B (some l) _ hin).mono ?_
        rintro e w' ⟨rfl, rfl⟩
        go_wp2_with fail
        go_ret
        refine ⟨_, rfl, Bys.nil _, (fun _ _ _ h => by cases h), ⟨.slice none 0 0, ?_⟩, (TouchO.of_setCell w 0 _).same (TouchO.of_setCell _ 1 _)⟩
        rw [heap_setCell_same _ _ _ _ _ _ (heap_setCell_same _ _ _ _ _ _ HB.out)]; rfl
def TakePost (w : World) (B : Nat) (x : List UInt8 × Option (List UInt8)) (e : Ending) (w' : World) : Prop :=
  ∃ u, e = .returned u ∧ OwnB w' w.heap.size TB u x.1 ∧ InAt w' TIn B x.2 ∧ TouchO B none w w'

theorem inTake_len (st : Option (List UInt8)) (n : Int) : (inTake st n).1.length ≤ (stAll st).length := by
  cases st with
  | none => exact Nat.le_refl _
  | some l =>
    show (if 0 ≤ n ∧ n ≤ l.length then (l.take n.toNat, some (l.drop n.toNat)) else ([], none)).1.length ≤ l.length
    split
    · show (l.take n.toNat).length ≤ _
      rw [List.length_take]; omega
    · exact Nat.zero_le _

set_option maxHeartbeats 400000 in
theorem Take_calls (B : Nat) (st : Option (List UInt8)) (n : Int) (w : World) (h : InAt w TIn B st) (h0 : -9223372036854775808 ≤ n) (h1 : n ≤ 9223372036854775807) (hl : (stAll st).length ≤ 140737488355328) :
    Calls Try.prog 80 #[.pointer (some ⟨B, 0, none⟩), .int .i64 n] w (TakePost w B (inTake st n)) := by
  have hlen := inTake_len st n
  have HX := Lib.hid (next_calls B st n w h h0 h1)
  obtain ⟨x, hx⟩ : ∃ x, inTake st n = x := ⟨_, rfl⟩
  rw [hx] at HX hlen ⊢
  clear hx h
  go_enter Try.func80, Try.ntmps80
  go_wp2_with fail
  refine HX.out.mono ?_
  rintro e w1 ⟨u, rfl, hb, _, hin, ht⟩
  have hb' := hb
  obtain ⟨a, cap, rfl, _⟩ := hb'
  clear HX
  go_wp2_with fail
  refine (Clone_calls _ x.1 _ hb (by omega)).mono ?_
  rintro e w2 ⟨u, rfl, ho, hx⟩
  obtain ⟨a', cap', rfl⟩ := ho.slice
  go_wp2_with fail
  go_ret
  exact ⟨_, rfl, ho.mono ht.size, hin.ext hx, ht.same (TouchO.of_ext hx)⟩

def FromPost (w : World) (l : List UInt8) (e : Ending) (w' : World) : Prop := ∃ B, e = .returned (.pointer (some ⟨B, 0, none⟩)) ∧ w.heap.size ≤ B ∧ InAt w' TIn B (some l) ∧ Ext w w'

set_option maxHeartbeats 400000 in
theorem From_calls (v : Value) (l : List UInt8) (w : World) (hv : Bys w v l) (hl : l.length ≤ 140737488355328) :
    Calls Try.prog 77 #[v] w (FromPost w l) := by
  have hv' := hv
  obtain ⟨a, cap, rfl, _⟩ := hv'
  go_enter Try.func77, Try.ntmps77
  go_wp2_with fail
  refine (Clone_calls _ l _ hv hl).mono ?_
  rintro e w1 ⟨u, rfl, ho, hx⟩
  have hbys := ho.bys (by unfold maxLen; omega)
  have hhead := fun a len cap h => OwnB.head ho (a := a) (len := len) (cap := cap) h
  obtain ⟨a', cap', rfl⟩ := ho.slice
  have HH := Lib.hid hhead
  clear hhead
  go_wp2_with fail
  go_ret
  refine ⟨w1.heap.size, rfl, hx.size, ⟨_, heap_alloc_new w1 _, hbys.alloc _, fun a len cap h => ?_⟩, hx.thenAlloc _⟩
  have := HH.out a len cap h
  omega

set_option maxHeartbeats 400000 in
theorem Done_calls (B : Nat) (st : Option (List UInt8)) (w : World) (h : InAt w TIn B st) :
    Calls Try.prog 81 #[.pointer (some ⟨B, 0, none⟩)] w fun e w' => e = .returned (.bool (st == some [])) ∧ w = w' := by
  have hin := h
  cases st with
  | none =>
    go_enter Try.func81, Try.ntmps81
    go_wp2_with fail
    refine (InSpoilt_calls B none _ hin).mono ?_
    rintro e w' ⟨rfl, rfl⟩
    go_wp2_with fail
    go_ret
    exact ⟨rfl, rfl⟩
  | some l =>
    obtain ⟨v, hb, hv, hne⟩ := h
    obtain ⟨a, cap, rfl, hle, hcap, _⟩ := hv
    have hc0 : w.cell? ⟨B, 0, none⟩ = some (.slice a l.length cap) := cell_of_row w B 0 _ _ _ hb
    have hd : (((l.length : Nat) : Int) == 0) = (some l == some []) := by cases l <;> simp <;> omega
    clear hb
    go_enter Try.func81, Try.ntmps81
    go_wp2_with fail
    refine (InSpoilt_calls B (some l) _ hin).mono ?_
    rintro e w' ⟨rfl, rfl⟩
    go_wp2_with fail
    go_ret
    exact ⟨ret_bool (by cases l <;> rfl), rfl⟩

def IndexPost (xs : List Int) (n : Int) (w : World) (e : Ending) (w' : World) : Prop := ∃ q : Int, e = .returned (.int .i64 q) ∧ (0 ≤ q ↔ n ∈ xs) ∧ w = w'

theorem mem_take {xs : List Int} {n : Int} {k : Nat} {x : Int} (hx : xs[k]? = some x) (h : n ∉ xs.take k) (hne : x ≠ n) : n ∉ xs.take (k + 1) := by
  rw [take_snoc hx, List.mem_append]
  intro hh
  rcases hh with hh | hh
  · exact h hh
  · simp at hh; exact hne hh.symm

set_option maxHeartbeats 400000 in
theorem Index_calls (b off cap : Nat) (xs : List Int) (n : Int) (w : World) (hlen : xs.length ≤ 1000000) (hc : ∀ (i : Nat) (x : Int), xs[i]? = some x → w.cell? ⟨b, off + i, none⟩ = some (.int .i64 x)) :
    Calls Try.prog 113 #[.slice (some ⟨b, off, none⟩) xs.length cap, .int .i64 n] w (IndexPost xs n w) := by
  go_enter Try.func113, Try.ntmps113
  go_wp2_with fail
  go_loop [5, 8] (fun _ i => ∃ k : Nat, k ≤ xs.length ∧ i = .int .i64 (k : Int) ∧ n ∉ xs.take k) (fun _ i => xs.length - (intOf i).toNat)
  case atStart => exact ⟨0, by omega, rfl, by simp⟩
  case round =>
    obtain ⟨k, hk, rfl, hno⟩ := hrel
    have HN := Lib.hid hno
    clear hno
    by_cases hlt : k < xs.length
    · obtain ⟨x, hx⟩ := get_some hlt
      have hcx := hc k x hx
      have HX := Lib.hid hx
      clear hx hc
      by_cases hne : n = x
      · have hb : (n == x) = true := by simpa using hne
        clear hne
        go_wp2_with fail
        go_ret
        exact ⟨(k : Int), rfl, ⟨fun _ => by
          have : n = x := by simpa using hb
          rw [this]; exact List.mem_of_getElem? HX.out, fun _ => by omega⟩, rfl⟩
      · have hb : (n == x) = false := by simpa using hne
        have hne' := Lib.hid hne
        clear hne
        go_wp2_with fail
        go_round
        case rel => exact ⟨k + 1, by omega, by go_num, mem_take HX.out HN.out (fun h => hne'.out h.symm)⟩
        case measure => simp [intOf]; omega
    · clear hc
      go_wp2_with fail
      go_ret
      have hkl : k = xs.length := by omega
      have hno := HN.out
      rw [hkl, List.take_length] at hno
      exact ⟨-1, rfl, ⟨fun h => by omega, fun h => absurd h hno⟩, rfl⟩

set_option maxHeartbeats 400000 in
theorem Contains_calls (b off cap : Nat) (xs : List Int) (n : Int) (w : World) (hlen : xs.length ≤ 1000000) (hc : ∀ (i : Nat) (x : Int), xs[i]? = some x → w.cell? ⟨b, off + i, none⟩ = some (.int .i64 x)) :
    Calls Try.prog 95 #[.slice (some ⟨b, off, none⟩) xs.length cap, .int .i64 n] w fun e w' => e = .returned (.bool (decide (n ∈ xs))) ∧ w = w' := by
  have HC := Lib.hid (Index_calls b off cap xs n w hlen hc)
  clear hc
  go_enter Try.func95, Try.ntmps95
  go_wp2_with fail
  refine HC.out.mono ?_
  rintro e w' ⟨q, rfl, hq, rfl⟩
  have HQ := Lib.hid hq
  clear hq HC
  go_wp2_with fail
  go_ret
  refine ⟨ret_bool ?_, rfl⟩
  have := HQ.out
  by_cases h : n ∈ xs
  · rw [decide_eq_true h, decide_eq_true (this.2 h)]
  · rw [decide_eq_false h, decide_eq_false (fun hh => h (this.1 hh))]

theorem widthB_mem (n : Int) : decide (n ∈ [(1 : Int), 2, 4, 8]) = widthB n := by
  unfold widthB
  rw [Bool.eq_iff_iff]
  simp [or_assoc]

theorem wide_calls (n : Int) (w : World) :
    Calls Try.prog 69 #[.int .i64 n] w fun e w' => e = .returned (.bool (widthB n)) ∧ Ext w w' := by
  go_enter Try.func69, Try.ntmps69
  go_wp2_with fail
  refine (Contains_calls _ 0 4 [1, 2, 4, 8] n _ (by simp) ?hc).mono ?_
  case hc =>
    intro i x hx
    rw [cell_new_mark]
    match i, hx with
    | 0, hx => cases hx; rfl
    | 1, hx => cases hx; rfl
    | 2, hx => cases hx; rfl
    | 3, hx => cases hx; rfl
  rintro e w' ⟨rfl, rfl⟩
  rw [widthB_mem]
  go_wp2_with fail
  go_ret
  exact ⟨rfl, Ext.alloc _ _⟩
end Go.Proofs.Ytcdaelgnankmfaa.VOct
