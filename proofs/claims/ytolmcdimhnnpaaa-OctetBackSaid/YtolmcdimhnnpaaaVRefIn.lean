/- The reference's In: Take and Get. -/
import Derived.Test.YtolmcdimhnnpaaaVLen
import Derived.Test.YtolmcdimhnnpaaaVRefPut
import Derived.Test.YtolmcdimhnnpaaaVRef01
namespace Go.Proofs.Ytolmcdimhnnpaaa.VOct
open Go.RowKit Go.VBase Go.VOct Go.VRg VRefOct

abbrev TRI : TypeId := 50
/-- Block B is the reference's In: spoilt (none), or with these bytes left, which lie in block K. -/
def RInAt (w : World) (B : Nat) (K : Option Nat) : Option (List UInt8) → Prop
  | none => w.heap[B]? = some (.cells #[.slice none 0 0, .bool true] TRI)
  | some l => ∃ v, w.heap[B]? = some (.cells #[v, .bool false] TRI) ∧ Bys w v l ∧ (∀ a len cap, v = .slice (some a) len cap → some a.block = K) ∧ K ≠ some B
def RTakePost (w : World) (B : Nat) (K : Option Nat) (x : List UInt8 × Option (List UInt8)) (e : Ending) (w' : World) : Prop :=
  ∃ u, e = .returned u ∧ OwnB w' w.heap.size TB u x.1 ∧ RInAt w' B K x.2 ∧ TouchO B none w w'
theorem RInAt.ext {w w' : World} {B : Nat} {K : Option Nat} {st : Option (List UInt8)} (h : RInAt w B K st) (x : Ext w w') : RInAt w' B K st := by
  cases st with
  | none => exact x.block h
  | some l => obtain ⟨v, h1, h2, h3⟩ := h; exact ⟨v, x.block h1, h2.ext x, h3⟩
theorem RInAt.lt {w : World} {B : Nat} {K : Option Nat} {st : Option (List UInt8)} (h : RInAt w B K st) : B < w.heap.size := by
  cases st with
  | none => exact (Array.getElem?_eq_some_iff.1 h).1
  | some l => obtain ⟨v, h1, _⟩ := h; exact (Array.getElem?_eq_some_iff.1 h1).1
theorem RInAt.touch {w w' : World} {B B' : Nat} {K : Option Nat} {st : Option (List UInt8)} (t : TouchO B' none w w') (h : RInAt w B K st) (hB : B ≠ B') (hK : K ≠ some B') : RInAt w' B K st := by
  cases st with
  | none => exact (t.block B (Array.getElem?_eq_some_iff.1 h).1 hB (by simp)).trans h
  | some l =>
    obtain ⟨v, h1, h2, h3, h4⟩ := h
    refine ⟨v, (t.block B (Array.getElem?_eq_some_iff.1 h1).1 hB (by simp)).trans h1, Bys.touch t h2 (fun a len cap e => ⟨fun e2 => hK ?_, by simp⟩), h3, h4⟩
    rw [← e2]; exact (h3 a len cap e).symm
theorem rIn_cells {w : World} {B : Nat} {K : Option Nat} {st : Option (List UInt8)} (h : RInAt w B K st) :
    ∃ a cap, w.cell? ⟨B, 0, none⟩ = some (.slice a (stAll st).length cap) ∧ w.cell? ⟨B, 1, none⟩ = some (.bool st.isNone) := by
  cases st with
  | none => exact ⟨none, 0, cell_of_row w B 0 _ _ _ h, cell_of_row w B 1 _ _ _ h⟩
  | some l =>
    obtain ⟨v, h1, ⟨a, cap, rfl, _⟩, _⟩ := h
    exact ⟨a, cap, cell_of_row w B 0 _ _ _ h1, cell_of_row w B 1 _ _ _ h1⟩

theorem rtake_bad {w : World} {B : Nat} {K : Option Nat} {v : Value} {b : Bool} (hb : w.heap[B]? = some (.cells #[v, .bool b] TRI)) :
    RTakePost w B K ([], none) (.returned (.slice none 0 0)) ((w.setCell ⟨B, 0, none⟩ (.slice none 0 0)).setCell ⟨B, 1, none⟩ (.bool true)) := by
  refine ⟨_, rfl, OwnB.nil _ _ _, ?_, (TouchO.of_setCell w 0 _).same (TouchO.of_setCell _ 1 _)⟩
  show _ = _
  rw [heap_setCell_same _ _ _ _ _ _ (heap_setCell_same _ _ _ _ _ _ hb)]; rfl
theorem rtake_ok {w w1 : World} {B : Nat} {K : Option Nat} {l : List UInt8} {a : Option Addr} {cap k : Nat} {u X : Value} (hx : Ext w w1) (hB : B < w.heap.size) (hb : w1.heap[B]? = some (.cells #[.slice a l.length cap, .bool false] TRI)) (hv : Bys w1 (.slice a l.length cap) l)
    (hK : ∀ x len c, Value.slice a l.length cap = .slice (some x) len c → some x.block = K) (hKB : K ≠ some B) (hk : k ≤ l.length) (hu : OwnB w1 w.heap.size TB u (l.take k))
    (hX : X = .slice (if cap = k then a else Option.map (fun x => x.add k) a) (l.length - k) (cap - k)) :
    RTakePost w B K (inTake (some l) (k : Int)) (.returned u) (w1.setCell ⟨B, 0, none⟩ X) := by
  subst hX
  have ht : TouchO B none w1 (w1.setCell ⟨B, 0, none⟩ (.slice (if cap = k then a else Option.map (fun x => x.add k) a) (l.length - k) (cap - k))) := TouchO.of_setCell w1 0 _
  have hst : inTake (some l) (k : Int) = (l.take k, some (l.drop k)) := by
    unfold inTake
    simp only
    rw [if_pos ⟨by omega, by omega⟩, Int.toNat_natCast]
  rw [hst]
  have hK2 : ∀ x len c, Value.slice (if cap = k then a else Option.map (fun x => x.add k) a) (l.length - k) (cap - k) = .slice (some x) len c → some x.block = K := fun x len c h => by
    simp only [Value.slice.injEq] at h
    obtain ⟨h1, _, _⟩ := h
    split at h1
    · exact hK x _ _ (by rw [h1])
    · cases a with
      | none => cases h1
      | some y =>
        simp only [Option.map_some, Option.some.injEq] at h1
        have := hK y _ _ rfl
        rw [← h1]
        unfold Addr.add
        split <;> exact this
  refine ⟨_, rfl, own_touch ht hu (fun e => ?_) (by cases u.ownBlock <;> simp), ⟨_, ?_, Bys.touch ht (hv.drop hk) (fun x len c h => ⟨fun e => hKB ?_, by simp⟩), hK2, hKB⟩, (TouchO.of_ext hx).same ht⟩
  · have := hu.lt _ e; omega
  · rw [heap_setCell_same _ _ _ _ _ _ hb]; rfl
  · rw [← e]; exact (hK2 x len c h).symm

set_option maxHeartbeats 1000000 in
theorem refTake_calls (B : Nat) (K : Option Nat) (st : Option (List UInt8)) (n : Int) (w : World) (h : RInAt w B K st) (h0 : -9223372036854775808 ≤ n) (h1 : n ≤ 9223372036854775807) (hl : (stAll st).length ≤ 140737488355328) :
    Calls Try.prog 24 #[.pointer (some ⟨B, 0, none⟩), .int .i64 n] w (RTakePost w B K (inTake st n)) := by
  have hlt := h.lt
  cases st with
  | none =>
    have hc0 : w.cell? ⟨B, 0, none⟩ = some (.slice none 0 0) := cell_of_row w B 0 _ _ _ h
    have hc1 : w.cell? ⟨B, 1, none⟩ = some (.bool true) := cell_of_row w B 1 _ _ _ h
    have hf0 : w.frozen? ⟨B, 0, none⟩ = false := frozen_of_row w B 0 _ _ h
    have hf1 : w.frozen? ⟨B, 1, none⟩ = false := frozen_of_row w B 1 _ _ h
    have HP := Lib.hid (rtake_bad (K := K) h)
    rw [show inTake none n = ([], none) from rfl]
    clear h
    go_enter Try.func24, Try.ntmps24
    go_wp2_with fail
    go_ret
    exact HP.out
  | some l =>
    obtain ⟨v, hb, hv, hK, hKB⟩ := h
    have hv' := hv
    obtain ⟨a, cap, rfl, hle, hcap, _⟩ := hv'
    have hc0 : w.cell? ⟨B, 0, none⟩ = some (.slice a l.length cap) := cell_of_row w B 0 _ _ _ hb
    have hc1 : w.cell? ⟨B, 1, none⟩ = some (.bool false) := cell_of_row w B 1 _ _ _ hb
    have hf0 : w.frozen? ⟨B, 0, none⟩ = false := frozen_of_row w B 0 _ _ hb
    have hf1 : w.frozen? ⟨B, 1, none⟩ = false := frozen_of_row w B 1 _ _ hb
    have HB := Lib.hid hb
    have HP := Lib.hid (rtake_bad (K := K) hb)
    have HK := Lib.hid hK
    have HKB := Lib.hid hKB
    have hln := hv.len
    unfold maxLen at hln hcap
    clear hb hK hKB
    by_cases hok : 0 ≤ n ∧ n ≤ l.length
    · obtain ⟨k, rfl⟩ := Int.eq_ofNat_of_zero_le hok.1
      have hk : k ≤ l.length := by omega
      have hkc : k ≤ cap := by omega
      have hkl : ((k : Nat) : Int) ≤ (l.length : Int) := by omega
      have hbt := hv.take hk
      clear hok HP
      go_enter Try.func24, Try.ntmps24
      go_wp2_with fail
      refine (VRef01.Twin_calls _ (l.take k) w hbt (by rw [List.length_take]; simp [stAll] at hl; omega)).mono ?_
      rintro e w1 ⟨u, rfl, hu, hx⟩
      have HB1 := Lib.hid (hx.block HB.out)
      have hc0' := hx.cell hc0
      have hc1' := hx.cell hc1
      have hf0' : w1.frozen? ⟨B, 0, none⟩ = false := frozen_of_row w1 B 0 _ _ HB1.out
      have hv1 := hv.ext hx
      have hlt1 : B < w1.heap.size := Nat.lt_of_lt_of_le hlt hx.size
      clear hc0 hc1 hf0 hf1 hv hbt HB
      obtain ⟨ua, ucap, hue⟩ := hu.slice
      rw [List.length_take, Nat.min_eq_left hk] at hue
      subst hue
      have HU := Lib.hid hu
      clear hu
      go_wp2_with fail
      · have hck : cap = k := by assumption
        go_ret
        exact rtake_ok hx hlt HB1.out hv1 HK.out HKB.out hk HU.out (by simp [hck])
      · have hck : ¬ cap = k := by assumption
        go_ret
        exact rtake_ok hx hlt HB1.out hv1 HK.out HKB.out hk HU.out (by simp [hck])
    · have hst : inTake (some l) n = ([], none) := if_neg hok
      rw [hst]
      by_cases hneg : n < 0
      · have hd : decide (n < 0) = true := by simpa using hneg
        clear hok hst
        go_enter Try.func24, Try.ntmps24
        go_wp2_with fail
        go_ret
        exact HP.out
      · have hgt : (l.length : Int) < n := by omega
        have hd : decide (n < 0) = false := by simpa using hneg
        clear hok hst
        go_enter Try.func24, Try.ntmps24
        go_wp2_with fail
        go_ret
        exact HP.out

def RGetPost (w : World) (B : Nat) (K : Option Nat) (x : List UInt8 × Option (List UInt8)) (e : Ending) (w' : World) : Prop :=
  e = .returned (.int .u64 (numB x.1 : Int)) ∧ RInAt w' B K x.2 ∧ TouchO B none w w'
theorem inTake_get (st : Option (List UInt8)) (width : Int) : (inTake st (getW width)).1.length ≤ 8 := by
  cases st with
  | none => exact Nat.zero_le _
  | some l =>
    show (if 0 ≤ getW width ∧ getW width ≤ l.length then (l.take (getW width).toNat, some (l.drop (getW width).toNat)) else ([], none)).1.length ≤ 8
    split
    · have : getW width ≤ 8 := by
        unfold getW widthB
        split
        · rename_i h; simp at h; omega
        · omega
      show (l.take _).length ≤ 8
      rw [List.length_take]; omega
    · exact Nat.zero_le _
set_option maxHeartbeats 1000000 in
theorem refGet_calls (B : Nat) (K : Option Nat) (st : Option (List UInt8)) (width : Int) (w : World) (h : RInAt w B K st) (h0 : -9223372036854775808 ≤ width) (h1 : width ≤ 9223372036854775807) (hl : (stAll st).length ≤ 140737488355328) :
    Calls Try.prog 22 #[.pointer (some ⟨B, 0, none⟩), .int .i64 width] w (RGetPost w B K (inTake st (getW width))) := by
  have hW := fun w => refWidth_calls width w
  have h8 := inTake_get st width
  have HT := Lib.hid (fun w (h : RInAt w B K st) => refTake_calls B K st (getW width) w h (by unfold getW; split <;> omega) (by unfold getW; split <;> omega) hl)
  cases hw : widthB width with
  | true =>
    have hg : getW width = width := by unfold getW; rw [hw]; rfl
    rw [hw] at hW
    rw [hg] at HT h8 ⊢
    clear hw hg
    generalize inTake st width = x at *
    go_enter Try.func22, Try.ntmps22
    go_wp2_with fail
    refine (hW _).mono ?_
    rintro e w' ⟨rfl, rfl⟩
    go_wp2_with fail
    refine (HT.out _ h).mono ?_
    rintro e w1 ⟨u, rfl, hu, hr, ht⟩
    have hub := hu.bys (by unfold maxLen; omega)
    obtain ⟨ua, ucap, rfl⟩ := hu.slice
    clear hu HT hW
    go_wp2_with fail
    refine (refNumber_calls _ x.1 w1 hub h8).mono ?_
    rintro e w' ⟨rfl, rfl⟩
    go_wp2_with fail
    go_ret
    exact ⟨rfl, hr, ht⟩
  | false =>
    have hg : getW width = -1 := by unfold getW; rw [hw]; rfl
    rw [hw] at hW
    rw [hg] at HT h8 ⊢
    clear hw hg
    generalize inTake st (-1) = x at *
    go_enter Try.func22, Try.ntmps22
    go_wp2_with fail
    refine (hW _).mono ?_
    rintro e w' ⟨rfl, rfl⟩
    go_wp2_with fail
    refine (HT.out _ h).mono ?_
    rintro e w1 ⟨u, rfl, hu, hr, ht⟩
    have hub := hu.bys (by unfold maxLen; omega)
    obtain ⟨ua, ucap, rfl⟩ := hu.slice
    clear hu HT hW
    go_wp2_with fail
    refine (refNumber_calls _ x.1 w1 hub h8).mono ?_
    rintro e w' ⟨rfl, rfl⟩
    go_wp2_with fail
    go_ret
    exact ⟨rfl, hr, ht⟩
end Go.Proofs.Ytolmcdimhnnpaaa.VOct
