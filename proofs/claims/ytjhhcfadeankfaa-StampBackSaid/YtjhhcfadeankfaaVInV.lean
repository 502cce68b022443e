/- octet's In, with its bytes in a row of bytes. -/
import Derived.Test.YtjhhcfadeankfaaVGet
namespace Go.Proofs.Ytjhhcfadeankfaa.VOct
open Go.RowKit Go.VBase Go.VOct Go.VSeq Go.VRg

/-- An In whose bytes lie in a row of bytes. -/
def InV (w : World) (T B : Nat) (st : Option (List UInt8)) : Prop :=
  InAt w T B st ∧ ∀ (v b : Value) (a : Addr) (len cap : Nat), w.heap[B]? = some (.cells #[v, b] T) → v = .slice (some a) len cap → ∃ cur mk, w.heap[a.block]? = some (.cells cur TB mk)
theorem InV.ext {w w' : World} {T B : Nat} {st : Option (List UInt8)} (h : InV w T B st) (x : Ext w w') : InV w' T B st :=
  ⟨h.1.ext x, fun v b a len cap hb hv => by
    have hlt := h.1.lt
    obtain ⟨cur, mk, hc⟩ := h.2 v b a len cap ((Below.block x B hlt).symm.trans hb) hv
    exact ⟨cur, mk, x.block hc⟩⟩
/-- It is spoilt. -/
theorem InV.off {w : World} {T B : Nat} (h : w.heap[B]? = some (.cells #[.slice none 0 0, .bool false] T)) : InV w T B none :=
  ⟨⟨_, h⟩, fun v b a len cap hb hv => by
    rw [h] at hb; cases hb; cases hv⟩
def NextPostV (w : World) (B : Nat) (x : List UInt8 × Option (List UInt8)) (e : Ending) (w' : World) : Prop :=
  ∃ u, e = .returned u ∧ Bys w' u x.1 ∧ (∀ a len cap, u = .slice (some a) len cap → a.block ≠ B) ∧ InV w' TIn B x.2 ∧ TouchO B none w w'
def TakePostV (w : World) (B : Nat) (x : List UInt8 × Option (List UInt8)) (e : Ending) (w' : World) : Prop :=
  ∃ u, e = .returned u ∧ OwnB w' w.heap.size TB u x.1 ∧ InV w' TIn B x.2 ∧ TouchO B none w w'
def GetPostV (w : World) (B : Nat) (x : List UInt8 × Option (List UInt8)) (e : Ending) (w' : World) : Prop :=
  e = .returned (.int .u64 (numB x.1 : Int)) ∧ InV w' TIn B x.2 ∧ TouchO B none w w'
def FromPostV (w : World) (l : List UInt8) (e : Ending) (w' : World) : Prop := ∃ B, e = .returned (.pointer (some ⟨B, 0, none⟩)) ∧ w.heap.size ≤ B ∧ InV w' TIn B (some l) ∧ Ext w w'

theorem next_closeV {w : World} {B : Nat} {l : List UInt8} {a : Option Addr} {cap k : Nat} (hb : w.heap[B]? = some (.cells #[.slice a l.length cap, .bool true] TIn)) (hv : Bys w (.slice a l.length cap) l)
    (hne : ∀ x len c, Value.slice a l.length cap = .slice (some x) len c → x.block ≠ B) (hrow : ∀ (x : Addr) (len c : Nat), Value.slice a l.length cap = .slice (some x) len c → ∃ cur mk, w.heap[x.block]? = some (.cells cur TB mk)) (hk : k ≤ l.length) (u X : Value) (hu : u = .slice a k cap)
    (hX : X = .slice (if cap = k then a else Option.map (fun x => x.add k) a) (l.length - k) (cap - k)) :
    NextPostV w B (inTake (some l) (k : Int)) (.returned u) (w.setCell ⟨B, 0, none⟩ X) := by
  subst hu hX
  have hc : Clear (.slice a k cap) B none := fun x len c h => by
    cases h
    exact ⟨hne x _ _ rfl, by simp⟩
  have hc2 : Clear (.slice (if cap = k then a else Option.map (fun x => x.add k) a) (l.length - k) (cap - k)) B none := fun x len c h => by
    simp only [Value.slice.injEq] at h
    obtain ⟨h1, _, _⟩ := h
    refine ⟨?_, by simp⟩
    split at h1
    · exact hne x _ _ (by rw [h1])
    · cases a with
      | none => cases h1
      | some y =>
        simp only [Option.map_some, Option.some.injEq] at h1
        have := hne y _ _ rfl
        rw [← h1]
        unfold Addr.add
        split <;> exact this
  have ht : TouchO B none w (w.setCell ⟨B, 0, none⟩ (.slice (if cap = k then a else Option.map (fun x => x.add k) a) (l.length - k) (cap - k))) := TouchO.of_setCell w 0 _
  have hst : inTake (some l) (k : Int) = (l.take k, some (l.drop k)) := by
    unfold inTake
    simp only
    rw [if_pos ⟨by omega, by omega⟩, Int.toNat_natCast]
  rw [hst]
  have hB : (w.setCell ⟨B, 0, none⟩ (.slice (if cap = k then a else Option.map (fun x => x.add k) a) (l.length - k) (cap - k))).heap[B]? = some (.cells #[.slice (if cap = k then a else Option.map (fun x => x.add k) a) (l.length - k) (cap - k), .bool true] TIn) := by
    rw [heap_setCell_same _ _ _ _ _ _ hb]; rfl
  refine ⟨_, rfl, Bys.touch ht (hv.take hk) hc, fun x len c h => (hc x len c h).1, ⟨⟨_, hB, Bys.touch ht (hv.drop hk) hc2, fun x len c h => (hc2 x len c h).1⟩, fun v b x len c hb2 hv2 => ?_⟩, ht⟩
  rw [hB] at hb2
  cases hb2
  have hx : x.block ≠ B := (hc2 x len c hv2).1
  obtain ⟨cur, mk, hcur⟩ : ∃ cur mk, w.heap[x.block]? = some (.cells cur TB mk) := by
    simp only [Value.slice.injEq] at hv2
    obtain ⟨h1, _, _⟩ := hv2
    split at h1
    · exact hrow x _ _ (by rw [h1])
    · cases a with
      | none => cases h1
      | some y =>
        simp only [Option.map_some, Option.some.injEq] at h1
        have := hrow y _ _ rfl
        rw [← h1]
        unfold Addr.add
        split <;> exact this
  exact ⟨cur, mk, (ht.block _ (Array.getElem?_eq_some_iff.1 hcur).1 hx (by simp)).trans hcur⟩

set_option maxHeartbeats 1000000 in
theorem next_callsV (B : Nat) (st : Option (List UInt8)) (n : Int) (w : World) (h : InV w TIn B st) (h0 : -9223372036854775808 ≤ n) (h1 : n ≤ 9223372036854775807) :
    Calls Try.prog 57 #[.pointer (some ⟨B, 0, none⟩), .int .i64 n] w (NextPostV w B (inTake st n)) := by
  have hin := h
  cases st with
  | none =>
    go_enter Try.func57, Try.ntmps57
    go_wp2_with fail
    refine (InSpoilt_calls B none _ hin.1).mono ?_
    rintro e w' ⟨rfl, rfl⟩
    go_wp2_with fail
    go_ret
    exact ⟨_, rfl, Bys.nil _, (fun _ _ _ h => by cases h), hin, TouchO.refl _ _ _⟩
  | some l =>
    obtain ⟨⟨v, hb, hv, hne⟩, hrw⟩ := h
    have hv' := hv
    obtain ⟨a, cap, rfl, hle, hcap, _⟩ := hv'
    have hc0 : w.cell? ⟨B, 0, none⟩ = some (.slice a l.length cap) := cell_of_row w B 0 _ _ _ hb
    have hc1 : w.cell? ⟨B, 1, none⟩ = some (.bool true) := cell_of_row w B 1 _ _ _ hb
    have hf0 : w.frozen? ⟨B, 0, none⟩ = false := frozen_of_row w B 0 _ _ hb
    have hf1 : w.frozen? ⟨B, 1, none⟩ = false := frozen_of_row w B 1 _ _ hb
    have hlt : B < w.heap.size := (Array.getElem?_eq_some_iff.1 hb).1
    have hrow : ∀ (x : Addr) (len c : Nat), Value.slice a l.length cap = .slice (some x) len c → ∃ cur mk, w.heap[x.block]? = some (.cells cur TB mk) := fun x len c h => hrw _ _ x len c hb h
    have HRW := Lib.hid hrow
    clear hrow hrw
    have HB := Lib.hid hb
    have hln := hv.len
    unfold maxLen at hln hcap
    clear hb
    by_cases hok : 0 ≤ n ∧ n ≤ l.length
    · obtain ⟨k, rfl⟩ := Int.eq_ofNat_of_zero_le hok.1
      have hk : k ≤ l.length := by omega
      have hkc : k ≤ cap := by omega
      have hkl : ((k : Nat) : Int) ≤ (l.length : Int) := by omega
      clear hok
      go_enter Try.func57, Try.ntmps57
      go_wp2_with fail
      refine (InSpoilt_calls B (some l) _ hin.1).mono ?_
      rintro e w' ⟨rfl, rfl⟩
      go_wp2_with fail
      · have hck : cap = k := by assumption
        go_ret
        exact next_closeV HB.out hv hne HRW.out hk _ _ (by rw [hck]; rfl) (by simp [hck])
      · have hck : ¬ cap = k := by assumption
        go_ret
        exact next_closeV HB.out hv hne HRW.out hk _ _ rfl (by simp [hck])
    · have hst : inTake (some l) n = ([], none) := if_neg hok
      rw [hst]
      by_cases hneg : n < 0
      · have hd : decide (n < 0) = true := by simpa using hneg
        clear hok hst
        go_enter Try.func57, Try.ntmps57
        go_wp2_with fail
        refine (InSpoilt_calls B (some l) _ hin.1).mono ?_
        rintro e w' ⟨rfl, rfl⟩
        go_wp2_with fail
        go_ret
        refine ⟨_, rfl, Bys.nil _, (fun _ _ _ h => by cases h), InV.off ?_, (TouchO.of_setCell w 0 _).same (TouchO.of_setCell _ 1 _)⟩
        rw [heap_setCell_same _ _ _ _ _ _ (heap_setCell_same _ _ _ _ _ _ HB.out)]; rfl
      · have hgt : (l.length : Int) < n := by omega
        have hpos : 0 ≤ n := by omega
        clear hok hst
        go_enter Try.func57, Try.ntmps57
        go_wp2_with fail
        refine (InSpoilt_calls B (some l) _ hin.1).mono ?_
        rintro e w' ⟨rfl, rfl⟩
        go_wp2_with fail
        go_ret
        refine ⟨_, rfl, Bys.nil _, (fun _ _ _ h => by cases h), InV.off ?_, (TouchO.of_setCell w 0 _).same (TouchO.of_setCell _ 1 _)⟩
        rw [heap_setCell_same _ _ _ _ _ _ (heap_setCell_same _ _ _ _ _ _ HB.out)]; rfl
set_option maxHeartbeats 400000 in
theorem Take_callsV (B : Nat) (st : Option (List UInt8)) (n : Int) (w : World) (h : InV w TIn B st) (h0 : -9223372036854775808 ≤ n) (h1 : n ≤ 9223372036854775807) (hl : (stAll st).length ≤ 140737488355328) :
    Calls Try.prog 60 #[.pointer (some ⟨B, 0, none⟩), .int .i64 n] w (TakePostV w B (inTake st n)) := by
  have hlen := inTake_len st n
  have HX := Lib.hid (next_callsV B st n w h h0 h1)
  obtain ⟨x, hx⟩ : ∃ x, inTake st n = x := ⟨_, rfl⟩
  rw [hx] at HX hlen ⊢
  clear hx h
  go_enter Try.func60, Try.ntmps60
  go_wp2_with fail
  refine HX.out.mono ?_
  rintro e w1 ⟨u, rfl, hb, _, hin, ht⟩
  have hb' := hb
  obtain ⟨a, cap, rfl, _⟩ := hb'
  clear HX
  go_wp2_with fail
  refine (Clone_calls _ x.1 _ hb (by omega)).mono ?_
  rintro e w2 ⟨u, rfl, ho, hx⟩
  obtain ⟨a', cap', rfl⟩ := ho.slice
  go_wp2_with fail
  go_ret
  exact ⟨_, rfl, ho.mono ht.size, hin.ext hx, ht.same (TouchO.of_ext hx)⟩


set_option maxHeartbeats 400000 in
theorem From_callsV (v : Value) (l : List UInt8) (w : World) (hv : Bys w v l) (hl : l.length ≤ 140737488355328) :
    Calls Try.prog 40 #[v] w (FromPostV w l) := by
  have hv' := hv
  obtain ⟨a, cap, rfl, _⟩ := hv'
  go_enter Try.func40, Try.ntmps40
  go_wp2_with fail
  refine (Clone_calls _ l _ hv hl).mono ?_
  rintro e w1 ⟨u, rfl, ho, hx⟩
  have hbys := ho.bys (by unfold maxLen; omega)
  have hhead := fun a len cap h => OwnB.head ho (a := a) (len := len) (cap := cap) h
  obtain ⟨a', cap', rfl⟩ := ho.slice
  have HO := Lib.hid ho
  have HH := Lib.hid hhead
  clear hhead
  go_wp2_with fail
  go_ret
  refine ⟨w1.heap.size, rfl, hx.size, ⟨⟨_, heap_alloc_new w1 _, hbys.alloc _, fun a len cap h => ?_⟩, fun v b a len cap hb hv => ?_⟩, hx.thenAlloc _⟩
  · have := HH.out a len cap h
    omega
  · have hn := heap_alloc_new w1 (.cells #[.slice a' l.length cap', .bool true] TIn)
    rw [hn] at hb
    cases hb
    cases hv
    rcases HO.out.2 with ⟨h1, _⟩ | ⟨gg, cc, cur, h1, _, hg, _⟩
    · cases h1
    · cases h1
      exact ⟨cur, _, (Ext.alloc w1 _).block hg⟩


attribute [local go_sem] Oper.semAt_some
set_option maxRecDepth 100000 in
set_option maxHeartbeats 1000000 in
theorem Get_callsV (B : Nat) (st : Option (List UInt8)) (width : Int) (w : World) (h : InV w TIn B st) (h0 : -9223372036854775808 ≤ width) (h1 : width ≤ 9223372036854775807) :
    Calls Try.prog 41 #[.pointer (some ⟨B, 0, none⟩), .int .i64 width] w (GetPostV w B (inTake st (getW width))) := by
  obtain ⟨x, hx0⟩ : ∃ x, inTake st (getW width) = x := ⟨_, rfl⟩
  rw [hx0]
  have hlen : ∀ v : Int, (widthB width = true ∧ v = width) ∨ v = -1 → (inTake st v).1 = [] ∨ (inTake st v).1.length = v.toNat := fun v hv => by
    unfold inTake
    cases st with
    | none => exact .inl rfl
    | some l =>
      simp only
      split
      · rename_i hc
        right
        rw [List.length_take]; omega
      · exact .inl rfl
  have hk8' : ∀ v : Int, (widthB width = true ∧ v = width) ∨ v = -1 → v.toNat ≤ 8 ∧ -1 ≤ v := fun v hv => by
    rcases hv with ⟨h1, rfl⟩ | rfl
    · unfold widthB at h1; simp at h1; omega
    · exact ⟨by decide, by decide⟩
  refine calls_of_marks Try.func41 rfl ?_
  simp only [Try.ntmps41, List.size_toArray, List.length_cons, List.length_nil, Nat.reduceAdd, Nat.reduceSub, Array.replicate_succ, Array.replicate_zero, List.push_toArray, List.append_toArray, List.nil_append, List.cons_append]
  go_wp2_with fail
  refine wp_scope_straight ?_
  go_wp2_with fail
  refine (wide_calls width _).mono ?_
  rintro e w1 ⟨rfl, hx⟩
  have h1' := h.ext hx
  have HW : (getW width = width ∧ widthB width = true) ∨ (getW width = -1 ∧ widthB width = false) := by
    unfold getW
    cases widthB width <;> simp
  rcases HW with ⟨e1, e2⟩ | ⟨e1, e2⟩
  focus
    rw [e1] at hx0
    have hl := hlen width (.inl ⟨e2, rfl⟩)
    obtain ⟨hk8, hkm⟩ := hk8' width (.inl ⟨e2, rfl⟩)
    obtain ⟨k, hkw⟩ : ∃ k, width.toNat = k := ⟨_, rfl⟩
    rw [e2]
    go_wp2_with fail
    refine (next_callsV B st width w1 h1' h0 h1).mono ?_
  rotate_left
  focus
    rw [e1] at hx0
    have hl := hlen (-1) (.inr rfl)
    obtain ⟨hk8, hkm⟩ := hk8' (-1) (.inr rfl)
    obtain ⟨k, hkw⟩ : ∃ k, Int.toNat (-1) = k := ⟨_, rfl⟩
    rw [e2]
    go_wp2_with fail
    refine (next_callsV B st (-1) w1 h1' (by decide) (by decide)).mono ?_
  rotate_left
  all_goals
    rw [hx0] at hl ⊢
    rintro e w2 ⟨u, rfl, hu, hcl, hin, ht⟩
    obtain ⟨l, st'⟩ := x
    have hu' := hu
    obtain ⟨a1, cap1, rfl, _⟩ := hu'
    rw [hkw] at hl hk8
    clear h1' h hlen hk8' e2 hx0 e1
    go_wp2_with fail
    refine wp_label ?_
    go_wp2_with fail
    refine (high_calls _ _).mono ?_
    rintro e w' ⟨rfl, rfl⟩
    go_wp2_with fail
  all_goals
    refine wp_rangeFunc1 (α := Fin 8) (p := 16) (q := 7) (enc := fun j => .int .i64 (8 * (j.val : Int))) (gf := 69) (lb := #[.pointer (some ⟨w2.heap.size + 1 + 1, 0, none⟩)]) rfl (fun args w => by go_simp) (high_stops _ (w2.heap.size + 1 + 1) k _ hk8 hkw hkm (heap_alloc_at _ _ (by simp)))
      (fun h1 h2 => h2.trans h1) (fun W n o o' hn ho hc hwk => ?_) (GetI w2 l) (GetX w2 l) (getI_own w2 l _ ?_) (getX_own w2 l _ ?_) ?_ (fun l x W K hK => ?_) (fun l1 pre x W hI hpre => ?_) (fun D xs W hD hS hI hk => ?_) (fun D c pre W hD hS hI hk => ?_)
    · show (W.putObj n o').heap[w2.heap.size + 1 + 1]? = _
      have : w2.heap.size + 1 + 1 ≠ n := by simp at hn; omega
      simp [World.putObj, this.symm]
    · simp; omega
    · simp; omega
    · refine ⟨by simp, ⟨_, (Ext.alloc _ _).block (heap_alloc2_old w2 _ _), by simpa using hu.ext (((Ext.alloc _ _).thenAlloc _).thenAlloc _), fun hne => ?_⟩, (Ext.alloc _ _).block (by rw [show accB l [] = 0 by simp [accB]]; exact heap_alloc2_new w2 _ _), ((Ext.alloc _ _).thenAlloc _).thenAlloc _⟩
      exact ⟨bys_clear hu (Nat.le_refl _) hne, bys_clear hu (Nat.le_succ _) hne⟩
    · simp only [List.setIfInBounds_toArray, List.set_cons_zero, List.set_cons_succ] at hK ⊢
      gi_wp2
      exact hK
    · simp only [List.setIfInBounds_toArray, List.set_cons_zero, List.set_cons_succ]
      have hx8 := x.isLt
      obtain ⟨xi, hxi⟩ : ∃ xi : Int, 8 * (x.val : Int) = xi := ⟨_, rfl⟩
      have hxi0 : 0 ≤ xi := by omega
      have hxi1 : xi ≤ 56 := by omega
      rw [hxi]
      clear hkw hkm
      obtain ⟨hsz, ⟨u, hu1, hu2, hu3⟩, hn, hex⟩ := hI
      cases hrest : l.drop pre.length with
      | nil =>
        rw [hrest] at hu2
        obtain ⟨a2, cap2, rfl, _⟩ := hu2
        have hc0 : W.cell? ⟨w2.heap.size, 0, none⟩ = some (.slice a2 0 cap2) := cell_of_row W _ 0 _ _ _ hu1
        have HU := Lib.hid (And.intro hu1 hn)
        clear hu1 hn
        gi_wp2
        have hl0 : l = [] := by
          have := List.drop_eq_nil_iff.1 hrest
          rcases hl with h | h
          · exact h
          · omega
        refine ⟨KeepsOthers.refl _, rfl, hl0, ?_, hex⟩
        have := HU.out.2
        rw [hl0, accB_nil] at this
        exact this
      | cons c rest =>
        rw [hrest] at hu2
        have hu2' := hu2
        obtain ⟨a2, cap2, rfl, hcap2, hcap3, hd3⟩ := hu2'
        obtain ⟨b2, off2, rfl, hd2⟩ := hd3 (List.cons_ne_nil _ _)
        have hc0 : W.cell? ⟨w2.heap.size, 0, none⟩ = some (.slice (some ⟨b2, off2, none⟩) (rest.length + 1) cap2) := cell_of_row W _ 0 _ _ _ hu1
        have hc1 : W.cell? ⟨w2.heap.size + 1, 0, none⟩ = some (.int .u64 (accB l pre : Int)) := cell_of_row W _ 0 _ _ _ hn
        have hd0 : W.cell? ⟨b2, off2, none⟩ = some (.int .u8 (c.toNat : Int)) := hd2 0 c rfl
        have HU := Lib.hid (And.intro hu1 hn)
        have HD := Lib.hid hd2
        clear hu1 hn hd2
        simp only [List.length_cons] at hcap2
        gi_wp2
        have e2 : ∀ W2, W.drew = W2 → W2.cell? ⟨w2.heap.size, 0, none⟩ = some (.slice (some ⟨b2, off2, none⟩) (rest.length + 1) cap2) := fun W2 h => by subst h; exact hc0
        have e3 : ∀ W2, W.drew = W2 → W2.cell? ⟨w2.heap.size + 1, 0, none⟩ = some (.int .u64 (accB l pre : Int)) := fun W2 h => by subst h; exact hc1
        have e4 : ∀ W2, W.drew = W2 → W2.cell? ⟨b2, off2, none⟩ = some (.int .u8 (c.toNat : Int)) := fun W2 h => by subst h; exact hd0
        obtain ⟨m, hm⟩ : ∃ m, accB l pre ||| c.toNat * 256 ^ x.val = m := ⟨_, rfl⟩
        obtain ⟨y, hy⟩ : ∃ y, c.toNat * 256 ^ x.val = y := ⟨_, rfl⟩
        have hy64 : y < 18446744073709551616 := by
          have h2 : 256 ^ x.val ≤ 256 ^ 7 := Nat.pow_le_pow_right (by decide) (by omega)
          have := c.toNat_lt
          rw [← hy]
          calc c.toNat * 256 ^ x.val ≤ 255 * 256 ^ 7 := Nat.mul_le_mul (by omega) h2
            _ < _ := by decide
        have hw1 : IntKind.u64.wrap (c.toNat : Int) = (c.toNat : Int) := by have := c.toNat_lt; rw [IntKind.wrap_u64]; omega
        have hw2 : IntKind.u64.wrap ((c.toNat : Int) * 2 ^ xi.toNat) = (y : Int) := by
          have e : ∀ j : Fin 8, (2 : Int) ^ (8 * (j.val : Int)).toNat = ((256 ^ j.val : Nat) : Int) := by decide
          rw [← hxi, e x, ← Int.natCast_mul, hy, IntKind.wrap_u64]
          omega
        have hw3 : bits BinOp.or IntKind.u64 (accB l pre : Int) (y : Int) = (m : Int) := by
          rw [bits_or_u64_nat _ _ (accB_lt l pre) hy64, ← hm, hy]
        have HM := Lib.hid (And.intro hm hy)
        clear hm hy
        refine wpIn_region_rg2_tail _ l1 7 8 Eq Eq [] (by kernel_rfl) (by kernel_rfl) (by kernel_rfl) (by kernel_rfl) (by kernel_rfl) (fun _ _ h => h) (fun _ => rfl) (fun _ _ _ => Eq.trans) (fun _ => rfl) (fun _ _ _ => Eq.trans) (fun _ _ h => h) ?_
        intro σ
        simp only [List.take_succ_cons, List.take_zero, List.drop_succ_cons, List.drop_zero]
        repeat (refine rg_pure (x := ?_) rfl (by rfl) (fun W2 hW => ?_) ?_; rotate_left; (· have f0 := e2 W2 hW; have f1 := e3 W2 hW; have f2 := e4 W2 hW; go_simp; with_reducible rfl); simp only [Nat.reduceAdd, Act.put, List.setIfInBounds_toArray, List.set_cons_zero, List.set_cons_succ])
        refine rg_done fun W2 hW _ => ?_
        subst hW
        have hf2 : W.drew.frozen? ⟨w2.heap.size + 1, 0, none⟩ = false := frozen_of_row W.drew _ 0 _ _ HU.out.2
        show wpList _ _ _ _ _ _
        go_wp2_with fail
        simp only [onlyN]
        obtain ⟨W3, hW3⟩ : ∃ W3, (W.setCell ⟨w2.heap.size + 1, 0, none⟩ (.int .u64 (m : Int))).drew = W3 := ⟨_, rfl⟩
        rw [hW3]
        have t1 : TouchO (w2.heap.size + 1) none W W3 := by
          rw [← hW3]; exact (TouchO.of_setCell W 0 _).same (TouchO.of_ext (Ext.drew _))
        have k1 : KeepsOthers W W3 := by rw [← hW3]; exact (KeepsOthers.setCell W _ _).trans (KeepsOthers.drew _)
        have hn3 : W3.heap[w2.heap.size + 1]? = some (.cells #[.int .u64 (m : Int)] 64) := by
          rw [← hW3]
          show (W.setCell _ _).heap[_]? = _
          rw [heap_setCell_same _ _ _ _ _ _ HU.out.2]; rfl
        have hu3' : W3.heap[w2.heap.size]? = some (.cells #[.slice (some ⟨b2, off2, none⟩) (rest.length + 1) cap2] 22) := (t1.block _ (by omega) (by omega) (by simp)).trans HU.out.1
        have hc3 : W3.cell? ⟨w2.heap.size, 0, none⟩ = some (.slice (some ⟨b2, off2, none⟩) (rest.length + 1) cap2) := cell_of_row W3 _ 0 _ _ _ hu3'
        have hf3 : W3.frozen? ⟨w2.heap.size, 0, none⟩ = false := frozen_of_row W3 _ 0 _ _ hu3'
        have H3 := Lib.hid (And.intro hn3 hu3')
        have hrc := hu3 (by rw [hrest]; exact List.cons_ne_nil _ _)
        have HC := Lib.hid (show ∀ off len cap, Clear (.slice (some ⟨b2, off, none⟩) len cap) w2.heap.size none ∧ Clear (.slice (some ⟨b2, off, none⟩) len cap) (w2.heap.size + 1) none from fun off len cap =>
          ⟨fun a len' cap' e => by cases e; exact hrc.1 ⟨b2, off2, none⟩ _ _ rfl, fun a len' cap' e => by cases e; exact hrc.2 ⟨b2, off2, none⟩ _ _ rfl⟩)
        clear hW3 hn3 hu3' hc0 hc1 hd0 e2 e3 e4 hw1 hw2 hw3 hf2 hd3
        gi_wp2
        · refine get_close hsz hex hrest HM.out.1 t1 k1 H3.out.1 H3.out.2 ⟨_, _, rfl, by omega, by omega, fun hl => ?_⟩ (fun _ => HC.out _ _ _)
          exfalso; apply hl; apply List.eq_nil_of_length_eq_zero; omega
        · refine get_close hsz hex hrest HM.out.1 t1 k1 H3.out.1 H3.out.2 ⟨_, _, rfl, by omega, by omega, fun hl => ⟨b2, off2 + 1, rfl, fun i z hi => ?_⟩⟩ (fun _ => HC.out _ _ _)
          have := HD.out (i + 1) z hi
          rw [show off2 + 1 + i = off2 + (i + 1) by omega]
          exact this
    · subst hS
      have hnum : accB l (shifts k) = numB l := by
        rcases hl with rfl | h
        · rw [accB_nil]; rfl
        · exact accB_full l k hk8 h
      have hc1 : W.cell? ⟨w2.heap.size + 1, 0, none⟩ = some (.int .u64 (numB l : Int)) := by rw [← hnum]; exact cell_of_row W _ 0 _ _ _ hI.num
      have HI := Lib.hid hI
      clear hI hkw hkm
      go_wp2_with fail
      refine leave1 rfl hk (results_tmp rfl _ _ _) ?_
      have hD' : w2.heap.size ≤ D := by simp at hD; omega
      have hp := getI_own w2 l w2.heap.size (Nat.le_refl _) (shifts k) W (W.putObj D (.deferred none)) (some D) HI.out (grownBy_putObj' W D _) (fun g hg => by cases hg; exact ⟨hD', _, hk, rfl⟩)
      exact ⟨rfl, hin.ext hp.ext, ((TouchO.of_ext hx).same ht).same (TouchO.of_ext hp.ext)⟩
    · obtain ⟨rfl, rfl, hn, hex⟩ := hI
      have hc1 : W.cell? ⟨w2.heap.size + 1, 0, none⟩ = some (.int .u64 0) := cell_of_row W _ 0 _ _ _ hn
      have HI := Lib.hid hn
      clear hn hkw hkm
      go_wp2_with fail
      refine leave1 rfl hk (results_tmp rfl _ _ _) ?_
      have hD' : w2.heap.size ≤ D := by simp at hD; omega
      have hp := getX_own w2 [] w2.heap.size (Nat.le_refl _) (.exit 0) [] W (W.putObj D (.deferred none)) (some D) ⟨rfl, rfl, HI.out, hex⟩ (grownBy_putObj' W D _) (fun g hg => by cases hg; exact ⟨hD', _, hk, rfl⟩)
      exact ⟨rfl, hin.ext hp.2.2.2, ((TouchO.of_ext hx).same ht).same (TouchO.of_ext hp.2.2.2)⟩

end Go.Proofs.Ytjhhcfadeankfaa.VOct
