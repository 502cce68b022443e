/- cstate.Decode. -/
import Derived.Test.YtcdaelgnankmfaaVEnc
import Derived.Test.YtcdaelgnankmfaaVGet
namespace Go.Proofs.Ytcdaelgnankmfaa.VCst
open Go.RowKit Go.VBase Go.VOct Go.VRg VOct

/-- What Decode reads: four numbers, and what is left. -/
def rd (st : Option (List UInt8)) (k : Nat) : Nat := numB (inTake st k).1
def dec1 (l : List UInt8) : Nat × Option (List UInt8) := (rd (some l) 4, (inTake (some l) 4).2)
/-- The C-state of bytes. -/
def decC (l : List UInt8) : Option (Int × Int × Int × Nat) :=
  if l.length = 8 ∧ chkB (numB (l.take 4)) (numB ((l.drop 4).take 1)) (numB ((l.drop 5).take 1)) = true then some (numB (l.take 4), numB ((l.drop 4).take 1), numB ((l.drop 5).take 1), numB (l.drop 6)) else none
def DecPost (x : Option (Int × Int × Int × Nat)) (w : World) (e : Ending) (w' : World) : Prop :=
  e = .returned (.tuple #[match x with | none => cst 0 0 0 0 | some (r, s, m, g) => cst r s m (g : Int), .int .i64 (if x.isSome then 0 else 40)]) ∧ Ext w w'

theorem rd_lt (st : Option (List UInt8)) (k : Nat) : rd st k < 256 ^ k := by
  unfold rd
  refine Nat.lt_of_lt_of_le (numB_lt _) (Nat.pow_le_pow_right (by decide) ?_)
  unfold inTake
  cases st with
  | none => simp
  | some l =>
    simp only
    split
    · rw [List.length_take]; omega
    · simp

set_option maxRecDepth 100000 in
set_option maxHeartbeats 1000000 in
theorem Dec1_calls (B b4 : Nat) (st : Option (List UInt8)) (k : Nat) (hk : k = 1 ∨ k = 2 ∨ k = 4) (w : World) (h : InAt w TIn B st) (hb : w.cell? ⟨b4, 0, none⟩ = some (.pointer (some ⟨B, 0, none⟩))) :
    Calls Try.prog 100 #[.int .i64 (k : Int), .pointer (some ⟨b4, 0, none⟩)] w fun e w' => e = .returned (.int .i64 (rd st k : Int)) ∧ InAt w' TIn B (inTake st k).2 ∧ TouchO B none w w' := by
  have hG := Get_calls B st (k : Int) w h (by omega) (by omega)
  have hw : getW (k : Int) = (k : Int) := by rcases hk with rfl | rfl | rfl <;> rfl
  rw [hw] at hG
  unfold GetPost at hG
  have hlt : rd st k < 256 ^ 4 := Nat.lt_of_lt_of_le (rd_lt st k) (Nat.pow_le_pow_right (by decide) (by omega))
  rw [show numB (inTake st (k : Int)).1 = rd st k from rfl] at hG
  generalize rd st k = n at *
  have c1 : IntKind.i64.wrap (n : Int) = (n : Int) := by rw [IntKind.wrap_i64]; have : n < 4294967296 := by simpa using hlt
                                                         omega
  have HG := Lib.hid hG
  clear hG hlt hw hk
  go_enter Try.func100, Try.ntmps100
  go_wp2_with fail
  refine HG.out.mono ?_
  rintro e w' ⟨rfl, h1, h2⟩
  go_wp2_with fail
  go_ret
  exact ⟨rfl, h1, h2⟩

theorem take_some {l : List UInt8} {k : Nat} (h : k ≤ l.length) : inTake (some l) (k : Int) = (l.take k, some (l.drop k)) := by
  unfold inTake
  simp only
  rw [if_pos ⟨by omega, by omega⟩]
  simp
theorem take_bad {l : List UInt8} {k : Nat} (h : l.length < k) : inTake (some l) (k : Int) = ([], none) := by
  unfold inTake
  simp only
  rw [if_neg (by omega)]
/-- All four: done just if there are eight. -/
theorem dec_sts (l : List UInt8) : ∃ s1 s2 s3 s4, (inTake (some l) ((4 : Nat) : Int)).2 = s1 ∧ (inTake s1 ((1 : Nat) : Int)).2 = s2 ∧ (inTake s2 ((1 : Nat) : Int)).2 = s3 ∧ (inTake s3 ((2 : Nat) : Int)).2 = s4 ∧
    ((l.length = 8 ∧ s4 = some [] ∧ rd (some l) 4 = numB (l.take 4) ∧ rd s1 1 = numB ((l.drop 4).take 1) ∧ rd s2 1 = numB ((l.drop 5).take 1) ∧ rd s3 2 = numB (l.drop 6)) ∨ (l.length ≠ 8 ∧ (s4 == some []) = false)) := by
  refine ⟨_, _, _, _, rfl, rfl, rfl, rfl, ?_⟩
  by_cases h : l.length < 4
  · right; refine ⟨by omega, ?_⟩; rw [take_bad h]; rfl
  rw [take_some (by omega)]
  by_cases h1 : l.length < 5
  · right; refine ⟨by omega, ?_⟩; rw [take_bad (l := l.drop 4) (by rw [List.length_drop]; omega)]; rfl
  rw [take_some (l := l.drop 4) (by rw [List.length_drop]; omega), List.drop_drop]
  by_cases h2 : l.length < 6
  · right; refine ⟨by omega, ?_⟩; rw [take_bad (l := l.drop (4 + 1)) (by rw [List.length_drop]; omega)]; rfl
  rw [take_some (l := l.drop (4 + 1)) (by rw [List.length_drop]; omega), List.drop_drop]
  by_cases h3 : l.length < 8
  · right; refine ⟨by omega, ?_⟩; rw [take_bad (l := l.drop (4 + 1 + 1)) (by rw [List.length_drop]; omega)]; rfl
  rw [take_some (l := l.drop (4 + 1 + 1)) (by rw [List.length_drop]; omega), List.drop_drop]
  by_cases h4 : l.length = 8
  · left
    refine ⟨h4, by show some (l.drop (4 + 1 + 1 + 2)) = some []; rw [List.drop_eq_nil_of_le (by omega)], ?_, ?_, ?_, ?_⟩
    · unfold rd; rw [show inTake (some l) ((4 : Nat) : Int) = (l.take 4, some (l.drop 4)) from take_some (by omega)]
    · unfold rd; simp only; rw [take_some (l := l.drop 4) (by rw [List.length_drop]; omega)]
    · unfold rd; simp only; rw [take_some (l := l.drop (4 + 1)) (by rw [List.length_drop]; omega)]
    · unfold rd; simp only; rw [take_some (l := l.drop (4 + 1 + 1)) (by rw [List.length_drop]; omega)]
      rw [List.take_of_length_le (by rw [List.length_drop]; omega)]
  · right
    refine ⟨h4, ?_⟩
    have : l.drop (4 + 1 + 1 + 2) ≠ [] := by
      intro e
      have := congrArg List.length e
      rw [List.length_drop] at this
      simp at this; omega
    cases hc : l.drop (4 + 1 + 1 + 2) with
    | nil => exact absurd hc this
    | cons a t => rfl

/-- An In, as far as its length goes. -/
def InLen (w : World) (B : Nat) : Option (List UInt8) → Prop
  | none => ∃ v, w.heap[B]? = some (.cells #[v, .bool false] TIn)
  | some l => ∃ a cap, w.heap[B]? = some (.cells #[.slice a l.length cap, .bool true] TIn)
theorem InLen.of {w : World} {B : Nat} {st : Option (List UInt8)} (h : InAt w TIn B st) : InLen w B st := by
  cases st with
  | none => exact h
  | some l =>
    obtain ⟨v, h1, ⟨a, cap, rfl, _⟩, _⟩ := h
    exact ⟨a, cap, h1⟩
theorem InLen.other {w w' : World} {B : Nat} {st : Option (List UInt8)} (h : InLen w B st) (he : w'.heap[B]? = w.heap[B]?) : InLen w' B st := by
  cases st with
  | none => obtain ⟨v, h1⟩ := h; exact ⟨v, he.trans h1⟩
  | some l => obtain ⟨a, cap, h1⟩ := h; exact ⟨a, cap, he.trans h1⟩
set_option maxHeartbeats 400000 in
theorem SpoiltL_calls (B : Nat) (st : Option (List UInt8)) (w : World) (h : InLen w B st) :
    Calls Try.prog 101 #[.pointer (some ⟨B, 0, none⟩)] w fun e w' => e = .returned (.bool st.isNone) ∧ w = w' := by
  cases st with
  | none =>
    obtain ⟨v, hb⟩ := h
    have hc1 : w.cell? ⟨B, 1, none⟩ = some (.bool false) := cell_of_row w B 1 _ _ _ hb
    clear hb
    go_enter Try.func101, Try.ntmps101
    go_wp2_with fail
    go_ret
    exact ⟨rfl, rfl⟩
  | some l =>
    obtain ⟨a, cap, hb⟩ := h
    have hc1 : w.cell? ⟨B, 1, none⟩ = some (.bool true) := cell_of_row w B 1 _ _ _ hb
    clear hb
    go_enter Try.func101, Try.ntmps101
    go_wp2_with fail
    go_ret
    exact ⟨rfl, rfl⟩
set_option maxHeartbeats 400000 in
theorem DoneL_calls (B : Nat) (st : Option (List UInt8)) (w : World) (h : InLen w B st) :
    Calls Try.prog 81 #[.pointer (some ⟨B, 0, none⟩)] w fun e w' => e = .returned (.bool (st == some [])) ∧ w = w' := by
  have hin := h
  cases st with
  | none =>
    go_enter Try.func81, Try.ntmps81
    go_wp2_with fail
    refine (SpoiltL_calls B none _ hin).mono ?_
    rintro e w' ⟨rfl, rfl⟩
    go_wp2_with fail
    go_ret
    exact ⟨rfl, rfl⟩
  | some l =>
    obtain ⟨a, cap, hb⟩ := h
    have hc0 : w.cell? ⟨B, 0, none⟩ = some (.slice a l.length cap) := cell_of_row w B 0 _ _ _ hb
    clear hb
    go_enter Try.func81, Try.ntmps81
    go_wp2_with fail
    refine (SpoiltL_calls B (some l) _ hin).mono ?_
    rintro e w' ⟨rfl, rfl⟩
    go_wp2_with fail
    go_ret
    exact ⟨ret_bool (by cases l <;> rfl), rfl⟩

/-- An In, a box with its address, and the box of the answer. -/
structure DecI (w W : World) (b4 B : Nat) (row : Obj) (st : Option (List UInt8)) : Prop where
  inn : InAt W TIn B st
  box : W.cell? ⟨b4, 0, none⟩ = some (.pointer (some ⟨B, 0, none⟩))
  res : W.heap[w.heap.size]? = some row
  ext : Ext w W
  lt : w.heap.size < B
  ne : b4 ≠ B
theorem DecI.step {w W W' : World} {b4 B : Nat} {row : Obj} {st st' : Option (List UInt8)} (h : DecI w W b4 B row st) (hi : InAt W' TIn B st') (ht : TouchO B none W W') : DecI w W' b4 B row st' :=
  ⟨hi, ht.cell h.box h.ne (by simp), (ht.block _ (Array.getElem?_eq_some_iff.1 h.res).1 (by have := h.lt; omega) (by simp)).trans h.res, Below.trans h.ext (ht.below h.ext.size (by have := h.lt; omega) (fun _ e => by cases e)), h.lt, h.ne⟩
theorem DecI.later {w W W' : World} {b4 B : Nat} {row : Obj} {st : Option (List UInt8)} (h : DecI w W b4 B row st) (x : Ext W W') : DecI w W' b4 B row st :=
  ⟨h.inn.ext x, x.cell h.box, x.block h.res, h.ext.trans x, h.lt, h.ne⟩
theorem touch_row {W W' : World} {B b : Nat} {o : Obj} (ht : TouchO B none W W') (h : W.heap[b]? = some o) (hne : b ≠ B) : W'.heap[b]? = some o :=
  (ht.block _ (Array.getElem?_eq_some_iff.1 h).1 hne (by simp)).trans h

set_option maxRecDepth 100000 in
set_option maxHeartbeats 2000000 in
theorem Decode_calls (v : Value) (l : List UInt8) (w : World) (hv : Bys w v l) (hl : l.length ≤ 140737488355328) : Calls Try.prog 79 #[v] w (DecPost (decC l) w) := by
  have hF := fun W (h : Bys W v l) => From_calls v l W h hl
  have hv' := hv
  obtain ⟨a, cap, rfl, _⟩ := hv'
  obtain ⟨s1, s2, s3, s4, hs1, hs2, hs3, hs4, hfin⟩ := dec_sts l
  have HS := Lib.hid (And.intro hs1 (And.intro hs2 (And.intro hs3 (And.intro hs4 hfin))))
  clear hs1 hs2 hs3 hs4 hfin
  have HF := Lib.hid HS.out.2.2.2.2
  -- the answer
  have HP : (∃ y, y = decC l ∧ ((s4 == some []) = false ∧ y = none ∨ (s4 == some []) = true ∧ (chkB (rd (some l) 4) (rd s1 1) (rd s2 1) = false ∧ y = none ∨ chkB (rd (some l) 4) (rd s1 1) (rd s2 1) = true ∧ y = some ((rd (some l) 4 : Int), (rd s1 1 : Int), (rd s2 1 : Int), rd s3 2)))) := by
    refine ⟨_, rfl, ?_⟩
    rcases HF.out with ⟨h8, e4, r1, r2, r3, r4⟩ | ⟨h8, e4⟩
    · right
      refine ⟨by rw [e4]; rfl, ?_⟩
      rw [r1, r2, r3, r4]
      unfold decC
      cases hc : chkB (numB (l.take 4)) (numB ((l.drop 4).take 1)) (numB ((l.drop 5).take 1)) with
      | true => right; exact ⟨rfl, by rw [if_pos ⟨h8, rfl⟩]⟩
      | false => left; exact ⟨rfl, by rw [if_neg (by simp)]⟩
    · left
      refine ⟨e4, ?_⟩
      unfold decC
      rw [if_neg (fun h => h8 h.1)]
  obtain ⟨y, hy, HP⟩ := HP
  rw [← hy]
  clear HF hy
  go_enter Try.func79, Try.ntmps79
  go_wp2_with fail
  refine (hF _ (hv.alloc _)).mono ?_
  rintro e w1 ⟨B, rfl, hB, hin, hx1⟩
  go_wp2_with fail
  have I0 : DecI w (w1.alloc (.cells #[.pointer (some ⟨B, 0, none⟩)] 123)) w1.heap.size B _ (some l) :=
    ⟨hin.ext (Ext.alloc _ _), cell_of_row _ _ 0 _ _ _ (heap_alloc_new w1 _), (Ext.alloc _ _).block (hx1.block (heap_alloc_new w (.cells #[.int .i64 0, .int .i64 0, .int .i64 0, .int .u16 0] 25))), ((Ext.alloc _ _).trans hx1).thenAlloc _, by simp at hB; omega, by have := hin.lt; omega⟩
  clear hin hx1 hB hv hF
  generalize w1.heap.size = b4 at *
  generalize w1.alloc (.cells #[.pointer (some ⟨B, 0, none⟩)] 123) = W0 at *
  have L1 := rd_lt (some l) 4
  have L2 := rd_lt s1 1
  have L3 := rd_lt s2 1
  have L4 := rd_lt s3 2
  have H0 := Dec1_calls B b4 (some l) 4 (by omega) W0 I0.inn I0.box
  have K1 := fun W h hb => Dec1_calls B b4 s1 1 (by omega) W h hb
  have K2 := fun W h hb => Dec1_calls B b4 s2 1 (by omega) W h hb
  have K3 := fun W h hb => Dec1_calls B b4 s3 2 (by omega) W h hb
  rw [HS.out.1] at H0
  rw [HS.out.2.1] at K1
  rw [HS.out.2.2.1] at K2
  rw [HS.out.2.2.2.1] at K3
  clear HS
  generalize rd (some l) 4 = n1 at *
  generalize rd s1 1 = n2 at *
  generalize rd s2 1 = n3 at *
  generalize rd s3 2 = n4 at *
  have kChk := fun W => Check_calls (n1 : Int) (n2 : Int) (n3 : Int) (n4 : Int) W
  unfold CheckPost cst at kChk
  have cw : IntKind.u16.wrap (n4 : Int) = (n4 : Int) := by rw [IntKind.wrap_u16]; omega
  refine H0.mono ?_
  rintro e w2 ⟨rfl, hi, ht⟩
  have I1 := I0.step hi ht
  clear I0 hi ht H0
  go_wp2_with fail
  refine (K1 _ I1.inn I1.box).mono ?_
  rintro e w3 ⟨rfl, hi, ht⟩
  have I2 := I1.step hi ht
  clear I1 hi ht K1
  go_wp2_with fail
  refine (K2 _ I2.inn I2.box).mono ?_
  rintro e w4 ⟨rfl, hi, ht⟩
  have I3 := I2.step hi ht
  clear I2 hi ht K2
  go_wp2_with fail
  have I4 := I3.later (Ext.alloc w4 (.cells #[.int .i64 (n1 : Int), .int .i64 (n2 : Int), .int .i64 (n3 : Int), .int .u16 0] 25))
  have r0 := heap_alloc_new w4 (.cells #[.int .i64 (n1 : Int), .int .i64 (n2 : Int), .int .i64 (n3 : Int), .int .u16 0] 25)
  have b6 : w4.heap.size ≠ B := by have := I3.inn.lt; omega
  have b6' : w.heap.size ≤ w4.heap.size := I3.ext.size
  have b6'' : w.heap.size < w4.heap.size := (Array.getElem?_eq_some_iff.1 I3.res).1
  have b64 : w4.heap.size ≠ b4 := by have h := World.block_lt_of_cell? _ _ I3.box; simp only at h; omega
  clear I3
  refine (K3 _ I4.inn I4.box).mono ?_
  rintro e w5 ⟨rfl, hi, ht⟩
  have I5 := I4.step hi ht
  have r1 := touch_row ht r0 b6
  generalize w4.heap.size = b at *
  clear I4 hi ht K3 r0
  obtain ⟨⟨a0, a1, a2, a3⟩, u0, u1, u2, u3⟩ := row4 r1
  have kD := fun w h => DoneL_calls B s4 w h
  have hbox : (w5.setCell ⟨b, 3, none⟩ (.int .u16 (n4 : Int))).cell? ⟨b4, 0, none⟩ = some (.pointer (some ⟨B, 0, none⟩)) := (World.cell?_of_block (heap_setCell_other w5 ⟨b, 3, none⟩ b4 _ (fun e => b64 e.symm))).trans I5.box
  have hinl : InLen (w5.setCell ⟨b, 3, none⟩ (.int .u16 (n4 : Int))) B s4 := (InLen.of I5.inn).other (heap_setCell_other w5 ⟨b, 3, none⟩ B _ (fun e => b6 e.symm))
  have r2 := set1 (i := 3) (v := .int .u16 (n4 : Int)) r1
  have rz := (heap_setCell_other w5 ⟨b, 3, none⟩ w.heap.size (.int .u16 (n4 : Int)) (by show w.heap.size ≠ b; omega)).trans I5.res
  have hx6 : Ext w (w5.setCell ⟨b, 3, none⟩ (.int .u16 (n4 : Int))) := Below.setCell I5.ext b6' _
  clear I5 r1
  go_wp2_with fail
  clear a0 a1 a2 a3 u0 u1 u2 u3 hbox
  generalize w5.setCell ⟨b, 3, none⟩ (.int .u16 (n4 : Int)) = w6 at *
  simp only [List.setIfInBounds_toArray, List.set_cons_zero, List.set_cons_succ] at r2
  refine (kD _ hinl).mono ?_
  rintro e w7 ⟨rfl, rfl⟩
  obtain ⟨⟨a0, a1, a2, a3⟩, u0, u1, u2, u3⟩ := row4 r2
  obtain ⟨⟨z0, z1, z2, z3⟩, v0, v1, v2, v3⟩ := row4 rz
  rcases HP with ⟨e4, rfl⟩ | ⟨e4, HP⟩
  · rw [e4]
    clear kD kChk r2 rz
    go_wp2_with fail
    refine bodyPost_ret (by rw [results_cell_tmp rfl]; go_simp; rfl) rfl ?_
    exact ⟨rfl, Below.setCell (Below.setCell (Below.setCell (Below.setCell hx6 (Nat.le_refl _) _) (Nat.le_refl _) _) (Nat.le_refl _) _) (Nat.le_refl _) _⟩
  · rw [e4]
    go_wp2_with fail
    refine (kChk _).mono ?_
    rintro e w8 ⟨rfl, hx8⟩
    have p0 := hx8.block r2
    have pz := hx8.block rz
    have hx9 := hx6.trans hx8
    clear a0 a1 a2 a3 u0 u1 u2 u3 z0 z1 z2 z3 v0 v1 v2 v3 r2 rz hx6 hx8 kChk kD hinl
    obtain ⟨⟨a0, a1, a2, a3⟩, u0, u1, u2, u3⟩ := row4 p0
    obtain ⟨⟨z0, z1, z2, z3⟩, v0, v1, v2, v3⟩ := row4 pz
    rcases HP with ⟨hc, rfl⟩ | ⟨hc, rfl⟩
    · rw [hc, show (if false = true then (0 : Int) else 40) = 40 from rfl]
      clear hc p0 pz
      go_wp2_with fail
      refine bodyPost_ret (by rw [results_cell_tmp rfl]; go_simp; rfl) rfl ?_
      exact ⟨rfl, Below.setCell (Below.setCell (Below.setCell (Below.setCell hx9 (Nat.le_refl _) _) (Nat.le_refl _) _) (Nat.le_refl _) _) (Nat.le_refl _) _⟩
    · rw [hc, show (if true = true then (0 : Int) else 40) = 0 from rfl]
      clear hc p0 pz
      go_wp2_with fail
      refine bodyPost_ret (by rw [results_cell_tmp rfl]; go_simp; rfl) rfl ?_
      exact ⟨rfl, Below.setCell (Below.setCell (Below.setCell (Below.setCell hx9 (Nat.le_refl _) _) (Nat.le_refl _) _) (Nat.le_refl _) _) (Nat.le_refl _) _⟩
end Go.Proofs.Ytcdaelgnankmfaa.VCst
