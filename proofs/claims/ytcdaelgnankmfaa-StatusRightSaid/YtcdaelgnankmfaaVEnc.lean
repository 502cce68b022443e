/- cstate.Encode. -/
import Derived.Test.YtcdaelgnankmfaaVSucc
import Derived.Test.YtcdaelgnankmfaaVPutOk
namespace Go.Proofs.Ytcdaelgnankmfaa.VCst
open Go.RowKit Go.VBase Go.VOct Go.VRg VOct

/-- A C-state's bytes. -/
def cstBy (r s m : Int) (g : Nat) : List UInt8 := beB 4 r.toNat ++ beB 1 s.toNat ++ beB 1 m.toNat ++ beB 2 g
def encC (r s m : Int) (g : Nat) : Option (List UInt8) := if chkB r s m = true then some (cstBy r s m g) else none
def EncPost (x : Option (List UInt8)) (w : World) (e : Ending) (w' : World) : Prop :=
  ∃ u, e = .returned (.tuple #[u, .int .i64 (if x.isSome then 0 else 40)]) ∧ OwnB w' w.heap.size TB u (x.getD []) ∧ Ext w w' ∧ (x = none → u = .slice none 0 0)

theorem chkB_facts {r s m : Int} (h : chkB r s m = true) : 0 ≤ r ∧ r ≤ 2147483647 ∧ 0 ≤ s ∧ s ≤ 15 ∧ 0 ≤ m ∧ m ≤ 7 := by
  unfold chkB inB at h
  simp only [Bool.and_eq_true, decide_eq_true_eq] at h
  omega
theorem cstBy_len (r s m : Int) (g : Nat) : (cstBy r s m g).length = 8 := by unfold cstBy; simp [beB_len]

theorem stPut_len (st : Option (List UInt8)) (width : Int) (n : Nat) : (stAll (stPut st width n)).length ≤ (stAll st).length + 8 := by
  cases st with
  | none => simp [stPut, stAll]
  | some l =>
    show (stAll ((putB width n).map (l ++ ·))).length ≤ l.length + 8
    unfold putB
    by_cases h : widthB width = true ∧ n < 256 ^ width.toNat
    · rw [if_pos h]
      have : width.toNat ≤ 8 := by
        have := h.1
        unfold widthB at this
        simp at this
        omega
      simp [stAll, beB_len]; omega
    · rw [if_neg h]; simp [stAll]

/-- An Out, beside a box that stays. -/
structure EncI (w W : World) (bx B : Nat) (row : Obj) (r : Option Nat) (st : Option (List UInt8)) : Prop where
  out : OutAt W TOut TB B r st
  row : W.heap[bx]? = some row
  ext : Ext w W
  rlt : ∀ g, r = some g → bx < g
  lt : bx < B
  le : w.heap.size ≤ bx
theorem EncI.put {w W W' : World} {bx B : Nat} {row : Obj} {r : Option Nat} {st st' : Option (List UInt8)} {e : Ending} (h : EncI w W bx B row r st) (hp : TailPost W B r st' e W') :
    e = .returned (.pointer (some ⟨B, 0, none⟩)) ∧ ∃ r', EncI w W' bx B row r' st' := by
  obtain ⟨he, r', ho, ht, hn⟩ := hp
  have hbx : bx < W.heap.size := (Array.getElem?_eq_some_iff.1 h.row).1
  have hlt := h.lt
  have hle := h.le
  refine ⟨he, r', ho, (ht.block bx hbx (by omega) (fun e => by have := h.rlt bx e.symm; omega)).trans h.row, Below.trans h.ext (ht.below h.ext.size (by omega) (fun g hg => by have := h.rlt g hg; omega)), fun g hg => ?_, h.lt, h.le⟩
  rcases hn g hg with h1 | h1
  · exact h.rlt g h1
  · omega
theorem st4 {r s m : Int} {g : Nat} (h : chkB r s m = true) (hg : g < 65536) : stPut (stPut (stPut (stPut (some []) 4 r.toNat) 1 s.toNat) 1 m.toNat) 2 g = some (cstBy r s m g) := by
  obtain ⟨h0, h1, h2, h3, h4, h5⟩ := chkB_facts h
  unfold stPut putB cstBy
  rw [if_pos ⟨by decide, by have : r.toNat < 4294967296 := by omega
                            simpa using this⟩]
  simp only [Option.map_some]
  rw [if_pos ⟨by decide, by have : s.toNat < 256 := by omega
                            simpa using this⟩, if_pos ⟨by decide, by have : m.toNat < 256 := by omega
                                                                     simpa using this⟩, if_pos ⟨by decide, by simpa using hg⟩]
  rfl

set_option maxRecDepth 100000 in
set_option maxHeartbeats 1000000 in
theorem Encode_calls (r s m : Int) (g : Nat) (hg : g < 65536) (w : World) : Calls Try.prog 47 #[cst r s m (g : Int)] w (EncPost (encC r s m g) w) := by
  have hC := fun w => Check_calls r s m (g : Int) w
  unfold CheckPost at hC
  cases hb : chkB r s m with
  | false =>
    rw [hb] at hC
    have hx : encC r s m g = none := by unfold encC; rw [hb]; rfl
    rw [hx]
    unfold cst at *
    rw [show (if false = true then (0 : Int) else 40) = 40 from rfl] at hC
    go_enter Try.func47, Try.ntmps47
    go_wp2_with fail
    refine (hC _).mono ?_
    rintro e w1 ⟨rfl, h1⟩
    have hx1 := (Ext.alloc w _).trans h1
    clear h1
    go_wp2_with fail
    refine bodyPost_ret (results_tmp2 rfl _ _ _) rfl ?_
    exact ⟨_, rfl, OwnB.nil _ _ _, hx1, fun _ => rfl⟩
  | true =>
    rw [hb] at hC
    have hx : encC r s m g = some (cstBy r s m g) := by unfold encC; rw [hb]; rfl
    rw [hx]
    have h4 := st4 hb hg
    obtain ⟨b0, b1, b2, b3, b4, b5⟩ := chkB_facts hb
    clear hb
    have c0 : IntKind.u64.wrap r = (r.toNat : Int) := by rw [IntKind.wrap_u64]; omega
    have c1 : IntKind.u64.wrap s = (s.toNat : Int) := by rw [IntKind.wrap_u64]; omega
    have c2 : IntKind.u64.wrap m = (m.toNat : Int) := by rw [IntKind.wrap_u64]; omega
    have hr : r.toNat < 18446744073709551616 := by omega
    have hs : s.toNat < 18446744073709551616 := by omega
    have hm : m.toNat < 18446744073709551616 := by omega
    generalize cstBy r s m g = L at *
    have H4 := Lib.hid h4
    clear h4 hx
    unfold cst at *
    rw [show (if true = true then (0 : Int) else 40) = 0 from rfl] at hC
    generalize r.toNat = R at *
    generalize s.toNat = S at *
    generalize m.toNat = M at *
    clear b0 b1 b2 b3 b4 b5
    go_enter Try.func47, Try.ntmps47
    go_wp2_with fail
    refine (hC _).mono ?_
    rintro e w1 ⟨rfl, h1⟩
    have r0 := h1.block (heap_alloc_new w (.cells #[.int .i64 r, .int .i64 s, .int .i64 m, .int .u16 (g : Int)] 25))
    have hx1 := (Ext.alloc w _).trans h1
    clear h1
    obtain ⟨⟨a0, _⟩, _⟩ := row4 r0
    have aa0 : ∀ c t, (w1.alloc (.cells c t)).cell? ⟨w.heap.size, 0, none⟩ = some (.int .i64 r) := fun c t => (Ext.alloc w1 _).cell a0
    have hlt : w.heap.size < w1.heap.size := (Array.getElem?_eq_some_iff.1 r0).1
    have I0 : EncI w (w1.alloc (.cells #[.slice none 0 0, .bool false] TOut)) w.heap.size w1.heap.size _ none (some []) := ⟨OutAt.new w1 TOut TB, (Ext.alloc w1 _).block r0, hx1.thenAlloc _, fun _ h => (by cases h), hlt, Nat.le_refl _⟩
    clear r0 hx1 hlt
    go_wp2_with fail
    refine (Put_calls w1.heap.size none (some []) 4 R _ I0.out hr (by decide)).mono ?_
    rintro e w2 hp
    obtain ⟨rfl, r1, I1⟩ := I0.put hp
    have l1 := stPut_len (some []) 4 R
    rw [show (stAll (some ([] : List UInt8))).length = 0 from rfl] at l1
    clear a0 aa0 I0 hp
    generalize w1.heap.size = B at *
    obtain ⟨⟨_, a1, _⟩, _⟩ := row4 I1.row
    generalize stPut (some []) 4 R = S1 at *
    go_wp2_with fail
    refine (Put_calls B r1 S1 1 S _ I1.out hs (by omega)).mono ?_
    rintro e w3 hp
    obtain ⟨rfl, r2, I2⟩ := I1.put hp
    have l2 := stPut_len S1 1 S
    clear a1 I1 hp
    obtain ⟨⟨_, _, a2, _⟩, _⟩ := row4 I2.row
    generalize stPut S1 1 S = S2 at *
    go_wp2_with fail
    refine (Put_calls B r2 S2 1 M _ I2.out hm (by omega)).mono ?_
    rintro e w4 hp
    obtain ⟨rfl, r3, I3⟩ := I2.put hp
    have l3 := stPut_len S2 1 M
    clear a2 I2 hp
    obtain ⟨⟨_, _, _, a3⟩, _⟩ := row4 I3.row
    generalize stPut S2 1 M = S3 at *
    go_wp2_with fail
    refine (Put_calls B r3 S3 2 g _ I3.out (by omega) (by omega)).mono ?_
    rintro e w5 hp
    obtain ⟨rfl, r4, I4⟩ := I3.put hp
    have l4 := stPut_len S3 2 g
    clear a3 I3 hp
    rw [H4.out] at I4 l4
    go_wp2_with fail
    refine (All_calls B r4 _ _ I4.out (by omega)).mono ?_
    rintro e w6 ⟨u, rfl, hu, hx6⟩
    have hxE := I4.ext.trans hx6
    have hu' := hu.mono I4.ext.size
    obtain ⟨a', cap', rfl⟩ := hu.slice
    go_wp2_with fail
    refine bodyPost_ret (results_tmp2 rfl _ _ _) rfl ?_
    exact ⟨_, rfl, hu', hxE, fun h => by cases h⟩
end Go.Proofs.Ytcdaelgnankmfaa.VCst
