/- CstateNames: the walk. -/
import Derived.Test.YtkmkfkpblkhpmaaVAlive04
import Derived.Test.YtkmkfkpblkhpmaaVDec
import Derived.Test.YtkmkfkpblkhpmaaVApart
import Derived.Test.YtkmkfkpblkhpmaaVAgo
import Derived.Test.YtkmkfkpblkhpmaaVCompare
import Derived.Lib.AtoiErrMem
namespace Go.Proofs.Ytkmkfkpblkhpmaa.VCst
open Go.RowKit Go.VBase Go.VOct Go.VRg VOct

/-- The six that may not be. -/
def badC (j : Nat) : Int × Int × Int := if j = 0 then (-1, 0, 0) else if j = 1 then (2147483648, 0, 0) else if j = 2 then (0, -1, 0) else if j = 3 then (0, 16, 0) else if j = 4 then (0, 0, -1) else (0, 0, 8)
theorem badC_chk (j : Nat) : chkB (badC j).1 (badC j).2.1 (badC j).2.2 = false := by
  unfold badC
  repeat' split
  all_goals decide
def badL (j : Nat) : List UInt8 := if j = 0 then [] else if j = 1 then [0, 0, 0, 0, 0, 0, 0] else if j = 2 then [0, 0, 0, 0, 0, 0, 0, 0, 0] else if j = 3 then [128, 0, 0, 0, 0, 0, 0, 0] else if j = 4 then [0, 0, 0, 0, 16, 0, 0, 0] else [0, 0, 0, 0, 0, 8, 0, 0]
theorem badL_dec (j : Nat) : decC (badL j) = none := by
  unfold badL
  repeat' split
  all_goals decide
theorem badL_len (j : Nat) : (badL j).length ≤ 9 := by
  unfold badL
  repeat' split
  all_goals decide

def strs6 : Array Value := #[.string ⟨#[]⟩, .string ⟨#[0, 0, 0, 0, 0, 0, 0]⟩, .string ⟨#[0, 0, 0, 0, 0, 0, 0, 0, 0]⟩, .string ⟨#[128, 0, 0, 0, 0, 0, 0, 0]⟩, .string ⟨#[0, 0, 0, 0, 16, 0, 0, 0]⟩, .string ⟨#[0, 0, 0, 0, 0, 8, 0, 0]⟩]
theorem strs6_cell {W : World} {B j : Nat} {T : TypeId} (hj : j < 6) (h : W.heap[B]? = some (.cells strs6 T)) : W.cell? ⟨B, j, none⟩ = some (.string (strB (badL j))) := by
  rcases (by omega : j = 0 ∨ j = 1 ∨ j = 2 ∨ j = 3 ∨ j = 4 ∨ j = 5) with rfl | rfl | rfl | rfl | rfl | rfl
  all_goals exact cell_of_row W B _ _ _ _ h
theorem bys_bytesWorld (W : World) (e : TypeId) (l : List UInt8) (hl : l.length ≤ maxLen) :
    Bys (Lib.bytesWorld W e (strB l)) (.slice (some ⟨W.heap.size, 0, none⟩) (strB l).size (grownCap W (strB l).size 0 e)) l := by
  have hs : (strB l).size = l.length := rfl
  rw [hs]
  refine ⟨_, _, rfl, grownCap_ge _ _ _ _, grownCap_le_maxLen _ _ _ _ hl, fun _ => ⟨_, _, rfl, fun i c hi => ?_⟩⟩
  have hlt : i < l.length := (List.getElem?_eq_some_iff.1 hi).1
  rw [Nat.zero_add, Lib.bytesWorld_cell _ _ _ _ hlt]
  have : (strB l).data.toList.getD i 0 = c := by
    show l.getD i 0 = c
    rw [List.getD_eq_getElem?_getD, hi]; rfl
  rw [this]

def bad24 : Array Value := #[.int .i64 (-1), .int .i64 0, .int .i64 0, .int .u16 0, .int .i64 2147483648, .int .i64 0, .int .i64 0, .int .u16 0, .int .i64 0, .int .i64 (-1), .int .i64 0, .int .u16 0,
  .int .i64 0, .int .i64 16, .int .i64 0, .int .u16 0, .int .i64 0, .int .i64 0, .int .i64 (-1), .int .u16 0, .int .i64 0, .int .i64 0, .int .i64 8, .int .u16 0]
theorem bad24_cell {W : World} {B j : Nat} {T : TypeId} (hj : j < 6) (h : W.heap[B]? = some (.cells bad24 T)) :
    W.cell? ⟨B, j * 4, none⟩ = some (.int .i64 (badC j).1) ∧ W.cell? ⟨B, j * 4 + 1, none⟩ = some (.int .i64 (badC j).2.1) ∧ W.cell? ⟨B, j * 4 + 2, none⟩ = some (.int .i64 (badC j).2.2) ∧ W.cell? ⟨B, j * 4 + 3, none⟩ = some (.int .u16 0) := by
  rcases (by omega : j = 0 ∨ j = 1 ∨ j = 2 ∨ j = 3 ∨ j = 4 ∨ j = 5) with rfl | rfl | rfl | rfl | rfl | rfl
  all_goals exact ⟨cell_of_row W B _ _ _ _ h, cell_of_row W B _ _ _ _ h, cell_of_row W B _ _ _ _ h, cell_of_row W B _ _ _ _ h⟩

set_option maxRecDepth 100000 in
set_option maxHeartbeats 16000000 in
theorem CNames_any (w : World) : Calls Try.prog 10 #[] w fun e w' => e = .returned (.bool true) ∧ Ext w w' := by
  have kA := fun w => alive_calls w
  have kat := fun r s w => at_calls r s w
  have kS0 := fun w => Succ_calls 5 3 0 0 5 w
  rw [show succB 5 3 0 0 5 = ((5, 4, 0, 0), 0) by decide] at kS0
  unfold SuccPost at kS0
  have kS1 := fun w => Succ_calls 5 3 0 0 3 w
  rw [show succB 5 3 0 0 3 = ((0, 0, 0, 0), 40) by decide] at kS1
  unfold SuccPost at kS1
  have kS2 := fun w => Succ_calls 2147483647 3 0 0 4 w
  rw [show succB 2147483647 3 0 0 4 = ((0, 0, 0, 0), 40) by decide] at kS2
  unfold SuccPost at kS2
  have kS3 := fun w => Succ_calls 2147483647 2 0 0 4 w
  rw [show succB 2147483647 2 0 0 4 = ((2147483647, 3, 0, 0), 0) by decide] at kS3
  unfold SuccPost at kS3
  have kS4 := fun w => Succ_calls 0 0 0 0 0 w
  rw [show succB 0 0 0 0 0 = ((0, 0, 0, 0), 40) by decide] at kS4
  unfold SuccPost at kS4
  have kS5 := fun w => Succ_calls 0 0 0 0 17 w
  rw [show succB 0 0 0 0 17 = ((0, 0, 0, 0), 40) by decide] at kS5
  unfold SuccPost at kS5
  have kG0 := fun w => Ago_calls 5 1 0 0 4 6 (by decide) w
  rw [show agoB 5 1 0 4 6 = (3, 3, 0) by decide] at kG0
  unfold AgoPost at kG0
  have kG1 := fun w => Ago_calls 5 1 0 0 4 22 (by decide) w
  rw [show agoB 5 1 0 4 22 = (0, 0, 40) by decide] at kG1
  unfold AgoPost at kG1
  have kG2 := fun w => Ago_calls 5 1 0 0 4 21 (by decide) w
  rw [show agoB 5 1 0 4 21 = (0, 0, 0) by decide] at kG2
  unfold AgoPost at kG2
  have kG3 := fun w => Ago_calls 5 1 0 0 4 (-1) (by decide) w
  rw [show agoB 5 1 0 4 (-1) = (0, 0, 40) by decide] at kG3
  unfold AgoPost at kG3
  have kG4 := fun w => Ago_calls 7 0 0 0 1 7 (by decide) w
  rw [show agoB 7 0 0 1 7 = (0, 0, 0) by decide] at kG4
  unfold AgoPost at kG4
  have kP0 := fun w => Apart_calls 1 0 0 1 0 0 5 6 (by decide) (by decide) w
  rw [show (5 ^^^ 6 : Nat) = 3 by decide, show apartB 1 0 0 1 0 0 = true by decide] at kP0
  have kP1 := fun w => Apart_calls 1 0 0 1 1 0 0 0 (by decide) (by decide) w
  rw [show (0 ^^^ 0 : Nat) = 0 by decide, show apartB 1 0 0 1 1 0 = false by decide] at kP1
  unfold ApartPost at kP0 kP1
  have kC0 := fun w => Compare_calls 1 5 0 0 2 0 0 0 w
  rw [show orB (cmpB 1 2) (cmpB 5 0) = -1 by decide] at kC0
  have kC1 := fun w => Compare_calls 2 1 0 0 2 0 0 0 w
  rw [show orB (cmpB 2 2) (cmpB 1 0) = 1 by decide] at kC1
  have kN0 := fun w => Seen_calls 1 1 0 3 0 true (by decide) w
  rw [show seenG 0 3 true = 8 by decide +kernel] at kN0
  have kN1 := fun w => Seen_calls 0 0 0 3 8 false (by decide) w
  rw [show seenG 8 3 false = 0 by decide +kernel] at kN1
  have kN2 := fun w => Seen_calls 1 1 0 16 0 true (by decide) w
  rw [show seenG 0 16 true = 0 by decide +kernel] at kN2
  have n0 : ((0 : Nat) : Int) = 0 := rfl
  have n3 : ((3 : Nat) : Int) = 3 := rfl
  have n5 : ((5 : Nat) : Int) = 5 := rfl
  have n6 : ((6 : Nat) : Int) = 6 := rfl
  have n8 : ((8 : Nat) : Int) = 8 := rfl
  rw [n0] at kP1 kN0 kN1 kN2
  rw [n3, n5, n6] at kP0
  rw [n8] at kN0 kN1
  clear n0 n3 n5 n6 n8
  have kE := fun j w => Encode_calls (badC j).1 (badC j).2.1 (badC j).2.2 0 (by decide) w
  have kK := fun j w => Check_calls (badC j).1 (badC j).2.1 (badC j).2.2 0 w
  unfold EncPost encC at kE
  unfold CheckPost at kK
  simp only [badC_chk, Bool.false_eq_true, if_false, Option.isSome_none, Option.getD_none, true_implies] at kE kK
  have kD := fun j v w (h : Bys w v (badL j)) => Decode_calls v (badL j) w h (by have := badL_len j; omega)
  unfold DecPost at kD
  simp only [badL_dec, Option.isSome_none, Bool.false_eq_true, if_false] at kD
  have hfd : ∀ (a b c z : Int) (W : World), (Instr.field 25 (.agg #[.int .i64 a, .int .i64 b, .int .i64 c, .int .u16 z]) 3).run Try.prog W = .ok (.int .u16 z) W := fun _ _ _ _ _ => by kernel_rfl
  unfold cst at *
  go_enter Try.func10, Try.ntmps10
  go_wp2_with fail
  have r0 := heap_alloc_new w (.cells bad24 25)
  have x0 := Ext.alloc w (.cells bad24 25)
  show Code.wp _ _ _ _ (w.alloc (.cells bad24 25))
  generalize w.alloc (.cells bad24 25) = W0 at *
  generalize w.heap.size = B at *
  go_loopw [1, 51] (fun b i wr => ∃ (j : Nat), j ≤ 6 ∧ b = .int .i64 (j : Int) ∧ i = .int .i64 (j : Int) ∧ wr.heap[B]? = some (.cells bad24 25) ∧ Ext w wr) (fun _ i _ => 6 - (intOf i).toNat)
  case atStart => exact ⟨0, by omega, rfl, rfl, r0, x0⟩
  case round =>
    clear r0 x0
    obtain ⟨j, hj, rfl, rfl, r0, x0⟩ := hrel
    by_cases hlt : j < 6
    · have hd : decide ((j : Int) < 6) = true := decide_eq_true (by omega)
      have hjw : (j : Int) < 6 := by omega
      have hj0 : (0 : Int) ≤ j := by omega
      have hj1 : IntKind.i64.wrap ((j : Int) + 1) = (j : Int) + 1 := by rw [IntKind.wrap_i64]; omega
      obtain ⟨e0, e1, e2, e3⟩ := bad24_cell hlt r0
      have kE1 := kE j
      have kK1 := kK j
      generalize (badC j).1 = R at *
      generalize (badC j).2.1 = S at *
      generalize (badC j).2.2 = M at *
      go_wp2_with fail
      refine (kE1 _).mono ?_
      rintro e w1 ⟨u, rfl, _, h1, rfl⟩
      have r1 := h1.block ((Ext.alloc wr (.cells #[.int .i64 R, .int .i64 S, .int .i64 M, .int .u16 0] 25)).block r0)
      have p1 := h1.block (heap_alloc_new wr (.cells #[.int .i64 R, .int .i64 S, .int .i64 M, .int .u16 0] 25))
      have x1 := (x0.thenAlloc (.cells #[.int .i64 R, .int .i64 S, .int .i64 M, .int .u16 0] 25)).trans h1
      clear r0 x0 e0 e1 e2 e3 h1
      obtain ⟨⟨a0, a1, a2, a3⟩, _⟩ := row4 p1
      go_wp2_with fail
      refine (kK1 _).mono ?_
      rintro e w2 ⟨rfl, h2⟩
      go_wp2_with fail
      go_round
      · exact ⟨j + 1, by omega, by go_num, by go_num, h2.block r1, x1.trans h2⟩
      · simp [intOf]; omega
    · have hj6 : j = 6 := by omega
      subst hj6
      have n6 : ((6 : Nat) : Int) = 6 := rfl
      rw [n6]
      clear n6 r0 hlt
      go_wp2_with fail
      have s0 := heap_alloc_new wr (.cells strs6 9)
      replace x0 := x0.thenAlloc (.cells strs6 9)
      show Code.wp _ _ _ _ (wr.alloc (.cells strs6 9))
      generalize wr.alloc (.cells strs6 9) = W1 at *
      generalize wr.heap.size = B1 at *
      go_loopw [1, 77] (fun b i wr => ∃ (j : Nat), j ≤ 6 ∧ b = .int .i64 (6 + (j : Int)) ∧ i = .int .i64 (j : Int) ∧ wr.heap[B1]? = some (.cells strs6 9) ∧ Ext w wr) (fun _ i _ => 6 - (intOf i).toNat)
      case atStart => exact ⟨0, by omega, rfl, rfl, s0, x0⟩
      case round =>
        clear s0 x0
        obtain ⟨j, hj, rfl, rfl, s0, x0⟩ := hrel
        by_cases hlt : j < 6
        · have hd : decide ((j : Int) < 6) = true := decide_eq_true (by omega)
          have hjw : (j : Int) < 6 := by omega
          have hj0 : (0 : Int) ≤ j := by omega
          have hj1 : IntKind.i64.wrap ((j : Int) + 1) = (j : Int) + 1 := by rw [IntKind.wrap_i64]; omega
          have hj2 : IntKind.i64.wrap (6 + (j : Int) + 1) = 6 + (j : Int) + 1 := by rw [IntKind.wrap_i64]; omega
          have e0 := strs6_cell hlt s0
          have kD1 := kD j
          have hl := badL_len j
          generalize badL j = L at *
          have kcv := fun (W : World) => Lib.run_convert_string_bytes (P := Try.prog) W 9 41 5 (strB L) Try.underlying9 Try.underlying41 Try.underlying5
          go_wp2_with fail
          refine (kD1 _ _ (bys_bytesWorld _ _ L (by unfold maxLen; omega))).mono ?_
          rintro e w1 ⟨rfl, h1⟩
          go_wp2_with fail
          go_round
          · exact ⟨j + 1, by omega, by go_num, by go_num, (Ext.alloc _ _).block (h1.block ((Lib.bytesWorld_at_old _ _ _ _ (by have := (Array.getElem?_eq_some_iff.1 s0).1; omega)).trans s0)), ((x0.trans (Lib.bytesWorld_below wr _ (strB L))).trans h1).thenAlloc _⟩
          · simp [intOf]; omega
        · have hj6 : j = 6 := by omega
          subst hj6
          have n6 : (6 + ((6 : Nat) : Int)) = 12 := rfl
          have n7 : ((6 : Nat) : Int) = 6 := rfl
          rw [n6, n7]
          clear n6 n7 s0 hlt

          go_wp2_with fail

          refine (kat 5 3 _).mono ?_
          rintro e va ⟨rfl, h1⟩
          go_wp2_with fail
          refine (kS0 _).mono ?_
          rintro e vb ⟨rfl, h2⟩
          go_wp2_with fail
          replace x0 := ((x0.trans h1).trans h2).thenAlloc (.cells #[.int .i64 5, .int .i64 4, .int .i64 0, .int .u16 0] 25)
          have y0 := heap_alloc_new vb (.cells #[.int .i64 5, .int .i64 4, .int .i64 0, .int .u16 0] 25)
          have hb0 : vb.heap.size = vb.heap.size := rfl
          generalize hv0 : vb.alloc (.cells #[.int .i64 5, .int .i64 4, .int .i64 0, .int .u16 0] 25) = vc0 at *
          generalize vb.heap.size = b0 at *
          clear hb0 hv0
          clear h1 h2
          refine (kat 5 3 _).mono ?_
          rintro e va ⟨rfl, h1⟩
          go_wp2_with fail
          refine (kS1 _).mono ?_
          rintro e vb ⟨rfl, h2⟩
          go_wp2_with fail
          replace y0 := (Ext.alloc _ (.cells #[.int .i64 0, .int .i64 0, .int .i64 0, .int .u16 0] 25)).block (h2.block (h1.block y0))
          replace x0 := ((x0.trans h1).trans h2).thenAlloc (.cells #[.int .i64 0, .int .i64 0, .int .i64 0, .int .u16 0] 25)
          generalize vb.alloc (.cells #[.int .i64 0, .int .i64 0, .int .i64 0, .int .u16 0] 25) = vc1 at *
          clear h1 h2
          refine (kat 2147483647 3 _).mono ?_
          rintro e va ⟨rfl, h1⟩
          go_wp2_with fail
          refine (kS2 _).mono ?_
          rintro e vb ⟨rfl, h2⟩
          go_wp2_with fail
          replace y0 := (Ext.alloc _ (.cells #[.int .i64 0, .int .i64 0, .int .i64 0, .int .u16 0] 25)).block (h2.block (h1.block y0))
          replace x0 := ((x0.trans h1).trans h2).thenAlloc (.cells #[.int .i64 0, .int .i64 0, .int .i64 0, .int .u16 0] 25)
          generalize vb.alloc (.cells #[.int .i64 0, .int .i64 0, .int .i64 0, .int .u16 0] 25) = vc2 at *
          clear h1 h2
          refine (kat 2147483647 2 _).mono ?_
          rintro e va ⟨rfl, h1⟩
          go_wp2_with fail
          refine (kS3 _).mono ?_
          rintro e vb ⟨rfl, h2⟩
          go_wp2_with fail
          replace y0 := (Ext.alloc _ (.cells #[.int .i64 2147483647, .int .i64 3, .int .i64 0, .int .u16 0] 25)).block (h2.block (h1.block y0))
          replace x0 := ((x0.trans h1).trans h2).thenAlloc (.cells #[.int .i64 2147483647, .int .i64 3, .int .i64 0, .int .u16 0] 25)
          have y3 := heap_alloc_new vb (.cells #[.int .i64 2147483647, .int .i64 3, .int .i64 0, .int .u16 0] 25)
          have hb3 : vb.heap.size = vb.heap.size := rfl
          generalize hv3 : vb.alloc (.cells #[.int .i64 2147483647, .int .i64 3, .int .i64 0, .int .u16 0] 25) = vc3 at *
          generalize vb.heap.size = b3 at *
          clear hb3 hv3
          clear h1 h2
          refine (kat 0 0 _).mono ?_
          rintro e va ⟨rfl, h1⟩
          go_wp2_with fail
          refine (kS4 _).mono ?_
          rintro e vb ⟨rfl, h2⟩
          go_wp2_with fail
          replace y0 := (Ext.alloc _ (.cells #[.int .i64 0, .int .i64 0, .int .i64 0, .int .u16 0] 25)).block (h2.block (h1.block y0))
          replace y3 := (Ext.alloc _ (.cells #[.int .i64 0, .int .i64 0, .int .i64 0, .int .u16 0] 25)).block (h2.block (h1.block y3))
          replace x0 := ((x0.trans h1).trans h2).thenAlloc (.cells #[.int .i64 0, .int .i64 0, .int .i64 0, .int .u16 0] 25)
          generalize vb.alloc (.cells #[.int .i64 0, .int .i64 0, .int .i64 0, .int .u16 0] 25) = vc4 at *
          clear h1 h2
          refine (kat 0 0 _).mono ?_
          rintro e va ⟨rfl, h1⟩
          go_wp2_with fail
          refine (kS5 _).mono ?_
          rintro e vb ⟨rfl, h2⟩
          go_wp2_with fail
          replace y0 := (Ext.alloc _ (.cells #[.int .i64 0, .int .i64 0, .int .i64 0, .int .u16 0] 25)).block (h2.block (h1.block y0))
          replace y3 := (Ext.alloc _ (.cells #[.int .i64 0, .int .i64 0, .int .i64 0, .int .u16 0] 25)).block (h2.block (h1.block y3))
          replace x0 := ((x0.trans h1).trans h2).thenAlloc (.cells #[.int .i64 0, .int .i64 0, .int .i64 0, .int .u16 0] 25)
          generalize vb.alloc (.cells #[.int .i64 0, .int .i64 0, .int .i64 0, .int .u16 0] 25) = vc5 at *
          clear h1 h2
          obtain ⟨⟨a0, a1, a2, a3⟩, _⟩ := row4 y0
          obtain ⟨⟨c0, c1, c2, c3⟩, _⟩ := row4 y3
          refine wp_region_rg Ext [(4, .known (.agg #[.int .i64 5, .int .i64 4, .int .i64 0, .int .u16 0]))] (by kernel_rfl) (by kernel_rfl) (by kernel_rfl) Ext.refl (fun _ _ _ => Ext.trans) ?_
          intro σ
          simp only
          have k0 : ∀ W, Ext vc5.drew W → W.cell? ⟨b0, 0, none⟩ = some (.int .i64 5) := fun W h => h.cell a0
          have k1 : ∀ W, Ext vc5.drew W → W.cell? ⟨b0, 1, none⟩ = some (.int .i64 4) := fun W h => h.cell a1
          have k2 : ∀ W, Ext vc5.drew W → W.cell? ⟨b0, 2, none⟩ = some (.int .i64 0) := fun W h => h.cell a2
          have k3 : ∀ W, Ext vc5.drew W → W.cell? ⟨b0, 3, none⟩ = some (.int .u16 0) := fun W h => h.cell a3
          have k4 : ∀ W, Ext vc5.drew W → W.cell? ⟨b3, 1, none⟩ = some (.int .i64 3) := fun W h => h.cell c1
          clear a0 a1 a2 a3 c0 c1 c2 c3
          repeat (refine rg_pure (x := ?_) rfl (by rfl) (fun W hW => ?_) ?_; rotate_left; (· have f0 := k0 W hW; have f1 := k1 W hW; have f2 := k2 W hW; have f3 := k3 W hW; have f4 := k4 W hW; go_simp; with_reducible rfl); simp only [Nat.reduceAdd, Act.put, List.setIfInBounds_toArray, List.set_cons_zero, List.set_cons_succ])
          refine rg_known rfl (by rfl) (fun W hW hno => ?_) ?_
          · go_simp
            refine (kat 5 4 W).mono ?_
            rintro e W' ⟨rfl, h⟩
            exact ⟨_, rfl, h, rfl⟩
          simp only [Nat.reduceAdd, Act.put, List.setIfInBounds_toArray, List.set_cons_zero, List.set_cons_succ]
          repeat (refine rg_pure (x := ?_) rfl (by rfl) (fun W hW => ?_) ?_; rotate_left; (· have f0 := k0 W hW; have f1 := k1 W hW; have f2 := k2 W hW; have f3 := k3 W hW; have f4 := k4 W hW; go_simp; with_reducible rfl); simp only [Nat.reduceAdd, Act.put, List.setIfInBounds_toArray, List.set_cons_zero, List.set_cons_succ])
          refine rg_done fun W hW hno => ?_
          replace x0 := x0.trans (Ext.of_drew hW)
          clear hno hW k0 k1 k2 k3 k4 y0 y3
          go_wp2_with fail
          refine (kat 5 1 _).mono ?_
          rintro e W2 ⟨rfl, h1⟩
          replace x0 := x0.trans h1
          clear h1
          go_wp2_with fail
          refine (kG0 _).mono ?_
          rintro e W2 ⟨rfl, h1⟩
          replace x0 := x0.trans h1
          clear h1
          go_wp2_with fail
          refine (kat 5 1 _).mono ?_
          rintro e W2 ⟨rfl, h1⟩
          replace x0 := x0.trans h1
          clear h1
          go_wp2_with fail
          refine (kG1 _).mono ?_
          rintro e W2 ⟨rfl, h1⟩
          replace x0 := x0.trans h1
          clear h1
          go_wp2_with fail
          refine (kat 5 1 _).mono ?_
          rintro e W2 ⟨rfl, h1⟩
          replace x0 := x0.trans h1
          clear h1
          go_wp2_with fail
          refine (kG2 _).mono ?_
          rintro e W2 ⟨rfl, h1⟩
          replace x0 := x0.trans h1
          clear h1
          go_wp2_with fail
          refine (kat 5 1 _).mono ?_
          rintro e W2 ⟨rfl, h1⟩
          replace x0 := x0.trans h1
          clear h1
          go_wp2_with fail
          refine (kG3 _).mono ?_
          rintro e W2 ⟨rfl, h1⟩
          replace x0 := x0.trans h1
          clear h1
          go_wp2_with fail
          refine (kat 7 0 _).mono ?_
          rintro e W2 ⟨rfl, h1⟩
          replace x0 := x0.trans h1
          clear h1
          go_wp2_with fail
          refine (kG4 _).mono ?_
          rintro e W2 ⟨rfl, h1⟩
          replace x0 := x0.trans h1
          clear h1
          go_wp2_with fail
          refine (kP0 _).mono ?_
          rintro e W2 ⟨rfl, h1⟩
          replace x0 := x0.trans h1
          clear h1
          go_wp2_with fail
          refine (kat 1 0 _).mono ?_
          rintro e W2 ⟨rfl, h1⟩
          replace x0 := x0.trans h1
          clear h1
          go_wp2_with fail
          refine (kat 1 1 _).mono ?_
          rintro e W2 ⟨rfl, h1⟩
          replace x0 := x0.trans h1
          clear h1
          go_wp2_with fail
          refine (kP1 _).mono ?_
          rintro e W2 ⟨rfl, h1⟩
          replace x0 := x0.trans h1
          clear h1
          go_wp2_with fail
          refine (kA _).mono ?_
          rintro e W2 ⟨rfl, h1⟩
          replace x0 := x0.trans h1
          clear h1
          go_wp2_with fail
          refine (kat 1 5 _).mono ?_
          rintro e W2 ⟨rfl, h1⟩
          replace x0 := x0.trans h1
          clear h1
          go_wp2_with fail
          refine (kat 2 0 _).mono ?_
          rintro e W2 ⟨rfl, h1⟩
          replace x0 := x0.trans h1
          clear h1
          go_wp2_with fail
          refine (kC0 _).mono ?_
          rintro e W2 ⟨rfl, h1⟩
          replace x0 := x0.trans h1
          clear h1
          go_wp2_with fail
          refine (kat 2 1 _).mono ?_
          rintro e W2 ⟨rfl, h1⟩
          replace x0 := x0.trans h1
          clear h1
          go_wp2_with fail
          refine (kat 2 0 _).mono ?_
          rintro e W2 ⟨rfl, h1⟩
          replace x0 := x0.trans h1
          clear h1
          go_wp2_with fail
          refine (kC1 _).mono ?_
          rintro e W2 ⟨rfl, h1⟩
          replace x0 := x0.trans h1
          clear h1
          go_wp2_with fail
          refine (kat 1 1 _).mono ?_
          rintro e W2 ⟨rfl, h1⟩
          replace x0 := x0.trans h1
          clear h1
          go_wp2_with fail
          refine (kN0 _).mono ?_
          rintro e W2 ⟨rfl, h1⟩
          replace x0 := x0.trans h1
          clear h1
          go_wp2_with fail
          refine (kN1 _).mono ?_
          rintro e W2 ⟨rfl, h1⟩
          replace x0 := x0.trans h1
          clear h1
          go_wp2_with fail
          refine (kat 1 1 _).mono ?_
          rintro e W2 ⟨rfl, h1⟩
          replace x0 := x0.trans h1
          clear h1
          go_wp2_with fail
          refine (kN2 _).mono ?_
          rintro e W2 ⟨rfl, h1⟩
          replace x0 := x0.trans h1
          clear h1
          go_wp2_with fail
          refine (kat 1 1 _).mono ?_
          rintro e W2 ⟨rfl, h1⟩
          replace x0 := x0.trans h1
          clear h1
          go_wp2_with fail
          go_ret
          exact ⟨rfl, x0⟩
end Go.Proofs.Ytkmkfkpblkhpmaa.VCst
