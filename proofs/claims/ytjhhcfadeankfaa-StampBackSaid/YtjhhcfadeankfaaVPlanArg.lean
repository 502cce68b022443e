/- A plan that a law is handed. -/
import Derived.Test.YtjhhcfadeankfaaProg
import Derived.Test.YtjhhcfadeankfaaVPlanD
import Derived.OpenShut
import Derived.ChangeArms
import Derived.SizedLaws
import Derived.WideShapes
namespace Go.Proofs.Ytjhhcfadeankfaa.VPlan
open Go.RowKit Go.VPlan Go.ChangeShapes Go.WideShapes

theorem cells16 {α : Type} {cs : List α} (h : cs.length = 16) : ∃ c0 c1 c2 c3 c4 c5 c6 c7 c8 c9 c10 c11 c12 c13 c14 c15, cs = [c0, c1, c2, c3, c4, c5, c6, c7, c8, c9, c10, c11, c12, c13, c14, c15] := by
  match cs, h with
  | [c0, c1, c2, c3, c4, c5, c6, c7, c8, c9, c10, c11, c12, c13, c14, c15], _ => exact ⟨c0, c1, c2, c3, c4, c5, c6, c7, c8, c9, c10, c11, c12, c13, c14, c15, rfl⟩
def PlanWf (p : PlanD) : Prop := (Lit.int .i64 p.nodes).wf = true ∧ (Lit.int .i64 p.k).wf = true ∧ (Lit.int .i64 p.slot).wf = true ∧ (Lit.int .i64 p.sendOff).wf = true ∧ (Lit.int .i64 p.window).wf = true ∧ (Lit.int .i64 p.air).wf = true ∧ (Lit.int .i64 p.dmin).wf = true ∧ (Lit.int .i64 p.dmax).wf = true ∧ (Lit.int .i64 p.rho).wf = true ∧ (Lit.int .i64 p.pi).wf = true ∧ (Lit.int .i64 p.cap).wf = true ∧ (Lit.int .i64 p.delta).wf = true ∧ (Lit.int .i64 p.queue).wf = true ∧ (Lit.int .i64 p.burst).wf = true ∧ (Lit.int .i64 p.payload).wf = true ∧ (Lit.int .i64 p.horizon).wf = true
set_option maxRecDepth 100000 in
set_option maxHeartbeats 2000000 in
theorem plan_of_arg {H : Type} {enc : TypeId × Value → H} {w : World} {base : Nat} {v : Value} {d : DataW H} {p : List MemPlace} (o : Value.okWide Try.prog w .any base 32 v) (h : DataW.Trod enc Try.prog w 0 (fun _ => true) true 32 v d p) :
    ∃ q : PlanD, v = planV q ∧ PlanWf q := by
  have hC : Try.prog.cellsOf 32 = 16 := by kernel_rfl
  have k3 : Try.prog.cellsOf 3 = 1 := by kernel_rfl
  have k2 : Try.prog.cellsOf 2 = 1 := by kernel_rfl
  obtain ⟨cs, rfl, hsz⟩ := okWide_struct Try.underlying32 o
  rw [hC] at hsz
  obtain ⟨fuel, hf⟩ := h
  have hf : DataW.trod enc Try.prog w 0 (fun _ => true) true fuel 32 cs.toList = some (d, p) := hf
  obtain ⟨ys, n, _, _, _, hyl, hf'⟩ := DataW.trod_struct Try.underlying32 hf
  have hyl : ys.length = 16 := hyl
  obtain ⟨c0, c1, c2, c3, c4, c5, c6, c7, c8, c9, c10, c11, c12, c13, c14, c15, hcs⟩ := cells16 (cs := cs.toList) (by simpa using hsz)
  rw [hcs] at hf'
  have hcs2 : cs = #[c0, c1, c2, c3, c4, c5, c6, c7, c8, c9, c10, c11, c12, c13, c14, c15] := Array.ext' hcs
  have g0 : DataW.trod enc Try.prog w 0 (fun _ => true) true n 3 (([c0, c1, c2, c3, c4, c5, c6, c7, c8, c9, c10, c11, c12, c13, c14, c15].drop 0).take (Try.prog.cellsOf 3)) = ys[0]? := hf' 0 _ rfl
  have y0 : ys[0]? = some (ys[0]'(by omega)) := List.getElem?_eq_getElem _
  rw [k3, y0] at g0
  simp only [List.drop_zero, List.drop_succ_cons, List.take_succ_cons, List.take_zero] at g0
  obtain ⟨z0, e0, _, w0⟩ := DataW.trod_int Try.underlying3 g0
  simp only [List.cons.injEq, and_true] at e0

  have g1 : DataW.trod enc Try.prog w 0 (fun _ => true) true n 3 (([c0, c1, c2, c3, c4, c5, c6, c7, c8, c9, c10, c11, c12, c13, c14, c15].drop 1).take (Try.prog.cellsOf 3)) = ys[1]? := hf' 1 _ rfl
  have y1 : ys[1]? = some (ys[1]'(by omega)) := List.getElem?_eq_getElem _
  rw [k3, y1] at g1
  simp only [List.drop_zero, List.drop_succ_cons, List.take_succ_cons, List.take_zero] at g1
  obtain ⟨z1, e1, _, w1⟩ := DataW.trod_int Try.underlying3 g1
  simp only [List.cons.injEq, and_true] at e1

  have g2 : DataW.trod enc Try.prog w 0 (fun _ => true) true n 2 (([c0, c1, c2, c3, c4, c5, c6, c7, c8, c9, c10, c11, c12, c13, c14, c15].drop 2).take (Try.prog.cellsOf 2)) = ys[2]? := hf' 2 _ rfl
  have y2 : ys[2]? = some (ys[2]'(by omega)) := List.getElem?_eq_getElem _
  rw [k2, y2] at g2
  simp only [List.drop_zero, List.drop_succ_cons, List.take_succ_cons, List.take_zero] at g2
  obtain ⟨z2, e2, _, w2⟩ := DataW.trod_int Try.underlying2 g2
  simp only [List.cons.injEq, and_true] at e2

  have g3 : DataW.trod enc Try.prog w 0 (fun _ => true) true n 2 (([c0, c1, c2, c3, c4, c5, c6, c7, c8, c9, c10, c11, c12, c13, c14, c15].drop 3).take (Try.prog.cellsOf 2)) = ys[3]? := hf' 3 _ rfl
  have y3 : ys[3]? = some (ys[3]'(by omega)) := List.getElem?_eq_getElem _
  rw [k2, y3] at g3
  simp only [List.drop_zero, List.drop_succ_cons, List.take_succ_cons, List.take_zero] at g3
  obtain ⟨z3, e3, _, w3⟩ := DataW.trod_int Try.underlying2 g3
  simp only [List.cons.injEq, and_true] at e3

  have g4 : DataW.trod enc Try.prog w 0 (fun _ => true) true n 2 (([c0, c1, c2, c3, c4, c5, c6, c7, c8, c9, c10, c11, c12, c13, c14, c15].drop 4).take (Try.prog.cellsOf 2)) = ys[4]? := hf' 4 _ rfl
  have y4 : ys[4]? = some (ys[4]'(by omega)) := List.getElem?_eq_getElem _
  rw [k2, y4] at g4
  simp only [List.drop_zero, List.drop_succ_cons, List.take_succ_cons, List.take_zero] at g4
  obtain ⟨z4, e4, _, w4⟩ := DataW.trod_int Try.underlying2 g4
  simp only [List.cons.injEq, and_true] at e4

  have g5 : DataW.trod enc Try.prog w 0 (fun _ => true) true n 2 (([c0, c1, c2, c3, c4, c5, c6, c7, c8, c9, c10, c11, c12, c13, c14, c15].drop 5).take (Try.prog.cellsOf 2)) = ys[5]? := hf' 5 _ rfl
  have y5 : ys[5]? = some (ys[5]'(by omega)) := List.getElem?_eq_getElem _
  rw [k2, y5] at g5
  simp only [List.drop_zero, List.drop_succ_cons, List.take_succ_cons, List.take_zero] at g5
  obtain ⟨z5, e5, _, w5⟩ := DataW.trod_int Try.underlying2 g5
  simp only [List.cons.injEq, and_true] at e5

  have g6 : DataW.trod enc Try.prog w 0 (fun _ => true) true n 2 (([c0, c1, c2, c3, c4, c5, c6, c7, c8, c9, c10, c11, c12, c13, c14, c15].drop 6).take (Try.prog.cellsOf 2)) = ys[6]? := hf' 6 _ rfl
  have y6 : ys[6]? = some (ys[6]'(by omega)) := List.getElem?_eq_getElem _
  rw [k2, y6] at g6
  simp only [List.drop_zero, List.drop_succ_cons, List.take_succ_cons, List.take_zero] at g6
  obtain ⟨z6, e6, _, w6⟩ := DataW.trod_int Try.underlying2 g6
  simp only [List.cons.injEq, and_true] at e6

  have g7 : DataW.trod enc Try.prog w 0 (fun _ => true) true n 2 (([c0, c1, c2, c3, c4, c5, c6, c7, c8, c9, c10, c11, c12, c13, c14, c15].drop 7).take (Try.prog.cellsOf 2)) = ys[7]? := hf' 7 _ rfl
  have y7 : ys[7]? = some (ys[7]'(by omega)) := List.getElem?_eq_getElem _
  rw [k2, y7] at g7
  simp only [List.drop_zero, List.drop_succ_cons, List.take_succ_cons, List.take_zero] at g7
  obtain ⟨z7, e7, _, w7⟩ := DataW.trod_int Try.underlying2 g7
  simp only [List.cons.injEq, and_true] at e7

  have g8 : DataW.trod enc Try.prog w 0 (fun _ => true) true n 2 (([c0, c1, c2, c3, c4, c5, c6, c7, c8, c9, c10, c11, c12, c13, c14, c15].drop 8).take (Try.prog.cellsOf 2)) = ys[8]? := hf' 8 _ rfl
  have y8 : ys[8]? = some (ys[8]'(by omega)) := List.getElem?_eq_getElem _
  rw [k2, y8] at g8
  simp only [List.drop_zero, List.drop_succ_cons, List.take_succ_cons, List.take_zero] at g8
  obtain ⟨z8, e8, _, w8⟩ := DataW.trod_int Try.underlying2 g8
  simp only [List.cons.injEq, and_true] at e8

  have g9 : DataW.trod enc Try.prog w 0 (fun _ => true) true n 2 (([c0, c1, c2, c3, c4, c5, c6, c7, c8, c9, c10, c11, c12, c13, c14, c15].drop 9).take (Try.prog.cellsOf 2)) = ys[9]? := hf' 9 _ rfl
  have y9 : ys[9]? = some (ys[9]'(by omega)) := List.getElem?_eq_getElem _
  rw [k2, y9] at g9
  simp only [List.drop_zero, List.drop_succ_cons, List.take_succ_cons, List.take_zero] at g9
  obtain ⟨z9, e9, _, w9⟩ := DataW.trod_int Try.underlying2 g9
  simp only [List.cons.injEq, and_true] at e9

  have g10 : DataW.trod enc Try.prog w 0 (fun _ => true) true n 2 (([c0, c1, c2, c3, c4, c5, c6, c7, c8, c9, c10, c11, c12, c13, c14, c15].drop 10).take (Try.prog.cellsOf 2)) = ys[10]? := hf' 10 _ rfl
  have y10 : ys[10]? = some (ys[10]'(by omega)) := List.getElem?_eq_getElem _
  rw [k2, y10] at g10
  simp only [List.drop_zero, List.drop_succ_cons, List.take_succ_cons, List.take_zero] at g10
  obtain ⟨z10, e10, _, w10⟩ := DataW.trod_int Try.underlying2 g10
  simp only [List.cons.injEq, and_true] at e10

  have g11 : DataW.trod enc Try.prog w 0 (fun _ => true) true n 2 (([c0, c1, c2, c3, c4, c5, c6, c7, c8, c9, c10, c11, c12, c13, c14, c15].drop 11).take (Try.prog.cellsOf 2)) = ys[11]? := hf' 11 _ rfl
  have y11 : ys[11]? = some (ys[11]'(by omega)) := List.getElem?_eq_getElem _
  rw [k2, y11] at g11
  simp only [List.drop_zero, List.drop_succ_cons, List.take_succ_cons, List.take_zero] at g11
  obtain ⟨z11, e11, _, w11⟩ := DataW.trod_int Try.underlying2 g11
  simp only [List.cons.injEq, and_true] at e11

  have g12 : DataW.trod enc Try.prog w 0 (fun _ => true) true n 3 (([c0, c1, c2, c3, c4, c5, c6, c7, c8, c9, c10, c11, c12, c13, c14, c15].drop 12).take (Try.prog.cellsOf 3)) = ys[12]? := hf' 12 _ rfl
  have y12 : ys[12]? = some (ys[12]'(by omega)) := List.getElem?_eq_getElem _
  rw [k3, y12] at g12
  simp only [List.drop_zero, List.drop_succ_cons, List.take_succ_cons, List.take_zero] at g12
  obtain ⟨z12, e12, _, w12⟩ := DataW.trod_int Try.underlying3 g12
  simp only [List.cons.injEq, and_true] at e12

  have g13 : DataW.trod enc Try.prog w 0 (fun _ => true) true n 3 (([c0, c1, c2, c3, c4, c5, c6, c7, c8, c9, c10, c11, c12, c13, c14, c15].drop 13).take (Try.prog.cellsOf 3)) = ys[13]? := hf' 13 _ rfl
  have y13 : ys[13]? = some (ys[13]'(by omega)) := List.getElem?_eq_getElem _
  rw [k3, y13] at g13
  simp only [List.drop_zero, List.drop_succ_cons, List.take_succ_cons, List.take_zero] at g13
  obtain ⟨z13, e13, _, w13⟩ := DataW.trod_int Try.underlying3 g13
  simp only [List.cons.injEq, and_true] at e13

  have g14 : DataW.trod enc Try.prog w 0 (fun _ => true) true n 3 (([c0, c1, c2, c3, c4, c5, c6, c7, c8, c9, c10, c11, c12, c13, c14, c15].drop 14).take (Try.prog.cellsOf 3)) = ys[14]? := hf' 14 _ rfl
  have y14 : ys[14]? = some (ys[14]'(by omega)) := List.getElem?_eq_getElem _
  rw [k3, y14] at g14
  simp only [List.drop_zero, List.drop_succ_cons, List.take_succ_cons, List.take_zero] at g14
  obtain ⟨z14, e14, _, w14⟩ := DataW.trod_int Try.underlying3 g14
  simp only [List.cons.injEq, and_true] at e14

  have g15 : DataW.trod enc Try.prog w 0 (fun _ => true) true n 2 (([c0, c1, c2, c3, c4, c5, c6, c7, c8, c9, c10, c11, c12, c13, c14, c15].drop 15).take (Try.prog.cellsOf 2)) = ys[15]? := hf' 15 _ rfl
  have y15 : ys[15]? = some (ys[15]'(by omega)) := List.getElem?_eq_getElem _
  rw [k2, y15] at g15
  simp only [List.drop_zero, List.drop_succ_cons, List.take_succ_cons, List.take_zero] at g15
  obtain ⟨z15, e15, _, w15⟩ := DataW.trod_int Try.underlying2 g15
  simp only [List.cons.injEq, and_true] at e15

  subst hcs2
  subst e0 e1 e2 e3 e4 e5 e6 e7 e8 e9 e10 e11 e12 e13 e14 e15
  exact ⟨⟨z0, z1, z2, z3, z4, z5, z6, z7, z8, z9, z10, z11, z12, z13, z14, z15⟩, rfl, w0, w1, w2, w3, w4, w5, w6, w7, w8, w9, w10, w11, w12, w13, w14, w15⟩
end Go.Proofs.Ytjhhcfadeankfaa.VPlan
