/- Bundled out of VCstArg VPlanArg VArg VLookArg. -/
import Derived.Test.YtcdaelgnankmfaaVCst
import Derived.Lib.SmallJoins
import Derived.OpenShut
import Derived.Test.YtcdaelgnankmfaaProg
import Derived.Test.YtcdaelgnankmfaaVPlanD
import Derived.ChangeArms
import Derived.SizedLaws
import Derived.WideShapes
import Derived.Test.YtcdaelgnankmfaaVBase
import Derived.Deep.Slices
import Derived.Deep.Fields
import Derived.ChangeSame
import Derived.Test.YtcdaelgnankmfaaVZ1
/- A C-state that a law is handed. -/
namespace Go.Proofs.Ytcdaelgnankmfaa.VCst
open Go.RowKit Go.VBase Go.Joins Go.ChangeShapes Go.WideShapes Go.Deep

set_option maxRecDepth 100000 in
theorem cst_of_arg {H : Type} {enc : TypeId × Value → H} {w : World} {base : Nat} {v : Value} {d : DataW H} {p : List MemPlace} (o : Value.okWide Try.prog w .any base 25 v) (h : DataW.Trod enc Try.prog w 0 (fun _ => true) true 25 v d p) :
    ∃ r s m g : Int, v = cst r s m g ∧ (Lit.int .i64 r).wf = true ∧ (Lit.int .i64 s).wf = true ∧ (Lit.int .i64 m).wf = true ∧ (Lit.int .u16 g).wf = true := by
  obtain ⟨v0, v1, v2, v3, y0, y1, y2, y3, n, rfl, _, _, t0, t1, t2, t3⟩ := open_agg4 Try.underlying25 (by kernel_rfl) (by kernel_rfl) o h
  obtain ⟨z0, e0, _, w0⟩ := DataW.trod_int Try.underlying3 t0
  obtain ⟨z1, e1, _, w1⟩ := DataW.trod_int Try.underlying3 t1
  obtain ⟨z2, e2, _, w2⟩ := DataW.trod_int Try.underlying3 t2
  obtain ⟨z3, e3, _, w3⟩ := DataW.trod_int Try.underlying23 t3
  simp at e0 e1 e2 e3
  subst e0 e1 e2 e3
  exact ⟨z0, z1, z2, z3, rfl, w0, w1, w2, w3⟩
end Go.Proofs.Ytcdaelgnankmfaa.VCst

/- A plan that a law is handed. -/
namespace Go.Proofs.Ytcdaelgnankmfaa.VPlan
open Go.RowKit Go.VPlan Go.ChangeShapes Go.WideShapes

theorem cells16 {α : Type} {cs : List α} (h : cs.length = 16) : ∃ c0 c1 c2 c3 c4 c5 c6 c7 c8 c9 c10 c11 c12 c13 c14 c15, cs = [c0, c1, c2, c3, c4, c5, c6, c7, c8, c9, c10, c11, c12, c13, c14, c15] := by
  match cs, h with
  | [c0, c1, c2, c3, c4, c5, c6, c7, c8, c9, c10, c11, c12, c13, c14, c15], _ => exact ⟨c0, c1, c2, c3, c4, c5, c6, c7, c8, c9, c10, c11, c12, c13, c14, c15, rfl⟩
def PlanWf (p : PlanD) : Prop := (Lit.int .i64 p.nodes).wf = true ∧ (Lit.int .i64 p.k).wf = true ∧ (Lit.int .i64 p.slot).wf = true ∧ (Lit.int .i64 p.sendOff).wf = true ∧ (Lit.int .i64 p.window).wf = true ∧ (Lit.int .i64 p.air).wf = true ∧ (Lit.int .i64 p.dmin).wf = true ∧ (Lit.int .i64 p.dmax).wf = true ∧ (Lit.int .i64 p.rho).wf = true ∧ (Lit.int .i64 p.pi).wf = true ∧ (Lit.int .i64 p.cap).wf = true ∧ (Lit.int .i64 p.delta).wf = true ∧ (Lit.int .i64 p.queue).wf = true ∧ (Lit.int .i64 p.burst).wf = true ∧ (Lit.int .i64 p.payload).wf = true ∧ (Lit.int .i64 p.horizon).wf = true
set_option maxRecDepth 100000 in
set_option maxHeartbeats 2000000 in
theorem plan_of_arg {H : Type} {enc : TypeId × Value → H} {w : World} {base : Nat} {v : Value} {d : DataW H} {p : List MemPlace} (o : Value.okWide Try.prog w .any base 35 v) (h : DataW.Trod enc Try.prog w 0 (fun _ => true) true 35 v d p) :
    ∃ q : PlanD, v = planV q ∧ PlanWf q := by
  have hC : Try.prog.cellsOf 35 = 16 := by kernel_rfl
  have k3 : Try.prog.cellsOf 3 = 1 := by kernel_rfl
  have k2 : Try.prog.cellsOf 2 = 1 := by kernel_rfl
  obtain ⟨cs, rfl, hsz⟩ := okWide_struct Try.underlying35 o
  rw [hC] at hsz
  obtain ⟨fuel, hf⟩ := h
  have hf : DataW.trod enc Try.prog w 0 (fun _ => true) true fuel 35 cs.toList = some (d, p) := hf
  obtain ⟨ys, n, _, _, _, hyl, hf'⟩ := DataW.trod_struct Try.underlying35 hf
  have hyl : ys.length = 16 := hyl
  obtain ⟨c0, c1, c2, c3, c4, c5, c6, c7, c8, c9, c10, c11, c12, c13, c14, c15, hcs⟩ := cells16 (cs := cs.toList) (by simpa using hsz)
  rw [hcs] at hf'
  have hcs2 : cs = #[c0, c1, c2, c3, c4, c5, c6, c7, c8, c9, c10, c11, c12, c13, c14, c15] := Array.ext' hcs
  have g0 : DataW.trod enc Try.prog w 0 (fun _ => true) true n 3 (([c0, c1, c2, c3, c4, c5, c6, c7, c8, c9, c10, c11, c12, c13, c14, c15].drop 0).take (Try.prog.cellsOf 3)) = ys[0]? := hf' 0 _ rfl
  have y0 : ys[0]? = some (ys[0]'(by omega)) := List.getElem?_eq_getElem _
  rw [k3, y0] at g0
  simp only [List.drop_zero, List.drop_succ_cons, List.take_succ_cons, List.take_zero] at g0
  obtain ⟨z0, e0, _, w0⟩ := DataW.trod_int Try.underlying3 g0
  simp only [List.cons.injEq, and_true] at e0

  have g1 : DataW.trod enc Try.prog w 0 (fun _ => true) true n 3 (([c0, c1, c2, c3, c4, c5, c6, c7, c8, c9, c10, c11, c12, c13, c14, c15].drop 1).take (Try.prog.cellsOf 3)) = ys[1]? := hf' 1 _ rfl
  have y1 : ys[1]? = some (ys[1]'(by omega)) := List.getElem?_eq_getElem _
  rw [k3, y1] at g1
  simp only [List.drop_zero, List.drop_succ_cons, List.take_succ_cons, List.take_zero] at g1
  obtain ⟨z1, e1, _, w1⟩ := DataW.trod_int Try.underlying3 g1
  simp only [List.cons.injEq, and_true] at e1

  have g2 : DataW.trod enc Try.prog w 0 (fun _ => true) true n 2 (([c0, c1, c2, c3, c4, c5, c6, c7, c8, c9, c10, c11, c12, c13, c14, c15].drop 2).take (Try.prog.cellsOf 2)) = ys[2]? := hf' 2 _ rfl
  have y2 : ys[2]? = some (ys[2]'(by omega)) := List.getElem?_eq_getElem _
  rw [k2, y2] at g2
  simp only [List.drop_zero, List.drop_succ_cons, List.take_succ_cons, List.take_zero] at g2
  obtain ⟨z2, e2, _, w2⟩ := DataW.trod_int Try.underlying2 g2
  simp only [List.cons.injEq, and_true] at e2

  have g3 : DataW.trod enc Try.prog w 0 (fun _ => true) true n 2 (([c0, c1, c2, c3, c4, c5, c6, c7, c8, c9, c10, c11, c12, c13, c14, c15].drop 3).take (Try.prog.cellsOf 2)) = ys[3]? := hf' 3 _ rfl
  have y3 : ys[3]? = some (ys[3]'(by omega)) := List.getElem?_eq_getElem _
  rw [k2, y3] at g3
  simp only [List.drop_zero, List.drop_succ_cons, List.take_succ_cons, List.take_zero] at g3
  obtain ⟨z3, e3, _, w3⟩ := DataW.trod_int Try.underlying2 g3
  simp only [List.cons.injEq, and_true] at e3

  have g4 : DataW.trod enc Try.prog w 0 (fun _ => true) true n 2 (([c0, c1, c2, c3, c4, c5, c6, c7, c8, c9, c10, c11, c12, c13, c14, c15].drop 4).take (Try.prog.cellsOf 2)) = ys[4]? := hf' 4 _ rfl
  have y4 : ys[4]? = some (ys[4]'(by omega)) := List.getElem?_eq_getElem _
  rw [k2, y4] at g4
  simp only [List.drop_zero, List.drop_succ_cons, List.take_succ_cons, List.take_zero] at g4
  obtain ⟨z4, e4, _, w4⟩ := DataW.trod_int Try.underlying2 g4
  simp only [List.cons.injEq, and_true] at e4

  have g5 : DataW.trod enc Try.prog w 0 (fun _ => true) true n 2 (([c0, c1, c2, c3, c4, c5, c6, c7, c8, c9, c10, c11, c12, c13, c14, c15].drop 5).take (Try.prog.cellsOf 2)) = ys[5]? := hf' 5 _ rfl
  have y5 : ys[5]? = some (ys[5]'(by omega)) := List.getElem?_eq_getElem _
  rw [k2, y5] at g5
  simp only [List.drop_zero, List.drop_succ_cons, List.take_succ_cons, List.take_zero] at g5
  obtain ⟨z5, e5, _, w5⟩ := DataW.trod_int Try.underlying2 g5
  simp only [List.cons.injEq, and_true] at e5

  have g6 : DataW.trod enc Try.prog w 0 (fun _ => true) true n 2 (([c0, c1, c2, c3, c4, c5, c6, c7, c8, c9, c10, c11, c12, c13, c14, c15].drop 6).take (Try.prog.cellsOf 2)) = ys[6]? := hf' 6 _ rfl
  have y6 : ys[6]? = some (ys[6]'(by omega)) := List.getElem?_eq_getElem _
  rw [k2, y6] at g6
  simp only [List.drop_zero, List.drop_succ_cons, List.take_succ_cons, List.take_zero] at g6
  obtain ⟨z6, e6, _, w6⟩ := DataW.trod_int Try.underlying2 g6
  simp only [List.cons.injEq, and_true] at e6

  have g7 : DataW.trod enc Try.prog w 0 (fun _ => true) true n 2 (([c0, c1, c2, c3, c4, c5, c6, c7, c8, c9, c10, c11, c12, c13, c14, c15].drop 7).take (Try.prog.cellsOf 2)) = ys[7]? := hf' 7 _ rfl
  have y7 : ys[7]? = some (ys[7]'(by omega)) := List.getElem?_eq_getElem _
  rw [k2, y7] at g7
  simp only [List.drop_zero, List.drop_succ_cons, List.take_succ_cons, List.take_zero] at g7
  obtain ⟨z7, e7, _, w7⟩ := DataW.trod_int Try.underlying2 g7
  simp only [List.cons.injEq, and_true] at e7

  have g8 : DataW.trod enc Try.prog w 0 (fun _ => true) true n 2 (([c0, c1, c2, c3, c4, c5, c6, c7, c8, c9, c10, c11, c12, c13, c14, c15].drop 8).take (Try.prog.cellsOf 2)) = ys[8]? := hf' 8 _ rfl
  have y8 : ys[8]? = some (ys[8]'(by omega)) := List.getElem?_eq_getElem _
  rw [k2, y8] at g8
  simp only [List.drop_zero, List.drop_succ_cons, List.take_succ_cons, List.take_zero] at g8
  obtain ⟨z8, e8, _, w8⟩ := DataW.trod_int Try.underlying2 g8
  simp only [List.cons.injEq, and_true] at e8

  have g9 : DataW.trod enc Try.prog w 0 (fun _ => true) true n 2 (([c0, c1, c2, c3, c4, c5, c6, c7, c8, c9, c10, c11, c12, c13, c14, c15].drop 9).take (Try.prog.cellsOf 2)) = ys[9]? := hf' 9 _ rfl
  have y9 : ys[9]? = some (ys[9]'(by omega)) := List.getElem?_eq_getElem _
  rw [k2, y9] at g9
  simp only [List.drop_zero, List.drop_succ_cons, List.take_succ_cons, List.take_zero] at g9
  obtain ⟨z9, e9, _, w9⟩ := DataW.trod_int Try.underlying2 g9
  simp only [List.cons.injEq, and_true] at e9

  have g10 : DataW.trod enc Try.prog w 0 (fun _ => true) true n 2 (([c0, c1, c2, c3, c4, c5, c6, c7, c8, c9, c10, c11, c12, c13, c14, c15].drop 10).take (Try.prog.cellsOf 2)) = ys[10]? := hf' 10 _ rfl
  have y10 : ys[10]? = some (ys[10]'(by omega)) := List.getElem?_eq_getElem _
  rw [k2, y10] at g10
  simp only [List.drop_zero, List.drop_succ_cons, List.take_succ_cons, List.take_zero] at g10
  obtain ⟨z10, e10, _, w10⟩ := DataW.trod_int Try.underlying2 g10
  simp only [List.cons.injEq, and_true] at e10

  have g11 : DataW.trod enc Try.prog w 0 (fun _ => true) true n 2 (([c0, c1, c2, c3, c4, c5, c6, c7, c8, c9, c10, c11, c12, c13, c14, c15].drop 11).take (Try.prog.cellsOf 2)) = ys[11]? := hf' 11 _ rfl
  have y11 : ys[11]? = some (ys[11]'(by omega)) := List.getElem?_eq_getElem _
  rw [k2, y11] at g11
  simp only [List.drop_zero, List.drop_succ_cons, List.take_succ_cons, List.take_zero] at g11
  obtain ⟨z11, e11, _, w11⟩ := DataW.trod_int Try.underlying2 g11
  simp only [List.cons.injEq, and_true] at e11

  have g12 : DataW.trod enc Try.prog w 0 (fun _ => true) true n 3 (([c0, c1, c2, c3, c4, c5, c6, c7, c8, c9, c10, c11, c12, c13, c14, c15].drop 12).take (Try.prog.cellsOf 3)) = ys[12]? := hf' 12 _ rfl
  have y12 : ys[12]? = some (ys[12]'(by omega)) := List.getElem?_eq_getElem _
  rw [k3, y12] at g12
  simp only [List.drop_zero, List.drop_succ_cons, List.take_succ_cons, List.take_zero] at g12
  obtain ⟨z12, e12, _, w12⟩ := DataW.trod_int Try.underlying3 g12
  simp only [List.cons.injEq, and_true] at e12

  have g13 : DataW.trod enc Try.prog w 0 (fun _ => true) true n 3 (([c0, c1, c2, c3, c4, c5, c6, c7, c8, c9, c10, c11, c12, c13, c14, c15].drop 13).take (Try.prog.cellsOf 3)) = ys[13]? := hf' 13 _ rfl
  have y13 : ys[13]? = some (ys[13]'(by omega)) := List.getElem?_eq_getElem _
  rw [k3, y13] at g13
  simp only [List.drop_zero, List.drop_succ_cons, List.take_succ_cons, List.take_zero] at g13
  obtain ⟨z13, e13, _, w13⟩ := DataW.trod_int Try.underlying3 g13
  simp only [List.cons.injEq, and_true] at e13

  have g14 : DataW.trod enc Try.prog w 0 (fun _ => true) true n 3 (([c0, c1, c2, c3, c4, c5, c6, c7, c8, c9, c10, c11, c12, c13, c14, c15].drop 14).take (Try.prog.cellsOf 3)) = ys[14]? := hf' 14 _ rfl
  have y14 : ys[14]? = some (ys[14]'(by omega)) := List.getElem?_eq_getElem _
  rw [k3, y14] at g14
  simp only [List.drop_zero, List.drop_succ_cons, List.take_succ_cons, List.take_zero] at g14
  obtain ⟨z14, e14, _, w14⟩ := DataW.trod_int Try.underlying3 g14
  simp only [List.cons.injEq, and_true] at e14

  have g15 : DataW.trod enc Try.prog w 0 (fun _ => true) true n 2 (([c0, c1, c2, c3, c4, c5, c6, c7, c8, c9, c10, c11, c12, c13, c14, c15].drop 15).take (Try.prog.cellsOf 2)) = ys[15]? := hf' 15 _ rfl
  have y15 : ys[15]? = some (ys[15]'(by omega)) := List.getElem?_eq_getElem _
  rw [k2, y15] at g15
  simp only [List.drop_zero, List.drop_succ_cons, List.take_succ_cons, List.take_zero] at g15
  obtain ⟨z15, e15, _, w15⟩ := DataW.trod_int Try.underlying2 g15
  simp only [List.cons.injEq, and_true] at e15

  subst hcs2
  subst e0 e1 e2 e3 e4 e5 e6 e7 e8 e9 e10 e11 e12 e13 e14 e15
  exact ⟨⟨z0, z1, z2, z3, z4, z5, z6, z7, z8, z9, z10, z11, z12, z13, z14, z15⟩, rfl, w0, w1, w2, w3, w4, w5, w6, w7, w8, w9, w10, w11, w12, w13, w14, w15⟩
end Go.Proofs.Ytcdaelgnankmfaa.VPlan

/- A slice of bytes that a law is handed. -/
namespace Go.Proofs.Ytcdaelgnankmfaa.VArg
open Go.RowKit Go.VBase Go.ChangeShapes Go.WideShapes Go.Deep

theorem bys_of_trod {H : Type} {enc : TypeId × Value → H} {w : World} {n : Nat} {v : Value} {x : DataW H × List MemPlace} (h : DataW.trod enc Try.prog w 0 (fun _ => true) true n 26 [v] = some x) (hw : ∀ n ∈ x.1.weights Try.prog 26, n ≤ reachBytes) :
    ∃ l : List UInt8, Bys w v l ∧ l.length ≤ 140737488351232 := by
  rcases open_ints Try.underlying26 Try.underlying5 (by kernel_rfl) h with ⟨hcs, _⟩ | ⟨y, l, c, zs, hcs, _, hl, hm, hz, hx, hcell, hwz⟩
  · simp at hcs; subst hcs
    exact ⟨[], Bys.nil _, by simp⟩
  · simp at hcs; subst hcs
    obtain ⟨m, hm1, hm2⟩ := bys_of_row (w := w) (a := some y) (len := l) (cap := c) (zs := zs) (.inr ⟨y, rfl, hl, hm, by simpa using hz, hcell, hwz⟩)
    refine ⟨m, hm2, ?_⟩
    have hb : Try.prog.bytesOf 5 = 1 := by kernel_rfl
    have := hw ((zs.take l).length * 1 + (zs.drop l).length * 1) (by
      rw [hx]
      simp only [DataW.weights, Try.underlying26, List.mem_cons]
      left
      rw [hb]; simp [lits])
    rw [List.length_take, List.length_drop] at this
    simp at hz
    have e : reachBytes = 140737488351232 := by decide
    omega

theorem bys_of_arg {H : Type} {enc : TypeId × Value → H} {w : World} {a : Option Addr} {len cap : Nat} {d : DataW H} {p : List MemPlace} (h : DataW.Trod enc Try.prog w 0 (fun _ => true) true 26 (.slice a len cap) d p) (hw : ∀ n ∈ d.weights Try.prog 26, n ≤ reachBytes) :
    ∃ l : List UInt8, Bys w (.slice a len cap) l ∧ l.length = len ∧ l.length ≤ 140737488351232 := by
  obtain ⟨fuel, hf⟩ := h
  obtain ⟨l, hb, hl⟩ := bys_of_trod (x := (d, p)) hf hw
  refine ⟨l, hb, ?_, hl⟩
  obtain ⟨a', cap', h1, _⟩ := hb
  cases h1; rfl
end Go.Proofs.Ytcdaelgnankmfaa.VArg

/- A place, and looks, that a law is handed, read. -/
namespace Go.Proofs.Ytcdaelgnankmfaa.VSta
open Go.RowKit Go.VBase Go.Joins Go.ChangeShapes Go.WideShapes Go.Deep VArg Go.VPlan VPlan VCst

theorem list_of_all {α : Type} {Q : Nat → α → Prop} : ∀ n, (∀ i, i < n → ∃ o, Q i o) → ∃ l : List α, l.length = n ∧ ∀ i o, l[i]? = some o → Q i o
  | 0, _ => ⟨[], rfl, fun i o h => by simp at h⟩
  | n + 1, h => by
    obtain ⟨l, hl, hq⟩ := list_of_all n (fun i hi => h i (by omega))
    obtain ⟨o, ho⟩ := h n (by omega)
    refine ⟨l ++ [o], by simp [hl], fun i x hx => ?_⟩
    rcases Nat.lt_or_ge i l.length with h1 | h1
    · rw [List.getElem?_append_left h1] at hx; exact hq i x hx
    · rw [List.getElem?_append_right h1] at hx
      have : i - l.length = 0 := by
        rcases Nat.eq_zero_or_pos (i - l.length) with h2 | h2
        · exact h2
        · rw [List.getElem?_eq_none (by simp; omega)] at hx; cases hx
      rw [this] at hx
      simp at hx; subst hx
      have : i = n := by omega
      subst this; exact ho

theorem add_cell {w : World} {b off k : Nat} {v : Value} (h : w.cell? (Addr.add ⟨b, off, none⟩ k) = some v) : w.cell? ⟨b, off + k, none⟩ = some v := by
  unfold Addr.add at h
  split at h
  · rename_i h0; subst h0; exact h
  · exact h

set_option maxRecDepth 100000 in
theorem place_of_arg {H : Type} {enc : TypeId × Value → H} {w : World} {base : Nat} {v : Value} {d : DataW H} {p : List MemPlace} (o : Value.okWide Try.prog w .any base 37 v) (h : DataW.Trod enc Try.prog w 0 (fun _ => true) true 37 v d p) :
    ∃ r s : Int, v = plV r s ∧ (Lit.int .i64 r).wf = true ∧ (Lit.int .i64 s).wf = true := by
  obtain ⟨v0, v1, y0, y1, n, rfl, _, _, t0, t1⟩ := open_agg2 Try.underlying37 (by kernel_rfl) (by kernel_rfl) o h
  obtain ⟨z0, e0, _, w0⟩ := DataW.trod_int Try.underlying2 t0
  obtain ⟨z1, e1, _, w1⟩ := DataW.trod_int Try.underlying3 t1
  simp at e0 e1
  subst e0 e1
  exact ⟨z0, z1, rfl, w0, w1⟩
def Wfc (c : CsD) : Prop := (Lit.int .i64 c.1).wf = true ∧ (Lit.int .i64 c.2.1).wf = true ∧ (Lit.int .i64 c.2.2.1).wf = true ∧ (Lit.int .u16 c.2.2.2).wf = true
set_option maxRecDepth 100000 in
set_option maxHeartbeats 1000000 in
theorem looks_of_trod {H : Type} {enc : TypeId × Value → H} {w : World} {a : Option Addr} {len cap : Nat} {d : DataW H} {p : List MemPlace} (h : DataW.Trod enc Try.prog w 0 (fun _ => true) true 48 (.slice a len cap) d p) :
    ∃ l : List CsD, l.length = len ∧ LooksE w (.slice a len cap) l ∧ ∀ x ∈ l, Wfc x := by
  obtain ⟨fuel, hf⟩ := h
  have hf : DataW.trod enc Try.prog w 0 (fun _ => true) true fuel 48 [.slice a len cap] = some (d, p) := hf
  rcases open_slice Try.underlying48 hf with ⟨h0, _⟩ | ⟨x, len', cap', m, n, D, Pl, hcs, _, hl, hm, hmm, hd, hi⟩
  · simp at h0; obtain ⟨rfl, rfl, rfl⟩ := h0
    exact ⟨[], rfl, ⟨none, 0, rfl, by simp, by simp [maxLen], fun i o h => by simp at h⟩, fun x hx => by cases hx⟩
  · simp at hcs; obtain ⟨rfl, rfl, rfl⟩ := hcs
    have hC : Try.prog.cellsOf 25 = 4 := by kernel_rfl
    have hml : len ≤ m := by rw [hmm]; split <;> omega
    have key : ∀ i, i < len → ∃ o : CsD, Wfc o ∧ ∃ b off, some x = some ⟨b, off, none⟩ ∧ w.cell? ⟨b, off + i * 4, none⟩ = some (.int .i64 o.1) ∧ w.cell? ⟨b, off + i * 4 + 1, none⟩ = some (.int .i64 o.2.1) ∧
        w.cell? ⟨b, off + i * 4 + 2, none⟩ = some (.int .i64 o.2.2.1) ∧ w.cell? ⟨b, off + i * 4 + 3, none⟩ = some (.int .u16 o.2.2.2) := by
      intro i hil
      obtain ⟨cs, hc, ht⟩ := hi i (by omega)
      rw [hC] at hc
      obtain ⟨ys, n', _, hDi, hcl, hyl, hf'⟩ := DataW.trod_struct Try.underlying25 ht
      rw [hC] at hcl
      obtain ⟨_, _, hat⟩ := World.cells?_some hc
      have hxs : x = ⟨x.block, x.off, none⟩ := by
        obtain ⟨cs0, hc0, _⟩ := hi 0 (by omega)
        rw [hC] at hc0
        obtain ⟨_, hl0, hat0⟩ := World.cells?_some hc0
        have h0 := hat0 0 (by omega)
        have e0 : cs0[0]? = some (cs0[0]'(by omega)) := List.getElem?_eq_getElem _
        rw [e0] at h0
        have h1 : w.cell? x = some (cs0[0]'(by omega)) := by simpa [Addr.add] using h0
        have := World.cell?_spot h1
        obtain ⟨b, off, spot⟩ := x
        simp at this; subst this; rfl
      obtain ⟨b, off, spot⟩ := x
      simp only [Addr.mk.injEq, true_and] at hxs
      subst hxs
      match cs, hcl with
      | [c0, c1, c2, c3], _ =>
        have k3 : Try.prog.cellsOf 3 = 1 := by kernel_rfl
        have k24 : Try.prog.cellsOf 23 = 1 := by kernel_rfl
        have g0 : DataW.trod enc Try.prog w 0 (fun _ => true) true n' 3 (([c0, c1, c2, c3].drop 0).take (Try.prog.cellsOf 3)) = ys[0]? := hf' 0 _ rfl
        have g1 : DataW.trod enc Try.prog w 0 (fun _ => true) true n' 3 (([c0, c1, c2, c3].drop 1).take (Try.prog.cellsOf 3)) = ys[1]? := hf' 1 _ rfl
        have g2 : DataW.trod enc Try.prog w 0 (fun _ => true) true n' 3 (([c0, c1, c2, c3].drop 2).take (Try.prog.cellsOf 3)) = ys[2]? := hf' 2 _ rfl
        have g3 : DataW.trod enc Try.prog w 0 (fun _ => true) true n' 23 (([c0, c1, c2, c3].drop 3).take (Try.prog.cellsOf 23)) = ys[3]? := hf' 3 _ rfl
        simp only [k3, k24, List.drop_zero, List.drop_succ_cons, List.take_succ_cons, List.take_zero] at g0 g1 g2 g3
        have hsz : ys.length = 4 := hyl
        have y0 : ys[0]? = some (ys[0]'(by omega)) := List.getElem?_eq_getElem _
        have y1 : ys[1]? = some (ys[1]'(by omega)) := List.getElem?_eq_getElem _
        have y2 : ys[2]? = some (ys[2]'(by omega)) := List.getElem?_eq_getElem _
        have y3 : ys[3]? = some (ys[3]'(by omega)) := List.getElem?_eq_getElem _
        rw [y0] at g0; rw [y1] at g1; rw [y2] at g2; rw [y3] at g3
        obtain ⟨z0, e0, _, w0⟩ := DataW.trod_int Try.underlying3 g0
        obtain ⟨z1, e1, _, w1⟩ := DataW.trod_int Try.underlying3 g1
        obtain ⟨z2, e2, _, w2⟩ := DataW.trod_int Try.underlying3 g2
        obtain ⟨z3, e3, _, w3⟩ := DataW.trod_int Try.underlying23 g3
        simp at e0 e1 e2 e3
        subst e0 e1 e2 e3
        have d : ∀ j c, j < 4 → [Value.int .i64 z0, .int .i64 z1, .int .i64 z2, .int .u16 z3][j]? = some c → w.cell? ⟨b, off + i * 4 + j, none⟩ = some c := fun j c hj hc => by
          have h1 := hat j hj
          rw [hc] at h1
          have e : (Addr.add ⟨b, off, none⟩ (i * 4)) = ⟨b, off + i * 4, none⟩ := by
            unfold Addr.add; split
            · rename_i h0; have : i = 0 := by omega
              subst this; rfl
            · rfl
          rw [e] at h1
          exact add_cell h1
        exact ⟨(z0, z1, z2, z3), ⟨w0, w1, w2, w3⟩, b, off, rfl, d 0 _ (by decide) rfl, d 1 _ (by decide) rfl, d 2 _ (by decide) rfl, d 3 _ (by decide) rfl⟩
    obtain ⟨l, hl', hq⟩ := list_of_all len key
    refine ⟨l, hl', ⟨some x, cap, by rw [hl'], by omega, hm, fun i o ho => (hq i o ho).2⟩, fun y hy => ?_⟩
    obtain ⟨i, hi⟩ := List.getElem?_of_mem hy
    exact (hq i y hi).1
end Go.Proofs.Ytcdaelgnankmfaa.VSta
