/- Statuses: what they are in memory; whether two are the same. -/
import Derived.Test.YtcdaelgnankmfaaVFrm
namespace Go.Proofs.Ytcdaelgnankmfaa.VSta
open Go.RowKit Go.VBase Go.VRg Go.VEq VCst VMsg

abbrev TSta : TypeId := 30
structure StaD where
  k : Int
  l : Int
  d : Int
  f : FrmD
def staC (x : StaD) (u : Value) : Array Value := #[.int .i64 x.k, .int .i64 x.l, .int .i64 x.d, .int .i64 x.f.k, .int .i64 x.f.r, .int .i64 x.f.s, .int .i64 x.f.m, .int .u16 x.f.v, u]
/-- Two rows of nine, one behind the other: what stays of their heads. -/
theorem nine {w : World} {t : TypeId} (c0 c1 c2 c3 c4 c5 c6 c7 c8 d0 d1 d2 d3 d4 d5 d6 d7 d8 : Value) (W : World)
    (h : Ext ((w.alloc (.cells #[c0, c1, c2, c3, c4, c5, c6, c7, c8] t)).alloc (.cells #[d0, d1, d2, d3, d4, d5, d6, d7, d8] t)) W) :
    W.cell? ⟨w.heap.size, 0, none⟩ = some c0 ∧ W.cell? ⟨w.heap.size, 1, none⟩ = some c1 ∧ W.cell? ⟨w.heap.size, 2, none⟩ = some c2 ∧ W.cell? ⟨w.heap.size + 1, 0, none⟩ = some d0 ∧ W.cell? ⟨w.heap.size + 1, 1, none⟩ = some d1 ∧ W.cell? ⟨w.heap.size + 1, 2, none⟩ = some d2 := by
  have r0 := h.block ((Ext.alloc _ (.cells #[d0, d1, d2, d3, d4, d5, d6, d7, d8] t)).block (heap_alloc_new w (.cells #[c0, c1, c2, c3, c4, c5, c6, c7, c8] t)))
  have r1 := h.block (heap_alloc_new (w.alloc (.cells #[c0, c1, c2, c3, c4, c5, c6, c7, c8] t)) (.cells #[d0, d1, d2, d3, d4, d5, d6, d7, d8] t))
  rw [World.size_alloc] at r1
  exact ⟨cell_of_row W _ 0 _ _ _ r0, cell_of_row W _ 1 _ _ _ r0, cell_of_row W _ 2 _ _ _ r0, cell_of_row W _ 0 _ _ _ r1, cell_of_row W _ 1 _ _ _ r1, cell_of_row W _ 2 _ _ _ r1⟩

def sameS (x y : StaD) : Bool := (x.k == y.k) && (x.l == y.l) && (x.d == y.d) && sameF x.f y.f

set_option maxHeartbeats 4000000 in
theorem statusSame_calls (x y : StaD) (sx sy : Sl3) (w : World) (hx : Bys w (slV sx) x.f.b) (hy : Bys w (slV sy) y.f.b) : Calls Try.prog 10 #[.agg (staC x (slV sx)), .agg (staC y (slV sy))] w fun e w' => e = .returned (.bool (sameS x y)) ∧ Ext w w' := by
  have hE := Lib.hid (show ∀ o o', Ext w ((w.alloc o).alloc o') from fun o o' => (Ext.alloc w o).thenAlloc o')
  have kE := fun W h1 h2 => frameSame_calls x.f y.f sx sy W h1 h2
  have hs : sameS x y = ((x.k == y.k) && (x.l == y.l) && (x.d == y.d) && sameF x.f y.f) := rfl
  rw [hs]
  clear hs
  generalize sameF x.f y.f = t at *
  obtain ⟨sa, sn, sc⟩ := sx
  obtain ⟨ta, tn, tc⟩ := sy
  unfold frmC at kE
  unfold staC
  unfold slV at *
  simp only at *
  go_enter Try.func10, Try.ntmps10
  go_wp2_with fail
  all_goals
    first
      | (refine (kE _ (hx.ext (hE.out _ _)) (hy.ext (hE.out _ _))).mono ?_
         rintro e w1 ⟨rfl, h1⟩
         go_wp2_with fail
         go_ret
         exact ⟨by simp_all, (hE.out _ _).trans h1⟩)
      | (go_ret
         exact ⟨by simp_all, hE.out _ _⟩)

set_option maxHeartbeats 4000000 in
theorem refSame_calls (x y : StaD) (sx sy : Sl3) (w : World) (hx : Bys w (slV sx) x.f.b) (hy : Bys w (slV sy) y.f.b) : Calls Try.prog 8 #[.agg (staC x (slV sx)), .agg (staC y (slV sy))] w fun e w' => e = .returned (.bool (sameS x y)) ∧ Ext w w' := by
  have hE := Lib.hid (show ∀ o o', Ext w ((w.alloc o).alloc o') from fun o o' => (Ext.alloc w o).thenAlloc o')
  have kE := fun W h1 h2 => refFrameSame_calls x.f y.f sx sy W h1 h2
  have hs : sameS x y = ((x.k == y.k) && (x.l == y.l) && (x.d == y.d) && sameF x.f y.f) := rfl
  rw [hs]
  clear hs
  generalize sameF x.f y.f = t at *
  obtain ⟨sa, sn, sc⟩ := sx
  obtain ⟨ta, tn, tc⟩ := sy
  have a0 := fun c0 c1 c2 c3 c4 c5 c6 c7 c8 d0 d1 d2 d3 d4 d5 d6 d7 d8 => nine (w := w) (t := TSta) c0 c1 c2 c3 c4 c5 c6 c7 c8 d0 d1 d2 d3 d4 d5 d6 d7 d8
  unfold frmC at kE
  unfold staC
  unfold slV at *
  simp only at *
  have A := Lib.hid a0
  clear a0
  go_enter Try.func8, Try.ntmps8
  go_wp2_with fail
  refine (kE _ (hx.ext (hE.out _ _)) (hy.ext (hE.out _ _))).mono ?_
  rintro e w1 ⟨rfl, h1⟩
  have A1 := A.out _ _ _ _ _ _ _ _ _ _ _ _ _ _ _ _ _ _ w1 h1
  clear A
  obtain ⟨e0, e1, e2, f0, f1, f2⟩ := A1
  have hF := Lib.hid ((hE.out _ _).trans h1)
  clear h1 hE
  go_wp2_with fail
  all_goals
    go_ret
    exact ⟨by simp_all, hF.out⟩
end Go.Proofs.Ytcdaelgnankmfaa.VSta
