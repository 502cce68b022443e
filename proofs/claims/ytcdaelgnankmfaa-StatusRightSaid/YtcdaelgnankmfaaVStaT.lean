/- Frames: one of one's own (the reference's Twin). -/
import Derived.Test.YtcdaelgnankmfaaVFrm
import Derived.Test.YtcdaelgnankmfaaVRef01
namespace Go.Proofs.Ytcdaelgnankmfaa.VSta
open Go.RowKit Go.VBase Go.VRg Go.VEq VCst VMsg VRef01

theorem frm_other {w w' : World} {base e : Nat} {v : Value} {l : List UInt8} (h : OwnB w base e v l) (hk : ∀ k, base ≤ k → w'.heap[k]? = w.heap[k]?) : OwnB w' base e v l := by
  refine ⟨h.1, ?_⟩
  rcases h.2 with hn | ⟨g, cap, cur, rfl, hb, hg, rest⟩
  · exact .inl hn
  · exact .inr ⟨g, cap, cur, rfl, hb, (hk g hb).trans hg, rest⟩
theorem storeFrm {ops : Array Oper} {rest : List Oper} {o : Oper} {a : Act} {Q : Exit → Act → World → Prop} {W : World} {x y : Operand} {b : Nat} {T' : TypeId} {m : FrmD} {sa : Option Addr} {sn sc : Nat} {old : Array Value}
    (h : W.heap[b]? = some (.cells old T')) (hold : old.size = 6) (hgd : o.guard = none) (ho : o.op = .store TFrm x y) (hx : a.eval x = .pointer (some ⟨b, 0, none⟩)) (hy : a.eval y = .agg (frmC m (.slice sa sn sc)))
    (hk : wpList Try.prog ops Q rest (a.put o.dst undef) (W.setRow b (frmC m (.slice sa sn sc)))) : wpList Try.prog ops Q (o :: rest) a W :=
  wpList_store_row hgd _ _ _ ho b _ hx hy T' old h (by kernel_rfl) hold (by unfold frmC; simp [Value.oneCell']) hk

set_option maxRecDepth 100000 in
set_option maxHeartbeats 4000000 in
theorem twinF_calls (x : FrmD) (sx : Sl3) (w : World) (hx : Bys w (slV sx) x.b) (hl : x.b.length ≤ 140737488355328) :
    Calls Try.prog 6 #[.agg (frmC x (slV sx))] w fun e w' => ∃ u, e = .returned (.agg (frmC x u)) ∧ OwnB w' w.heap.size 5 u x.b ∧ Ext w w' := by
  have kB := fun W h => Twin_calls (slV sx) x.b W h hl
  unfold MadeB at kB
  obtain ⟨sa, sn, sc⟩ := sx
  unfold frmC
  unfold slV at *
  simp only at *
  go_enter Try.func6, Try.ntmps6
  have x0 := (Ext.alloc w (.cells #[.int .i64 x.k, .int .i64 x.r, .int .i64 x.s, .int .i64 x.m, .int .u16 x.v, .slice sa sn sc] TFrm)).thenAlloc (.cells #[.int .i64 0, .int .i64 0, .int .i64 0, .int .i64 0, .int .u16 0, .slice none 0 0] TFrm)
  have r0 := (Ext.alloc _ (.cells #[.int .i64 0, .int .i64 0, .int .i64 0, .int .i64 0, .int .u16 0, .slice none 0 0] TFrm)).block (heap_alloc_new w (.cells #[.int .i64 x.k, .int .i64 x.r, .int .i64 x.s, .int .i64 x.m, .int .u16 x.v, .slice sa sn sc] TFrm))
  have r1 := heap_alloc_new (w.alloc (.cells #[.int .i64 x.k, .int .i64 x.r, .int .i64 x.s, .int .i64 x.m, .int .u16 x.v, .slice sa sn sc] TFrm)) (.cells #[.int .i64 0, .int .i64 0, .int .i64 0, .int .i64 0, .int .u16 0, .slice none 0 0] TFrm)
  rw [World.size_alloc] at r1
  go_wp2_with fail
  refine (kB _ (hx.ext x0)).mono ?_
  rintro e w1 ⟨u, rfl, hu, h1⟩
  replace x0 := x0.trans h1
  replace r0 := h1.block r0
  replace r1 := h1.block r1
  simp only [World.size_alloc] at hu
  clear h1 kB hx
  obtain ⟨a, cap, rfl⟩ := hu.slice
  have c0 := cell_of_row w1 _ 0 _ _ _ r0
  have c1 := cell_of_row w1 _ 1 _ _ _ r0
  have c2 := cell_of_row w1 _ 2 _ _ _ r0
  have c3 := cell_of_row w1 _ 3 _ _ _ r0
  have c4 := cell_of_row w1 _ 4 _ _ _ r0
  have c5 := cell_of_row w1 _ 5 _ _ _ r0
  have f5 := frozen_of_row w1 _ 5 _ _ r0
  have x1 : Ext w (w1.setCell ⟨w.heap.size, 5, none⟩ (.slice a x.b.length cap)) := Below.setCell x0 (Nat.le_refl _) _
  have r2 := (heap_setCell_other w1 ⟨w.heap.size, 5, none⟩ (w.heap.size + 1) (.slice a x.b.length cap) (by simp)).trans r1
  clear r1
  go_wp2_with (refine storeFrm (m := x) (sa := a) (sn := x.b.length) (sc := cap) r2 rfl rfl rfl rfl rfl ?_)
  have rd := setRow_heap (w1.setCell ⟨w.heap.size, 5, none⟩ (.slice a x.b.length cap)) (w.heap.size + 1) _ (frmC x (.slice a x.b.length cap)) _ _ r2
  refine bodyPost_ret (results_cell_row rfl _ _ (w.heap.size + 1) _ _ _ _ (by rfl) rd Try.underlying28 rfl (by kernel_rfl)) rfl ?_
  refine ⟨_, rfl, OwnB.mono (frm_other hu fun k hk => ?_) (by omega), x1.setRow (by omega) _⟩
  rw [setRow_other _ _ _ _ (by omega), heap_setCell_other _ _ _ _ (by simp; omega)]
end Go.Proofs.Ytcdaelgnankmfaa.VSta
