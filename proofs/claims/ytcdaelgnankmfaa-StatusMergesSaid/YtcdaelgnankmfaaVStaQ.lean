/- Two frames of one's own put into two boxes. -/
import Derived.Test.YtcdaelgnankmfaaVStaP
import Derived.Test.YtcdaelgnankmfaaVStaT
import Derived.Deep.MidRow
namespace Go.Proofs.Ytcdaelgnankmfaa.VSta
open Go.RowKit Go.VBase Go.VRg Go.VEq VCst VMsg

theorem frm_range {W : World} {b : Nat} {x : StaD} {u : Value} {T : TypeId} (h : W.heap[b]? = some (.cells (staC x u) T)) : W.rangeAt b 3 (frmC x.f u).toList := fun j v hj => by
  have hl : j < 6 := (List.getElem?_eq_some_iff.1 hj).1
  refine (cell_of_row W b (3 + j) _ _ _ h).trans ?_
  match j, hl with
  | 0, _ => exact hj
  | 1, _ => exact hj
  | 2, _ => exact hj
  | 3, _ => exact hj
  | 4, _ => exact hj
  | 5, _ => exact hj
theorem exec_loadFrm {W : World} {o : Oper} {a : Act} {t : Tmp} {b : Nat} {x : StaD} {u : Value} {T' : TypeId} (h : W.heap[b]? = some (.cells (staC x u) T')) (ho : o.op = .load 28 (.tmp t)) (hx : a.eval (.tmp t) = .pointer (some ⟨b, 3, none⟩)) :
    (execOp a.eval o).run Try.prog W = .ok (.value (.agg (frmC x.f u))) W := by
  unfold execOp
  simp only [ho, hx, Sem.run_bind, run_loadAt_mid (P := Try.prog) W b 3 28 (frmC x.f u).toList _ (frm_range h) Try.underlying28 rfl (by kernel_rfl)]
  rfl
theorem frm_set {W : World} {b : Nat} {x : StaD} {u0 u : Value} {T : TypeId} (h : W.heap[b]? = some (.cells (staC x u0) T)) :
    (W.setCells b 3 (frmC x.f u).toList).heap[b]? = some (.cells (staC x u) T) ∧ (∀ k, k ≠ b → (W.setCells b 3 (frmC x.f u).toList).heap[k]? = W.heap[k]?) ∧ (∀ n, n ≤ b → Below n W (W.setCells b 3 (frmC x.f u).toList)) ∧ (W.setCells b 3 (frmC x.f u).toList).heap.size = W.heap.size := by
  have e : W.setCells b 3 (frmC x.f u).toList = (((((W.setCell ⟨b, 3, none⟩ (.int .i64 x.f.k)).setCell ⟨b, 4, none⟩ (.int .i64 x.f.r)).setCell ⟨b, 5, none⟩ (.int .i64 x.f.s)).setCell ⟨b, 6, none⟩ (.int .i64 x.f.m)).setCell ⟨b, 7, none⟩ (.int .u16 x.f.v)).setCell ⟨b, 8, none⟩ u := rfl
  rw [e]
  have h1 := heap_setCell_same W b 3 _ _ (.int .i64 x.f.k) h
  have h2 := heap_setCell_same _ b 4 _ _ (.int .i64 x.f.r) h1
  have h3 := heap_setCell_same _ b 5 _ _ (.int .i64 x.f.s) h2
  have h4 := heap_setCell_same _ b 6 _ _ (.int .i64 x.f.m) h3
  have h5 := heap_setCell_same _ b 7 _ _ (.int .u16 x.f.v) h4
  have h6 := heap_setCell_same _ b 8 _ _ u h5
  refine ⟨h6.trans rfl, fun k hk => ?_, fun n hn => ?_, ?_⟩
  · rw [heap_setCell_other _ _ _ _ hk, heap_setCell_other _ _ _ _ hk, heap_setCell_other _ _ _ _ hk, heap_setCell_other _ _ _ _ hk, heap_setCell_other _ _ _ _ hk, heap_setCell_other _ _ _ _ hk]
  · exact Below.setCell (Below.setCell (Below.setCell (Below.setCell (Below.setCell (Below.setCell (Below.refl _ _) hn _) hn _) hn _) hn _) hn _) hn _
  · simp only [World.size_setCell]
theorem frm_there {W : World} {b : Nat} {x : StaD} {u : Value} {T : TypeId} (h : W.heap[b]? = some (.cells (staC x u) T)) : W.there b 3 6 := fun j hj => by
  refine ⟨?_, frozen_of_row W b (3 + j) _ _ h⟩
  match j, hj with
  | 0, _ => rw [cell_of_row W b 3 _ _ _ h]; rfl
  | 1, _ => rw [cell_of_row W b 4 _ _ _ h]; rfl
  | 2, _ => rw [cell_of_row W b 5 _ _ _ h]; rfl
  | 3, _ => rw [cell_of_row W b 6 _ _ _ h]; rfl
  | 4, _ => rw [cell_of_row W b 7 _ _ _ h]; rfl
  | 5, _ => rw [cell_of_row W b 8 _ _ _ h]; rfl

/-- What stays while the two frames are put in. -/
def HasR (b : Nat) (x : StaD) (W : World) : Prop := ∃ u, W.heap[b]? = some (.cells (staC x u) TSta)
def DoneR (N b : Nat) (x : StaD) (W : World) : Prop := ∃ u, W.heap[b]? = some (.cells (staC x u) TSta) ∧ OwnB W N 5 u x.f.b
def FrmU (n : Nat) (f : FrmD) (v : Value) (W : World) : Prop := ∃ u, v = .agg (frmC f u) ∧ OwnB W n 5 u f.b
structure RR (n N b5 b6 : Nat) (x y : StaD) (W W' : World) : Prop where
  bel : Below n W W'
  size : W.heap.size ≤ W'.heap.size
  keep : ∀ k o, k ≠ b5 → k ≠ b6 → W.heap[k]? = some o → W'.heap[k]? = some o
  h5 : HasR b5 x W → HasR b5 x W'
  h6 : HasR b6 y W → HasR b6 y W'
  d5 : DoneR N b5 x W → DoneR N b5 x W'
  d6 : DoneR N b6 y W → DoneR N b6 y W'
theorem own_keep {W W' : World} {N e : Nat} {u : Value} {l : List UInt8} (h : OwnB W N e u l) (hk : ∀ k o, N ≤ k → W.heap[k]? = some o → W'.heap[k]? = some o) : OwnB W' N e u l := by
  refine ⟨h.1, ?_⟩
  rcases h.2 with hn | ⟨g, cap, cur, rfl, hb, hg, rest⟩
  · exact .inl hn
  · exact .inr ⟨g, cap, cur, rfl, hb, hk g _ hb hg, rest⟩
theorem RR.refl {n N b5 b6 : Nat} {x y : StaD} (W : World) : RR n N b5 b6 x y W W := ⟨Below.refl _ _, Nat.le_refl _, fun _ _ _ _ h => h, id, id, id, id⟩
theorem RR.trans {n N b5 b6 : Nat} {x y : StaD} {A B C : World} (h : RR n N b5 b6 x y A B) (k : RR n N b5 b6 x y B C) : RR n N b5 b6 x y A C :=
  ⟨h.bel.trans k.bel, Nat.le_trans h.size k.size, fun i o e1 e2 e => k.keep i o e1 e2 (h.keep i o e1 e2 e), k.h5 ∘ h.h5, k.h6 ∘ h.h6, k.d5 ∘ h.d5, k.d6 ∘ h.d6⟩
theorem RR.ext {n N b5 b6 : Nat} {x y : StaD} {W W' : World} (hn : n ≤ W.heap.size) (k : Ext W W') : RR n N b5 b6 x y W W' :=
  ⟨Below.mono k hn, k.size, fun _ _ _ _ h => k.block h, fun ⟨u, h⟩ => ⟨u, k.block h⟩, fun ⟨u, h⟩ => ⟨u, k.block h⟩, fun ⟨u, h, o⟩ => ⟨u, k.block h, o.ext k⟩, fun ⟨u, h, o⟩ => ⟨u, k.block h, o.ext k⟩⟩
theorem FrmU.rr {n N b5 b6 : Nat} {x y : StaD} {f : FrmD} (g5 : b5 < N) (g6 : b6 < N) (v : Value) (W W' : World) (h : RR n N b5 b6 x y W W') : FrmU N f v W → FrmU N f v W' :=
  fun ⟨u, e, o⟩ => ⟨u, e, own_keep o fun k q hk hq => h.keep k q (by omega) (by omega) hq⟩
theorem RR.set5 {n N b5 b6 : Nat} {x y : StaD} {W : World} {u : Value} (hne : b5 ≠ b6) (hn : n ≤ b5) (g5 : b5 < N) (h : HasR b5 x W) (o : OwnB W N 5 u x.f.b) :
    RR n N b5 b6 x y W (W.setCells b5 3 (frmC x.f u).toList) ∧ DoneR N b5 x (W.setCells b5 3 (frmC x.f u).toList) := by
  obtain ⟨u0, h0⟩ := h
  obtain ⟨e1, e2, e3, e4⟩ := frm_set (u := u) h0
  have ok : ∀ {v : Value} {l : List UInt8}, OwnB W N 5 v l → OwnB (W.setCells b5 3 (frmC x.f u).toList) N 5 v l := fun hv => own_keep hv fun k q hk hq => (e2 k (by omega)).trans hq
  exact ⟨⟨e3 n hn, Nat.le_of_eq e4.symm, fun k q k5 _ hq => (e2 k k5).trans hq, fun _ => ⟨u, e1⟩, fun ⟨u, h⟩ => ⟨u, (e2 b6 (Ne.symm hne)).trans h⟩, fun _ => ⟨u, e1, ok o⟩, fun ⟨u, h, q⟩ => ⟨u, (e2 b6 (Ne.symm hne)).trans h, ok q⟩⟩, u, e1, ok o⟩
theorem RR.set6 {n N b5 b6 : Nat} {x y : StaD} {W : World} {u : Value} (hne : b5 ≠ b6) (hn : n ≤ b6) (g6 : b6 < N) (h : HasR b6 y W) (o : OwnB W N 5 u y.f.b) :
    RR n N b5 b6 x y W (W.setCells b6 3 (frmC y.f u).toList) ∧ DoneR N b6 y (W.setCells b6 3 (frmC y.f u).toList) := by
  obtain ⟨u0, h0⟩ := h
  obtain ⟨e1, e2, e3, e4⟩ := frm_set (u := u) h0
  have ok : ∀ {v : Value} {l : List UInt8}, OwnB W N 5 v l → OwnB (W.setCells b6 3 (frmC y.f u).toList) N 5 v l := fun hv => own_keep hv fun k q hk hq => (e2 k (by omega)).trans hq
  exact ⟨⟨e3 n hn, Nat.le_of_eq e4.symm, fun k q _ k6 hq => (e2 k k6).trans hq, fun ⟨u, h⟩ => ⟨u, (e2 b5 hne).trans h⟩, fun _ => ⟨u, e1⟩, fun ⟨u, h, q⟩ => ⟨u, (e2 b5 hne).trans h, ok q⟩, fun _ => ⟨u, e1, ok o⟩⟩, u, e1, ok o⟩
theorem exec_storeFrm {W : World} {o : Oper} {a : Act} {t t' : Tmp} {b : Nat} {x : StaD} {u : Value} {sl : Sl3} (h : HasR b x W) (ho : o.op = .store 28 (.tmp t) (.tmp t')) (hx : a.eval (.tmp t) = .pointer (some ⟨b, 3, none⟩)) (hy : a.eval (.tmp t') = .agg (frmC x.f u)) (hu : u = slV sl) :
    (execOp a.eval o).run Try.prog W = .ok .skip (W.setCells b 3 (frmC x.f u).toList) := by
  subst hu
  obtain ⟨u0, h0⟩ := h
  unfold execOp
  simp only [ho, hx, hy, Sem.run_bind, run_storeAt_mid (P := Try.prog) W b 3 28 (frmC x.f (slV sl)) (frm_there h0) (by kernel_rfl) (by unfold frmC slV; simp [Value.oneCell'])]
  rfl
end Go.Proofs.Ytcdaelgnankmfaa.VSta
