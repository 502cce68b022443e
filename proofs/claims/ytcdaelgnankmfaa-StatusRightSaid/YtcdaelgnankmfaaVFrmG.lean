/- frame.form: what stands in memory while bytes are read. -/
import Derived.Test.YtcdaelgnankmfaaVFrmK
import Derived.Test.YtcdaelgnankmfaaVStaT
import Derived.Test.YtcdaelgnankmfaaVDec
import Derived.Test.YtcdaelgnankmfaaVCh
import Derived.Test.YtcdaelgnankmfaaVFrmE
import Derived.Laws.ResultCell
namespace Go.Proofs.Ytcdaelgnankmfaa.VSta
open Go.RowKit Go.VBase Go.VRg Go.VSeq Go.VOct VOct VCst Go.Proofs.Ytcdaelgnankmfaa.VCrc _root_.Go.VCrc VMsg

theorem runF_snoc {pre : List Int} {x : Int} : ∀ {f0 f : FrmD} {s st : Option (List UInt8)}, runF pre f0 s = (f, st, true) → runF (pre ++ [x]) f0 s = stepF x f st := by
  induction pre with
  | nil =>
    intro f0 f s st h
    simp only [runF, Prod.mk.injEq] at h
    obtain ⟨rfl, rfl, -⟩ := h
    show (match stepF x f0 s with | (f', st', true) => runF [] f' st' | (f', st', false) => (f', st', false)) = stepF x f0 s
    rcases stepF x f0 s with ⟨a, b, c⟩
    cases c <;> rfl
  | cons p pre ih =>
    intro f0 f s st h
    simp only [runF, List.cons_append] at h ⊢
    rcases hq : stepF p f0 s with ⟨a, b, c⟩
    rw [hq] at h
    cases c with
    | true => exact ih h
    | false => simp at h
theorem runF_stop {pre L : List Int} : ∀ {f0 f : FrmD} {s st : Option (List UInt8)}, runF pre f0 s = (f, st, false) → pre <+: L → runF L f0 s = (f, st, false) := by
  induction pre generalizing L with
  | nil => intro f0 f s st h _; simp [runF] at h
  | cons p pre ih =>
    intro f0 f s st h hp
    obtain ⟨t, rfl⟩ := hp
    simp only [runF, List.cons_append] at h ⊢
    rcases hq : stepF p f0 s with ⟨a, b, c⟩
    rw [hq] at h
    cases c with
    | true => exact ih h (List.prefix_append _ _)
    | false => exact h

/-- An In stays, if a block turns in which no byte lies. -/
theorem InAt.turn {W W' : World} {B b : Nat} {st : Option (List UInt8)} {cs : Array Value} {T : TypeId} (h : InAt W TIn B st) (hb : W.heap[b]? = some (.cells cs T)) (hn : ∀ (j : Nat) (c : Int), cs[j]? ≠ some (.int .u8 c)) (hB : b ≠ B) (hk : ∀ k, k ≠ b → W'.heap[k]? = W.heap[k]?) : InAt W' TIn B st := by
  cases st with
  | none => obtain ⟨v, h1⟩ := h; exact ⟨v, (hk B (Ne.symm hB)).trans h1⟩
  | some l =>
    obtain ⟨v, h1, h2, h3⟩ := h
    refine ⟨v, (hk B (Ne.symm hB)).trans h1, ?_, h3⟩
    obtain ⟨a, cap, e, hc1, hc2, hc⟩ := h2
    refine ⟨a, cap, e, hc1, hc2, fun hne => ?_⟩
    obtain ⟨q, off, e2, hcell⟩ := hc hne
    refine ⟨q, off, e2, fun i c hi => ?_⟩
    have hq : q ≠ b := fun eq => by
      have := hcell i c hi
      rw [eq, cell_of_row W b (off + i) _ _ _ hb] at this
      exact hn _ _ this
    exact (World.cell?_of_block (hk q hq)).trans (hcell i c hi)
theorem own_type {W : World} {n e b : Nat} {v : Value} {l : List UInt8} {cs : Array Value} {T : TypeId} (h : OwnB W n e v l) (hb : W.heap[b]? = some (.cells cs T)) (ht : e ≠ T) : v.ownBlock ≠ some b := fun hq => by
  rcases h.2 with hn | ⟨g, cap, cur, rfl, hbb, hg, rest⟩
  · rw [hn.1] at hq; cases hq
  · simp only [Value.ownBlock, Option.some.injEq] at hq
    subst hq
    rw [hg] at hb
    cases hb
    exact ht rfl

/-- The boxes, and the In, while bytes are read. -/
structure FmS (w W : World) (B b4 b5 b7 : Nat) (f : FrmD) (u : Value) (st : Option (List UInt8)) (ok : Bool) : Prop where
  inn : InAt W TIn B st
  p4 : W.heap[b4]? = some (.cells #[.pointer (some ⟨B, 0, none⟩)] 123)
  r5 : W.heap[b5]? = some (.cells (frmC f u) TFrm)
  own : OwnB W w.heap.size TB u f.b
  r7 : W.heap[b7]? = some (.cells #[.bool ok] 4)
  r2 : W.heap[w.heap.size]? = some (.cells (frmC (frm0 0) (.slice none 0 0)) TFrm)
  ext : Ext w W
  lt : w.heap.size < B ∧ B < b4 ∧ b4 < b5 ∧ b5 < b7
theorem frm_no8 (f : FrmD) {u : Value} {l : List UInt8} {W : World} {n : Nat} (h : OwnB W n TB u l) : ∀ (j : Nat) (c : Int), (frmC f u)[j]? ≠ some (.int .u8 c) := by
  obtain ⟨a, cap, rfl⟩ := h.slice
  intro j c
  unfold frmC
  match j with
  | 0 => simp
  | 1 => simp
  | 2 => simp
  | 3 => simp
  | 4 => simp
  | 5 => simp
  | j + 6 => simp
theorem FmS.touch {w W W' : World} {B b4 b5 b7 : Nat} {f : FrmD} {u : Value} {st st' : Option (List UInt8)} {ok : Bool} (h : FmS w W B b4 b5 b7 f u st ok) (hi : InAt W' TIn B st') (ht : TouchO B none W W') : FmS w W' B b4 b5 b7 f u st' ok := by
  obtain ⟨l1, l2, l3, l4⟩ := h.lt
  have hub : u.ownBlock ≠ some B := by
    obtain ⟨v, hv⟩ : ∃ v, W.heap[B]? = some (.cells v TIn) := by
      have := h.inn
      cases st with
      | none => obtain ⟨v, h1⟩ := this; exact ⟨_, h1⟩
      | some l => obtain ⟨v, h1, _⟩ := this; exact ⟨_, h1⟩
    exact own_type h.own hv (by decide)
  exact ⟨hi, touch_row ht h.p4 (by omega), touch_row ht h.r5 (by omega), own_touch ht h.own hub (by cases u.ownBlock <;> simp), touch_row ht h.r7 (by omega), touch_row ht h.r2 (by omega), Below.trans h.ext (ht.below h.ext.size (by omega) (fun _ e => by cases e)), h.lt⟩
theorem FmS.keepsT {w W W' : World} {B b4 b5 b7 : Nat} {f : FrmD} {u : Value} {st : Option (List UInt8)} {ok : Bool} (h : FmS w W B b4 b5 b7 f u st ok) (ht : TouchO B none W W') : KeepsOthers W W' :=
  ⟨ht.size, fun k o hk hc => touch_row ht hk (fun e => by
    subst e
    have hin := h.inn
    cases st with
    | none => obtain ⟨v, h1⟩ := hin; rw [h1] at hk; cases hk; cases hc
    | some l => obtain ⟨v, h1, _⟩ := hin; rw [h1] at hk; cases hk; cases hc)⟩
theorem FmS.later {w W W' : World} {B b4 b5 b7 : Nat} {f : FrmD} {u : Value} {st : Option (List UInt8)} {ok : Bool} (h : FmS w W B b4 b5 b7 f u st ok) (x : Ext W W') : FmS w W' B b4 b5 b7 f u st ok :=
  ⟨h.inn.ext x, x.block h.p4, x.block h.r5, h.own.ext x, x.block h.r7, x.block h.r2, h.ext.trans x, h.lt⟩
theorem inAt_not {W W' : World} {row : Option Nat} (hg : W.grownBy W' row) (hr : ∀ r, row = some r → ∃ o : Obj, W.heap[r]? = some o ∧ o.isCells = false) {B : Nat} {st : Option (List UInt8)} (h : InAt W TIn B st) : InAt W' TIn B st := by
  cases st with
  | none => obtain ⟨v, h1⟩ := h; exact ⟨v, cells_of_not hg hr h1⟩
  | some l =>
    obtain ⟨v, h1, h2, h3⟩ := h
    refine ⟨v, cells_of_not hg hr h1, ?_, h3⟩
    obtain ⟨a, cap, e, hc1, hc2, hc⟩ := h2
    refine ⟨a, cap, e, hc1, hc2, fun hne => ?_⟩
    obtain ⟨q, off, e2, hcell⟩ := hc hne
    refine ⟨q, off, e2, fun i c hi => ?_⟩
    have h0 := hcell i c hi
    have hlt : q < W.heap.size := World.block_lt_of_cell? _ _ h0
    refine (World.cell?_of_block (hg.block q hlt fun eq => ?_)).trans h0
    obtain ⟨o, ho, hoc⟩ := hr q eq.symm
    unfold World.cell? at h0
    simp only [ho] at h0
    cases o <;> simp [Obj.isCells] at hoc h0
theorem FmS.not {w W W' : World} {B b4 b5 b7 : Nat} {f : FrmD} {u : Value} {st : Option (List UInt8)} {ok : Bool} (h : FmS w W B b4 b5 b7 f u st ok) {row : Option Nat} (hg : W.grownBy W' row) (hr : ∀ g, row = some g → w.heap.size ≤ g ∧ ∃ o : Obj, W.heap[g]? = some o ∧ o.isCells = false) : FmS w W' B b4 b5 b7 f u st ok := by
  have hr' : ∀ g, row = some g → ∃ o : Obj, W.heap[g]? = some o ∧ o.isCells = false := fun g e => (hr g e).2
  exact ⟨inAt_not hg hr' h.inn, cells_of_not hg hr' h.p4, cells_of_not hg hr' h.r5, own_not hg hr' h.own, cells_of_not hg hr' h.r7, cells_of_not hg hr' h.r2, Below.trans h.ext (grown_below hg h.ext.size (fun k hk => (hr k hk).1)), h.lt⟩
/-- The frame's box turns. -/
theorem FmS.set5 {w W W' : World} {B b4 b5 b7 : Nat} {f g : FrmD} {u v : Value} {st : Option (List UInt8)} {ok : Bool} (h : FmS w W B b4 b5 b7 f u st ok) (h5 : W'.heap[b5]? = some (.cells (frmC g v) TFrm)) (hk : ∀ k, k ≠ b5 → W'.heap[k]? = W.heap[k]?) (hx : Below w.heap.size W W') (hv : OwnB W' w.heap.size TB v g.b) : FmS w W' B b4 b5 b7 g v st ok := by
  obtain ⟨l1, l2, l3, l4⟩ := h.lt
  exact ⟨InAt.turn h.inn h.r5 (frm_no8 f h.own) (by omega) hk, (hk _ (by omega)).trans h.p4, h5, hv, (hk _ (by omega)).trans h.r7, (hk _ (by omega)).trans h.r2, Below.trans h.ext hx, h.lt⟩
theorem own_turn {W W' : World} {n e b : Nat} {v : Value} {l : List UInt8} (h : OwnB W n e v l) (hne : v.ownBlock ≠ some b) (hk : ∀ k, k ≠ b → W'.heap[k]? = W.heap[k]?) : OwnB W' n e v l := by
  refine ⟨h.1, ?_⟩
  rcases h.2 with hn | ⟨g, cap, cur, rfl, hb, hg, rest⟩
  · exact .inl hn
  · exact .inr ⟨g, cap, cur, rfl, hb, (hk g (fun e => hne (by rw [← e]; rfl))).trans hg, rest⟩
theorem FmS.setC {w W : World} {B b4 b5 b7 : Nat} {f : FrmD} {u : Value} {st : Option (List UInt8)} {ok : Bool} (h : FmS w W B b4 b5 b7 f u st ok) (r s m v : Int) :
    FmS w ((((W.setCell ⟨b5, 1, none⟩ (.int .i64 r)).setCell ⟨b5, 2, none⟩ (.int .i64 s)).setCell ⟨b5, 3, none⟩ (.int .i64 m)).setCell ⟨b5, 4, none⟩ (.int .u16 v)) B b4 b5 b7 { f with r := r, s := s, m := m, v := v } u st ok := by
  have hlt : w.heap.size ≤ b5 := by have := h.lt; omega
  have h1 := heap_setCell_same W b5 1 _ _ (.int .i64 r) h.r5
  have h2 := heap_setCell_same _ b5 2 _ _ (.int .i64 s) h1
  have h3 := heap_setCell_same _ b5 3 _ _ (.int .i64 m) h2
  have h4 := heap_setCell_same _ b5 4 _ _ (.int .u16 v) h3
  have hk : ∀ k, k ≠ b5 → ((((W.setCell ⟨b5, 1, none⟩ (.int .i64 r)).setCell ⟨b5, 2, none⟩ (.int .i64 s)).setCell ⟨b5, 3, none⟩ (.int .i64 m)).setCell ⟨b5, 4, none⟩ (.int .u16 v)).heap[k]? = W.heap[k]? := fun k e => by
    rw [heap_setCell_other _ _ _ _ e, heap_setCell_other _ _ _ _ e, heap_setCell_other _ _ _ _ e, heap_setCell_other _ _ _ _ e]
  exact h.set5 (h4.trans rfl) hk (Below.setCell (Below.setCell (Below.setCell (Below.setCell (Below.refl _ _) hlt _) hlt _) hlt _) hlt _) (own_turn h.own (own_type h.own h.r5 (by decide)) hk)
theorem FmS.setS {w W : World} {B b4 b5 b7 : Nat} {f : FrmD} {u : Value} {st : Option (List UInt8)} {ok : Bool} (h : FmS w W B b4 b5 b7 f u st ok) (s : Int) :
    FmS w (W.setCell ⟨b5, 2, none⟩ (.int .i64 s)) B b4 b5 b7 { f with s := s } u st ok := by
  have hlt : w.heap.size ≤ b5 := by have := h.lt; omega
  have hk : ∀ k, k ≠ b5 → (W.setCell ⟨b5, 2, none⟩ (.int .i64 s)).heap[k]? = W.heap[k]? := fun k e => heap_setCell_other _ _ _ _ e
  exact h.set5 ((heap_setCell_same W b5 2 _ _ (.int .i64 s) h.r5).trans rfl) hk (Below.setCell (Below.refl _ _) hlt _) (own_turn h.own (own_type h.own h.r5 (by decide)) hk)
theorem FmS.setD {w W : World} {B b4 b5 b7 : Nat} {f : FrmD} {u v : Value} {d : List UInt8} {st : Option (List UInt8)} {ok : Bool} (h : FmS w W B b4 b5 b7 f u st ok) (hv : OwnB W w.heap.size TB v d) :
    FmS w (W.setCell ⟨b5, 5, none⟩ v) B b4 b5 b7 { f with b := d } v st ok := by
  have hlt : w.heap.size ≤ b5 := by have := h.lt; omega
  have hk : ∀ k, k ≠ b5 → (W.setCell ⟨b5, 5, none⟩ v).heap[k]? = W.heap[k]? := fun k e => heap_setCell_other _ _ _ _ e
  exact h.set5 ((heap_setCell_same W b5 5 _ _ v h.r5).trans rfl) hk (Below.setCell (Below.refl _ _) hlt _) (own_turn hv (own_type hv h.r5 (by decide)) hk)
/-- Whether it is right turns. -/
theorem FmS.set7 {w W : World} {B b4 b5 b7 : Nat} {f : FrmD} {u : Value} {st : Option (List UInt8)} {ok : Bool} (h : FmS w W B b4 b5 b7 f u st ok) (q : Bool) : FmS w (W.setCell ⟨b7, 0, none⟩ (.bool q)) B b4 b5 b7 f u st q := by
  obtain ⟨l1, l2, l3, l4⟩ := h.lt
  have hk : ∀ k, k ≠ b7 → (W.setCell ⟨b7, 0, none⟩ (.bool q)).heap[k]? = W.heap[k]? := fun k e => heap_setCell_other W ⟨b7, 0, none⟩ k _ e
  refine ⟨InAt.turn h.inn h.r7 (fun j c => ?_) (by omega) hk, (hk _ (by omega)).trans h.p4, (hk _ (by omega)).trans h.r5, ?_, (heap_setCell_same _ _ _ _ _ _ h.r7).trans rfl, (hk _ (by omega)).trans h.r2, Below.setCell h.ext (by show w.heap.size ≤ b7; omega) _, h.lt⟩
  · match j with
    | 0 => simp
    | j + 1 => simp
  · exact own_touch (r := none) (TouchO.of_setCell W 0 _) h.own (own_type h.own h.r7 (by decide)) (by cases u.ownBlock <;> simp)
theorem FmS.cells {w W : World} {B b4 b5 b7 : Nat} {f : FrmD} {u : Value} {st : Option (List UInt8)} {ok : Bool} (h : FmS w W B b4 b5 b7 f u st ok) :
    W.cell? ⟨b4, 0, none⟩ = some (.pointer (some ⟨B, 0, none⟩)) ∧ W.cell? ⟨b7, 0, none⟩ = some (.bool ok) ∧ W.frozen? ⟨b7, 0, none⟩ = false ∧ (∀ j, W.frozen? ⟨b5, j, none⟩ = false) ∧ W.cell? ⟨b5, 0, none⟩ = some (.int .i64 f.k) ∧ W.cell? ⟨b5, 1, none⟩ = some (.int .i64 f.r) ∧ W.cell? ⟨b5, 2, none⟩ = some (.int .i64 f.s) ∧ W.cell? ⟨b5, 3, none⟩ = some (.int .i64 f.m) ∧ W.cell? ⟨b5, 4, none⟩ = some (.int .u16 f.v) ∧ W.cell? ⟨b5, 5, none⟩ = some u :=
  ⟨cell_of_row W _ 0 _ _ _ h.p4, cell_of_row W _ 0 _ _ _ h.r7, frozen_of_row W _ 0 _ _ h.r7, fun j => frozen_of_row W _ j _ _ h.r5, cell_of_row W _ 0 _ _ _ h.r5, cell_of_row W _ 1 _ _ _ h.r5, cell_of_row W _ 2 _ _ _ h.r5, cell_of_row W _ 3 _ _ _ h.r5, cell_of_row W _ 4 _ _ _ h.r5, cell_of_row W _ 5 _ _ _ h.r5⟩

theorem results_row_tmp {P : Program} {fn : Func} {p u : Tmp} {ty : TypeId} (h : fn.results = #[.cell p ty, .tmp u]) (tmps : Array Value) (w : World) (g : Nat) (t : TypeId) (cs : Array Value) (fr : Nat × Nat) (d : TypeDesc)
    (hp : tmps.getD p undef = .pointer (some ⟨g, 0, none⟩)) (hg : w.heap[g]? = some (.cells cs t fr)) (hu : P.underlying ty = some d) (hd : (match d with | .struct _ | .array _ _ => true | _ => false) = true) (hi : (P.info? ty).map (·.size) = some cs.size) :
    (results fn tmps).run P w = .ok (.tuple #[.agg cs, tmps.getD u undef]) w := by
  rw [results_cell_tmp h, hp]
  simp [asAddr, run_loadVar_row w g t ty cs fr d hg hu hd hi, Result.andThen]
theorem exec_loadF {W : World} {o : Oper} {a : Act} {t : Tmp} {b : Nat} {f : FrmD} {u : Value} {T' : TypeId} {mk : Nat × Nat} (h : W.heap[b]? = some (.cells (frmC f u) T' mk)) (ho : o.op = .load 28 (.tmp t)) (hx : a.eval (.tmp t) = .pointer (some ⟨b, 0, none⟩)) :
    (execOp a.eval o).run Try.prog W = .ok (.value (.agg (frmC f u))) W := by
  unfold execOp
  simp only [ho, hx, Instr.loadAt, Instr.sureAddr, Sem.run_bind, Sem.run_pure, Result.andThen_ok, run_loadVar_row W b T' 28 (frmC f u) mk _ h Try.underlying28 rfl (by kernel_rfl)]
theorem exec_storeF {W : World} {o : Oper} {a : Act} {t t' : Tmp} {b : Nat} {f : FrmD} {sl : Sl3} {u : Value} {old : Array Value} {T' : TypeId} (h : W.heap[b]? = some (.cells old T')) (hold : old.size = 6) (ho : o.op = .store 28 (.tmp t) (.tmp t')) (hx : a.eval (.tmp t) = .pointer (some ⟨b, 0, none⟩)) (hy : a.eval (.tmp t') = .agg (frmC f u)) (hu : u = slV sl) :
    (execOp a.eval o).run Try.prog W = .ok .skip (W.setRow b (frmC f u)) := by
  subst hu
  unfold execOp
  simp only [ho, hx, hy, Instr.storeAt, Instr.sureAddr, Sem.run_bind, Sem.run_pure, Result.andThen_ok, run_storeVar_row (P := Try.prog) W b T' 28 old (frmC f (slV sl)) h (by kernel_rfl) (by rw [hold]; rfl) (by unfold frmC slV; simp [Value.oneCell'])]
theorem own_keepF {W W' : World} {n e b : Nat} {v : Value} {l : List UInt8} (h : OwnB W n e v l) (hne : v.ownBlock ≠ some b) (hk : ∀ k o, k ≠ b → W.heap[k]? = some o → W'.heap[k]? = some o) : OwnB W' n e v l := by
  refine ⟨h.1, ?_⟩
  rcases h.2 with hn | ⟨g, cap, cur, rfl, hb, hg, rest⟩
  · exact .inl hn
  · exact .inr ⟨g, cap, cur, rfl, hb, hk g _ (fun e => hne (by rw [← e]; rfl)) hg, rest⟩
theorem InLen.keep {W W' : World} {B : Nat} {st : Option (List UInt8)} (h : InLen W B st) (hk : ∀ o, W.heap[B]? = some o → W'.heap[B]? = some o) : InLen W' B st := by
  cases st with
  | none => obtain ⟨v, h1⟩ := h; exact ⟨v, hk _ h1⟩
  | some l => obtain ⟨a, cap, h1⟩ := h; exact ⟨a, cap, hk _ h1⟩
theorem putObj_other (W : World) (D : Nat) (o : Obj) {k : Nat} (h : k ≠ D) : (W.putObj D o).heap[k]? = W.heap[k]? := World.putObj_heap_other h
/-- All stays but a box, which takes a frame. -/
structure RT (n : Nat) (f : FrmD) (u : Value) (W W' : World) : Prop where
  bel : Below n W W'
  size : W.heap.size ≤ W'.heap.size
  keep : ∀ k o, k ≠ n → W.heap[k]? = some o → W'.heap[k]? = some o
  has : (∃ g v, W.heap[n]? = some (.cells (frmC g v) TFrm)) → ∃ g v, W'.heap[n]? = some (.cells (frmC g v) TFrm)
  done : W.heap[n]? = some (.cells (frmC f u) TFrm) → W'.heap[n]? = some (.cells (frmC f u) TFrm)
theorem RT.refl {n : Nat} {f : FrmD} {u : Value} (W : World) : RT n f u W W := ⟨Below.refl _ _, Nat.le_refl _, fun _ _ _ h => h, id, id⟩
theorem RT.trans {n : Nat} {f : FrmD} {u : Value} {A B C : World} (h : RT n f u A B) (k : RT n f u B C) : RT n f u A C :=
  ⟨h.bel.trans k.bel, Nat.le_trans h.size k.size, fun i o e q => k.keep i o e (h.keep i o e q), k.has ∘ h.has, k.done ∘ h.done⟩
theorem RT.ext {n : Nat} {f : FrmD} {u : Value} {W W' : World} (hn : n ≤ W.heap.size) (k : Ext W W') : RT n f u W W' :=
  ⟨Below.mono k hn, k.size, fun _ _ _ h => k.block h, fun ⟨g, v, h⟩ => ⟨g, v, k.block h⟩, fun h => k.block h⟩
theorem RT.set {n : Nat} {f : FrmD} {u : Value} {W : World} (h : ∃ g v, W.heap[n]? = some (.cells (frmC g v) TFrm)) : RT n f u W (W.setRow n (frmC f u)) ∧ (W.setRow n (frmC f u)).heap[n]? = some (.cells (frmC f u) TFrm) := by
  obtain ⟨g, v, h0⟩ := h
  have h1 := setRow_heap W n _ (frmC f u) _ _ h0
  exact ⟨⟨⟨rfl, rfl, rfl, by simp, fun k hk => setRow_other _ _ _ _ (by omega)⟩, by simp, fun k o e hq => (setRow_other _ _ _ _ e).trans hq, fun _ => ⟨f, u, h1⟩, fun _ => h1⟩, h1⟩
end Go.Proofs.Ytcdaelgnankmfaa.VSta
