/- stamp: what stays while messages are read. -/
import Derived.Test.YtjhhcfadeankfaaVInV
import Derived.Test.YtjhhcfadeankfaaVStmDP
import Derived.Test.YtjhhcfadeankfaaVLeft
import Derived.Test.YtjhhcfadeankfaaVChB
import Derived.Test.YtjhhcfadeankfaaVSeqI
namespace Go.Proofs.Ytjhhcfadeankfaa.VMsg
open Go.RowKit Go.VBase Go.VRg Go.VEq VCst Go.VPlan VPlan Go.VOct VOct Go.VSeq

abbrev TLs : TypeId := 25
/-- Rows that nobody turns while messages are read. -/
def keepO : Obj → Bool
  | .cells _ t _ => t != TMsg && t != TLs
  | _ => false
def KpM (V W : World) : Prop := V.heap.size ≤ W.heap.size ∧ ∀ (k : Nat) (o : Obj), V.heap[k]? = some o → keepO o = true → W.heap[k]? = some o
theorem KpM.refl (V : World) : KpM V V := ⟨Nat.le_refl _, fun _ _ h _ => h⟩
theorem KpM.trans {A B C : World} (h : KpM A B) (k : KpM B C) : KpM A C := ⟨Nat.le_trans h.1 k.1, fun i o hi ho => k.2 i o (h.2 i o hi ho) ho⟩
theorem KpM.ext {A B : World} (h : Ext A B) : KpM A B := ⟨h.size, fun _ _ hk _ => h.block hk⟩
theorem KpM.put (W : World) (l : Nat) (o o' : Obj) (hl : W.heap[l]? = some o) (ho : o.isCells = false) : KpM W (W.putObj l o') :=
  ⟨by simp [World.putObj], fun k q hk hq => by
    by_cases e : k = l
    · subst e; rw [hl] at hk; cases hk
      cases o <;> first | (simp [Obj.isCells] at ho; done) | (simp [keepO] at hq)
    · exact (World.putObj_heap_other (fun h => e h)).trans hk⟩
/-- One row that may turn has turned. -/
theorem KpM.one {A W : World} {b : Nat} {o : Obj} (hs : A.heap.size ≤ W.heap.size) (hb : A.heap[b]? = some o) (ho : keepO o = false) (h : ∀ k, k < A.heap.size → k ≠ b → W.heap[k]? = A.heap[k]?) : KpM A W :=
  ⟨hs, fun k q hk hq => by
    by_cases e : k = b
    · subst e; rw [hb] at hk; cases hk; rw [ho] at hq; cases hq
    · exact (h k (Array.getElem?_eq_some_iff.1 hk).1 e).trans hk⟩
theorem cell_same {A W : World} {p : Addr} (h : W.heap[p.block]? = A.heap[p.block]?) : W.cell? p = A.cell? p := by
  unfold World.cell?; rw [h]
theorem InV.kpm {A W : World} {B : Nat} {st : Option (List UInt8)} (h : InV A TIn B st) (k : KpM A W) : InV W TIn B st := by
  obtain ⟨h1, h2⟩ := h
  cases st with
  | none =>
    obtain ⟨v, hb⟩ := h1
    refine ⟨⟨v, k.2 _ _ hb (by rfl)⟩, fun v' b a len cap hb' hv => ?_⟩
    rw [k.2 _ _ hb (by rfl)] at hb'
    obtain ⟨cur, mk, hc⟩ := h2 v' b a len cap (hb.trans hb') hv
    exact ⟨cur, mk, k.2 _ _ hc (by rfl)⟩
  | some l =>
    obtain ⟨v, hb, hv, hne⟩ := h1
    have hB := k.2 _ _ hb (by rfl)
    have hrow := fun a len cap e => h2 v _ a len cap hb e
    refine ⟨⟨v, hB, ?_, hne⟩, fun v' b a len cap hb' hv' => ?_⟩
    · obtain ⟨a, cap, e1, e2, e3, e4⟩ := hv
      refine ⟨a, cap, e1, e2, e3, fun hl => ?_⟩
      obtain ⟨b, off, rfl, hc⟩ := e4 hl
      obtain ⟨cur, mk, hr⟩ := hrow _ _ _ e1
      have hr' := k.2 _ _ hr (by rfl)
      exact ⟨b, off, rfl, fun i c hi => (cell_same (p := ⟨b, off + i, none⟩) (hr'.trans hr.symm)).trans (hc i c hi)⟩
    · rw [hB] at hb'
      obtain ⟨cur, mk, hc⟩ := h2 v' b a len cap (hb.trans hb') hv'
      exact ⟨cur, mk, k.2 _ _ hc (by rfl)⟩
theorem own_kpm {A W : World} {base : Nat} {v : Value} {l : List UInt8} (h : OwnB A base TB v l) (k : KpM A W) : OwnB W base TB v l := by
  refine ⟨h.1, ?_⟩
  rcases h.2 with hn | ⟨g, cap, cur, e1, e2, e3, rest⟩
  · exact .inl hn
  · exact .inr ⟨g, cap, cur, e1, e2, k.2 _ _ e3 (by rfl), rest⟩
/-- Behind 'pre' stands x. -/
def NxM (b0 : List UInt8) (B n : Nat) (pre : List (MsgD × Sl3)) (x : MsgD × Sl3) (V : World) : Prop :=
  ∃ l rest, RunM b0 (pre.map Prod.fst) l ∧ rdL l = some (x.1, rest) ∧ InV V TIn B (some rest) ∧ OwnB V n TB (slV x.2) x.1.b
/-- Nothing more is told. -/
def EndM (b0 : List UInt8) (B : Nat) (xs : List (MsgD × Sl3)) (V : World) : Prop :=
  ∃ l st, RunM b0 (xs.map Prod.fst) l ∧ ((l = [] ∧ st = some []) ∨ (l ≠ [] ∧ rdL l = none ∧ st = none)) ∧ InV V TIn B st
theorem NxM.kpm {b0 : List UInt8} {B n : Nat} {pre : List (MsgD × Sl3)} {x : MsgD × Sl3} {V W : World} (h : NxM b0 B n pre x V) (k : KpM V W) : NxM b0 B n pre x W := by
  obtain ⟨l, rest, h1, h2, h3, h4⟩ := h
  exact ⟨l, rest, h1, h2, InV.kpm h3 k, own_kpm h4 k⟩
theorem EndM.kpm {b0 : List UInt8} {B : Nat} {xs : List (MsgD × Sl3)} {V W : World} (h : EndM b0 B xs V) (k : KpM V W) : EndM b0 B xs W := by
  obtain ⟨l, st, h1, h2, h3⟩ := h
  exact ⟨l, st, h1, h2, InV.kpm h3 k⟩
/-- What the iterator does between the rounds. -/
def RitM (B : Nat) (V W : World) : Prop := TouchO B none V W ∧ ∃ c t mk, V.heap[B]? = some (.cells c t mk)
theorem RitM.others {B : Nat} {V W : World} (h : RitM B V W) : KeepsOthers V W :=
  ⟨h.1.size, fun k o hk ho => by
    by_cases e : k = B
    · subst e
      obtain ⟨c, t, mk, hc⟩ := h.2
      rw [hc] at hk; cases hk; cases ho
    · exact (h.1.block k (Array.getElem?_eq_some_iff.1 hk).1 e (by simp)).trans hk⟩
/-- How many bytes an In has left, by its cells. -/
def lenIn (W : World) (B : Nat) : Nat := match W.cell? ⟨B, 0, none⟩ with
  | some (.slice _ n _) => n
  | _ => 0
theorem lenIn_of {W : World} {B : Nat} {l : List UInt8} (h : InV W TIn B (some l)) : lenIn W B = l.length := by
  obtain ⟨⟨v, hb, ⟨a, cap, rfl, _⟩, _⟩, _⟩ := h
  unfold lenIn
  rw [cell_of_row W B 0 _ _ _ hb]
  rfl
/-- What a step of the region that reads a message's numbers may do. -/
def GeR (n B : Nat) (A W : World) : Prop :=
  A.heap.size ≤ W.heap.size ∧ (W.os = A.os ∧ W.tape = A.tape ∧ W.output = A.output) ∧ (∀ (k : Nat) (o : Obj), A.heap[k]? = some o → k ≠ B → (k < n ∨ ∀ c, o ≠ .cells c TMsg) → W.heap[k]? = some o) ∧
    (∀ (k : Nat) (c : Array Value), A.heap[k]? = some (.cells c TMsg) → k ≠ B → c.size = 4 → ∃ c' : Array Value, c'.size = 4 ∧ W.heap[k]? = some (.cells c' TMsg))
theorem GeR.refl (n B : Nat) (A : World) : GeR n B A A := ⟨Nat.le_refl _, ⟨rfl, rfl, rfl⟩, fun _ _ h _ _ => h, fun _ c h _ hc => ⟨c, hc, h⟩⟩
theorem GeR.trans {n B : Nat} {X Y Z : World} (h : GeR n B X Y) (k : GeR n B Y Z) : GeR n B X Z :=
  ⟨Nat.le_trans h.1 k.1, ⟨k.2.1.1.trans h.2.1.1, k.2.1.2.1.trans h.2.1.2.1, k.2.1.2.2.trans h.2.1.2.2⟩, fun i o hi hB ho => k.2.2.1 i o (h.2.2.1 i o hi hB ho) hB ho, fun i c hi hB hc => by
    obtain ⟨c1, h1, h2⟩ := h.2.2.2 i c hi hB hc
    exact k.2.2.2 i c1 h2 hB h1⟩
theorem GeR.touch {n B : Nat} {A W : World} (h : TouchO B none A W) : GeR n B A W :=
  ⟨h.size, ⟨h.os, h.tape, h.output⟩, fun k o hk hB _ => (h.block k (Array.getElem?_eq_some_iff.1 hk).1 hB (by simp)).trans hk, fun k c hk hB hc => ⟨c, hc, (h.block k (Array.getElem?_eq_some_iff.1 hk).1 hB (by simp)).trans hk⟩⟩
theorem GeR.ext {n B : Nat} {A W : World} (h : Ext A W) : GeR n B A W := GeR.touch (TouchO.of_ext h)
theorem GeR.set {n B b : Nat} {A : World} {c c' : Array Value} (hn : n ≤ b) (h : A.heap[b]? = some (.cells c TMsg)) (hc : c'.size = 4) : GeR n B A (A.setRow b c') := by
  refine ⟨by simp, ⟨rfl, rfl, rfl⟩, fun k o hk _ ho => ?_, fun k d hk _ hd => ?_⟩
  · by_cases e : k = b
    · subst e; rw [h] at hk; cases hk
      rcases ho with ho | ho
      · omega
      · exact absurd rfl (ho c)
    · exact (setRow_other _ _ _ _ e).trans hk
  · by_cases e : k = b
    · subst e; exact ⟨c', hc, setRow_heap _ _ _ _ _ _ h⟩
    · exact ⟨d, hd, (setRow_other _ _ _ _ e).trans hk⟩
theorem GeR.out {n B : Nat} {A W : World} (h : GeR n B A W) (hn : A.heap.size ≤ n) : TouchO B none A W :=
  ⟨h.2.1.1, h.2.1.2.1, h.2.1.2.2, h.1, fun k hk hB _ => by
    obtain ⟨o, ho⟩ : ∃ o, A.heap[k]? = some o := ⟨_, Array.getElem?_eq_getElem hk⟩
    rw [ho]; exact h.2.2.1 k o ho hB (.inl (by omega))⟩
/-- A box of a message's cells. -/
def MBox (n B : Nat) (v : Value) (W : World) : Prop := ∃ (b : Nat) (c : Array Value), v = .pointer (some ⟨b, 0, none⟩) ∧ n ≤ b ∧ b ≠ B ∧ c.size = 4 ∧ W.heap[b]? = some (.cells c TMsg)
theorem MBox.keep {n m B : Nat} (v : Value) (W W' : World) (h : GeR n B W W') : MBox m B v W → MBox m B v W' := by
  rintro ⟨b, c, h1, h2, h3, h4, h5⟩
  obtain ⟨c', h6, h7⟩ := h.2.2.2 b c h5 h3 h4
  exact ⟨b, c', h1, h2, h3, h6, h7⟩
/-- A box that holds this message's cells. -/
def MHas (n B : Nat) (m : MsgD) (u : Value) (v : Value) (W : World) : Prop := ∃ b : Nat, v = .pointer (some ⟨b, 0, none⟩) ∧ n ≤ b ∧ b ≠ B ∧ W.heap[b]? = some (.cells #[.int .i64 m.st, .int .i64 m.se, .int .i64 m.nu, u] TMsg)
theorem MHas.ext {n B : Nat} {m : MsgD} {u v : Value} {W W' : World} (h : MHas n B m u v W) (e : Ext W W') : MHas n B m u v W' := by
  obtain ⟨b, h1, h2, h3, h4⟩ := h
  exact ⟨b, h1, h2, h3, e.block h4⟩
def GetS (l : List UInt8) (n B : Nat) (m : MsgD) (σ : Nat → Value) (vs : List Value) (W : World) : Prop :=
  (vs.length = 0 → InV W TIn B (some l)) ∧ (vs.length = 1 → InV W TIn B (t8 l).2) ∧ (vs.length = 2 → InV W TIn B (t9 l).2) ∧ (3 ≤ vs.length → InV W TIn B (t13 l).2) ∧ (4 ≤ vs.length → MHas n B m (.slice none 0 0) (σ 10) W)
theorem GetS.ext {l : List UInt8} {n B : Nat} {m : MsgD} {σ : Nat → Value} {vs : List Value} {W W' : World} (h : GetS l n B m σ vs W) (e : Ext W W') : GetS l n B m σ vs W' :=
  ⟨fun k => (h.1 k).ext e, fun k => (h.2.1 k).ext e, fun k => (h.2.2.1 k).ext e, fun k => (h.2.2.2.1 k).ext e, fun k => (h.2.2.2.2 k).ext e⟩
theorem exec_storeMsgE {W : World} {o : Oper} {a : Act} {t t' : Tmp} {b : Nat} {m : MsgD} {ua : Option Addr} {un uc : Nat} {old : Array Value} {T' : TypeId} (h : W.heap[b]? = some (.cells old T')) (hold : old.size = 4) (ho : o.op = .store TMsg (.tmp t) (.tmp t')) (hx : a.eval (.tmp t) = .pointer (some ⟨b, 0, none⟩)) (hy : a.eval (.tmp t') = .agg #[.int .i64 m.st, .int .i64 m.se, .int .i64 m.nu, .slice ua un uc]) :
    (execOp a.eval o).run Try.prog W = .ok .skip (W.setRow b #[.int .i64 m.st, .int .i64 m.se, .int .i64 m.nu, .slice ua un uc]) := by
  unfold execOp
  simp only [ho, hx, hy, Instr.storeAt, Instr.sureAddr, Sem.run_bind, Sem.run_pure, Result.andThen_ok, run_storeVar_row (P := Try.prog) W b T' TMsg old #[.int .i64 m.st, .int .i64 m.se, .int .i64 m.nu, .slice ua un uc] h (by kernel_rfl) (by rw [hold]; rfl) (by simp [Value.oneCell'])]
theorem eff_storeMsgE {R : World → World → Prop} {q : Value → World → Prop} {W : World} {o : Oper} {a : Act} {t t' : Tmp} {b : Nat} {m : MsgD} {ua : Option Addr} {un uc : Nat} {old : Array Value} {T' : TypeId} (h : W.heap[b]? = some (.cells old T')) (hold : old.size = 4) (ho : o.op = .store TMsg (.tmp t) (.tmp t')) (hx : a.eval (.tmp t) = .pointer (some ⟨b, 0, none⟩)) (hy : a.eval (.tmp t') = .agg #[.int .i64 m.st, .int .i64 m.se, .int .i64 m.nu, .slice ua un uc])
    (hR : R W (W.setRow b #[.int .i64 m.st, .int .i64 m.se, .int .i64 m.nu, .slice ua un uc])) (hq : q undef (W.setRow b #[.int .i64 m.st, .int .i64 m.se, .int .i64 m.nu, .slice ua un uc])) : EffOut Try.prog R q W ((execOp a.eval o).run Try.prog W) := by
  rw [exec_storeMsgE h hold ho hx hy]; exact ⟨hR, hq⟩
/-- While the payload is read. -/
def PayF (n B b b1 b3 : Nat) (A : World) (st : Option (List UInt8)) (m : MsgD) (u : Value) (o1 o3 : Obj) (W : World) : Prop :=
  InV W TIn B st ∧ W.heap[b]? = some (.cells #[.int .i64 m.st, .int .i64 m.se, .int .i64 m.nu, u] TMsg) ∧ TouchO B none A W ∧ W.heap[b1]? = some o1 ∧ W.heap[b3]? = some o3 ∧ n ≤ W.heap.size
theorem PayF.touch {n B b b1 b3 : Nat} {A W W' : World} {st st' : Option (List UInt8)} {m : MsgD} {u : Value} {o1 o3 : Obj} (h : PayF n B b b1 b3 A st m u o1 o3 W) (t : TouchO B none W W') (hI : InV W' TIn B st') (hb : b ≠ B) (h1 : b1 ≠ B) (h3 : b3 ≠ B) : PayF n B b b1 b3 A st' m u o1 o3 W' := by
  have g : ∀ (k : Nat) (o : Obj), k ≠ B → W.heap[k]? = some o → W'.heap[k]? = some o := fun k o hk ho => (t.block k (Array.getElem?_eq_some_iff.1 ho).1 hk (by simp)).trans ho
  exact ⟨hI, g _ _ hb h.2.1, h.2.2.1.same t, g _ _ h1 h.2.2.2.1, g _ _ h3 h.2.2.2.2.1, Nat.le_trans h.2.2.2.2.2 t.size⟩
theorem PayF.ext {n B b b1 b3 : Nat} {A W W' : World} {st : Option (List UInt8)} {m : MsgD} {u : Value} {o1 o3 : Obj} (h : PayF n B b b1 b3 A st m u o1 o3 W) (e : Ext W W') : PayF n B b b1 b3 A st m u o1 o3 W' :=
  ⟨h.1.ext e, e.block h.2.1, h.2.2.1.same (TouchO.of_ext e), e.block h.2.2.2.1, e.block h.2.2.2.2.1, Nat.le_trans h.2.2.2.2.2 e.size⟩
def PayS (l : List UInt8) (n B b b1 b3 : Nat) (A : World) (m : MsgD) (o1 o3 : Obj) (vs : List Value) (W : World) : Prop :=
  (vs.length = 0 → PayF n B b b1 b3 A (t13 l).2 m (.slice none 0 0) o1 o3 W) ∧ (vs.length = 1 → PayF n B b b1 b3 A (t14 l).2 m (.slice none 0 0) o1 o3 W) ∧
  (vs.length = 2 → PayF n B b b1 b3 A (tPay l).2 m (.slice none 0 0) o1 o3 W ∧ OwnB W n TB (vs.getD 1 undef) (tPay l).1) ∧ (3 ≤ vs.length → PayF n B b b1 b3 A (tPay l).2 m (vs.getD 1 undef) o1 o3 W ∧ OwnB W n TB (vs.getD 1 undef) (tPay l).1)
theorem PayS.ext {l : List UInt8} {n B b b1 b3 : Nat} {A W W' : World} {m : MsgD} {o1 o3 : Obj} {vs : List Value} (h : PayS l n B b b1 b3 A m o1 o3 vs W) (e : Ext W W') : PayS l n B b b1 b3 A m o1 o3 vs W' :=
  ⟨fun k => (h.1 k).ext e, fun k => (h.2.1 k).ext e, fun k => ⟨(h.2.2.1 k).1.ext e, (h.2.2.1 k).2.ext e⟩, fun k => ⟨(h.2.2.2 k).1.ext e, (h.2.2.2 k).2.ext e⟩⟩
def clV (B : Nat) : Value := .func (.func 41) #[.pointer (some ⟨B, 0, none⟩)] #[]
theorem numB_wrap {l : List UInt8} (h : l.length ≤ 4) : IntKind.i64.wrap (numB l : Int) = (numB l : Int) := by
  have h1 := numB_lt l
  have h2 : (256 : Nat) ^ l.length ≤ 256 ^ 4 := Nat.pow_le_pow_right (by decide) h
  have h3 : (256 : Nat) ^ 4 = 4294967296 := by decide
  rw [IntKind.wrap_i64]; omega
theorem t_lens (l : List UInt8) : (t9 l).1.length ≤ 4 ∧ (t13 l).1.length ≤ 4 ∧ (t14 l).1.length ≤ 4 := by
  have g : ∀ (st : Option (List UInt8)) (k : Int), 0 ≤ k → k ≤ 4 → (inTake st k).1.length ≤ 4 := fun st k h0 h4 => by
    unfold inTake
    cases st with
    | none => exact Nat.zero_le _
    | some l =>
      simp only
      split
      · show (l.take k.toNat).length ≤ 4
        rw [List.length_take]; omega
      · exact Nat.zero_le _
  exact ⟨g _ 1 (by decide) (by decide), g _ 4 (by decide) (by decide), g _ 1 (by decide) (by decide)⟩
theorem eff_storeF3 {R : World → World → Prop} {q : Value → World → Prop} {W : World} {o : Oper} {a : Act} {t t' : Tmp} {b : Nat} {x0 x1 x2 x3 : Value} {ua : Option Addr} {un uc : Nat} {T' : TypeId} (h : W.heap[b]? = some (.cells #[x0, x1, x2, x3] T')) (ho : o.op = .store 22 (.tmp t) (.tmp t')) (hx : a.eval (.tmp t) = .pointer (some ⟨b, 3, none⟩)) (hy : a.eval (.tmp t') = .slice ua un uc)
    (hR : R W (W.setRow b #[x0, x1, x2, .slice ua un uc])) (hq : q undef (W.setRow b #[x0, x1, x2, .slice ua un uc])) : EffOut Try.prog R q W ((execOp a.eval o).run Try.prog W) := by
  have hc : W.cell? ⟨b, 3, none⟩ = some x3 := cell_of_row _ _ 3 _ _ _ h
  have hf := frozen_of_row W b 3 _ _ h
  have hs : W.setCell ⟨b, 3, none⟩ (.slice ua un uc) = W.setRow b #[x0, x1, x2, .slice ua un uc] := setCell_eq_setRow W b 3 _ _ _ _ h
  have e : (execOp a.eval o).run Try.prog W = .ok .skip (W.setRow b #[x0, x1, x2, .slice ua un uc]) := by
    rw [← hs]
    unfold execOp
    simp only [ho, hx, hy]
    go_simp
  rw [e]; exact ⟨hR, hq⟩
theorem inT_len (st : Option (List UInt8)) (k : Int) : (stAll (inTake st k).2).length ≤ (stAll st).length := by
  unfold inTake
  cases st with
  | none => exact Nat.le_refl _
  | some l =>
    simp only
    split
    · show (l.drop k.toNat).length ≤ l.length
      rw [List.length_drop]; omega
    · exact Nat.zero_le _
theorem tlen (l : List UInt8) : (stAll (t13 l).2).length ≤ l.length ∧ (stAll (t14 l).2).length ≤ l.length := by
  have a := inT_len (some l) 8
  have b := inT_len (t8 l).2 1
  have c := inT_len (t9 l).2 4
  have d := inT_len (t13 l).2 1
  have e : (stAll (some l)).length = l.length := rfl
  unfold t14 t13 t9 t8 at *
  omega
end Go.Proofs.Ytjhhcfadeankfaa.VMsg
