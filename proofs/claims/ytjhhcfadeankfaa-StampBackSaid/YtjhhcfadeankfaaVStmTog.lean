/- stamp: may messages stand in one frame? -/
import Derived.Test.YtjhhcfadeankfaaVStmMap
namespace Go.Proofs.Ytjhhcfadeankfaa.VMsg
open Go.RowKit Go.VBase Go.VRg Go.VEq VCst Go.VPlan VPlan
open Go.ChangeMaps (setBlock heap_setBlock_same heap_setBlock_other)

def togP (p : PlanD) (l : List MsgD) : Prop := planOk p = true ∧ (l.length : Int) ≤ p.burst ∧ (∀ x ∈ l, mayB p x = true) ∧ l.Pairwise fun a b => cmpM a b ≠ 0
instance (p : PlanD) (l : List MsgD) : Decidable (togP p l) := by unfold togP; infer_instance
def togB (p : PlanD) (l : List MsgD) : Bool := decide (togP p l)

theorem storeMsg {ops : Array Oper} {rest : List Oper} {o : Oper} {a : Act} {Q : Exit → Act → World → Prop} {W : World} {x y : Operand} {b : Nat} {T' : TypeId} {m : MsgD} {s : Sl3} {old : Array Value}
    (h : W.heap[b]? = some (.cells old T')) (hold : old.size = 4) (hgd : o.guard = none) (ho : o.op = .store TMsg x y) (hx : a.eval x = .pointer (some ⟨b, 0, none⟩)) (hy : a.eval y = .agg #[.int .i64 m.st, .int .i64 m.se, .int .i64 m.nu, slV s])
    (hk : wpList Try.prog ops Q rest (a.put o.dst undef) (W.setRow b #[.int .i64 m.st, .int .i64 m.se, .int .i64 m.nu, slV s])) : wpList Try.prog ops Q (o :: rest) a W :=
  wpList_store_row hgd _ _ _ ho b _ hx hy T' old h (by kernel_rfl) hold (by unfold slV; simp [Value.oneCell']) hk

theorem loadMsgE {W : World} {b : Nat} {T : TypeId} {mk : Nat × Nat} {m : MsgD} {s : Sl3} (h : W.heap[b]? = some (.cells #[.int .i64 m.st, .int .i64 m.se, .int .i64 m.nu, slV s] T mk)) :
    (Instr.loadAt TMsg (.pointer (some ⟨b, 0, none⟩))).run Try.prog W = .ok (msgV m (slV s)) W := by
  simp only [Instr.loadAt, Instr.sureAddr, Sem.run_bind, Sem.run_pure, Result.andThen_ok, run_loadVar_row W b T TMsg _ mk _ h Try.underlying24 rfl (by kernel_rfl)]
  rfl
theorem ext_setBlock {w W : World} {B : Nat} {es : Array MapEntry} {clock : Nat} (h : Ext w W) (hb : W.heap[B]? = some (.map es clock)) (hB : w.heap.size ≤ B) (o : Obj) : Ext w (setBlock W B o) :=
  Below.trans h ⟨rfl, rfl, rfl, by simp [setBlock], fun k hk => heap_setBlock_other hb o (by omega)⟩

/-- What 'met[key]++' does: the map's states, and what is read of them. -/
structure Incr (B : Nat) (ks : List MsgD) (x : MsgD) (A' F : Obj) (c i : Int) : Prop where
  isA : ∃ es n, A' = .map es n
  isF : ∃ es n, F = .map es n
  lookA : ∀ W : World, MapI W B ks → (Instr.lookup TMap (.map (some B)) (keyV x) false).run Try.prog W = .ok (.int .i64 c) W
  lookA' : ∀ W : World, W.heap[B]? = some A' → (Instr.lookup TMap (.map (some B)) (keyV x) false).run Try.prog W = .ok (.int .i64 c) W
  lookF : ∀ W : World, W.heap[B]? = some F → (Instr.lookup TMap (.map (some B)) (keyV x) false).run Try.prog W = .ok (.int .i64 (c + 1)) W
  entA : ∀ W : World, MapI W B ks → (Instr.mapEntry TMap (.map (some B)) (keyV x)).run Try.prog W = .ok (.tuple #[.int .i64 c, .int .i64 i]) (setBlock W B A')
  entA' : ∀ W : World, W.heap[B]? = some A' → (Instr.mapEntry TMap (.map (some B)) (keyV x)).run Try.prog W = .ok (.tuple #[.int .i64 c, .int .i64 i]) (setBlock W B A')
  sto : ∀ W : World, W.heap[B]? = some A' → (Instr.entryStore TMap (.map (some B)) (.int .i64 i) (.int .i64 (c + 1))).run Try.prog W = .ok () (setBlock W B F)
  neA : F ≠ .map (entL ks).toArray ks.length
  neA' : F ≠ A'
  end' : (c = 0 ∧ (∀ y ∈ ks, cmpM y x ≠ 0) ∧ F = .map (entL (ks ++ [x])).toArray (ks ++ [x]).length) ∨ (c = 1 ∧ ∃ y ∈ ks, cmpM y x = 0)
theorem incr_states (B : Nat) (ks : List MsgD) (x : MsgD) (hw : ∀ m ∈ ks, Wfm m) (hx : Wfm x) (hp : ks.Pairwise fun a b => cmpM a b ≠ 0) : ∃ A' F c i, Incr B ks x A' F c i := by
  by_cases hex : ∃ y ∈ ks, cmpM y x = 0
  · have W0 : ∃ W : World, MapI W B ks ∨ True := ⟨default, .inr trivial⟩
    -- where it stands
    obtain ⟨m, hm, hc⟩ := hex
    obtain ⟨j, hj⟩ := List.getElem?_of_mem hm
    have hj2 : (entL ks)[j]? = some (⟨keyV x, .int .i64 1, j⟩ : MapEntry) := by rw [entL_get hj]; unfold entF; rw [keyV_of hc]
    have hex : ∃ y ∈ ks, cmpM y x = 0 := ⟨m, hm, hc⟩
    have ent : ∀ W : World, MapI W B ks → (Instr.mapEntry TMap (.map (some B)) (keyV x)).run Try.prog W = .ok (.tuple #[.int .i64 1, .int .i64 (j : Int)]) (setBlock W B (.map (entL ks).toArray ks.length)) := fun W h => by
      obtain ⟨j', h1, h2, _⟩ := entry_some h hw hx hex
      have : j' = j := by
        have a1 := entL_mem (List.mem_of_getElem? h1)
        obtain ⟨m', h3⟩ : ∃ m', ks[j']? = some m' := by
          have := (List.getElem?_eq_some_iff.1 h1).1
          rw [entL_len] at this
          exact get_some this
        have h4 := entL_get h3
        rw [h1] at h4
        have hk : keyV m' = keyV m := by
          have e1 := congrArg MapEntry.key (Option.some.inj h4)
          have e2 : keyV x = keyV m' := e1
          rw [← e2, keyV_of hc]
        rcases Nat.lt_trichotomy j' j with hlt | hlt | hlt
        · rw [List.pairwise_iff_getElem] at hp
          have i1 := List.getElem?_eq_some_iff.1 h3
          have i2 := List.getElem?_eq_some_iff.1 hj
          have := hp j' j i1.1 i2.1 hlt
          rw [i1.2, i2.2] at this
          exact absurd (keyV_inj hk) this
        · exact hlt
        · rw [List.pairwise_iff_getElem] at hp
          have i1 := List.getElem?_eq_some_iff.1 h3
          have i2 := List.getElem?_eq_some_iff.1 hj
          have := hp j j' i2.1 i1.1 hlt
          rw [i1.2, i2.2] at this
          exact absurd (keyV_inj hk.symm) this
      subst this
      exact h2
    refine ⟨.map (entL ks).toArray ks.length, .map ((entL ks).toArray.modify j fun e => { e with val := .int .i64 2 }) ks.length, 1, j, ⟨_, _, rfl⟩, ⟨_, _, rfl⟩, fun W h => look_some h hw hx hex, fun W h => look_some h hw hx hex, fun W h => look_two h hw hx hj2 hp, ent, ent, fun W h => store_some h hj2, ?_, ?_, .inr ⟨rfl, hex⟩⟩
    all_goals
      intro e
      simp only [Obj.map.injEq, and_true] at e
      have e2 := congrArg Array.toList e
      rw [Array.toList_modify, Go.ChangeMaps.modify_eq_set _ _ _ _ (by simpa using hj2)] at e2
      have e3 := congrArg (fun z => z[j]?) e2
      simp only [List.toList_toArray] at e3
      rw [List.getElem?_set_self (List.getElem?_eq_some_iff.1 hj2).1, hj2] at e3
      simp at e3
  · have hne : ∀ y ∈ ks, cmpM y x ≠ 0 := fun y hy h => hex ⟨y, hy, h⟩
    refine ⟨.map ((entL ks).toArray.push ⟨keyV x, .int .i64 0, ks.length⟩) (ks.length + 1), .map (entL (ks ++ [x])).toArray (ks ++ [x]).length, 0, ks.length, ⟨_, _, rfl⟩, ⟨_, _, rfl⟩, fun W h => look_none h hw hx hne, fun W h => look_push h hw hx hne hp,
      fun W h => look_some h (fun m hm => by rcases List.mem_append.1 hm with h | h; exact hw m h; simp at h; subst h; exact hx) hx ⟨x, by simp, cmpM_zero.2 ⟨rfl, rfl, rfl⟩⟩, fun W h => entry_none h hw hx hne, fun W h => entry_push h hw hx hne hp, fun W h => store_none h, ?_, ?_, .inl ⟨rfl, hne, rfl⟩⟩
    · intro e
      simp only [Obj.map.injEq] at e
      have := e.2
      simp at this
    · intro e
      simp only [Obj.map.injEq] at e
      have e2 := congrArg Array.toList e.1
      rw [entL_snoc] at e2
      simp [entF] at e2
/-- Only block B turns. -/
def RM (B : Nat) (a b : World) : Prop := a.grownBy b (some B)
/-- Of the map's states. -/
def NM (B : Nat) (ks : List MsgD) (A' F : Obj) (a b : World) : Prop :=
  a.grownBy b (some B) ∧ (MapI a B ks → MapI b B ks ∨ b.heap[B]? = some A') ∧ (a.heap[B]? = some A' → b.heap[B]? = some A') ∧ (a.heap[B]? = some F → b.heap[B]? = some F)
def FM (B : Nat) (ks : List MsgD) (A' F : Obj) (a b : World) : Prop :=
  a.grownBy b (some B) ∧ (a.heap[B]? = some A' ∨ a.heap[B]? = some F → b.heap[B]? = some A' ∨ b.heap[B]? = some F)
section
variable {B : Nat} {ks : List MsgD} {A' F : Obj} {a b c : World}
theorem NM.refl (a : World) : NM B ks A' F a a := ⟨grown_refl _ _, .inl, id, id⟩
theorem NM.trans (h : NM B ks A' F a b) (k : NM B ks A' F b c) : NM B ks A' F a c :=
  ⟨grown_trans h.1 k.1, fun hm => by
    rcases h.2.1 hm with h1 | h1
    · exact k.2.1 h1
    · exact .inr (k.2.2.1 h1), fun hm => k.2.2.1 (h.2.2.1 hm), fun hm => k.2.2.2 (h.2.2.2 hm)⟩
theorem FM.refl (a : World) : FM B ks A' F a a := ⟨grown_refl _ _, id⟩
theorem FM.trans (h : FM B ks A' F a b) (k : FM B ks A' F b c) : FM B ks A' F a c := ⟨grown_trans h.1 k.1, fun hm => k.2 (h.2 hm)⟩
theorem NM.sub (h : NM B ks A' F a b) : FM B ks A' F a b := ⟨h.1, fun hm => by
  rcases hm with h1 | h1
  · exact .inl (h.2.2.1 h1)
  · exact .inr (h.2.2.2 h1)⟩
theorem NM.of_ext (h : Ext a b) : NM B ks A' F a b := ⟨ext_grown _ _ _ h, fun hm => .inl (h.block hm), fun hm => h.block hm, fun hm => h.block hm⟩
end
theorem grown_setBlock {W : World} {B : Nat} {es : Array MapEntry} {n : Nat} (h : W.heap[B]? = some (.map es n)) (o : Obj) : W.grownBy (setBlock W B o) (some B) :=
  ⟨rfl, rfl, rfl, by simp [setBlock], fun i _ hi => heap_setBlock_other h o (fun e => hi (by rw [e]))⟩

set_option maxRecDepth 100000 in
set_option maxHeartbeats 8000000 in
theorem together_calls (p : PlanD) (l : List (MsgD × Sl3)) (v : Value) (w : World) (hv : MsgsE w v l) (hwf : ∀ x ∈ l, Wfm x.1) :
    Calls Try.prog 34 #[planV p, v] w fun e w' => e = .returned (.bool (togB p (l.map Prod.fst))) ∧ Ext w w' := by
  obtain ⟨a, cap, rfl, hcap, hcm, hop⟩ := hv
  have kc := fun W => Check_calls p W
  have r0 := heap_alloc_new w (.cells (planC p) 32)
  have x0 := Ext.alloc w (.cells (planC p) 32)
  have s0 : (w.alloc (.cells (planC p) 32)).heap.size = w.heap.size + 1 := by simp
  obtain ⟨W0, hW0⟩ : ∃ W0, W0 = w.alloc (.cells (planC p) 32) := ⟨_, rfl⟩
  rw [← hW0] at r0 x0 s0
  have H0 := Lib.hid hW0
  clear hW0
  obtain ⟨r, hr⟩ : ∃ r, togB p (l.map Prod.fst) = r := ⟨_, rfl⟩
  rw [hr]
  have HR := Lib.hid hr
  clear hr
  have HOP := Lib.hid (And.intro hop hwf)
  have hmm := @run_makeMap Try.prog
  clear hop hwf
  obtain ⟨ok, hok⟩ : ∃ ok, planOk p = ok := ⟨_, rfl⟩
  rw [hok] at kc
  have HK0 := Lib.hid hok
  clear hok
  unfold planV planC
  go_enter Try.func34, Try.ntmps34
  refine wp_seq_k fun K hK => ?_
  have HK := Lib.hid hK
  clear hK
  go_wp2_with fail
  refine HK.out _ _ ?_
  clear HK
  show Code.wp _ _ _ _ (w.alloc (.cells (planC p) 32))
  rw [← H0.out]
  clear H0
  refine wp_seq_k fun K hK => ?_
  have HK := Lib.hid hK
  clear hK
  go_wp2_with (refine loadPlanP r0 rfl rfl rfl ?_)
  refine (kc _).mono ?_
  rintro e w1 ⟨rfl, h1⟩
  have r1 := h1.block r0
  have x1 := x0.trans h1
  have s1 : w.heap.size + 1 ≤ w1.heap.size := by have := h1.size; omega
  clear r0 x0 h1 kc s0
  cases ok with
  | false =>
    rw [show (if false = true then (0 : Int) else 70) = 70 from rfl]
    go_wp2_with fail
    go_ret
    refine ⟨ret_bool ?_, x1⟩
    rw [← HR.out]
    exact (decide_eq_false (fun h => by have := h.1; rw [HK0.out] at this; cases this)).symm
  | true =>
  rw [show (if true = true then (0 : Int) else 70) = 0 from rfl]
  have c13 : w1.cell? ⟨w.heap.size, 13, none⟩ = some (.int .i64 p.burst) := planCell r1 rfl
  by_cases hbu : (l.length : Int) ≤ p.burst
  rotate_left
  · have hd : decide (p.burst < (l.length : Int)) = true := decide_eq_true (by omega)
    go_wp2_with fail
    go_ret
    refine ⟨ret_bool ?_, x1⟩
    rw [← HR.out]
    exact (decide_eq_false (fun h => by have := h.2.1; rw [List.length_map] at this; omega)).symm
  have hd : decide (p.burst < (l.length : Int)) = false := decide_eq_false (by omega)
  go_wp2_with fail
  refine HK.out _ _ ?_
  clear HK hd c13
  refine wp_seq_k fun K hK => ?_
  have HK := Lib.hid hK
  clear hK
  go_wp2_with fail
  refine HK.out _ _ ?_
  clear HK
  have i2 : MapI (w1.alloc (.map #[] 0)) w1.heap.size [] := heap_alloc_new w1 _
  have r2 := (Ext.alloc w1 (.map #[] 0)).block r1
  have x2 := x1.thenAlloc (.map #[] 0)
  have s2 : w1.heap.size < (w1.alloc (.map #[] 0)).heap.size := by simp
  generalize w1.alloc (.map #[] 0) = w2 at *
  obtain ⟨B, hB⟩ : ∃ B, w1.heap.size = B := ⟨_, rfl⟩
  rw [hB] at i2 s2 s1 ⊢
  clear hB r1 x1 hmm
  go_wp2_with fail
  go_loopw [21] (fun i wr => ∃ (j : Nat), j ≤ l.length ∧ i = .int .i64 (j : Int) ∧ MapI wr B ((l.take j).map Prod.fst) ∧ wr.heap[w.heap.size]? = some (.cells (planC p) 32) ∧ Ext w wr ∧ (∀ x ∈ (l.take j).map Prod.fst, mayB p x = true) ∧ ((l.take j).map Prod.fst).Pairwise fun a b => cmpM a b ≠ 0) (fun i _ => l.length - (intOf i).toNat)
  case atStart => exact ⟨0, Nat.zero_le _, rfl, by rw [List.take_zero]; exact i2, r2, x2, fun x hx => by simp at hx, by simp⟩
  case round =>
    clear i2 r2 x2 s2
    obtain ⟨j, hj, rfl, hm, hr, hE, hmay, hpw⟩ := hrel
    by_cases hlt : j < l.length
    · obtain ⟨x, hx⟩ := get_some hlt
      obtain ⟨b, off, rfl, d0, d1, d2, d3, hxb⟩ := HOP.out.1 j x hx
      have hwx := HOP.out.2 x (List.mem_of_getElem? hx)
      have hxl : x.2.2.1 = x.1.b.length := by
        obtain ⟨a', c', h1, _⟩ := hxb
        unfold slV at h1
        simp only [Value.slice.injEq] at h1
        exact h1.2.1
      have hwk : ∀ y ∈ (l.take j).map Prod.fst, Wfm y := fun y hy => by
        obtain ⟨z, hz, rfl⟩ := List.mem_map.1 hy
        exact HOP.out.2 z (List.mem_of_mem_take hz)
      have hsn : (l.take (j + 1)).map Prod.fst = (l.take j).map Prod.fst ++ [x.1] := by rw [take_snoc hx, List.map_append]; rfl
      obtain ⟨ks, hks⟩ : ∃ ks, ks = (l.take j).map Prod.fst := ⟨_, rfl⟩
      rw [← hks] at hm hmay hpw hwk hsn
      have HX := Lib.hid (And.intro hx hks)
      obtain ⟨x, s⟩ := x
      simp only at d0 d1 d2 d3 hwx hxl hsn
      have e0 := hE.cell d0
      have e1 := hE.cell d1
      have e2 := hE.cell d2
      have e3 := hE.cell d3
      have hjw : (j : Int) < (l.length : Int) := by omega
      have hjn1 : IntKind.i64.wrap ((j : Int) + 1) = (j : Int) + 1 := by rw [IntKind.wrap_i64]; unfold maxLen at hcm; omega
      have hBlt : B < wr.heap.size := (Array.getElem?_eq_some_iff.1 hm).1
      have hple : w.heap.size < wr.heap.size := (Array.getElem?_eq_some_iff.1 hr).1
      -- the variable m
      have xa := hE.thenAlloc (.cells #[.int .i64 0, .int .i64 0, .int .i64 0, .slice none 0 0] TMsg)
      have ra := heap_alloc_new wr (.cells #[.int .i64 0, .int .i64 0, .int .i64 0, .slice none 0 0] TMsg)
      have xb : Ext w ((wr.alloc (.cells #[.int .i64 0, .int .i64 0, .int .i64 0, .slice none 0 0] TMsg)).setRow wr.heap.size #[.int .i64 x.st, .int .i64 x.se, .int .i64 x.nu, slV s]) := xa.setRow (by have := hE.size; omega) _
      have rb := setRow_heap (wr.alloc (.cells #[.int .i64 0, .int .i64 0, .int .i64 0, .slice none 0 0] TMsg)) wr.heap.size _ #[.int .i64 x.st, .int .i64 x.se, .int .i64 x.nu, slV s] _ _ ra
      have mb : MapI ((wr.alloc (.cells #[.int .i64 0, .int .i64 0, .int .i64 0, .slice none 0 0] TMsg)).setRow wr.heap.size #[.int .i64 x.st, .int .i64 x.se, .int .i64 x.nu, slV s]) B ks := (setRow_other _ _ _ _ (by omega)).trans ((Ext.alloc wr _).block hm)
      have pb := (setRow_other (wr.alloc (.cells #[.int .i64 0, .int .i64 0, .int .i64 0, .slice none 0 0] TMsg)) wr.heap.size w.heap.size #[.int .i64 x.st, .int .i64 x.se, .int .i64 x.nu, slV s] (by omega)).trans ((Ext.alloc wr _).block hr)
      obtain ⟨W1, hW1⟩ : ∃ W1, W1 = (wr.alloc (.cells #[.int .i64 0, .int .i64 0, .int .i64 0, .slice none 0 0] TMsg)).setRow wr.heap.size #[.int .i64 x.st, .int .i64 x.se, .int .i64 x.nu, slV s] := ⟨_, rfl⟩
      rw [← hW1] at xb rb mb pb
      have H1 := Lib.hid hW1
      have HM := Lib.hid (And.intro hmay (And.intro hpw (And.intro hwk hsn)))
      clear hW1 hx hks d0 d1 d2 d3 hE xa hm hr hmay hpw hwk hsn
      go_wp2_with (refine storeMsg (m := x) (s := s) ra rfl rfl rfl rfl rfl ?_)
      show Code.wp _ _ _ _ ((wr.alloc (.cells #[.int .i64 0, .int .i64 0, .int .i64 0, .slice none 0 0] TMsg)).setRow wr.heap.size #[.int .i64 x.st, .int .i64 x.se, .int .i64 x.nu, slV s])
      rw [← H1.out]
      clear H1 ra
      obtain ⟨A', F, c, n, I⟩ := incr_states B ks x HM.out.2.2.1 hwx HM.out.2.1
      have hM : wr.heap.size < W1.heap.size := (Array.getElem?_eq_some_iff.1 rb).1
      have hcw : IntKind.i64.wrap (c + 1) = c + 1 := by rcases I.end' with ⟨h, _⟩ | ⟨h, _⟩ <;> (rw [h]; decide)
      refine wp_region_rg2 (FM B ks A' F) (NM B ks A' F) [(2, .known (keyV x)), (3, .known (.int .i64 c)), (5, .unk (fun v W => v = .tuple #[.int .i64 c, .int .i64 n] ∧ (W.heap[B]? = some A' ∨ W.heap[B]? = some F)) (fun v a b h hp => ⟨hp.1, h.2 hp.2⟩)), (6, .known (.int .i64 n)), (7, .last (fun _ W => W.heap[B]? = some F))] (by kernel_rfl) (by kernel_rfl) (by kernel_rfl) (fun _ _ => NM.sub) NM.refl (fun _ _ _ => NM.trans) FM.refl (fun _ _ _ => FM.trans) ?_
      intro σ
      simp only
      refine rg_pure (x := ?_) rfl (by rfl) (fun W hW => ?_) ?_; rotate_left
      · go_simp; with_reducible rfl
      simp only [Nat.reduceAdd, Act.put, List.setIfInBounds_toArray, List.set_cons_zero, List.set_cons_succ]
      refine rg_pure (x := msgV x (slV s)) rfl (by rfl) (fun W hW => exec_load (b := .pointer (some ⟨wr.heap.size, 0, none⟩)) rfl rfl (loadMsgE ((hW.1.block wr.heap.size hM (by intro e; cases e; omega)).trans rb))) ?_
      simp only [Nat.reduceAdd, Act.put, List.setIfInBounds_toArray, List.set_cons_zero, List.set_cons_succ]
      refine rg_known rfl (by rfl) (fun W hW hF => ?_) ?_
      · go_simp
        refine (keyOf_calls x s W).mono ?_
        rintro e W' ⟨rfl, h⟩
        exact ⟨_, rfl, NM.of_ext h, rfl⟩
      simp only [Nat.reduceAdd, Act.put, List.setIfInBounds_toArray, List.set_cons_zero, List.set_cons_succ]
      refine rg_known rfl (by rfl) (fun W hW hF => ?_) ?_
      · have hrun : (Instr.lookup TMap (.map (some B)) (keyV x) false).run Try.prog W = .ok (.int .i64 c) W := by
          rcases hW.2.1 mb with h | h
          · exact I.lookA W h
          · exact I.lookA' W h
        clear hF
        unfold execOp
        simp only [Act.eval]
        go_simp
        exact ⟨NM.refl _, rfl⟩
      simp only [Nat.reduceAdd, Act.put, List.setIfInBounds_toArray, List.set_cons_zero, List.set_cons_succ]
      refine rg_pure (x := ?_) rfl (by rfl) (fun W hW => ?_) ?_; rotate_left
      · go_simp; with_reducible rfl
      simp only [Nat.reduceAdd, Act.put, List.setIfInBounds_toArray, List.set_cons_zero, List.set_cons_succ]
      refine rg_unk rfl (by rfl) (fun W hW hF => ?_) ?_
      · have hs := hW.2.1 mb
        have hrun : (Instr.mapEntry TMap (.map (some B)) (keyV x)).run Try.prog W = .ok (.tuple #[.int .i64 c, .int .i64 n]) (setBlock W B A') := by
          rcases hs with h | h
          · exact I.entA W h
          · exact I.entA' W h
        have hmap : ∃ es m, W.heap[B]? = some (.map es m) := by
          rcases hs with h | h
          · exact ⟨_, _, h⟩
          · obtain ⟨es, m, e⟩ := I.isA
            exact ⟨es, m, by rw [h, e]⟩
        obtain ⟨es, m, hmap⟩ := hmap
        have hA := heap_setBlock_same hmap A'
        have hg := grown_setBlock hmap A'
        have hnF : W.heap[B]? = some F → False := fun e => by
          rcases hs with h | h
          · rw [h] at e; exact I.neA (Option.some.inj e).symm
          · rw [h] at e; exact I.neA' (Option.some.inj e).symm
        clear hF hs hW
        unfold execOp
        simp only [Act.eval]
        go_simp
        exact ⟨⟨hg, fun _ => .inr hA, fun _ => hA, fun e => (hnF e).elim⟩, rfl, .inl hA⟩
      simp only [Nat.reduceAdd, Act.put, List.setIfInBounds_toArray, List.set_cons_zero, List.set_cons_succ]
      refine rg_known rfl (by rfl) (fun W hW hF => ?_) ?_
      · obtain ⟨h5, _⟩ := hF 5 _ _ rfl (by kernel_rfl)
        generalize σ 5 = u at *
        subst h5
        clear hF
        go_simp
        exact ⟨NM.refl _, rfl⟩
      simp only [Nat.reduceAdd, Act.put, List.setIfInBounds_toArray, List.set_cons_zero, List.set_cons_succ]
      refine rg_last rfl (by rfl) (fun W hW hF => ?_) ?_
      · obtain ⟨_, h5⟩ := hF 5 _ _ rfl (by kernel_rfl)
        have hA : W.heap[B]? = some A' := by
          rcases h5 with h | h
          · exact h
          · rcases hW.2.1 mb with k | k
            · rw [k] at h; exact absurd (Option.some.inj h).symm I.neA
            · exact k
        have hrun := I.sto W hA
        obtain ⟨es, m, hAe⟩ := I.isA
        have hmap : W.heap[B]? = some (.map es m) := by rw [hA, hAe]
        have hFs := heap_setBlock_same hmap F
        have hg := grown_setBlock hmap F
        clear hF h5 hW
        unfold execOp
        simp only [Act.eval]
        go_simp
        exact ⟨⟨hg, fun _ => .inr hFs⟩, hFs⟩
      simp only [Nat.reduceAdd, Act.put, List.setIfInBounds_toArray, List.set_cons_zero, List.set_cons_succ]
      refine rg_done' fun W2 hW hF hL => ?_
      have f2 : W2.heap[B]? = some F := hL 7 _ rfl (by decide)
      have p2 := (hW.1.block w.heap.size (by have : w.heap.size < W1.heap.size := (Array.getElem?_eq_some_iff.1 pb).1; exact this) (by intro e; cases e; omega)).trans pb
      have q2 := (hW.1.block wr.heap.size hM (by intro e; cases e; omega)).trans rb
      have x2 : Ext w W2 := Below.trans xb (grown_below (grown_drew hW.1) xb.size (fun k hk => by cases hk; omega))
      clear hF hL hW mb pb rb xb hM
      have km := fun W => may_calls p x s hxl W
      obtain ⟨y, hy⟩ : ∃ y, mayB p x = y := ⟨_, rfl⟩
      rw [hy] at km
      have HY := Lib.hid hy
      clear hy
      go_wp2_with (first | (refine loadPlanP p2 rfl rfl rfl ?_) | (refine loadMsg q2 rfl rfl rfl ?_))
      refine (km _).mono ?_
      rintro e w3 ⟨rfl, h3⟩
      have f3 := h3.block f2
      have p3 := h3.block p2
      have q3 := h3.block q2
      have x3 := x2.trans h3
      clear f2 p2 q2 x2 h3 km
      have hfalse : ∀ (hbad : y = false ∨ c = 1), togB p (l.map Prod.fst) = false := fun hbad => decide_eq_false fun ht => by
        have hjm : (l.map Prod.fst)[j]? = some x := by rw [List.getElem?_map, HX.out.1]; rfl
        rcases hbad with hb | hb
        · have := ht.2.2.1 x (List.mem_of_getElem? hjm)
          rw [HY.out, hb] at this; cases this
        · rcases I.end' with ⟨h0, _⟩ | ⟨_, z, hz, hzc⟩
          · omega
          · obtain ⟨i', hi'⟩ := List.getElem?_of_mem hz
            have hil : i' < ks.length := (List.getElem?_eq_some_iff.1 hi').1
            have hil2 : i' < j := by rw [HX.out.2, List.length_map, List.length_take] at hil; omega
            have him : (l.map Prod.fst)[i']? = some z := by
              rw [HX.out.2, List.map_take, List.getElem?_take] at hi'
              rw [if_pos hil2] at hi'
              exact hi'
            have hpw := ht.2.2.2
            rw [List.pairwise_iff_getElem] at hpw
            have i1 := List.getElem?_eq_some_iff.1 him
            have i2 := List.getElem?_eq_some_iff.1 hjm
            have := hpw i' j i1.1 i2.1 hil2
            rw [i1.2, i2.2] at this
            exact this hzc
      have HFa := Lib.hid hfalse
      clear hfalse
      cases y with
      | false =>
        go_wp2_with fail
        go_ret
        exact ⟨ret_bool (by rw [← HR.out]; exact (HFa.out (by simp)).symm), x3⟩
      | true =>
        go_wp2_with (first | (refine loadMsgw q3 rfl rfl rfl ?_))
        refine (keyOf_calls x s _).mono ?_
        rintro e w4 ⟨rfl, h4⟩
        have f4 := h4.block f3
        have p4 := h4.block p3
        have x4 := x3.trans h4
        have hrun := I.lookF w4 f4
        clear f3 p3 q3 x3 h4
        have hcc : c = 0 ∨ c = 1 := by rcases I.end' with ⟨h, _⟩ | ⟨h, _⟩ <;> omega
        unfold keyV at hrun
        rcases hcc with hc0 | hc1
        · rcases I.end' with ⟨_, hne, hFe⟩ | ⟨h1, _⟩
          rotate_left
          · omega
          have hc0' : c + 1 = 1 := by omega
          rw [hc0'] at hrun
          have HF4 := Lib.hid (And.intro f4 (And.intro hne hFe))
          clear hcw hc0 hc0' f4 hne hFe I
          go_wp2_with fail
          go_roundw
          case rel =>
            have hsn := HM.out.2.2.2
            refine ⟨j + 1, by omega, by go_num, ?_, p4, x4, ?_, ?_⟩
            · rw [hsn]
              show w4.heap[B]? = _
              rw [HF4.out.1, HF4.out.2.2]
            · intro z hz
              rw [hsn] at hz
              rcases List.mem_append.1 hz with hz | hz
              · exact HM.out.1 z hz
              · simp at hz; subst hz; exact HY.out
            · rw [hsn, List.pairwise_append]
              exact ⟨HM.out.2.1, by simp, fun a ha b hb => by simp at hb; subst hb; exact HF4.out.2.1 a ha⟩
          case measure => simp [intOf]; omega
        · subst hc1
          have hd2 : decide ((1 : Int) < 1 + 1) = true := by decide
          clear hcw f4
          go_wp2_with fail
          go_ret
          exact ⟨ret_bool (by rw [← HR.out]; exact (HFa.out (by simp)).symm), x4⟩
    · have hjl : j = l.length := by omega
      subst hjl
      rw [List.take_length] at hmay hpw
      have HM := Lib.hid (And.intro hmay hpw)
      clear hm hr hmay hpw
      have hjn : decide ((l.length : Int) < (l.length : Int)) = false := by simp
      go_wp2_with fail
      go_ret
      refine ⟨ret_bool ?_, hE⟩
      rw [← HR.out]
      exact (decide_eq_true (⟨HK0.out, by rw [List.length_map]; exact hbu, HM.out.1, HM.out.2⟩ : togP p (l.map Prod.fst))).symm
end Go.Proofs.Ytjhhcfadeankfaa.VMsg
