/- stamp: Decode. -/
import Derived.Test.YtjhhcfadeankfaaVStmDI
import Derived.Test.YtjhhcfadeankfaaVOwnIn
namespace Go.Proofs.Ytjhhcfadeankfaa.VMsg
open Go.RowKit Go.VBase Go.VRg Go.VEq VCst Go.VPlan VPlan Go.VOct VOct Go.VSeq

theorem KpM.grown {V W : World} {row : Option Nat} (hg : V.grownBy W row) (hr : ∀ r, row = some r → ∃ o : Obj, V.heap[r]? = some o ∧ keepO o = false) : KpM V W :=
  ⟨hg.size, fun k o hk ho => (hg.block k (Array.getElem?_eq_some_iff.1 hk).1 (fun e => by
    obtain ⟨o', h1, h2⟩ := hr k e.symm
    rw [hk] at h1; cases h1; rw [ho] at h2; cases h2)).trans hk⟩
theorem keepO_cells {o : Obj} (h : o.isCells = false) : keepO o = false := by cases o <;> first | rfl | (simp [Obj.isCells] at h)
theorem KpM.own {A W : World} {n0 : Nat} {v : Value} {l : List (MsgD × Sl3)} (h : OwnG encM 4 A n0 TMsg v l) (hg : A.grownBy W v.ownBlock) : KpM A W :=
  KpM.grown hg (fun r e => by
    rcases h.2 with hn | ⟨g, cap, cur, rfl, hb, hgg, rest⟩
    · rw [hn.1] at e; cases e
    · cases e; exact ⟨_, hgg, rfl⟩)
theorem InV.kpin {A W : World} {B : Nat} {st : Option (List UInt8)} (h : InV A TIn B st) (k : ∀ (k : Nat) (c : Array Value) (t : TypeId) (mk : Nat × Nat), A.heap[k]? = some (.cells c t mk) → (t = TIn ∨ t = TB) → W.heap[k]? = some (.cells c t mk)) : InV W TIn B st := by
  obtain ⟨h1, h2⟩ := h
  cases st with
  | none =>
    obtain ⟨v, hb⟩ := h1
    have hB := k _ _ _ _ hb (.inl rfl)
    refine ⟨⟨v, hB⟩, fun v' b a len cap hb' hv => ?_⟩
    rw [hB] at hb'
    obtain ⟨cur, mk, hc⟩ := h2 v' b a len cap (hb.trans hb') hv
    exact ⟨cur, mk, k _ _ _ _ hc (.inr rfl)⟩
  | some l =>
    obtain ⟨v, hb, hv, hne⟩ := h1
    have hB := k _ _ _ _ hb (.inl rfl)
    have hrow := fun a len cap e => h2 v _ a len cap hb e
    refine ⟨⟨v, hB, ?_, hne⟩, fun v' b a len cap hb' hv' => ?_⟩
    · obtain ⟨a, cap, e1, e2, e3, e4⟩ := hv
      refine ⟨a, cap, e1, e2, e3, fun hl => ?_⟩
      obtain ⟨b, off, rfl, hc⟩ := e4 hl
      obtain ⟨cur, mk, hr⟩ := hrow _ _ _ e1
      have hr' := k _ _ _ _ hr (.inr rfl)
      exact ⟨b, off, rfl, fun i c hi => (cell_same (p := ⟨b, off + i, none⟩) (hr'.trans hr.symm)).trans (hc i c hi)⟩
    · rw [hB] at hb'
      obtain ⟨cur, mk, hc⟩ := h2 v' b a len cap (hb.trans hb') hv'
      exact ⟨cur, mk, k _ _ _ _ hc (.inr rfl)⟩
structure LpC (w : World) (n0 bl bm bp M : Nat) (p : PlanD) (pre : List (MsgD × Sl3)) (W : World) : Prop where
  row : ∃ v, W.heap[bl]? = some (.cells #[v] TLs) ∧ OwnG encM 4 W n0 TMsg v pre
  pays : ∀ x ∈ pre, OwnB W n0 TB (slV x.2) x.1.b
  many : W.heap[bm]? = some (.cells #[.int .i64 (M : Int)] 3)
  plan : W.heap[bp]? = some (.cells (planC p) 32)
  ext : Ext w W
  size : n0 ≤ W.heap.size
theorem LpC.grown {w : World} {n0 bl bm bp M : Nat} {p : PlanD} {pre : List (MsgD × Sl3)} {A W : World} {row : Option Nat} (h : LpC w n0 bl bm bp M p pre A) (hg : A.grownBy W row) (hw : w.heap.size ≤ n0) (hr : ∀ r, row = some r → n0 ≤ r ∧ ∃ o : Obj, A.heap[r]? = some o ∧ o.isCells = false) : LpC w n0 bl bm bp M p pre W := by
  have hne : ∀ (k : Nat) (o : Obj), A.heap[k]? = some o → o.isCells = true → W.heap[k]? = some o := fun k o hk ho => (hg.block k (Array.getElem?_eq_some_iff.1 hk).1 (fun e => by
    obtain ⟨_, o', h1, h2⟩ := hr k e.symm
    rw [hk] at h1; cases h1; rw [ho] at h2; cases h2)).trans hk
  obtain ⟨⟨v, h1, h2⟩, h3, h4, h5, h6, h7⟩ := h
  refine ⟨⟨v, hne _ _ h1 rfl, h2.grown hg ?_⟩, fun x hx => own_kpm (h3 x hx) (KpM.grown hg (fun r e => by obtain ⟨_, o, a, b⟩ := hr r e; exact ⟨o, a, keepO_cells b⟩)), hne _ _ h4 rfl, hne _ _ h5 rfl, Below.trans h6 (grown_below hg h6.size (fun k e => Nat.le_trans hw (hr k e).1)), Nat.le_trans h7 hg.size⟩
  cases hv : v.ownBlock with
  | none => exact .inl rfl
  | some g =>
    right; intro e
    obtain ⟨_, o, ho, hoc⟩ := hr g e.symm
    rw [ownG_cells h2 hv ho] at hoc; cases hoc
theorem LpC.rit {w : World} {n0 bl bm bp M B : Nat} {p : PlanD} {pre : List (MsgD × Sl3)} {A W : World} (h : LpC w n0 bl bm bp M p pre A) (t : TouchO B none A W) (hwB : w.heap.size ≤ B) (hB : B < n0) (h1 : bl ≠ B) (h2 : bm ≠ B) (h3 : bp ≠ B) : LpC w n0 bl bm bp M p pre W := by
  have hne : ∀ (k : Nat) (o : Obj), k ≠ B → A.heap[k]? = some o → W.heap[k]? = some o := fun k o hk ho => (t.block k (Array.getElem?_eq_some_iff.1 ho).1 hk (by simp)).trans ho
  have hg : A.grownBy W (some B) := ⟨t.os, t.tape, t.output, t.size, fun k hk hne => t.block k hk (fun e => hne (by rw [e])) (by simp)⟩
  obtain ⟨⟨v, a1, a2⟩, a3, a4, a5, a6, a7⟩ := h
  refine ⟨⟨v, hne _ _ h1 a1, a2.grown hg ?_⟩, fun x hx => (a3 x hx).grown hg ?_, hne _ _ h2 a4, hne _ _ h3 a5, Below.trans a6 (grown_below hg a6.size (fun k e => (by cases e; exact hwB))), Nat.le_trans a7 t.size⟩
  · cases hv : v.ownBlock with
    | none => exact .inl rfl
    | some g => right; intro e; have := a2.lt g hv; cases e; omega
  · cases hv : (slV x.2).ownBlock with
    | none => exact .inl rfl
    | some g => right; intro e; have := (a3 x hx).lt g hv; cases e; omega
/-- What stands behind the loop. -/
def FinM (M : Nat) (b0 : List UInt8) (xs : List MsgD) (st : Option (List UInt8)) : Prop :=
  (st = some [] ∧ xs.length = M → parseN M b0 = some xs) ∧ (¬ (st = some [] ∧ xs.length = M) → parseN M b0 = none)
theorem EndM.fin {b0 : List UInt8} {B M : Nat} {xs : List (MsgD × Sl3)} {W : World} (h : EndM b0 B xs W) : ∃ l st, RunM b0 (xs.map Prod.fst) l ∧ InV W TIn B st ∧ FinM M b0 (xs.map Prod.fst) st := by
  obtain ⟨l, st, h1, h2, h3⟩ := h
  refine ⟨l, st, h1, h3, ?_⟩
  rcases h2 with ⟨rfl, rfl⟩ | ⟨g1, g2, rfl⟩
  · refine ⟨fun h => by rw [h1.whole M, if_pos h.2], fun h => by rw [h1.whole M, if_neg (fun e => h ⟨rfl, e⟩)]⟩
  · exact ⟨fun h => (by cases h.1), fun _ => h1.stuck g1 g2 M⟩
theorem fin_stop {b0 : List UInt8} {M : Nat} {xs : List MsgD} {l : List UInt8} (h : RunM b0 xs l) (hl : xs.length = M + 1) : FinM M b0 xs (some l) :=
  ⟨fun e => by omega, fun _ => h.short M (by omega)⟩
def manyN (b : List UInt8) : Nat := match b with | [] => 0 | c :: _ => c.toNat
theorem decSM_eq (p : PlanD) (b : List UInt8) : decSM p b = if manyN b = 0 ∧ 0 < b.length then none else match parseN (manyN b) (b.drop 1) with
    | some xs => if togB p xs then some xs else none
    | none => none := by
  cases b with
  | nil => rfl
  | cons c b =>
    show (if c.toNat = 0 then none else _) = if c.toNat = 0 ∧ 0 < (c :: b).length then none else _
    by_cases h : c.toNat = 0
    · rw [if_pos h, if_pos ⟨h, by simp⟩]
    · rw [if_neg h, if_neg (fun e => h e.1)]; rfl
theorem rdL_wf {l rest : List UInt8} {m : MsgD} (h : rdL l = some (m, rest)) : Wfm m ∧ m.b.length ≤ l.length := by
  refine ⟨?_, by have := rdL_len h; omega⟩
  unfold rdL at h
  split at h
  · cases h
    have g : ∀ (x : List UInt8), x.length ≤ 4 → (Lit.int .i64 (numB x : Int)).wf = true := fun x hx => by
      have h1 := numB_lt x
      have h2 : (256 : Nat) ^ x.length ≤ 256 ^ 4 := Nat.pow_le_pow_right (by decide) hx
      have h3 : (256 : Nat) ^ 4 = 4294967296 := by decide
      simp [Lit.wf, IntKind.min, IntKind.max, IntKind.bits, IntKind.signed]
      omega
    refine ⟨?_, g _ (by rw [List.length_take]; omega), g _ (by rw [List.length_take]; omega)⟩
    show (Lit.int .i64 (s64 _)).wf = true
    unfold s64
    rw [IntKind.wrap_i64]
    simp [Lit.wf, IntKind.min, IntKind.max, IntKind.bits, IntKind.signed]
    omega
  · cases h
theorem RunM.facts {b : List UInt8} {pre : List MsgD} {l : List UInt8} (h : RunM b pre l) : l.length ≤ b.length ∧ pre.length ≤ b.length ∧ pre.length * 14 + l.length ≤ b.length ∧ ∀ m ∈ pre, Wfm m ∧ m.b.length ≤ b.length := by
  induction h with
  | nil => simp
  | @snoc pre l m rest h1 h2 ih =>
    obtain ⟨i1, i2, i4, i3⟩ := ih
    have := rdL_len h2
    refine ⟨by omega, by rw [List.length_append, List.length_singleton]; omega, by rw [List.length_append, List.length_singleton]; omega, fun y hy => ?_⟩
    rcases List.mem_append.1 hy with hy | hy
    · exact i3 y hy
    · cases List.mem_singleton.1 hy
      have := rdL_wf h2
      exact ⟨this.1, by omega⟩
def DecSPost (x : Option (List MsgD)) (w : World) (e : Ending) (w' : World) : Prop :=
  ∃ (u : Value) (l : List (MsgD × Sl3)), e = .returned (.tuple #[u, .int .i64 (if x.isSome then 0 else 230)]) ∧ l.map Prod.fst = x.getD [] ∧ MsgsE w' u l ∧ OwnG encM 4 w' w.heap.size TMsg u l ∧
    (∀ y ∈ l, OwnB w' w.heap.size TB (slV y.2) y.1.b) ∧ (∀ y ∈ l, Wfm y.1) ∧ Ext w w' ∧ (x = none → u = .slice none 0 0)
theorem decS_none {w w' : World} (h : Ext w w') : DecSPost none w (.returned (.tuple #[.slice none 0 0, .int .i64 230])) w' :=
  ⟨.slice none 0 0, [], rfl, rfl, msgs_of_own (OwnG.nil w' 0 TMsg) (fun x hx => (by cases hx)), OwnG.nil _ _ _, fun x hx => (by cases hx), fun x hx => (by cases hx), h, fun _ => rfl⟩
attribute [local go_sem] Oper.semAt_some
set_option maxRecDepth 100000 in
set_option maxHeartbeats 8000000 in
theorem stampDecode_calls (p : PlanD) (b : List UInt8) (v : Value) (w : World) (hv : Bys w v b) (hl : b.length ≤ 100000) :
    Calls Try.prog 22 #[planV p, v] w (DecSPost (decSM p b) w) := by
  have kF := fun W h => From_callsV v b W h (by omega)
  have kE := fun B W => each_calls B W
  have HD := Lib.hid (decSM_eq p b)
  generalize decSM p b = X at *
  obtain ⟨va, vc, rfl⟩ : ∃ a c, v = .slice a b.length c := by obtain ⟨a, c, h, _⟩ := hv; exact ⟨a, c, h⟩
  have r0 := (Ext.alloc _ (.cells #[.slice none 0 0] TLs)).block (heap_alloc_new w (.cells (planC p) 32))
  have r1 := heap_alloc_at (w.alloc (.cells (planC p) 32)) (.cells #[.slice none 0 0] TLs) (n := w.heap.size + 1) (by simp)
  have x0 := (Ext.alloc w (.cells (planC p) 32)).thenAlloc (.cells #[.slice none 0 0] TLs)
  have hs0 : ((w.alloc (.cells (planC p) 32)).alloc (.cells #[.slice none 0 0] TLs)).heap.size = w.heap.size + 2 := by simp
  have hv0 := hv.ext x0
  have HV := Lib.hid (And.intro r0 (And.intro r1 (And.intro x0 (And.intro hs0 (And.intro hv0 hl)))))
  clear r0 r1 x0 hs0 hv0 hv hl
  unfold planV planC
  refine calls_of_marks Try.func22 rfl ?_
  simp only [Try.ntmps22, List.size_toArray, List.length_cons, List.length_nil, Nat.reduceAdd, Nat.reduceSub, Array.replicate_succ, Array.replicate_zero, List.push_toArray, List.append_toArray, List.nil_append, List.cons_append]
  go_wp2_with fail
  refine wp_scope_straight ?_
  go_wp2_with fail
  obtain ⟨r0, r1, x0, hs0, hv0, hl⟩ := HV.out
  refine (kF _ hv0).mono ?_
  rintro e w1 ⟨B, rfl, hB, hI1, h1⟩
  rw [hs0] at hB
  have g0 := h1.block r0
  have g1 := h1.block r1
  have x1 := x0.trans h1
  clear kF r0 r1 x0 hs0 hv0 h1 HV
  have hBl := hI1.1.lt
  rcases b with _ | ⟨c, b'⟩
  · simp only [List.length_nil] at *
    have hI2 : InV w1 TIn B (some []) := hI1
    have hm := heap_alloc_new w1 (.cells #[.int .i64 0] 3)
    have y1 : Ext w1 (w1.alloc (.cells #[.int .i64 0] 3)) := Ext.alloc _ _
    have hI3 : InV (w1.alloc (.cells #[.int .i64 0] 3)) TIn B (some []) := hI2.ext y1
    have g0' := y1.block g0
    have g1' := y1.block g1
    have HG := Lib.hid (And.intro hm (And.intro g0' (And.intro g1' (x1.trans y1))))
    clear hm g0' g1' y1 hI2
    go_wp2_with fail
    refine wp_label ?_
    go_wp2_with fail
    refine (kE B _).mono ?_
    rintro e ws ⟨b1, b3, rfl, hb1, hb3, q1, q3, hx⟩
    obtain ⟨hm, g0', g1', xx⟩ := HG.out
    have hi := hI3.ext hx
    have r2 : ws.heap[w1.heap.size]? = some (.cells #[.int .i64 ((0 : Nat) : Int)] 3) := hx.block hm
    have r0 := hx.block g0'
    have r1 := hx.block g1'
    have xs := xx.trans hx
    clear HG hm g0' g1' xx hx hb1 hb3 hI3 kE hI1 g0 g1 x1
    have hb0 : ([] : List UInt8).length ≤ 100000 := by simp
    have hM255 : 0 ≤ 255 := by omega
    have hn0 : w1.heap.size < ws.heap.size := (Array.getElem?_eq_some_iff.1 r2).1
    have hseq : SeqIt Try.prog 58 #[.pointer (some ⟨b1, 0, none⟩), .pointer (some ⟨b3, 0, none⟩)] (fun x : MsgD × Sl3 => #[msgV x.1 (slV x.2)]) (NxM [] B ws.heap.size) KpM (RitM B) (EndM [] B) ws := fun l J Jx W hK hJ hJx hR hY h0 =>
      each1_in [] hb0 B b1 b3 l ws.heap.size J Jx hY hR W hK.1 (InV.kpm hi hK) (hK.2 _ _ q1 rfl) (hK.2 _ _ q3 rfl) h0
    have hL0 : LpC w ws.heap.size (w.heap.size + 1) w1.heap.size w.heap.size 0 p [] ws := ⟨⟨_, r1, OwnG.nil _ _ _⟩, fun x hx => (by cases hx), r2, r0, xs, Nat.le_refl _⟩
    have hxs := xs.size
    clear r0 r1 r2 q1 q3 hi xs
    go_wp2_with fail
    refine wp_rangeFunc1_it (α := MsgD × Sl3) (p := 20) (q := 9) (enc := fun x => msgV x.1 (slV x.2)) (gf := 58) (lb := #[.pointer (some ⟨b1, 0, none⟩), .pointer (some ⟨b3, 0, none⟩)]) rfl (fun args w => by go_simp) hseq (fun h k => h.trans k) (KpM.refl _) (fun W o => KpM.ext (Ext.alloc _ _)) (fun W l o o' _ hl ho _ => KpM.put W l o o' hl ho) (fun V V' h => h.others) (fun pre x V V' k h => h.kpm k) (fun xs V V' k h => h.kpm k)
      (fun pre W => LpC w ws.heap.size (w.heap.size + 1) w1.heap.size w.heap.size 0 p pre W ∧ pre.length ≤ 0) (fun cd pre W => cd = .exit 0 ∧ LpC w ws.heap.size (w.heap.size + 1) w1.heap.size w.heap.size 0 p pre W ∧ pre.length = 0 + 1 ∧ ∃ l, RunM [] (pre.map Prod.fst) l ∧ InV W TIn B (some l))
      (fun s A W row hs hg hr => ⟨hs.1.grown hg hxs hr, hs.2⟩) (fun cd s A W row hs hg hr => by
        obtain ⟨h1, h2, h3, l, h4, h5⟩ := hs
        exact ⟨h1, h2.grown hg hxs hr, h3, l, h4, InV.kpm h5 (KpM.grown hg (fun r e => by obtain ⟨_, o, a, b⟩ := hr r e; exact ⟨o, a, keepO_cells b⟩))⟩)
      (fun pre V V' h k => ⟨h.1.rit k.1 (by omega) (by omega) (by omega) (by omega) (by omega), h.2⟩) ⟨hL0, Nat.zero_le _⟩ (fun x => .cells #[.int .i64 x.1.st, .int .i64 x.1.se, .int .i64 x.1.nu, slV x.2] TMsg) (fun l x W K hK => ?_) (fun lp pre x n W hI hnx hn hbx => ?_) (fun D xs W hD hS hI hk => ?_) (fun D cd xs W hD hI hk => ?_)
    · obtain ⟨m, s⟩ := x
      unfold msgV slV at hK ⊢
      simp only [List.setIfInBounds_toArray, List.set_cons_zero, List.set_cons_succ] at hK ⊢
      gi_wp2
      exact hK
    · simp only [List.setIfInBounds_toArray, List.set_cons_zero, List.set_cons_succ]
      obtain ⟨m, ⟨sa, sn, sc⟩⟩ := x
      obtain ⟨hL, hlM⟩ := hI
      obtain ⟨⟨v, g1, hO⟩, hP, g2, g3, gx, gs⟩ := hL
      obtain ⟨l, rest, hrun, hrd, hIn, hpay⟩ := hnx
      obtain ⟨oa, ocap, rfl⟩ := hO.slice
      unfold msgV slV
      unfold slV at hbx
      simp only at hbx hrd hpay ⊢
      have m0 : W.cell? ⟨n, 0, none⟩ = some (.int .i64 m.st) := cell_of_row _ _ 0 _ _ _ hbx
      have m1 : W.cell? ⟨n, 1, none⟩ = some (.int .i64 m.se) := cell_of_row _ _ 1 _ _ _ hbx
      have m2 : W.cell? ⟨n, 2, none⟩ = some (.int .i64 m.nu) := cell_of_row _ _ 2 _ _ _ hbx
      have m3 : W.cell? ⟨n, 3, none⟩ = some (.slice sa sn sc) := cell_of_row _ _ 3 _ _ _ hbx
      have c1 : W.cell? ⟨w.heap.size + 1, 0, none⟩ = some (.slice oa pre.length ocap) := cell_of_row _ _ 0 _ _ _ g1
      have HB := Lib.hid (And.intro g1 (And.intro hP (And.intro g2 (And.intro g3 (And.intro gx (And.intro hrun (And.intro hrd (And.intro hIn hpay))))))))
      clear g1 hP g2 g3 gx hrun hrd hIn hpay hL0 hseq hbx
      gi_wp2_with (gi_at_builtin; refine wpListIn_append_G msgSl (by decide) encM_len encM_one rfl _ _ rfl (m, ((sa, sn, sc) : Sl3)) (by rfl) (by rfl) (hO.alloc _) ?hx ?hl ?hl2 ?hb ?hk)
      case hx =>
        intro i u hi
        have hi4 : i < 4 := (List.getElem?_eq_some_iff.1 hi).1
        match i, hi with
        | 0, hi => simp [encM] at hi; subst hi; exact cell_new_at (i := 0) (by simp) rfl
        | 1, hi => simp [encM] at hi; subst hi; exact cell_new_at (i := 1) (by simp) rfl
        | 2, hi => simp [encM] at hi; subst hi; exact cell_new_at (i := 2) (by simp) rfl
        | 3, hi => simp [encM, slV] at hi; subst hi; exact cell_new_at (i := 3) (by simp) rfl
      case hl => omega
      case hl2 => omega
      case hb => simp; omega
      case hk =>
      intro v' w' ho hg
      obtain ⟨g1, hP, g2, g3, gx, hrun, hrd, hIn, hpay⟩ := HB.out
      have ka : KpM W w' := (KpM.ext (Ext.alloc W _)).trans (KpM.own (hO.alloc _) hg)
      have kot : KeepsOthers W w' := (KeepsOthers.alloc W _).trans (KeepsOthers.of_grownBy hg (fun j o hj ho' => ownG_cells (hO.alloc _) hj ho'))
      have hrow := hO.lt
      have r1 := (hg.block (w.heap.size + 1) (by simp; omega) (fun e => by have := hrow _ e.symm; omega)).trans ((Ext.alloc W _).block g1)
      have r2 := ka.2 _ _ g2 rfl
      have hX : Ext w w' := Below.trans (gx.thenAlloc _) (grown_below hg (by simp; omega) (fun k hk => by have := hrow k hk; omega))
      have c1' : w'.cell? ⟨w.heap.size + 1, 0, none⟩ = some (.slice oa pre.length ocap) := cell_of_row _ _ 0 _ _ _ r1
      have f1' := frozen_of_row _ _ 0 _ _ r1
      have c2' : w'.cell? ⟨w1.heap.size, 0, none⟩ = some (.int .i64 ((0 : Nat) : Int)) := cell_of_row _ _ 0 _ _ _ r2
      have hlt := ho.lt
      obtain ⟨va', vc', rfl⟩ := ho.slice
      have kf : KpM W (w'.setCell ⟨w.heap.size + 1, 0, none⟩ (.slice va' (pre ++ [(m, ((sa, sn, sc) : Sl3))]).length vc')) := ka.trans (KpM.one (by simp) r1 rfl (fun k _ hk => Below.heap_setCell _ _ _ _ hk))
      have kok : KeepsOthers W (w'.setCell ⟨w.heap.size + 1, 0, none⟩ (.slice va' (pre ++ [(m, ((sa, sn, sc) : Sl3))]).length vc')) := kot.trans (KeepsOthers.setCell _ _ _)
      have hLn : LpC w ws.heap.size (w.heap.size + 1) w1.heap.size w.heap.size 0 p (pre ++ [(m, ((sa, sn, sc) : Sl3))]) (w'.setCell ⟨w.heap.size + 1, 0, none⟩ (.slice va' (pre ++ [(m, ((sa, sn, sc) : Sl3))]).length vc')) := by
        refine ⟨⟨_, by rw [heap_setCell_same _ _ _ _ _ _ r1]; rfl, ?_⟩, fun y hy => ?_, kf.2 _ _ g2 rfl, kf.2 _ _ g3 rfl, Below.setCell hX (by show w.heap.size ≤ w.heap.size + 1; omega) _, Nat.le_trans gs kf.1⟩
        · refine ho.grown (row := some (w.heap.size + 1)) ⟨rfl, rfl, rfl, by simp, fun k hk hne => heap_setCell_other w' _ k _ (fun e => hne (by rw [e]))⟩ ?_
          cases hv : (Value.slice va' (pre ++ [(m, ((sa, sn, sc) : Sl3))]).length vc').ownBlock with
          | none => exact .inl rfl
          | some k => right; intro e; have := hlt k hv; simp at e; omega
        · rcases List.mem_append.1 hy with hy | hy
          · exact own_kpm (hP y hy) kf
          · cases List.mem_singleton.1 hy
            exact own_kpm hpay kf
      have hlen : (pre ++ [(m, ((sa, sn, sc) : Sl3))]).length = pre.length + 1 := by simp
      have hrn : RunM [] ((pre ++ [(m, ((sa, sn, sc) : Sl3))]).map Prod.fst) rest := by rw [List.map_append]; exact .snoc hrun hrd
      have HZ := Lib.hid (And.intro kf (And.intro kok (And.intro hLn (And.intro hlen (And.intro hrn (InV.kpm hIn kf))))))
      simp only [hlen] at ho
      rw [hlen] at HZ
      clear ka kot hX kf kok hLn hlen hrn hO hg hlt hrow HB g1 hP g2 g3 gx hrun hrd hIn hpay c1 r1 r2 ho m0 m1 m2 m3
      by_cases hlt : pre.length < 0
      · omega
      · have d1 : decide (((0 : Nat) : Int) < (pre.length : Int) + 1) = true := decide_eq_true (by omega)
        have d2 : 0 ≤ pre.length := by omega
        simp only [List.length_append, List.length_singleton]
        gi_wp2
        obtain ⟨z1, z2, z3, z4, z5, z6⟩ := HZ.out
        exact ⟨z2, rfl, z3, by rw [List.length_append, List.length_singleton]; omega, rest, z5, z6⟩
    · obtain ⟨l, st, hrun, hIn, hF⟩ := hS.fin (M := 0)
      obtain ⟨hL, hlM⟩ := hI
      clear hS hseq hL0
      obtain ⟨v, g1, hO⟩ := hL.row
      obtain ⟨oa, ocap, rfl⟩ := hO.slice
      have c1 : W.cell? ⟨w.heap.size + 1, 0, none⟩ = some (.slice oa xs.length ocap) := cell_of_row _ _ 0 _ _ _ g1
      have c2 : W.cell? ⟨w1.heap.size, 0, none⟩ = some (.int .i64 ((0 : Nat) : Int)) := cell_of_row _ _ 0 _ _ _ hL.many
      have kD := Done_calls B st W hIn.1
      have hX : X = if 0 = 0 ∧ 0 < ([] : List UInt8).length then none else match parseN 0 [] with
        | some xs => if togB p xs then some xs else none
        | none => none := HD.out
      have hwD : w.heap.size ≤ D := by omega
      have hend : ∀ V : World, Ext w V → Ext w (V.putObj D (.deferred none)) := fun V h => Below.trans h (grown_below (grownBy_putObj' V D _) h.size (fun k e => (by cases e; exact hwD)))
      have HEND := Lib.hid hend
      have hXn : ¬ (st = some [] ∧ xs.length = 0) → X = none := fun h => by
        have h2 := hF.2 (by rw [List.length_map]; exact h)
        rw [hX]
        split
        · rfl
        · rw [h2]
      by_cases hA : st = some []
      rotate_left
      · obtain rfl : X = none := hXn (fun h => hA h.1)
        have hq : (st == some []) = false := beq_eq_false_iff_ne.2 hA
        rw [hq] at kD
        clear hXn hX hF hA hO hend g1
        go_wp2_with fail
        refine kD.mono ?_
        rintro e w5 ⟨rfl, rfl⟩
        go_wp2_with fail
        refine leave1 rfl hk (results_tmp2 rfl _ _ _) ?_
        exact decS_none (HEND.out _ hL.ext)
      subst hA
      rw [show ((some [] : Option (List UInt8)) == some []) = true from rfl] at kD
      by_cases hM : xs.length = 0
      rotate_left
      · obtain rfl : X = none := hXn (fun h => hM h.2)
        have hM2 : ¬ ((xs.length : Int) = ((0 : Nat) : Int)) := by omega
        clear hXn hX hF hO hend g1
        go_wp2_with fail
        refine kD.mono ?_
        rintro e w5 ⟨rfl, rfl⟩
        go_wp2_with fail
        refine leave1 rfl hk (results_tmp2 rfl _ _ _) ?_
        exact decS_none (HEND.out _ hL.ext)
      have hpar := hF.1 ⟨rfl, by rw [List.length_map]; exact hM⟩
      rw [hpar] at hX
      have hfc := hrun.facts.2.2.2
      have hwf : ∀ x ∈ xs, Wfm x.1 := fun x hx => (hfc x.1 (List.mem_map_of_mem hx)).1
      have hsm : ∀ x ∈ xs, x.1.b.length ≤ maxLen := fun x hx => by have := (hfc x.1 (List.mem_map_of_mem hx)).2; unfold maxLen; omega
      have kT := together_calls p xs (.slice oa xs.length ocap) W (msgs_of_own hO (fun x hx => (hL.pays x hx).bys (hsm x hx))) hwf
      have hp := hL.plan
      rw [hM] at kT c1
      have HT := Lib.hid (And.intro hO (And.intro hwf (And.intro hsm (And.intro hpar (And.intro hM (And.intro g1 hL))))))
      clear hO hwf hsm hpar hM g1 hXn hF hfc hend hrun hL
      replace hX : X = if togB p (xs.map Prod.fst) then some (xs.map Prod.fst) else none := hX
      obtain ⟨tg, htg⟩ : ∃ tg, togB p (xs.map Prod.fst) = tg := ⟨_, rfl⟩
      rw [htg] at kT hX
      have HX := Lib.hid hX
      clear hX htg
      unfold planV planC at kT
      go_wp2_with fail
      refine kD.mono ?_
      rintro e w5 ⟨rfl, rfl⟩
      clear kD
      go_wp2_with (refine loadPlanPw hp (by rfl) rfl rfl ?_)
      refine kT.mono ?_
      rintro e w6 ⟨rfl, h6⟩
      obtain ⟨hO, hwf, hsm, hpar, hM, g1, hL⟩ := HT.out
      have hk6 := h6.block hk
      have c16 := h6.cell c1
      clear c1 c2 kT
      cases tg with
      | false =>
        obtain rfl : X = none := HX.out
        have HZ := Lib.hid (And.intro hL h6)
        clear hO hwf hsm hpar hM g1 hL h6 HT c16
        go_wp2_with fail
        refine leave1 rfl hk6 (results_tmp2 rfl _ _ _) ?_
        exact decS_none (HEND.out _ (HZ.out.1.ext.trans HZ.out.2))
      | true =>
        obtain rfl : X = some (xs.map Prod.fst) := HX.out
        have L6 : LpC w ws.heap.size (w.heap.size + 1) w1.heap.size w.heap.size 0 p xs (w6.putObj D (.deferred none)) := (hL.grown (ext_grown none _ _ h6) hxs (fun r e => (by cases e))).grown (grownBy_putObj' w6 D _) hxs (fun r e => (by cases e; exact ⟨hD, _, hk6, rfl⟩))
        have hbl : (w6.putObj D (.deferred none)).heap[w.heap.size + 1]? = some (.cells #[.slice oa xs.length ocap] TLs) := (World.putObj_heap_other (by omega)).trans (h6.block g1)
        have HZ := Lib.hid (And.intro L6 (And.intro hbl (And.intro hwf (And.intro hsm hM))))
        clear hO hwf hsm hpar hM g1 hL h6 HT L6 hbl
        go_wp2_with fail
        refine leave1 rfl hk6 (results_tmp2 rfl _ _ _) ?_
        obtain ⟨L6, hbl, hwf, hsm, hM⟩ := HZ.out
        obtain ⟨v6, g6, hO6⟩ := L6.row
        rw [hbl] at g6
        obtain rfl : Value.slice oa xs.length ocap = v6 := by simpa using g6
        have hO7 : OwnG encM 4 (w6.putObj D (.deferred none)) w.heap.size TMsg (.slice oa xs.length ocap) xs := ⟨hO6.1, hO6.2.imp id (fun ⟨g, cap, cur, h1, h2, h3⟩ => ⟨g, cap, cur, h1, by omega, h3⟩)⟩
        refine ⟨.slice oa xs.length ocap, xs, ?_, rfl, msgs_of_own hO7 (fun x hx => (L6.pays x hx).bys (hsm x hx)), hO7, fun y hy => (L6.pays y hy).mono hxs, hwf, L6.ext, fun h => (by cases h)⟩
        rw [hM]; rfl
    · obtain ⟨rfl, hL, hlen, l, hrun, hIn⟩ := hI
      have hF := fin_stop hrun (by rw [List.length_map]; exact hlen)
      obtain ⟨st, hst⟩ : ∃ st, st = some l := ⟨_, rfl⟩
      rw [← hst] at hF hIn
      clear hst hseq hL0
      obtain ⟨v, g1, hO⟩ := hL.row
      obtain ⟨oa, ocap, rfl⟩ := hO.slice
      have c1 : W.cell? ⟨w.heap.size + 1, 0, none⟩ = some (.slice oa xs.length ocap) := cell_of_row _ _ 0 _ _ _ g1
      have c2 : W.cell? ⟨w1.heap.size, 0, none⟩ = some (.int .i64 ((0 : Nat) : Int)) := cell_of_row _ _ 0 _ _ _ hL.many
      have kD := Done_calls B st W hIn.1
      have hX : X = if 0 = 0 ∧ 0 < ([] : List UInt8).length then none else match parseN 0 [] with
        | some xs => if togB p xs then some xs else none
        | none => none := HD.out
      have hwD : w.heap.size ≤ D := by omega
      have hend : ∀ V : World, Ext w V → Ext w (V.putObj D (.deferred none)) := fun V h => Below.trans h (grown_below (grownBy_putObj' V D _) h.size (fun k e => (by cases e; exact hwD)))
      have HEND := Lib.hid hend
      have hXn : ¬ (st = some [] ∧ xs.length = 0) → X = none := fun h => by
        have h2 := hF.2 (by rw [List.length_map]; exact h)
        rw [hX]
        split
        · rfl
        · rw [h2]
      by_cases hA : st = some []
      rotate_left
      · obtain rfl : X = none := hXn (fun h => hA h.1)
        have hq : (st == some []) = false := beq_eq_false_iff_ne.2 hA
        rw [hq] at kD
        clear hXn hX hF hA hO hend g1
        go_wp2_with fail
        refine kD.mono ?_
        rintro e w5 ⟨rfl, rfl⟩
        go_wp2_with fail
        refine leave1 rfl hk (results_tmp2 rfl _ _ _) ?_
        exact decS_none (HEND.out _ hL.ext)
      subst hA
      rw [show ((some [] : Option (List UInt8)) == some []) = true from rfl] at kD
      by_cases hM : xs.length = 0
      rotate_left
      · obtain rfl : X = none := hXn (fun h => hM h.2)
        have hM2 : ¬ ((xs.length : Int) = ((0 : Nat) : Int)) := by omega
        clear hXn hX hF hO hend g1
        go_wp2_with fail
        refine kD.mono ?_
        rintro e w5 ⟨rfl, rfl⟩
        go_wp2_with fail
        refine leave1 rfl hk (results_tmp2 rfl _ _ _) ?_
        exact decS_none (HEND.out _ hL.ext)
      exact absurd hM (by omega)
  · have hd : 0 < (c :: b').length := by simp
    have hm := heap_alloc_new w1 (.cells #[.int .i64 0] 3)
    have y1 : Ext w1 (w1.alloc (.cells #[.int .i64 0] 3)) := Ext.alloc _ _
    have hI3 : InV (w1.alloc (.cells #[.int .i64 0] 3)) TIn B (some (c :: b')) := hI1.ext y1
    have g0' := y1.block g0
    have g1' := y1.block g1
    have kG := Get_callsV B (some (c :: b')) 1 _ hI3 (by decide) (by decide)
    have hgw : inTake (some (c :: b')) (getW 1) = ([c], some b') := by
      have := inT_some (c :: b') 1
      rw [if_pos (by simp)] at this
      exact this
    rw [hgw] at kG
    unfold GetPostV at kG
    have hnc : numB [c] = c.toNat := by show 256 * 0 + c.toNat = _; omega
    simp only [hnc] at kG
    have hwr : IntKind.i64.wrap (c.toNat : Int) = (c.toNat : Int) := by have := c.toNat_lt; rw [IntKind.wrap_i64]; omega
    have HG := Lib.hid (And.intro hm (And.intro g0' (And.intro g1' (x1.trans y1))))
    clear hm g0' g1' y1 hgw hnc hI3
    go_wp2_with fail
    refine kG.mono ?_
    rintro e w2 ⟨rfl, hI4, ht⟩
    obtain ⟨hm, g0', g1', xx⟩ := HG.out
    have s0 : w2.heap[w.heap.size]? = _ := (ht.block _ (Array.getElem?_eq_some_iff.1 g0').1 (by omega) (by simp)).trans g0'
    have s1 : w2.heap[w.heap.size + 1]? = _ := (ht.block _ (Array.getElem?_eq_some_iff.1 g1').1 (by omega) (by simp)).trans g1'
    have s2 : w2.heap[w1.heap.size]? = _ := (ht.block _ (Array.getElem?_eq_some_iff.1 hm).1 (by omega) (by simp)).trans hm
    have sx : Ext w w2 := Below.trans xx (ht.below xx.size (by omega) (by simp))
    have c2 : w2.cell? ⟨w1.heap.size, 0, none⟩ = some (.int .i64 0) := cell_of_row _ _ 0 _ _ _ s2
    have f2 := frozen_of_row _ _ 0 _ _ s2
    have HG2 := Lib.hid (And.intro s0 (And.intro s1 (And.intro s2 (And.intro sx (And.intro hI4 c2)))))
    clear HG hm g0' g1' xx s0 s1 s2 sx ht kG hI1 hI4 g0 g1 x1
    go_wp2_with fail
    refine wp_label ?_
    go_wp2_with fail
    refine (kE B _).mono ?_
    rintro e ws ⟨b1, b3, rfl, hb1, hb3, q1, q3, hx⟩
    obtain ⟨s0, s1, s2, sx, hI4, -⟩ := HG2.out
    have u2 : (w2.setCell ⟨w1.heap.size, 0, none⟩ (.int .i64 (c.toNat : Int))).heap[w1.heap.size]? = some (.cells #[.int .i64 (c.toNat : Int)] 3) := by rw [heap_setCell_same _ _ _ _ _ _ s2]; rfl
    have ko : ∀ k, k ≠ w1.heap.size → (w2.setCell ⟨w1.heap.size, 0, none⟩ (.int .i64 (c.toNat : Int))).heap[k]? = w2.heap[k]? := fun k hk => Below.heap_setCell _ _ _ _ hk
    have hw1 : w.heap.size + 2 ≤ w1.heap.size := by omega
    have hke : InV (w2.setCell ⟨w1.heap.size, 0, none⟩ (.int .i64 (c.toNat : Int))) TIn B (some b') := by
      exact InV.kpin hI4 (fun k cc t mk hk ht => (ko k (fun e => by rw [e, s2] at hk; cases hk; rcases ht with h | h <;> cases h)).trans hk)
    have hi := hke.ext hx
    have r2 := hx.block u2
    have r0 := hx.block ((ko _ (by omega)).trans s0)
    have r1 := hx.block ((ko _ (by omega)).trans s1)
    have xs : Ext w ws := (show Ext w _ from Below.setCell (p := ⟨w1.heap.size, 0, none⟩) sx (by show w.heap.size ≤ w1.heap.size; omega) (.int .i64 (c.toNat : Int))).trans hx
    clear HG2 s0 s1 s2 sx u2 ko hke hx hb1 hb3 hI4 kE c2 f2
    have hb0 : (b' : List UInt8).length ≤ 100000 := by have := hl; simp only [List.length_cons] at this; omega
    have hM255 : c.toNat ≤ 255 := by have := c.toNat_lt; omega
    have hn0 : w1.heap.size < ws.heap.size := (Array.getElem?_eq_some_iff.1 r2).1
    have hseq : SeqIt Try.prog 58 #[.pointer (some ⟨b1, 0, none⟩), .pointer (some ⟨b3, 0, none⟩)] (fun x : MsgD × Sl3 => #[msgV x.1 (slV x.2)]) (NxM b' B ws.heap.size) KpM (RitM B) (EndM b' B) ws := fun l J Jx W hK hJ hJx hR hY h0 =>
      each1_in b' hb0 B b1 b3 l ws.heap.size J Jx hY hR W hK.1 (InV.kpm hi hK) (hK.2 _ _ q1 rfl) (hK.2 _ _ q3 rfl) h0
    have hL0 : LpC w ws.heap.size (w.heap.size + 1) w1.heap.size w.heap.size c.toNat p [] ws := ⟨⟨_, r1, OwnG.nil _ _ _⟩, fun x hx => (by cases hx), r2, r0, xs, Nat.le_refl _⟩
    have hxs := xs.size
    clear r0 r1 r2 q1 q3 hi xs
    go_wp2_with fail
    refine wp_rangeFunc1_it (α := MsgD × Sl3) (p := 20) (q := 9) (enc := fun x => msgV x.1 (slV x.2)) (gf := 58) (lb := #[.pointer (some ⟨b1, 0, none⟩), .pointer (some ⟨b3, 0, none⟩)]) rfl (fun args w => by go_simp) hseq (fun h k => h.trans k) (KpM.refl _) (fun W o => KpM.ext (Ext.alloc _ _)) (fun W l o o' _ hl ho _ => KpM.put W l o o' hl ho) (fun V V' h => h.others) (fun pre x V V' k h => h.kpm k) (fun xs V V' k h => h.kpm k)
      (fun pre W => LpC w ws.heap.size (w.heap.size + 1) w1.heap.size w.heap.size c.toNat p pre W ∧ pre.length ≤ c.toNat) (fun cd pre W => cd = .exit 0 ∧ LpC w ws.heap.size (w.heap.size + 1) w1.heap.size w.heap.size c.toNat p pre W ∧ pre.length = c.toNat + 1 ∧ ∃ l, RunM b' (pre.map Prod.fst) l ∧ InV W TIn B (some l))
      (fun s A W row hs hg hr => ⟨hs.1.grown hg hxs hr, hs.2⟩) (fun cd s A W row hs hg hr => by
        obtain ⟨h1, h2, h3, l, h4, h5⟩ := hs
        exact ⟨h1, h2.grown hg hxs hr, h3, l, h4, InV.kpm h5 (KpM.grown hg (fun r e => by obtain ⟨_, o, a, b⟩ := hr r e; exact ⟨o, a, keepO_cells b⟩))⟩)
      (fun pre V V' h k => ⟨h.1.rit k.1 (by omega) (by omega) (by omega) (by omega) (by omega), h.2⟩) ⟨hL0, Nat.zero_le _⟩ (fun x => .cells #[.int .i64 x.1.st, .int .i64 x.1.se, .int .i64 x.1.nu, slV x.2] TMsg) (fun l x W K hK => ?_) (fun lp pre x n W hI hnx hn hbx => ?_) (fun D xs W hD hS hI hk => ?_) (fun D cd xs W hD hI hk => ?_)
    · obtain ⟨m, s⟩ := x
      unfold msgV slV at hK ⊢
      simp only [List.setIfInBounds_toArray, List.set_cons_zero, List.set_cons_succ] at hK ⊢
      gi_wp2
      exact hK
    · simp only [List.setIfInBounds_toArray, List.set_cons_zero, List.set_cons_succ]
      obtain ⟨m, ⟨sa, sn, sc⟩⟩ := x
      obtain ⟨hL, hlM⟩ := hI
      obtain ⟨⟨v, g1, hO⟩, hP, g2, g3, gx, gs⟩ := hL
      obtain ⟨l, rest, hrun, hrd, hIn, hpay⟩ := hnx
      obtain ⟨oa, ocap, rfl⟩ := hO.slice
      unfold msgV slV
      unfold slV at hbx
      simp only at hbx hrd hpay ⊢
      have m0 : W.cell? ⟨n, 0, none⟩ = some (.int .i64 m.st) := cell_of_row _ _ 0 _ _ _ hbx
      have m1 : W.cell? ⟨n, 1, none⟩ = some (.int .i64 m.se) := cell_of_row _ _ 1 _ _ _ hbx
      have m2 : W.cell? ⟨n, 2, none⟩ = some (.int .i64 m.nu) := cell_of_row _ _ 2 _ _ _ hbx
      have m3 : W.cell? ⟨n, 3, none⟩ = some (.slice sa sn sc) := cell_of_row _ _ 3 _ _ _ hbx
      have c1 : W.cell? ⟨w.heap.size + 1, 0, none⟩ = some (.slice oa pre.length ocap) := cell_of_row _ _ 0 _ _ _ g1
      have HB := Lib.hid (And.intro g1 (And.intro hP (And.intro g2 (And.intro g3 (And.intro gx (And.intro hrun (And.intro hrd (And.intro hIn hpay))))))))
      clear g1 hP g2 g3 gx hrun hrd hIn hpay hL0 hseq hbx
      gi_wp2_with (gi_at_builtin; refine wpListIn_append_G msgSl (by decide) encM_len encM_one rfl _ _ rfl (m, ((sa, sn, sc) : Sl3)) (by rfl) (by rfl) (hO.alloc _) ?hx ?hl ?hl2 ?hb ?hk)
      case hx =>
        intro i u hi
        have hi4 : i < 4 := (List.getElem?_eq_some_iff.1 hi).1
        match i, hi with
        | 0, hi => simp [encM] at hi; subst hi; exact cell_new_at (i := 0) (by simp) rfl
        | 1, hi => simp [encM] at hi; subst hi; exact cell_new_at (i := 1) (by simp) rfl
        | 2, hi => simp [encM] at hi; subst hi; exact cell_new_at (i := 2) (by simp) rfl
        | 3, hi => simp [encM, slV] at hi; subst hi; exact cell_new_at (i := 3) (by simp) rfl
      case hl => omega
      case hl2 => omega
      case hb => simp; omega
      case hk =>
      intro v' w' ho hg
      obtain ⟨g1, hP, g2, g3, gx, hrun, hrd, hIn, hpay⟩ := HB.out
      have ka : KpM W w' := (KpM.ext (Ext.alloc W _)).trans (KpM.own (hO.alloc _) hg)
      have kot : KeepsOthers W w' := (KeepsOthers.alloc W _).trans (KeepsOthers.of_grownBy hg (fun j o hj ho' => ownG_cells (hO.alloc _) hj ho'))
      have hrow := hO.lt
      have r1 := (hg.block (w.heap.size + 1) (by simp; omega) (fun e => by have := hrow _ e.symm; omega)).trans ((Ext.alloc W _).block g1)
      have r2 := ka.2 _ _ g2 rfl
      have hX : Ext w w' := Below.trans (gx.thenAlloc _) (grown_below hg (by simp; omega) (fun k hk => by have := hrow k hk; omega))
      have c1' : w'.cell? ⟨w.heap.size + 1, 0, none⟩ = some (.slice oa pre.length ocap) := cell_of_row _ _ 0 _ _ _ r1
      have f1' := frozen_of_row _ _ 0 _ _ r1
      have c2' : w'.cell? ⟨w1.heap.size, 0, none⟩ = some (.int .i64 ((c.toNat : Nat) : Int)) := cell_of_row _ _ 0 _ _ _ r2
      have hlt := ho.lt
      obtain ⟨va', vc', rfl⟩ := ho.slice
      have kf : KpM W (w'.setCell ⟨w.heap.size + 1, 0, none⟩ (.slice va' (pre ++ [(m, ((sa, sn, sc) : Sl3))]).length vc')) := ka.trans (KpM.one (by simp) r1 rfl (fun k _ hk => Below.heap_setCell _ _ _ _ hk))
      have kok : KeepsOthers W (w'.setCell ⟨w.heap.size + 1, 0, none⟩ (.slice va' (pre ++ [(m, ((sa, sn, sc) : Sl3))]).length vc')) := kot.trans (KeepsOthers.setCell _ _ _)
      have hLn : LpC w ws.heap.size (w.heap.size + 1) w1.heap.size w.heap.size c.toNat p (pre ++ [(m, ((sa, sn, sc) : Sl3))]) (w'.setCell ⟨w.heap.size + 1, 0, none⟩ (.slice va' (pre ++ [(m, ((sa, sn, sc) : Sl3))]).length vc')) := by
        refine ⟨⟨_, by rw [heap_setCell_same _ _ _ _ _ _ r1]; rfl, ?_⟩, fun y hy => ?_, kf.2 _ _ g2 rfl, kf.2 _ _ g3 rfl, Below.setCell hX (by show w.heap.size ≤ w.heap.size + 1; omega) _, Nat.le_trans gs kf.1⟩
        · refine ho.grown (row := some (w.heap.size + 1)) ⟨rfl, rfl, rfl, by simp, fun k hk hne => heap_setCell_other w' _ k _ (fun e => hne (by rw [e]))⟩ ?_
          cases hv : (Value.slice va' (pre ++ [(m, ((sa, sn, sc) : Sl3))]).length vc').ownBlock with
          | none => exact .inl rfl
          | some k => right; intro e; have := hlt k hv; simp at e; omega
        · rcases List.mem_append.1 hy with hy | hy
          · exact own_kpm (hP y hy) kf
          · cases List.mem_singleton.1 hy
            exact own_kpm hpay kf
      have hlen : (pre ++ [(m, ((sa, sn, sc) : Sl3))]).length = pre.length + 1 := by simp
      have hrn : RunM b' ((pre ++ [(m, ((sa, sn, sc) : Sl3))]).map Prod.fst) rest := by rw [List.map_append]; exact .snoc hrun hrd
      have HZ := Lib.hid (And.intro kf (And.intro kok (And.intro hLn (And.intro hlen (And.intro hrn (InV.kpm hIn kf))))))
      simp only [hlen] at ho
      rw [hlen] at HZ
      clear ka kot hX kf kok hLn hlen hrn hO hg hlt hrow HB g1 hP g2 g3 gx hrun hrd hIn hpay c1 r1 r2 ho m0 m1 m2 m3
      by_cases hlt : pre.length < c.toNat
      · have d1 : decide (((c.toNat : Nat) : Int) < (pre.length : Int) + 1) = false := decide_eq_false (by omega)
        have d2 : ¬ (c.toNat ≤ pre.length) := by omega
        simp only [List.length_append, List.length_singleton]
        gi_wp2
        obtain ⟨z1, z2, z3, z4, z5, z6⟩ := HZ.out
        exact ⟨z2, z1, z3, by simp; omega⟩
      · have d1 : decide (((c.toNat : Nat) : Int) < (pre.length : Int) + 1) = true := decide_eq_true (by omega)
        have d2 : c.toNat ≤ pre.length := by omega
        simp only [List.length_append, List.length_singleton]
        gi_wp2
        obtain ⟨z1, z2, z3, z4, z5, z6⟩ := HZ.out
        exact ⟨z2, rfl, z3, by rw [List.length_append, List.length_singleton]; omega, rest, z5, z6⟩
    · obtain ⟨l, st, hrun, hIn, hF⟩ := hS.fin (M := c.toNat)
      obtain ⟨hL, hlM⟩ := hI
      clear hS hseq hL0
      obtain ⟨v, g1, hO⟩ := hL.row
      obtain ⟨oa, ocap, rfl⟩ := hO.slice
      have c1 : W.cell? ⟨w.heap.size + 1, 0, none⟩ = some (.slice oa xs.length ocap) := cell_of_row _ _ 0 _ _ _ g1
      have c2 : W.cell? ⟨w1.heap.size, 0, none⟩ = some (.int .i64 ((c.toNat : Nat) : Int)) := cell_of_row _ _ 0 _ _ _ hL.many
      have kD := Done_calls B st W hIn.1
      have hX : X = if c.toNat = 0 ∧ 0 < (c :: b' : List UInt8).length then none else match parseN c.toNat b' with
        | some xs => if togB p xs then some xs else none
        | none => none := HD.out
      have hwD : w.heap.size ≤ D := by omega
      have hend : ∀ V : World, Ext w V → Ext w (V.putObj D (.deferred none)) := fun V h => Below.trans h (grown_below (grownBy_putObj' V D _) h.size (fun k e => (by cases e; exact hwD)))
      have HEND := Lib.hid hend
      have hXn : ¬ (st = some [] ∧ xs.length = c.toNat) → X = none := fun h => by
        have h2 := hF.2 (by rw [List.length_map]; exact h)
        rw [hX]
        split
        · rfl
        · rw [h2]
      by_cases hA : st = some []
      rotate_left
      · obtain rfl : X = none := hXn (fun h => hA h.1)
        have hq : (st == some []) = false := beq_eq_false_iff_ne.2 hA
        rw [hq] at kD
        clear hXn hX hF hA hO hend g1
        go_wp2_with fail
        refine kD.mono ?_
        rintro e w5 ⟨rfl, rfl⟩
        go_wp2_with fail
        refine leave1 rfl hk (results_tmp2 rfl _ _ _) ?_
        exact decS_none (HEND.out _ hL.ext)
      subst hA
      rw [show ((some [] : Option (List UInt8)) == some []) = true from rfl] at kD
      by_cases hM : xs.length = c.toNat
      rotate_left
      · obtain rfl : X = none := hXn (fun h => hM h.2)
        have hM2 : ¬ ((xs.length : Int) = ((c.toNat : Nat) : Int)) := by omega
        clear hXn hX hF hO hend g1
        go_wp2_with fail
        refine kD.mono ?_
        rintro e w5 ⟨rfl, rfl⟩
        go_wp2_with fail
        refine leave1 rfl hk (results_tmp2 rfl _ _ _) ?_
        exact decS_none (HEND.out _ hL.ext)
      have hpar := hF.1 ⟨rfl, by rw [List.length_map]; exact hM⟩
      rw [hpar] at hX
      have hfc := hrun.facts.2.2.2
      have hwf : ∀ x ∈ xs, Wfm x.1 := fun x hx => (hfc x.1 (List.mem_map_of_mem hx)).1
      have hsm : ∀ x ∈ xs, x.1.b.length ≤ maxLen := fun x hx => by have := (hfc x.1 (List.mem_map_of_mem hx)).2; unfold maxLen; omega
      have kT := together_calls p xs (.slice oa xs.length ocap) W (msgs_of_own hO (fun x hx => (hL.pays x hx).bys (hsm x hx))) hwf
      have hp := hL.plan
      rw [hM] at kT c1
      have HT := Lib.hid (And.intro hO (And.intro hwf (And.intro hsm (And.intro hpar (And.intro hM (And.intro g1 hL))))))
      clear hO hwf hsm hpar hM g1 hXn hF hfc hend hrun hL
      by_cases hc : c.toNat = 0
      · obtain rfl : X = none := by rw [hX, if_pos ⟨hc, by simp⟩]
        rw [hc] at c1 c2
        clear kT hX hp
        go_wp2_with fail
        refine kD.mono ?_
        rintro e w5 ⟨rfl, rfl⟩
        go_wp2_with fail
        refine leave1 rfl hk (results_tmp2 rfl _ _ _) ?_
        exact decS_none (HEND.out _ HT.out.2.2.2.2.2.2.ext)
      replace hX : X = if togB p (xs.map Prod.fst) then some (xs.map Prod.fst) else none := by rw [hX, if_neg (fun e => hc e.1)]
      have hc2 : ¬ ((c.toNat : Int) = 0) := by omega
      obtain ⟨tg, htg⟩ : ∃ tg, togB p (xs.map Prod.fst) = tg := ⟨_, rfl⟩
      rw [htg] at kT hX
      have HX := Lib.hid hX
      clear hX htg
      unfold planV planC at kT
      go_wp2_with fail
      refine kD.mono ?_
      rintro e w5 ⟨rfl, rfl⟩
      clear kD
      go_wp2_with (refine loadPlanPw hp (by rfl) rfl rfl ?_)
      refine kT.mono ?_
      rintro e w6 ⟨rfl, h6⟩
      obtain ⟨hO, hwf, hsm, hpar, hM, g1, hL⟩ := HT.out
      have hk6 := h6.block hk
      have c16 := h6.cell c1
      clear c1 c2 kT
      cases tg with
      | false =>
        obtain rfl : X = none := HX.out
        have HZ := Lib.hid (And.intro hL h6)
        clear hO hwf hsm hpar hM g1 hL h6 HT c16
        go_wp2_with fail
        refine leave1 rfl hk6 (results_tmp2 rfl _ _ _) ?_
        exact decS_none (HEND.out _ (HZ.out.1.ext.trans HZ.out.2))
      | true =>
        obtain rfl : X = some (xs.map Prod.fst) := HX.out
        have L6 : LpC w ws.heap.size (w.heap.size + 1) w1.heap.size w.heap.size c.toNat p xs (w6.putObj D (.deferred none)) := (hL.grown (ext_grown none _ _ h6) hxs (fun r e => (by cases e))).grown (grownBy_putObj' w6 D _) hxs (fun r e => (by cases e; exact ⟨hD, _, hk6, rfl⟩))
        have hbl : (w6.putObj D (.deferred none)).heap[w.heap.size + 1]? = some (.cells #[.slice oa xs.length ocap] TLs) := (World.putObj_heap_other (by omega)).trans (h6.block g1)
        have HZ := Lib.hid (And.intro L6 (And.intro hbl (And.intro hwf (And.intro hsm hM))))
        clear hO hwf hsm hpar hM g1 hL h6 HT L6 hbl
        go_wp2_with fail
        refine leave1 rfl hk6 (results_tmp2 rfl _ _ _) ?_
        obtain ⟨L6, hbl, hwf, hsm, hM⟩ := HZ.out
        obtain ⟨v6, g6, hO6⟩ := L6.row
        rw [hbl] at g6
        obtain rfl : Value.slice oa xs.length ocap = v6 := by simpa using g6
        have hO7 : OwnG encM 4 (w6.putObj D (.deferred none)) w.heap.size TMsg (.slice oa xs.length ocap) xs := ⟨hO6.1, hO6.2.imp id (fun ⟨g, cap, cur, h1, h2, h3⟩ => ⟨g, cap, cur, h1, by omega, h3⟩)⟩
        refine ⟨.slice oa xs.length ocap, xs, ?_, rfl, msgs_of_own hO7 (fun x hx => (L6.pays x hx).bys (hsm x hx)), hO7, fun y hy => (L6.pays y hy).mono hxs, hwf, L6.ext, fun h => (by cases h)⟩
        rw [hM]; rfl
    · obtain ⟨rfl, hL, hlen, l, hrun, hIn⟩ := hI
      have hF := fin_stop hrun (by rw [List.length_map]; exact hlen)
      obtain ⟨st, hst⟩ : ∃ st, st = some l := ⟨_, rfl⟩
      rw [← hst] at hF hIn
      clear hst hseq hL0
      obtain ⟨v, g1, hO⟩ := hL.row
      obtain ⟨oa, ocap, rfl⟩ := hO.slice
      have c1 : W.cell? ⟨w.heap.size + 1, 0, none⟩ = some (.slice oa xs.length ocap) := cell_of_row _ _ 0 _ _ _ g1
      have c2 : W.cell? ⟨w1.heap.size, 0, none⟩ = some (.int .i64 ((c.toNat : Nat) : Int)) := cell_of_row _ _ 0 _ _ _ hL.many
      have kD := Done_calls B st W hIn.1
      have hX : X = if c.toNat = 0 ∧ 0 < (c :: b' : List UInt8).length then none else match parseN c.toNat b' with
        | some xs => if togB p xs then some xs else none
        | none => none := HD.out
      have hwD : w.heap.size ≤ D := by omega
      have hend : ∀ V : World, Ext w V → Ext w (V.putObj D (.deferred none)) := fun V h => Below.trans h (grown_below (grownBy_putObj' V D _) h.size (fun k e => (by cases e; exact hwD)))
      have HEND := Lib.hid hend
      have hXn : ¬ (st = some [] ∧ xs.length = c.toNat) → X = none := fun h => by
        have h2 := hF.2 (by rw [List.length_map]; exact h)
        rw [hX]
        split
        · rfl
        · rw [h2]
      by_cases hA : st = some []
      rotate_left
      · obtain rfl : X = none := hXn (fun h => hA h.1)
        have hq : (st == some []) = false := beq_eq_false_iff_ne.2 hA
        rw [hq] at kD
        clear hXn hX hF hA hO hend g1
        go_wp2_with fail
        refine kD.mono ?_
        rintro e w5 ⟨rfl, rfl⟩
        go_wp2_with fail
        refine leave1 rfl hk (results_tmp2 rfl _ _ _) ?_
        exact decS_none (HEND.out _ hL.ext)
      subst hA
      rw [show ((some [] : Option (List UInt8)) == some []) = true from rfl] at kD
      by_cases hM : xs.length = c.toNat
      rotate_left
      · obtain rfl : X = none := hXn (fun h => hM h.2)
        have hM2 : ¬ ((xs.length : Int) = ((c.toNat : Nat) : Int)) := by omega
        clear hXn hX hF hO hend g1
        go_wp2_with fail
        refine kD.mono ?_
        rintro e w5 ⟨rfl, rfl⟩
        go_wp2_with fail
        refine leave1 rfl hk (results_tmp2 rfl _ _ _) ?_
        exact decS_none (HEND.out _ hL.ext)
      exact absurd hM (by omega)
end Go.Proofs.Ytjhhcfadeankfaa.VMsg
