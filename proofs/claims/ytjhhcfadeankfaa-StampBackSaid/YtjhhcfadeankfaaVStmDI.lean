/- stamp: each, as an iterator tells it. -/
import Derived.Test.YtjhhcfadeankfaaVStmDK
namespace Go.Proofs.Ytjhhcfadeankfaa.VMsg
open Go.RowKit Go.VBase Go.VRg Go.VEq VCst Go.VPlan VPlan Go.VOct VOct Go.VSeq

theorem st_func (P : Program) (w : World) (a : Addr) (fn : Fn) (f c : Array Value) (m : Mode) : (store a (.func fn f c) m).run P w = stored P w a (.func fn f c) m := run_store P w a _ m rfl
attribute [local go_sem] st_func
set_option maxHeartbeats 1000000 in
theorem each_calls (B : Nat) (w : World) : Calls Try.prog 42 #[.pointer (some ⟨B, 0, none⟩)] w fun e w' =>
    ∃ b1 b3 : Nat, e = .returned (.func (.func 58) #[] #[.pointer (some ⟨b1, 0, none⟩), .pointer (some ⟨b3, 0, none⟩)]) ∧ w.heap.size ≤ b1 ∧ w.heap.size ≤ b3 ∧
      w'.heap[b1]? = some (.cells #[.pointer (some ⟨B, 0, none⟩)] 68) ∧ w'.heap[b3]? = some (.cells #[clV B] 70) ∧ Ext w w' := by
  go_enter Try.func42, Try.ntmps42
  have rn : ((w.alloc (.cells #[.pointer (some ⟨B, 0, none⟩)] 68)).alloc (.cells #[clV B] 70)).heap[w.heap.size + 1]? = some (.cells #[clV B] 70) := heap_alloc_at _ _ (by simp)
  have ro := (Ext.alloc _ (.cells #[clV B] 70)).block (heap_alloc_new w (.cells #[.pointer (some ⟨B, 0, none⟩)] 68))
  have hx := (Ext.alloc w (.cells #[.pointer (some ⟨B, 0, none⟩)] 68)).thenAlloc (.cells #[clV B] 70)
  have HR := Lib.hid (And.intro rn (And.intro ro hx))
  clear rn ro hx
  go_wp2_with fail
  go_ret
  exact ⟨w.heap.size, w.heap.size + 1, rfl, Nat.le_refl _, Nat.le_succ _, HR.out.2.1, HR.out.1, HR.out.2.2⟩
attribute [local go_sem] Oper.semAt_some
set_option maxRecDepth 100000 in
set_option maxHeartbeats 8000000 in
theorem each1_in (b0 : List UInt8) (hlen : b0.length ≤ 100000) (B b1 b3 lp n : Nat) (J Jx : List (MsgD × Sl3) → World → Prop)
    (hY : ∀ pre x V, J pre V → NxM b0 B n pre x V → YieldAt Fence.wide 7 Try.prog lp #[msgV x.1 (slV x.2)] V fun e V' => (e = .returned (.bool true) ∧ J (pre ++ [x]) V' ∧ KpM V V') ∨ (e = .returned (.bool false) ∧ Jx (pre ++ [x]) V'))
    (hR : ∀ pre V V', J pre V → RitM B V V' → J pre V') (W : World) (hn : n ≤ W.heap.size) (hIn : InV W TIn B (some b0)) (r1 : W.heap[b1]? = some (.cells #[.pointer (some ⟨B, 0, none⟩)] 68)) (r3 : W.heap[b3]? = some (.cells #[clV B] 70)) (h0 : J [] W) :
    CallsIn Fence.wide 8 Try.prog 58 #[.func (.yield lp) #[] #[], .pointer (some ⟨b1, 0, none⟩), .pointer (some ⟨b3, 0, none⟩)] W fun e W' => (∃ v, e = .returned v) ∧ ((∃ xs, EndM b0 B xs W' ∧ J xs W') ∨ (∃ pre, Jx pre W')) := by
  have hb1 : b1 ≠ B := by
    rintro rfl
    obtain ⟨v, hv⟩ : ∃ v, W.heap[b1]? = some (.cells #[v, .bool true] TIn) := by obtain ⟨⟨v, hv, _⟩, _⟩ := hIn; exact ⟨v, hv⟩
    rw [r1] at hv; cases hv
  have hb3 : b3 ≠ B := by
    rintro rfl
    obtain ⟨v, hv⟩ : ∃ v, W.heap[b3]? = some (.cells #[v, .bool true] TIn) := by obtain ⟨⟨v, hv, _⟩, _⟩ := hIn; exact ⟨v, hv⟩
    rw [r3] at hv; cases hv
  refine callsIn_of_wp Try.func58 rfl trivial ?_ rfl
  simp only [Try.ntmps58, List.size_toArray, List.length_cons, List.length_nil, Nat.reduceAdd, Nat.reduceSub, Array.replicate_succ, Array.replicate_zero, List.push_toArray, List.append_toArray, List.nil_append, List.cons_append]
  gi_wp2
  gi_loopw [4] (fun _ wr => ∃ pre l, RunM b0 (pre.map Prod.fst) l ∧ l.length ≤ b0.length ∧ J pre wr ∧ InV wr TIn B (some l) ∧ wr.heap[b1]? = some (.cells #[.pointer (some ⟨B, 0, none⟩)] 68) ∧ wr.heap[b3]? = some (.cells #[clV B] 70) ∧ n ≤ wr.heap.size) (fun _ wr => lenIn wr B)
  case atStart => exact ⟨[], b0, .nil, Nat.le_refl _, h0, hIn, r1, r3, hn⟩
  case round =>
    obtain ⟨pre, l, hrun, hll, hJp, hI, q1, q3, hsz⟩ := hrel
    have kL := Left_calls B (some l) wr hI.1
    have c1 : wr.cell? ⟨b1, 0, none⟩ = some (.pointer (some ⟨B, 0, none⟩)) := cell_of_row _ _ 0 _ _ _ q1
    clear r1 r3 hIn h0
    by_cases hl : l = []
    · subst hl
      clear hY hR q1 q3
      gi_wp2
      refine ⟨trivial, (callsIn_wide.2 kL).mono ?_⟩
      rintro e w2 ⟨rfl, rfl⟩
      have hd : (0 : Int) < ((stAll (some ([] : List UInt8))).length : Int) ↔ False := by simp [stAll]
      gi_wp2
      go_end0
      exact ⟨⟨_, rfl⟩, .inl ⟨pre, ⟨[], some [], hrun, .inl ⟨rfl, rfl⟩, hI⟩, hJp⟩⟩
    have hd : 0 < (stAll (some l)).length := List.length_pos_iff.2 hl
    gi_wp2
    refine ⟨trivial, (callsIn_wide.2 kL).mono ?_⟩
    rintro e w2 ⟨rfl, rfl⟩
    clear kL c1
    gi_wp2
    refine wpIn_wide.2 ?_
    have hBlt := hI.1.lt
    obtain ⟨ms, hms⟩ : ∃ ms : MsgD, ms = ⟨s64 (numB (t8 l).1), (numB (t9 l).1 : Int), (numB (t13 l).1 : Int), []⟩ := ⟨_, rfl⟩
    obtain ⟨L9, L13, L14⟩ := t_lens l
    have w9 := numB_wrap L9
    have w13 := numB_wrap L13
    have kq : ∀ W2, GeR wr.heap.size B wr.drew W2 → W2.cell? ⟨b1, 0, none⟩ = some (.pointer (some ⟨B, 0, none⟩)) ∧ W2.cell? ⟨b3, 0, none⟩ = some (.func (.func 41) #[.pointer (some ⟨B, 0, none⟩)] #[]) := fun W2 h =>
      ⟨cell_of_row _ _ 0 _ _ _ (h.2.2.1 b1 _ q1 hb1 (.inr (fun c e => by cases e))), cell_of_row _ _ 0 _ _ _ (h.2.2.1 b3 _ q3 hb3 (.inr (fun c e => by cases e)))⟩
    refine wp_region_chainB (GeR wr.heap.size B) Ext [(1, .known (.int .u64 (numB (t8 l).1 : Int))), (4, .known (.int .u64 (numB (t9 l).1 : Int))), (7, .known (.int .u64 (numB (t13 l).1 : Int))), (10, .unk (MBox wr.heap.size B) MBox.keep), (11, .known undef)] [1, 4, 7, 11] [10] (GetS l wr.heap.size B ms)
      (by kernel_rfl) (by kernel_rfl) (by kernel_rfl) (by kernel_rfl) (fun _ _ h => GeR.ext h) (fun _ _ _ _ e h => h.ext e) (fun _ _ h => h.1) ?_ ?_ (GeR.refl _ _) (fun _ _ _ => GeR.trans) (fun σ => ⟨fun _ => hI.ext (Ext.drew _), fun h => absurd h (by simp), fun h => absurd h (by simp), fun h => absurd h (by simp), fun h => absurd h (by simp)⟩) ?_
    · intro i hi
      simp at hi
      subst hi
      exact ⟨rfl, by decide, fun o ho => by cases ho; exact ⟨_, fun a W => by go_simp; rfl⟩⟩
    · intro σ τ vs W2 h hS
      refine ⟨hS.1, hS.2.1, hS.2.2.1, hS.2.2.2.1, fun k => ?_⟩
      rw [← h 10 11 3 rfl (by omega) (by kernel_rfl)]; exact hS.2.2.2.2 k
    intro σ
    simp only
    repeat (refine cb_pure (x := ?_) rfl (by rfl) (fun W2 hW => ?_) ?_; rotate_left; (· obtain ⟨f1, f3⟩ := kq W2 hW; go_simp; with_reducible rfl); simp only [Nat.reduceAdd, Act.put, List.setIfInBounds_toArray, List.set_cons_zero, List.set_cons_succ])
    refine cb_call 0 rfl rfl (by decide) rfl (by rfl) (fun W2 hW hF hA hS => ?_) ?_
    · have hi : InV W2 TIn B (some l) := hS.1 (by simp)
      go_simp
      refine (Get_callsV B _ 8 W2 hi (by decide) (by decide)).mono ?_
      rintro e W3 ⟨rfl, h1, h2⟩
      refine ⟨_, rfl, GeR.touch h2, rfl, fun h => absurd h (by simp), fun _ => h1, fun h => absurd h (by simp), fun h => absurd h (by simp), fun h => absurd h (by simp)⟩
    simp only [Nat.reduceAdd, Act.put, List.setIfInBounds_toArray, List.set_cons_zero, List.set_cons_succ]
    repeat (refine cb_pure (x := ?_) rfl (by rfl) (fun W2 hW => ?_) ?_; rotate_left; (· obtain ⟨f1, f3⟩ := kq W2 hW; go_simp; with_reducible rfl); simp only [Nat.reduceAdd, Act.put, List.setIfInBounds_toArray, List.set_cons_zero, List.set_cons_succ])
    refine cb_call 1 rfl rfl (by decide) rfl (by rfl) (fun W2 hW hF hA hS => ?_) ?_
    · have hi : InV W2 TIn B (t8 l).2 := hS.2.1 (by simp)
      go_simp
      refine (Get_callsV B _ 1 W2 hi (by decide) (by decide)).mono ?_
      rintro e W3 ⟨rfl, h1, h2⟩
      refine ⟨_, rfl, GeR.touch h2, rfl, fun h => absurd h (by simp), fun h => absurd h (by simp), fun _ => h1, fun h => absurd h (by simp), fun h => absurd h (by simp)⟩
    simp only [Nat.reduceAdd, Act.put, List.setIfInBounds_toArray, List.set_cons_zero, List.set_cons_succ]
    repeat (refine cb_pure (x := ?_) rfl (by rfl) (fun W2 hW => ?_) ?_; rotate_left; (· obtain ⟨f1, f3⟩ := kq W2 hW; go_simp; with_reducible rfl); simp only [Nat.reduceAdd, Act.put, List.setIfInBounds_toArray, List.set_cons_zero, List.set_cons_succ])
    refine cb_call 2 rfl rfl (by decide) rfl (by rfl) (fun W2 hW hF hA hS => ?_) ?_
    · have hi : InV W2 TIn B (t9 l).2 := hS.2.2.1 (by simp)
      go_simp
      refine (Get_callsV B _ 4 W2 hi (by decide) (by decide)).mono ?_
      rintro e W3 ⟨rfl, h1, h2⟩
      refine ⟨_, rfl, GeR.touch h2, rfl, fun h => absurd h (by simp), fun h => absurd h (by simp), fun h => absurd h (by simp), fun _ => h1, fun h => absurd h (by simp)⟩
    simp only [Nat.reduceAdd, Act.put, List.setIfInBounds_toArray, List.set_cons_zero, List.set_cons_succ]
    repeat (refine cb_pure (x := ?_) rfl (by rfl) (fun W2 hW => ?_) ?_; rotate_left; (· obtain ⟨f1, f3⟩ := kq W2 hW; go_simp; with_reducible rfl); simp only [Nat.reduceAdd, Act.put, List.setIfInBounds_toArray, List.set_cons_zero, List.set_cons_succ])
    refine cb_unk rfl (by decide) (by rfl) (fun W2 hW hF hS => ?_) ?_
    · have : wr.heap.size ≤ W2.heap.size := hW.1
      go_simp; exact ⟨Ext.alloc _ _, _, _, rfl, hW.1, by omega, rfl, heap_alloc_new _ _⟩
    simp only [Nat.reduceAdd, Act.put, List.setIfInBounds_toArray, List.set_cons_zero, List.set_cons_succ]
    refine cb_call 3 rfl rfl (by decide) rfl (by rfl) (fun W2 hW hF hA hS => ?_) ?_
    · obtain ⟨b, c, hb, hbn, hbB, hc, hrow⟩ := hF 10 _ _ rfl (by kernel_rfl)
      have hi := hS.2.2.2.1 (by simp)
      refine eff_storeMsgE (m := ms) (ua := none) (un := 0) (uc := 0) hrow hc rfl hb ?_ (GeR.set hbn hrow rfl) ⟨rfl, fun h => absurd h (by simp), fun h => absurd h (by simp), fun h => absurd h (by simp), fun _ => InV.kpm hi (KpM.one (by simp) hrow rfl (fun k _ hk => setRow_other _ _ _ _ hk)), fun _ => ⟨b, hb, hbn, hbB, setRow_heap _ _ _ _ _ _ hrow⟩⟩
      subst hms
      rfl
    simp only [Nat.reduceAdd, Act.put, List.setIfInBounds_toArray, List.set_cons_zero, List.set_cons_succ]
    refine cb_done rfl (fun W4 hW4 hF hA hS => ?_)
    have h4 := hS.2.2.2.1 (by simp)
    obtain ⟨b, hb, hbn, hbB, hrow⟩ := hS.2.2.2.2 (by simp)
    have ht4 : TouchO B none wr W4 := (TouchO.of_ext (Ext.drew wr)).same (hW4.out (Nat.le_refl _))
    clear hS hF hA kq
    simp only [hb]
    have q14 : W4.heap[b1]? = some (.cells #[.pointer (some ⟨B, 0, none⟩)] 68) := (ht4.block _ (Array.getElem?_eq_some_iff.1 q1).1 hb1 (by simp)).trans q1
    have q34 : W4.heap[b3]? = some (.cells #[clV B] 70) := (ht4.block _ (Array.getElem?_eq_some_iff.1 q3).1 hb3 (by simp)).trans q3
    have hlW : (stAll (t14 l).2).length ≤ 100000 := Nat.le_trans (tlen l).2 (Nat.le_trans hll hlen)
    have hn4 : n ≤ W4.heap.size := Nat.le_trans hsz (by have := ht4.size; exact this)
    have HMS := Lib.hid hms
    clear hms
    clear hsz hd hW4
    gi_wp2
    refine wpIn_wide.2 ?_
    have kq2 : ∀ W2 : World, ((∀ o, W4.drew.heap[b1]? = some o → W2.heap[b1]? = some o) ∧ (∀ o, W4.drew.heap[b3]? = some o → W2.heap[b3]? = some o)) → W2.cell? ⟨b1, 0, none⟩ = some (.pointer (some ⟨B, 0, none⟩)) ∧ W2.cell? ⟨b3, 0, none⟩ = some (.func (.func 41) #[.pointer (some ⟨B, 0, none⟩)] #[]) := fun W2 h =>
      ⟨cell_of_row _ _ 0 _ _ _ (h.1 _ q14), cell_of_row _ _ 0 _ _ _ (h.2 _ q34)⟩
    refine wp_region_chainB (fun X Y => X.heap.size ≤ Y.heap.size ∧ (∀ o, X.heap[b1]? = some o → Y.heap[b1]? = some o) ∧ (∀ o, X.heap[b3]? = some o → Y.heap[b3]? = some o)) Ext [(2, .known (.int .u64 (numB (t14 l).1 : Int))), (4, .unk (fun _ _ => True) (fun _ _ _ _ h => h)), (6, .known undef)] [2, 4, 6] [] (fun _ => PayS l n B b b1 b3 wr ms (.cells #[.pointer (some ⟨B, 0, none⟩)] 68) (.cells #[clV B] 70))
      (by kernel_rfl) (by kernel_rfl) (by kernel_rfl) (by kernel_rfl) (fun _ _ h => ⟨h.size, fun _ => h.block, fun _ => h.block⟩) (fun _ _ _ _ e h => h.ext e) (fun _ _ h => h.1) (fun i hi => by cases hi) (fun _ _ _ _ _ h => h) (fun _ => ⟨Nat.le_refl _, fun _ h => h, fun _ h => h⟩) (fun _ _ _ h k => ⟨Nat.le_trans h.1 k.1, fun o ho => k.2.1 o (h.2.1 o ho), fun o ho => k.2.2 o (h.2.2 o ho)⟩)
      (fun σ => ⟨fun _ => ⟨h4.ext (Ext.drew _), hrow, ht4.same (TouchO.of_ext (Ext.drew _)), q14, q34, hn4⟩, fun h => absurd h (by simp), fun h => absurd h (by simp), fun h => absurd h (by simp)⟩) ?_
    intro σ2
    simp only
    have w14 := numB_wrap L14
    have n14 : (0 : Int) ≤ (numB (t14 l).1 : Int) ∧ (numB (t14 l).1 : Int) ≤ 9223372036854775807 := by
      rw [IntKind.wrap_i64] at w14; omega
    have kk : ∀ {X Y : World}, TouchO B none X Y → X.heap.size ≤ Y.heap.size ∧ (∀ o, X.heap[b1]? = some o → Y.heap[b1]? = some o) ∧ (∀ o, X.heap[b3]? = some o → Y.heap[b3]? = some o) := fun t =>
      ⟨t.size, fun o ho => (t.block _ (Array.getElem?_eq_some_iff.1 ho).1 hb1 (by simp)).trans ho, fun o ho => (t.block _ (Array.getElem?_eq_some_iff.1 ho).1 hb3 (by simp)).trans ho⟩
    repeat (refine cb_pure (x := ?_) rfl (by rfl) (fun W2 hW => ?_) ?_; rotate_left; (· obtain ⟨f1, f3⟩ := kq2 W2 hW.2; go_simp; with_reducible rfl); simp only [Nat.reduceAdd, Act.put, List.setIfInBounds_toArray, List.set_cons_zero, List.set_cons_succ])
    refine cb_call 0 rfl rfl (by decide) rfl (by rfl) (fun W2 hW hF hA hS => ?_) ?_
    · have hi := hS.1 (by simp)
      go_simp
      refine (Get_callsV B _ 1 W2 hi.1 (by decide) (by decide)).mono ?_
      rintro e W3 ⟨rfl, h1, h2⟩
      exact ⟨_, rfl, kk h2, rfl, fun h => absurd h (by simp), fun _ => hi.touch h2 h1 hbB hb1 hb3, fun h => absurd h (by simp), fun h => absurd h (by simp)⟩
    simp only [Nat.reduceAdd, Act.put, List.setIfInBounds_toArray, List.set_cons_zero, List.set_cons_succ]
    repeat (refine cb_pure (x := ?_) rfl (by rfl) (fun W2 hW => ?_) ?_; rotate_left; (· obtain ⟨f1, f3⟩ := kq2 W2 hW.2; go_simp; with_reducible rfl); simp only [Nat.reduceAdd, Act.put, List.setIfInBounds_toArray, List.set_cons_zero, List.set_cons_succ])
    refine cb_call' 1 rfl rfl (by decide) rfl (by rfl) (fun W2 hW hF hA hS => ?_) ?_
    · have hi := hS.2.1 (by simp)
      go_simp
      refine (Take_callsV B _ _ W2 hi.1 (by omega) n14.2 (by omega)).mono ?_
      rintro e W3 ⟨u, rfl, ho, h1, h2⟩
      exact ⟨_, rfl, kk h2, fun h => absurd h (by simp), fun h => absurd h (by simp), fun _ => ⟨hi.touch h2 h1 hbB hb1 hb3, ho.mono hi.2.2.2.2.2⟩, fun h => absurd h (by simp)⟩
    simp only [Nat.reduceAdd, Act.put, List.setIfInBounds_toArray, List.set_cons_zero, List.set_cons_succ]
    repeat (refine cb_pure (x := ?_) rfl (by rfl) (fun W2 hW => ?_) ?_; rotate_left; (· obtain ⟨f1, f3⟩ := kq2 W2 hW.2; go_simp; with_reducible rfl); simp only [Nat.reduceAdd, Act.put, List.setIfInBounds_toArray, List.set_cons_zero, List.set_cons_succ])
    refine cb_call 2 rfl rfl (by decide) rfl (by rfl) (fun W2 hW hF hA hS => ?_) ?_
    · obtain ⟨hi, ho⟩ := hS.2.2.1 (by simp)
      have ho : OwnB W2 n TB (σ2 4) (tPay l).1 := ho
      obtain ⟨ua, uc, hu⟩ := ho.slice
      have hs := setRow_heap W2 b _ #[.int .i64 ms.st, .int .i64 ms.se, .int .i64 ms.nu, .slice ua (tPay l).1.length uc] _ _ hi.2.1
      have hke : KpM W2 (W2.setRow b #[.int .i64 ms.st, .int .i64 ms.se, .int .i64 ms.nu, .slice ua (tPay l).1.length uc]) := KpM.one (by simp) hi.2.1 rfl (fun k _ hk => setRow_other _ _ _ _ hk)
      refine eff_storeF3 hi.2.1 rfl rfl hu ⟨by simp, fun o h => hke.2 b1 o h ?_, fun o h => hke.2 b3 o h ?_⟩ ⟨rfl, fun h => absurd h (by simp), fun h => absurd h (by simp), fun h => absurd h (by simp), fun _ => ⟨⟨InV.kpm hi.1 hke, ?_, ?_, hke.2 b1 _ hi.2.2.2.1 rfl, hke.2 b3 _ hi.2.2.2.2.1 rfl, by simpa using hi.2.2.2.2.2⟩, own_kpm ho hke⟩⟩
      · rw [hi.2.2.2.1] at h; cases h; rfl
      · rw [hi.2.2.2.2.1] at h; cases h; rfl
      · show _ = some (Obj.cells #[_, _, _, σ2 4] TMsg)
        rw [hu]; exact hs
      · have tt := hi.2.2.1
        exact ⟨tt.os, tt.tape, tt.output, by simpa using tt.size, fun k hk hB hr => (setRow_other _ _ _ _ (by omega)).trans (tt.block k hk hB hr)⟩
    simp only [Nat.reduceAdd, Act.put, List.setIfInBounds_toArray, List.set_cons_zero, List.set_cons_succ]
    refine cb_done rfl (fun W7 hW7 hF hA hS => ?_)
    obtain ⟨hf, hown⟩ := hS.2.2.2 (by simp)
    have hown : OwnB W7 n TB (σ2 4) (tPay l).1 := hown
    obtain ⟨hi7, hrow7, ht7, q17, q37, hn7⟩ := hf
    have hrow7 : W7.heap[b]? = some (.cells #[.int .i64 ms.st, .int .i64 ms.se, .int .i64 ms.nu, σ2 4] TMsg) := hrow7
    clear hS hF hA kq2 kk hW7
    have hJ7 : J pre W7 := hR pre wr W7 hJp ⟨ht7, by
      obtain ⟨⟨v, hv, _⟩, _⟩ := hI
      exact ⟨_, _, _, hv⟩⟩
    have kS := InSpoilt_calls B (tPay l).2 W7 hi7.1
    have c1 : W7.cell? ⟨b1, 0, none⟩ = some (.pointer (some ⟨B, 0, none⟩)) := cell_of_row _ _ 0 _ _ _ q17
    have hlI := lenIn_of hI
    clear h4 hrow ht4 q14 q34 hn4 hlW q1 q3 hR hJp hI w9 w13 w14 n14 L9 L13 L14 ht7
    rcases rd_chain l with ⟨m, rest, hrd, e1, e2, e3, e4⟩ | ⟨hrd, hno⟩
    rotate_left
    · rw [hno] at kS hi7
      simp only [Option.isNone_none] at kS
      clear hY
      gi_wp2
      refine ⟨trivial, (callsIn_wide.2 kS).mono ?_⟩
      rintro e w2 ⟨rfl, rfl⟩
      gi_wp2
      refine ⟨fun f h => (by cases h), ?_⟩
      gi_wp2
      refine bodyPost_ret (results_none rfl _ _ _) rfl ?_
      exact ⟨⟨_, rfl⟩, .inl ⟨pre, ⟨l, none, hrun, .inr ⟨hl, hrd, rfl⟩, hi7⟩, hJ7⟩⟩
    rw [e4] at kS hi7 hown
    obtain rfl := HMS.out
    clear HMS
    simp only at hrow7
    rw [e1, e2, e3] at hrow7
    obtain ⟨ua, uc, hu⟩ := hown.slice
    simp only [hu] at hown hrow7 ⊢
    have m0 : W7.cell? ⟨b, 0, none⟩ = some (.int .i64 m.st) := cell_of_row _ _ 0 _ _ _ hrow7
    have m1 : W7.cell? ⟨b, 1, none⟩ = some (.int .i64 m.se) := cell_of_row _ _ 1 _ _ _ hrow7
    have m2 : W7.cell? ⟨b, 2, none⟩ = some (.int .i64 m.nu) := cell_of_row _ _ 2 _ _ _ hrow7
    have m3 : W7.cell? ⟨b, 3, none⟩ = some (.slice ua m.b.length uc) := cell_of_row _ _ 3 _ _ _ hrow7
    obtain ⟨fn, tmps, assign, body, hy, hRR⟩ := hY pre (m, (ua, m.b.length, uc)) W7 hJ7 ⟨l, rest, hrun, hrd, hi7, hown⟩
    unfold msgV slV at hy
    simp only at hy
    clear hY hJ7
    gi_wp2
    refine ⟨trivial, (callsIn_wide.2 kS).mono ?_⟩
    rintro e w2 ⟨rfl, rfl⟩
    clear kS c1
    gi_wp2
    refine hRR.mono ?_
    rintro e W8 (⟨rfl, hJ8, hk8⟩ | ⟨rfl, hJx8⟩)
    · have hi8 := InV.kpm hi7 hk8
      clear hy hRR m0 m1 m2 m3
      gi_wp2
      go_roundw
      case rel => exact ⟨pre ++ [(m, ua, m.b.length, uc)], rest, by rw [List.map_append]; exact .snoc hrun hrd, by have := rdL_len hrd; omega, hJ8, hi8, hk8.2 _ _ q17 rfl, hk8.2 _ _ q37 rfl, Nat.le_trans hn7 hk8.1⟩
      case measure => rw [lenIn_of hi8, hlI]; have := rdL_len hrd; omega
    · clear hy hRR m0 m1 m2 m3
      gi_wp2
      refine bodyPost_ret (results_none rfl _ _ _) rfl ?_
      exact ⟨⟨_, rfl⟩, .inr ⟨_, hJx8⟩⟩
end Go.Proofs.Ytjhhcfadeankfaa.VMsg
