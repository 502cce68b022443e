/- octet's Put, where the number is one of that width; and what Put comes to. -/
import Derived.Test.YtcdaelgnankmfaaVPut
namespace Go.Proofs.Ytcdaelgnankmfaa.VOct
open Go.RowKit Go.VBase Go.VOct Go.VSeq Go.VRg

/-- A number's byte, so many bits up. -/
def byteAt (n : Nat) (j : Fin 8) : UInt8 := UInt8.ofNat (n / 256 ^ j.val % 256)

theorem byteAt_int (n : Nat) (j : Fin 8) : IntKind.u8.wrap ((n : Int) / 2 ^ (8 * (j.val : Int)).toNat) = ((byteAt n j).toNat : Int) := by
  have e : ∀ j : Fin 8, (2 : Int) ^ (8 * (j.val : Int)).toNat = ((256 ^ j.val : Nat) : Int) := by decide
  rw [e j, ← Int.natCast_ediv]
  unfold byteAt
  generalize n / 256 ^ j.val = q
  simp only [IntKind.wrap_u8, UInt8.toNat_ofNat']
  omega

theorem shifts_bytes (n : Nat) : ∀ (k : Nat), k ≤ 8 → (shifts k).map (byteAt n) = beB k n := by
  intro k
  induction k generalizing n with
  | zero => intro _; rfl
  | succ k ih =>
    intro hk
    rw [beB, ← ih (n / 256) (by omega)]
    unfold shifts
    simp only [List.range_succ, List.map_append, List.map_map]
    congr 1
    · apply List.map_congr_left
      intro i hi
      rw [List.mem_range] at hi
      simp only [Function.comp]
      unfold byteAt shf
      simp only
      rw [Nat.mod_eq_of_lt (show k + 1 - 1 - i < 8 by omega), Nat.mod_eq_of_lt (show k - 1 - i < 8 by omega), Nat.div_div_eq_div_mul]
      congr 3
      rw [show k + 1 - 1 - i = (k - 1 - i) + 1 by omega, Nat.pow_succ, Nat.mul_comm]
    · simp only [List.map_cons, List.map_nil]
      unfold byteAt shf
      simp

theorem cells_of_not {W W' : World} {row : Option Nat} (hg : W.grownBy W' row) (hr : ∀ r, row = some r → ∃ o : Obj, W.heap[r]? = some o ∧ o.isCells = false) {k : Nat} {cs : Array Value} {t : TypeId} (h : W.heap[k]? = some (.cells cs t)) : W'.heap[k]? = some (.cells cs t) := by
  refine (hg.block k (Array.getElem?_eq_some_iff.1 h).1 fun e => ?_).trans h
  obtain ⟨o, ho, hc⟩ := hr k e.symm
  rw [h] at ho; cases ho; simp [Obj.isCells] at hc
theorem outAt_own {W W' : World} {row : Option Nat} (hg : W.grownBy W' row) (hr : ∀ r, row = some r → ∃ o : Obj, W.heap[r]? = some o ∧ o.isCells = false) {T e B : Nat} {r : Option Nat} {st : Option (List UInt8)} (h : OutAt W T e B r st) : OutAt W' T e B r st := by
  cases st with
  | none => exact ⟨cells_of_not hg hr h.1, h.2⟩
  | some l =>
    obtain ⟨v, h1, h2, h3, h4⟩ := h
    refine ⟨v, cells_of_not hg hr h1, ⟨h2.1, ?_⟩, h3, h4⟩
    rcases h2.2 with hn | ⟨g, cap, cur, rfl, hb, hgg, rest⟩
    · exact .inl hn
    · exact .inr ⟨g, cap, cur, rfl, hb, cells_of_not hg hr hgg, rest⟩

theorem eff_append_row {P : Program} {t e : TypeId} (hT : ByteSl P t e) {o : Oper} {a : Act} {s x : Operand} (ho : o.op = .call { callee := .builtin .append, args := #[s, x], argTypes := #[t, t] })
    {W : World} {base : Nat} {v u : Value} {l m : List UInt8} {p : Value → World → Prop} {row : Option Nat} (hs : a.eval s = v) (hx : a.eval x = u) (h : OwnB W base e v l) (hr : v.ownBlock = row) (hu : Bys W u m)
    (hlen : l.length + m.length ≤ 140737488355328) (hb : base ≤ W.heap.size) (hp : ∀ v' w', OwnB w' base e v' (l ++ m) → W.grownBy w' row → (∀ g, v'.ownBlock = some g → row = some g ∨ W.heap.size ≤ g) → p v' w') :
    VRg.EffOut P (fun W W' => W.grownBy W' row) p W ((execOp a.eval o).run P W) := by
  subst hr; exact eff_append hT ho hs hx h hu hlen hb hp
theorem own_cells {w : World} {base e : Nat} {v : Value} {l : List UInt8} (h : OwnB w base e v l) {g : Nat} (hg : v.ownBlock = some g) {o : Obj} (ho : w.heap[g]? = some o) : o.isCells = true := by
  rcases h.2 with hn | ⟨g', cap, cur, rfl, hb, hgg, rest⟩
  · rw [hn.1] at hg; simp [Value.ownBlock] at hg
  · simp [Value.ownBlock] at hg; subst hg; rw [hgg] at ho; cases ho; rfl

/-- What holds between two rounds of Put's loop; s: the block of the Out's own pointer, q: a block that nobody turns. -/
def PutI (w : World) (B : Nat) (r : Option Nat) (l : List UInt8) (n s q : Nat) (pre : List (Fin 8)) (W : World) : Prop :=
  q < W.heap.size ∧ ∃ r', OutAt W TOut TB B r' (some (l ++ pre.map (byteAt n))) ∧ TouchO B r w W ∧ RowNext w r r' ∧ r' ≠ some s ∧ r' ≠ some (s + 1) ∧ r' ≠ some q ∧ W.heap[s]? = some (.cells #[.pointer (some ⟨B, 0, none⟩)] 86) ∧ W.heap[s + 1]? = some (.cells #[.int .u64 (n : Int)] 88)

theorem putI_own (w : World) (B : Nat) (r : Option Nat) (l : List UInt8) (n s q : Nat) (n0 : Nat) (hn0 : w.heap.size ≤ n0) : OwnFrom n0 (PutI w B r l n s q) := by
  rintro pre W W' row ⟨h0, r', h1, h2, h3, h4, h5, h5', h6, h7⟩ hg hr
  have hr' : ∀ r, row = some r → ∃ o : Obj, W.heap[r]? = some o ∧ o.isCells = false := fun k hk => (hr k hk).2
  refine ⟨Nat.lt_of_lt_of_le h0 hg.size, r', outAt_own hg hr' h1, ⟨hg.os.trans h2.os, hg.tape.trans h2.tape, hg.output.trans h2.output, Nat.le_trans h2.size hg.size, fun k hk hB hne => ?_⟩, h3, h4, h5, h5', cells_of_not hg hr' h6, cells_of_not hg hr' h7⟩
  refine (hg.block k (Nat.lt_of_lt_of_le hk h2.size) fun e => ?_).trans (h2.block k hk hB hne)
  have := (hr k e.symm).1
  omega

set_option maxRecDepth 100000 in
set_option maxHeartbeats 1000000 in
theorem Put_ok (B : Nat) (r : Option Nat) (l : List UInt8) (width : Int) (n : Nat) (w : World) (h : OutAt w TOut TB B r (some l)) (hw : widthB width = true) (hn : n < 18446744073709551616) (hsm : n < 256 ^ width.toNat) (hlen : l.length + 8 ≤ 140737488355328) :
    Calls Try.prog 46 #[.pointer (some ⟨B, 0, none⟩), .int .i64 width, .int .u64 (n : Int)] w (TailPost w B r (some (l ++ beB width.toNat n))) := by
  have hcase : width = 1 ∨ width = 2 ∨ width = 4 ∨ width = 8 := by
    unfold widthB at hw
    simp at hw
    omega
  have hk8 : width.toNat ≤ 8 := by omega
  have hw0 : -1 ≤ width := by omega
  have hwk : (width.toNat : Int) = width := by omega
  refine calls_of_marks Try.func46 rfl ?_
  simp only [Try.ntmps46, List.size_toArray, List.length_cons, List.length_nil, Nat.reduceAdd, Nat.reduceSub, Array.replicate_succ, Array.replicate_zero, List.push_toArray, List.append_toArray, List.nil_append, List.cons_append]
  go_wp2_with fail
  refine (Spoilt_calls B r (some l) _ ((h.ext (Ext.alloc _ _)).ext (Ext.alloc _ _))).mono ?_
  rintro e w' ⟨rfl, rfl⟩
  go_wp2_with fail
  refine (wide_calls width _).mono ?_
  rintro e w1 ⟨rfl, hx⟩
  rw [hw]
  have hx0 : Ext w w1 := ((Ext.alloc _ _).thenAlloc _).trans hx
  have h1 := h.ext hx0
  have hb0 : w1.heap[w.heap.size]? = some (.cells #[.pointer (some ⟨B, 0, none⟩)] 86) := hx.block (heap_alloc2_old w _ _)
  have hb1 : w1.heap[w.heap.size + 1]? = some (.cells #[.int .u64 (n : Int)] 88) := hx.block (heap_alloc2_new w _ _)
  have hc0 : w1.cell? ⟨w.heap.size, 0, none⟩ = some (.pointer (some ⟨B, 0, none⟩)) := cell_of_row w1 _ 0 _ _ _ hb0
  have hc1 : w1.cell? ⟨w.heap.size + 1, 0, none⟩ = some (.int .u64 (n : Int)) := cell_of_row w1 _ 0 _ _ _ hb1
  have HB := Lib.hid (And.intro hb0 hb1)
  clear hw hb0 hb1
  obtain ⟨k, hkw⟩ : ∃ k, width.toNat = k := ⟨_, rfl⟩
  rw [hkw] at hsm hk8 hwk ⊢
  have hd : ∀ m : Nat, 256 ^ k = m → decide ((0 : Int) < (n : Int) / (m : Int)) = false := fun m hm => by
    rw [hm] at hsm
    apply decide_eq_false
    rw [← Int.natCast_ediv, Nat.div_eq_of_lt hsm]; decide
  clear hsm hw0 hwk
  rcases hcase with rfl | rfl | rfl | rfl
  all_goals first | have hd : decide ((0 : Int) < (n : Int) / 256) = false := hd 256 (by rw [← hkw]; decide) | have hd : decide ((0 : Int) < (n : Int) / 65536) = false := hd 65536 (by rw [← hkw]; decide) | have hd : decide ((0 : Int) < (n : Int) / 4294967296) = false := hd 4294967296 (by rw [← hkw]; decide) | clear hd
  all_goals
    go_wp2_with fail
    refine (high_calls _ _).mono ?_
    rintro e w' ⟨rfl, rfl⟩
    clear hc0 hc1
    go_wp2_with fail
    have hsz := hx0.size
    have hszx : w.heap.size + 1 + 1 ≤ w1.heap.size := by simpa using hx.size
    obtain ⟨q, hq⟩ : ∃ q, w1.heap.size = q := ⟨_, rfl⟩
    have hlt := h.lt
    have hrl := h1.rlt
    have hrl0 := h.rlt
    refine wp_rangeFunc1 (α := Fin 8) (p := 29) (q := 7) (enc := fun j => .int .i64 (8 * (j.val : Int))) (gf := 96) (lb := #[.pointer (some ⟨w1.heap.size, 0, none⟩)]) rfl (fun args w => by go_simp) (high_stops _ w1.heap.size k _ hk8 hkw (by omega) (heap_alloc_new _ _))
      (fun h1 h2 => h2.trans h1) (fun W l o o' hl ho hc hwk => ?_) (PutI w B r l n w.heap.size w1.heap.size) (fun _ _ _ => False) (putI_own w B r l n _ _ _ ?_) (fun _ _ _ _ _ hF => hF.elim) ?_ (fun l x W K hK => ?_) (fun l1 pre x W hI hpre => ?_) (fun D xs W hD hS hI hk => ?_) (fun _ _ _ _ _ _ hF => hF.elim)
    · show (W.putObj l o').heap[w1.heap.size]? = _
      have : w1.heap.size ≠ l := by simp at hl; omega
      simp [World.putObj, this.symm]
    · simp; omega
    · refine ⟨by simp, r, ?_, TouchO.of_ext (hx0.thenAlloc _), RowNext.refl _ _, ?_, ?_, ?_, (Ext.alloc _ _).block HB.out.1, (Ext.alloc _ _).block HB.out.2⟩
      · simpa using h1.ext (Ext.alloc _ _)
      · intro e; have := hrl0 _ e; omega
      · intro e; have := hrl0 _ e; omega
      · intro e; have := hrl0 _ e; omega
    · simp only [List.setIfInBounds_toArray, List.set_cons_zero, List.set_cons_succ] at hK ⊢
      gi_wp2
      exact hK
    · simp only [List.setIfInBounds_toArray, List.set_cons_zero, List.set_cons_succ]
      obtain ⟨hq0, r', h1', ht, hrn, ns, ns1, nq, hs0, hs1⟩ := hI
      have hx8 := x.isLt
      obtain ⟨xi, hxi⟩ : ∃ xi : Int, 8 * (x.val : Int) = xi := ⟨_, rfl⟩
      have hxi0 : 0 ≤ xi := by omega
      have hxi1 : xi ≤ 56 := by omega
      obtain ⟨c, hc⟩ : ∃ c, byteAt n x = c := ⟨_, rfl⟩
      have hcx : IntKind.u8.wrap ((n : Int) / 2 ^ xi.toNat) = (c.toNat : Int) := by rw [← hc, ← hxi]; exact byteAt_int n x
      obtain ⟨L, hL⟩ : ∃ L, l ++ pre.map (byteAt n) = L := ⟨_, rfl⟩
      have hLn : l ++ (pre ++ [x]).map (byteAt n) = L ++ [c] := by rw [← hL, ← hc]; simp
      have hLl : L.length ≤ 140737488355328 - 1 := by rw [← hL]; simp; omega
      have HLn := Lib.hid hLn
      clear hc hLn hpre
      rw [hL] at h1'
      rw [hxi]
      clear hxi hL
      obtain ⟨v, hb, ho, hr, hne⟩ := h1'
      obtain ⟨a1, cap1, rfl⟩ := ho.slice
      have hBW : B < W.heap.size := (Array.getElem?_eq_some_iff.1 hb).1
      have hsW : w.heap.size < W.heap.size := (Array.getElem?_eq_some_iff.1 hs0).1
      have hs1W : w.heap.size + 1 < W.heap.size := (Array.getElem?_eq_some_iff.1 hs1).1
      have hr'lt : ∀ g, r' = some g → g < W.heap.size := fun g hg => (World.ownsRow.lt ho g (hr.trans hg)).2
      refine wpIn_block ?_
      refine wpIn_region_rg2_tail (fun _ W' => KeepsOthers W W' ∧ KpB w1.heap.size W W' ∧ PutI w B r l n w.heap.size w1.heap.size (pre ++ [x]) W') l1 7 11 (fun W W' => W.grownBy W' r') Ext
        [(9, .unk (NewOne r' c) NewOne.stable), (10, .last (fun u W' => OwnB W' 0 TB u (L ++ [c]) ∧ (∀ g, u.ownBlock = some g → r' = some g ∨ W.heap.size ≤ g)))]
        (by kernel_rfl) (by kernel_rfl) (by kernel_rfl) (by kernel_rfl) (by kernel_rfl) (ext_grown _) Ext.refl (fun _ _ _ => Ext.trans) (grown_refl _) (fun _ _ _ => grown_trans) (fun _ _ h => h) ?_
      intro σ
      simp only [List.take_succ_cons, List.take_zero, List.drop_succ_cons, List.drop_zero]
      have k0 : ∀ W2, W.drew.grownBy W2 r' → W2.cell? ⟨w.heap.size, 0, none⟩ = some (.pointer (some ⟨B, 0, none⟩)) := fun W2 hg => cell_of_row W2 _ 0 _ _ _ ((hg.block _ hsW (fun e => ns e.symm)).trans hs0)
      have k1 : ∀ W2, W.drew.grownBy W2 r' → W2.cell? ⟨w.heap.size + 1, 0, none⟩ = some (.int .u64 (n : Int)) := fun W2 hg => cell_of_row W2 _ 0 _ _ _ ((hg.block _ hs1W (fun e => ns1 e.symm)).trans hs1)
      have k2 : ∀ W2, W.drew.grownBy W2 r' → W2.cell? ⟨B, 0, none⟩ = some (.slice a1 L.length cap1) := fun W2 hg => cell_of_row W2 _ 0 _ _ _ ((hg.block _ hBW (fun e => hne e.symm)).trans hb)
      repeat (refine rg_pure (x := ?_) rfl (by rfl) (fun W2 hW => ?_) ?_; rotate_left; (· have e0 := k0 W2 hW; have e1 := k1 W2 hW; have e2 := k2 W2 hW; go_simp; with_reducible rfl); simp only [Nat.reduceAdd, Act.put, List.setIfInBounds_toArray, List.set_cons_zero, List.set_cons_succ])
      refine rg_unk rfl (by rfl) (fun W2 hW hF => ?_) ?_
      · go_simp
        exact ⟨Ext.alloc _ _, NewOne.mk _ fun g hg => Nat.lt_of_lt_of_le (hr'lt g hg) hW.size⟩
      simp only [Nat.reduceAdd, Act.put, List.setIfInBounds_toArray, List.set_cons_zero, List.set_cons_succ]
      refine rg_last rfl (by rfl) (fun W2 hW hF => ?_) ?_
      · refine eff_append_row (v := .slice a1 L.length cap1) byteSl rfl rfl rfl (ho.drew.ext hW) hr (NewOne.bys (hF 9 _ _ rfl (by kernel_rfl))) (by simp only [List.length_cons, List.length_nil]; omega) (Nat.zero_le _) (fun v' w' h _ h2 => ⟨h, fun g hg => ?_⟩)
        have hWs : W.heap.size ≤ W2.heap.size := hW.size
        rcases h2 g hg with h3 | h3
        · exact .inl h3
        · right; omega
      simp only [Nat.reduceAdd, Act.put, List.setIfInBounds_toArray, List.set_cons_zero, List.set_cons_succ]
      refine rg_done' fun W2 hW hF hG => ?_
      obtain ⟨hown', hrow'⟩ := hG 10 _ rfl (by decide)
      generalize σ 10 = v' at *
      have hgw : W.grownBy W2 r' := grown_drew hW
      obtain ⟨a2, cap2, rfl⟩ := hown'.slice
      have hb2 : W2.heap[B]? = some (.cells #[.slice a1 L.length cap1, .bool false] TOut) := (hgw.block B hBW (fun e => hne e.symm)).trans hb
      have hf2 : W2.frozen? ⟨B, 0, none⟩ = false := frozen_of_row W2 B 0 _ _ hb2
      have hc2 : W2.cell? ⟨B, 0, none⟩ = some (.slice a1 L.length cap1) := cell_of_row W2 B 0 _ _ _ hb2
      have HB2 := Lib.hid hb2
      clear hF hG hb2 k0 k1 k2 hcx
      show wpList _ _ _ _ _ _
      go_wp2_with fail
      rw [List.length_append] at hown' hrow'
      have hnB : (Value.slice a2 (L.length + [c].length) cap2).ownBlock ≠ some B := fun e => by
        rcases hrow' B e with h1 | h1
        · exact hne h1
        · omega
      have hnn : ∀ z, z < W.heap.size → r' ≠ some z → (Value.slice a2 (L.length + [c].length) cap2).ownBlock ≠ some z := fun z hz hrz e => by
        rcases hrow' z e with h1 | h1
        · exact hrz h1
        · omega
      have hg3 : TouchO B r w (W2.setCell ⟨B, 0, none⟩ (.slice a2 (L.length + 1) cap2)) := (ht.trans (TouchO.of_grown hgw) hrn).same (TouchO.of_setCell W2 0 _)
      have hsB : w.heap.size ≠ B := by omega
      have hs1B : w.heap.size + 1 ≠ B := by omega
      have hqB : w1.heap.size ≠ B := by omega
      refine ⟨(KeepsOthers.of_grownBy hgw (fun j o hj ho' => own_cells ho (hr.trans hj) ho')).trans (KeepsOthers.setCell _ _ _), ?_, ?_, (Value.slice a2 (L.length + [c].length) cap2).ownBlock, ⟨_, ?_, ?_, rfl, hnB⟩, hg3, hrn.trans hrow' ht.size, hnn _ hsW ns, hnn _ hs1W ns1, hnn _ hq0 nq, ?_, ?_⟩
      · exact (heap_setCell_other W2 _ _ _ hqB).trans (hgw.block _ hq0 (fun e => nq e.symm))
      · have := hgw.size; simp; omega
      · rw [heap_setCell_same _ _ _ _ _ _ HB2.out]; rfl
      · rw [HLn.out]
        exact own_touch (r := none) (TouchO.of_setCell W2 0 _) hown' hnB (by cases (Value.slice a2 (L.length + [c].length) cap2).ownBlock <;> simp)
      · exact (heap_setCell_other W2 _ _ _ hsB).trans ((hgw.block _ hsW (fun e => ns e.symm)).trans hs0)
      · exact (heap_setCell_other W2 _ _ _ hs1B).trans ((hgw.block _ hs1W (fun e => ns1 e.symm)).trans hs1)
    · obtain ⟨hq0, r', h1', ht, hrn, ns, ns1, nq, hs0, hs1⟩ := hI
      have hc0 := cell_of_row W _ 0 _ _ _ hs0
      have hDB : w.heap.size ≠ D := by simp at hD; omega
      subst hS
      rw [shifts_bytes n k hk8] at h1'
      have HS := Lib.hid (And.intro hs0 hs1)
      clear hs0 hs1 HB
      go_wp2_with fail
      refine leave1 rfl hk (results_tmp rfl _ _ _) ?_
      have hD' : w1.heap.size + 1 ≤ D := by simpa using hD
      have hput := putI_own w B r l n w.heap.size w1.heap.size (w1.heap.size + 1) (by omega) (shifts k) W (W.putObj D (.deferred none)) (some D) ⟨hq0, r', by rw [shifts_bytes n k hk8]; exact h1', ht, hrn, ns, ns1, nq, HS.out.1, HS.out.2⟩ (grownBy_putObj' W D _) (fun g hg => by cases hg; exact ⟨hD', _, hk, rfl⟩)
      obtain ⟨_, r2, g1, g2, g3, _⟩ := hput
      rw [shifts_bytes n k hk8] at g1
      rw [← hkw] at g1
      exact ⟨rfl, r2, g1, g2, g3⟩

/-- Put, whatever it is handed. -/
theorem Put_calls (B : Nat) (r : Option Nat) (st : Option (List UInt8)) (width : Int) (n : Nat) (w : World) (h : OutAt w TOut TB B r st) (hn : n < 18446744073709551616) (hlen : (stAll st).length + 8 ≤ 140737488355328) :
    Calls Try.prog 46 #[.pointer (some ⟨B, 0, none⟩), .int .i64 width, .int .u64 (n : Int)] w (TailPost w B r (stPut st width n)) := by
  cases st with
  | none => exact Put_spoilt B r width n w h
  | some l =>
    unfold stPut putB
    by_cases hw : widthB width = true
    · by_cases hs : n < 256 ^ width.toNat
      · simp only [hw, hs, and_self, if_true, Option.map_some]
        exact Put_ok B r l width n w h hw hn hs hlen
      · simp only [hw, hs, and_false, if_false, Option.map_none]
        refine Put_bad2 B r l width n w h hw ?_ hn (by omega)
        have : width = 1 ∨ width = 2 ∨ width = 4 ∨ width = 8 := by
          unfold widthB at hw
          simp at hw
          omega
        rcases this with rfl | rfl | rfl | rfl <;> first | decide | (exfalso; exact hs (by simpa using hn))
    · simp only [Bool.not_eq_true] at hw
      simp only [hw, Bool.false_eq_true, false_and, if_false, Option.map_none]
      exact Put_bad1 B r l width n w h hw
end Go.Proofs.Ytcdaelgnankmfaa.VOct
