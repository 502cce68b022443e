/- What octet's Get comes to; and Len. -/
import Derived.Test.YtcdaelgnankmfaaVPutOk
import Derived.Scope
import Derived.Laws.Bits64b
namespace Go.Proofs.Ytcdaelgnankmfaa.VOct
open Go.RowKit Go.VBase Go.VOct Go.VSeq Go.VRg

/-- Bytes, the highest first, as a number. -/
def numB (l : List UInt8) : Nat := l.foldl (fun n b => 256 * n + b.toNat) 0
/-- Bytes, each so many bits up. -/
def accB (l : List UInt8) (pre : List (Fin 8)) : Nat := (l.zip pre).foldl (fun m p => m ||| p.1.toNat * 256 ^ p.2.val) 0

theorem numB_snoc (l : List UInt8) (b : UInt8) : numB (l ++ [b]) = 256 * numB l + b.toNat := by unfold numB; rw [List.foldl_append]; rfl
theorem numB_lt (l : List UInt8) : numB l < 256 ^ l.length := by
  have gen : ∀ (l : List UInt8) (n m : Nat), n < 256 ^ m → l.foldl (fun n b => 256 * n + b.toNat) n < 256 ^ (m + l.length) := by
    intro l
    induction l with
    | nil => intro n m h; simpa using h
    | cons b l ih =>
      intro n m h
      have := ih (256 * n + b.toNat) (m + 1) (by have := b.toNat_lt; rw [Nat.pow_succ]; omega)
      rw [List.foldl_cons, List.length_cons, show m + (l.length + 1) = m + 1 + l.length by omega]
      exact this
  have := gen l 0 0 (by decide)
  simpa [numB] using this
theorem accB_snoc (l : List UInt8) (pre : List (Fin 8)) (b : UInt8) (j : Fin 8) (h : l[pre.length]? = some b) : accB l (pre ++ [j]) = accB l pre ||| b.toNat * 256 ^ j.val := by
  unfold accB
  have e : l.zip (pre ++ [j]) = l.zip pre ++ [(b, j)] := by
    have hl : pre.length < l.length := (List.getElem?_eq_some_iff.1 h).1
    have h1 : l = l.take pre.length ++ (b :: l.drop (pre.length + 1)) := by
      have := List.getElem_cons_drop hl
      obtain ⟨_, h2⟩ := List.getElem?_eq_some_iff.1 h
      rw [h2] at this
      rw [this, List.take_append_drop]
    rw [h1, List.zip_append (by simp; omega)]
    simp only [List.zip_cons_cons, List.zip_nil_right]
    congr 1
    conv => rhs; rw [← List.append_nil pre, List.zip_append (by simp; omega)]
    simp
  rw [e, List.foldl_append]; rfl
theorem accB_nil (pre : List (Fin 8)) : accB [] pre = 0 := rfl
theorem accB_lt (l : List UInt8) : ∀ (pre : List (Fin 8)), accB l pre < 2 ^ 64 := by
  have gen : ∀ (z : List (UInt8 × Fin 8)) (m : Nat), m < 2 ^ 64 → z.foldl (fun m p => m ||| p.1.toNat * 256 ^ p.2.val) m < 2 ^ 64 := by
    intro z
    induction z with
    | nil => intro m h; exact h
    | cons p z ih =>
      intro m h
      refine ih _ (Nat.or_lt_two_pow h ?_)
      have h1 := p.1.toNat_lt
      have h2 : 256 ^ p.2.val ≤ 256 ^ 7 := Nat.pow_le_pow_right (by decide) (by omega)
      calc p.1.toNat * 256 ^ p.2.val ≤ 255 * 256 ^ 7 := Nat.mul_le_mul (by omega) h2
        _ < 2 ^ 64 := by decide
  exact fun pre => gen _ 0 (by decide)
theorem accB_take (l : List UInt8) (k : Nat) (hk : k ≤ 8) (hl : l.length = k) : ∀ j, j ≤ k → accB l ((shifts k).take j) = numB (l.take j) * 256 ^ (k - j) := by
  intro j
  induction j with
  | zero => intro _; simp [accB, numB]
  | succ j ih =>
    intro hj
    have hjl : j < l.length := by omega
    have h1 : l[j]? = some l[j] := by simp
    rw [take_snoc (shifts_get (show j < k by omega)), accB_snoc l _ l[j] _ (by rw [List.length_take, shifts_len, Nat.min_eq_left (by omega)]; exact h1), ih (by omega), take_snoc h1, numB_snoc]
    unfold shf
    simp only
    rw [Nat.mod_eq_of_lt (show k - 1 - j < 8 by omega), show k - j = (k - (j + 1)) + 1 by omega, show k - 1 - j = k - (j + 1) by omega]
    generalize k - (j + 1) = m
    have hb : l[j].toNat * 256 ^ m < 2 ^ (8 * (m + 1)) := by
      rw [Nat.pow_mul, show (2 : Nat) ^ 8 = 256 from rfl, Nat.pow_succ, Nat.mul_comm]
      exact Nat.mul_lt_mul_of_pos_left l[j].toNat_lt (Nat.pow_pos (by decide))
    have := Nat.two_pow_add_eq_or_of_lt hb (numB (l.take j))
    have e : 2 ^ (8 * (m + 1)) * numB (l.take j) = numB (l.take j) * 256 ^ (m + 1) := by
      rw [Nat.pow_mul, Nat.mul_comm]
    rw [e] at this
    rw [← this, Nat.pow_succ, Nat.add_mul]
    congr 1
    rw [Nat.mul_comm 256, Nat.mul_assoc, Nat.mul_comm (256 ^ m) 256]
theorem accB_full (l : List UInt8) (k : Nat) (hk : k ≤ 8) (hl : l.length = k) : accB l (shifts k) = numB l := by
  have := accB_take l k hk hl k (Nat.le_refl _)
  rw [List.take_of_length_le (by rw [shifts_len]; exact Nat.le_refl _), List.take_of_length_le (by omega)] at this
  simpa using this


/-- What Get comes to. -/
def GetPost (w : World) (B : Nat) (x : List UInt8 × Option (List UInt8)) (e : Ending) (w' : World) : Prop :=
  e = .returned (.int .u64 (numB x.1 : Int)) ∧ InAt w' TIn B x.2 ∧ TouchO B none w w'
/-- The width that next is asked for. -/
def getW (width : Int) : Int := if widthB width then width else -1

theorem bys_touch {B : Nat} {r : Option Nat} {w w' : World} (t : TouchO B r w w') {v : Value} {l : List UInt8} (h : Bys w v l) (hc : l ≠ [] → Clear v B r) : Bys w' v l := by
  obtain ⟨a, cap, rfl, h2, h3, h4⟩ := h
  refine ⟨a, cap, rfl, h2, h3, fun hl => ?_⟩
  obtain ⟨b, off, rfl, h5⟩ := h4 hl
  have := hc hl _ _ _ rfl
  exact ⟨b, off, rfl, fun i c hi => t.cell (h5 i c hi) this.1 this.2⟩
theorem inAt_touch {T B B' : Nat} {w w' : World} {st : Option (List UInt8)} (t : TouchO B' none w w') (h : InAt w T B st) (hB : B ≠ B') (hc : ∀ v l, w.heap[B]? = some (.cells #[v, .bool true] T) → st = some l → l ≠ [] → Clear v B' none) : InAt w' T B st := by
  cases st with
  | none => obtain ⟨v, h1⟩ := h; exact ⟨v, (t.block B (Array.getElem?_eq_some_iff.1 h1).1 hB (by simp)).trans h1⟩
  | some l => obtain ⟨v, h1, h2, h3⟩ := h; exact ⟨v, (t.block B (Array.getElem?_eq_some_iff.1 h1).1 hB (by simp)).trans h1, bys_touch t h2 (hc v l h1 rfl), h3⟩
/-- Bytes that are there lie in a block that is there. -/
theorem bys_clear {w : World} {v : Value} {l : List UInt8} (h : Bys w v l) {p : Nat} (hp : w.heap.size ≤ p) (hl : l ≠ []) : Clear v p none := by
  obtain ⟨a, cap, rfl, h2, h3, h4⟩ := h
  obtain ⟨b, off, rfl, h5⟩ := h4 hl
  intro a' len c e
  cases e
  obtain ⟨x, hx⟩ : ∃ x, l[0]? = some x := by
    cases l with
    | nil => exact absurd rfl hl
    | cons x l => exact ⟨x, rfl⟩
  have := World.block_lt_of_cell? _ _ (h5 0 x hx)
  simp at this
  exact ⟨by simp; omega, by simp⟩

theorem heap_alloc_at (w : World) (o : Obj) {n : Nat} (h : w.heap.size = n) : (w.alloc o).heap[n]? = some o := by subst h; exact heap_alloc_new w o

/-- What holds between two rounds of Get's loop; behind the world ahead of it lie the bytes, behind them the number, then the iterator's own. -/
structure GetI (w : World) (l : List UInt8) (pre : List (Fin 8)) (W : World) : Prop where
  size : w.heap.size + 1 + 1 < W.heap.size
  bytes : ∃ u, W.heap[w.heap.size]? = some (.cells #[u] 26) ∧ Bys W u (l.drop pre.length) ∧ (l.drop pre.length ≠ [] → Clear u w.heap.size none ∧ Clear u (w.heap.size + 1) none)
  num : W.heap[w.heap.size + 1]? = some (.cells #[.int .u64 (accB l pre : Int)] 88)
  ext : Ext w W

theorem getI_own (w : World) (l : List UInt8) (n0 : Nat) (hn0 : w.heap.size ≤ n0) : OwnFrom n0 (GetI w l) := by
  rintro pre W W' row ⟨h0, ⟨u, h1, h2, h3⟩, h4, h5⟩ hg hr
  have hr' : ∀ r, row = some r → ∃ o : Obj, W.heap[r]? = some o ∧ o.isCells = false := fun k hk => (hr k hk).2
  refine ⟨Nat.lt_of_lt_of_le h0 hg.size, ⟨u, cells_of_not hg hr' h1, ?_, h3⟩, cells_of_not hg hr' h4, h5.below.grown hg (by omega) (fun k hk => by have := (hr k hk).1; omega)⟩
  obtain ⟨a, cap, rfl, g2, g3, g4⟩ := h2
  refine ⟨a, cap, rfl, g2, g3, fun hl => ?_⟩
  obtain ⟨b, off, rfl, g5⟩ := g4 hl
  refine ⟨b, off, rfl, fun i c hi => hg.cell (g5 i c hi) ?_⟩
  intro e
  obtain ⟨o, ho, hc⟩ := hr' b e.symm
  have := g5 i c hi
  unfold World.cell? at this
  simp only at this
  rw [ho] at this
  cases o <;> simp [Obj.isCells] at hc <;> simp at this

def GetX (w : World) (l : List UInt8) (c : Code) (_ : List (Fin 8)) (W : World) : Prop := c = .exit 0 ∧ l = [] ∧ W.heap[w.heap.size + 1]? = some (.cells #[.int .u64 0] 88) ∧ Ext w W
theorem getX_own (w : World) (l : List UInt8) (n0 : Nat) (hn0 : w.heap.size ≤ n0) (c : Code) : OwnFrom n0 (GetX w l c) := by
  rintro pre W W' row ⟨h0, h1, h4, h5⟩ hg hr
  have hr' : ∀ r, row = some r → ∃ o : Obj, W.heap[r]? = some o ∧ o.isCells = false := fun k hk => (hr k hk).2
  have hs := (Array.getElem?_eq_some_iff.1 h4).1
  exact ⟨h0, h1, cells_of_not hg hr' h4, h5.below.grown hg (by omega) (fun k hk => by have := (hr k hk).1; omega)⟩

theorem get_close {w2 W W3 : World} {l rest : List UInt8} {pre : List (Fin 8)} {x : Fin 8} {c : UInt8} {m : Nat} {v0 v' : Value} (hsz : w2.heap.size + 1 + 1 < W.heap.size) (hex : Ext w2 W) (hrest : l.drop pre.length = c :: rest)
    (hm : accB l pre ||| c.toNat * 256 ^ x.val = m) (t1 : TouchO (w2.heap.size + 1) none W W3) (k1 : KeepsOthers W W3) (hn3 : W3.heap[w2.heap.size + 1]? = some (.cells #[.int .u64 (m : Int)] 88)) (hu3 : W3.heap[w2.heap.size]? = some (.cells #[v0] 26))
    (hv : Bys W v' rest) (hc : rest ≠ [] → Clear v' w2.heap.size none ∧ Clear v' (w2.heap.size + 1) none) :
    KeepsOthers W (W3.setCell ⟨w2.heap.size, 0, none⟩ v') ∧ KpB (w2.heap.size + 1 + 1) W (W3.setCell ⟨w2.heap.size, 0, none⟩ v') ∧ GetI w2 l (pre ++ [x]) (W3.setCell ⟨w2.heap.size, 0, none⟩ v') := by
  have t2 : TouchO w2.heap.size none W3 (W3.setCell ⟨w2.heap.size, 0, none⟩ v') := TouchO.of_setCell W3 0 _
  have hlen : (pre ++ [x]).length = pre.length + 1 := by simp
  have hlt : pre.length < l.length := by
    have := congrArg List.length hrest
    rw [List.length_drop, List.length_cons] at this
    omega
  have hdr : l.drop (pre.length + 1) = rest := by
    rw [List.drop_add_one_eq_tail_drop, hrest]; rfl
  have hget : l[pre.length]? = some c := by
    have := congrArg (fun z => z[0]?) hrest
    simpa using this
  refine ⟨k1.trans (KeepsOthers.setCell _ _ _), ?_, ?_, ⟨v', ?_, ?_, ?_⟩, ?_, ?_⟩
  · exact (heap_setCell_other W3 _ _ _ (by simp; omega)).trans (t1.block _ hsz (by omega) (by simp))
  · have := t1.size; simp; omega
  · rw [heap_setCell_same _ _ _ _ _ _ hu3]; rfl
  · rw [hlen, hdr]
    exact bys_touch t2 (bys_touch t1 hv (fun h => (hc h).2)) (fun h => (hc h).1)
  · rw [hlen, hdr]; exact hc
  · rw [accB_snoc l pre c x hget, hm]
    exact (heap_setCell_other W3 _ _ _ (by simp)).trans hn3
  · have h1 : Below w2.heap.size W W3 := t1.below (by omega) (by omega) (fun _ h => by cases h)
    have h2 : Below w2.heap.size W3 (W3.setCell ⟨w2.heap.size, 0, none⟩ v') := t2.below (by have := t1.size; omega) (by omega) (fun _ h => by cases h)
    exact Below.trans hex (Below.trans h1 h2)

attribute [local go_sem] Oper.semAt_some

set_option maxRecDepth 100000 in
set_option maxHeartbeats 1000000 in
theorem Get_calls (B : Nat) (st : Option (List UInt8)) (width : Int) (w : World) (h : InAt w TIn B st) (h0 : -9223372036854775808 ≤ width) (h1 : width ≤ 9223372036854775807) :
    Calls Try.prog 78 #[.pointer (some ⟨B, 0, none⟩), .int .i64 width] w (GetPost w B (inTake st (getW width))) := by
  obtain ⟨x, hx0⟩ : ∃ x, inTake st (getW width) = x := ⟨_, rfl⟩
  rw [hx0]
  have hlen : ∀ v : Int, (widthB width = true ∧ v = width) ∨ v = -1 → (inTake st v).1 = [] ∨ (inTake st v).1.length = v.toNat := fun v hv => by
    unfold inTake
    cases st with
    | none => exact .inl rfl
    | some l =>
      simp only
      split
      · rename_i hc
        right
        rw [List.length_take]; omega
      · exact .inl rfl
  have hk8' : ∀ v : Int, (widthB width = true ∧ v = width) ∨ v = -1 → v.toNat ≤ 8 ∧ -1 ≤ v := fun v hv => by
    rcases hv with ⟨h1, rfl⟩ | rfl
    · unfold widthB at h1; simp at h1; omega
    · exact ⟨by decide, by decide⟩
  refine calls_of_marks Try.func78 rfl ?_
  simp only [Try.ntmps78, List.size_toArray, List.length_cons, List.length_nil, Nat.reduceAdd, Nat.reduceSub, Array.replicate_succ, Array.replicate_zero, List.push_toArray, List.append_toArray, List.nil_append, List.cons_append]
  go_wp2_with fail
  refine wp_scope_straight ?_
  go_wp2_with fail
  refine (wide_calls width _).mono ?_
  rintro e w1 ⟨rfl, hx⟩
  have h1' := h.ext hx
  have HW : (getW width = width ∧ widthB width = true) ∨ (getW width = -1 ∧ widthB width = false) := by
    unfold getW
    cases widthB width <;> simp
  rcases HW with ⟨e1, e2⟩ | ⟨e1, e2⟩
  focus
    rw [e1] at hx0
    have hl := hlen width (.inl ⟨e2, rfl⟩)
    obtain ⟨hk8, hkm⟩ := hk8' width (.inl ⟨e2, rfl⟩)
    obtain ⟨k, hkw⟩ : ∃ k, width.toNat = k := ⟨_, rfl⟩
    rw [e2]
    go_wp2_with fail
    refine (next_calls B st width w1 h1' h0 h1).mono ?_
  rotate_left
  focus
    rw [e1] at hx0
    have hl := hlen (-1) (.inr rfl)
    obtain ⟨hk8, hkm⟩ := hk8' (-1) (.inr rfl)
    obtain ⟨k, hkw⟩ : ∃ k, Int.toNat (-1) = k := ⟨_, rfl⟩
    rw [e2]
    go_wp2_with fail
    refine (next_calls B st (-1) w1 h1' (by decide) (by decide)).mono ?_
  rotate_left
  all_goals
    rw [hx0] at hl ⊢
    rintro e w2 ⟨u, rfl, hu, hcl, hin, ht⟩
    obtain ⟨l, st'⟩ := x
    have hu' := hu
    obtain ⟨a1, cap1, rfl, _⟩ := hu'
    rw [hkw] at hl hk8
    clear h1' h hlen hk8' e2 hx0 e1
    go_wp2_with fail
    refine wp_label ?_
    go_wp2_with fail
    refine (high_calls _ _).mono ?_
    rintro e w' ⟨rfl, rfl⟩
    go_wp2_with fail
  all_goals
    refine wp_rangeFunc1 (α := Fin 8) (p := 16) (q := 7) (enc := fun j => .int .i64 (8 * (j.val : Int))) (gf := 96) (lb := #[.pointer (some ⟨w2.heap.size + 1 + 1, 0, none⟩)]) rfl (fun args w => by go_simp) (high_stops _ (w2.heap.size + 1 + 1) k _ hk8 hkw hkm (heap_alloc_at _ _ (by simp)))
      (fun h1 h2 => h2.trans h1) (fun W n o o' hn ho hc hwk => ?_) (GetI w2 l) (GetX w2 l) (getI_own w2 l _ ?_) (getX_own w2 l _ ?_) ?_ (fun l x W K hK => ?_) (fun l1 pre x W hI hpre => ?_) (fun D xs W hD hS hI hk => ?_) (fun D c pre W hD hS hI hk => ?_)
    · show (W.putObj n o').heap[w2.heap.size + 1 + 1]? = _
      have : w2.heap.size + 1 + 1 ≠ n := by simp at hn; omega
      simp [World.putObj, this.symm]
    · simp; omega
    · simp; omega
    · refine ⟨by simp, ⟨_, (Ext.alloc _ _).block (heap_alloc2_old w2 _ _), by simpa using hu.ext (((Ext.alloc _ _).thenAlloc _).thenAlloc _), fun hne => ?_⟩, (Ext.alloc _ _).block (by rw [show accB l [] = 0 by simp [accB]]; exact heap_alloc2_new w2 _ _), ((Ext.alloc _ _).thenAlloc _).thenAlloc _⟩
      exact ⟨bys_clear hu (Nat.le_refl _) hne, bys_clear hu (Nat.le_succ _) hne⟩
    · simp only [List.setIfInBounds_toArray, List.set_cons_zero, List.set_cons_succ] at hK ⊢
      gi_wp2
      exact hK
    · simp only [List.setIfInBounds_toArray, List.set_cons_zero, List.set_cons_succ]
      have hx8 := x.isLt
      obtain ⟨xi, hxi⟩ : ∃ xi : Int, 8 * (x.val : Int) = xi := ⟨_, rfl⟩
      have hxi0 : 0 ≤ xi := by omega
      have hxi1 : xi ≤ 56 := by omega
      rw [hxi]
      clear hkw hkm
      obtain ⟨hsz, ⟨u, hu1, hu2, hu3⟩, hn, hex⟩ := hI
      cases hrest : l.drop pre.length with
      | nil =>
        rw [hrest] at hu2
        obtain ⟨a2, cap2, rfl, _⟩ := hu2
        have hc0 : W.cell? ⟨w2.heap.size, 0, none⟩ = some (.slice a2 0 cap2) := cell_of_row W _ 0 _ _ _ hu1
        have HU := Lib.hid (And.intro hu1 hn)
        clear hu1 hn
        gi_wp2
        have hl0 : l = [] := by
          have := List.drop_eq_nil_iff.1 hrest
          rcases hl with h | h
          · exact h
          · omega
        refine ⟨KeepsOthers.refl _, rfl, hl0, ?_, hex⟩
        have := HU.out.2
        rw [hl0, accB_nil] at this
        exact this
      | cons c rest =>
        rw [hrest] at hu2
        have hu2' := hu2
        obtain ⟨a2, cap2, rfl, hcap2, hcap3, hd3⟩ := hu2'
        obtain ⟨b2, off2, rfl, hd2⟩ := hd3 (List.cons_ne_nil _ _)
        have hc0 : W.cell? ⟨w2.heap.size, 0, none⟩ = some (.slice (some ⟨b2, off2, none⟩) (rest.length + 1) cap2) := cell_of_row W _ 0 _ _ _ hu1
        have hc1 : W.cell? ⟨w2.heap.size + 1, 0, none⟩ = some (.int .u64 (accB l pre : Int)) := cell_of_row W _ 0 _ _ _ hn
        have hd0 : W.cell? ⟨b2, off2, none⟩ = some (.int .u8 (c.toNat : Int)) := hd2 0 c rfl
        have HU := Lib.hid (And.intro hu1 hn)
        have HD := Lib.hid hd2
        clear hu1 hn hd2
        simp only [List.length_cons] at hcap2
        gi_wp2
        have e2 : ∀ W2, W.drew = W2 → W2.cell? ⟨w2.heap.size, 0, none⟩ = some (.slice (some ⟨b2, off2, none⟩) (rest.length + 1) cap2) := fun W2 h => by subst h; exact hc0
        have e3 : ∀ W2, W.drew = W2 → W2.cell? ⟨w2.heap.size + 1, 0, none⟩ = some (.int .u64 (accB l pre : Int)) := fun W2 h => by subst h; exact hc1
        have e4 : ∀ W2, W.drew = W2 → W2.cell? ⟨b2, off2, none⟩ = some (.int .u8 (c.toNat : Int)) := fun W2 h => by subst h; exact hd0
        obtain ⟨m, hm⟩ : ∃ m, accB l pre ||| c.toNat * 256 ^ x.val = m := ⟨_, rfl⟩
        obtain ⟨y, hy⟩ : ∃ y, c.toNat * 256 ^ x.val = y := ⟨_, rfl⟩
        have hy64 : y < 18446744073709551616 := by
          have h2 : 256 ^ x.val ≤ 256 ^ 7 := Nat.pow_le_pow_right (by decide) (by omega)
          have := c.toNat_lt
          rw [← hy]
          calc c.toNat * 256 ^ x.val ≤ 255 * 256 ^ 7 := Nat.mul_le_mul (by omega) h2
            _ < _ := by decide
        have hw1 : IntKind.u64.wrap (c.toNat : Int) = (c.toNat : Int) := by have := c.toNat_lt; rw [IntKind.wrap_u64]; omega
        have hw2 : IntKind.u64.wrap ((c.toNat : Int) * 2 ^ xi.toNat) = (y : Int) := by
          have e : ∀ j : Fin 8, (2 : Int) ^ (8 * (j.val : Int)).toNat = ((256 ^ j.val : Nat) : Int) := by decide
          rw [← hxi, e x, ← Int.natCast_mul, hy, IntKind.wrap_u64]
          omega
        have hw3 : bits BinOp.or IntKind.u64 (accB l pre : Int) (y : Int) = (m : Int) := by
          rw [bits_or_u64_nat _ _ (accB_lt l pre) hy64, ← hm, hy]
        have HM := Lib.hid (And.intro hm hy)
        clear hm hy
        refine wpIn_region_rg2_tail _ l1 7 8 Eq Eq [] (by kernel_rfl) (by kernel_rfl) (by kernel_rfl) (by kernel_rfl) (by kernel_rfl) (fun _ _ h => h) (fun _ => rfl) (fun _ _ _ => Eq.trans) (fun _ => rfl) (fun _ _ _ => Eq.trans) (fun _ _ h => h) ?_
        intro σ
        simp only [List.take_succ_cons, List.take_zero, List.drop_succ_cons, List.drop_zero]
        repeat (refine rg_pure (x := ?_) rfl (by rfl) (fun W2 hW => ?_) ?_; rotate_left; (· have f0 := e2 W2 hW; have f1 := e3 W2 hW; have f2 := e4 W2 hW; go_simp; with_reducible rfl); simp only [Nat.reduceAdd, Act.put, List.setIfInBounds_toArray, List.set_cons_zero, List.set_cons_succ])
        refine rg_done fun W2 hW _ => ?_
        subst hW
        have hf2 : W.drew.frozen? ⟨w2.heap.size + 1, 0, none⟩ = false := frozen_of_row W.drew _ 0 _ _ HU.out.2
        show wpList _ _ _ _ _ _
        go_wp2_with fail
        simp only [onlyN]
        obtain ⟨W3, hW3⟩ : ∃ W3, (W.setCell ⟨w2.heap.size + 1, 0, none⟩ (.int .u64 (m : Int))).drew = W3 := ⟨_, rfl⟩
        rw [hW3]
        have t1 : TouchO (w2.heap.size + 1) none W W3 := by
          rw [← hW3]; exact (TouchO.of_setCell W 0 _).same (TouchO.of_ext (Ext.drew _))
        have k1 : KeepsOthers W W3 := by rw [← hW3]; exact (KeepsOthers.setCell W _ _).trans (KeepsOthers.drew _)
        have hn3 : W3.heap[w2.heap.size + 1]? = some (.cells #[.int .u64 (m : Int)] 88) := by
          rw [← hW3]
          show (W.setCell _ _).heap[_]? = _
          rw [heap_setCell_same _ _ _ _ _ _ HU.out.2]; rfl
        have hu3' : W3.heap[w2.heap.size]? = some (.cells #[.slice (some ⟨b2, off2, none⟩) (rest.length + 1) cap2] 26) := (t1.block _ (by omega) (by omega) (by simp)).trans HU.out.1
        have hc3 : W3.cell? ⟨w2.heap.size, 0, none⟩ = some (.slice (some ⟨b2, off2, none⟩) (rest.length + 1) cap2) := cell_of_row W3 _ 0 _ _ _ hu3'
        have hf3 : W3.frozen? ⟨w2.heap.size, 0, none⟩ = false := frozen_of_row W3 _ 0 _ _ hu3'
        have H3 := Lib.hid (And.intro hn3 hu3')
        have hrc := hu3 (by rw [hrest]; exact List.cons_ne_nil _ _)
        have HC := Lib.hid (show ∀ off len cap, Clear (.slice (some ⟨b2, off, none⟩) len cap) w2.heap.size none ∧ Clear (.slice (some ⟨b2, off, none⟩) len cap) (w2.heap.size + 1) none from fun off len cap =>
          ⟨fun a len' cap' e => by cases e; exact hrc.1 ⟨b2, off2, none⟩ _ _ rfl, fun a len' cap' e => by cases e; exact hrc.2 ⟨b2, off2, none⟩ _ _ rfl⟩)
        clear hW3 hn3 hu3' hc0 hc1 hd0 e2 e3 e4 hw1 hw2 hw3 hf2 hd3
        gi_wp2
        · refine get_close hsz hex hrest HM.out.1 t1 k1 H3.out.1 H3.out.2 ⟨_, _, rfl, by omega, by omega, fun hl => ?_⟩ (fun _ => HC.out _ _ _)
          exfalso; apply hl; apply List.eq_nil_of_length_eq_zero; omega
        · refine get_close hsz hex hrest HM.out.1 t1 k1 H3.out.1 H3.out.2 ⟨_, _, rfl, by omega, by omega, fun hl => ⟨b2, off2 + 1, rfl, fun i z hi => ?_⟩⟩ (fun _ => HC.out _ _ _)
          have := HD.out (i + 1) z hi
          rw [show off2 + 1 + i = off2 + (i + 1) by omega]
          exact this
    · subst hS
      have hnum : accB l (shifts k) = numB l := by
        rcases hl with rfl | h
        · rw [accB_nil]; rfl
        · exact accB_full l k hk8 h
      have hc1 : W.cell? ⟨w2.heap.size + 1, 0, none⟩ = some (.int .u64 (numB l : Int)) := by rw [← hnum]; exact cell_of_row W _ 0 _ _ _ hI.num
      have HI := Lib.hid hI
      clear hI hkw hkm
      go_wp2_with fail
      refine leave1 rfl hk (results_tmp rfl _ _ _) ?_
      have hD' : w2.heap.size ≤ D := by simp at hD; omega
      have hp := getI_own w2 l w2.heap.size (Nat.le_refl _) (shifts k) W (W.putObj D (.deferred none)) (some D) HI.out (grownBy_putObj' W D _) (fun g hg => by cases hg; exact ⟨hD', _, hk, rfl⟩)
      exact ⟨rfl, hin.ext hp.ext, ((TouchO.of_ext hx).same ht).same (TouchO.of_ext hp.ext)⟩
    · obtain ⟨rfl, rfl, hn, hex⟩ := hI
      have hc1 : W.cell? ⟨w2.heap.size + 1, 0, none⟩ = some (.int .u64 0) := cell_of_row W _ 0 _ _ _ hn
      have HI := Lib.hid hn
      clear hn hkw hkm
      go_wp2_with fail
      refine leave1 rfl hk (results_tmp rfl _ _ _) ?_
      have hD' : w2.heap.size ≤ D := by simp at hD; omega
      have hp := getX_own w2 [] w2.heap.size (Nat.le_refl _) (.exit 0) [] W (W.putObj D (.deferred none)) (some D) ⟨rfl, rfl, HI.out, hex⟩ (grownBy_putObj' W D _) (fun g hg => by cases hg; exact ⟨hD', _, hk, rfl⟩)
      exact ⟨rfl, hin.ext hp.2.2.2, ((TouchO.of_ext hx).same ht).same (TouchO.of_ext hp.2.2.2)⟩

end Go.Proofs.Ytcdaelgnankmfaa.VOct
