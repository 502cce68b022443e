/- Words on memory that all walks of this seat share: a world that has only grown; a slice that reads as a list of bytes. No program in sight. -/
import Derived.WalkKit
import Derived.WalkSpells
import Derived.WalkLawsBesides
import Derived.Lib.Hide
import Derived.Lib.SlBytesConst
import Derived.Test.YtcdaelgnankmfaaVRg
namespace Go.VBase
open Go.RowKit

/-- The world has only grown. -/
def Ext (w w' : World) : Prop := Below w.heap.size w w'
theorem Ext.refl (w : World) : Ext w w := Below.refl _ _
theorem Ext.trans {a b c : World} (h : Ext a b) (k : Ext b c) : Ext a c := Below.trans h (Below.mono k h.size)
theorem Ext.below {w w' : World} (h : Ext w w') : Below w.heap.size w w' := h
theorem Ext.alloc (w : World) (o : Obj) : Ext w (w.alloc o) := (Below.refl _ _).alloc (Nat.le_refl _) o
theorem Ext.drew (w : World) : Ext w w.drew := (Below.refl _ _).drew
theorem Ext.thenAlloc {a w : World} (h : Ext a w) (o : Obj) : Ext a (w.alloc o) := h.trans (Ext.alloc w o)
theorem Ext.thenDrew {a w : World} (h : Ext a w) : Ext a w.drew := h.trans (Ext.drew w)
theorem Ext.size {a w : World} (h : Ext a w) : a.heap.size ≤ w.heap.size := Below.size h
/-- A cell that is there stays as it is. -/
theorem Ext.cell {w w' : World} (h : Ext w w') {p : Addr} {v : Value} (hc : w.cell? p = some v) : w'.cell? p = some v :=
  (Below.cell h (World.block_lt_of_cell? w p hc)).trans hc
theorem Ext.block {w w' : World} (h : Ext w w') {k : Nat} {o : Obj} (hc : w.heap[k]? = some o) : w'.heap[k]? = some o :=
  (Below.block h k (Array.getElem?_eq_some_iff.1 hc).1).trans hc
theorem Ext.of_drew {w w' : World} (h : Ext w.drew w') : Ext w w' := (Ext.drew w).trans h

theorem Ext.setRow {a w : World} (h : Ext a w) {g : Nat} (hg : a.heap.size ≤ g) (cs : Array Value) : Ext a (w.setRow g cs) :=
  Below.trans h ⟨rfl, rfl, rfl, by simp, fun k hk => setRow_other w g k cs (by omega)⟩

/-- The value is a slice that reads as these bytes. -/
def Bys (w : World) (v : Value) (l : List UInt8) : Prop :=
  ∃ a cap, v = .slice a l.length cap ∧ l.length ≤ cap ∧ cap ≤ maxLen ∧
    (l ≠ [] → ∃ b off, a = some ⟨b, off, none⟩ ∧ ∀ i c, l[i]? = some c → w.cell? ⟨b, off + i, none⟩ = some (.int .u8 (c.toNat : Int)))

theorem Bys.ext {w w' : World} {v : Value} {l : List UInt8} (h : Bys w v l) (e : Ext w w') : Bys w' v l := by
  obtain ⟨a, cap, h1, h2, h3, h4⟩ := h
  refine ⟨a, cap, h1, h2, h3, fun hl => ?_⟩
  obtain ⟨b, off, rfl, h5⟩ := h4 hl
  exact ⟨b, off, rfl, fun i c hi => e.cell (h5 i c hi)⟩
theorem Bys.drew {w : World} {v : Value} {l : List UInt8} (h : Bys w v l) : Bys w.drew v l := h.ext (Ext.drew w)
theorem Bys.alloc {w : World} {v : Value} {l : List UInt8} (h : Bys w v l) (o : Obj) : Bys (w.alloc o) v l := h.ext (Ext.alloc w o)
theorem Bys.len {w : World} {v : Value} {l : List UInt8} (h : Bys w v l) : l.length ≤ maxLen := by
  obtain ⟨a, cap, h1, h2, h3, h4⟩ := h; omega
theorem Bys.nil (w : World) : Bys w (.slice none 0 0) [] := ⟨none, 0, rfl, Nat.le_refl _, Nat.zero_le _, fun h => absurd rfl h⟩

theorem Bys.take {w : World} {a : Option Addr} {n cap : Nat} {l : List UInt8} (h : Bys w (.slice a n cap) l) {i : Nat} (hi : i ≤ l.length) : Bys w (.slice a i cap) (l.take i) := by
  obtain ⟨a', cap', h1, h2, h3, h4⟩ := h
  cases h1
  have hlen : (l.take i).length = i := by rw [List.length_take]; omega
  refine ⟨a, cap, by rw [hlen], by omega, h3, fun hne => ?_⟩
  obtain ⟨b, off, rfl, h5⟩ := h4 (by intro h; subst h; simp at hne)
  refine ⟨b, off, rfl, fun k c hk => h5 k c ?_⟩
  rw [List.getElem?_take] at hk
  split at hk
  · exact hk
  · cases hk
theorem Bys.drop {w : World} {a : Option Addr} {n cap : Nat} {l : List UInt8} (h : Bys w (.slice a n cap) l) {i : Nat} (hi : i ≤ l.length) :
    Bys w (.slice (if cap = i then a else Option.map (fun x => x.add i) a) (n - i) (cap - i)) (l.drop i) := by
  obtain ⟨a', cap', h1, h2, h3, h4⟩ := h
  cases h1
  have hlen : (l.drop i).length = l.length - i := by rw [List.length_drop]
  refine ⟨_, cap - i, by rw [hlen], by omega, by omega, fun hne => ?_⟩
  have hlt : i < l.length := by
    rcases Nat.lt_or_ge i l.length with h | h
    · exact h
    · exact absurd (List.drop_eq_nil_of_le h) hne
  rw [if_neg (by omega)]
  obtain ⟨b, off, rfl, h5⟩ := h4 (by intro h; subst h; simp at hlt)
  refine ⟨b, off + i, ?_, fun k c hk => ?_⟩
  · show some (Addr.add _ i) = _
    unfold Addr.add
    split
    · rename_i h0; subst h0; rfl
    · rfl
  · rw [List.getElem?_drop] at hk
    have := h5 _ c hk
    rwa [← Nat.add_assoc] at this
/-- 'b[lo:hi]' -/
theorem Bys.cut {w : World} {a : Option Addr} {n cap : Nat} {l : List UInt8} (h : Bys w (.slice a n cap) l) {i j m : Nat} (hi : i ≤ j) (hj : j ≤ l.length) (hm : m = j - i) :
    Bys w (.slice (if cap = i then a else Option.map (fun x => x.add i) a) m (cap - i)) ((l.drop i).take m) := by
  have hn : n = l.length := by obtain ⟨a', cap', h1, _⟩ := h; cases h1; rfl
  exact (h.drop (i := i) (by omega)).take (by rw [List.length_drop]; omega)

/-- The value is a slice of slices that read as these lists of bytes. -/
def BysL (w : World) (v : Value) (ls : List (List UInt8)) : Prop :=
  ∃ a cap, v = .slice a ls.length cap ∧ ls.length ≤ cap ∧ cap ≤ maxLen ∧
    (ls ≠ [] → ∃ b off, a = some ⟨b, off, none⟩ ∧ ∀ i l, ls[i]? = some l → ∃ u, w.cell? ⟨b, off + i, none⟩ = some u ∧ Bys w u l)
theorem BysL.ext {w w' : World} {v : Value} {l : List (List UInt8)} (h : BysL w v l) (e : Ext w w') : BysL w' v l := by
  obtain ⟨a, cap, h1, h2, h3, h4⟩ := h
  refine ⟨a, cap, h1, h2, h3, fun hl => ?_⟩
  obtain ⟨b, off, rfl, h5⟩ := h4 hl
  refine ⟨b, off, rfl, fun i c hi => ?_⟩
  obtain ⟨u, h6, h7⟩ := h5 i c hi
  exact ⟨u, e.cell h6, h7.ext e⟩
theorem BysL.nil (w : World) : BysL w (.slice none 0 0) [] := ⟨none, 0, rfl, Nat.le_refl _, Nat.zero_le _, fun h => absurd rfl h⟩

theorem cell_new_mark (w : World) (C : Array Value) (t : TypeId) (mk : Nat × Nat) (i : Nat) : (w.alloc (.cells C t mk)).cell? ⟨w.heap.size, i, none⟩ = C[i]? := by
  unfold World.cell?
  rw [show (w.alloc (.cells C t mk)).heap[w.heap.size]? = some (.cells C t mk) from by
    show (w.heap.push _)[w.heap.size]? = _
    exact Array.getElem?_push_size]
  rfl
/-- A new row of bytes. -/
theorem bys_new {w : World} {C : Array Value} {t : TypeId} {mk : Nat × Nat} {n m : Nat} (l : List UInt8) (hm : m = w.heap.size) (hC : C = (l.map fun c => Value.int .u8 (c.toNat : Int)).toArray) (hn : n = l.length) (hl : l.length ≤ maxLen) :
    Bys (w.alloc (.cells C t mk)) (.slice (some ⟨m, 0, none⟩) n n) l := by
  subst hn hC hm
  refine ⟨_, _, rfl, Nat.le_refl _, hl, fun _ => ⟨_, _, rfl, fun i c hi => ?_⟩⟩
  rw [Nat.zero_add, cell_new_mark, List.getElem?_toArray, List.getElem?_map, hi]; rfl
/-- A new row of slices of bytes. -/
theorem bysL_new {w : World} {C : Array Value} {t : TypeId} {n m : Nat} (ls : List (List UInt8)) (hm : m = w.heap.size) (hn : n = ls.length) (hl : ls.length ≤ maxLen)
    (h : ∀ (i : Nat) (l : List UInt8), ls[i]? = some l → ∃ u : Value, C[i]? = some u ∧ Bys w u l) : BysL (w.alloc (.cells C t)) (.slice (some ⟨m, 0, none⟩) n n) ls := by
  subst hn hm
  refine ⟨_, _, rfl, Nat.le_refl _, hl, fun _ => ⟨_, _, rfl, fun i l hi => ?_⟩⟩
  obtain ⟨u, h1, h2⟩ := h i l hi
  exact ⟨u, by rw [Nat.zero_add, cell_new_mark]; exact h1, h2.alloc _⟩
theorem bys_lit1 {w : World} {t : TypeId} {m : Nat} (c : UInt8) (hm : m = w.heap.size) : Bys (w.alloc (.cells #[.int .u8 (c.toNat : Int)] t)) (.slice (some ⟨m, 0, none⟩) 1 1) [c] :=
  bys_new [c] hm rfl rfl (by simp [maxLen])
theorem bysL_one {w : World} {u : Value} {t : TypeId} {m : Nat} {l : List UInt8} (hm : m = w.heap.size) (h : Bys w u l) : BysL (w.alloc (.cells #[u] t)) (.slice (some ⟨m, 0, none⟩) 1 1) [l] :=
  bysL_new [l] hm rfl (by simp [maxLen]) fun i m hi => by
    match i, hi with
    | 0, hi => cases hi; exact ⟨u, rfl, h⟩
theorem bysL_three {w : World} {u1 u2 u3 : Value} {t : TypeId} {m : Nat} {l1 l2 l3 : List UInt8} (hm : m = w.heap.size) (h1 : Bys w u1 l1) (h2 : Bys w u2 l2) (h3 : Bys w u3 l3) :
    BysL (w.alloc (.cells #[u1, u2, u3] t)) (.slice (some ⟨m, 0, none⟩) 3 3) [l1, l2, l3] :=
  bysL_new [l1, l2, l3] hm rfl (by simp [maxLen]) fun i m hi => by
    match i, hi with
    | 0, hi => cases hi; exact ⟨u1, rfl, h1⟩
    | 1, hi => cases hi; exact ⟨u2, rfl, h2⟩
    | 2, hi => cases hi; exact ⟨u3, rfl, h3⟩

/-- The k-th byte, and what it adds. -/
theorem take_snoc {α : Type} {l : List α} {k : Nat} {c : α} (h : l[k]? = some c) : l.take (k + 1) = l.take k ++ [c] := by
  rw [List.take_add_one, h]; rfl
theorem drop_cons {α : Type} {l : List α} {k : Nat} {c : α} (h : l[k]? = some c) : l.drop k = c :: l.drop (k + 1) := by
  obtain ⟨hk, rfl⟩ := List.getElem?_eq_some_iff.1 h
  exact List.drop_eq_getElem_cons hk
theorem get_some {α : Type} {l : List α} {k : Nat} (h : k < l.length) : ∃ c, l[k]? = some c := ⟨l[k], List.getElem?_eq_getElem h⟩

theorem ret_int {k : IntKind} {a b : Int} (h : a = b) : Ending.returned (.int k a) = .returned (.int k b) := by rw [h]
theorem ret_nat {k : IntKind} {a b : Nat} (h : a = b) : Ending.returned (.int k (a : Int)) = .returned (.int k (b : Int)) := by rw [h]
theorem ret_bool {a b : Bool} (h : a = b) : Ending.returned (.bool a) = .returned (.bool b) := by rw [h]

theorem nat_u8 {a : Int} (h : (Lit.int .u8 a).wf = true) : ∃ x : Nat, a = (x : Int) ∧ x < 256 := by
  simp [Lit.wf, IntKind.min, IntKind.max, IntKind.bits, IntKind.signed] at h
  exact ⟨a.toNat, by omega, by omega⟩
theorem byte_u8 {a : Int} (h : (Lit.int .u8 a).wf = true) : ∃ c : UInt8, a = (c.toNat : Int) := by
  obtain ⟨x, rfl, hx⟩ := nat_u8 h
  exact ⟨UInt8.ofNat x, by simp [Nat.mod_eq_of_lt hx]⟩
theorem nat_u64 {a : Int} (h : (Lit.int .u64 a).wf = true) : ∃ x : Nat, a = (x : Int) ∧ x < 18446744073709551616 := by
  simp [Lit.wf, IntKind.min, IntKind.max, IntKind.bits, IntKind.signed] at h
  exact ⟨a.toNat, by omega, by omega⟩
theorem nat_u16 {a : Int} (h : (Lit.int .u16 a).wf = true) : ∃ x : Nat, a = (x : Int) ∧ x < 65536 := by
  simp [Lit.wf, IntKind.min, IntKind.max, IntKind.bits, IntKind.signed] at h
  exact ⟨a.toNat, by omega, by omega⟩
theorem nat_u32 {a : Int} (h : (Lit.int .u32 a).wf = true) : ∃ x : Nat, a = (x : Int) ∧ x < 4294967296 := by
  simp [Lit.wf, IntKind.min, IntKind.max, IntKind.bits, IntKind.signed] at h
  exact ⟨a.toNat, by omega, by omega⟩
theorem int_i64 {a : Int} (h : (Lit.int .i64 a).wf = true) : -9223372036854775808 ≤ a ∧ a ≤ 9223372036854775807 := by
  simp [Lit.wf, IntKind.min, IntKind.max, IntKind.bits, IntKind.signed] at h
  omega

/-- A slice of bytes, as the shell of a law hands it, reads as a list. -/
theorem bys_of_row {w : World} {a : Option Addr} {len cap : Nat} {zs : List Int}
    (h : (a = none ∧ len = 0 ∧ cap = 0 ∧ zs = []) ∨ ∃ x, a = some x ∧ len ≤ cap ∧ cap ≤ maxLen ∧ zs.length = cap ∧ (∀ i, i < zs.length → w.cell? (x.add i) = some (.int .u8 (zs.getD i 0))) ∧ ∀ n ∈ zs, (Lit.int .u8 n).wf = true) :
    ∃ l : List UInt8, l.length = len ∧ Bys w (.slice a len cap) l := by
  rcases h with ⟨rfl, rfl, rfl, rfl⟩ | ⟨x, rfl, h1, h2, h3, h4, h5⟩
  · exact ⟨[], rfl, Bys.nil w⟩
  · have hb : ∀ n ∈ zs, 0 ≤ n ∧ n ≤ 255 := by
      intro n hn
      have := h5 n hn
      simp [Lit.wf, IntKind.min, IntKind.max, IntKind.bits, IntKind.signed] at this
      omega
    have hlen : ((zs.take len).map fun n => UInt8.ofNat n.toNat).length = len := by rw [List.length_map, List.length_take]; omega
    refine ⟨(zs.take len).map fun n => UInt8.ofNat n.toNat, hlen, ⟨some x, cap, by rw [hlen], by omega, h2, fun hne => ?_⟩⟩
    have hpos : 0 < len := by
      rcases Nat.eq_zero_or_pos len with h0 | h0
      · exact absurd (List.length_eq_zero_iff.1 (hlen.trans h0)) hne
      · exact h0
    have hc0 := h4 0 (by omega)
    obtain ⟨b, off, spot⟩ := x
    have hspot : spot = none := by simpa [Addr.add] using World.cell?_spot hc0
    subst hspot
    refine ⟨b, off, rfl, fun i c hi => ?_⟩
    rw [List.getElem?_map, List.getElem?_take] at hi
    split at hi
    · rename_i hlt
      have h6 := h4 i (by omega)
      have e : (Addr.add ⟨b, off, none⟩ i) = ⟨b, off + i, none⟩ := by
        unfold Addr.add; split
        · rename_i h0; subst h0; rfl
        · rfl
      rw [e] at h6
      rw [h6]
      have hz : zs[i]? = some zs[i] := List.getElem?_eq_getElem (by omega)
      rw [hz] at hi
      simp only [Option.map_some, Option.some.injEq] at hi
      subst hi
      have := hb zs[i] (List.getElem_mem _)
      rw [List.getD_eq_getElem?_getD, hz]
      congr 2
      simp
      omega
    · simp at hi

/-- A slice of bytes of the call's own: block 'base' or beyond. -/
def encB (c : UInt8) : Value := .int .u8 (c.toNat : Int)
def OwnB (w : World) (base e : Nat) (v : Value) (l : List UInt8) : Prop := w.ownsRow base e 1 v l.length (l.map encB)
theorem OwnB.nil (w : World) (base e : Nat) : OwnB w base e (.slice none 0 0) [] := World.ownsRow_nil _ _ _ _
theorem OwnB.bys {w : World} {base e : Nat} {v : Value} {l : List UInt8} (h : OwnB w base e v l) (hl : l.length ≤ maxLen) : Bys w v l := by
  rcases h.2 with ⟨rfl, h0⟩ | ⟨g, cap, cur, rfl, hb, hg, hn, hcap, hcs, ht⟩
  · have : l = [] := List.eq_nil_of_length_eq_zero h0
    subst this
    exact Bys.nil w
  · refine ⟨_, cap, rfl, hn, hcap, fun _ => ⟨g, 0, rfl, fun i c hi => ?_⟩⟩
    have hc := h.cells (g := g) rfl i (encB c) (by rw [List.getElem?_map, hi]; rfl)
    have e : (Addr.add ⟨g, 0, none⟩ i) = ⟨g, 0 + i, none⟩ := by
      unfold Addr.add; split
      · rename_i h0; subst h0; rfl
      · rfl
    rw [e] at hc
    exact hc
theorem OwnB.alloc {w : World} {base e : Nat} {v : Value} {l : List UInt8} (h : OwnB w base e v l) (o : Obj) : OwnB (w.alloc o) base e v l := World.ownsRow.alloc h o
theorem OwnB.drew {w : World} {base e : Nat} {v : Value} {l : List UInt8} (h : OwnB w base e v l) : OwnB w.drew base e v l := h
theorem OwnB.slice {w : World} {base e : Nat} {v : Value} {l : List UInt8} (h : OwnB w base e v l) : ∃ a cap, v = .slice a l.length cap := by
  rcases h.2 with ⟨rfl, h0⟩ | ⟨g, cap, cur, rfl, _⟩
  · exact ⟨none, 0, by rw [h0]⟩
  · exact ⟨_, _, rfl⟩
theorem OwnB.lt {w : World} {base e : Nat} {v : Value} {l : List UInt8} (h : OwnB w base e v l) : ∀ k, v.ownBlock = some k → base ≤ k := fun k hk => (World.ownsRow.lt h k hk).1

theorem grown_refl (row : Option Nat) (W : World) : W.grownBy W row := ⟨rfl, rfl, rfl, Nat.le_refl _, fun _ _ _ => rfl⟩
theorem grown_trans {row : Option Nat} {a b c : World} (h : a.grownBy b row) (k : b.grownBy c row) : a.grownBy c row :=
  ⟨k.os.trans h.os, k.tape.trans h.tape, k.output.trans h.output, Nat.le_trans h.size k.size, fun i hi hn => (k.block i (Nat.lt_of_lt_of_le hi h.size) hn).trans (h.block i hi hn)⟩
theorem grown_drew {row : Option Nat} {a b : World} (h : a.drew.grownBy b row) : a.grownBy b row := ⟨h.os, h.tape, h.output, h.size, h.block⟩
theorem grown_below {B : Nat} {row : Option Nat} {a b : World} (h : a.grownBy b row) (hB : B ≤ a.heap.size) (hr : ∀ k, row = some k → B ≤ k) : Below B a b :=
  (Below.refl B a).grown h hB hr
/-- A slice of one byte, in a block of its own, that is not the row. -/
def NewOne (row : Option Nat) (c : UInt8) (u : Value) (W : World) : Prop := ∃ m, u = .slice (some ⟨m, 0, none⟩) 1 1 ∧ some m ≠ row ∧ W.cell? ⟨m, 0, none⟩ = some (encB c)
theorem NewOne.stable {row : Option Nat} {c : UInt8} (u : Value) (W W' : World) (h : W.grownBy W' row) : NewOne row c u W → NewOne row c u W' := by
  rintro ⟨m, h1, h2, h3⟩
  exact ⟨m, h1, h2, h.cell h3 h2⟩
theorem NewOne.mk {row : Option Nat} {c : UInt8} {W : World} (t : TypeId) (hr : ∀ k, row = some k → k < W.heap.size) : NewOne row c (.slice (some ⟨W.heap.size, 0, none⟩) 1 1) (W.alloc (.cells #[encB c] t)) :=
  ⟨_, rfl, fun h => by have := hr _ h.symm; omega, cell_new_mark W _ t (0, 0) 0⟩

/-- '[]byte', as the program's tables have it. -/
def ByteSl (P : Program) (t e : TypeId) : Prop := P.underlying t = some (.slice e) ∧ ∃ i, P.info? e = some i ∧ i.zero = some (.int .u8 0) ∧ i.size = 1 ∧ i.bytes = 1
theorem enc_oneCell (l : List UInt8) : ∀ u ∈ l.map encB, u.oneCell' = true := by
  intro u hu
  obtain ⟨c, _, rfl⟩ := List.mem_map.1 hu
  rfl
/-- An append to a row of the call's own: the row stays where it is, or is a new one. -/
theorem run_append_B {P : Program} {t e : TypeId} (hT : ByteSl P t e) (ty : TypeId) {W : World} {base : Nat} {v x : Value} {l m : List UInt8} (h : OwnB W base e v l) (hx : Bys W x m)
    (hlen : l.length + m.length ≤ 140737488355328) (hb : base ≤ W.heap.size) :
    ∃ v' w', (Builtin.append_ #[t, t] ty #[v, x]).run P W = .ok v' w' ∧ OwnB w' base e v' (l ++ m) ∧ W.grownBy w' v.ownBlock ∧ (∀ g, v'.ownBlock = some g → v.ownBlock = some g ∨ W.heap.size ≤ g) := by
  obtain ⟨ht, i, hi, hz, hs, hby⟩ := hT
  obtain ⟨a, cap, rfl, h1, h2, h3⟩ := hx
  cases a with
  | none =>
    have hm : m = [] := by
      rcases Decidable.em (m = []) with h | h
      · exact h
      · obtain ⟨b, off, he, _⟩ := h3 h; cases he
    subst hm
    refine ⟨v, W, ?_, by rw [List.append_nil]; exact h, grown_refl _ _, fun g hg => .inl hg⟩
    rcases h.2 with ⟨rfl, h0⟩ | ⟨g, cap', cur, rfl, hbg, hg, hn, hrest⟩
    · simp [Builtin.append_, run_underlying ht, sizeOf, typeInfo, hi, Builtin.lenOf, Builtin.firstCells]
    · simp [Builtin.append_, run_underlying ht, sizeOf, typeInfo, hi, Builtin.lenOf, Builtin.firstCells, hn, storeCells]
  | some ad =>
    have hcells : ∀ j u, (m.map encB)[j]? = some u → W.cell? (ad.add j) = some u := by
      intro j u hu
      rw [List.getElem?_map] at hu
      cases hm : m[j]? with
      | none => rw [hm] at hu; cases hu
      | some c =>
        rw [hm] at hu
        cases hu
        obtain ⟨b, off, he, h4⟩ := h3 (by intro h; rw [h] at hm; cases hm)
        cases he
        have e : (Addr.add ⟨b, off, none⟩ j) = ⟨b, off + j, none⟩ := by
          unfold Addr.add; split
          · rename_i h0; subst h0; rfl
          · rfl
        rw [e]
        exact h4 j c hm
    have hmax : l.length + m.length ≤ maxLen := by unfold maxLen; omega
    obtain ⟨v', w', hr, ho, hg, _⟩ := run_append_own (P := P) W base t ty e i (.int .u8 0) 1 1 ht hi hz hs hby rfl (by decide) v l.length (l.map encB) h ad m.length cap (m.map encB) (by simp) hcells (enc_oneCell m) hmax (by omega) hb
    refine ⟨v', w', hr, ?_, hg, ?_⟩
    · unfold OwnB
      rw [List.length_append, List.map_append]
      exact ho
    · intro k hk
      rcases h.2 with ⟨rfl, h0⟩ | ⟨g, cap', cur, rfl, hbg, hgg, hn, hcm, hcs, htake⟩
      · obtain ⟨v2, w2, hr2, ho2, _⟩ := run_append_own (P := P) W W.heap.size t ty e i (.int .u8 0) 1 1 ht hi hz hs hby rfl (by decide) _ l.length (l.map encB) ⟨h.1, .inl ⟨rfl, h0⟩⟩ ad m.length cap (m.map encB) (by simp) hcells (enc_oneCell m) hmax (by omega) (Nat.le_refl _)
        rw [hr] at hr2
        simp only [Result.ok.injEq] at hr2
        obtain ⟨rfl, rfl⟩ := hr2
        exact .inr (World.ownsRow.lt ho2 k hk).1
      · by_cases hroom : l.length + m.length ≤ cap'
        · obtain ⟨w2, hr2, _⟩ := run_append_fits (P := P) W base t ty e i 1 ht hi hs g l.length cap' (l.map encB) h ad m.length cap (m.map encB) (by simp) hcells (enc_oneCell m) hroom
          rw [hr] at hr2
          simp only [Result.ok.injEq] at hr2
          obtain ⟨rfl, rfl⟩ := hr2
          exact .inl hk
        · have holds : ∀ j u, (l.map encB)[j]? = some u → W.cell? ((⟨g, 0, none⟩ : Addr).add j) = some u := h.cells (g := g) rfl
          have hr2 := run_append_grow (P := P) W t ty e i (.int .u8 0) ht hi hz ⟨g, 0, none⟩ l.length cap' (l.map encB) (by rw [hs]; simp) holds ad m.length cap (m.map encB) (by rw [hs]; simp) hcells (by omega) (by unfold maxLen at hmax; omega) (growslice_fits (by omega) (by rw [hby]; omega))
          rw [hr] at hr2
          simp only [Result.ok.injEq] at hr2
          obtain ⟨rfl, rfl⟩ := hr2
          simp only [Value.ownBlock, Option.some.injEq] at hk
          right; omega
/-- The same, as an operation. -/
theorem eff_append {P : Program} {t e : TypeId} (hT : ByteSl P t e) {o : Oper} {a : Act} {s x : Operand} (ho : o.op = .call { callee := .builtin .append, args := #[s, x], argTypes := #[t, t] })
    {W : World} {base : Nat} {v u : Value} {l m : List UInt8} {p : Value → World → Prop} (hs : a.eval s = v) (hx : a.eval x = u) (h : OwnB W base e v l) (hu : Bys W u m)
    (hlen : l.length + m.length ≤ 140737488355328) (hb : base ≤ W.heap.size) (hp : ∀ v' w', OwnB w' base e v' (l ++ m) → W.grownBy w' v.ownBlock → (∀ g, v'.ownBlock = some g → v.ownBlock = some g ∨ W.heap.size ≤ g) → p v' w') :
    VRg.EffOut P (fun W W' => W.grownBy W' v.ownBlock) p W ((execOp a.eval o).run P W) := by
  obtain ⟨v', w', hr, h1, h2, h3⟩ := run_append_B hT o.type h hu hlen hb
  unfold execOp
  simp only [ho, resolve, invoke, builtin, Sem.run_bind, Sem.run_pure, Result.andThen_ok, List.map_toArray, List.map_cons, List.map_nil, hs, hx, hr]
  exact ⟨h2, hp _ _ h1 h2 h3⟩
theorem wpList_append_B {P : Program} {t e : TypeId} (hT : ByteSl P t e) {ops : Array Oper} {rest : List Oper} {o : Oper} {a : Act} {Q : Exit → Act → World → Prop} (hgd : o.guard = none) (s x : Operand)
    (ho : o.op = .call { callee := .builtin .append, args := #[s, x], argTypes := #[t, t] })
    {W : World} {base : Nat} {v u : Value} {l m : List UInt8} (hs : a.eval s = v) (hx : a.eval x = u) (h : OwnB W base e v l) (hu : Bys W u m) (hlen : l.length + m.length ≤ 140737488355328) (hb : base ≤ W.heap.size)
    (hk : ∀ v' w', OwnB w' base e v' (l ++ m) → W.grownBy w' v.ownBlock → (∀ g, v'.ownBlock = some g → v.ownBlock = some g ∨ W.heap.size ≤ g) → wpList P ops Q rest (a.put o.dst v') w') : wpList P ops Q (o :: rest) a W := by
  refine wpList_plain hgd fun K hK => ?_
  obtain ⟨v', w', hr, h1, h2, h3⟩ := run_append_B hT o.type h hu hlen hb
  unfold Oper.wp execOp
  simp only [ho, resolve, invoke, builtin, Sem.run_bind, Sem.run_pure, Result.andThen_ok, List.map_toArray, List.map_cons, List.map_nil, hs, hx, hr]
  exact hK _ _ (hk _ _ h1 h2 h3)
theorem NewOne.bys {row : Option Nat} {c : UInt8} {u : Value} {W : World} (h : NewOne row c u W) : Bys W u [c] := by
  obtain ⟨m, rfl, _, h2⟩ := h
  refine ⟨_, 1, rfl, by simp, by simp [maxLen], fun _ => ⟨m, 0, rfl, fun i d hi => ?_⟩⟩
  match i, hi with
  | 0, hi => cases hi; exact h2
theorem OwnB.grown {w w' : World} {base e : Nat} {v : Value} {l : List UInt8} {row : Option Nat} (h : OwnB w base e v l) (hg : w.grownBy w' row) (hne : v.ownBlock = none ∨ v.ownBlock ≠ row) : OwnB w' base e v l := World.ownsRow.kept h hg hne

theorem ext_grown (row : Option Nat) (a b : World) (h : Ext a b) : a.grownBy b row := ⟨h.os, h.tape, h.output, Below.size h, fun k hk _ => Below.block h k hk⟩
theorem OwnB.ext {w w' : World} {base e : Nat} {v : Value} {l : List UInt8} (h : OwnB w base e v l) (x : Ext w w') : OwnB w' base e v l :=
  World.ownsRow.kept h (ext_grown none _ _ x) (by cases v.ownBlock <;> simp)

/-- What a call that makes new bytes comes to. -/
def MadeB (w : World) (e : Nat) (l : List UInt8) (x : Ending) (w' : World) : Prop := ∃ u, x = .returned u ∧ OwnB w' w.heap.size e u l ∧ Ext w w'

/-- The string of these bytes. -/
def strB (l : List UInt8) : ByteArray := ⟨l.toArray⟩
theorem strB_inj {l m : List UInt8} (h : strB l = strB m) : l = m := by
  unfold strB at h
  have := congrArg (fun s : ByteArray => s.data.toList) h
  simpa using this
theorem strB_nums (l : List UInt8) : strOfNums (l.map fun c => (c.toNat : Int)) = strB l := by
  unfold strOfNums strB
  congr 2
  rw [List.map_map]
  conv => rhs; rw [← List.map_id l]
  apply List.map_congr_left
  intro c _
  simp
/-- 'string(b)' -/
theorem run_string_bys {P : Program} {src dst e : TypeId} (hs : P.underlying src = some (.slice e)) (he : P.underlying e = some (.int .u8)) (hd : P.underlying dst = some .string)
    {W : World} {v : Value} {l : List UInt8} (h : Bys W v l) : (convert src dst v).run P W = .ok (.string (strB l)) W := by
  obtain ⟨a, cap, rfl, h1, h2, h3⟩ := h
  cases a with
  | none =>
    have hm : l = [] := by
      rcases Decidable.em (l = []) with h | h
      · exact h
      · obtain ⟨b, off, he, _⟩ := h3 h; cases he
    subst hm
    rw [run_convert_bytes_nil W src e hs he _ _ dst hd]; rfl
  | some x =>
    rcases Decidable.em (l = []) with hl | hl
    · subst hl
      rw [run_convert_bytes_string W src dst e _ _ cap hs he hd, run_bytesToString W x _ cap [] (by rfl)]; rfl
    · obtain ⟨b, off, he', h4⟩ := h3 hl
      cases he'
      rw [run_convert_bytes_arg W src e hs he b off l.length cap (l.map fun c => (c.toNat : Int)) (by simp) (fun i hi => by
        rw [h4 i l[i] (List.getElem?_eq_getElem hi), List.getD_eq_getElem?_getD, List.getElem?_map, List.getElem?_eq_getElem hi]; rfl) dst hd, strB_nums]

theorem OwnB.made0 (w : World) (base e : Nat) (hb : base ≤ w.heap.size) : OwnB (w.alloc (.cells #[] e)) base e (.slice (some ⟨w.heap.size, 0, none⟩) 0 0) [] :=
  World.ownsRow_made w #[] 0 hb (Nat.zero_le _) rfl
theorem ext_of_grown {w w' : World} {row : Option Nat} (h : w.grownBy w' row) (hr : ∀ k, row = some k → w.heap.size ≤ k) : Ext w w' := grown_below h (Nat.le_refl _) hr

theorem OwnB.mono {w : World} {base base' e : Nat} {v : Value} {l : List UInt8} (h : OwnB w base e v l) (hb : base' ≤ base) : OwnB w base' e v l := by
  refine ⟨h.1, ?_⟩
  rcases h.2 with hn | ⟨g, cap, cur, rfl, hg, rest⟩
  · exact .inl hn
  · exact .inr ⟨g, cap, cur, rfl, Nat.le_trans hb hg, rest⟩
theorem OwnB.head {w : World} {base e : Nat} {v : Value} {l : List UInt8} (h : OwnB w base e v l) {a : Addr} {len cap : Nat} (hv : v = .slice (some a) len cap) : base ≤ a.block ∧ a.block < w.heap.size := by
  subst hv
  exact World.ownsRow.lt h a.block rfl

end Go.VBase
