/- Words on memory that all walks of this seat share: a world that has only grown; a slice that reads as a list of bytes. No program in sight. -/
import Derived.WalkKit
import Derived.WalkSpells
import Derived.WalkLawsBesides
import Derived.Lib.Hide
import Derived.Lib.SlBytesConst
import Derived.Test.YtlliemaohejpbaaVRg
namespace Go.VBase
open Go.RowKit

/-- The world has only grown. -/
def Ext (w w' : World) : Prop := Below w.heap.size w w'
theorem Ext.refl (w : World) : Ext w w := Below.refl _ _
theorem Ext.trans {a b c : World} (h : Ext a b) (k : Ext b c) : Ext a c := Below.trans h (Below.mono k h.size)
theorem Ext.below {w w' : World} (h : Ext w w') : Below w.heap.size w w' := h
theorem Ext.alloc (w : World) (o : Obj) : Ext w (w.alloc o) := (Below.refl _ _).alloc (Nat.le_refl _) o
theorem Ext.drew (w : World) : Ext w w.drew := (Below.refl _ _).drew
theorem Ext.thenAlloc {a w : World} (h : Ext a w) (o : Obj) : Ext a (w.alloc o) := h.trans (Ext.alloc w o)
theorem Ext.thenDrew {a w : World} (h : Ext a w) : Ext a w.drew := h.trans (Ext.drew w)
theorem Ext.size {a w : World} (h : Ext a w) : a.heap.size ≤ w.heap.size := Below.size h
/-- A cell that is there stays as it is. -/
theorem Ext.cell {w w' : World} (h : Ext w w') {p : Addr} {v : Value} (hc : w.cell? p = some v) : w'.cell? p = some v :=
  (Below.cell h (World.block_lt_of_cell? w p hc)).trans hc
theorem Ext.block {w w' : World} (h : Ext w w') {k : Nat} {o : Obj} (hc : w.heap[k]? = some o) : w'.heap[k]? = some o :=
  (Below.block h k (Array.getElem?_eq_some_iff.1 hc).1).trans hc
theorem Ext.of_drew {w w' : World} (h : Ext w.drew w') : Ext w w' := (Ext.drew w).trans h

/-- The value is a slice that reads as these bytes. -/
def Bys (w : World) (v : Value) (l : List UInt8) : Prop :=
  ∃ a cap, v = .slice a l.length cap ∧ l.length ≤ cap ∧ cap ≤ maxLen ∧
    (l ≠ [] → ∃ b off, a = some ⟨b, off, none⟩ ∧ ∀ i c, l[i]? = some c → w.cell? ⟨b, off + i, none⟩ = some (.int .u8 (c.toNat : Int)))

theorem Bys.ext {w w' : World} {v : Value} {l : List UInt8} (h : Bys w v l) (e : Ext w w') : Bys w' v l := by
  obtain ⟨a, cap, h1, h2, h3, h4⟩ := h
  refine ⟨a, cap, h1, h2, h3, fun hl => ?_⟩
  obtain ⟨b, off, rfl, h5⟩ := h4 hl
  exact ⟨b, off, rfl, fun i c hi => e.cell (h5 i c hi)⟩
theorem Bys.drew {w : World} {v : Value} {l : List UInt8} (h : Bys w v l) : Bys w.drew v l := h.ext (Ext.drew w)
theorem Bys.alloc {w : World} {v : Value} {l : List UInt8} (h : Bys w v l) (o : Obj) : Bys (w.alloc o) v l := h.ext (Ext.alloc w o)
theorem Bys.len {w : World} {v : Value} {l : List UInt8} (h : Bys w v l) : l.length ≤ maxLen := by
  obtain ⟨a, cap, h1, h2, h3, h4⟩ := h; omega
theorem Bys.nil (w : World) : Bys w (.slice none 0 0) [] := ⟨none, 0, rfl, Nat.le_refl _, Nat.zero_le _, fun h => absurd rfl h⟩

theorem Bys.take {w : World} {a : Option Addr} {n cap : Nat} {l : List UInt8} (h : Bys w (.slice a n cap) l) {i : Nat} (hi : i ≤ l.length) : Bys w (.slice a i cap) (l.take i) := by
  obtain ⟨a', cap', h1, h2, h3, h4⟩ := h
  cases h1
  have hlen : (l.take i).length = i := by rw [List.length_take]; omega
  refine ⟨a, cap, by rw [hlen], by omega, h3, fun hne => ?_⟩
  obtain ⟨b, off, rfl, h5⟩ := h4 (by intro h; subst h; simp at hne)
  refine ⟨b, off, rfl, fun k c hk => h5 k c ?_⟩
  rw [List.getElem?_take] at hk
  split at hk
  · exact hk
  · cases hk
theorem Bys.drop {w : World} {a : Option Addr} {n cap : Nat} {l : List UInt8} (h : Bys w (.slice a n cap) l) {i : Nat} (hi : i ≤ l.length) :
    Bys w (.slice (if cap = i then a else Option.map (fun x => x.add i) a) (n - i) (cap - i)) (l.drop i) := by
  obtain ⟨a', cap', h1, h2, h3, h4⟩ := h
  cases h1
  have hlen : (l.drop i).length = l.length - i := by rw [List.length_drop]
  refine ⟨_, cap - i, by rw [hlen], by omega, by omega, fun hne => ?_⟩
  have hlt : i < l.length := by
    rcases Nat.lt_or_ge i l.length with h | h
    · exact h
    · exact absurd (List.drop_eq_nil_of_le h) hne
  rw [if_neg (by omega)]
  obtain ⟨b, off, rfl, h5⟩ := h4 (by intro h; subst h; simp at hlt)
  refine ⟨b, off + i, ?_, fun k c hk => ?_⟩
  · show some (Addr.add _ i) = _
    unfold Addr.add
    split
    · rename_i h0; subst h0; rfl
    · rfl
  · rw [List.getElem?_drop] at hk
    have := h5 _ c hk
    rwa [← Nat.add_assoc] at this
/-- 'b[lo:hi]' -/
theorem Bys.cut {w : World} {a : Option Addr} {n cap : Nat} {l : List UInt8} (h : Bys w (.slice a n cap) l) {i j m : Nat} (hi : i ≤ j) (hj : j ≤ l.length) (hm : m = j - i) :
    Bys w (.slice (if cap = i then a else Option.map (fun x => x.add i) a) m (cap - i)) ((l.drop i).take m) := by
  have hn : n = l.length := by obtain ⟨a', cap', h1, _⟩ := h; cases h1; rfl
  exact (h.drop (i := i) (by omega)).take (by rw [List.length_drop]; omega)

/-- The value is a slice of slices that read as these lists of bytes. -/
def BysL (w : World) (v : Value) (ls : List (List UInt8)) : Prop :=
  ∃ a cap, v = .slice a ls.length cap ∧ ls.length ≤ cap ∧ cap ≤ maxLen ∧
    (ls ≠ [] → ∃ b off, a = some ⟨b, off, none⟩ ∧ ∀ i l, ls[i]? = some l → ∃ u, w.cell? ⟨b, off + i, none⟩ = some u ∧ Bys w u l)
theorem BysL.ext {w w' : World} {v : Value} {l : List (List UInt8)} (h : BysL w v l) (e : Ext w w') : BysL w' v l := by
  obtain ⟨a, cap, h1, h2, h3, h4⟩ := h
  refine ⟨a, cap, h1, h2, h3, fun hl => ?_⟩
  obtain ⟨b, off, rfl, h5⟩ := h4 hl
  refine ⟨b, off, rfl, fun i c hi => ?_⟩
  obtain ⟨u, h6, h7⟩ := h5 i c hi
  exact ⟨u, e.cell h6, h7.ext e⟩
theorem BysL.nil (w : World) : BysL w (.slice none 0 0) [] := ⟨none, 0, rfl, Nat.le_refl _, Nat.zero_le _, fun h => absurd rfl h⟩

theorem cell_new_mark (w : World) (C : Array Value) (t : TypeId) (mk : Nat × Nat) (i : Nat) : (w.alloc (.cells C t mk)).cell? ⟨w.heap.size, i, none⟩ = C[i]? := by
  unfold World.cell?
  rw [show (w.alloc (.cells C t mk)).heap[w.heap.size]? = some (.cells C t mk) from by
    show (w.heap.push _)[w.heap.size]? = _
    exact Array.getElem?_push_size]
  rfl
/-- A new row of bytes. -/
theorem bys_new {w : World} {C : Array Value} {t : TypeId} {mk : Nat × Nat} {n m : Nat} (l : List UInt8) (hm : m = w.heap.size) (hC : C = (l.map fun c => Value.int .u8 (c.toNat : Int)).toArray) (hn : n = l.length) (hl : l.length ≤ maxLen) :
    Bys (w.alloc (.cells C t mk)) (.slice (some ⟨m, 0, none⟩) n n) l := by
  subst hn hC hm
  refine ⟨_, _, rfl, Nat.le_refl _, hl, fun _ => ⟨_, _, rfl, fun i c hi => ?_⟩⟩
  rw [Nat.zero_add, cell_new_mark, List.getElem?_toArray, List.getElem?_map, hi]; rfl
/-- A new row of slices of bytes. -/
theorem bysL_new {w : World} {C : Array Value} {t : TypeId} {n m : Nat} (ls : List (List UInt8)) (hm : m = w.heap.size) (hn : n = ls.length) (hl : ls.length ≤ maxLen)
    (h : ∀ (i : Nat) (l : List UInt8), ls[i]? = some l → ∃ u : Value, C[i]? = some u ∧ Bys w u l) : BysL (w.alloc (.cells C t)) (.slice (some ⟨m, 0, none⟩) n n) ls := by
  subst hn hm
  refine ⟨_, _, rfl, Nat.le_refl _, hl, fun _ => ⟨_, _, rfl, fun i l hi => ?_⟩⟩
  obtain ⟨u, h1, h2⟩ := h i l hi
  exact ⟨u, by rw [Nat.zero_add, cell_new_mark]; exact h1, h2.alloc _⟩
theorem bysL_one {w : World} {u : Value} {t : TypeId} {m : Nat} {l : List UInt8} (hm : m = w.heap.size) (h : Bys w u l) : BysL (w.alloc (.cells #[u] t)) (.slice (some ⟨m, 0, none⟩) 1 1) [l] :=
  bysL_new [l] hm rfl (by simp [maxLen]) fun i m hi => by
    match i, hi with
    | 0, hi => cases hi; exact ⟨u, rfl, h⟩
theorem bysL_three {w : World} {u1 u2 u3 : Value} {t : TypeId} {m : Nat} {l1 l2 l3 : List UInt8} (hm : m = w.heap.size) (h1 : Bys w u1 l1) (h2 : Bys w u2 l2) (h3 : Bys w u3 l3) :
    BysL (w.alloc (.cells #[u1, u2, u3] t)) (.slice (some ⟨m, 0, none⟩) 3 3) [l1, l2, l3] :=
  bysL_new [l1, l2, l3] hm rfl (by simp [maxLen]) fun i m hi => by
    match i, hi with
    | 0, hi => cases hi; exact ⟨u1, rfl, h1⟩
    | 1, hi => cases hi; exact ⟨u2, rfl, h2⟩
    | 2, hi => cases hi; exact ⟨u3, rfl, h3⟩

/-- The k-th byte, and what it adds. -/
theorem take_snoc {α : Type} {l : List α} {k : Nat} {c : α} (h : l[k]? = some c) : l.take (k + 1) = l.take k ++ [c] := by
  rw [List.take_add_one, h]; rfl
theorem drop_cons {α : Type} {l : List α} {k : Nat} {c : α} (h : l[k]? = some c) : l.drop k = c :: l.drop (k + 1) := by
  obtain ⟨hk, rfl⟩ := List.getElem?_eq_some_iff.1 h
  exact List.drop_eq_getElem_cons hk
theorem get_some {α : Type} {l : List α} {k : Nat} (h : k < l.length) : ∃ c, l[k]? = some c := ⟨l[k], List.getElem?_eq_getElem h⟩

theorem ret_int {k : IntKind} {a b : Int} (h : a = b) : Ending.returned (.int k a) = .returned (.int k b) := by rw [h]
theorem ret_nat {k : IntKind} {a b : Nat} (h : a = b) : Ending.returned (.int k (a : Int)) = .returned (.int k (b : Int)) := by rw [h]
theorem ret_bool {a b : Bool} (h : a = b) : Ending.returned (.bool a) = .returned (.bool b) := by rw [h]

theorem nat_u8 {a : Int} (h : (Lit.int .u8 a).wf = true) : ∃ x : Nat, a = (x : Int) ∧ x < 256 := by
  simp [Lit.wf, IntKind.min, IntKind.max, IntKind.bits, IntKind.signed] at h
  exact ⟨a.toNat, by omega, by omega⟩
theorem nat_u16 {a : Int} (h : (Lit.int .u16 a).wf = true) : ∃ x : Nat, a = (x : Int) ∧ x < 65536 := by
  simp [Lit.wf, IntKind.min, IntKind.max, IntKind.bits, IntKind.signed] at h
  exact ⟨a.toNat, by omega, by omega⟩
theorem nat_u32 {a : Int} (h : (Lit.int .u32 a).wf = true) : ∃ x : Nat, a = (x : Int) ∧ x < 4294967296 := by
  simp [Lit.wf, IntKind.min, IntKind.max, IntKind.bits, IntKind.signed] at h
  exact ⟨a.toNat, by omega, by omega⟩
theorem int_i64 {a : Int} (h : (Lit.int .i64 a).wf = true) : -9223372036854775808 ≤ a ∧ a ≤ 9223372036854775807 := by
  simp [Lit.wf, IntKind.min, IntKind.max, IntKind.bits, IntKind.signed] at h
  omega

/-- A slice of bytes, as the shell of a law hands it, reads as a list. -/
theorem bys_of_row {w : World} {a : Option Addr} {len cap : Nat} {zs : List Int}
    (h : (a = none ∧ len = 0 ∧ cap = 0 ∧ zs = []) ∨ ∃ x, a = some x ∧ len ≤ cap ∧ cap ≤ maxLen ∧ zs.length = cap ∧ (∀ i, i < zs.length → w.cell? (x.add i) = some (.int .u8 (zs.getD i 0))) ∧ ∀ n ∈ zs, (Lit.int .u8 n).wf = true) :
    ∃ l : List UInt8, l.length = len ∧ Bys w (.slice a len cap) l := by
  rcases h with ⟨rfl, rfl, rfl, rfl⟩ | ⟨x, rfl, h1, h2, h3, h4, h5⟩
  · exact ⟨[], rfl, Bys.nil w⟩
  · have hb : ∀ n ∈ zs, 0 ≤ n ∧ n ≤ 255 := by
      intro n hn
      have := h5 n hn
      simp [Lit.wf, IntKind.min, IntKind.max, IntKind.bits, IntKind.signed] at this
      omega
    have hlen : ((zs.take len).map fun n => UInt8.ofNat n.toNat).length = len := by rw [List.length_map, List.length_take]; omega
    refine ⟨(zs.take len).map fun n => UInt8.ofNat n.toNat, hlen, ⟨some x, cap, by rw [hlen], by omega, h2, fun hne => ?_⟩⟩
    have hpos : 0 < len := by
      rcases Nat.eq_zero_or_pos len with h0 | h0
      · exact absurd (List.length_eq_zero_iff.1 (hlen.trans h0)) hne
      · exact h0
    have hc0 := h4 0 (by omega)
    obtain ⟨b, off, spot⟩ := x
    have hspot : spot = none := by simpa [Addr.add] using World.cell?_spot hc0
    subst hspot
    refine ⟨b, off, rfl, fun i c hi => ?_⟩
    rw [List.getElem?_map, List.getElem?_take] at hi
    split at hi
    · rename_i hlt
      have h6 := h4 i (by omega)
      have e : (Addr.add ⟨b, off, none⟩ i) = ⟨b, off + i, none⟩ := by
        unfold Addr.add; split
        · rename_i h0; subst h0; rfl
        · rfl
      rw [e] at h6
      rw [h6]
      have hz : zs[i]? = some zs[i] := List.getElem?_eq_getElem (by omega)
      rw [hz] at hi
      simp only [Option.map_some, Option.some.injEq] at hi
      subst hi
      have := hb zs[i] (List.getElem_mem _)
      rw [List.getD_eq_getElem?_getD, hz]
      congr 2
      simp
      omega
    · simp at hi

end Go.VBase
