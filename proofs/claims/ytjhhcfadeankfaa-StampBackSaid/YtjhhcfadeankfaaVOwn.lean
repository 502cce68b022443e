/- Rows of a call's own, of elements of any kind: append of one. No program in sight. -/
import Derived.Test.YtjhhcfadeankfaaVBase
namespace Go.VBase
open Go.RowKit

/-- A slice of the call's own: block 'base' or beyond; each element is 's' cells. -/
def OwnG {α : Type} (enc : α → List Value) (s : Nat) (w : World) (base e : Nat) (v : Value) (l : List α) : Prop := w.ownsRow base e s v l.length (l.flatMap enc)
/-- A type of slices, as the program's tables have it. -/
def ElemTy (P : Program) (t e : TypeId) (z : Value) (s by' : Nat) : Prop := P.underlying t = some (.slice e) ∧ ∃ i, P.info? e = some i ∧ i.zero = some z ∧ i.size = s ∧ i.bytes = by' ∧ z.cells.size = s

section
variable {α : Type} {enc : α → List Value} {s : Nat}
theorem OwnG.nil (w : World) (base e : Nat) : OwnG enc s w base e (.slice none 0 0) [] := World.ownsRow_nil _ _ _ _
theorem OwnG.alloc {w : World} {base e : Nat} {v : Value} {l : List α} (h : OwnG enc s w base e v l) (o : Obj) : OwnG enc s (w.alloc o) base e v l := World.ownsRow.alloc h o
theorem OwnG.drew {w : World} {base e : Nat} {v : Value} {l : List α} (h : OwnG enc s w base e v l) : OwnG enc s w.drew base e v l := h
theorem OwnG.slice {w : World} {base e : Nat} {v : Value} {l : List α} (h : OwnG enc s w base e v l) : ∃ a cap, v = .slice a l.length cap := by
  rcases h.2 with ⟨rfl, h0⟩ | ⟨g, cap, cur, rfl, _⟩
  · exact ⟨none, 0, by rw [h0]⟩
  · exact ⟨_, _, rfl⟩
theorem OwnG.lt {w : World} {base e : Nat} {v : Value} {l : List α} (h : OwnG enc s w base e v l) : ∀ k, v.ownBlock = some k → base ≤ k := fun k hk => (World.ownsRow.lt h k hk).1
theorem OwnG.ext {w w' : World} {base e : Nat} {v : Value} {l : List α} (h : OwnG enc s w base e v l) (x : Ext w w') : OwnG enc s w' base e v l :=
  World.ownsRow.kept h (ext_grown none _ _ x) (by cases v.ownBlock <;> simp)
theorem OwnG.grown {w w' : World} {base e : Nat} {v : Value} {l : List α} {row : Option Nat} (h : OwnG enc s w base e v l) (hg : w.grownBy w' row) (hne : v.ownBlock = none ∨ v.ownBlock ≠ row) : OwnG enc s w' base e v l := World.ownsRow.kept h hg hne
theorem flatMap_get1 {β : Type} (f : α → List β) : ∀ (l : List α) (i : Nat) (x : α) (y : β), (∀ a, (f a).length = 1) → l[i]? = some x → f x = [y] → (l.flatMap f)[i]? = some y
  | [], i, x, y, _, h, _ => by simp at h
  | a :: l, 0, x, y, hf, h, hy => by
    simp at h; subst h
    rw [List.flatMap_cons, hy]; rfl
  | a :: l, i + 1, x, y, hf, h, hy => by
    obtain ⟨b, hb⟩ : ∃ b, f a = [b] := List.length_eq_one_iff.1 (hf a)
    rw [List.flatMap_cons, hb]
    simp only [List.cons_append, List.nil_append, List.getElem?_cons_succ]
    exact flatMap_get1 f l i x y hf (by simpa using h) hy
/-- An element's cells. -/
theorem flatMap_get {β : Type} (f : α → List β) (s : Nat) (hf : ∀ a, (f a).length = s) : ∀ (l : List α) (i j : Nat) (x : α), l[i]? = some x → j < s → (l.flatMap f)[i * s + j]? = (f x)[j]?
  | [], i, j, x, h, _ => by simp at h
  | a :: l, 0, j, x, h, hj => by
    simp at h; subst h
    rw [List.flatMap_cons, Nat.zero_mul, Nat.zero_add, List.getElem?_append_left (by rw [hf]; exact hj)]
  | a :: l, i + 1, j, x, h, hj => by
    rw [List.flatMap_cons, List.getElem?_append_right (by rw [hf, Nat.succ_mul]; omega), hf]
    rw [show (i + 1) * s + j - s = i * s + j from by rw [Nat.succ_mul]; omega]
    exact flatMap_get f s hf l i j x (by simpa using h) hj
theorem OwnG.cell {w : World} {base e : Nat} {b off n cap : Nat} {sp : Option _} {l : List α} (hf : ∀ a, (enc a).length = s) (h : OwnG enc s w base e (.slice (some ⟨b, off, sp⟩) n cap) l) {i j : Nat} {x : α} {u : Value} (hi : l[i]? = some x) (hj : (enc x)[j]? = some u) :
    off = 0 ∧ sp = none ∧ w.cell? ⟨b, i * s + j, none⟩ = some u := by
  have hjs : j < s := by rw [← hf x]; exact (List.getElem?_eq_some_iff.1 hj).1
  rcases h.2 with ⟨hv, h0⟩ | ⟨g, cap', cur, hv, rest⟩
  · cases hv
  · cases hv
    have hc := World.ownsRow.cells h (g := b) rfl (i * s + j) u (by rw [flatMap_get enc s hf l i j x hi hjs]; exact hj)
    have e' : (Addr.add ⟨b, 0, none⟩ (i * s + j)) = ⟨b, i * s + j, none⟩ := by
      unfold Addr.add; split
      · rename_i h0; rw [h0]
      · simp
    rw [e'] at hc
    exact ⟨rfl, rfl, hc⟩
theorem OwnG.there {w : World} {base e : Nat} {v : Value} {l : List α} (h : OwnG enc s w base e v l) (hl : l ≠ []) : ∃ b cap, v = .slice (some ⟨b, 0, none⟩) l.length cap ∧ base ≤ b ∧ b < w.heap.size := by
  rcases h.2 with ⟨rfl, h0⟩ | ⟨g, cap, cur, rfl, hb, hg, _⟩
  · exact absurd (List.length_eq_zero_iff.1 h0) hl
  · exact ⟨g, cap, rfl, hb, (Array.getElem?_eq_some_iff.1 hg).1⟩
end

/-- An append of one to a row of the call's own. -/
theorem run_append_G {α : Type} {enc : α → List Value} {s by' : Nat} {z : Value} {P : Program} {t e : TypeId} (hT : ElemTy P t e z s by') (hs : 0 < s) (hf : ∀ a, (enc a).length = s) (h1 : ∀ a, ∀ u ∈ enc a, u.oneCell' = true) (ty : TypeId) {W : World} {base : Nat} {v : Value} {l : List α} {x : α} {ad : Addr} {c : Nat} (h : OwnG enc s W base e v l)
    (hx : ∀ j u, (enc x)[j]? = some u → W.cell? (ad.add j) = some u) (hlen : (l.length + 1) * by' ≤ 140737488355328) (hl2 : l.length < 140737488355328) (hb : base ≤ W.heap.size) :
    ∃ v' w', (Builtin.append_ #[t, t] ty #[v, .slice (some ad) 1 c]).run P W = .ok v' w' ∧ OwnG enc s w' base e v' (l ++ [x]) ∧ W.grownBy w' v.ownBlock := by
  obtain ⟨ht, i, hi, hz, hsz, hby, hzs⟩ := hT
  obtain ⟨v', w', hr, ho, hg, _⟩ := run_append_own (P := P) W base t ty e i z s by' ht hi hz hsz hby hzs hs v l.length (l.flatMap enc) h ad 1 c (enc x) (by rw [hf]; omega) hx (h1 x) (by unfold maxLen; omega) hlen hb
  refine ⟨v', w', hr, ?_, hg⟩
  unfold OwnG
  rw [List.length_append, List.flatMap_append]
  simpa using ho
theorem wpList_append_G {α : Type} {enc : α → List Value} {s by' : Nat} {z : Value} {P : Program} {t e : TypeId} (hT : ElemTy P t e z s by') (hs : 0 < s) (hf : ∀ a, (enc a).length = s) (h1 : ∀ a, ∀ u ∈ enc a, u.oneCell' = true)
    {ops : Array Oper} {rest : List Oper} {o : Oper} {a : Act} {Q : Exit → Act → World → Prop} (hgd : o.guard = none) (sl x : Operand)
    (ho : o.op = .call { callee := .builtin .append, args := #[sl, x], argTypes := #[t, t] })
    {W : World} {base : Nat} {v : Value} {l : List α} (y : α) {ad : Addr} {c : Nat} (hsl : a.eval sl = v) (hxe : a.eval x = .slice (some ad) 1 c) (h : OwnG enc s W base e v l)
    (hx : ∀ j u, (enc y)[j]? = some u → W.cell? (ad.add j) = some u) (hlen : (l.length + 1) * by' ≤ 140737488355328) (hl2 : l.length < 140737488355328) (hb : base ≤ W.heap.size)
    (hk : ∀ v' w', OwnG enc s w' base e v' (l ++ [y]) → W.grownBy w' v.ownBlock → wpList P ops Q rest (a.put o.dst v') w') : wpList P ops Q (o :: rest) a W := by
  refine wpList_plain hgd fun K hK => ?_
  obtain ⟨v', w', hr, h1, h2⟩ := run_append_G hT hs hf h1 o.type h hx hlen hl2 hb
  unfold Oper.wp execOp
  simp only [ho, resolve, invoke, builtin, Sem.run_bind, Sem.run_pure, Result.andThen_ok, List.map_toArray, List.map_cons, List.map_nil, hsl, hxe]
  rw [hr]
  exact hK _ _ (hk _ _ h1 h2)

/-- Integers. -/
def encI (n : Int) : List Value := [.int .i64 n]
abbrev OwnI (w : World) (base e : Nat) (v : Value) (l : List Int) : Prop := OwnG encI 1 w base e v l
theorem encI_len (n : Int) : (encI n).length = 1 := rfl
theorem encI_one (n : Int) : ∀ u ∈ encI n, u.oneCell' = true := by intro u hu; simp [encI] at hu; subst hu; rfl
end Go.VBase
