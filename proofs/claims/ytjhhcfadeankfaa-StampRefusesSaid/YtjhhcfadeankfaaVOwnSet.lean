/- Rows of a call's own: a cell is written; an append of many. No program in sight. -/
import Derived.Test.YtjhhcfadeankfaaVOwn
import Derived.OwnWalk
namespace Go.VBase
open Go.RowKit

section
variable {α : Type} {enc : α → List Value} {s : Nat}
theorem flatMap_len (hf : ∀ a, (enc a).length = s) (l : List α) : (l.flatMap enc).length = l.length * s := by
  induction l with
  | nil => simp
  | cons a l ih => rw [List.flatMap_cons, List.length_append, ih, hf, List.length_cons, Nat.succ_mul]; omega
theorem flatMap_set (hf : ∀ a, (enc a).length = s) : ∀ (l : List α) (i j : Nat) (x x' : α) (u : Value), l[i]? = some x → j < s → enc x' = (enc x).set j u → (l.flatMap enc).set (i * s + j) u = (l.set i x').flatMap enc
  | [], i, j, x, x', u, h, _, _ => by simp at h
  | a :: l, 0, j, x, x', u, h, hj, hx => by
    simp at h; subst h
    rw [List.flatMap_cons, Nat.zero_mul, Nat.zero_add, List.set_append_left _ _ (by rw [hf]; exact hj), List.set_cons_zero, List.flatMap_cons, hx]
  | a :: l, i + 1, j, x, x', u, h, hj, hx => by
    rw [List.flatMap_cons, List.set_append_right _ _ (by rw [hf, Nat.succ_mul]; omega), hf, show (i + 1) * s + j - s = i * s + j from by rw [Nat.succ_mul]; omega]
    rw [flatMap_set hf l i j x x' u (by simpa using h) hj hx, List.set_cons_succ, List.flatMap_cons]
theorem OwnG.made0 (w : World) (base e : Nat) (hb : base ≤ w.heap.size) : OwnG enc s (w.alloc (.cells #[] e)) base e (.slice (some ⟨w.heap.size, 0, none⟩) 0 0) [] := by
  refine ⟨by simp, .inr ⟨w.heap.size, 0, #[], rfl, hb, heap_alloc_new w _, Nat.le_refl _, Nat.zero_le _, by simp, by simp⟩⟩
/-- The row's object. -/
theorem ownG_row {w : World} {base e : Nat} {v : Value} {l : List α} (h : OwnG enc s w base e v l) : ∀ g, v.ownBlock = some g → base ≤ g ∧ ∃ cur, w.heap[g]? = some (.cells cur e) := by
  intro g hg
  rcases h.2 with hn | ⟨g', cap, cur, rfl, hb, hgg, rest⟩
  · rw [hn.1] at hg; simp [Value.ownBlock] at hg
  · simp [Value.ownBlock] at hg
    subst hg
    exact ⟨hb, cur, hgg⟩
theorem OwnG.set {w : World} {base e g n cap : Nat} {l : List α} (hf : ∀ a, (enc a).length = s) (h : OwnG enc s w base e (.slice (some ⟨g, 0, none⟩) n cap) l) (i j : Nat) {x : α} (x' : α) (u : Value) (hi : l[i]? = some x) (hj : j < s) (hx : enc x' = (enc x).set j u) :
    OwnG enc s (w.setCell ⟨g, i * s + j, none⟩ u) base e (.slice (some ⟨g, 0, none⟩) n cap) (l.set i x') := by
  have hil : i < l.length := (List.getElem?_eq_some_iff.1 hi).1
  have hfm := flatMap_set hf l i j x x' u hi hj hx
  refine ⟨?_, ?_⟩
  · rw [flatMap_len hf, List.length_set]
  · rcases h.2 with ⟨hv, h0⟩ | ⟨g', cap', cur, hv, hb, hg, hn, hcm, hcs, ht⟩
    · cases hv
    · cases hv
      refine .inr ⟨g, cap, cur.setIfInBounds (i * s + j) u, by simp, hb, heap_setCell_same _ _ _ _ _ _ hg, by simpa using hn, hcm, by simpa using hcs, ?_⟩
      simp only [List.length_set, Array.toList_setIfInBounds]
      rw [← hfm, ← ht, List.take_set]
theorem OwnG.at_ {w : World} {base e g n cap : Nat} {l : List α} (hf : ∀ a, (enc a).length = s) (h : OwnG enc s w base e (.slice (some ⟨g, 0, none⟩) n cap) l) {i j : Nat} {x : α} {u : Value} (hi : l[i]? = some x) (hj : (enc x)[j]? = some u) :
    base ≤ g ∧ g < w.heap.size ∧ w.cell? ⟨g, i * s + j, none⟩ = some u ∧ w.frozen? ⟨g, i * s + j, none⟩ = false := by
  obtain ⟨hb, cur, hc⟩ := ownG_row h g rfl
  exact ⟨hb, (Array.getElem?_eq_some_iff.1 hc).1, (OwnG.cell hf h hi hj).2.2, frozen_of_row w g _ _ _ hc⟩
end

/-- An append of many to a row of the call's own. -/
theorem run_append_Gs {α : Type} {enc : α → List Value} {s by' : Nat} {z : Value} {P : Program} {t e : TypeId} (hT : ElemTy P t e z s by') (hs : 0 < s) (hf : ∀ a, (enc a).length = s) (h1 : ∀ a, ∀ u ∈ enc a, u.oneCell' = true) (ty : TypeId) {W : World} {base : Nat} {v : Value} {l ys : List α} {ad : Addr} {c : Nat} (h : OwnG enc s W base e v l)
    (hx : ∀ j u, (ys.flatMap enc)[j]? = some u → W.cell? (ad.add j) = some u) (hlen : (l.length + ys.length) * by' ≤ 140737488355328) (hl2 : l.length + ys.length ≤ maxLen) (hb : base ≤ W.heap.size) :
    ∃ v' w', (Builtin.append_ #[t, t] ty #[v, .slice (some ad) ys.length c]).run P W = .ok v' w' ∧ OwnG enc s w' base e v' (l ++ ys) ∧ W.grownBy w' v.ownBlock := by
  obtain ⟨ht, i, hi, hz, hsz, hby, hzs⟩ := hT
  obtain ⟨v', w', hr, ho, hg, _⟩ := run_append_own (P := P) W base t ty e i z s by' ht hi hz hsz hby hzs hs v l.length (l.flatMap enc) h ad ys.length c (ys.flatMap enc) (flatMap_len hf ys) hx (fun u hu => by
    obtain ⟨a, _, ha⟩ := List.mem_flatMap.1 hu
    exact h1 a u ha) hl2 hlen hb
  refine ⟨v', w', hr, ?_, hg⟩
  unfold OwnG
  rw [List.length_append, List.flatMap_append]
  exact ho
theorem wpList_append_Gs {α : Type} {enc : α → List Value} {s by' : Nat} {z : Value} {P : Program} {t e : TypeId} (hT : ElemTy P t e z s by') (hs : 0 < s) (hf : ∀ a, (enc a).length = s) (h1 : ∀ a, ∀ u ∈ enc a, u.oneCell' = true)
    {ops : Array Oper} {rest : List Oper} {o : Oper} {a : Act} {Q : Exit → Act → World → Prop} (hgd : o.guard = none) (sl x : Operand)
    (ho : o.op = .call { callee := .builtin .append, args := #[sl, x], argTypes := #[t, t] })
    {W : World} {base : Nat} {v : Value} {l : List α} (ys : List α) {ad : Addr} {c : Nat} (hsl : a.eval sl = v) (hxe : a.eval x = .slice (some ad) ys.length c) (h : OwnG enc s W base e v l)
    (hx : ∀ j u, (ys.flatMap enc)[j]? = some u → W.cell? (ad.add j) = some u) (hlen : (l.length + ys.length) * by' ≤ 140737488355328) (hl2 : l.length + ys.length ≤ maxLen) (hb : base ≤ W.heap.size)
    (hk : ∀ v' w', OwnG enc s w' base e v' (l ++ ys) → W.grownBy w' v.ownBlock → wpList P ops Q rest (a.put o.dst v') w') : wpList P ops Q (o :: rest) a W := by
  refine wpList_plain hgd fun K hK => ?_
  obtain ⟨v', w', hr, h1, h2⟩ := run_append_Gs hT hs hf h1 o.type h hx hlen hl2 hb
  unfold Oper.wp execOp
  simp only [ho, resolve, invoke, builtin, Sem.run_bind, Sem.run_pure, Result.andThen_ok, List.map_toArray, List.map_cons, List.map_nil, hsl, hxe]
  rw [hr]
  exact hK _ _ (hk _ _ h1 h2)
/-- Cells of a row that lies there, by elements. -/
theorem cells_flat {α : Type} {enc : α → List Value} {s : Nat} (hs : 0 < s) (hf : ∀ a, (enc a).length = s) {w : World} {b off : Nat} {l : List α} (h : ∀ (i j : Nat) (x : α) (u : Value), l[i]? = some x → (enc x)[j]? = some u → w.cell? ⟨b, off + i * s + j, none⟩ = some u) :
    ∀ j u, (l.flatMap enc)[j]? = some u → w.cell? ((⟨b, off, none⟩ : Addr).add j) = some u := by
  intro j u hu
  have hjl := (List.getElem?_eq_some_iff.1 hu).1
  rw [flatMap_len hf] at hjl
  have hi : j / s < l.length := by rw [Nat.div_lt_iff_lt_mul hs]; exact hjl
  obtain ⟨x, hx⟩ : ∃ x, l[j / s]? = some x := ⟨_, List.getElem?_eq_getElem hi⟩
  have hd : j / s * s + j % s = j := by rw [Nat.mul_comm]; exact Nat.div_add_mod j s
  have h1 := flatMap_get enc s hf l (j / s) (j % s) x hx (Nat.mod_lt _ hs)
  rw [hd, hu] at h1
  have h2 := h (j / s) (j % s) x u hx h1.symm
  rw [Nat.add_assoc, hd] at h2
  have e' : (Addr.add ⟨b, off, none⟩ j) = ⟨b, off + j, none⟩ := by
    unfold Addr.add; split
    · rename_i h0; rw [h0]; rfl
    · rfl
  rw [e']
  exact h2
end Go.VBase
