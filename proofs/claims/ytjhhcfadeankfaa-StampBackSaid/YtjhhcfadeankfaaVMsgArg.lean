/- Messages that a law is handed, read. -/
import Derived.Test.YtjhhcfadeankfaaVStmMap
import Derived.Test.YtjhhcfadeankfaaVArg
import Derived.Deep.Slices
import Derived.Deep.Fields
import Derived.ChangeSame
import Derived.OpenShut
import Derived.SizedLaws
namespace Go.Proofs.Ytjhhcfadeankfaa.VMsg
open Go.RowKit Go.VBase Go.ChangeShapes Go.WideShapes Go.Deep VArg

theorem list_of_all {α : Type} {Q : Nat → α → Prop} : ∀ n, (∀ i, i < n → ∃ o, Q i o) → ∃ l : List α, l.length = n ∧ ∀ i o, l[i]? = some o → Q i o
  | 0, _ => ⟨[], rfl, fun i o h => by simp at h⟩
  | n + 1, h => by
    obtain ⟨l, hl, hq⟩ := list_of_all n (fun i hi => h i (by omega))
    obtain ⟨o, ho⟩ := h n (by omega)
    refine ⟨l ++ [o], by simp [hl], fun i x hx => ?_⟩
    rcases Nat.lt_or_ge i l.length with h1 | h1
    · rw [List.getElem?_append_left h1] at hx; exact hq i x hx
    · rw [List.getElem?_append_right h1] at hx
      have : i - l.length = 0 := by
        rcases Nat.eq_zero_or_pos (i - l.length) with h2 | h2
        · exact h2
        · rw [List.getElem?_eq_none (by simp; omega)] at hx; cases hx
      rw [this] at hx
      simp at hx; subst hx
      have : i = n := by omega
      subst this; exact ho

theorem weights_all {H : Type} {P : Program} {e : TypeId} {d : DataW H} : ∀ {l : List (DataW H)}, d ∈ l → ∀ n ∈ d.weights P e, n ∈ DataW.weightsAll P e l
  | [], h => by cases h
  | x :: l, h => by
    intro n hn
    simp only [DataW.weightsAll, List.mem_append]
    rcases List.mem_cons.1 h with rfl | h
    · exact .inl hn
    · exact .inr (weights_all h n hn)

theorem add_cell {w : World} {b off k : Nat} {v : Value} (h : w.cell? (Addr.add ⟨b, off, none⟩ k) = some v) : w.cell? ⟨b, off + k, none⟩ = some v := by
  unfold Addr.add at h
  split at h
  · rename_i h0; subst h0; exact h
  · exact h

set_option maxRecDepth 100000 in
set_option maxHeartbeats 1000000 in
theorem msgs_of_trod {H : Type} {enc : TypeId × Value → H} {w : World} {a : Option Addr} {len cap : Nat} {d : DataW H} {p : List MemPlace} (h : DataW.Trod enc Try.prog w 0 (fun _ => true) true 25 (.slice a len cap) d p) (hw : ∀ n ∈ d.weights Try.prog 25, n ≤ reachBytes) :
    ∃ l : List (MsgD × Sl3), l.length = len ∧ MsgsE w (.slice a len cap) l ∧ ∀ x ∈ l, Wfm x.1 := by
  obtain ⟨fuel, hf⟩ := h
  have hf : DataW.trod enc Try.prog w 0 (fun _ => true) true fuel 25 [.slice a len cap] = some (d, p) := hf
  rcases open_slice Try.underlying25 hf with ⟨h0, _⟩ | ⟨x, len', cap', m, n, D, Pl, hcs, _, hl, hm, hmm, hd, hi⟩
  · simp at h0; obtain ⟨rfl, rfl, rfl⟩ := h0
    exact ⟨[], rfl, ⟨none, 0, rfl, by simp, by simp [maxLen], fun i o h => by simp at h⟩, fun x hx => by cases hx⟩
  · simp at hcs; obtain ⟨rfl, rfl, rfl⟩ := hcs
    have hC : Try.prog.cellsOf 24 = 4 := by kernel_rfl
    have hml : len ≤ m := by rw [hmm]; split <;> omega
    have key : ∀ i, i < len → ∃ o : MsgD × Sl3, Wfm o.1 ∧ ∃ b off, some x = some ⟨b, off, none⟩ ∧ MsgAt w b (off + i * 4) o := by
      intro i hil
      obtain ⟨cs, hc, ht⟩ := hi i (by omega)
      rw [hC] at hc
      obtain ⟨ys, n', _, hDi, hcl, hyl, hf'⟩ := DataW.trod_struct Try.underlying24 ht
      rw [hC] at hcl
      obtain ⟨_, _, hat⟩ := World.cells?_some hc
      have hxs : x = ⟨x.block, x.off, none⟩ := by
        obtain ⟨cs0, hc0, _⟩ := hi 0 (by omega)
        rw [hC] at hc0
        obtain ⟨_, hl0, hat0⟩ := World.cells?_some hc0
        have h0 := hat0 0 (by omega)
        have e0 : cs0[0]? = some (cs0[0]'(by omega)) := List.getElem?_eq_getElem _
        rw [e0] at h0
        have h1 : w.cell? x = some (cs0[0]'(by omega)) := by simpa [Addr.add] using h0
        have := World.cell?_spot h1
        obtain ⟨b, off, spot⟩ := x
        simp at this; subst this; rfl
      obtain ⟨b, off, spot⟩ := x
      simp only [Addr.mk.injEq, true_and] at hxs
      subst hxs
      match cs, hcl with
      | [c0, c1, c2, c3], _ =>
        have k3 : Try.prog.cellsOf 3 = 1 := by kernel_rfl
        have k31 : Try.prog.cellsOf 2 = 1 := by kernel_rfl
        have k24 : Try.prog.cellsOf 22 = 1 := by kernel_rfl
        have g0 : DataW.trod enc Try.prog w 0 (fun _ => true) true n' 2 (([c0, c1, c2, c3].drop 0).take (Try.prog.cellsOf 2)) = ys[0]? := hf' 0 _ rfl
        have g1 : DataW.trod enc Try.prog w 0 (fun _ => true) true n' 3 (([c0, c1, c2, c3].drop 1).take (Try.prog.cellsOf 3)) = ys[1]? := hf' 1 _ rfl
        have g2 : DataW.trod enc Try.prog w 0 (fun _ => true) true n' 3 (([c0, c1, c2, c3].drop 2).take (Try.prog.cellsOf 3)) = ys[2]? := hf' 2 _ rfl
        have g3 : DataW.trod enc Try.prog w 0 (fun _ => true) true n' 22 (([c0, c1, c2, c3].drop 3).take (Try.prog.cellsOf 22)) = ys[3]? := hf' 3 _ rfl
        simp only [k3, k31, k24, List.drop_zero, List.drop_succ_cons, List.take_succ_cons, List.take_zero] at g0 g1 g2 g3
        have hsz : ys.length = 4 := hyl
        have y0 : ys[0]? = some (ys[0]'(by omega)) := List.getElem?_eq_getElem _
        have y1 : ys[1]? = some (ys[1]'(by omega)) := List.getElem?_eq_getElem _
        have y2 : ys[2]? = some (ys[2]'(by omega)) := List.getElem?_eq_getElem _
        have y3 : ys[3]? = some (ys[3]'(by omega)) := List.getElem?_eq_getElem _
        rw [y0] at g0; rw [y1] at g1; rw [y2] at g2; rw [y3] at g3
        obtain ⟨z0, e0, _, w0⟩ := DataW.trod_int Try.underlying2 g0
        obtain ⟨z1, e1, _, w1⟩ := DataW.trod_int Try.underlying3 g1
        obtain ⟨z2, e2, _, w2⟩ := DataW.trod_int Try.underlying3 g2
        simp at e0 e1 e2
        subst e0 e1 e2
        have hwi : ∀ n ∈ (ys[3]'(by omega)).1.weights Try.prog 22, n ≤ reachBytes := by
          intro q hq
          apply hw
          simp only [Prod.mk.injEq] at hd hDi
          rw [hd.1]
          simp only [DataW.weights, Try.underlying25, List.mem_cons, List.mem_append]
          right; left
          refine weights_all (d := D i) (List.mem_map.2 ⟨i, List.mem_range.2 hil, rfl⟩) q ?_
          rw [hDi.1]
          simp only [DataW.weights, Try.underlying24]
          exact DataW.weights_mem_each (j := 3) (t := 22) (d := (ys[3]'(by omega)).1) rfl (by rw [List.getElem?_map, y3]; rfl) q hq
        obtain ⟨l, hb, hbl⟩ := bys_of_trod g3 hwi
        obtain ⟨sa, sc, hsv⟩ : ∃ a c, c3 = .slice a l.length c := by obtain ⟨a, c, h1, _⟩ := hb; exact ⟨a, c, h1⟩
        subst hsv
        have d : ∀ j c, j < 4 → [Value.int .i64 z0, .int .i64 z1, .int .i64 z2, .slice sa l.length sc][j]? = some c → w.cell? ⟨b, off + i * 4 + j, none⟩ = some c := fun j c hj hc => by
          have h1 := hat j hj
          rw [hc] at h1
          have e : (Addr.add ⟨b, off, none⟩ (i * 4)) = ⟨b, off + i * 4, none⟩ := by
            unfold Addr.add; split
            · rename_i h0; have : i = 0 := by omega
              subst this; rfl
            · rfl
          rw [e] at h1
          exact add_cell h1
        exact ⟨(⟨z0, z1, z2, l⟩, (sa, l.length, sc)), ⟨w0, w1, w2⟩, b, off, rfl, d 0 _ (by decide) rfl, d 1 _ (by decide) rfl, d 2 _ (by decide) rfl, d 3 _ (by decide) rfl, hb⟩
    obtain ⟨l, hl', hq⟩ := list_of_all len key
    refine ⟨l, hl', ⟨some x, cap, by rw [hl'], by omega, hm, fun i o ho => (hq i o ho).2⟩, fun y hy => ?_⟩
    obtain ⟨i, hi⟩ := List.getElem?_of_mem hy
    exact (hq i y hi).1
end Go.Proofs.Ytjhhcfadeankfaa.VMsg
