/- Slices of integers that a law is handed. -/
import Derived.Test.YtolmcdimhnnpaaaVBase
namespace Go.VBase
open Go.RowKit

/-- A slice reads as these numbers. -/
def Nats (k : IntKind) (w : World) (v : Value) (l : List Nat) : Prop :=
  ∃ a cap, v = .slice a l.length cap ∧ l.length ≤ cap ∧ cap ≤ maxLen ∧ (∀ n ∈ l, (Lit.int k (n : Int)).wf = true) ∧
    (l ≠ [] → ∃ b off, a = some ⟨b, off, none⟩ ∧ ∀ (i : Nat) (c : Nat), l[i]? = some c → w.cell? ⟨b, off + i, none⟩ = some (.int k (c : Int)))
theorem Nats.ext {k : IntKind} {w w' : World} {v : Value} {l : List Nat} (h : Nats k w v l) (x : Ext w w') : Nats k w' v l := by
  obtain ⟨a, cap, h1, h2, h3, h4, h5⟩ := h
  exact ⟨a, cap, h1, h2, h3, h4, fun hl => let ⟨b, off, e, h6⟩ := h5 hl; ⟨b, off, e, fun i c hi => x.cell (h6 i c hi)⟩⟩
theorem nats_of_row {k : IntKind} (hk : ∀ n : Int, (Lit.int k n).wf = true → 0 ≤ n) {w : World} {a : Option Addr} {len cap : Nat} {zs : List Int}
    (h : (a = none ∧ len = 0 ∧ cap = 0 ∧ zs = []) ∨ ∃ x, a = some x ∧ len ≤ cap ∧ cap ≤ maxLen ∧ zs.length = cap ∧ (∀ i, i < zs.length → w.cell? (x.add i) = some (.int k (zs.getD i 0))) ∧ ∀ n ∈ zs, (Lit.int k n).wf = true) :
    ∃ l : List Nat, l.length = len ∧ Nats k w (.slice a len cap) l := by
  rcases h with ⟨rfl, rfl, rfl, rfl⟩ | ⟨x, rfl, h1, h2, h3, h4, h5⟩
  · exact ⟨[], rfl, none, 0, rfl, by simp, by simp [maxLen], by simp, fun h => absurd rfl h⟩
  · have hlen : ((zs.take len).map Int.toNat).length = len := by rw [List.length_map, List.length_take]; omega
    refine ⟨(zs.take len).map Int.toNat, hlen, some x, cap, by rw [hlen], by omega, h2, ?_, fun hne => ?_⟩
    · intro n hn
      obtain ⟨z, hz, rfl⟩ := List.mem_map.1 hn
      have hm := List.mem_of_mem_take hz
      have := hk z (h5 z hm)
      rw [Int.toNat_of_nonneg this]; exact h5 z hm
    have hpos : 0 < len := by
      rcases Nat.eq_zero_or_pos len with h0 | h0
      · exact absurd (List.length_eq_zero_iff.1 (hlen.trans h0)) hne
      · exact h0
    have hc0 := h4 0 (by omega)
    obtain ⟨b, off, spot⟩ := x
    have hspot : spot = none := by simpa [Addr.add] using World.cell?_spot hc0
    subst hspot
    refine ⟨b, off, rfl, fun i c hi => ?_⟩
    rw [List.getElem?_map, List.getElem?_take] at hi
    split at hi
    · rename_i hlt
      have h6 := h4 i (by omega)
      have e : (Addr.add ⟨b, off, none⟩ i) = ⟨b, off + i, none⟩ := by
        unfold Addr.add; split
        · rename_i h0; subst h0; rfl
        · rfl
      rw [e] at h6
      rw [h6]
      have hz : zs[i]? = some zs[i] := List.getElem?_eq_getElem (by omega)
      rw [hz] at hi
      simp only [Option.map_some, Option.some.injEq] at hi
      subst hi
      have := hk zs[i] (h5 _ (List.getElem_mem _))
      rw [List.getD_eq_getElem?_getD, hz]
      simp [Int.toNat_of_nonneg this]
    · simp at hi
theorem u32_nonneg (n : Int) (h : (Lit.int .u32 n).wf = true) : 0 ≤ n := by
  simp [Lit.wf, IntKind.min, IntKind.max, IntKind.bits, IntKind.signed] at h; omega
end Go.VBase
