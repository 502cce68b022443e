/- great: are calls more than the laws go through? -/
import Derived.Test.YtolmcdimhnnpaaaVOps
import Derived.Outline
namespace Go.Proofs.Ytolmcdimhnnpaaa.VOct
open Go.RowKit Go.VBase

def total (l : List OpD) : Nat := (l.map fun o => o.b.length).sum
theorem total_take {l : List OpD} {j : Nat} {o : OpD} (h : l[j]? = some o) : total (l.take (j + 1)) = total (l.take j) + o.b.length := by
  rw [take_snoc h]; unfold total; simp

def GreatPost (l : List OpD) (w : World) (e : Ending) (w' : World) : Prop := w = w' ∧ ∃ b, e = .returned (.bool b) ∧ (b = false → l.length ≤ 100 ∧ total l ≤ 20000)

set_option maxHeartbeats 1000000 in
theorem great_calls (v : Value) (l : List OpD) (w : World) (hv : OpsR w v l) :
    Calls Try.prog 9 #[v] w (GreatPost l w) := by
  obtain ⟨a, cap, rfl, hcap, hcm, hop⟩ := hv
  by_cases h100 : l.length ≤ 100
  · go_enter Try.func9, Try.ntmps9
    go_wp2_with fail
    go_loop [3, 4, 7] (fun s _ i => ∃ (j n : Nat), j ≤ l.length ∧ i = .int .i64 (j : Int) ∧ s = .int .i64 (n : Int) ∧ n = total (l.take j) ∧ n ≤ j * 140737488351232) (fun _ _ i => l.length - (intOf i).toNat)
    case atStart => exact ⟨0, 0, Nat.zero_le _, rfl, rfl, by simp [total], by omega⟩
    case round =>
      obtain ⟨j, n, hj, rfl, rfl, hn, hnb⟩ := hrel
      by_cases hlt : j < l.length
      · obtain ⟨o, ho⟩ : ∃ o, l[j]? = some o := ⟨_, List.getElem?_eq_getElem hlt⟩
        obtain ⟨_, _, _, hbl, b, off, u, rfl, _, _, _, hc3, hu⟩ := hop j o ho
        obtain ⟨a', cap', rfl, _⟩ := hu
        have hjw : (j : Int) < (l.length : Int) := by omega
        have ht := total_take ho
        have hbl' : o.b.length ≤ 140737488351232 := hbl
        have HT := Lib.hid ht
        have HN := Lib.hid hn
        clear ho ht hn hop
        go_wp2_with fail
        go_round
        · exact ⟨j + 1, n + o.b.length, by omega, by go_num, by go_num, by rw [HT.out, HN.out], by omega⟩
        · simp [intOf]; omega
      · have hjl : j = l.length := by omega
        subst hjl
        rw [List.take_length] at hn
        have HN := Lib.hid hn
        clear hn hop
        go_wp2_with fail
        all_goals go_ret
        all_goals
          refine ⟨rfl, _, rfl, fun hb => ⟨h100, ?_⟩⟩
          have := HN.out
          simp at hb
          omega
  · have hl : (100 : Int) < (l.length : Int) := by omega
    have hlm : l.length ≤ maxLen := Nat.le_trans hcap hcm
    unfold maxLen at hlm
    go_enter Try.func9, Try.ntmps9
    go_wp2_with fail
    go_loop [3, 4, 7] (fun s _ i => ∃ (j : Nat) (n : Int), j ≤ l.length ∧ i = .int .i64 (j : Int) ∧ s = .int .i64 n) (fun _ _ i => l.length - (intOf i).toNat)
    case atStart => exact ⟨0, 0, Nat.zero_le _, rfl, rfl⟩
    case round =>
      obtain ⟨j, n, hj, rfl, rfl⟩ := hrel
      by_cases hlt : j < l.length
      · obtain ⟨o, ho⟩ : ∃ o, l[j]? = some o := ⟨_, List.getElem?_eq_getElem hlt⟩
        obtain ⟨_, _, _, hbl, b, off, u, rfl, _, _, _, hc3, hu⟩ := hop j o ho
        obtain ⟨a', cap', rfl, _⟩ := hu
        have hjw : (j : Int) < (l.length : Int) := by omega
        clear ho hop
        go_wp2_with fail
        go_round
        · exact ⟨j + 1, _, by omega, by go_num, rfl⟩
        · simp [intOf]; omega
      · have hjl : j = l.length := by omega
        subst hjl
        clear hop
        go_wp2_with fail
        go_ret
        exact ⟨rfl, true, rfl, fun hb => by cases hb⟩
end Go.Proofs.Ytolmcdimhnnpaaa.VOct
