/- Frames cut, or with bytes behind, or with bits turned: no program in sight. -/
import Derived.Test.YtfjjgceagpcfkaaVFrmQ
namespace Go.Proofs.Ytfjjgceagpcfkaa.VSta
open Go.RowKit Go.VBase Go.VCrc Go.VOct VOct VCst VCrc

/-- How long a frame is, by its first bytes. -/
def lenB (l : List UInt8) : Nat :=
  if numB (l.take 1) = 1 then 6 + numB ((l.drop 1).take 2) else if numB (l.take 1) = 2 then 12 else if numB (l.take 1) = 3 then 14 + numB ((l.drop 9).take 2) else 5
/-- How many bytes that hangs on. -/
def headB (l : List UInt8) : Nat := if numB (l.take 1) = 1 then 3 else if numB (l.take 1) = 3 then 11 else 1
theorem lenB_front {g : FrmD} (hc : chkF g = true) (t : List UInt8) (ht : t.length = 3) : (frontF g ++ t).length = lenB (frontF g ++ t) ∧ headB (frontF g ++ t) + 2 ≤ (frontF g ++ t).length := by
  obtain ⟨hk, hcb, hbl, _, _⟩ := chkF_facts hc
  have hlen := front_len hc
  have hL : (frontF g ++ t).length = longF g := by rw [List.length_append, ht, hlen]
  rw [hL]
  unfold longF
  rcases hk with e | e | e | e
  · rw [front1 e, if_pos e]
    have h1 : ((beB 1 1 ++ (beB 2 g.b.length ++ g.b)) ++ t).take 1 = beB 1 1 := by
      rw [List.append_assoc]; exact List.take_left' (beB_len 1 1)
    have h2 : (((beB 1 1 ++ (beB 2 g.b.length ++ g.b)) ++ t).drop 1).take 2 = beB 2 g.b.length := by
      rw [List.append_assoc, List.drop_left' (beB_len 1 1), List.append_assoc]; exact List.take_left' (beB_len 2 _)
    unfold lenB headB
    rw [h1, h2, numB_beB' 1 1 (by decide), numB_beB' 2 g.b.length (by have : g.b.length < 65536 := by omega
                                                                      simpa using this)]
    exact ⟨rfl, by simp; omega⟩
  · rw [front2 e, if_neg (by omega), if_pos e]
    have h1 : ((beB 1 2 ++ cstF g) ++ t).take 1 = beB 1 2 := by
      rw [List.append_assoc]; exact List.take_left' (beB_len 1 2)
    unfold lenB headB
    rw [h1, numB_beB' 1 2 (by decide)]
    exact ⟨rfl, by simp⟩
  · rw [front3 e, if_neg (by omega), if_neg (by omega), if_pos e]
    have h1 : ((beB 1 3 ++ (cstF g ++ (beB 2 g.b.length ++ g.b))) ++ t).take 1 = beB 1 3 := by
      rw [List.append_assoc]; exact List.take_left' (beB_len 1 3)
    have h2 : (((beB 1 3 ++ (cstF g ++ (beB 2 g.b.length ++ g.b))) ++ t).drop 9).take 2 = beB 2 g.b.length := by
      have e9 : ((beB 1 3 ++ (cstF g ++ (beB 2 g.b.length ++ g.b))) ++ t) = (beB 1 3 ++ cstF g) ++ (beB 2 g.b.length ++ (g.b ++ t)) := by simp [List.append_assoc]
      rw [e9, List.drop_left' (by rw [List.length_append, beB_len, cstF_len])]
      exact List.take_left' (beB_len 2 _)
    unfold lenB headB
    rw [h1, h2, numB_beB' 1 3 (by decide), numB_beB' 2 g.b.length (by have : g.b.length < 65536 := by omega
                                                                      simpa using this)]
    exact ⟨rfl, by simp; omega⟩
  · rw [front4 e, if_neg (by omega), if_neg (by omega), if_neg (by omega)]
    have h1 : ((beB 1 4 ++ beB 1 g.s.toNat) ++ t).take 1 = beB 1 4 := by
      rw [List.append_assoc]; exact List.take_left' (beB_len 1 4)
    unfold lenB headB
    rw [h1, numB_beB' 1 4 (by decide)]
    exact ⟨rfl, by simp⟩
theorem lenB_prefix {l : List UInt8} {n : Nat} (h : headB l ≤ n) (m : List UInt8) : lenB (l.take n ++ m) = lenB l ∨ l.length < n := by
  rcases Nat.lt_or_ge l.length n with h0 | h0
  · exact .inr h0
  left
  have hn1 : 1 ≤ n := by
    unfold headB at h
    split at h
    · omega
    · split at h <;> omega
  have hl : (l.take n).length = n := by rw [List.length_take]; omega
  have e1 : (l.take n ++ m).take 1 = l.take 1 := by
    rw [List.take_append_of_le_length (by omega), List.take_take, Nat.min_eq_left hn1]
  have e2 : ∀ i j, i + j ≤ n → ((l.take n ++ m).drop i).take j = (l.drop i).take j := fun i j hij => by
    rw [List.drop_append_of_le_length (by omega), List.take_append_of_le_length (by rw [List.length_drop]; omega), List.drop_take, List.take_take, Nat.min_eq_left (by omega)]
  unfold lenB
  unfold headB at h
  rw [e1]
  split
  · rename_i h1
    rw [if_pos h1] at h
    rw [e2 1 2 (by omega)]
  · rename_i h1
    rw [if_neg h1] at h
    split
    · rfl
    · split
      · rename_i h3
        rw [if_pos h3] at h
        rw [e2 9 2 (by omega)]
      · rfl
theorem dec_len {l : List UInt8} {g : FrmD} (h : decF l = some g) : l.length = lenB l ∧ headB l + 2 ≤ l.length := by
  obtain ⟨hc, _, _, _, ⟨t, ht, hl⟩, _⟩ := dec_back h
  rw [hl]
  exact lenB_front hc t ht
/-- Cut, it is no frame. -/
theorem cut_none {f : FrmD} (hc : chkF f = true) : decF ((frmBy f).take ((frmBy f).length - 1)) = none := by
  cases h : decF ((frmBy f).take ((frmBy f).length - 1)) with
  | none => rfl
  | some g =>
    exfalso
    obtain ⟨h1, h2⟩ := dec_len h
    obtain ⟨h3, h4⟩ := lenB_front hc (boundF (frontF f) (if f.k = 1 then cstF f else [])) (bound_len _ _)
    have e : frontF f ++ boundF (frontF f) (if f.k = 1 then cstF f else []) = frmBy f := rfl
    rw [e] at h3 h4
    have hp := lenB_prefix (l := frmBy f) (n := (frmBy f).length - 1) (by omega) []
    rw [List.append_nil] at hp
    rcases hp with hp | hp
    · rw [hp, ← h3, List.length_take] at h1; omega
    · omega
/-- With bytes behind, it is none. -/
theorem more_none {f : FrmD} (hc : chkF f = true) {m : List UInt8} (hm : m ≠ []) : decF (frmBy f ++ m) = none := by
  cases h : decF (frmBy f ++ m) with
  | none => rfl
  | some g =>
    exfalso
    obtain ⟨h1, h2⟩ := dec_len h
    obtain ⟨h3, h4⟩ := lenB_front hc (boundF (frontF f) (if f.k = 1 then cstF f else [])) (bound_len _ _)
    have e : frontF f ++ boundF (frontF f) (if f.k = 1 then cstF f else []) = frmBy f := rfl
    rw [e] at h3 h4
    have hp := lenB_prefix (l := frmBy f) (n := (frmBy f).length) (by omega) m
    rw [List.take_length] at hp
    have hml : 0 < m.length := List.length_pos_iff.2 hm
    rcases hp with hp | hp
    · rw [hp, ← h3, List.length_append] at h1; omega
    · omega
theorem fits_none {l : List UInt8} (h : decF l = none) (r s m v : Int) : fitsF l r s m v = false := by unfold fitsF; rw [h]
/-- With its last three bytes turned it fits just if they are not. -/
theorem fits_turned {f : FrmD} (hc : chkF f = true) (hv0 : 0 ≤ f.v) (hv : f.v < 65536) {t : List UInt8} (ht : t.length = 3) : fitsF (frontF f ++ t) f.r f.s f.m f.v = (!(f.k == 4) && (t == boundF (frontF f) (if f.k = 1 then cstF f else []))) := by
  obtain ⟨hk, hcb, -⟩ := chkF_facts hc
  have hform : formF (frontF f ++ t) = (noC f, true) := by
    rw [← front_noC]
    refine form_front (chk_noC hc) (fun h => ?_) ?_ ?_ ht
    · rw [noC_k] at h
      unfold noC
      rw [if_pos h]
      exact ⟨rfl, rfl, rfl, rfl⟩
    · unfold noC; split
      · exact Int.le_refl _
      · exact hv0
    · unfold noC; split
      · exact (by decide : (0 : Int) < 65536)
      · exact hv
  have hl : (frontF f ++ t).length - 3 = (frontF f).length := by rw [List.length_append, ht]; omega
  have et : (frontF f ++ t).take (frontF f).length = frontF f := List.take_left
  have ed : (frontF f ++ t).drop (frontF f).length = t := List.drop_left
  by_cases hk1 : f.k = 1
  · have hd : decF (frontF f ++ t) = some (noC f) := by
      unfold decF
      rw [hform]
      simp only [Bool.true_and, noC_k]
      have : (f.k == 1) = true := by simpa using hk1
      rw [this]; rfl
    have h4 : (f.k == 4) = false := by rw [hk1]; rfl
    unfold fitsF
    rw [hd]
    simp only [hcb, Bool.true_and, noC_k]
    rw [if_pos hk1, if_pos hk1, hl, et, ed, h4]
    unfold cstF
    rw [Bool.eq_iff_iff]
    simp only [beq_iff_eq, Bool.not_false, Bool.true_and]
    exact ⟨fun h => h.symm, fun h => h.symm⟩
  · rw [if_neg hk1]
    have hn : noC f = f := by unfold noC; rw [if_neg hk1]
    rw [hn] at hform
    have hk1b : (f.k == 1) = false := by simpa using hk1
    have hopen : (openB (frontF f ++ t)).isSome = (t == boundF (frontF f) []) := by
      unfold openB boundF
      rw [hl, et, ed, List.append_nil]
      by_cases hq : numB t = ofN (frontF f)
      · rw [if_pos ⟨by rw [List.length_append, ht]; omega, hq⟩, ← hq, beB_numB' t 3 ht]; simp
      · rw [if_neg (fun h => hq h.2)]
        have : ¬ (t = beB 3 (ofN (frontF f))) := fun h => hq (by rw [h, numB_beB' 3 _ (ofN_lt _)])
        simpa using this
    unfold fitsF decF
    rw [hform]
    simp only [Bool.true_and, hk1b, Bool.false_or, hopen]
    cases hb : (t == boundF (frontF f) []) with
    | false => simp
    | true =>
      simp only [if_true, hcb, Bool.true_and]
      rw [if_neg hk1]
      simp
end Go.Proofs.Ytfjjgceagpcfkaa.VSta
