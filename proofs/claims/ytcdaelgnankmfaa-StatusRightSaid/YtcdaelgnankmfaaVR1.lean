/- Bundled out of VFrmX VRightP. -/
import Derived.Test.YtcdaelgnankmfaaVFrmQ
import Derived.Test.YtcdaelgnankmfaaVZ2
/- Frames cut, or with bytes behind, or with bits turned: no program in sight. -/
namespace Go.Proofs.Ytcdaelgnankmfaa.VSta
open Go.RowKit Go.VBase Go.VCrc Go.VOct VOct VCst VCrc

/-- How long a frame is, by its first bytes. -/
def lenB (l : List UInt8) : Nat :=
  if numB (l.take 1) = 1 then 6 + numB ((l.drop 1).take 2) else if numB (l.take 1) = 2 then 12 else if numB (l.take 1) = 3 then 14 + numB ((l.drop 9).take 2) else 5
/-- How many bytes that hangs on. -/
def headB (l : List UInt8) : Nat := if numB (l.take 1) = 1 then 3 else if numB (l.take 1) = 3 then 11 else 1
theorem lenB_front {g : FrmD} (hc : chkF g = true) (t : List UInt8) (ht : t.length = 3) : (frontF g ++ t).length = lenB (frontF g ++ t) ∧ headB (frontF g ++ t) + 2 ≤ (frontF g ++ t).length := by
  obtain ⟨hk, hcb, hbl, _, _⟩ := chkF_facts hc
  have hlen := front_len hc
  have hL : (frontF g ++ t).length = longF g := by rw [List.length_append, ht, hlen]
  rw [hL]
  unfold longF
  rcases hk with e | e | e | e
  · rw [front1 e, if_pos e]
    have h1 : ((beB 1 1 ++ (beB 2 g.b.length ++ g.b)) ++ t).take 1 = beB 1 1 := by
      rw [List.append_assoc]; exact List.take_left' (beB_len 1 1)
    have h2 : (((beB 1 1 ++ (beB 2 g.b.length ++ g.b)) ++ t).drop 1).take 2 = beB 2 g.b.length := by
      rw [List.append_assoc, List.drop_left' (beB_len 1 1), List.append_assoc]; exact List.take_left' (beB_len 2 _)
    unfold lenB headB
    rw [h1, h2, numB_beB' 1 1 (by decide), numB_beB' 2 g.b.length (by have : g.b.length < 65536 := by omega
                                                                      simpa using this)]
    exact ⟨rfl, by simp; omega⟩
  · rw [front2 e, if_neg (by omega), if_pos e]
    have h1 : ((beB 1 2 ++ cstF g) ++ t).take 1 = beB 1 2 := by
      rw [List.append_assoc]; exact List.take_left' (beB_len 1 2)
    unfold lenB headB
    rw [h1, numB_beB' 1 2 (by decide)]
    exact ⟨rfl, by simp⟩
  · rw [front3 e, if_neg (by omega), if_neg (by omega), if_pos e]
    have h1 : ((beB 1 3 ++ (cstF g ++ (beB 2 g.b.length ++ g.b))) ++ t).take 1 = beB 1 3 := by
      rw [List.append_assoc]; exact List.take_left' (beB_len 1 3)
    have h2 : (((beB 1 3 ++ (cstF g ++ (beB 2 g.b.length ++ g.b))) ++ t).drop 9).take 2 = beB 2 g.b.length := by
      have e9 : ((beB 1 3 ++ (cstF g ++ (beB 2 g.b.length ++ g.b))) ++ t) = (beB 1 3 ++ cstF g) ++ (beB 2 g.b.length ++ (g.b ++ t)) := by simp [List.append_assoc]
      rw [e9, List.drop_left' (by rw [List.length_append, beB_len, cstF_len])]
      exact List.take_left' (beB_len 2 _)
    unfold lenB headB
    rw [h1, h2, numB_beB' 1 3 (by decide), numB_beB' 2 g.b.length (by have : g.b.length < 65536 := by omega
                                                                      simpa using this)]
    exact ⟨rfl, by simp; omega⟩
  · rw [front4 e, if_neg (by omega), if_neg (by omega), if_neg (by omega)]
    have h1 : ((beB 1 4 ++ beB 1 g.s.toNat) ++ t).take 1 = beB 1 4 := by
      rw [List.append_assoc]; exact List.take_left' (beB_len 1 4)
    unfold lenB headB
    rw [h1, numB_beB' 1 4 (by decide)]
    exact ⟨rfl, by simp⟩
theorem lenB_prefix {l : List UInt8} {n : Nat} (h : headB l ≤ n) (m : List UInt8) : lenB (l.take n ++ m) = lenB l ∨ l.length < n := by
  rcases Nat.lt_or_ge l.length n with h0 | h0
  · exact .inr h0
  left
  have hn1 : 1 ≤ n := by
    unfold headB at h
    split at h
    · omega
    · split at h <;> omega
  have hl : (l.take n).length = n := by rw [List.length_take]; omega
  have e1 : (l.take n ++ m).take 1 = l.take 1 := by
    rw [List.take_append_of_le_length (by omega), List.take_take, Nat.min_eq_left hn1]
  have e2 : ∀ i j, i + j ≤ n → ((l.take n ++ m).drop i).take j = (l.drop i).take j := fun i j hij => by
    rw [List.drop_append_of_le_length (by omega), List.take_append_of_le_length (by rw [List.length_drop]; omega), List.drop_take, List.take_take, Nat.min_eq_left (by omega)]
  unfold lenB
  unfold headB at h
  rw [e1]
  split
  · rename_i h1
    rw [if_pos h1] at h
    rw [e2 1 2 (by omega)]
  · rename_i h1
    rw [if_neg h1] at h
    split
    · rfl
    · split
      · rename_i h3
        rw [if_pos h3] at h
        rw [e2 9 2 (by omega)]
      · rfl
theorem dec_len {l : List UInt8} {g : FrmD} (h : decF l = some g) : l.length = lenB l ∧ headB l + 2 ≤ l.length := by
  obtain ⟨hc, _, _, _, ⟨t, ht, hl⟩, _⟩ := dec_back h
  rw [hl]
  exact lenB_front hc t ht
/-- Cut, it is no frame. -/
theorem cut_none {f : FrmD} (hc : chkF f = true) : decF ((frmBy f).take ((frmBy f).length - 1)) = none := by
  cases h : decF ((frmBy f).take ((frmBy f).length - 1)) with
  | none => rfl
  | some g =>
    exfalso
    obtain ⟨h1, h2⟩ := dec_len h
    obtain ⟨h3, h4⟩ := lenB_front hc (boundF (frontF f) (if f.k = 1 then cstF f else [])) (bound_len _ _)
    have e : frontF f ++ boundF (frontF f) (if f.k = 1 then cstF f else []) = frmBy f := rfl
    rw [e] at h3 h4
    have hp := lenB_prefix (l := frmBy f) (n := (frmBy f).length - 1) (by omega) []
    rw [List.append_nil] at hp
    rcases hp with hp | hp
    · rw [hp, ← h3, List.length_take] at h1; omega
    · omega
/-- With bytes behind, it is none. -/
theorem more_none {f : FrmD} (hc : chkF f = true) {m : List UInt8} (hm : m ≠ []) : decF (frmBy f ++ m) = none := by
  cases h : decF (frmBy f ++ m) with
  | none => rfl
  | some g =>
    exfalso
    obtain ⟨h1, h2⟩ := dec_len h
    obtain ⟨h3, h4⟩ := lenB_front hc (boundF (frontF f) (if f.k = 1 then cstF f else [])) (bound_len _ _)
    have e : frontF f ++ boundF (frontF f) (if f.k = 1 then cstF f else []) = frmBy f := rfl
    rw [e] at h3 h4
    have hp := lenB_prefix (l := frmBy f) (n := (frmBy f).length) (by omega) m
    rw [List.take_length] at hp
    have hml : 0 < m.length := List.length_pos_iff.2 hm
    rcases hp with hp | hp
    · rw [hp, ← h3, List.length_append] at h1; omega
    · omega
theorem fits_none {l : List UInt8} (h : decF l = none) (r s m v : Int) : fitsF l r s m v = false := by unfold fitsF; rw [h]
/-- With its last three bytes turned it fits just if they are not. -/
theorem fits_turned {f : FrmD} (hc : chkF f = true) (hv0 : 0 ≤ f.v) (hv : f.v < 65536) {t : List UInt8} (ht : t.length = 3) : fitsF (frontF f ++ t) f.r f.s f.m f.v = (!(f.k == 4) && (t == boundF (frontF f) (if f.k = 1 then cstF f else []))) := by
  obtain ⟨hk, hcb, -⟩ := chkF_facts hc
  have hform : formF (frontF f ++ t) = (noC f, true) := by
    rw [← front_noC]
    refine form_front (chk_noC hc) (fun h => ?_) ?_ ?_ ht
    · rw [noC_k] at h
      unfold noC
      rw [if_pos h]
      exact ⟨rfl, rfl, rfl, rfl⟩
    · unfold noC; split
      · exact Int.le_refl _
      · exact hv0
    · unfold noC; split
      · exact (by decide : (0 : Int) < 65536)
      · exact hv
  have hl : (frontF f ++ t).length - 3 = (frontF f).length := by rw [List.length_append, ht]; omega
  have et : (frontF f ++ t).take (frontF f).length = frontF f := List.take_left
  have ed : (frontF f ++ t).drop (frontF f).length = t := List.drop_left
  by_cases hk1 : f.k = 1
  · have hd : decF (frontF f ++ t) = some (noC f) := by
      unfold decF
      rw [hform]
      simp only [Bool.true_and, noC_k]
      have : (f.k == 1) = true := by simpa using hk1
      rw [this]; rfl
    have h4 : (f.k == 4) = false := by rw [hk1]; rfl
    unfold fitsF
    rw [hd]
    simp only [hcb, Bool.true_and, noC_k]
    rw [if_pos hk1, if_pos hk1, hl, et, ed, h4]
    unfold cstF
    rw [Bool.eq_iff_iff]
    simp only [beq_iff_eq, Bool.not_false, Bool.true_and]
    exact ⟨fun h => h.symm, fun h => h.symm⟩
  · rw [if_neg hk1]
    have hn : noC f = f := by unfold noC; rw [if_neg hk1]
    rw [hn] at hform
    have hk1b : (f.k == 1) = false := by simpa using hk1
    have hopen : (openB (frontF f ++ t)).isSome = (t == boundF (frontF f) []) := by
      unfold openB boundF
      rw [hl, et, ed, List.append_nil]
      by_cases hq : numB t = ofN (frontF f)
      · rw [if_pos ⟨by rw [List.length_append, ht]; omega, hq⟩, ← hq, beB_numB' t 3 ht]; simp
      · rw [if_neg (fun h => hq h.2)]
        have : ¬ (t = beB 3 (ofN (frontF f))) := fun h => hq (by rw [h, numB_beB' 3 _ (ofN_lt _)])
        simpa using this
    unfold fitsF decF
    rw [hform]
    simp only [Bool.true_and, hk1b, Bool.false_or, hopen]
    cases hb : (t == boundF (frontF f) []) with
    | false => simp
    | true =>
      simp only [if_true, hcb, Bool.true_and]
      rw [if_neg hk1]
      simp
end Go.Proofs.Ytcdaelgnankmfaa.VSta

/- A frame that was made for a place, heard there (plain). -/
namespace Go.Proofs.Ytcdaelgnankmfaa.VSta
open Go.RowKit Go.VBase Go.VRg Go.VSeq Go.VPlan VPlan Go.VOct VOct VCst Go.Proofs.Ytcdaelgnankmfaa.VCrc _root_.Go.VCrc VMsg

/-- Which kind is made for a place. -/
def kdF (p : PlanD) (r s : Int) (l : List UInt8) : Int := if fullP p r s then (if l = [] then 2 else 3) else 1
theorem kdF_cases (p : PlanD) (r s : Int) (l : List UInt8) : (kdF p r s l = 1 ∨ kdF p r s l = 2 ∨ kdF p r s l = 3) ∧ (kdF p r s l = 2 → l = []) ∧ rightS p r s (kdF p r s l) = true := by
  unfold kdF rightS
  cases hf : fullP p r s
  · simp [hf]
  · by_cases hl : l = []
    · simp [hf, hl]
    · simp [hf, hl]
theorem has_chk {p : PlanD} {r s : Int} (h : hasP p r s = true) : chkB r s 0 = true := by
  have hh := has_of h
  have a := hh.r0; have b := hh.r1; have c := hh.s0; have d := hh.s1; have e := hh.kn.n1
  unfold chkB inB
  simp only [Bool.and_eq_true, decide_eq_true_eq]
  omega
theorem made_chk {p : PlanD} {r s : Int} {k v : Int} {l : List UInt8} (h : hasP p r s = true) (hk : k = 1 ∨ k = 2 ∨ k = 3) (hl : l.length ≤ 100) : chkF (madeF k r s 0 v l) = true := by
  have hc := has_chk h
  unfold chkF madeF
  simp only
  rw [hc]
  rcases hk with rfl | rfl | rfl
  · have : hasB 1 1 = true := by decide
    simp [this]; omega
  · simp
  · have : hasB 3 1 = true := by decide
    simp [this]; omega
theorem made_b {k r s m v : Int} {l : List UInt8} (h : k = 2 → l = []) : (madeF k r s m v l).b = l := by
  unfold madeF
  simp only
  split
  · rename_i e; exact (h e).symm
  · rfl
theorem may_of {p : PlanD} {r s by' : Int} (h : hasP p r s = true) (h0 : -p.window - 1 ≤ by') (h1 : by' ≤ p.window + 1) : mayW (expP p r s + by') = true ∧ okW p r s (expP p r s + by') = true := by
  have hh := has_of h
  have e1 := hh.beg
  have e2 := hh.mid
  have a := hh.f0; have b := hh.f1; have c := hh.w0; have d := hh.w1
  have hm : mayW (expP p r s + by') = true := by
    unfold mayW expP senP
    simp only [Bool.and_eq_true, decide_eq_true_eq]
    omega
  exact ⟨hm, by unfold okW; rw [h, hm]; rfl⟩
theorem chk_two {p : PlanD} {r s a b : Int} (h : hasP p r s = true) : stChk p r s ([a, b].map (lookD r s)) = true := by
  have hc := has_chk h
  unfold stChk lookOk lookD
  simp [h, hc]
theorem chk_one {p : PlanD} {r s a : Int} (h : hasP p r s = true) : stChk p r s ([a].map (lookD r s)) = true := by
  have hc := has_chk h
  unfold stChk lookOk lookD
  simp [h, hc]
/-- Out of time, or no frame. -/
theorem heard_out {p : PlanD} {r s by' : Int} {vl : List Int} {raw : List UInt8} (hc : stChk p r s (vl.map (lookD r s)) = true) (h : hasP p r s = true) (h0 : -p.window - 1 ≤ by') (h1 : by' ≤ p.window + 1) (hr : raw.length ≠ 0)
    (hx : decF raw = none ∨ by' < -p.window ∨ p.window < by') : heardS p r s vl raw (expP p r s + by') = sta0 1 := by
  have hj : judS p r s (vl.map (lookD r s)) raw (expP p r s + by') = (sta0 1, 0) := by
    unfold judS
    rw [if_pos hc, if_neg hr, if_pos (may_of h h0 h1).2]
    by_cases hv : verW (expP p r s + by') (expP p r s - p.window) (expP p r s + p.window) = 2
    · rw [if_pos hv]
      rcases hx with hx | hx
      · rw [hx]
      · exfalso
        unfold verW at hv
        split at hv
        · cases hv
        · split at hv
          · cases hv
          · omega
    · rw [if_neg hv]
  unfold heardS
  rw [hj, if_pos rfl]
theorem heard_null {p : PlanD} {r s x : Int} {vl : List Int} (hc : stChk p r s (vl.map (lookD r s)) = true) : heardS p r s vl [] x = sta0 0 := by
  have hj : judS p r s (vl.map (lookD r s)) [] x = (sta0 0, 0) := by
    unfold judS
    rw [if_pos hc, if_pos (show ([] : List UInt8).length = 0 from rfl)]
  unfold heardS
  rw [hj, if_pos rfl]
/-- In time: what its looks say. -/
theorem heard_in {p : PlanD} {r s v by' : Int} {vl : List Int} {l : List UInt8} (hc : stChk p r s (vl.map (lookD r s)) = true) (h : hasP p r s = true) (hl : l.length ≤ 100) (hv0 : 0 ≤ v) (hv : v < 65536) (h0 : -p.window ≤ by') (h1 : by' ≤ p.window) :
    heardS p r s vl (frmBy (madeF (kdF p r s l) r s 0 v l)) (expP p r s + by') = lookS (frmBy (madeF (kdF p r s l) r s 0 v l)) (vl.map (lookD r s)) by' (noC (madeF (kdF p r s l) r s 0 v l)) := by
  obtain ⟨k1, k2, k3⟩ := kdF_cases p r s l
  have hchk := made_chk (v := v) h k1 hl
  have hdec := dec_enc hchk hv0 hv
  have hk : (noC (madeF (kdF p r s l) r s 0 v l)).k = kdF p r s l := by rw [noC_k]; rfl
  have hne : (frmBy (madeF (kdF p r s l) r s 0 v l)).length ≠ 0 := by
    unfold frmBy; rw [List.length_append, bound_len]; omega
  have hver : verW (expP p r s + by') (expP p r s - p.window) (expP p r s + p.window) = 2 := by
    unfold verW
    rw [if_neg (by omega), if_neg (by omega)]
  have hj : judS p r s (vl.map (lookD r s)) (frmBy (madeF (kdF p r s l) r s 0 v l)) (expP p r s + by') = (lookS (frmBy (madeF (kdF p r s l) r s 0 v l)) (vl.map (lookD r s)) by' (noC (madeF (kdF p r s l) r s 0 v l)), 0) := by
    unfold judS
    rw [if_pos hc, if_neg hne, if_pos (may_of h (by omega) (by omega)).2, if_pos hver, hdec]
    simp only
    rw [hk, if_pos k3, show expP p r s + by' - expP p r s = by' by omega]
  unfold heardS
  rw [hj, if_pos rfl]
theorem fit_made {p : PlanD} {r s v a : Int} {l : List UInt8} (h : hasP p r s = true) (hl : l.length ≤ 100) (hv0 : 0 ≤ v) (hv : v < 65536) (ha0 : 0 ≤ a) (ha : a < 65536) : fitsF (frmBy (madeF (kdF p r s l) r s 0 v l)) r s 0 a = (a == v) := by
  obtain ⟨k1, k2, k3⟩ := kdF_cases p r s l
  have hf := fits_self (made_chk (v := v) h k1 hl) hv0 hv a ha0 ha
  have hk4 : ((madeF (kdF p r s l) r s 0 v l).k == 4) = false := by
    rw [beq_eq_false_iff_ne]
    show kdF p r s l ≠ 4
    omega
  rw [hk4] at hf
  simpa [madeF] using hf
theorem look_two {p : PlanD} {r s v a b by' : Int} {l : List UInt8} (h : hasP p r s = true) (hl : l.length ≤ 100) (hv0 : 0 ≤ v) (hv : v < 65536) (ha0 : 0 ≤ a) (ha : a < 65536) (hb0 : 0 ≤ b) (hb : b < 65536) (g : FrmD) :
    lookS (frmBy (madeF (kdF p r s l) r s 0 v l)) ([a, b].map (lookD r s)) by' g = if v = a then ⟨3, 2, by', withL g (lookD r s a)⟩ else if v = b then ⟨3, 3, by', withL g (lookD r s b)⟩ else ⟨2, 1, by', frm0 0⟩ := by
  have f0 : fitL (frmBy (madeF (kdF p r s l) r s 0 v l)) ([a, b].map (lookD r s)) 0 = (a == v) := fit_made h hl hv0 hv ha0 ha
  have f1 : fitL (frmBy (madeF (kdF p r s l) r s 0 v l)) ([a, b].map (lookD r s)) 1 = (b == v) := fit_made h hl hv0 hv hb0 hb
  unfold lookS
  have hr : List.range ([a, b].map (lookD r s)).length = [0, 1] := rfl
  rw [hr]
  by_cases ea : v = a
  · rw [if_pos ea]
    have : (a == v) = true := by rw [ea]; simp
    rw [List.find?_cons_of_pos (by rw [f0]; exact this)]
    rfl
  · rw [if_neg ea]
    have h1 : (a == v) = false := beq_eq_false_iff_ne.2 (fun e => ea e.symm)
    rw [List.find?_cons_of_neg (by rw [f0, h1]; decide)]
    by_cases eb : v = b
    · rw [if_pos eb]
      have : (b == v) = true := by rw [eb]; simp
      rw [List.find?_cons_of_pos (by rw [f1]; exact this)]
      rfl
    · rw [if_neg eb]
      have h2 : (b == v) = false := beq_eq_false_iff_ne.2 (fun e => eb e.symm)
      rw [List.find?_cons_of_neg (by rw [f1, h2]; decide)]
      rfl
theorem look_one {p : PlanD} {r s v a by' : Int} {l : List UInt8} (h : hasP p r s = true) (hl : l.length ≤ 100) (hv0 : 0 ≤ v) (hv : v < 65536) (ha0 : 0 ≤ a) (ha : a < 65536) (g : FrmD) :
    lookS (frmBy (madeF (kdF p r s l) r s 0 v l)) ([a].map (lookD r s)) by' g = if v = a then ⟨3, 2, by', withL g (lookD r s a)⟩ else ⟨2, 1, by', frm0 0⟩ := by
  have f0 : fitL (frmBy (madeF (kdF p r s l) r s 0 v l)) ([a].map (lookD r s)) 0 = (a == v) := fit_made h hl hv0 hv ha0 ha
  unfold lookS
  have hr : List.range ([a].map (lookD r s)).length = [0] := rfl
  rw [hr]
  by_cases ea : v = a
  · rw [if_pos ea]
    have : (a == v) = true := by rw [ea]; simp
    rw [List.find?_cons_of_pos (by rw [f0]; exact this)]
    rfl
  · rw [if_neg ea]
    have h1 : (a == v) = false := beq_eq_false_iff_ne.2 (fun e => ea e.symm)
    rw [List.find?_cons_of_neg (by rw [f0, h1]; decide)]
    rfl
end Go.Proofs.Ytcdaelgnankmfaa.VSta
