/- Frames as bytes: what is read of a frame's bytes, and of any. No program in sight. -/
import Derived.Test.YtcdaelgnankmfaaVFrmD
import Derived.Test.YtcdaelgnankmfaaVCrcBurst
namespace Go.Proofs.Ytcdaelgnankmfaa.VSta
open Go.RowKit Go.VBase Go.VCrc Go.VOct VOct VCst VCrc

def noC (f : FrmD) : FrmD := if f.k = 1 then { f with r := 0, s := 0, m := 0, v := 0 } else f
theorem noC_k (f : FrmD) : (noC f).k = f.k := by unfold noC; split <;> rfl
theorem noC_b (f : FrmD) : (noC f).b = f.b := by unfold noC; split <;> rfl
theorem chk_noC {f : FrmD} (hc : chkF f = true) : chkF (noC f) = true := by
  unfold noC
  split
  · rename_i h1
    obtain ⟨_, _, hb, _, _⟩ := chkF_facts hc
    unfold chkF
    simp only [h1]
    have h3 : decide (f.b.length ≤ 1024) = true := decide_eq_true hb
    rw [h3]
    have h4 : hasB 1 1 = true := by decide
    have h5 : chkB 0 0 0 = true := by decide
    rw [h4, h5]
    simp
  · exact hc
theorem front_noC {f : FrmD} : frontF (noC f) = frontF f := by
  unfold noC
  split
  · rename_i h1
    rw [front1 h1, front1 (f := { f with r := 0, s := 0, m := 0, v := 0 }) h1]
  · rfl
theorem bound_len (l c : List UInt8) : (boundF l c).length = 3 := by unfold boundF; rw [beB_len]
theorem frmBy_seal {f : FrmD} (h : f.k ≠ 1) : frmBy f = sealB (frontF f) := by
  unfold frmBy sealB boundF
  rw [if_neg h, List.append_nil]
theorem dec_enc {f : FrmD} (hc : chkF f = true) (hv0 : 0 ≤ f.v) (hv : f.v < 65536) : decF (frmBy f) = some (noC f) := by
  have hform : formF (frmBy f) = (noC f, true) := by
    unfold frmBy
    rw [← front_noC]
    refine form_front (chk_noC hc) (fun h => ?_) ?_ ?_ (bound_len _ _)
    · rw [noC_k] at h
      unfold noC
      rw [if_pos h]
      exact ⟨rfl, rfl, rfl, rfl⟩
    · unfold noC; split
      · exact Int.le_refl _
      · exact hv0
    · unfold noC; split
      · exact (by decide : (0 : Int) < 65536)
      · exact hv
  unfold decF
  rw [hform]
  simp only [Bool.true_and, noC_k]
  by_cases h1 : f.k = 1
  · have : (f.k == 1) = true := by simpa using h1
    rw [this]; rfl
  · rw [frmBy_seal h1, openB_seal]; simp
theorem dec_back {l : List UInt8} {g : FrmD} (h : decF l = some g) : chkF g = true ∧ 0 ≤ g.v ∧ g.v < 65536 ∧ (g.k = 1 → g.r = 0 ∧ g.s = 0 ∧ g.m = 0 ∧ g.v = 0) ∧ (∃ t, t.length = 3 ∧ l = frontF g ++ t) ∧ (g.k ≠ 1 → l = frmBy g) := by
  unfold decF at h
  split at h
  · rename_i hcond
    simp only [Option.some.injEq] at h
    simp only [Bool.and_eq_true] at hcond
    obtain ⟨h1, h2⟩ := hcond
    have hf : formF l = (g, true) := by rw [← h, ← h1]
    obtain ⟨a1, a2, a3, a4, t, ht, hl⟩ := form_back hf
    refine ⟨a1, a3, a4, a2, ⟨t, ht, hl⟩, fun hk => ?_⟩
    rw [h] at h2
    have hk1 : (g.k == 1) = false := by simpa using hk
    rw [hk1, Bool.false_or] at h2
    unfold openB at h2
    split at h2
    · rename_i hn
      have hlen : l.length - 3 = (frontF g).length := by rw [hl, List.length_append, ht]; omega
      have ed : l.drop (l.length - 3) = t := by rw [hlen, hl, List.drop_left]
      have et : l.take (l.length - 3) = frontF g := by rw [hlen, hl, List.take_left]
      rw [ed, et] at hn
      rw [frmBy_seal hk]
      unfold sealB
      rw [← hn.2, beB_numB' t 3 ht]
      exact hl
    · cases h2
  · cases h
def fitsF (l : List UInt8) (r s m v : Int) : Bool := match decF l with
  | none => false
  | some f => chkB r s m && (if f.k = 1 then boundF (l.take (l.length - 3)) (cstBy r s m v.toNat) == l.drop (l.length - 3) else (!(f.k == 4)) && ((f.r == r) && ((f.s == s) && ((f.m == m) && (f.v == v)))))
/-- The sums of bytes that are the same but for the vector. -/
theorem bound_vec {l : List UInt8} {r s m : Int} {g g' : Nat} (hg : g < 65536) (hg' : g' < 65536) : boundF l (cstBy r s m g') = boundF l (cstBy r s m g) ↔ g' = g := by
  refine ⟨fun h => ?_, fun h => by rw [h]⟩
  unfold boundF at h
  have h1 : ofN (l ++ cstBy r s m g') = ofN (l ++ cstBy r s m g) := by
    have q := congrArg numB h
    rwa [numB_beB' 3 _ (ofN_lt _), numB_beB' 3 _ (ofN_lt _)] at q
  have hlen : (l ++ cstBy r s m g').length = (l ++ cstBy r s m g).length := by simp [cstBy_len]
  have hx : numB (l ++ cstBy r s m g') = numB (l ++ cstBy r s m g) ^^^ ((g ^^^ g') * 2 ^ 0) := by
    have key : ∀ (p : List UInt8) (a : Nat), a < 65536 → numB (p ++ beB 2 a) = 2 ^ 16 * numB p + a := fun p a ha => by
      rw [numB_append, numB_beB' 2 a (by simpa using ha), beB_len]; omega
    have e : ∀ a, l ++ cstBy r s m a = (l ++ (beB 4 r.toNat ++ beB 1 s.toNat ++ beB 1 m.toNat)) ++ beB 2 a := fun a => by unfold cstBy; simp [List.append_assoc]
    rw [e g', e g, key _ _ hg', key _ _ hg]
    generalize numB (l ++ (beB 4 r.toNat ++ beB 1 s.toNat ++ beB 1 m.toNat)) = q
    rw [Nat.pow_zero, Nat.mul_one]
    have b1 : g < 2 ^ 16 := by simpa using hg
    have b2 : g' < 2 ^ 16 := by simpa using hg'
    apply Nat.eq_of_testBit_eq
    intro i
    rw [Nat.testBit_xor, Nat.testBit_xor, Nat.testBit_two_pow_mul_add q b1, Nat.testBit_two_pow_mul_add q b2]
    split
    · cases g.testBit i <;> cases g'.testBit i <;> rfl
    · rename_i hi
      have t1 : g.testBit i = false := Nat.testBit_lt_two_pow (Nat.lt_of_lt_of_le b1 (Nat.pow_le_pow_right (by decide) (by omega)))
      have t2 : g'.testBit i = false := Nat.testBit_lt_two_pow (Nat.lt_of_lt_of_le b2 (Nat.pow_le_pow_right (by decide) (by omega)))
      rw [t1, t2]; simp
  have hY : g ^^^ g' < 16777216 := by
    have : g ^^^ g' < 2 ^ 16 := Nat.xor_lt_two_pow (by simpa using hg) (by simpa using hg')
    omega
  unfold ofN at h1
  have := (sums_burst (s := 0xB704CE) hlen hY hx).1 h1
  have e := List.append_cancel_left this
  unfold cstBy at e
  have e2 := List.append_cancel_left e
  have q := congrArg numB e2
  rwa [numB_beB' 2 _ (by simpa using hg'), numB_beB' 2 _ (by simpa using hg)] at q
/-- A frame's bytes fit its C-state, and none that is the same but for the vector. -/
theorem fits_self {f : FrmD} (hc : chkF f = true) (hv0 : 0 ≤ f.v) (hv : f.v < 65536) (v : Int) (h0 : 0 ≤ v) (h1 : v < 65536) : fitsF (frmBy f) f.r f.s f.m v = (!(f.k == 4) && (v == f.v)) := by
  obtain ⟨hk, hcb, -⟩ := chkF_facts hc
  unfold fitsF
  rw [dec_enc hc hv0 hv]
  simp only [hcb, Bool.true_and, noC_k]
  by_cases hk1 : f.k = 1
  · rw [if_pos hk1]
    have hl : (frmBy f).length - 3 = (frontF f).length := by unfold frmBy; rw [List.length_append, bound_len]; omega
    rw [hl]
    have et : (frmBy f).take (frontF f).length = frontF f := by unfold frmBy; rw [List.take_left]
    have ed : (frmBy f).drop (frontF f).length = boundF (frontF f) (cstF f) := by unfold frmBy; rw [List.drop_left, if_pos hk1]
    rw [et, ed]
    have h4 : (f.k == 4) = false := by rw [hk1]; rfl
    rw [h4]
    have := bound_vec (l := frontF f) (r := f.r) (s := f.s) (m := f.m) (g := f.v.toNat) (g' := v.toNat) (by omega) (by omega)
    rw [Bool.eq_iff_iff]
    simp only [beq_iff_eq, Bool.not_false, Bool.true_and]
    unfold cstF
    rw [this]
    omega
  · rw [if_neg hk1]
    have hn : noC f = f := by unfold noC; rw [if_neg hk1]
    rw [hn]
    simp
    rw [show (f.v == v) = (v == f.v) by rw [Bool.eq_iff_iff]; simp only [beq_iff_eq]; exact ⟨fun h => h.symm, fun h => h.symm⟩]
end Go.Proofs.Ytcdaelgnankmfaa.VSta
