/- A frame's last three bytes, turned one after another: no program in sight. -/
import Derived.Test.YtfjjgceagpcfkaaVFrmX
namespace Go.Proofs.Ytfjjgceagpcfkaa.VSta
open Go.RowKit Go.VBase Go.VOct VOct VCst Go.Proofs.Ytfjjgceagpcfkaa.VCrc _root_.Go.VCrc

/-- Three bytes, of which the last j are turned. -/
def twB (p q r : UInt8) (x : Nat → UInt8) (j : Nat) : List UInt8 := [if 2 < j then p ^^^ x 2 else p, if 1 < j then q ^^^ x 1 else q, if 0 < j then r ^^^ x 0 else r]
theorem tw_len (F : List UInt8) (p q r : UInt8) (x : Nat → UInt8) (j : Nat) : (F ++ twB p q r x j).length = F.length + 3 := by
  rw [List.length_append]; rfl
theorem tw_step (F : List UInt8) (p q r : UInt8) (x : Nat → UInt8) {j : Nat} (hj : j < 3) :
    ∃ c, (F ++ twB p q r x j)[F.length + 2 - j]? = some c ∧ (F ++ twB p q r x j).set (F.length + 2 - j) (c ^^^ x j) = F ++ twB p q r x (j + 1) := by
  rcases (by omega : j = 0 ∨ j = 1 ∨ j = 2) with rfl | rfl | rfl
  · refine ⟨r, ?_, ?_⟩
    · rw [List.getElem?_append_right (by omega)]
      simp [twB]
    · rw [List.set_append_right _ _ (by omega)]
      simp [twB]
  · refine ⟨q, ?_, ?_⟩
    · rw [List.getElem?_append_right (by omega)]
      have e : F.length + 2 - 1 - F.length = 1 := by omega
      rw [e]; simp [twB]
    · rw [List.set_append_right _ _ (by omega)]
      have e : F.length + 2 - 1 - F.length = 1 := by omega
      rw [e]; simp [twB]
  · refine ⟨p, ?_, ?_⟩
    · rw [List.getElem?_append_right (by omega)]
      have e : F.length + 2 - 2 - F.length = 0 := by omega
      rw [e]; simp [twB]
    · rw [List.set_append_right _ _ (by omega)]
      have e : F.length + 2 - 2 - F.length = 0 := by omega
      rw [e]; simp [twB]
/-- The byte that turns the j-th from behind. -/
def bitB (bits j : Nat) : UInt8 := UInt8.ofNat (bits / 2 ^ (8 * j))
theorem bitB_nat (bits j : Nat) : (bitB bits j).toNat = bits / 2 ^ (8 * j) % 256 := by
  unfold bitB
  simp
theorem xor_self_iff (a b : UInt8) : a ^^^ b = a ↔ b = 0 := by
  constructor
  · intro h
    have : a ^^^ (a ^^^ b) = a ^^^ a := by rw [h]
    rw [← UInt8.xor_assoc, UInt8.xor_self, UInt8.zero_xor] at this
    exact this
  · rintro rfl
    exact UInt8.xor_zero
theorem tw_eq (p q r : UInt8) (bits : Nat) : (twB p q r (bitB bits) 3 == [p, q, r]) = (bits % 16777216 == 0) := by
  rw [Bool.eq_iff_iff, beq_iff_eq, beq_iff_eq]
  have hz : ∀ j, bitB bits j = 0 ↔ bits / 2 ^ (8 * j) % 256 = 0 := fun j => by
    rw [← bitB_nat]
    constructor
    · intro h; rw [h]; rfl
    · intro h; exact UInt8.toNat_inj.1 h
  have e : twB p q r (bitB bits) 3 = [p, q, r] ↔ bitB bits 2 = 0 ∧ bitB bits 1 = 0 ∧ bitB bits 0 = 0 := by
    unfold twB
    simp only [Nat.reduceLT, if_true, List.cons.injEq, and_true, xor_self_iff]
  rw [e, hz, hz, hz]
  have h0 : 2 ^ (8 * 0) = 1 := rfl
  have h1 : 2 ^ (8 * 1) = 256 := rfl
  have h2 : 2 ^ (8 * 2) = 65536 := rfl
  rw [h0, h1, h2]
  omega
/-- What the law's last lines come to. -/
theorem cuts_last {f : FrmD} (hc : chkF f = true) (hv0 : 0 ≤ f.v) (hv : f.v < 65536) (bits : Nat) : ∃ p q r, frmBy f = frontF f ++ twB p q r (bitB bits) 0 ∧
    fitsF (frontF f ++ twB p q r (bitB bits) 3) f.r f.s f.m f.v = (!(f.k == 4) && (bits % 16777216 == 0)) := by
  have hl := bound_len (frontF f) (if f.k = 1 then cstF f else [])
  have hfb : frmBy f = frontF f ++ boundF (frontF f) (if f.k = 1 then cstF f else []) := rfl
  have ht := fun (t : List UInt8) (h : t.length = 3) => fits_turned hc hv0 hv h
  rw [hfb]
  generalize boundF (frontF f) (if f.k = 1 then cstF f else []) = t at *
  match t, hl with
  | [p, q, r], _ =>
    refine ⟨p, q, r, rfl, ?_⟩
    rw [ht _ rfl, tw_eq]
end Go.Proofs.Ytfjjgceagpcfkaa.VSta
