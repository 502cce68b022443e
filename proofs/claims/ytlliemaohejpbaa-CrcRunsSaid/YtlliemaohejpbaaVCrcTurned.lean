/- The law's 'turned'. -/
import Derived.Test.YtlliemaohejpbaaVCrcBurst
import Derived.Test.YtlliemaohejpbaaVSet
namespace Go.Proofs.Ytlliemaohejpbaa.VCrc
open Go.RowKit Go.VBase Go.VCrc Go.VOct VOct

def TurnPost (l : List UInt8) (f : Nat) (w : World) (e : Ending) (w' : World) : Prop := ∃ u m, e = .returned u ∧ OwnB w' w.heap.size TB u m ∧ BurstI l m f ∧ Ext w w'

set_option maxRecDepth 100000 in
set_option maxHeartbeats 2000000 in
theorem turned_calls (v : Value) (l : List UInt8) (f bits : Nat) (w : World) (hv : Bys w v l) (hl : l.length ≤ 3000) (hf : f < 8 * l.length) (hb : bits < 4294967296) :
    Calls Try.prog 21 #[v, .int .i64 (f : Int), .int .u32 (bits : Int)] w (TurnPost l f w) := by
  have hv' := hv
  obtain ⟨a, cap, rfl, _, _, _⟩ := hv'
  go_enter Try.func21, Try.ntmps21
  go_wp2_with (at_builtin; refine wpList_append_B byteSl rfl _ _ rfl (by rfl) (by rfl) (OwnB.made0 w w.heap.size _ (Nat.le_refl _)) (hv.alloc _) ?hl ?hb ?hk)
  case hl => simp only [List.length_nil]; omega
  case hb => simp
  case hk =>
  intro u1 w1 hu1 hg1 hrow1
  have hx1 : Ext w w1 := Below.trans (Ext.alloc w _) (grown_below hg1 (by simp) (fun k h => by cases h; exact Nat.le_refl _))
  obtain ⟨a1, cap1, rfl⟩ := hu1.slice
  clear hg1 hrow1
  go_wp2_with fail
  go_loopw [8] (fun i wr => ∃ (j : Nat) (m : List UInt8), j ≤ 24 ∧ i = .int .i64 (j : Int) ∧ OwnB wr w.heap.size TB (.slice a1 l.length cap1) m ∧ BurstI l m f ∧ Ext w wr) (fun i _ => 24 - (intOf i).toNat)
  case atStart => exact ⟨0, l, by omega, rfl, hu1, BurstI.refl l f, hx1⟩
  case round =>
    clear hu1 hx1
    obtain ⟨j, m, hj, rfl, hu, hB, hx⟩ := hrel
    by_cases hlt : j < 24
    · have hd : decide ((j : Int) < 24) = true := decide_eq_true (by omega)
      obtain ⟨t, ht⟩ : ∃ t, f + j = t := ⟨_, rfl⟩
      have hti : (f : Int) + (j : Int) = (t : Int) := by omega
      have htb : t ≤ 25000 := by omega
      obtain ⟨z, hz⟩ : ∃ z : Nat, 23 - j = z := ⟨_, rfl⟩
      have hzi : (23 : Int) - (j : Int) = (z : Int) := by omega
      have hzb : z < 24 := by omega
      obtain ⟨bb, hbb⟩ : ∃ bb : Bool, (Go.bits BinOp.and IntKind.u32 ((bits : Int) / 2 ^ z) 1 == 1) = bb := ⟨_, rfl⟩
      have hj1 : OwnB wr w.heap.size TB (.slice a1 l.length cap1) m ∧ BurstI l m f ∧ Ext w wr := ⟨hu, hB, hx⟩
      cases bb with
      | false =>
        have hne : ¬ Go.bits BinOp.and IntKind.u32 ((bits : Int) / 2 ^ z) 1 = 1 := by simpa using hbb
        go_wp2_with fail
        go_round
        · exact ⟨j + 1, m, by omega, by go_num, hu, hB, hx⟩
        · simp [intOf]; omega
      | true =>
        have heq : Go.bits BinOp.and IntKind.u32 ((bits : Int) / 2 ^ z) 1 = 1 := by simpa using hbb
        by_cases hat : t < 8 * l.length
        · have hd2 : decide ((t : Int) < 8 * (l.length : Int)) = true := decide_eq_true (by omega)
          have hq8 : t / 8 < l.length := by omega
          have hr8 : t % 8 < 8 := by omega
          have hml := hB.1
          obtain ⟨c, hc⟩ := get_some (l := m) (k := t / 8) (by omega)
          obtain ⟨gx, cx', hv0, -, -, -, hcells⟩ := hu.row (by intro e; subst e; simp at hc)
          simp only [Value.slice.injEq] at hv0
          obtain ⟨rfl, -, rfl⟩ := hv0
          obtain ⟨hce, hfr⟩ := hcells _ c hc
          have hst := hB.step (i := j) hlt (by omega) (c := c) (by rw [ht]; exact hc)
          rw [ht] at hst
          have hSx := hu.set (t / 8) (by omega) (c ^^^ UInt8.ofNat (128 / 2 ^ (t % 8)))
          have d1 : (t : Int).tdiv 8 = ((t / 8 : Nat) : Int) := by rw [Int.tdiv_eq_ediv_of_nonneg (by omega)]; rfl
          have d2 : (t : Int).tmod 8 = ((t % 8 : Nat) : Int) := by rw [Int.tmod_eq_emod_of_nonneg (by omega)]; rfl
          have hxl : 128 / 2 ^ (t % 8) < 256 := Nat.lt_of_le_of_lt (Nat.div_le_self _ _) (by decide)
          have hxo : Go.bits BinOp.xor IntKind.u8 (c.toNat : Int) ((128 / 2 ^ (t % 8) : Nat) : Int) = ((c ^^^ UInt8.ofNat (128 / 2 ^ (t % 8))).toNat : Int) := by
            have hof : ∀ x : Nat, x < 256 → (UInt8.ofNat x).toNat = x := fun x hx => by simp; omega
            rw [u8_xor_nat _ _ c.toNat_lt hxl, UInt8.toNat_xor, hof _ hxl]
          have hgb : w.heap.size ≤ gx := (OwnB.head hu rfl).1
          have hqc : ((t / 8 : Nat) : Int) < (l.length : Int) := by omega
          have hX' : Ext w (wr.setCell ⟨gx, t / 8, none⟩ (.int .u8 ((c ^^^ UInt8.ofNat (128 / 2 ^ (t % 8))).toNat : Int))) := Below.setCell hx hgb _
          have HS := Lib.hid (And.intro hSx (And.intro hst hX'))
          clear hSx hst hX' hj1 hcells hu hB hx
          have hcl := c.toNat_lt
          have hsh : (128 : Int) / 2 ^ (t % 8) = ((128 / 2 ^ (t % 8) : Nat) : Int) := by
            rw [Int.natCast_ediv, Int.natCast_pow]; rfl
          generalize (c ^^^ UInt8.ofNat (128 / 2 ^ (t % 8))).toNat = c1 at *
          generalize c.toNat = c0 at *
          generalize 128 / 2 ^ (t % 8) = xx at *
          generalize t % 8 = rr at *
          go_wp2_with fail
          go_round
          · exact ⟨j + 1, _, by omega, by go_num, HS.out.1, HS.out.2.1, HS.out.2.2⟩
          · simp [intOf]; omega
        · have hd2 : decide ((t : Int) < 8 * (l.length : Int)) = false := decide_eq_false (by omega)
          go_wp2_with fail
          go_round
          · exact ⟨j + 1, m, by omega, by go_num, hu, hB, hx⟩
          · simp [intOf]; omega
    · have hd : decide ((j : Int) < 24) = false := decide_eq_false (by omega)
      go_wp2_with fail
      go_ret
      exact ⟨_, m, rfl, hu, hB, hx⟩
end Go.Proofs.Ytlliemaohejpbaa.VCrc
