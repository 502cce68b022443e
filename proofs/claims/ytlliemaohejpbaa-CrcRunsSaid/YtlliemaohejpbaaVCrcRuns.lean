/- CrcRuns: the walk. -/
import Derived.Test.YtlliemaohejpbaaVCrcTurned
import Derived.Test.YtlliemaohejpbaaVCrcAlive
namespace Go.Proofs.Ytlliemaohejpbaa.VCrc
open Go.RowKit Go.VBase Go.VCrc Go.VOct Go.VRg VOct

theorem str_eq (l m : List UInt8) : ((strB l).toList == (strB m).toList) = decide (l = m) := by
  rw [show (strB l).toList = l from ByteArray.toList_mk _, show (strB m).toList = m from ByteArray.toList_mk _, Bool.eq_iff_iff]
  simp

set_option maxRecDepth 100000 in
set_option maxHeartbeats 4000000 in
theorem Runs_any (v : Value) (l : List UInt8) (at_ bits : Nat) (hat : at_ < 65536) (hbits : bits < 4294967296) (w : World) (hb : Bys w v l) :
    Calls Try.prog 8 #[v, .int .u16 (at_ : Int), .int .u32 (bits : Int)] w fun e w' => e = .returned (.bool true) ∧ Ext w w' := by
  have ks := fun (W : World) (v : Value) (l : List UInt8) (h : Bys W v l) => run_string_bys (P := Try.prog) Try.underlying22 Try.underlying5 Try.underlying9 h
  have kA := fun w => alive_calls w
  have hb' := hb
  obtain ⟨a, cap, rfl, _, _, _⟩ := hb'
  by_cases hl : 2000 < l.length
  · have hd : decide (2000 < (l.length : Int)) = true := decide_eq_true (by omega)
    clear hl ks
    go_enter Try.func8, Try.ntmps8
    go_wp2_with fail
    refine (kA _).mono ?_
    rintro e w1 ⟨rfl, h1⟩
    go_wp2_with fail
    go_ret
    exact ⟨rfl, h1⟩
  have hd : decide (2000 < (l.length : Int)) = false := decide_eq_false (by omega)
  have hll : l.length ≤ 2000 := by omega
  clear hl
  have kS := fun v w h => Seal_calls v l w h (by omega)
  have hSl : (sealB l).length = l.length + 3 := by unfold sealB; rw [List.length_append, beB_len]
  have kO := fun v w h => Open_calls v (sealB l) w h (by omega)
  rw [openB_seal] at kO
  unfold MadeB at kS
  unfold OpenPost at kO
  simp only [Option.isSome_some, if_true, Option.getD_some] at kO
  have hburst := fun m Y j h1 h2 h3 => open_burst (l := l) (m := m) (Y := Y) (j := j) h1 h2 h3
  generalize sealB l = X at *
  have hxp : 0 < X.length := by omega
  obtain ⟨f1, hf1⟩ : ∃ z, at_ % (8 * X.length) = z := ⟨_, rfl⟩
  have hf1l : f1 < 8 * X.length := by rw [← hf1]; exact Nat.mod_lt _ (by omega)
  have d1 : (at_ : Int).tmod (8 * (X.length : Int)) = (f1 : Int) := by
    have e8 : ((8 * X.length : Nat) : Int) = 8 * (X.length : Int) := by omega
    rw [Int.tmod_eq_emod_of_nonneg (by omega), ← e8, ← Int.natCast_emod, hf1]
  have nz1 : ¬ X.length = 0 := by omega
  have hdl : ((X.length : Int) != (l.length : Int) + 3) = false := by simp; omega
  have hdl2 : ¬ (X.length : Int) = (l.length : Int) + 3 → False := by omega
  have hXb : X.length ≤ 2003 := by omega
  have HSL := Lib.hid hSl
  clear hf1
  have kT := fun v w h => turned_calls v X f1 bits w h (by omega) hf1l hbits
  unfold TurnPost at kT
  clear hSl hdl2
  go_enter Try.func8, Try.ntmps8
  go_wp2_with fail
  refine (kA _).mono ?_
  rintro e w1 ⟨rfl, h1⟩
  go_wp2_with fail
  refine (kS _ _ (hb.ext h1)).mono ?_
  rintro e w2 ⟨us, rfl, hs, h2⟩
  have hw2 := h1.trans h2
  have hsb := hs.bys (by unfold maxLen; omega)
  obtain ⟨aS, cs, rfl⟩ := hs.slice
  clear hs h2 h1
  go_wp2_with fail
  refine (kO _ _ hsb).mono ?_
  rintro e w3 ⟨ux, rfl, hx, h3⟩
  have hw3 := hw2.trans h3
  have hsb3 := hsb.ext h3
  have hxb3 := hx.bys (by unfold maxLen; omega)
  have q1 := ks w3 _ _ hxb3
  have q2 := ks w3 _ _ (hb.ext hw3)
  obtain ⟨ax, cx, rfl⟩ := hx.slice
  clear hx h3 hw2 hsb kO kS
  go_wp2_with fail
  refine (kT _ _ hsb3).mono ?_
  rintro e w4 ⟨ut, m, rfl, ht, hB, h4⟩
  have hml := hB.1
  have hbm : (openB m).isSome = true ↔ m = X := by
    obtain ⟨h5, Y, hY, h6⟩ := hB
    exact hburst m Y _ h5 hY h6
  have hw4 := hw3.trans h4
  have hsb4 := hsb3.ext h4
  have htb := ht.bys (by unfold maxLen; omega)
  have kM := fun v w h => Open_calls v m w h (by omega)
  unfold OpenPost at kM
  obtain ⟨aT, cT, rfl⟩ := ht.slice
  have HM := Lib.hid (And.intro hml hbm)
  clear ht h4 hsb3 hxb3 q1 q2 hw3 kT hB hburst hml hbm
  go_wp2_with fail
  refine (kM _ _ htb).mono ?_
  rintro e w5 ⟨uo, rfl, ho, h5⟩
  have hw5 := hw4.trans h5
  have q1 := ks w5 _ _ (htb.ext h5)
  have q2 := ks w5 _ _ (hsb4.ext h5)
  obtain ⟨aO, cO, rfl⟩ := ho.slice
  obtain ⟨bq, hbq⟩ : ∃ bq : Bool, decide (m = X) = bq := ⟨_, rfl⟩
  have hstr := str_eq m X
  rw [hbq] at hstr
  have hstr2 : (strB m == strB X) = bq := by rw [beq_toListBytes]; exact hstr
  have her : (((if (openB m).isSome = true then (0 : Int) else 20)) == 0) = bq := by
    cases bq with
    | true =>
      rw [if_pos (HM.out.2.2 (of_decide_eq_true hbq))]; rfl
    | false =>
      rw [if_neg (fun h => of_decide_eq_false hbq (HM.out.2.1 h))]; rfl
  generalize (if (openB m).isSome = true then (0 : Int) else 20) = en at *
  generalize (openB m).getD [] = Z at *
  generalize strB m = S1 at *
  generalize strB X = S2 at *
  clear htb hsb4 ho h5 hw4 kM hbq
  by_cases hl0 : l = []
  · subst hl0
    go_wp2_with fail
    go_ret
    exact ⟨rfl, hw5⟩
  · have hlp : 0 < l.length := by
      rcases Nat.eq_zero_or_pos l.length with h | h
      · exact absurd (List.length_eq_zero_iff.1 h) hl0
      · exact h
    obtain ⟨f2, hf2⟩ : ∃ z, at_ % (8 * l.length) = z := ⟨_, rfl⟩
    have hf2l : f2 < 8 * l.length := by rw [← hf2]; exact Nat.mod_lt _ (by omega)
    have d2 : (at_ : Int).tmod (8 * (l.length : Int)) = (f2 : Int) := by
      have e8 : ((8 * l.length : Nat) : Int) = 8 * (l.length : Int) := by omega
      rw [Int.tmod_eq_emod_of_nonneg (by omega), ← e8, ← Int.natCast_emod, hf2]
    have nz2 : ¬ l.length = 0 := by omega
    have kT2 := fun v w h => turned_calls v l f2 bits w h (by omega) hf2l hbits
    unfold TurnPost at kT2
    have kO1 := fun v w h => Of_to (ofN l) v [l] w h (by simp)
    clear hf2 d1 nz1 hxp hf1l HM HSL hdl
    go_wp2_with fail
    refine (kT2 _ _ (hb.ext hw5)).mono ?_
    rintro e w6 ⟨uc, c, rfl, hc, hB, h6⟩
    have hlen := hB.1
    have hsum : ofN c = ofN l ↔ c = l := by
      obtain ⟨h5, Y, hY, h7⟩ := hB
      exact sums_burst begN h5 hY h7
    have kO2 := fun v w h => Of_to (ofN c) v [c] w h (by simp)
    have hw6 := hw5.trans h6
    have hcb := hc.bys (by unfold maxLen; omega)
    have hbb := hb.ext hw6
    have hstr3 := str_eq c l
    obtain ⟨b3, hb3⟩ : ∃ b3 : Bool, decide (c = l) = b3 := ⟨_, rfl⟩
    rw [hb3] at hstr3
    have hstr4 : (strB c == strB l) = b3 := by rw [beq_toListBytes]; exact hstr3
    have hnum : ((ofN c : Int) == (ofN l : Int)) = b3 := by
      cases b3 with
      | true => have := hsum.2 (of_decide_eq_true hb3); rw [this]; simp
      | false =>
        have hne : ¬ ofN c = ofN l := fun h => of_decide_eq_false hb3 (hsum.1 h)
        simp only [beq_eq_false_iff_ne, ne_eq]; omega
    obtain ⟨ac, cc, rfl⟩ := hc.slice
    obtain ⟨S3, hS3⟩ : ∃ z, strB c = z := ⟨_, rfl⟩
    obtain ⟨S4, hS4⟩ : ∃ z, strB l = z := ⟨_, rfl⟩
    rw [hS3, hS4] at hstr3 hstr4
    have HC := Lib.hid (And.intro hlen (And.intro hsum hb3))
    clear hc h6 hw5 kT2 hB hlen hsum hb3 hf2l d2 nz2
    generalize ofN c = n3 at *
    generalize ofN l = n4 at *
    go_wp2_with fail
    refine wp_region_rg Ext [(3, .unk (fun v W => BysL W v [c]) (fun _ _ _ e h => h.ext e)), (4, .known (.int .u32 (n3 : Int))), (6, .unk (fun v W => BysL W v [l]) (fun _ _ _ e h => h.ext e)), (7, .known (.int .u32 (n4 : Int)))] (by kernel_rfl) (by kernel_rfl) (by kernel_rfl) Ext.refl (fun _ _ _ => Ext.trans) ?_
    intro σ
    simp only
    have k0 : ∀ W, Ext w6.drew W → (convert 22 9 (.slice ac c.length cc)).run Try.prog W = .ok (.string S3) W := fun W h => by rw [← hS3]; exact ks W _ _ (hcb.ext (Ext.of_drew h))
    have k1 : ∀ W, Ext w6.drew W → (convert 22 9 (.slice a l.length cap)).run Try.prog W = .ok (.string S4) W := fun W h => by rw [← hS4]; exact ks W _ _ (hbb.ext (Ext.of_drew h))
    repeat (first | (refine rg_pure (x := ?_) rfl (by rfl) (fun W hW => ?_) ?_; rotate_left; (· have f0 := k0 W hW; have f1 := k1 W hW; go_simp; with_reducible rfl); simp only [Nat.reduceAdd, Act.put, List.setIfInBounds_toArray, List.set_cons_zero, List.set_cons_succ]) | (refine rg_skip rfl (by rfl) ?_; simp only [Nat.reduceAdd, Act.put, List.setIfInBounds_toArray, List.set_cons_zero, List.set_cons_succ]))
    refine rg_unk rfl (by rfl) (fun W hW hF => ?_) ?_
    · go_simp
      exact ⟨Ext.alloc _ _, bysL_one rfl (hcb.ext (Ext.of_drew hW))⟩
    simp only [Nat.reduceAdd, Act.put, List.setIfInBounds_toArray, List.set_cons_zero, List.set_cons_succ]
    refine rg_known rfl (by rfl) (fun W hW hF => ?_) ?_
    · have hL := hF 3 _ _ rfl (by kernel_rfl)
      go_simp
      refine (kO2 _ W hL).mono ?_
      rintro e W' ⟨rfl, rfl⟩
      exact ⟨_, rfl, Ext.refl _, rfl⟩
    simp only [Nat.reduceAdd, Act.put, List.setIfInBounds_toArray, List.set_cons_zero, List.set_cons_succ]
    repeat (first | (refine rg_pure (x := ?_) rfl (by rfl) (fun W hW => ?_) ?_; rotate_left; (· have f0 := k0 W hW; have f1 := k1 W hW; go_simp; with_reducible rfl); simp only [Nat.reduceAdd, Act.put, List.setIfInBounds_toArray, List.set_cons_zero, List.set_cons_succ]) | (refine rg_skip rfl (by rfl) ?_; simp only [Nat.reduceAdd, Act.put, List.setIfInBounds_toArray, List.set_cons_zero, List.set_cons_succ]))
    refine rg_unk rfl (by rfl) (fun W hW hF => ?_) ?_
    · go_simp
      exact ⟨Ext.alloc _ _, bysL_one rfl (hbb.ext (Ext.of_drew hW))⟩
    simp only [Nat.reduceAdd, Act.put, List.setIfInBounds_toArray, List.set_cons_zero, List.set_cons_succ]
    refine rg_known rfl (by rfl) (fun W hW hF => ?_) ?_
    · have hL := hF 6 _ _ rfl (by kernel_rfl)
      go_simp
      refine (kO1 _ W hL).mono ?_
      rintro e W' ⟨rfl, rfl⟩
      exact ⟨_, rfl, Ext.refl _, rfl⟩
    simp only [Nat.reduceAdd, Act.put, List.setIfInBounds_toArray, List.set_cons_zero, List.set_cons_succ]
    repeat (first | (refine rg_pure (x := ?_) rfl (by rfl) (fun W hW => ?_) ?_; rotate_left; (· have f0 := k0 W hW; have f1 := k1 W hW; go_simp; with_reducible rfl); simp only [Nat.reduceAdd, Act.put, List.setIfInBounds_toArray, List.set_cons_zero, List.set_cons_succ]) | (refine rg_skip rfl (by rfl) ?_; simp only [Nat.reduceAdd, Act.put, List.setIfInBounds_toArray, List.set_cons_zero, List.set_cons_succ]))
    refine rg_done fun W hW hF => ?_
    have hEnd := hw6.trans (Ext.of_drew hW)
    clear hF
    go_wp2_with fail
    go_ret
    exact ⟨rfl, hEnd⟩
end Go.Proofs.Ytlliemaohejpbaa.VCrc
