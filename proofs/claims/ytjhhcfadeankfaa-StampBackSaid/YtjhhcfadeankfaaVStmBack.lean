/- StampBack: the walk. -/
import Derived.Test.YtjhhcfadeankfaaVStmDD
import Derived.Test.YtjhhcfadeankfaaVStmDQ
import Derived.Test.YtjhhcfadeankfaaVStmAlive
namespace Go.Proofs.Ytjhhcfadeankfaa.VMsg
open Go.RowKit Go.VBase Go.VRg Go.VEq VCst Go.VPlan VPlan Go.VOct VOct

set_option maxRecDepth 100000 in
set_option maxHeartbeats 8000000 in
theorem Back_any (p : PlanD) (l : List (MsgD × Sl3)) (v bv : Value) (b : List UInt8) (w : World) (hv : MsgsE w v l) (hwf : ∀ x ∈ l, Wfm x.1) (hb : Bys w bv b) :
    Calls Try.prog 8 #[planV p, v, bv] w fun e w' => e = .returned (.bool true) ∧ Ext w w' := by
  have ks := fun (W : World) (v : Value) (l : List UInt8) (h : Bys W v l) => run_string_bys (P := Try.prog) Try.underlying22 Try.underlying5 Try.underlying9 h
  have hvE := hv
  obtain ⟨a, cap, rfl, hcap, hcm, hop⟩ := hv
  clear hop hcap hcm
  obtain ⟨ba, bc, rfl⟩ : ∃ a c, bv = .slice a b.length c := by obtain ⟨a, c, h, _⟩ := hb; exact ⟨a, c, h⟩
  have kA := fun W => alive_calls W
  have kG := fun W (h : Ext w W) => refGreat_calls _ l W (hvE.ext h)
  have kE := fun W (h : Ext w W) => stampEncode_calls p l _ W (hvE.ext h) hwf
  have r0 := heap_alloc_new w (.cells (planC p) 32)
  have x0 := Ext.alloc w (.cells (planC p) 32)
  obtain ⟨W0, hW0⟩ : ∃ W0, W0 = w.alloc (.cells (planC p) 32) := ⟨_, rfl⟩
  rw [← hW0] at r0 x0
  have H0 := Lib.hid hW0
  have HV := Lib.hid (And.intro hvE (And.intro hwf hb))
  clear hW0 hvE hwf hb
  unfold planV planC
  go_enter Try.func8, Try.ntmps8
  refine wp_seq_k fun K hK => ?_
  have HK := Lib.hid hK
  clear hK
  go_wp2_with fail
  refine HK.out _ _ ?_
  clear HK
  show Code.wp _ _ _ _ (w.alloc (.cells (planC p) 32))
  rw [← H0.out]
  clear H0
  go_wp2_with fail
  refine (kA _).mono ?_
  rintro e w1 ⟨rfl, h1⟩
  have r1 := h1.block r0
  have x1 := x0.trans h1
  clear r0 x0 h1 kA
  go_wp2_with fail
  refine (kG _ x1).mono ?_
  rintro e w' ⟨hg, rfl⟩
  rcases hg with rfl | ⟨rfl, hsm⟩
  · clear kG kE
    go_wp2_with fail
    go_ret
    exact ⟨rfl, x1⟩
  clear kG
  have HSM := Lib.hid hsm
  clear hsm
  by_cases h12 : b.length ≤ 1200
  rotate_left
  · have dB : decide ((1200 : Int) < (b.length : Int)) = true := decide_eq_true (by omega)
    have dB2 : 1200 < b.length := by omega
    clear kE
    go_wp2_with fail
    go_ret
    exact ⟨rfl, x1⟩
  have dB : decide ((1200 : Int) < (b.length : Int)) = false := decide_eq_false (by omega)
  have dB2 : ¬ (1200 < b.length) := by omega
  go_wp2_with (refine loadPlanP r1 rfl rfl rfl ?_)
  refine (kE _ x1).mono ?_
  rintro e w2 ⟨u, rfl, hu, h2, hnone⟩
  have r2 := h2.block r1
  have x2 := x1.trans h2
  clear r1 x1 h2 kE dB dB2
  cases hen : encS p (l.map Prod.fst) with
  | none =>
    have hun := hnone hen
    subst hun
    rw [show (if (none : Option (List UInt8)).isSome = true then (0 : Int) else 230) = 230 from rfl]
    clear hu hnone hen
    have kD2 := fun W (h : Ext w W) => stampDecode_calls p b _ W (HV.out.2.2.ext h) (by omega)
    go_wp2_with (refine loadPlanP r2 rfl rfl rfl ?_)
    refine (kD2 _ x2).mono ?_
    rintro e w5 ⟨u5, l5, rfl, hmap5, hM5, -, -, hwf5, h5, hn5⟩
    have r5 := h5.block r2
    have x5 := x2.trans h5
    clear kD2 h5 r2 x2
    cases hd5 : decSM p b with
    | none =>
      obtain rfl := hn5 hd5
      rw [show (if (none : Option (List MsgD)).isSome = true then (0 : Int) else 230) = 230 from rfl]
      clear hn5 hM5 hmap5 hwf5 hd5
      go_wp2_with fail
      go_ret
      exact ⟨rfl, x5⟩
    | some ms =>
      rw [hd5] at hmap5
      have hmap5 : l5.map Prod.fst = ms := hmap5
      have he5 := encS_dec hd5
      rw [← hmap5] at he5
      have kE5 := stampEncode_calls p l5 u5 w5 hM5 hwf5
      rw [he5] at kE5
      obtain ⟨a5, c5, rfl⟩ : ∃ a c, u5 = .slice a l5.length c := by obtain ⟨a, c, h, _⟩ := hM5; exact ⟨a, c, h⟩
      rw [show (if (some ms).isSome = true then (0 : Int) else 230) = 0 from rfl]
      clear hn5 hM5 hmap5 hwf5 hd5 he5
      go_wp2_with (refine loadPlanP r5 rfl rfl rfl ?_)
      refine kE5.mono ?_
      rintro e w6 ⟨u6, rfl, hu6, h6, -⟩
      have hu6 : OwnB w6 _ TB u6 b := hu6
      have x6 := x5.trans h6
      have k1 := ks w6 _ _ (hu6.bys (by unfold maxLen; omega))
      have k2 := ks w6 _ _ (HV.out.2.2.ext x6)
      rw [show (if (some b).isSome = true then (0 : Int) else 230) = 0 from rfl]
      clear kE5 hu6 h6 r5 x5
      go_wp2_with fail
      go_ret
      exact ⟨rfl, x6⟩
  | some c =>
    obtain ⟨hdec, hc1024⟩ := decS_enc hen
    rw [hen] at hu
    rw [show (if (some c).isSome = true then (0 : Int) else 230) = 0 from rfl]
    have hu : OwnB w2 _ TB u c := hu
    have hub := hu.bys (by unfold maxLen; omega)
    have kD := stampDecode_calls p c u w2 hub (by omega)
    rw [hdec] at kD
    obtain ⟨ua, uc, rfl⟩ := hu.slice
    have dC : decide ((1024 : Int) < (c.length : Int)) = false := decide_eq_false (by omega)
    have dC2 : ¬ (1024 < c.length) := by omega
    clear hu hnone hen hub hdec hc1024
    go_wp2_with (refine loadPlanP r2 rfl rfl rfl ?_)
    refine kD.mono ?_
    rintro e w3 ⟨u3, l3, rfl, hmap, hM3, -, -, -, h3, -⟩
    have hmap : l3.map Prod.fst = l.map Prod.fst := hmap
    have r3 := h3.block r2
    have x3 := x2.trans h3
    have kL := refLists_calls u3 _ l3 l w3 hM3 (HV.out.1.ext x3) hmap (by have := HSM.out.1; have h := congrArg List.length hmap; simp only [List.length_map] at h; omega)
    obtain ⟨a3, c3, rfl⟩ : ∃ a c, u3 = .slice a l3.length c := by obtain ⟨a, c, h, _⟩ := hM3; exact ⟨a, c, h⟩
    rw [show (if (some (l.map Prod.fst)).isSome = true then (0 : Int) else 230) = 0 from rfl]
    clear kD hM3 h3 x2 r2
    go_wp2_with fail
    refine kL.mono ?_
    rintro e w4 ⟨rfl, h4⟩
    have r4 := h4.block r3
    have x4 := x3.trans h4
    clear kL h4 x3 r3
    have kD2 := fun W (h : Ext w W) => stampDecode_calls p b _ W (HV.out.2.2.ext h) (by omega)
    go_wp2_with (refine loadPlanP r4 rfl rfl rfl ?_)
    refine (kD2 _ x4).mono ?_
    rintro e w5 ⟨u5, l5, rfl, hmap5, hM5, -, -, hwf5, h5, hn5⟩
    have r5 := h5.block r4
    have x5 := x4.trans h5
    clear kD2 h5 r4 x4
    cases hd5 : decSM p b with
    | none =>
      obtain rfl := hn5 hd5
      rw [show (if (none : Option (List MsgD)).isSome = true then (0 : Int) else 230) = 230 from rfl]
      clear hn5 hM5 hmap5 hwf5 hd5
      go_wp2_with fail
      go_ret
      exact ⟨rfl, x5⟩
    | some ms =>
      rw [hd5] at hmap5
      have hmap5 : l5.map Prod.fst = ms := hmap5
      have he5 := encS_dec hd5
      rw [← hmap5] at he5
      have kE5 := stampEncode_calls p l5 u5 w5 hM5 hwf5
      rw [he5] at kE5
      obtain ⟨a5, c5, rfl⟩ : ∃ a c, u5 = .slice a l5.length c := by obtain ⟨a, c, h, _⟩ := hM5; exact ⟨a, c, h⟩
      rw [show (if (some ms).isSome = true then (0 : Int) else 230) = 0 from rfl]
      clear hn5 hM5 hmap5 hwf5 hd5 he5
      go_wp2_with (refine loadPlanP r5 rfl rfl rfl ?_)
      refine kE5.mono ?_
      rintro e w6 ⟨u6, rfl, hu6, h6, -⟩
      have hu6 : OwnB w6 _ TB u6 b := hu6
      have x6 := x5.trans h6
      have k1 := ks w6 _ _ (hu6.bys (by unfold maxLen; omega))
      have k2 := ks w6 _ _ (HV.out.2.2.ext x6)
      rw [show (if (some b).isSome = true then (0 : Int) else 230) = 0 from rfl]
      clear kE5 hu6 h6 r5 x5
      go_wp2_with fail
      go_ret
      exact ⟨rfl, x6⟩
end Go.Proofs.Ytjhhcfadeankfaa.VMsg
