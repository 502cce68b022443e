/- CrcNames: the walk. -/
import Derived.Test.YtlliemaohejpbaaVCrcOpen
import Derived.Test.YtlliemaohejpbaaVCrcAlive
import Derived.Test.YtlliemaohejpbaaVCrcTab
namespace Go.Proofs.Ytlliemaohejpbaa.VCrc
open Go.RowKit Go.VBase Go.VCrc Go.VOct Go.VRg VOct

theorem i64_xor_nat (a b : Nat) (ha : a < 256) (hb : b < 256) : bits .xor .i64 (a : Int) (b : Int) = ((a ^^^ b : Nat) : Int) := by
  have hx : a ^^^ b < 2 ^ 8 := Nat.xor_lt_two_pow (by omega) (by omega)
  have h64 : ∀ x : Nat, x < 256 → (BitVec.ofInt 64 (x : Int)).toNat = x := fun x hx => by simp; omega
  show IntKind.i64.wrap ((BitVec.ofInt 64 (a : Int) ^^^ BitVec.ofInt 64 (b : Int)).toNat : Int) = _
  rw [BitVec.toNat_xor, h64 a ha, h64 b hb, IntKind.wrap_i64]
  omega
theorem entry_xor (a b : Nat) : entryN (a ^^^ b) = entryN a ^^^ entryN b := by
  unfold entryN
  rw [show (65536 : Nat) = 2 ^ 16 from rfl, mul_xor, stn_xor]
theorem openB_sealN (l : List UInt8) : openB (sealB l) = some l := by
  unfold openB
  have hl : (sealB l).length - 3 = l.length := by unfold sealB; rw [List.length_append, beB_len]; omega
  rw [hl]
  unfold sealB
  rw [List.drop_left' rfl, List.take_left' rfl, numB_beB' 3 _ (by have := ofN_lt l; simpa using this), if_pos ⟨by rw [List.length_append, beB_len]; omega, rfl⟩]
theorem open_ab1 : openB (sealB [97, 98] ++ [1]) = none := by decide +kernel

set_option maxRecDepth 100000 in
set_option maxHeartbeats 4000000 in
theorem Names_any (w : World) : Calls Try.prog 9 #[] w fun e w' => e = .returned (.bool true) ∧ Ext w w' := by
  have ks := fun (W : World) (v : Value) (l : List UInt8) (h : Bys W v l) => run_string_bys (P := Try.prog) Try.underlying22 Try.underlying5 Try.underlying9 h
  have kA := fun w => alive_calls w
  have kS := fun v l w h hl => Seal_calls v l w h hl
  have kO := fun v l w h hl => Open_calls v l w h hl
  have kc := fun (w : World) (C : Array Value) (n c : Nat) => Lib.run_convert_bytes_const (P := Try.prog) w 22 5 C n c Try.underlying22 Try.underlying5
  unfold MadeB at kS
  unfold OpenPost at kO
  have o1 : openB [183, 4, 206] = some [] := by decide +kernel
  have o2 : openB [1, 2] = none := by decide +kernel
  have o3 : openB [] = none := by decide +kernel
  have s1 : sealB [] = [183, 4, 206] := by decide +kernel
  have n1 : onN 0 [1] = 8801531 := by decide +kernel
  have n2 : onN 16777216 [1] = 8801531 := by decide +kernel
  have n3 : onN 5 [] = 5 := by decide +kernel
  have c0 : ((0 : Nat) : Int) = 0 := rfl
  have c1 : ((8801531 : Nat) : Int) = 8801531 := rfl
  have c2 : ((16777216 : Nat) : Int) = 16777216 := rfl
  have c5 : ((5 : Nat) : Int) = 5 := rfl
  have kN1 := fun v w h => On_to 0 8801531 v [1] w (by decide) h n1
  have kN2 := fun v w h => On_to 16777216 8801531 v [1] w (by decide) h n2
  have kN3 := fun v w h => On_to 5 5 v [] w (by decide) h n3
  rw [c0, c1] at kN1
  rw [c2, c1] at kN2
  rw [c5] at kN3
  clear c0 c1 c2 c5 n1 n2 n3
  have en0 : entryN 0 = 0 := by decide +kernel
  have en1 : entryN 1 = 8801531 := by decide +kernel
  have kS1 := fun w => kS (.slice none 0 0) [] w (Bys.nil w) (by decide)
  rw [s1] at kS1
  have kO1 := fun v w h => kO v [183, 4, 206] w h (by decide)
  rw [o1] at kO1
  have kO2 := fun v w h => kO v [1, 2] w h (by decide)
  rw [o2] at kO2
  have kO3 := fun v w h => kO v [] w h (by decide)
  rw [o3] at kO3
  have kS2 := fun v w h => kS v [97, 98] w h (by decide)
  have hsl : (sealB [97, 98]).length = 5 := by decide +kernel
  have kO4 := fun v w h => kO v (sealB [97, 98]) w h (by rw [hsl]; decide)
  rw [openB_sealN] at kO4
  have kO5 := fun v w h => kO v (sealB [97, 98] ++ [1]) w h (by rw [List.length_append, hsl]; decide)
  rw [open_ab1] at kO5
  simp only [Option.isSome_some, Option.isSome_none, if_true, Bool.false_eq_true, if_false, Option.getD_some, Option.getD_none] at kO1 kO2 kO3 kO4 kO5
  have HS := Lib.hid hsl
  have HE := Lib.hid (And.intro en0 en1)
  generalize sealB [97, 98] = X at *
  clear o1 o2 o3 s1 kS kO hsl en0 en1
  go_enter Try.func9, Try.ntmps9
  go_wp2_with fail
  refine (kS1 _).mono ?_
  rintro e w1 ⟨us, rfl, hs, h1⟩
  have hsb := hs.bys (by decide)
  obtain ⟨aS, cs, hsl⟩ := hs.slice
  rw [show [(183 : UInt8), 4, 206].length = 3 from rfl] at hsl
  subst hsl
  clear hs kS1
  go_wp2_with fail
  refine (kO1 _ _ hsb).mono ?_
  rintro e w2 ⟨ub, rfl, hb, h2⟩
  have hw2 := h1.trans h2
  have hsb2 := hsb.ext h2
  obtain ⟨aB, cb, hsl⟩ := hb.slice
  rw [show ([] : List UInt8).length = 0 from rfl] at hsl
  subst hsl
  clear hb h1 h2 hsb kO1
  go_wp2_with fail
  refine (kO2 _ _ (bys_new [1, 2] rfl rfl rfl (by decide))).mono ?_
  rintro e w3 ⟨u3, rfl, hb, h3⟩
  have hx3 := (Ext.alloc w2 _).trans h3
  have hw3 := hw2.trans hx3
  have hsb3 := hsb2.ext hx3
  clear hb h3 hx3 hw2 hsb2 kO2
  go_wp2_with fail
  refine (kO3 _ _ (Bys.nil _)).mono ?_
  rintro e w4 ⟨u4, rfl, hb, h4⟩
  have hw4 := hw3.trans h4
  have hsb4 := hsb3.ext h4
  clear hb h4 hw3 hsb3 kO3
  go_wp2_with fail
  refine (kS2 _ _ (bys_new [97, 98] rfl rfl rfl (by decide))).mono ?_
  rintro e w5 ⟨u5, rfl, hs5, h5⟩
  have hx5 := (Ext.alloc w4 _).trans h5
  have hw5 := hw4.trans hx5
  have hsb5 := hsb4.ext hx5
  have hb5 := hs5.bys (by rw [HS.out]; decide)
  obtain ⟨a5, c5, rfl⟩ := hs5.slice
  clear hs5 h5 hx5 hw4 hsb4
  go_wp2_with fail
  refine (kO4 _ _ hb5).mono ?_
  rintro e w6 ⟨u6, rfl, hb6, h6⟩
  have hw6 := hw5.trans h6
  have hsb6 := hsb5.ext h6
  have hxb6 := hb6.bys (by decide)
  obtain ⟨aX, cX, hsl⟩ := hb6.slice
  rw [show [(97 : UInt8), 98].length = 2 from rfl] at hsl
  subst hsl
  clear hb6 h6 hw5 hsb5 kO4 hb5
  go_wp2_with fail
  refine (kS2 _ _ (bys_new [97, 98] rfl rfl rfl (by decide))).mono ?_
  rintro e w7 ⟨u7, rfl, hs7, h7⟩
  have hx7 := (Ext.alloc w6 _).trans h7
  have hw7 := hw6.trans hx7
  have hlow := hs7.lt
  have hz6 := hw6.size
  have hz7 := h7.size
  simp only [World.size_alloc] at hlow hz7
  obtain ⟨a7, c7, rfl⟩ := hs7.slice
  clear h7 kS2
  go_wp2_with (at_builtin; go_loud (refine wpList_append_B byteSl rfl _ _ rfl (by rfl) (by rfl) (hs7.alloc _) (bys_new [1] rfl rfl rfl (by decide)) ?hl ?hb ?hk))
  case hl => rw [HS.out]; decide
  case hb => simp; omega
  case hk =>
  intro u8 w8 hs8 hg8 hrow8
  have hx8 : Below w6.heap.size w7 w8 := Below.trans ((Ext.alloc w7 _).below.mono (by omega)) (grown_below hg8 (by simp; omega) (fun k hk => by have := hlow k hk; omega))
  have hE8 : Ext w6 w8 := Below.trans hx7 hx8
  have hw8 := hw6.trans hE8
  have hsb8 := hsb6.ext hE8
  have hxb8 := hxb6.ext hE8
  have hb8 := hs8.bys (by rw [List.length_append, HS.out]; decide)
  obtain ⟨a8, c8, hsl⟩ := hs8.slice
  rw [List.length_append, show [(1 : UInt8)].length = 1 from rfl] at hsl
  subst hsl
  clear hs8 hg8 hrow8 hx8 hE8 hx7 hw6 hw7 hsb6 hxb6 hs7 hlow hz6 hz7
  go_wp2_with fail
  refine (kO5 _ _ hb8).mono ?_
  rintro e w9 ⟨u9, rfl, _, h9⟩
  have hw9 := hw8.trans h9
  have hsb9 := hsb8.ext h9
  have hxb9 := hxb8.ext h9
  clear h9 hw8 hsb8 hxb8 hb8 kO5
  go_wp2_with fail
  refine (Table_calls _).mono ?_
  rintro e w10 ⟨rfl, h10⟩
  have hz := zero_tab
  have u0 : ((w10.alloc (.cells (tabA 0) 32)).setRow w10.heap.size (tabA 256)).cell? ⟨w10.heap.size, 0, none⟩ = some (.int .u32 0) := by
    rw [World.setRow_alloc_new, cell_new_mark, tabA_get (by decide), HE.out.1]; rfl
  have u1 : ((w10.alloc (.cells (tabA 0) 32)).setRow w10.heap.size (tabA 256)).cell? ⟨w10.heap.size, 1, none⟩ = some (.int .u32 8801531) := by
    rw [World.setRow_alloc_new, cell_new_mark, tabA_get (by decide), HE.out.2]; rfl
  go_wp2_with (refine wpList_store_row rfl 32 _ _ rfl w10.heap.size (tabA 256) rfl rfl _ _ (heap_alloc_new w10 _) (by rw [tabA_size (Nat.le_refl _)]; exact info_tab) (by rw [tabA_size (Nat.le_refl _), tabA_size (Nat.zero_le _)]) tabA_one ?_)
  clear u0 u1
  rw [World.setRow_alloc_new]
  have hE11 := h10.trans (Ext.alloc w10 (.cells (tabA 256) 32))
  have hw11 := hw9.trans hE11
  have hsb11 := hsb9.ext hE11
  have hxb11 := hxb9.ext hE11
  have r11 := heap_alloc_new w10 (.cells (tabA 256) 32)
  obtain ⟨B, hB⟩ : ∃ B, w10.heap.size = B := ⟨_, rfl⟩
  rw [hB] at r11 ⊢
  generalize w10.alloc (.cells (tabA 256) 32) = w11 at *
  clear hz hB h10 hE11 hw9 hsb9 hxb9
  have tc : ∀ W, Ext w11 W → ∀ i, i < 256 → W.cell? ⟨B, i, none⟩ = some (.int .u32 (entryN i : Int)) := fun W h i hi => by
    have hr := h.block r11
    unfold World.cell?
    rw [hr]
    exact tabA_get hi
  clear r11
  go_loopw [13, 14, 15] (fun rows i k wr => ∃ (j : Nat), j ≤ 256 ∧ i = .int .i64 (j : Int) ∧ rows = .bool true ∧ Ext w11 wr) (fun _ i _ _ => 256 - (intOf i).toNat)
  case atStart => exact ⟨0, by omega, rfl, rfl, Ext.refl _⟩
  case round =>
    obtain ⟨j, hj, rfl, rfl, hx⟩ := hrel
    by_cases hlt : j < 256
    · have hd : decide ((j : Int) < 256) = true := decide_eq_true (by omega)
      go_wp2_with fail
      go_loopw [13, 15] (fun rows k wr => ∃ (p : Nat), p ≤ 8 ∧ k = .int .i64 ((2 ^ p : Nat) : Int) ∧ rows = .bool true ∧ Ext w11 wr) (fun _ k _ => 256 - (intOf k).toNat)
      case atStart => exact ⟨0, by omega, rfl, rfl, hx⟩
      case round =>
        clear hx
        obtain ⟨p, hp, rfl, rfl, hx⟩ := hrel
        by_cases hp8 : p < 8
        · have hk : 2 ^ p < 256 := Nat.lt_of_lt_of_le (Nat.pow_lt_pow_right (by decide) hp8) (by decide)
          have hk2 : 2 ^ (p + 1) = 2 * 2 ^ p := by rw [Nat.pow_succ, Nat.mul_comm]
          have hkp : 0 < 2 ^ p := Nat.pow_pos (by decide)
          have HP := Lib.hid hk2
          clear hk2
          have hd2 : decide (((2 ^ p : Nat) : Int) < 256) = true := decide_eq_true (by omega)
          have hxo := i64_xor_nat j (2 ^ p) hlt hk
          have hxl : j ^^^ 2 ^ p < 256 := Nat.xor_lt_two_pow (n := 8) hlt hk
          have e1 := fun W h => tc W h (j ^^^ 2 ^ p) hxl
          have e2 := fun W h => tc W h j hlt
          have e3 := fun W h => tc W h (2 ^ p) hk
          rw [entry_xor] at e1
          have bx := u32_xor_nat (entryN j) (entryN (2 ^ p)) (by have := entryN_lt j hlt; omega) (by have := entryN_lt (2 ^ p) hk; omega)
          generalize entryN j ^^^ entryN (2 ^ p) = E3 at *
          generalize entryN j = E1 at *
          generalize entryN (2 ^ p) = E2 at *
          obtain ⟨kk, hkk⟩ : ∃ z, 2 ^ p = z := ⟨_, rfl⟩
          rw [hkk] at hk hkp hd2 hxo hxl e1 e3 HP ⊢
          clear hkk
          obtain ⟨jk, hjk⟩ : ∃ z, j ^^^ kk = z := ⟨_, rfl⟩
          rw [hjk] at hxo hxl e1
          clear hjk
          have l1 : (jk : Int) < 256 := by omega
          have l2 : (j : Int) < 256 := by omega
          have l3 : (kk : Int) < 256 := by omega
          go_wp2_with fail
          refine wp_region_rg Eq [] (by kernel_rfl) (by kernel_rfl) (by kernel_rfl) (fun _ => rfl) (fun _ _ _ => Eq.trans) ?_
          intro σ
          simp only
          have f1 := e1 wr.drew hx.thenDrew
          have f2 := e2 wr.drew hx.thenDrew
          have f3 := e3 wr.drew hx.thenDrew
          repeat (first | (refine rg_pure (x := ?_) rfl (by rfl) (fun W hW => ?_) ?_; rotate_left; (· subst hW; go_simp; with_reducible rfl); simp only [Nat.reduceAdd, Act.put, List.setIfInBounds_toArray, List.set_cons_zero, List.set_cons_succ]) | (refine rg_skip rfl (by rfl) ?_; simp only [Nat.reduceAdd, Act.put, List.setIfInBounds_toArray, List.set_cons_zero, List.set_cons_succ]))
          refine rg_done fun W hW hno => ?_
          subst hW
          clear hno
          go_wp2_with fail
          go_round
          · exact ⟨p + 1, by omega, by rw [HP.out]; go_num, rfl, hx.thenDrew⟩
          · simp [intOf]; omega
        · have hpe : p = 8 := by omega
          subst hpe
          go_wp2_with fail
          go_round
          · exact ⟨j + 1, by omega, by go_num, rfl, hx⟩
          · simp [intOf]; omega
    · have hd : decide ((j : Int) < 256) = false := decide_eq_false (by omega)
      have hw12 := hw11.trans hx
      have hsb12 := hsb11.ext hx
      have hxb12 := hxb11.ext hx
      clear hsb11 hxb11 hw11 hx tc
      go_wp2_with fail
      refine (kA _).mono ?_
      rintro e w13 ⟨rfl, h13⟩
      have q1 := ks w13 _ _ (hsb12.ext h13)
      have q2 := ks w13 _ _ (hxb12.ext h13)
      rw [show strB [183, 4, 206] = (⟨#[183, 4, 206]⟩ : ByteArray) from rfl] at q1
      rw [show strB [97, 98] = (⟨#[97, 98]⟩ : ByteArray) from rfl] at q2
      have hw13 := hw12.trans h13
      clear hsb12 hxb12 hw12 h13 ks
      go_wp2_with fail
      refine (kN1 _ _ (bys_new [1] (by simp) rfl rfl (by decide))).mono ?_
      rintro e w' ⟨rfl, rfl⟩
      go_wp2_with fail
      refine (kN2 _ _ (bys_new [1] (by simp) rfl rfl (by decide))).mono ?_
      rintro e w' ⟨rfl, rfl⟩
      go_wp2_with fail
      refine (kN3 _ _ (Bys.nil _)).mono ?_
      rintro e w' ⟨rfl, rfl⟩
      go_wp2_with fail
      go_ret
      exact ⟨rfl, (hw13.thenAlloc _).thenAlloc _⟩
end Go.Proofs.Ytlliemaohejpbaa.VCrc
