/- The document's Seal and Open. -/
import Derived.Test.YtlliemaohejpbaaVCrcOpen
import Derived.Test.YtlliemaohejpbaaVCrcRef
import Derived.Test.YtlliemaohejpbaaVRef01
namespace Go.Proofs.Ytlliemaohejpbaa.VCrc
open Go.RowKit Go.VBase Go.VCrc Go.VOct Go.VRg VOct

set_option maxRecDepth 100000 in
set_option maxHeartbeats 1000000 in
theorem refSeal_calls (v : Value) (l : List UInt8) (w : World) (hv : Bys w v l) (hl : l.length ≤ 1000000) : Calls Try.prog 20 #[v] w (MadeB w TB (sealB l)) := by
  unfold sealB
  have hO := fun w h => refOf_calls v l w h
  have hlt := ofN_lt l
  generalize ofN l = n at *
  have e1 : (n : Int) / 65536 = ((n / 65536 : Nat) : Int) := by omega
  have e2 : (n : Int) / 256 % 256 = ((n / 256 % 256 : Nat) : Int) := by omega
  have e3 : (n : Int) % 256 = ((n % 256 : Nat) : Int) := by omega
  have hb : beB 3 n = [UInt8.ofNat (n / 65536), UInt8.ofNat (n / 256 % 256), UInt8.ofNat (n % 256)] := by
    have : n / 256 / 256 = n / 65536 := by omega
    simp only [beB, List.nil_append, List.append_assoc, List.cons_append, this]
    rw [Nat.mod_eq_of_lt (show n / 65536 < 256 by omega)]
  rw [hb]
  have d1 : (((UInt8.ofNat (n / 65536)).toNat : Nat) : Int) = ((n / 65536 : Nat) : Int) := by simp; omega
  have d2 : (((UInt8.ofNat (n / 256 % 256)).toNat : Nat) : Int) = ((n / 256 % 256 : Nat) : Int) := by simp
  have d3 : (((UInt8.ofNat (n % 256)).toNat : Nat) : Int) = ((n % 256 : Nat) : Int) := by simp
  have c1 : IntKind.u8.wrap ((n / 65536 : Nat) : Int) = ((n / 65536 : Nat) : Int) := by rw [IntKind.wrap_u8]; omega
  have c2 : IntKind.u8.wrap ((n / 256 % 256 : Nat) : Int) = ((n / 256 % 256 : Nat) : Int) := by rw [IntKind.wrap_u8]; omega
  have c3 : IntKind.u8.wrap ((n % 256 : Nat) : Int) = ((n % 256 : Nat) : Int) := by rw [IntKind.wrap_u8]; omega
  have H := Lib.hid (And.intro d1 (And.intro d2 d3))
  clear d1 d2 d3 hb
  generalize UInt8.ofNat (n / 65536) = B1 at *
  generalize UInt8.ofNat (n / 256 % 256) = B2 at *
  generalize UInt8.ofNat (n % 256) = B3 at *
  generalize n / 65536 = n1 at *
  generalize n / 256 % 256 = n2 at *
  generalize n % 256 = n3 at *
  have HL := Lib.hid hl
  have hv' := hv
  obtain ⟨a, cap, rfl, _, _, _⟩ := hv'
  go_enter Try.func20, Try.ntmps20
  go_wp2_with fail
  refine (hO _ hv).mono ?_
  rintro e w1 ⟨rfl, rfl⟩
  go_wp2_with fail
  refine (VRef01.Twin_calls _ l _ hv (by omega)).mono ?_
  rintro e w1 ⟨u, rfl, hu, hx⟩
  obtain ⟨a1, cap1, rfl⟩ := hu.slice
  have hlow := hu.lt
  go_wp2_with (at_builtin; go_loud (refine wpList_append_B byteSl rfl _ _ rfl (by rfl) (by rfl) (hu.alloc _) (bys_new [B1, B2, B3] rfl (by rw [← H.out.1, ← H.out.2.1, ← H.out.2.2]; rfl) rfl (by simp [maxLen])) ?hl ?hb ?hk))
  case hl => simp only [List.length_cons, List.length_nil]; omega
  case hb => have := hx.size; simp; omega
  case hk =>
  intro v4 w4 hv4 hg4 hrow4
  have hX4 := Below.trans (hx.thenAlloc _) (grown_below hg4 (Nat.le_trans hx.size (by simp)) hlow)
  obtain ⟨a4, cap4, rfl⟩ := hv4.slice
  go_wp2_with fail
  go_ret
  exact ⟨_, rfl, hv4, hX4⟩

theorem openB_eq (l : List UInt8) (h : 3 ≤ l.length) : (sealB (l.take (l.length - 3)) = l ∧ openB l = some (l.take (l.length - 3))) ∨ (sealB (l.take (l.length - 3)) ≠ l ∧ openB l = none) := by
  have hd3 : (l.drop (l.length - 3)).length = 3 := by rw [List.length_drop]; omega
  unfold openB sealB
  by_cases hc : numB (l.drop (l.length - 3)) = ofN (l.take (l.length - 3))
  · left
    rw [if_pos ⟨h, hc⟩, ← hc, beB_numB' _ 3 hd3]
    exact ⟨List.take_append_drop _ _, rfl⟩
  · right
    rw [if_neg (fun x => hc x.2)]
    refine ⟨fun e => hc ?_, rfl⟩
    have e2 := congrArg (List.drop (l.length - 3)) e
    rw [List.drop_left' (by rw [List.length_take]; omega)] at e2
    rw [← e2, numB_beB' 3 _ (by have := ofN_lt (l.take (l.length - 3)); simpa using this)]

set_option maxRecDepth 100000 in
set_option maxHeartbeats 1000000 in
theorem refOpen_calls (v : Value) (l : List UInt8) (w : World) (hv : Bys w v l) (hl : l.length ≤ 1000000) : Calls Try.prog 19 #[v] w (OpenPost (openB l) w) := by
  have ks := fun (W : World) (v : Value) (l : List UInt8) (h : Bys W v l) => run_string_bys (P := Try.prog) Try.underlying22 Try.underlying5 Try.underlying9 h
  have hv' := hv
  obtain ⟨a, cap, rfl, hle, _, _⟩ := hv'
  by_cases h3 : 3 ≤ l.length
  · have hfr := hv.take (i := l.length - 3) (by omega)
    have hfl : (l.take (l.length - 3)).length ≤ 1000000 := by rw [List.length_take]; omega
    have hS := fun v w h => refSeal_calls v (l.take (l.length - 3)) w h hfl
    have hT := fun v w h => VRef01.Twin_calls v (l.take (l.length - 3)) w h (by omega)
    unfold MadeB at hS
    have hcase := openB_eq l h3
    have hsl : (sealB (l.take (l.length - 3))).length ≤ maxLen := by unfold sealB maxLen; rw [List.length_append, beB_len]; omega
    generalize l.take (l.length - 3) = f at *
    obtain ⟨k, hk⟩ : ∃ k, l.length - 3 = k := ⟨_, rfl⟩
    rw [hk] at hfr
    have hki : (l.length : Int) - 3 = (k : Int) := by omega
    have hkc : (k : Int) ≤ (cap : Int) := by omega
    have hk0 : decide ((k : Int) < 0) = false := decide_eq_false (by omega)
    have hkb : k ≤ 1000000 := by omega
    obtain ⟨y, hy⟩ : ∃ y, openB l = y := ⟨_, rfl⟩
    rw [hy] at hcase ⊢
    have HC := Lib.hid (And.intro hcase (And.intro hsl (And.intro hk hfl)))
    clear hcase hsl hk hy hfl h3 hl hle
    go_enter Try.func19, Try.ntmps19
    go_wp2_with fail
    obtain ⟨S1, hS1⟩ : ∃ z, strB (sealB f) = z := ⟨_, rfl⟩
    obtain ⟨S2, hS2⟩ : ∃ z, strB l = z := ⟨_, rfl⟩
    refine wp_region_rg Ext [(6, .unk (fun v W => Bys W v (sealB f)) (fun _ _ _ e h => h.ext e)), (7, .known (.string S1))] (by kernel_rfl) (by kernel_rfl) (by kernel_rfl) Ext.refl (fun _ _ _ => Ext.trans) ?_
    intro σ
    simp only
    have k0 : ∀ W, Ext w.drew W → (convert 22 9 (.slice a l.length cap)).run Try.prog W = .ok (.string S2) W := fun W h => by rw [← hS2]; exact ks W _ _ (hv.ext (Ext.of_drew h))
    repeat (first | (refine rg_pure (x := ?_) rfl (by rfl) (fun W hW => ?_) ?_; rotate_left; (· have f0 := k0 W hW; go_simp; with_reducible rfl); simp only [Nat.reduceAdd, Act.put, List.setIfInBounds_toArray, List.set_cons_zero, List.set_cons_succ]) | (refine rg_skip rfl (by rfl) ?_; simp only [Nat.reduceAdd, Act.put, List.setIfInBounds_toArray, List.set_cons_zero, List.set_cons_succ]))
    refine rg_unk rfl (by rfl) (fun W hW hF => ?_) ?_
    · go_simp
      refine (hS _ W (hfr.ext (Ext.of_drew hW))).mono ?_
      rintro e W' ⟨u, rfl, hu, hx⟩
      exact ⟨_, rfl, hx, hu.bys HC.out.2.1⟩
    simp only [Nat.reduceAdd, Act.put, List.setIfInBounds_toArray, List.set_cons_zero, List.set_cons_succ]
    refine rg_known rfl (by rfl) (fun W hW hF => ?_) ?_
    · have hb := hF 6 _ _ rfl (by kernel_rfl)
      have hq := ks W _ _ hb
      rw [hS1] at hq
      go_simp
      exact ⟨Ext.refl _, rfl⟩
    simp only [Nat.reduceAdd, Act.put, List.setIfInBounds_toArray, List.set_cons_zero, List.set_cons_succ]
    rcases HC.out.1 with ⟨he, rfl⟩ | ⟨hne, rfl⟩
    · have hss : S1 = S2 := by rw [← hS1, ← hS2, he]
      subst hss
      repeat (first | (refine rg_pure (x := ?_) rfl (by rfl) (fun W hW => ?_) ?_; rotate_left; (· have f0 := k0 W hW; go_simp; with_reducible rfl); simp only [Nat.reduceAdd, Act.put, List.setIfInBounds_toArray, List.set_cons_zero, List.set_cons_succ]) | (refine rg_skip rfl (by rfl) ?_; simp only [Nat.reduceAdd, Act.put, List.setIfInBounds_toArray, List.set_cons_zero, List.set_cons_succ]))
      refine rg_done fun W hW hF => ?_
      have hE := Ext.of_drew hW
      have hfr2 := hfr.ext hE
      clear hF hS hS1 hS2 ks k0
      go_wp2_with fail
      refine (hT _ _ hfr2).mono ?_
      rintro e w2 ⟨u, rfl, hu, hx⟩
      have hu' := hu.mono hE.size
      have hx' := hE.trans hx
      obtain ⟨a2, cap2, rfl⟩ := hu.slice
      go_wp2_with fail
      refine bodyPost_ret (results_tmp2 rfl _ _ _) rfl ?_
      exact ⟨_, rfl, hu', hx'⟩
    · have hss : (S1.toList == S2.toList) = false := by
        rw [← hS1, ← hS2, show (strB (sealB f)).toList = sealB f from ByteArray.toList_mk _, show (strB l).toList = l from ByteArray.toList_mk _]
        simpa using hne
      have hss2 : (S1 == S2) = false := by rw [beq_toListBytes]; exact hss
      repeat (first | (refine rg_pure (x := ?_) rfl (by rfl) (fun W hW => ?_) ?_; rotate_left; (· have f0 := k0 W hW; go_simp; with_reducible rfl); simp only [Nat.reduceAdd, Act.put, List.setIfInBounds_toArray, List.set_cons_zero, List.set_cons_succ]) | (refine rg_skip rfl (by rfl) ?_; simp only [Nat.reduceAdd, Act.put, List.setIfInBounds_toArray, List.set_cons_zero, List.set_cons_succ]))
      refine rg_done fun W hW hF => ?_
      have hE := Ext.of_drew hW
      clear hF hS hS1 hS2 ks k0
      go_wp2_with fail
      refine bodyPost_ret (results_tmp2 rfl _ _ _) rfl ?_
      exact ⟨_, rfl, OwnB.nil _ _ _, hE⟩
  · have hn : openB l = none := by unfold openB; rw [if_neg (fun x => h3 x.1)]
    rw [hn]
    have hk0 : decide ((l.length : Int) - 3 < 0) = true := decide_eq_true (by omega)
    go_enter Try.func19, Try.ntmps19
    go_wp2_with fail
    refine wp_region_rg Eq [] (by kernel_rfl) (by kernel_rfl) (by kernel_rfl) (fun _ => rfl) (fun _ _ _ => Eq.trans) ?_
    intro σ
    simp only
    repeat (first | (refine rg_pure (x := ?_) rfl (by rfl) (fun W hW => ?_) ?_; rotate_left; (· subst hW; go_simp; with_reducible rfl); simp only [Nat.reduceAdd, Act.put, List.setIfInBounds_toArray, List.set_cons_zero, List.set_cons_succ]) | (refine rg_skip rfl (by rfl) ?_; simp only [Nat.reduceAdd, Act.put, List.setIfInBounds_toArray, List.set_cons_zero, List.set_cons_succ]))
    refine rg_done fun W hW hno => ?_
    subst hW
    clear hno
    go_wp2_with fail
    refine bodyPost_ret (results_tmp2 rfl _ _ _) rfl ?_
    exact ⟨_, rfl, OwnB.nil _ _ _, Ext.drew _⟩
end Go.Proofs.Ytlliemaohejpbaa.VCrc
