/- CrcStep: the walk. -/
import Derived.Test.YtlliemaohejpbaaVCrcAlive
import Derived.Test.YtlliemaohejpbaaVCrcTab
namespace Go.Proofs.Ytlliemaohejpbaa.VCrc
open Go.RowKit Go.VBase Go.VCrc Go.VRg

theorem one_at {l : List UInt8} {k : Nat} {d : UInt8} (h : l[k]? = some d) : (l.drop k).take 1 = [d] := by
  rw [drop_cons h]; rfl

theorem OnRel.next {s : Nat} {l : List UInt8} {k n : Nat} {c : UInt8} (h : OnRel s l k n) (hc : l[k]? = some c) : OnRel s l (k + 1) (onN n [c]) := by
  unfold OnRel at *
  rw [take_snoc hc, onN_append, ← h]

set_option maxRecDepth 100000 in
set_option maxHeartbeats 1000000 in
theorem step_small (v : Value) (l : List UInt8) (s S ix E A D : Nat) (c : UInt8) (w : World) (hv : Bys w v l) (hs : s < 4294967296) (hl : l.length ≤ 200)
    (hS : (s : Int) % 16777216 = (S : Int)) (hS1 : S < 16777216) (hix : bits BinOp.xor IntKind.u8 (IntKind.u8.wrap ((S : Int) / 65536)) (c.toNat : Int) = (ix : Int)) (hix1 : ix < 256) (hE : entryN ix = E)
    (hA : onN s [c] = A) (hx : bits BinOp.xor IntKind.u32 ((IntKind.u32.wrap ((S : Int) * 256)).tmod 16777216) (E : Int) = (A : Int)) (hD : onN S l = D) :
    Calls Try.prog 6 #[.int .u32 (s : Int), .int .u8 (c.toNat : Int), v] w fun e w' => e = .returned (.bool true) ∧ Ext w w' := by
  have hv' := hv
  obtain ⟨a, cap, rfl, hle, hcap, hc⟩ := hv
  unfold maxLen at hcap
  have HA := Lib.hid hA
  have HD := Lib.hid hD
  have HE := Lib.hid hE
  clear hA hD hE
  have hix2 : (ix : Int) < 256 := by omega
  go_enter Try.func6, Try.ntmps6
  go_wp2_with fail
  refine (alive_calls _).mono ?_
  rintro e w1 ⟨rfl, h1⟩
  go_wp2_with fail
  refine (Table_calls _).mono ?_
  rintro e w2 ⟨rfl, h2⟩
  have hz := zero_tab
  go_wp2_with (refine wpList_store_row rfl 32 _ _ rfl w2.heap.size (tabA 256) rfl rfl _ _ (heap_alloc_new w2 _) (by rw [tabA_size (Nat.le_refl _)]; exact info_tab) (by rw [tabA_size (Nat.le_refl _), tabA_size (Nat.zero_le _)]) tabA_one ?_)
  rw [World.setRow_alloc_new]
  have hE : (w2.alloc (.cells (tabA 256) 32)).cell? ⟨w2.heap.size, ix, none⟩ = some (.int .u32 (E : Int)) := by
    rw [cell_new_mark, tabA_get hix1, HE.out]
  have H1 := (h1.trans h2).thenAlloc (.cells (tabA 256) 32)
  obtain ⟨B, hB⟩ : ∃ B, w2.heap.size = B := ⟨_, rfl⟩
  rw [hB] at hE ⊢
  generalize w2.alloc (.cells (tabA 256) 32) = w3 at *
  clear hz hB h1 h2
  go_wp2_with fail
  rw [hS]
  refine wp_region_rg Ext [(2, .unk (fun v w => Bys w v [c]) (fun _ _ _ e h => h.ext e)), (3, .known (.int .u32 (A : Int)))] (by kernel_rfl) (by kernel_rfl) (by kernel_rfl) Ext.refl (fun _ _ _ => Ext.trans) ?_
  · intro σ
    simp only
    repeat (refine rg_pure (x := ?_) rfl (by rfl) (fun W hW => ?_) ?_; rotate_left; (· have hE' := (Ext.of_drew hW).cell hE; go_simp; with_reducible rfl); simp only [Nat.reduceAdd, Act.put, List.setIfInBounds_toArray, List.set_cons_zero, List.set_cons_succ])
    refine rg_unk rfl (by rfl) (fun W hW hF => ?_) ?_
    · go_simp
      exact ⟨Ext.alloc _ _, bys_lit1 c rfl⟩
    simp only [Nat.reduceAdd, Act.put, List.setIfInBounds_toArray, List.set_cons_zero, List.set_cons_succ]
    refine rg_known rfl (by rfl) (fun W hW hF => ?_) ?_
    · go_simp
      refine (On_to s A _ [c] _ hs (hF 2 _ _ rfl (by kernel_rfl)) HA.out).mono ?_
      rintro e W' ⟨rfl, rfl⟩
      exact ⟨_, rfl, Ext.refl _, rfl⟩
    simp only [Nat.reduceAdd, Act.put, List.setIfInBounds_toArray, List.set_cons_zero, List.set_cons_succ]
    repeat (refine rg_pure (x := ?_) rfl (by rfl) (fun W hW => ?_) ?_; rotate_left; (· have hE' := (Ext.of_drew hW).cell hE; go_simp; with_reducible rfl); simp only [Nat.reduceAdd, Act.put, List.setIfInBounds_toArray, List.set_cons_zero, List.set_cons_succ])
    refine rg_done fun W hW hF => ?_
    have H2 := H1.trans (Ext.of_drew hW)
    have hvW := hv'.ext H2
    clear hW hF H1 hE hv' hix hix1 hix2 hx
    go_wp2_with fail
    go_loop [10, 11, 43] (fun m _ i => ∃ (k n : Nat), k ≤ l.length ∧ i = .int .i64 (k : Int) ∧ m = .int .u32 (n : Int) ∧ OnRel S l k n) (fun _ _ i => l.length - (intOf i).toNat)
    case atStart => exact ⟨0, S, by omega, rfl, rfl, by unfold OnRel; rw [List.take_zero, onN_nil, Nat.mod_eq_of_lt hS1]⟩
    case round =>
      obtain ⟨k, n, hk, rfl, rfl, hr⟩ := hrel
      have hn := hr.lt
      by_cases hlt : k < l.length
      · obtain ⟨d, hd⟩ := get_some hlt
        have hcut := hvW.cut (i := k) (j := k + 1) (m := 1) (by omega) (by omega) (by omega)
        have hne : ¬ cap = k := by omega
        rw [if_neg hne, one_at hd] at hcut
        have hk1 : k + 1 ≤ cap := by omega
        go_wp2_with fail
        refine (On_calls n _ [d] _ (by omega) hcut).mono ?_
        rintro e W' ⟨rfl, rfl⟩
        go_wp2_with fail
        go_round
        case rel => exact ⟨k + 1, onN n [d], by omega, by go_num, rfl, hr.next hd⟩
        case measure => simp [intOf]; omega
      · have hkl : k = l.length := by omega
        have hnD : n = D := (hr.done hkl).trans HD.out
        subst hkl hnD
        go_wp2_with fail
        refine (On_to S _ _ l _ (by omega) hvW HD.out).mono ?_
        rintro e W' ⟨rfl, rfl⟩
        go_wp2_with fail
        go_ret
        exact ⟨rfl, H2⟩
set_option maxRecDepth 100000 in
set_option maxHeartbeats 1000000 in
theorem step_large (v : Value) (l : List UInt8) (s : Nat) (c : UInt8) (w : World) (hv : Bys w v l) (hl : 200 < l.length) :
    Calls Try.prog 6 #[.int .u32 (s : Int), .int .u8 (c.toNat : Int), v] w fun e w' => e = .returned (.bool true) ∧ Ext w w' := by
  obtain ⟨a, cap, rfl, hle, hcap, hc⟩ := hv
  clear hc
  go_enter Try.func6, Try.ntmps6
  go_wp2_with fail
  refine (alive_calls _).mono ?_
  rintro e w1 ⟨rfl, h1⟩
  go_wp2_with fail
  go_ret
  exact ⟨rfl, h1⟩

theorem wrap_u8 {n : Nat} (h : n < 256) : IntKind.u8.wrap (n : Int) = (n : Int) := by rw [IntKind.wrap_u8]; omega
theorem wrap_u32 {n : Nat} (h : n < 4294967296) : IntKind.u32.wrap (n : Int) = (n : Int) := by rw [IntKind.wrap_u32]; omega

theorem step_any (v : Value) (l : List UInt8) (s : Nat) (c : UInt8) (w : World) (hv : Bys w v l) (hs : s < 4294967296) :
    Calls Try.prog 6 #[.int .u32 (s : Int), .int .u8 (c.toNat : Int), v] w fun e w' => e = .returned (.bool true) ∧ Ext w w' := by
  rcases Nat.lt_or_ge 200 l.length with hl | hl
  · exact step_large v l s c w hv hl
  have hS1 : s % 16777216 < 16777216 := Nat.mod_lt _ (by decide)
  have hA : onN s [c] = byteN (s % 16777216) c.toNat := by rw [onN_cons, onN_nil, Nat.mod_eq_of_lt (byteN_lt _ _ hS1 c.toNat_lt)]
  obtain ⟨S, hS⟩ : ∃ S, s % 16777216 = S := ⟨_, rfl⟩
  rw [hS] at hS1 hA
  have hix := on_lt hS1 c
  have e1 : ((S : Int) / 65536) = ((S / 65536 : Nat) : Int) := by omega
  have e2 : ((S : Int) * 256) = ((S * 256 : Nat) : Int) := by omega
  refine step_small v l s S (S / 65536 ^^^ c.toNat) (entryN (S / 65536 ^^^ c.toNat)) _ _ c w hv hs hl (by omega) hS1 ?_ hix rfl rfl ?_ rfl
  · rw [e1, wrap_u8 (by omega)]
    exact u8_xor_nat _ _ (by omega) c.toNat_lt
  · rw [hA, e2, wrap_u32 (by omega)]
    have h3 := entryN_lt _ hix
    have e3 : Int.tmod ((S * 256 : Nat) : Int) 16777216 = ((S * 256 % 16777216 : Nat) : Int) := by
      rw [Int.tmod_eq_emod_of_nonneg (by omega)]; omega
    rw [e3]
    refine (u32_xor_nat _ _ (by omega) (by omega)).trans ?_
    unfold byteN
    rw [show S / 65536 % 256 = S / 65536 from by omega]
end Go.Proofs.Ytlliemaohejpbaa.VCrc
