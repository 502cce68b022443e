/- CstateBack: the walk. -/
import Derived.Test.YtkmkfkpblkhpmaaVBe
import Derived.Test.YtkmkfkpblkhpmaaVAlive04
import Derived.Test.YtkmkfkpblkhpmaaVApart
import Derived.Test.YtkmkfkpblkhpmaaVFollows
namespace Go.Proofs.Ytkmkfkpblkhpmaa.VCst
open Go.RowKit Go.VBase Go.VOct Go.VRg VOct

theorem row4a {w : World} {b : Nat} {c0 c1 c2 c3 : Value} {t : TypeId} (h : w.heap[b]? = some (.cells #[c0, c1, c2, c3] t)) :
    (∀ c T, (w.alloc (.cells c T)).cell? ⟨b, 0, none⟩ = some c0) ∧ (∀ c T, (w.alloc (.cells c T)).cell? ⟨b, 1, none⟩ = some c1) ∧ (∀ c T, (w.alloc (.cells c T)).cell? ⟨b, 2, none⟩ = some c2) ∧ (∀ c T, (w.alloc (.cells c T)).cell? ⟨b, 3, none⟩ = some c3) :=
  have h' := fun c T => (Ext.alloc w (.cells c T)).block h
  ⟨fun c T => cell_of_row _ b 0 _ _ _ (h' c T), fun c T => cell_of_row _ b 1 _ _ _ (h' c T), fun c T => cell_of_row _ b 2 _ _ _ (h' c T), fun c T => cell_of_row _ b 3 _ _ _ (h' c T)⟩

set_option maxRecDepth 100000 in
set_option maxHeartbeats 4000000 in
/-- The second half: from the C-state's bytes on. -/
theorem Back_any (r s m : Int) (g v : Nat) (hg : g < 65536) (hgv : v < 65536) (bv : Value) (l : List UInt8) (w : World) (hb : Bys w bv l) :
    Calls Try.prog 7 #[cst r s m (g : Int), .int .u16 (v : Int), bv] w fun e w' => e = .returned (.bool true) ∧ Ext w w' := by
  have kA := fun w => alive_calls w
  have ks := fun (W : World) (v : Value) (l : List UInt8) (h : Bys W v l) => run_string_bys (P := Try.prog) Try.underlying41 Try.underlying5 Try.underlying9 h
  have kE := fun r s m g hg w => Encode_calls r s m g hg w
  have kD := fun bv l w h hl => Decode_calls bv l w h hl
  unfold EncPost at kE
  unfold DecPost at kD
  have hb' := hb
  obtain ⟨ba, bcap, rfl, _, _, _⟩ := hb'
  unfold cst at *
  by_cases hl : 100 < l.length
  · have hd : decide (100 < (l.length : Int)) = true := decide_eq_true (by omega)
    clear hl kD kE ks
    go_enter Try.func7, Try.ntmps7
    go_wp2_with fail
    refine (kA _).mono ?_
    rintro e w1 ⟨rfl, hx1⟩
    have hw := (Ext.alloc w _).trans hx1
    go_wp2_with fail
    go_ret
    exact ⟨rfl, hw⟩
  have hd : decide (100 < (l.length : Int)) = false := decide_eq_false (by omega)
  have hll : l.length ≤ 140737488355328 := by omega
  clear hl
  go_enter Try.func7, Try.ntmps7
  go_wp2_with fail
  refine (kA _).mono ?_
  rintro e w1 ⟨rfl, hx1⟩
  have hw := (Ext.alloc w _).trans hx1
  have r0 := hx1.block (heap_alloc_new w (.cells #[.int .i64 r, .int .i64 s, .int .i64 m, .int .u16 (g : Int)] 25))
  clear hx1
  go_wp2_with fail
  refine (kD _ _ _ (hb.ext hw) hll).mono ?_
  rintro e w2 ⟨rfl, hx2⟩
  have hw2 := hw.trans hx2
  have r1 := hx2.block r0
  clear hw hx2 r0
  cases hdec : decC l with
  | none =>
    simp only [Option.isSome_none, Bool.false_eq_true, if_false]
    obtain ⟨a0, a1, a2, a3⟩ := row4a r1
    go_wp2_with fail
    have r2 := (Ext.alloc w2 (.cells #[.int .i64 0, .int .i64 0, .int .i64 0, .int .u16 0] 25)).block r1
    have hw3 := hw2.thenAlloc (.cells #[.int .i64 0, .int .i64 0, .int .i64 0, .int .u16 0] 25)
    clear a0 a1 a2 a3 r1 hw2 hdec
    refine (kE r s m g hg _).mono ?_
    rintro e w4 ⟨u, rfl, hu, hx4, _⟩
    have r3 := hx4.block r2
    have hw4 := hw3.trans hx4
    clear hx4 r2 hw3
    cases henc : encC r s m g with
    | none =>
      rw [henc] at hu
      simp only [Option.isSome_none, Bool.false_eq_true, if_false]
      obtain ⟨a2, cap2, rfl⟩ := hu.slice
      go_wp2_with fail
      go_ret
      exact ⟨rfl, hw4⟩
    | some L =>
      rw [henc] at hu
      simp only [Option.getD_some] at hu
      simp only [Option.isSome_some, if_true]
      obtain ⟨hdecL, hL8, hLe, hchk⟩ := dec_of_enc hg henc
      have hub := hu.bys (by unfold maxLen; omega)
      have hcap2 := hub
      obtain ⟨a2, cap2, rfl, hle2, hmx2, _⟩ := hcap2
      have kE2 := fun w => kE r s m v hgv w
      rw [show encC r s m v = some (cstBy r s m v) by unfold encC; rw [if_pos hchk]] at kE2
      have hL8' := cstBy_len r s m v
      have hvl := vec_last r s m hg hgv
      rw [← hLe] at hvl
      have kD2 := fun bv W h => kD bv L W h (by omega)
      rw [hdecL] at kD2
      generalize cstBy r s m v = L' at *
      have HV := Lib.hid hvl
      clear hvl hLe hu henc hdecL hchk kE kD kA
      simp only [Option.getD_some, Option.isSome_some, if_true] at kE2 kD2
      obtain ⟨a0, a1, a2', a3⟩ := row4a r3
      obtain ⟨⟨c0, c1, c2, c3⟩, _⟩ := row4 r3
      rw [hL8] at hub hle2 ⊢
      go_wp2_with fail
      refine (kE2 _).mono ?_
      rintro e w6 ⟨u', rfl, hu', hx6, _⟩
      have r4 := hx6.block ((Ext.alloc w4 (.cells #[.int .i64 r, .int .i64 s, .int .i64 m, .int .u16 (v : Int)] 25)).block r3)
      have hw6 := (hw4.thenAlloc (.cells #[.int .i64 r, .int .i64 s, .int .i64 m, .int .u16 (v : Int)] 25)).trans hx6
      have hub6 := (hub.alloc (.cells #[.int .i64 r, .int .i64 s, .int .i64 m, .int .u16 (v : Int)] 25)).ext hx6
      have hub' := hu'.bys (by unfold maxLen; omega)
      have hcap3 := hub'
      obtain ⟨a5, cap3, rfl, hle3, hmx3, _⟩ := hcap3
      rw [hL8'] at hub' hle3 ⊢
      clear a0 a1 a2' a3 c0 c1 c2 c3 r3 hw4 hub hu' hx6 kE2
      go_wp2_with fail
      refine (kD2 _ _ hub6).mono ?_
      rintro e w7 ⟨rfl, hx7⟩
      have r5 := (hx7.trans (Ext.alloc w7 (.cells #[.int .i64 r, .int .i64 s, .int .i64 m, .int .u16 (g : Int)] 25))).block r4
      have r6 := heap_alloc_new w7 (.cells #[.int .i64 r, .int .i64 s, .int .i64 m, .int .u16 (g : Int)] 25)
      have hw8 := (hw6.trans hx7).thenAlloc (.cells #[.int .i64 r, .int .i64 s, .int .i64 m, .int .u16 (g : Int)] 25)
      have hub8 := (hub6.ext hx7).alloc (.cells #[.int .i64 r, .int .i64 s, .int .i64 m, .int .u16 (g : Int)] 25)
      have hub8' := (hub'.ext hx7).alloc (.cells #[.int .i64 r, .int .i64 s, .int .i64 m, .int .u16 (g : Int)] 25)
      clear hx7 hw6 hub6 hub' r4 kD2
      go_wp2_with fail
      generalize w7.alloc (.cells #[.int .i64 r, .int .i64 s, .int .i64 m, .int .u16 (g : Int)] 25) = w8 at *
      have hub9 : Bys w8.drew _ L := hub8.drew
      have hub9' : Bys w8.drew _ L' := hub8'.drew
      have r7 : w8.drew.heap[w.heap.size]? = _ := r5
      have r8 : w8.drew.heap[w7.heap.size]? = _ := r6
      have hw9 := hw8.thenDrew
      refine wp_region_rg Eq [] (by kernel_rfl) (by kernel_rfl) (by kernel_rfl) (fun _ => rfl) (fun _ _ _ => Eq.trans) ?_
      intro σ
      simp only
      clear hub8 hub8' r5 r6 hw8
      generalize w8.drew = W at *
      obtain ⟨⟨c0, c1, c2, c3⟩, _⟩ := row4 r7
      obtain ⟨⟨d0, d1, d2, d3⟩, _⟩ := row4 r8
      have t1 := ks W _ _ hub9
      have t2 := ks W _ _ hub9'
      have t3 := ks W _ _ (hub9.take (i := 6) (by omega))
      have t4 := ks W _ _ (hub9'.take (i := 6) (by omega))
      rw [HV.out.1] at t3
      obtain ⟨q, hq⟩ : ∃ q, ((g : Int) == (v : Int)) = q := ⟨_, rfl⟩
      have hS : ((strB L).toList == (strB L').toList) = q := by
        rw [← hq, Bool.eq_iff_iff, beq_iff_eq, beq_iff_eq, show (strB L).toList = L from ByteArray.toList_mk L, show (strB L').toList = L' from ByteArray.toList_mk L']
        refine ⟨fun h => ?_, fun h => ?_⟩
        · rw [HV.out.2.1 h]
        · rw [HV.out.2.2 (by omega)]
      have hS2 : (strB L == strB L') = q := by rw [← hS]; exact beq_toListBytes _ _
      have n6 : (6 : Int) ≤ (cap2 : Int) := by omega
      have n6' : (6 : Int) ≤ (cap3 : Int) := by omega
      clear HV hL8 hL8' hub9 hub9' r7 r8 ks
      generalize strB L = S1 at *
      generalize strB L' = S2 at *
      generalize strB (L'.take 6) = S6 at *
      repeat (first | (refine rg_pure (x := ?_) rfl (by rfl) (fun W' hW' => ?_) ?_; rotate_left; (· subst hW'; go_simp; with_reducible rfl); simp only [Nat.reduceAdd, Act.put, List.setIfInBounds_toArray, List.set_cons_zero, List.set_cons_succ]) | (refine rg_skip rfl (by rfl) ?_; simp only [Nat.reduceAdd, Act.put, List.setIfInBounds_toArray, List.set_cons_zero, List.set_cons_succ]))
      refine rg_done fun W' hW hno => ?_
      subst hW
      clear hno
      go_wp2_with fail
      go_ret
      exact ⟨rfl, hw9⟩
  | some q =>
    obtain ⟨R, S, M, G⟩ := q
    simp only [Option.isSome_some, if_true]
    obtain ⟨hencx, hG⟩ := enc_of_dec hdec
    clear hdec
    go_wp2_with fail
    refine (kE R S M G hG _).mono ?_
    rintro e w3 ⟨y, rfl, hy, hx3, _⟩
    rw [hencx] at hy
    simp only [Option.getD_some] at hy
    simp only [hencx, Option.isSome_some, if_true]
    have r2 := (((Ext.alloc w2 (.cells #[.int .i64 R, .int .i64 S, .int .i64 M, .int .u16 (G : Int)] 25))).trans hx3).block r1
    have hw3 := (hw2.thenAlloc (.cells #[.int .i64 R, .int .i64 S, .int .i64 M, .int .u16 (G : Int)] 25)).trans hx3
    have t5 := ks w3 _ _ (hy.bys (by unfold maxLen; omega))
    have t6 := ks w3 _ _ (hb.ext hw3)
    obtain ⟨ay, capy, rfl⟩ := hy.slice
    obtain ⟨⟨a0, a1, a2, a3⟩, _⟩ := row4 r2
    clear hy hx3 r1 hw2
    go_wp2_with fail
    clear a0 a1 a2 a3 t5 t6
    refine (kE r s m g hg _).mono ?_
    rintro e w4 ⟨u, rfl, hu, hx4, _⟩
    have r3 := hx4.block r2
    have hw4 := hw3.trans hx4
    clear hx4 r2 hw3
    cases henc : encC r s m g with
    | none =>
      rw [henc] at hu
      simp only [Option.isSome_none, Bool.false_eq_true, if_false]
      obtain ⟨a2, cap2, rfl⟩ := hu.slice
      go_wp2_with fail
      go_ret
      exact ⟨rfl, hw4⟩
    | some L =>
      rw [henc] at hu
      simp only [Option.getD_some] at hu
      simp only [Option.isSome_some, if_true]
      obtain ⟨hdecL, hL8, hLe, hchk⟩ := dec_of_enc hg henc
      have hub := hu.bys (by unfold maxLen; omega)
      have hcap2 := hub
      obtain ⟨a2, cap2, rfl, hle2, hmx2, _⟩ := hcap2
      have kE2 := fun w => kE r s m v hgv w
      rw [show encC r s m v = some (cstBy r s m v) by unfold encC; rw [if_pos hchk]] at kE2
      have hL8' := cstBy_len r s m v
      have hvl := vec_last r s m hg hgv
      rw [← hLe] at hvl
      have kD2 := fun bv W h => kD bv L W h (by omega)
      rw [hdecL] at kD2
      generalize cstBy r s m v = L' at *
      have HV := Lib.hid hvl
      clear hvl hLe hu henc hdecL hchk kE kD kA
      simp only [Option.getD_some, Option.isSome_some, if_true] at kE2 kD2
      obtain ⟨a0, a1, a2', a3⟩ := row4a r3
      obtain ⟨⟨c0, c1, c2, c3⟩, _⟩ := row4 r3
      rw [hL8] at hub hle2 ⊢
      go_wp2_with fail
      refine (kE2 _).mono ?_
      rintro e w6 ⟨u', rfl, hu', hx6, _⟩
      have r4 := hx6.block ((Ext.alloc w4 (.cells #[.int .i64 r, .int .i64 s, .int .i64 m, .int .u16 (v : Int)] 25)).block r3)
      have hw6 := (hw4.thenAlloc (.cells #[.int .i64 r, .int .i64 s, .int .i64 m, .int .u16 (v : Int)] 25)).trans hx6
      have hub6 := (hub.alloc (.cells #[.int .i64 r, .int .i64 s, .int .i64 m, .int .u16 (v : Int)] 25)).ext hx6
      have hub' := hu'.bys (by unfold maxLen; omega)
      have hcap3 := hub'
      obtain ⟨a5, cap3, rfl, hle3, hmx3, _⟩ := hcap3
      rw [hL8'] at hub' hle3 ⊢
      clear a0 a1 a2' a3 c0 c1 c2 c3 r3 hw4 hub hu' hx6 kE2
      go_wp2_with fail
      refine (kD2 _ _ hub6).mono ?_
      rintro e w7 ⟨rfl, hx7⟩
      have r5 := (hx7.trans (Ext.alloc w7 (.cells #[.int .i64 r, .int .i64 s, .int .i64 m, .int .u16 (g : Int)] 25))).block r4
      have r6 := heap_alloc_new w7 (.cells #[.int .i64 r, .int .i64 s, .int .i64 m, .int .u16 (g : Int)] 25)
      have hw8 := (hw6.trans hx7).thenAlloc (.cells #[.int .i64 r, .int .i64 s, .int .i64 m, .int .u16 (g : Int)] 25)
      have hub8 := (hub6.ext hx7).alloc (.cells #[.int .i64 r, .int .i64 s, .int .i64 m, .int .u16 (g : Int)] 25)
      have hub8' := (hub'.ext hx7).alloc (.cells #[.int .i64 r, .int .i64 s, .int .i64 m, .int .u16 (g : Int)] 25)
      clear hx7 hw6 hub6 hub' r4 kD2
      go_wp2_with fail
      generalize w7.alloc (.cells #[.int .i64 r, .int .i64 s, .int .i64 m, .int .u16 (g : Int)] 25) = w8 at *
      have hub9 : Bys w8.drew _ L := hub8.drew
      have hub9' : Bys w8.drew _ L' := hub8'.drew
      have r7 : w8.drew.heap[w.heap.size]? = _ := r5
      have r8 : w8.drew.heap[w7.heap.size]? = _ := r6
      have hw9 := hw8.thenDrew
      refine wp_region_rg Eq [] (by kernel_rfl) (by kernel_rfl) (by kernel_rfl) (fun _ => rfl) (fun _ _ _ => Eq.trans) ?_
      intro σ
      simp only
      clear hub8 hub8' r5 r6 hw8
      generalize w8.drew = W at *
      obtain ⟨⟨c0, c1, c2, c3⟩, _⟩ := row4 r7
      obtain ⟨⟨d0, d1, d2, d3⟩, _⟩ := row4 r8
      have t1 := ks W _ _ hub9
      have t2 := ks W _ _ hub9'
      have t3 := ks W _ _ (hub9.take (i := 6) (by omega))
      have t4 := ks W _ _ (hub9'.take (i := 6) (by omega))
      rw [HV.out.1] at t3
      obtain ⟨q, hq⟩ : ∃ q, ((g : Int) == (v : Int)) = q := ⟨_, rfl⟩
      have hS : ((strB L).toList == (strB L').toList) = q := by
        rw [← hq, Bool.eq_iff_iff, beq_iff_eq, beq_iff_eq, show (strB L).toList = L from ByteArray.toList_mk L, show (strB L').toList = L' from ByteArray.toList_mk L']
        refine ⟨fun h => ?_, fun h => ?_⟩
        · rw [HV.out.2.1 h]
        · rw [HV.out.2.2 (by omega)]
      have hS2 : (strB L == strB L') = q := by rw [← hS]; exact beq_toListBytes _ _
      have n6 : (6 : Int) ≤ (cap2 : Int) := by omega
      have n6' : (6 : Int) ≤ (cap3 : Int) := by omega
      clear HV hL8 hL8' hub9 hub9' r7 r8 ks
      generalize strB L = S1 at *
      generalize strB L' = S2 at *
      generalize strB (L'.take 6) = S6 at *
      repeat (first | (refine rg_pure (x := ?_) rfl (by rfl) (fun W' hW' => ?_) ?_; rotate_left; (· subst hW'; go_simp; with_reducible rfl); simp only [Nat.reduceAdd, Act.put, List.setIfInBounds_toArray, List.set_cons_zero, List.set_cons_succ]) | (refine rg_skip rfl (by rfl) ?_; simp only [Nat.reduceAdd, Act.put, List.setIfInBounds_toArray, List.set_cons_zero, List.set_cons_succ]))
      refine rg_done fun W' hW hno => ?_
      subst hW
      clear hno
      go_wp2_with fail
      go_ret
      exact ⟨rfl, hw9⟩
end Go.Proofs.Ytkmkfkpblkhpmaa.VCst
