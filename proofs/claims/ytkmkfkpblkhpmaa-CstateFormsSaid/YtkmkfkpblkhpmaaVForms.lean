/- CstateForms: the walk. -/
import Derived.Test.YtkmkfkpblkhpmaaVRefEnc
import Derived.Test.YtkmkfkpblkhpmaaVBack
import Derived.Test.YtkmkfkpblkhpmaaVSet
import Derived.Test.YtkmkfkpblkhpmaaVRef01
namespace Go.Proofs.Ytkmkfkpblkhpmaa.VCst
open Go.RowKit Go.VBase Go.VOct Go.VRg VOct

set_option maxRecDepth 100000 in
set_option maxHeartbeats 4000000 in
theorem Forms_any (r s m : Int) (g : Nat) (hg : g < 65536) (bv : Value) (l : List UInt8) (w : World) (hb : Bys w bv l) :
    Calls Try.prog 5 #[cst r s m (g : Int), bv] w fun e w' => e = .returned (.bool true) ∧ Ext w w' := by
  have ks := fun (W : World) (v : Value) (l : List UInt8) (h : Bys W v l) => run_string_bys (P := Try.prog) Try.underlying41 Try.underlying5 Try.underlying9 h
  have kE := fun w => Encode_calls r s m g hg w
  have kF := fun w => refEncode_calls r s m g hg w
  have kC := fun w => Check_calls r s m (g : Int) w
  have kR := fun w => refCheck_calls r s m (g : Int) w
  unfold EncPost at kE kF
  unfold CheckPost at kC kR
  have hb' := hb
  obtain ⟨ba, bcap, rfl, _, _, _⟩ := hb'
  have hxl : ((encC r s m g).getD []).length ≤ 8 := by
    unfold encC
    split
    · simp [cstBy_len]
    · simp
  generalize (encC r s m g).getD [] = X at *
  generalize (if (encC r s m g).isSome = true then (0 : Int) else 40) = ne at *
  generalize (if chkB r s m = true then (0 : Int) else 40) = ck at *
  by_cases hl : 100 < l.length
  · have hd : decide (100 < (l.length : Int)) = true := decide_eq_true (by omega)
    clear hl kE kF ks
    unfold cst
    go_enter Try.func5, Try.ntmps5
    go_wp2_with fail
    go_ret
    exact ⟨rfl, Ext.alloc _ _⟩
  have hd : decide (100 < (l.length : Int)) = false := decide_eq_false (by omega)
  have hll : l.length ≤ 100 := by omega
  have key : ∃ (p0 p1 p2 p3 de : Int), (∀ v w, Bys w v l → Calls Try.prog 24 #[v] w fun e w' => e = .returned (.tuple #[cst p0 p1 p2 p3, .int .i64 de]) ∧ Ext w w') ∧
      (∀ v w, Bys w v l → Calls Try.prog 25 #[v] w fun e w' => e = .returned (.tuple #[cst p0 p1 p2 p3, .int .i64 de]) ∧ Ext w w') := by
    have kD := fun v w h => Decode_calls v l w h (by omega)
    have kG := fun v w h => refDecode_calls v l w h
    unfold DecPost at kD kG
    cases hdc : decC l with
    | none => rw [hdc] at kD kG; exact ⟨0, 0, 0, 0, 40, kD, kG⟩
    | some q =>
      obtain ⟨a, b, c, d⟩ := q
      rw [hdc] at kD kG
      exact ⟨a, b, c, d, 0, kD, kG⟩
  obtain ⟨p0, p1, p2, p3, de, kD, kG⟩ := key
  clear hl
  unfold cst at *
  go_enter Try.func5, Try.ntmps5
  go_wp2_with fail
  have r0 := heap_alloc_new w (.cells #[.int .i64 r, .int .i64 s, .int .i64 m, .int .u16 (g : Int)] 25)
  have hx0 := Ext.alloc w (.cells #[.int .i64 r, .int .i64 s, .int .i64 m, .int .u16 (g : Int)] 25)
  generalize w.alloc (.cells #[.int .i64 r, .int .i64 s, .int .i64 m, .int .u16 (g : Int)] 25) = w0 at *
  refine (VRef01.Twin_calls _ l _ (hb.ext hx0) (by omega)).mono ?_
  rintro e w1 ⟨own, rfl, hown, h1⟩
  have hob := hown.bys (by unfold maxLen; omega)
  have hw1 := hx0.trans h1
  have r1 := h1.block r0
  obtain ⟨oa, ocap, rfl⟩ := hown.slice
  obtain ⟨⟨a0, a1, a2, a3⟩, _⟩ := row4 r1
  clear hown h1 r0 hx0
  go_wp2_with fail
  refine (kE _).mono ?_
  rintro e w2 ⟨ux, rfl, hx, h2, _⟩
  have hob2 := hob.ext h2
  have hw2 := hw1.trans h2
  have r2 := h2.block r1
  have hxb := hw1.size
  have hxb1 : w.heap.size < w1.heap.size := (Array.getElem?_eq_some_iff.1 r1).1
  clear a0 a1 a2 a3 h2 r1 hw1 hob
  obtain ⟨⟨a0, a1, a2, a3⟩, _⟩ := row4 r2
  obtain ⟨ax, cx, rfl⟩ := hx.slice
  go_wp2_with fail
  refine (kF _).mono ?_
  rintro e w3 ⟨uy, rfl, hy, h3, _⟩
  have hob3 := hob2.ext h3
  have hw3 := hw2.trans h3
  have r3 := h3.block r2
  have hx3 := hx.ext h3
  have hxlt : ∀ k, (Value.slice ax X.length cx).ownBlock = some k → k < w2.heap.size := fun k hk => (World.ownsRow.lt hx k hk).2
  clear a0 a1 a2 a3 h3 r2 hob2 hx
  obtain ⟨ay, cy, rfl⟩ := hy.slice
  go_wp2_with fail
  refine (kD _ _ hob3).mono ?_
  rintro e w4 ⟨rfl, h4⟩
  have hE4 := h4.trans (Ext.alloc w4 (.cells #[.int .i64 p0, .int .i64 p1, .int .i64 p2, .int .u16 p3] 25))
  have hob5 := hob3.ext hE4
  have hw5 := hw3.trans hE4
  have r5 := hE4.block r3
  have hx5 := hx3.ext hE4
  have hy5 := hy.ext hE4
  have s5 := heap_alloc_new w4 (.cells #[.int .i64 p0, .int .i64 p1, .int .i64 p2, .int .u16 p3] 25)
  clear h4 hE4 hob3 hw3 r3 hx3 hy kD
  go_wp2_with fail
  generalize w4.alloc (.cells #[.int .i64 p0, .int .i64 p1, .int .i64 p2, .int .u16 p3] 25) = w5 at *
  generalize w4.heap.size = bu at *
  refine (kG _ _ (hb.ext hw5)).mono ?_
  rintro e w6 ⟨rfl, h6⟩
  have hE6 := h6.trans (Ext.alloc w6 (.cells #[.int .i64 p0, .int .i64 p1, .int .i64 p2, .int .u16 p3] 25))
  have hob7 := hob5.ext hE6
  have hw7 := hw5.trans hE6
  have r7 := hE6.block r5
  have hx7 := hx5.ext hE6
  have hy7 := hy5.ext hE6
  have s7 := hE6.block s5
  have t7 := heap_alloc_new w6 (.cells #[.int .i64 p0, .int .i64 p1, .int .i64 p2, .int .u16 p3] 25)
  clear h6 hE6 hob5 hw5 r5 hx5 hy5 s5 kG
  go_wp2_with fail
  generalize w6.alloc (.cells #[.int .i64 p0, .int .i64 p1, .int .i64 p2, .int .u16 p3] 25) = w7 at *
  generalize w6.heap.size = bv at *
  have hxb7 := hx7.bys (by unfold maxLen; omega)
  have hyb7 := hy7.bys (by unfold maxLen; omega)
  have hb7 := hb.ext hw7
  obtain ⟨⟨a0, a1, a2, a3⟩, _⟩ := row4 r7
  obtain ⟨⟨b0, b1, b2, b3⟩, _⟩ := row4 s7
  obtain ⟨⟨c0, c1, c2, c3⟩, _⟩ := row4 t7
  refine wp_region_rg Ext [(22, .known (.int .i64 ck)), (24, .known (.int .i64 ck))] (by kernel_rfl) (by kernel_rfl) (by kernel_rfl) Ext.refl (fun _ _ _ => Ext.trans) ?_
  intro σ
  simp only
  have k0 : ∀ W, Ext w7.drew W → W.cell? ⟨w.heap.size, 0, none⟩ = some (.int .i64 r) ∧ W.cell? ⟨w.heap.size, 1, none⟩ = some (.int .i64 s) ∧ W.cell? ⟨w.heap.size, 2, none⟩ = some (.int .i64 m) ∧ W.cell? ⟨w.heap.size, 3, none⟩ = some (.int .u16 (g : Int)) := fun W h => ⟨h.cell a0, h.cell a1, h.cell a2, h.cell a3⟩
  have k1 : ∀ W, Ext w7.drew W → W.cell? ⟨bu, 0, none⟩ = some (.int .i64 p0) ∧ W.cell? ⟨bu, 1, none⟩ = some (.int .i64 p1) ∧ W.cell? ⟨bu, 2, none⟩ = some (.int .i64 p2) ∧ W.cell? ⟨bu, 3, none⟩ = some (.int .u16 p3) := fun W h => ⟨h.cell b0, h.cell b1, h.cell b2, h.cell b3⟩
  have k2 : ∀ W, Ext w7.drew W → W.cell? ⟨bv, 0, none⟩ = some (.int .i64 p0) ∧ W.cell? ⟨bv, 1, none⟩ = some (.int .i64 p1) ∧ W.cell? ⟨bv, 2, none⟩ = some (.int .i64 p2) ∧ W.cell? ⟨bv, 3, none⟩ = some (.int .u16 p3) := fun W h => ⟨h.cell c0, h.cell c1, h.cell c2, h.cell c3⟩
  have k3 : ∀ W, Ext w7.drew W → (convert 41 9 (.slice ax X.length cx)).run Try.prog W = .ok (.string (strB X)) W ∧ (convert 41 9 (.slice ay X.length cy)).run Try.prog W = .ok (.string (strB X)) W := fun W h => ⟨ks W _ _ (hxb7.ext (Ext.of_drew h)), ks W _ _ (hyb7.ext (Ext.of_drew h))⟩
  have k4 : ∀ W, Ext w7.drew W → (convert 41 9 (.slice oa l.length ocap)).run Try.prog W = .ok (.string (strB l)) W ∧ (convert 41 9 (.slice ba l.length bcap)).run Try.prog W = .ok (.string (strB l)) W := fun W h => ⟨ks W _ _ (hob7.ext (Ext.of_drew h)), ks W _ _ (hb7.ext (Ext.of_drew h))⟩
  have HL := Lib.hid (And.intro hxl hll)
  clear hxl hll
  generalize strB l = S2 at *
  obtain ⟨S1, hS1⟩ : ∃ z, strB X = z := ⟨_, rfl⟩
  rw [hS1] at k3
  repeat (first | (refine rg_pure (x := ?_) rfl (by rfl) (fun W hW => ?_) ?_; rotate_left; (· obtain ⟨e0, e1, e2, e3⟩ := k0 W hW; obtain ⟨f0, f1, f2, f3⟩ := k1 W hW; obtain ⟨g0, g1, g2, g3⟩ := k2 W hW; obtain ⟨h0, h1⟩ := k3 W hW; obtain ⟨i0, i1⟩ := k4 W hW; go_simp; with_reducible rfl); simp only [Nat.reduceAdd, Act.put, List.setIfInBounds_toArray, List.set_cons_zero, List.set_cons_succ]) | (refine rg_skip rfl (by rfl) ?_; simp only [Nat.reduceAdd, Act.put, List.setIfInBounds_toArray, List.set_cons_zero, List.set_cons_succ]))
  refine rg_known rfl (by rfl) (fun W hW hno => ?_) ?_
  · go_simp
    refine (kC W).mono ?_
    rintro e W' ⟨rfl, h⟩
    exact ⟨_, rfl, h, rfl⟩
  simp only [Nat.reduceAdd, Act.put, List.setIfInBounds_toArray, List.set_cons_zero, List.set_cons_succ]
  repeat (first | (refine rg_pure (x := ?_) rfl (by rfl) (fun W hW => ?_) ?_; rotate_left; (· obtain ⟨e0, e1, e2, e3⟩ := k0 W hW; obtain ⟨f0, f1, f2, f3⟩ := k1 W hW; obtain ⟨g0, g1, g2, g3⟩ := k2 W hW; obtain ⟨h0, h1⟩ := k3 W hW; obtain ⟨i0, i1⟩ := k4 W hW; go_simp; with_reducible rfl); simp only [Nat.reduceAdd, Act.put, List.setIfInBounds_toArray, List.set_cons_zero, List.set_cons_succ]) | (refine rg_skip rfl (by rfl) ?_; simp only [Nat.reduceAdd, Act.put, List.setIfInBounds_toArray, List.set_cons_zero, List.set_cons_succ]))
  refine rg_known rfl (by rfl) (fun W hW hno => ?_) ?_
  · go_simp
    refine (kR W).mono ?_
    rintro e W' ⟨rfl, h⟩
    exact ⟨_, rfl, h, rfl⟩
  simp only [Nat.reduceAdd, Act.put, List.setIfInBounds_toArray, List.set_cons_zero, List.set_cons_succ]
  repeat (first | (refine rg_pure (x := ?_) rfl (by rfl) (fun W hW => ?_) ?_; rotate_left; (· obtain ⟨e0, e1, e2, e3⟩ := k0 W hW; obtain ⟨f0, f1, f2, f3⟩ := k1 W hW; obtain ⟨g0, g1, g2, g3⟩ := k2 W hW; obtain ⟨h0, h1⟩ := k3 W hW; obtain ⟨i0, i1⟩ := k4 W hW; go_simp; with_reducible rfl); simp only [Nat.reduceAdd, Act.put, List.setIfInBounds_toArray, List.set_cons_zero, List.set_cons_succ]) | (refine rg_skip rfl (by rfl) ?_; simp only [Nat.reduceAdd, Act.put, List.setIfInBounds_toArray, List.set_cons_zero, List.set_cons_succ]))
  refine rg_done fun W hW hno => ?_
  have hE := Ext.of_drew hW
  have hw8 := hw7.trans hE
  have r8 := hE.block r7
  have hx8 := hx7.ext hE
  have hy8 := hy7.ext hE
  clear hno hW hE k0 k1 k2 k3 k4 a0 a1 a2 a3 b0 b1 b2 b3 c0 c1 c2 c3 r7 s7 t7 hx7 hy7 hob7 hxb7 hyb7 hb7 hw7 kC kR hS1
  go_wp2_with fail
  go_loopw [79] (fun i wr => ∃ (j : Nat) (X' : List UInt8), j ≤ X.length ∧ i = .int .i64 (j : Int) ∧ X'.length = X.length ∧ OwnB wr w1.heap.size TB (.slice ax X.length cx) X' ∧ OwnB wr w2.heap.size TB (.slice ay X.length cy) X ∧ wr.heap[w.heap.size]? = some (.cells #[.int .i64 r, .int .i64 s, .int .i64 m, .int .u16 (g : Int)] 25) ∧ Ext w wr) (fun i _ => X.length - (intOf i).toNat)
  case atStart => exact ⟨0, X, by omega, rfl, rfl, hx8, hy8, r8, hw8⟩
  case round =>
    clear hx8 hy8 r8 hw8
    obtain ⟨j, X', hj, rfl, hXl, hx8, hy8, r8, hw8⟩ := hrel
    have hj8 : j ≤ 8 := by have := HL.out.1; omega
    by_cases hlt : j < X.length
    · have hd2 : decide ((j : Int) < (X.length : Int)) = true := decide_eq_true (by omega)
      obtain ⟨c, hc⟩ := get_some (l := X') (k := j) (by omega)
      obtain ⟨gx, cx', hv0, hgb, -, hcap, hcells⟩ := hx8.row (by intro e; subst e; simp at hc)
      simp only [Value.slice.injEq] at hv0
      obtain ⟨rfl, -, rfl⟩ := hv0
      obtain ⟨hce, hfr⟩ := hcells j c hc
      have hlt2 := hxlt gx rfl
      have hSx := hx8.set j (by omega) (c + 1)
      have hSy : OwnB (wr.setCell ⟨gx, j, none⟩ (.int .u8 ((c + 1).toNat : Int))) w2.heap.size TB (.slice ay X.length cy) X := ownsRow_setCell_below hy8 hlt2 _
      have r9 := (heap_setCell_other wr ⟨gx, j, none⟩ w.heap.size (.int .u8 ((c + 1).toNat : Int)) (by show w.heap.size ≠ gx; omega)).trans r8
      have hw9 : Ext w (wr.setCell ⟨gx, j, none⟩ (.int .u8 ((c + 1).toNat : Int))) := Below.setCell hw8 (by show w.heap.size ≤ gx; omega) _
      have hcv : IntKind.u8.wrap ((c.toNat : Int) + 1) = ((c + 1).toNat : Int) := by rw [IntKind.wrap_u8, UInt8.toNat_add]; simp
      have hjx : (j : Int) < (X.length : Int) := by omega
      have HS := Lib.hid (And.intro hSx (And.intro hSy (And.intro r9 hw9)))
      clear hSx hSy r9 hw9 hx8 hy8 r8 hw8 hcells hcap
      have hcl := c.toNat_lt
      generalize (c + 1).toNat = c1 at *
      generalize c.toNat = c0 at *
      go_wp2_with fail
      go_round
      · exact ⟨j + 1, X'.set j (c + 1), by omega, by go_num, by simp [hXl], HS.out.1, HS.out.2.1, HS.out.2.2.1, HS.out.2.2.2⟩
      · simp [intOf]; omega
    · have hd2 : decide ((j : Int) < (X.length : Int)) = false := decide_eq_false (by omega)
      obtain ⟨⟨a0, a1, a2, a3⟩, _⟩ := row4 r8
      go_wp2_with fail
      refine (kE _).mono ?_
      rintro e w9 ⟨uz, rfl, hz, h9, _⟩
      have hy9 := (hy8.ext h9).bys (by unfold maxLen; have := HL.out.1; omega)
      have hz9 := hz.bys (by unfold maxLen; have := HL.out.1; omega)
      have q1 := ks w9 _ _ hy9
      have q2 := ks w9 _ _ hz9
      have hw10 := hw8.trans h9
      obtain ⟨az, cz, rfl⟩ := hz.slice
      generalize strB X = S3 at *
      clear hy9 hz9 hz h9 a0 a1 a2 a3 hy8 hx8 ks
      go_wp2_with fail
      go_ret
      exact ⟨rfl, hw10⟩
end Go.Proofs.Ytkmkfkpblkhpmaa.VCst
