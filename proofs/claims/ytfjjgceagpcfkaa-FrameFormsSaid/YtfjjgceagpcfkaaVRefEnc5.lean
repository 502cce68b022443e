/- The document's Bytes, Encode, Decode of a C-state. -/
import Derived.Test.YtfjjgceagpcfkaaVBe
import Derived.Test.YtfjjgceagpcfkaaVRefPut
import Derived.Test.YtfjjgceagpcfkaaVRgBox
import Derived.Test.YtfjjgceagpcfkaaVSucc
namespace Go.Proofs.Ytfjjgceagpcfkaa.VCst
open Go.RowKit Go.VBase Go.VOct Go.VRg VOct VRefOct

theorem results_cell {fn : Func} {p : Tmp} {ty : TypeId} (h : fn.results = #[.cell p ty]) (tmps : Array Value) (P : Program) (w : World) :
    (results fn tmps).run P w = ((asAddr (tmps.getD p undef)).run P w).andThen fun a w₁ => (loadVar ty a).run P w₁ := by
  simp only [results, h]
  simp [Sem.run_bind, Result.andThen]
set_option maxRecDepth 100000 in
set_option maxHeartbeats 2000000 in
theorem Bytes_calls (r s m : Int) (g : Nat) (hg : g < 65536) (hc : chkB r s m = true) (w : World) : Calls Try.prog 52 #[cst r s m (g : Int)] w (MadeB w TB (cstBy r s m g)) := by
  obtain ⟨b0, b1, b2, b3, b4, b5⟩ := chkB_facts hc
  clear hc
  have hR := fun w => refPut_calls 4 r.toNat (by omega) w
  have hV := fun w => refPut_calls 2 g (by omega) w
  have q4 : r.toNat < 256 ^ (4 : Int).toNat := by
    have : r.toNat < 4294967296 := by omega
    simpa using this
  rw [show putB 4 r.toNat = some (beB 4 r.toNat) by unfold putB; rw [if_pos ⟨rfl, q4⟩]; rfl] at hR
  rw [show putB 2 g = some (beB 2 g) by unfold putB; rw [if_pos ⟨rfl, by simpa using hg⟩]; rfl] at hV
  unfold RPutPost at hR hV
  simp only [Option.getD_some, Option.isSome_some] at hR hV
  have c0 : IntKind.u64.wrap r = (r.toNat : Int) := by rw [IntKind.wrap_u64]; omega
  have c1 : IntKind.u8.wrap s = (s.toNat : Int) := by rw [IntKind.wrap_u8]; omega
  have c2 : IntKind.u8.wrap m = (m.toNat : Int) := by rw [IntKind.wrap_u8]; omega
  have e1 : beB 1 s.toNat = [UInt8.ofNat s.toNat] := by simp [beB, Nat.mod_eq_of_lt (show s.toNat < 256 by omega)]
  have e2 : beB 1 m.toNat = [UInt8.ofNat m.toNat] := by simp [beB, Nat.mod_eq_of_lt (show m.toNat < 256 by omega)]
  have d1 : (((UInt8.ofNat s.toNat).toNat : Nat) : Int) = (s.toNat : Int) := by simp; omega
  have d2 : (((UInt8.ofNat m.toNat).toNat : Nat) : Int) = (m.toNat : Int) := by simp; omega
  have hL : beB 4 r.toNat ++ [UInt8.ofNat s.toNat, UInt8.ofNat m.toNat] ++ beB 2 g = cstBy r s m g := by unfold cstBy; rw [e1, e2]; simp
  have hl4 := beB_len 4 r.toNat
  have hl2 := beB_len 2 g
  rw [← hL]
  generalize beB 4 r.toNat = A at *
  generalize beB 2 g = D at *
  have H12 := Lib.hid (And.intro d1 d2)
  generalize UInt8.ofNat s.toNat = B1 at *
  generalize UInt8.ofNat m.toNat = B2 at *
  generalize r.toNat = rn at *
  generalize s.toNat = sn at *
  generalize m.toNat = mn at *
  clear q4 hL e1 e2 d1 d2 b0 b1 b2 b3 b4 b5
  unfold cst
  go_enter Try.func52, Try.ntmps52
  go_wp2_with fail
  refine (hR _).mono ?_
  rintro e w1 ⟨u, rfl, hu, hx1⟩
  have r0 := hx1.block (heap_alloc_new w (.cells #[.int .i64 r, .int .i64 s, .int .i64 m, .int .u16 (g : Int)] 25))
  have hw1 := (Ext.alloc w _).trans hx1
  have hu := hu.mono (Ext.size (Ext.alloc w (.cells #[.int .i64 r, .int .i64 s, .int .i64 m, .int .u16 (g : Int)] 25)))
  obtain ⟨a1, cap1, hsl⟩ := hu.slice
  rw [hl4] at hsl
  subst hsl
  obtain ⟨⟨z0, z1, z2, z3⟩, _⟩ := row4 r0
  clear hx1 hR
  go_wp2_with fail
  refine (hV _).mono ?_
  rintro e w2 ⟨u2, rfl, hu2, hx2⟩
  have r1 := hx2.block r0
  have hw2 := hw1.trans hx2
  have hv := hu.ext hx2
  have hb2 := hu2.bys (by unfold maxLen; omega)
  have hlow : ∀ a len cap, u2 = .slice (some a) len cap → w1.heap.size ≤ a.block := fun a len cap h => (OwnB.head hu2 h).1
  have hup : ∀ k, (Value.slice a1 4 cap1).ownBlock = some k → k < w1.heap.size := fun k hk => (World.ownsRow.lt hu k hk).2
  obtain ⟨a2, cap2, hsl⟩ := hu2.slice
  rw [hl2] at hsl
  subst hsl
  clear z0 z1 z2 z3 r0 hu hu2 hx2 hV hw1
  obtain ⟨⟨z0, z1, z2, z3⟩, _⟩ := row4 r1
  have hbase : w.heap.size < w2.heap.size := (Array.getElem?_eq_some_iff.1 r1).1
  clear r1
  go_wp2_with (at_builtin; go_loud (refine wpList_append_B byteSl rfl _ _ rfl (by rfl) (by rfl) (hv.alloc _) (bys_new [B1, B2] rfl (by rw [← H12.out.1, ← H12.out.2]; rfl) rfl (by simp [maxLen])) ?hl ?hb ?hk))
  case hl => simp only [List.length_cons, List.length_nil]; omega
  case hb => simp; omega
  case hk =>
  intro v3 w3 hv3 hg3 hrow3
  have hX3 : Ext w w3 := Below.trans (hw2.thenAlloc _) (grown_below hg3 (by simp; omega) hv.lt)
  obtain ⟨a3, cap3, hsl⟩ := hv3.slice
  rw [List.length_append, hl4] at hsl
  subst hsl
  have hclr : D ≠ [] → ∀ a len cap, (Value.slice a2 2 cap2) = .slice (some a) len cap → some a.block ≠ (Value.slice a1 4 cap1).ownBlock := fun _ a len cap h e => by
    have h1 := hlow a len cap h
    have h2 := hup a.block e.symm
    omega
  have hb3 : Bys w3 (.slice a2 2 cap2) D := by
    obtain ⟨aa, cc, e, h1, h2, h3⟩ := hb2.alloc (.cells #[.int .u8 (sn : Int), .int .u8 (mn : Int)] 5)
    refine ⟨aa, cc, e, h1, h2, fun hD => ?_⟩
    obtain ⟨b, off, rfl, h4⟩ := h3 hD
    refine ⟨b, off, rfl, fun i c hi => ?_⟩
    exact hg3.cell (h4 i c hi) (hclr hD ⟨b, off, none⟩ D.length cc e)
  clear hlow hup hclr hb2 hv z0 z1 z2 z3
  go_wp2_with (at_builtin; refine wpList_append_B byteSl rfl _ _ rfl (by rfl) (by rfl) hv3 hb3 ?hl ?hb ?hk)
  case hl => simp only [List.length_append, List.length_cons, List.length_nil]; omega
  case hb => have := hX3.size; omega
  case hk =>
  intro v4 w4 hv4 hg4 hrow4
  have hX4 : Ext w w4 := Below.trans hX3 (grown_below hg4 hX3.size hv3.lt)
  obtain ⟨a4, cap4, rfl⟩ := hv4.slice
  go_wp2_with fail
  go_ret
  exact ⟨_, rfl, by simpa using hv4, hX4⟩

set_option maxRecDepth 100000 in
set_option maxHeartbeats 2000000 in
theorem refDecode_calls (v : Value) (l : List UInt8) (w : World) (hv : Bys w v l) : Calls Try.prog 59 #[v] w (DecPost (decC l) w) := by
  have hv' := hv
  obtain ⟨a, cap, rfl, hle, hmax, hcell⟩ := hv'
  by_cases h8 : l.length = 8
  · have hsl4 := hv.take (i := 4) (by omega)
    have hsl6 := hv.drop (i := 6) (by omega)
    have hN := fun v l w h1 h2 => refNumber_calls v l w h1 h2
    obtain ⟨b, off, rfl, hc⟩ := hcell (by intro e; subst e; simp at h8)
    obtain ⟨c4, h4⟩ := get_some (l := l) (k := 4) (by omega)
    obtain ⟨c5, h5⟩ := get_some (l := l) (k := 5) (by omega)
    have hc4 := hc 4 c4 h4
    have hc5 := hc 5 c5 h5
    have t4 : (l.drop 4).take 1 = [c4] := by rw [drop_cons h4]; rfl
    have t5 : (l.drop 5).take 1 = [c5] := by rw [drop_cons h5]; rfl
    have hdec : decC l = if chkB (numB (l.take 4)) (numB [c4]) (numB [c5]) = true then some ((numB (l.take 4) : Int), (numB [c4] : Int), (numB [c5] : Int), numB (l.drop 6)) else none := by
      unfold decC
      rw [t4, t5]
      simp only [h8, true_and]
    rw [hdec, show numB [c4] = c4.toNat by simp [numB], show numB [c5] = c5.toNat by simp [numB]]
    rw [if_neg (by omega), h8, show (8 : Nat) - 6 = 2 from rfl, show Option.map (fun x : Addr => x.add 6) (some ⟨b, off, none⟩) = some ⟨b, off + 6, none⟩ from rfl] at hsl6
    have hl4 : (l.take 4).length ≤ 8 := by rw [List.length_take]; omega
    have hl6 : (l.drop 6).length ≤ 8 := by rw [List.length_drop]; omega
    have b4 : numB (l.take 4) < 4294967296 := Nat.lt_of_lt_of_le (numB_lt _) (by rw [List.length_take, h8]; decide)
    have b6 : numB (l.drop 6) < 65536 := Nat.lt_of_lt_of_le (numB_lt _) (by rw [List.length_drop, h8]; decide)
    have hN4 := fun w h => hN (.slice (some ⟨b, off, none⟩) 4 cap) _ w h hl4
    have hN6 := fun w h => hN (.slice (some ⟨b, off + 6, none⟩) 2 (cap - 6)) _ w h hl6
    rw [h8] at hle hv ⊢
    have HL := Lib.hid (And.intro hsl4 hsl6)
    clear hdec t4 t5 hl4 hl6 hc h4 h5 hN hsl4 hsl6 hcell
    generalize numB (l.take 4) = n1 at *
    generalize numB (l.drop 6) = n4 at *
    have b2 := c4.toNat_lt
    have b3 := c5.toNat_lt
    generalize c4.toNat = n2 at *
    generalize c5.toNat = n3 at *
    have n6 : (6 : Int) ≤ (cap : Int) := by omega
    have n4' : (4 : Int) ≤ (cap : Int) := by omega
    have n6' : ¬ cap = 6 := by omega
    have kC := fun w => refCheck_calls (n1 : Int) (n2 : Int) (n3 : Int) (n4 : Int) w
    unfold CheckPost at kC
    obtain ⟨cb, hcb⟩ : ∃ cb, chkB (n1 : Int) (n2 : Int) (n3 : Int) = cb := ⟨_, rfl⟩
    rw [hcb] at kC ⊢
    clear hcb
    obtain ⟨y, hy⟩ : ∃ y, (if cb = true then some ((n1 : Int), (n2 : Int), (n3 : Int), n4) else none) = y := ⟨_, rfl⟩
    rw [hy]
    have HY := Lib.hid hy
    clear hy
    unfold cst at *
    go_enter Try.func59, Try.ntmps59
    go_wp2_with fail
    have hx1 := Ext.alloc w (.cells #[.int .i64 0, .int .i64 0, .int .i64 0, .int .u16 0] 25)
    have rz := heap_alloc_new w (.cells #[.int .i64 0, .int .i64 0, .int .i64 0, .int .u16 0] 25)
    generalize w.alloc (.cells #[.int .i64 0, .int .i64 0, .int .i64 0, .int .u16 0] 25) = w1 at *
    have cw1 : IntKind.i64.wrap (n1 : Int) = (n1 : Int) := by rw [IntKind.wrap_i64]; omega
    have cw2 : IntKind.i64.wrap (n2 : Int) = (n2 : Int) := by rw [IntKind.wrap_i64]; omega
    have cw3 : IntKind.i64.wrap (n3 : Int) = (n3 : Int) := by rw [IntKind.wrap_i64]; omega
    have cw4 : IntKind.u16.wrap (n4 : Int) = (n4 : Int) := by rw [IntKind.wrap_u16]; omega
    refine wp_region_box_tail 18 Ext Ext [(2, .known (.int .u64 (n1 : Int))), (14, .known (.int .u64 (n4 : Int))),
        (17, .unk (fun v W => ∃ b, v = .pointer (some ⟨b, 0, none⟩) ∧ w.heap.size < b ∧ W.heap[b]? = some (.cells #[.int .i64 0, .int .i64 0, .int .i64 0, .int .u16 0] 25)) (fun _ _ _ x ⟨b, h1, h2, h3⟩ => ⟨b, h1, h2, x.block h3⟩))] [17]
        (by kernel_rfl) (by kernel_rfl) (by kernel_rfl) (by kernel_rfl) (fun _ _ h => h) Ext.refl (fun _ _ _ => Ext.trans) Ext.refl (fun _ _ _ => Ext.trans) (fun _ _ h => h.size) ?_ ?_
    · intro i hi
      simp at hi
      subst hi
      exact ⟨rfl, fun o ho => by cases ho; exact ⟨_, fun a W => by go_simp; rfl⟩⟩
    intro σ
    simp only [List.take_succ_cons, List.take_zero, List.drop_succ_cons, List.drop_zero]
    have k0 : ∀ W, Ext w1.drew W → W.cell? ⟨b, off + 4, none⟩ = some (.int .u8 (n2 : Int)) := fun W h => h.cell (hx1.cell hc4)
    have k1 : ∀ W, Ext w1.drew W → W.cell? ⟨b, off + 5, none⟩ = some (.int .u8 (n3 : Int)) := fun W h => h.cell (hx1.cell hc5)
    repeat (first | (refine rg_pure (x := ?_) rfl (by rfl) (fun W hW => ?_) ?_; rotate_left; (· have f0 := k0 W hW; have f1 := k1 W hW; go_simp; with_reducible rfl); simp only [Nat.reduceAdd, Act.put, List.setIfInBounds_toArray, List.set_cons_zero, List.set_cons_succ]) | (refine rg_skip rfl (by rfl) ?_; simp only [Nat.reduceAdd, Act.put, List.setIfInBounds_toArray, List.set_cons_zero, List.set_cons_succ]))
    refine rg_known rfl (by rfl) (fun W hW hno => ?_) ?_
    · go_simp
      refine (hN4 W (((HL.out.1.ext hx1).ext (Ext.of_drew hW)))).mono ?_
      rintro e W' ⟨rfl, rfl⟩
      exact ⟨_, rfl, Ext.refl _, rfl⟩
    simp only [Nat.reduceAdd, Act.put, List.setIfInBounds_toArray, List.set_cons_zero, List.set_cons_succ]
    repeat (first | (refine rg_pure (x := ?_) rfl (by rfl) (fun W hW => ?_) ?_; rotate_left; (· have f0 := k0 W hW; have f1 := k1 W hW; go_simp; with_reducible rfl); simp only [Nat.reduceAdd, Act.put, List.setIfInBounds_toArray, List.set_cons_zero, List.set_cons_succ]) | (refine rg_skip rfl (by rfl) ?_; simp only [Nat.reduceAdd, Act.put, List.setIfInBounds_toArray, List.set_cons_zero, List.set_cons_succ]))
    refine rg_known rfl (by rfl) (fun W hW hno => ?_) ?_
    · go_simp
      refine (hN6 W (((HL.out.2.ext hx1).ext (Ext.of_drew hW)))).mono ?_
      rintro e W' ⟨rfl, rfl⟩
      exact ⟨_, rfl, Ext.refl _, rfl⟩
    simp only [Nat.reduceAdd, Act.put, List.setIfInBounds_toArray, List.set_cons_zero, List.set_cons_succ]
    repeat (first | (refine rg_pure (x := ?_) rfl (by rfl) (fun W hW => ?_) ?_; rotate_left; (· have f0 := k0 W hW; have f1 := k1 W hW; go_simp; with_reducible rfl); simp only [Nat.reduceAdd, Act.put, List.setIfInBounds_toArray, List.set_cons_zero, List.set_cons_succ]) | (refine rg_skip rfl (by rfl) ?_; simp only [Nat.reduceAdd, Act.put, List.setIfInBounds_toArray, List.set_cons_zero, List.set_cons_succ]))
    refine rg_unk rfl (by rfl) (fun W hW hno => ?_) ?_
    · go_simp
      exact ⟨Ext.alloc _ _, _, rfl, Nat.lt_of_lt_of_le (Array.getElem?_eq_some_iff.1 rz).1 hW.size, heap_alloc_new _ _⟩
    simp only [Nat.reduceAdd, Act.put, List.setIfInBounds_toArray, List.set_cons_zero, List.set_cons_succ]
    refine rg_done fun W hW hF => ?_
    intro _
    obtain ⟨b7, h7, l7, p7⟩ := hF 17 _ _ rfl (by decide)
    rw [h7]
    have hE := Ext.of_drew hW
    have tz := hE.block rz
    have hx2 := hx1.trans hE
    clear hF hW hE k0 k1 h7 rz hx1 hN4 hN6 hc4 hc5 HL
    show wpList _ _ _ _ _ _
    refine wpList_store_row rfl _ _ _ rfl b7 _ rfl rfl _ _ p7 (by kernel_rfl) rfl (by simp [Value.oneCell']) ?_
    have s7 := setRow_heap W b7 _ #[.int .i64 (n1 : Int), .int .i64 (n2 : Int), .int .i64 (n3 : Int), .int .u16 (n4 : Int)] _ _ p7
    have sz := (setRow_other W b7 w.heap.size #[.int .i64 (n1 : Int), .int .i64 (n2 : Int), .int .i64 (n3 : Int), .int .u16 (n4 : Int)] (by omega)).trans tz
    have hx3 : Ext w (W.setRow b7 #[.int .i64 (n1 : Int), .int .i64 (n2 : Int), .int .i64 (n3 : Int), .int .u16 (n4 : Int)]) := hx2.setRow (by omega) _
    clear p7 tz hx2
    generalize W.setRow b7 #[.int .i64 (n1 : Int), .int .i64 (n2 : Int), .int .i64 (n3 : Int), .int .u16 (n4 : Int)] = W6 at *
    simp only [Act.put]
    obtain ⟨⟨a0, a1, a2, a3⟩, _⟩ := row4 s7
    go_wp2_with fail
    refine (kC _).mono ?_
    rintro e w8 ⟨rfl, hx8⟩
    have p0 := hx8.block s7
    have pz := hx8.block sz
    have hx9 := hx3.trans hx8
    clear a0 a1 a2 a3 s7 sz hx3 hx8 kC
    obtain ⟨⟨a0, a1, a2, a3⟩, u0, u1, u2, u3⟩ := row4 p0
    obtain ⟨⟨z0, z1, z2, z3⟩, v0, v1, v2, v3⟩ := row4 pz
    cases cb with
    | false =>
      rw [if_neg (by simp)]
      obtain rfl : y = none := by rw [← HY.out]; rfl
      clear p0 pz
      go_wp2_with fail
      refine bodyPost_ret (by rw [results_cell_tmp rfl]; go_simp; rfl) rfl ?_
      exact ⟨rfl, Below.setCell (Below.setCell (Below.setCell (Below.setCell hx9 (Nat.le_refl _) _) (Nat.le_refl _) _) (Nat.le_refl _) _) (Nat.le_refl _) _⟩
    | true =>
      rw [if_pos rfl]
      obtain rfl : y = some ((n1 : Int), (n2 : Int), (n3 : Int), n4) := by rw [← HY.out]; rfl
      clear p0 pz
      go_wp2_with fail
      refine bodyPost_ret (by rw [results_cell_tmp rfl]; go_simp; rfl) rfl ?_
      exact ⟨rfl, Below.setCell (Below.setCell (Below.setCell (Below.setCell hx9 (Nat.le_refl _) _) (Nat.le_refl _) _) (Nat.le_refl _) _) (Nat.le_refl _) _⟩
  · have hd : decC l = none := by unfold decC; rw [if_neg (fun h => h8 h.1)]
    rw [hd]
    have hne : ((l.length : Int) == 8) = false := by simp; omega
    clear hcell
    go_enter Try.func59, Try.ntmps59
    go_wp2_with fail
    refine bodyPost_ret (by rw [results_cell_tmp rfl]; go_simp; rfl) rfl ?_
    exact ⟨rfl, Ext.alloc _ _⟩
end Go.Proofs.Ytfjjgceagpcfkaa.VCst
