/- FrameFits: the walk. -/
import Derived.Test.YtfjjgceagpcfkaaVFrmRB
import Derived.Test.YtfjjgceagpcfkaaVFrmF
import Derived.Test.YtfjjgceagpcfkaaVFrmU
namespace Go.Proofs.Ytfjjgceagpcfkaa.VSta
open Go.RowKit Go.VBase Go.VRg Go.VEq Go.VOct VOct VCst Go.Proofs.Ytfjjgceagpcfkaa.VCrc _root_.Go.VCrc VMsg

set_option maxRecDepth 100000 in
set_option maxHeartbeats 8000000 in
theorem FitsL_any (b : Value) (l : List UInt8) (r s m v : Int) (w : World) (hb : Bys w b l) (hv0 : 0 ≤ v) (hv : v < 65536) :
    Calls Try.prog 4 #[b, cst r s m v] w fun e w' => e = .returned (.bool true) ∧ Ext w w' := by
  have ks := fun (W : World) (v : Value) (l : List UInt8) (h : Bys W v l) => run_string_bys (P := Try.prog) Try.underlying26 Try.underlying5 Try.underlying9 h
  obtain ⟨va, vc, rfl⟩ : ∃ a c, b = .slice a l.length c := by obtain ⟨a, c, h, _⟩ := hb; exact ⟨a, c, h⟩
  unfold cst
  have x0 := Ext.alloc w (.cells #[.int .i64 r, .int .i64 s, .int .i64 m, .int .u16 v] 25)
  have r0 := heap_alloc_new w (.cells #[.int .i64 r, .int .i64 s, .int .i64 m, .int .u16 v] 25)
  by_cases hA : 1200 < l.length
  · have dA : decide ((1200 : Int) < (l.length : Int)) = true := decide_eq_true (by omega)
    clear hA ks r0
    go_enter Try.func4, Try.ntmps4
    go_wp2_with fail
    go_ret
    exact ⟨rfl, x0⟩
  have dA : decide ((1200 : Int) < (l.length : Int)) = false := decide_eq_false (by omega)
  have hl : l.length ≤ 1200 := by omega
  have kF := fun v' W h => frmFits_calls v' l r s m v W h (by omega) hv0 hv
  have kR := fun v' W h => refFFits_calls v' l r s m v W h (by omega) hv0 hv
  have hcl : ((l ++ [(7 : UInt8)]).take ((l ++ [(7 : UInt8)]).length - 1)) = l := by
    rw [List.length_append, List.length_singleton, Nat.add_sub_cancel, List.take_left]
  have kC := fun v' W h => frmCut_calls v' (l ++ [7]) W h (by rw [List.length_append, List.length_singleton]; omega)
  rw [hcl] at kC
  unfold MadeB at kC
  unfold cst at kF kR
  have hN : (l ++ [(7 : UInt8)]).length = l.length + 1 := by rw [List.length_append, List.length_singleton]
  have htk : (l ++ [(7 : UInt8)]).take l.length = l := List.take_left
  have hcat := strB_snocF l 7
  have HT := Lib.hid (And.intro hN (And.intro htk hcat))
  have HL := Lib.hid hl
  have HB := Lib.hid hb
  have hb0 := hb.ext x0
  clear hA hl hcl hN htk hb hcat
  generalize fitsF l r s m v = F at *
  go_enter Try.func4, Try.ntmps4
  go_wp2_with fail
  refine (VRef01.Twin_calls _ l _ hb0 (by have := HL.out; omega)).mono ?_
  rintro e w1 ⟨u, rfl, hu, h1⟩
  have x1 := x0.trans h1
  have r1 := h1.block r0
  have hlow := hu.lt
  obtain ⟨ua, uc, rfl⟩ := hu.slice
  clear hb0 x0 r0
  go_wp2_with (at_builtin; refine wpList_append_B VRef01.byteSl rfl _ _ rfl (by rfl) (by rfl) (hu.alloc _) (bys_new [7] rfl rfl rfl (by simp [maxLen])) ?hl ?hb ?hk)
  case hl => have := HL.out; simp only [List.length_cons, List.length_nil]; omega
  case hb => have := h1.size; simp at this ⊢; omega
  case hk =>
  intro u2 w2 hu2 hg2 _
  have x12 : Ext (w.alloc (.cells #[.int .i64 r, .int .i64 s, .int .i64 m, .int .u16 v] 25)) w2 := Below.trans (h1.thenAlloc _) (grown_below hg2 (Nat.le_trans h1.size (by simp)) hlow)
  have x2 := (Ext.alloc w (.cells #[.int .i64 r, .int .i64 s, .int .i64 m, .int .u16 v] 25)).trans x12
  have r2 := x12.block (heap_alloc_new w (.cells #[.int .i64 r, .int .i64 s, .int .i64 m, .int .u16 v] 25))
  have hob := hu2.bys (by have := HL.out; have := HT.out.1; unfold maxLen; omega)
  obtain ⟨ao, co, rfl⟩ := hu2.slice
  have hco : l.length ≤ co := by obtain ⟨a, c, h, h2, _⟩ := hob; cases h; have := HT.out.1; omega
  have hot := hob.take (i := l.length) (by rw [HT.out.1]; omega)
  rw [HT.out.2.1] at hot
  have hlk : (l.length : Int) ≤ (co : Int) := by omega
  generalize (l ++ [(7 : UInt8)]).length = N at *
  have HNE := Lib.hid HT.out.1
  clear hu hu2 hg2 h1 x1 r1 x12 hlow
  go_wp2_with fail
  have k0 : ∀ W, Ext w2.drew W → (W.cell? ⟨w.heap.size, 0, none⟩ = some (.int .i64 r) ∧ W.cell? ⟨w.heap.size, 1, none⟩ = some (.int .i64 s) ∧ W.cell? ⟨w.heap.size, 2, none⟩ = some (.int .i64 m) ∧ W.cell? ⟨w.heap.size, 3, none⟩ = some (.int .u16 v)) ∧ Ext w2 W := fun W h =>
    have y : Ext w2 W := Ext.of_drew h
    have q := y.block r2
    ⟨⟨cell_of_row _ _ 0 _ _ _ q, cell_of_row _ _ 1 _ _ _ q, cell_of_row _ _ 2 _ _ _ q, cell_of_row _ _ 3 _ _ _ q⟩, y⟩
  refine wp_region_rg Ext [(5, .known (.bool F))] (by kernel_rfl) (by kernel_rfl) (by kernel_rfl) Ext.refl (fun _ _ _ => Ext.trans) ?_
  intro σ
  simp only
  repeat (first | (refine rg_pure (x := ?_) rfl (by rfl) (fun W hW => ?_) ?_; rotate_left; (· obtain ⟨⟨a1, a2, a3, a4⟩, _⟩ := k0 W hW; go_simp; with_reducible rfl); simp only [Nat.reduceAdd, Act.put, List.setIfInBounds_toArray, List.set_cons_zero, List.set_cons_succ]))
  refine rg_known rfl (by rfl) (fun W hW hF => ?_) ?_
  · go_simp
    refine (kF _ W (hot.ext (k0 W hW).2)).mono ?_
    rintro e W' ⟨rfl, h⟩
    exact ⟨_, rfl, h, rfl⟩
  simp only [Nat.reduceAdd, Act.put, List.setIfInBounds_toArray, List.set_cons_zero, List.set_cons_succ]
  repeat (first | (refine rg_pure (x := ?_) rfl (by rfl) (fun W hW => ?_) ?_; rotate_left; (· obtain ⟨⟨a1, a2, a3, a4⟩, _⟩ := k0 W hW; go_simp; with_reducible rfl); simp only [Nat.reduceAdd, Act.put, List.setIfInBounds_toArray, List.set_cons_zero, List.set_cons_succ]))
  refine rg_done fun W hW hF => ?_
  obtain ⟨⟨c0, c1, c2, c3⟩, xW⟩ := k0 W hW
  have x3 := x2.trans xW
  have hob3 := hob.ext xW
  clear hF hW k0 kF hot hob r2 x2 xW
  go_wp2_with fail
  refine (kR _ _ (HB.out.ext x3)).mono ?_
  rintro e w4 ⟨rfl, h4⟩
  have x4 := x3.trans h4
  have hob4 := hob3.ext h4
  have q1 := ks w4 _ _ hob4
  have q2 := ks w4 _ _ (HB.out.ext x4)
  have hcat := HT.out.2.2
  have hsz4 : (strB l).size ≤ 5000 := by have := HL.out; show (l.toArray).size ≤ 5000; simpa using (by omega : l.length ≤ 5000)
  have hsz4' : ¬ 9223372036854775807 < (strB l).size + 1 := by omega
  generalize strB (l ++ [7]) = S3 at *
  generalize strB l = S4 at *
  clear kR c0 c1 c2 c3 hob3 x3 h4 ks HT
  go_wp2_with fail
  refine (kC _ _ hob4).mono ?_
  rintro e w5 ⟨u5, rfl, hu5, h5⟩
  have x5 := x4.trans h5
  obtain ⟨a5, c5, rfl⟩ := hu5.slice
  clear kC hob4 x4 h5 q1 q2 hu5
  go_wp2_with fail
  go_ret
  exact ⟨rfl, x5⟩
end Go.Proofs.Ytfjjgceagpcfkaa.VSta
