/- frame.Fits. -/
import Derived.Test.YtcdaelgnankmfaaVFrmB
import Derived.Test.YtcdaelgnankmfaaVFrmQ
namespace Go.Proofs.Ytcdaelgnankmfaa.VSta
open Go.RowKit Go.VBase Go.VRg Go.VSeq Go.VOct VOct VCst Go.Proofs.Ytcdaelgnankmfaa.VCrc _root_.Go.VCrc VMsg

theorem Bys.full {w : World} {a : Option Addr} {n cap : Nat} {l : List UInt8} (h : Bys w (.slice a n cap) l) {i : Nat} (hi : i ≤ l.length) : Bys w (.slice a i i) (l.take i) := by
  have h2 := h.take hi
  obtain ⟨a', cap', h1, h2, h3, h4⟩ := h2
  have hlen : (l.take i).length = i := by rw [List.length_take]; omega
  simp only [Value.slice.injEq] at h1
  obtain ⟨rfl, -, rfl⟩ := h1
  exact ⟨a, i, by rw [hlen], by omega, by omega, h4⟩

set_option maxRecDepth 100000 in
set_option maxHeartbeats 8000000 in
theorem frmFits_calls (b : Value) (l : List UInt8) (r s m v : Int) (w : World) (hb : Bys w b l) (hl : l.length ≤ 100000) (hv0 : 0 ≤ v) (hv : v < 65536) :
    Calls Try.prog 60 #[b, cst r s m v] w fun e w' => e = .returned (.bool (fitsF l r s m v)) ∧ Ext w w' := by
  have kD := fun W h => frmDecode_calls b l W h hl
  unfold DecFPost at kD
  have kE := fun W => Encode_calls r s m v.toNat (by omega) W
  rw [show ((v.toNat : Nat) : Int) = v by omega] at kE
  unfold EncPost at kE
  have hxc : encC r s m v.toNat = if chkB r s m = true then some (cstBy r s m v.toNat) else none := rfl
  obtain ⟨X, hX⟩ : ∃ X, fitsF l r s m v = X := ⟨_, rfl⟩
  rw [hX]
  unfold fitsF at hX
  have hdec : ∀ f, decF l = some f → 5 ≤ l.length := fun f h => by
    obtain ⟨hc, -, -, -, ⟨t, ht, hlt⟩, -⟩ := dec_back h
    have := front_len hc
    have := (long_le hc).2
    rw [hlt, List.length_append, ht]; omega
  have HV := Lib.hid (And.intro hdec hl)
  clear hdec hl
  generalize decF l = d at *
  generalize encC r s m v.toNat = ec at *
  have HX := Lib.hid (And.intro hX hxc)
  clear hX hxc
  obtain ⟨va, vc, rfl⟩ : ∃ a c, b = .slice a l.length c := by obtain ⟨a, c, h, _⟩ := hb; exact ⟨a, c, h⟩
  unfold cst at *
  have x0 := Ext.alloc w (.cells #[.int .i64 r, .int .i64 s, .int .i64 m, .int .u16 v] 25)
  have r0 := heap_alloc_new w (.cells #[.int .i64 r, .int .i64 s, .int .i64 m, .int .u16 v] 25)
  have HB := Lib.hid hb
  have hb0 := hb.ext x0
  clear hb
  go_enter Try.func60, Try.ntmps60
  go_wp2_with fail
  refine (kD _ hb0).mono ?_
  rintro e w1 ⟨u, rfl, hu, h1⟩
  have x1 := x0.trans h1
  have r1 := h1.block r0
  obtain ⟨ua, uc, rfl⟩ := hu.slice
  clear kD hb0 x0 r0 h1 hu
  generalize hF : d.getD (frm0 0) = f at *
  have rz := heap_alloc_new w1 (.cells #[.int .i64 0, .int .i64 0, .int .i64 0, .int .i64 0, .int .u16 0, .slice none 0 0] TFrm)
  have r4 := setRow_heap (w1.alloc (.cells #[.int .i64 0, .int .i64 0, .int .i64 0, .int .i64 0, .int .u16 0, .slice none 0 0] TFrm)) w1.heap.size _ (frmC f (.slice ua f.b.length uc)) _ _ rz
  have x4 : Ext w1 ((w1.alloc (.cells #[.int .i64 0, .int .i64 0, .int .i64 0, .int .i64 0, .int .u16 0, .slice none 0 0] TFrm)).setRow w1.heap.size (frmC f (.slice ua f.b.length uc))) := (Ext.alloc _ _).setRow (Nat.le_refl _) _
  have r1n := x4.block r1
  have x5 := x1.trans x4
  have c0 : ((w1.alloc (.cells #[.int .i64 0, .int .i64 0, .int .i64 0, .int .i64 0, .int .u16 0, .slice none 0 0] TFrm)).setRow w1.heap.size (frmC f (.slice ua f.b.length uc))).cell? ⟨w.heap.size, 0, none⟩ = some (.int .i64 r) := cell_of_row _ _ 0 _ _ _ r1n
  have c1 : ((w1.alloc (.cells #[.int .i64 0, .int .i64 0, .int .i64 0, .int .i64 0, .int .u16 0, .slice none 0 0] TFrm)).setRow w1.heap.size (frmC f (.slice ua f.b.length uc))).cell? ⟨w.heap.size, 1, none⟩ = some (.int .i64 s) := cell_of_row _ _ 1 _ _ _ r1n
  have c2 : ((w1.alloc (.cells #[.int .i64 0, .int .i64 0, .int .i64 0, .int .i64 0, .int .u16 0, .slice none 0 0] TFrm)).setRow w1.heap.size (frmC f (.slice ua f.b.length uc))).cell? ⟨w.heap.size, 2, none⟩ = some (.int .i64 m) := cell_of_row _ _ 2 _ _ _ r1n
  have c3 : ((w1.alloc (.cells #[.int .i64 0, .int .i64 0, .int .i64 0, .int .i64 0, .int .u16 0, .slice none 0 0] TFrm)).setRow w1.heap.size (frmC f (.slice ua f.b.length uc))).cell? ⟨w.heap.size, 3, none⟩ = some (.int .u16 v) := cell_of_row _ _ 3 _ _ _ r1n
  have HW := Lib.hid (And.intro r1n (And.intro x5 r4))
  clear r1 x1 x4 r1n x5 r4
  obtain ⟨z, hz⟩ : ∃ z : Int, (if d.isSome = true then 0 else 50) = z := ⟨_, rfl⟩
  rw [hz]
  have HZ := Lib.hid (And.intro hz hF)
  clear hz hF
  go_wp2_with (refine storeFrm (m := f) (sa := ua) (sn := f.b.length) (sc := uc) rz rfl rfl rfl rfl rfl ?_)
  refine (kE _).mono ?_
  rintro e w2 ⟨us, rfl, hus, h2, -⟩
  have r1n := h2.block HW.out.1
  have r4 := h2.block HW.out.2.2
  have x2 := HW.out.2.1.trans h2
  clear kE c0 c1 c2 c3 rz HW h2
  obtain ⟨sa, sc, rfl⟩ := hus.slice
  cases d with
  | none =>
    have hz : z = 50 := HZ.out.1.symm
    subst hz
    have hx : X = false := HX.out.1.symm
    subst hx
    obtain ⟨z2, hz2⟩ : ∃ z : Int, (if ec.isSome = true then 0 else 40) = z := ⟨_, rfl⟩
    rw [hz2]
    clear r1n r4 hus hz2
    go_wp2_with fail
    go_ret
    exact ⟨rfl, x2⟩
  | some f' =>
    have hz : z = 0 := HZ.out.1.symm
    subst hz
    have hff : f' = f := HZ.out.2
    subst hff
    cases ec with
    | none =>
      have hx : X = false := by
        have h1 := HX.out.1
        have h2 := HX.out.2
        cases hc : chkB r s m with
        | true => rw [hc] at h2; simp at h2
        | false => rw [hc] at h1; simpa using h1.symm
      subst hx
      clear r1n r4 hus
      go_wp2_with fail
      go_ret
      exact ⟨rfl, x2⟩
    | some el =>
      have hel : chkB r s m = true ∧ el = cstBy r s m v.toNat := by
        have h2 := HX.out.2
        cases hc : chkB r s m with
        | true => rw [hc] at h2; simpa using h2
        | false => rw [hc] at h2; simp at h2
      have hx : X = (if f'.k = 1 then boundF (l.take (l.length - 3)) el == l.drop (l.length - 3) else (!(f'.k == 4)) && ((f'.r == r) && ((f'.s == s) && ((f'.m == m) && (f'.v == v))))) := by
        have h1 := HX.out.1
        rw [hel.1] at h1
        rw [hel.2, ← h1]; rfl
      have hl5 := HV.out.1 f' rfl
      have hell : el.length = 8 := by rw [hel.2, cstBy_len]
      have HX2 := Lib.hid hx
      clear hx hel
      have e0 : w2.cell? ⟨w1.heap.size, 0, none⟩ = some (.int .i64 f'.k) := cell_of_row w2 _ 0 _ _ _ r4
      have e1 : w2.cell? ⟨w1.heap.size, 1, none⟩ = some (.int .i64 f'.r) := cell_of_row w2 _ 1 _ _ _ r4
      have e2 : w2.cell? ⟨w1.heap.size, 2, none⟩ = some (.int .i64 f'.s) := cell_of_row w2 _ 2 _ _ _ r4
      have e3 : w2.cell? ⟨w1.heap.size, 3, none⟩ = some (.int .i64 f'.m) := cell_of_row w2 _ 3 _ _ _ r4
      have e4 : w2.cell? ⟨w1.heap.size, 4, none⟩ = some (.int .u16 f'.v) := cell_of_row w2 _ 4 _ _ _ r4
      have c0 : w2.cell? ⟨w.heap.size, 0, none⟩ = some (.int .i64 r) := cell_of_row w2 _ 0 _ _ _ r1n
      have c1 : w2.cell? ⟨w.heap.size, 1, none⟩ = some (.int .i64 s) := cell_of_row w2 _ 1 _ _ _ r1n
      have c2 : w2.cell? ⟨w.heap.size, 2, none⟩ = some (.int .i64 m) := cell_of_row w2 _ 2 _ _ _ r1n
      have c3 : w2.cell? ⟨w.heap.size, 3, none⟩ = some (.int .u16 v) := cell_of_row w2 _ 3 _ _ _ r1n
      by_cases hk1 : f'.k = 1
      · rw [if_pos hk1] at HX2
        have hb1 : (f'.k == 1) = true := by simpa using hk1
        have hsb := hus.bys (by show el.length ≤ _; rw [hell]; decide)
        have hvb : Bys w2 (.slice va l.length vc) l := HB.out.ext x2
        have n1 : IntKind.i64.wrap ((l.length : Int) - 3) = ((l.length - 3 : Nat) : Int) := by rw [IntKind.wrap_i64]; have := HV.out.2; omega
        have hcap : l.length ≤ vc := by obtain ⟨a', c', h, hc, _⟩ := hvb; simp only [Value.slice.injEq] at h; omega
        have t1 := Bys.full hvb (i := l.length - 3) (by omega)
        have t2 := hvb.drop (i := l.length - 3) (by omega)
        have hne : ¬ (vc = l.length - 3) := by omega
        rw [if_neg hne] at t2
        have hL2 : (l.take (l.length - 3)).length = l.length - 3 := by rw [List.length_take]; omega
        have HQ := Lib.hid (And.intro hell (And.intro hL2 hl5))
        have hnl : l.length - 3 ≤ l.length := by omega
        clear hk1 hus hvb hell e1 e2 e3 e4 c0 c1 c2 c3 r1n r4 HB hL2
        obtain ⟨N, hN⟩ : ∃ N, N = l.length - 3 := ⟨_, rfl⟩
        rw [← hN] at n1 t1 t2 hne hnl HQ HX2
        have hlen : N + 3 = l.length := by omega
        have HLN := Lib.hid (And.intro hlen hN)
        have i1 : (N : Int) ≤ (vc : Int) := by omega
        have i2 : (N : Int) ≤ (l.length : Int) := by omega
        have i3 : ¬ (vc = N) := hne
        clear hlen hN hnl hcap
        generalize l.length = M at *
        go_wp2_with fail
        refine wp_region_rg Ext [(5, .unk (fun v W => Bys W v (boundF (l.take N) el)) (fun _ _ _ x h => h.ext x)), (9, .known (.bool X))] (by kernel_rfl) (by kernel_rfl) (by kernel_rfl) Ext.refl (fun _ _ _ => Ext.trans) ?_
        intro σ
        simp only
        repeat (first | (refine rg_pure (x := ?_) rfl (by rfl) (fun W2 hW => ?_) ?_; rotate_left; (· have f1 := i1; have f2 := i2; have f3 := i3; go_simp; with_reducible rfl); simp only [Nat.reduceAdd, Act.put, List.setIfInBounds_toArray, List.set_cons_zero, List.set_cons_succ]))
        refine rg_unk rfl (by rfl) (fun W2 hW hF => ?_) ?_
        · go_simp
          refine (bound_calls (.slice va N N) (.slice sa el.length sc) (l.take N) el W2 (t1.ext (Ext.of_drew hW)) (hsb.ext (Ext.of_drew hW)) (by have := HQ.out.1; omega) (by have := HQ.out; have := HLN.out; have := HV.out.2; omega)).mono ?_
          rintro e W' ⟨u, rfl, hu, -, h⟩
          exact ⟨_, rfl, h, hu⟩
        simp only [Nat.reduceAdd, Act.put, List.setIfInBounds_toArray, List.set_cons_zero, List.set_cons_succ]
        repeat (first | (refine rg_pure (x := ?_) rfl (by rfl) (fun W2 hW => ?_) ?_; rotate_left; (· have f1 := i1; have f2 := i2; have f3 := i3; go_simp; with_reducible rfl); simp only [Nat.reduceAdd, Act.put, List.setIfInBounds_toArray, List.set_cons_zero, List.set_cons_succ]))
        refine rg_known rfl (by rfl) (fun W2 hW hF => ?_) ?_
        · have hbd := hF 5 _ _ rfl (by kernel_rfl)
          go_simp
          refine (bytesEqual_calls (σ 5) _ _ _ W2 hbd (t2.ext (Ext.of_drew hW))).mono ?_
          rintro e W' ⟨rfl, rfl⟩
          exact ⟨_, rfl, Ext.refl _, by rw [HX2.out]⟩
        simp only [Nat.reduceAdd, Act.put, List.setIfInBounds_toArray, List.set_cons_zero, List.set_cons_succ]
        repeat (first | (refine rg_pure (x := ?_) rfl (by rfl) (fun W2 hW => ?_) ?_; rotate_left; (· have f1 := i1; have f2 := i2; have f3 := i3; go_simp; with_reducible rfl); simp only [Nat.reduceAdd, Act.put, List.setIfInBounds_toArray, List.set_cons_zero, List.set_cons_succ]))
        refine rg_done fun W2 hW hF => ?_
        have hx9 := x2.trans (Ext.of_drew hW)
        clear hF hW
        go_wp2_with fail
        go_ret
        exact ⟨rfl, hx9⟩
      · rw [if_neg hk1] at HX2
        have hb1 : (f'.k == 1) = false := by simpa using hk1
        clear hk1 hus r1n r4 hell
        cases hb4 : (f'.k == 4) with
        | true =>
          have hx : X = false := by rw [HX2.out, hb4]; rfl
          subst hx
          have h4p : f'.k = 4 := by simpa using hb4
          clear e1 e2 e3 e4 c0 c1 c2 c3 HX2 HX HZ
          go_wp2_with fail
          go_ret
          exact ⟨rfl, x2⟩
        | false =>
          have hx : X = ((f'.r == r) && ((f'.s == s) && ((f'.m == m) && (f'.v == v)))) := by rw [HX2.out, hb4]; rfl
          have HX3 := Lib.hid hx
          have h4p : ¬ f'.k = 4 := by simpa using hb4
          clear hx
          go_wp2_with fail
          all_goals
            go_ret
            exact ⟨by rw [HX3.out]; simp_all, x2⟩
end Go.Proofs.Ytcdaelgnankmfaa.VSta
