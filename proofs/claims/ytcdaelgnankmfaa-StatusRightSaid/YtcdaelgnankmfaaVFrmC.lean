/- slices.Grow of nothing, slices.Concat of two, frame.bound. -/
import Derived.Test.YtcdaelgnankmfaaVFrmD
import Derived.Test.YtcdaelgnankmfaaVOutI
import Derived.Lib.AppendZeros
namespace Go.Proofs.Ytcdaelgnankmfaa.VSta
open Go.RowKit Go.VBase Go.VCrc Go.VOct VOct VCst VCrc

set_option maxHeartbeats 1000000 in
theorem grow_calls (n : Nat) (h0 : 0 < n) (hn : n ≤ 140737488355328) (w : World) :
    Calls Try.prog 98 #[.slice none 0 0, .int .i64 (n : Int)] w fun e w' => ∃ v, e = .returned v ∧ OwnB w' w.heap.size TB v [] ∧ Ext w w' := by
  obtain ⟨ht, i, hi, hz, hs, hbt⟩ := VOct.byteSl
  have hr := fun ty => Lib.run_append_nil_zeros w 26 3 ty 5 i (.int .u8 0) .i64 .i64 ht Try.underlying3 hi hz n h0 (by rw [hs]; decide) (by omega) (by rw [hbt]; omega)
  have hge := grownCap_ge w n 0 5
  have hle := grownCap_le_maxLen w n 0 5 (by unfold maxLen; omega)
  have hsz : (Builtin.zeroCells (Value.int .u8 0).cells n ++ Builtin.zeroCells (Value.int .u8 0).cells (grownCap w n 0 5 - n)).size = grownCap w n 0 5 := by
    have hz1 : ∀ k, (Builtin.zeroCells (Value.int .u8 0).cells k).size = k := fun k => by simp [Builtin.zeroCells, Value.cells]
    rw [Array.size_append, hz1, hz1]; omega
  have c1 : ¬ ((n : Int) < 0) := by omega
  have c2 : IntKind.i64.wrap (n : Int) = (n : Int) := by rw [IntKind.wrap_i64]; omega
  have c3 : decide ((0 : Int) < (n : Int)) = true := decide_eq_true (by omega)
  generalize (Builtin.zeroCells (Value.int .u8 0).cells n ++ Builtin.zeroCells (Value.int .u8 0).cells (grownCap w n 0 5 - n)) = cs at *
  generalize grownCap w n 0 5 = cap at *
  have hO : OwnB (w.drew.alloc (.cells cs 5)) w.heap.size TB (.slice (some ⟨w.heap.size, 0, none⟩) 0 cap) [] :=
    ⟨rfl, .inr ⟨w.heap.size, cap, cs, rfl, Nat.le_refl _, by have := heap_alloc_new w.drew (.cells cs 5); exact this, Nat.zero_le _, hle, by omega, rfl⟩⟩
  have hE : Ext w (w.drew.alloc (.cells cs 5)) := (Ext.refl w).thenDrew.thenAlloc _
  have HH := Lib.hid (And.intro hO hE)
  clear hO hE hsz hge hle
  go_enter Try.func98, Try.ntmps98
  go_wp2_with (at_builtin; refine Lib.wpList_append_run _ rfl _ _ _ _ rfl _ _ rfl rfl _ _ (hr _) ?_)
  go_ret
  exact ⟨_, rfl, HH.out.1, HH.out.2⟩

set_option maxRecDepth 100000 in
set_option maxHeartbeats 4000000 in
theorem concat2_calls (A B : Value) (a b : List UInt8) (q : Nat) (w : World) (h0 : w.cell? ⟨q, 0, none⟩ = some A) (h1 : w.cell? ⟨q, 1, none⟩ = some B) (ha : Bys w A a) (hb : Bys w B b) (hn : 0 < a.length + b.length) (hl : a.length + b.length ≤ 1000000) :
    Calls Try.prog 75 #[.slice (some ⟨q, 0, none⟩) 2 2] w (MadeB w TB (a ++ b)) := by
  have ha' := ha
  have hb' := hb
  obtain ⟨xa, ca, rfl, hac, ham, _⟩ := ha'
  obtain ⟨xb, cb, rfl, hbc, hbm, _⟩ := hb'
  have kG := fun W => grow_calls (a.length + b.length) hn (by omega) W
  have w1 : IntKind.i64.wrap (a.length : Int) = (a.length : Int) := by rw [IntKind.wrap_i64]; omega
  have w2 : IntKind.i64.wrap ((a.length : Int) + (b.length : Int)) = (a.length : Int) + (b.length : Int) := by rw [IntKind.wrap_i64]; omega
  have n1 : ¬ ((a.length : Int) < 0) := by omega
  have n2 : ¬ ((a.length : Int) + (b.length : Int) < 0) := by omega
  have HL := Lib.hid (And.intro hn hl)
  clear hn hl
  go_enter Try.func75, Try.ntmps75
  go_wp2_with fail
  go_loop [3, 5, 11] (fun s _ i => ∃ j : Nat, j ≤ 2 ∧ i = .int .i64 (j : Int) ∧ s = .int .i64 (if j = 0 then 0 else if j = 1 then (a.length : Int) else (a.length : Int) + (b.length : Int))) (fun _ _ i => 2 - (intOf i).toNat)
  case atStart => exact ⟨0, by omega, rfl, rfl⟩
  case round =>
    obtain ⟨j, hj, rfl, rfl⟩ := hrel
    rcases (by omega : j = 0 ∨ j = 1 ∨ j = 2) with rfl | rfl | rfl
    · rw [if_pos rfl]
      go_wp2_with fail
      go_round
      · exact ⟨1, by omega, rfl, by simp⟩
      · simp [intOf]
    · rw [if_neg (by decide), if_pos rfl]
      go_wp2_with fail
      go_round
      · exact ⟨2, by omega, rfl, by simp⟩
      · simp [intOf]
    · rw [if_neg (by decide), if_neg (by decide)]
      rw [show (a.length : Int) + (b.length : Int) = ((a.length + b.length : Nat) : Int) by omega]
      clear w1 w2 n1 n2
      generalize hN : a.length + b.length = N at *
      go_wp2_with fail
      refine (kG _).mono ?_
      rintro e w3 ⟨v, rfl, ho, hx⟩
      have HA := Lib.hid (And.intro h0 (And.intro h1 (And.intro ha hb)))
      clear kG h0 h1 ha hb
      go_wp2_with fail
      go_loopw [6, 8, 27] (fun s _ i wr => ∃ j : Nat, j ≤ 2 ∧ i = .int .i64 (j : Int) ∧ OwnB wr w.heap.size TB s (if j = 0 then [] else if j = 1 then a else a ++ b) ∧ Ext w wr) (fun _ _ i _ => 2 - (intOf i).toNat)
      case atStart => exact ⟨0, by omega, rfl, ho, hx⟩
      case round =>
        clear ho hx
        obtain ⟨j, hj, rfl, ho, hx⟩ := hrel
        rcases (by omega : j = 0 ∨ j = 1 ∨ j = 2) with rfl | rfl | rfl
        · rw [if_pos rfl] at ho
          have hbl := ho.lt
          obtain ⟨sa, sc, rfl⟩ := ho.slice
          have a0 := hx.cell HA.out.1
          have ha3 := HA.out.2.2.1.ext hx
          have HX := Lib.hid hx
          clear hx
          go_wp2_with (at_builtin; refine wpList_append_B VOct.byteSl rfl _ _ rfl (by rfl) (by rfl) ho ha3 ?hl HX.out.size ?hk)
          case hl => have := HL.out.2; simp; omega
          case hk =>
          intro u w' ho' hg hnw
          have hx' := Below.trans HX.out (grown_below hg HX.out.size (fun k h => hbl k h))
          obtain ⟨ua, uc, rfl⟩ := ho'.slice
          clear ho ha3 a0 hg hnw
          go_wp2_with fail
          go_round
          · exact ⟨1, by omega, rfl, by rw [if_neg (by decide), if_pos rfl]; exact ho', hx'⟩
          · simp [intOf]
        · rw [if_neg (by decide), if_pos rfl] at ho
          have hbl := ho.lt
          obtain ⟨sa, sc, rfl⟩ := ho.slice
          have a0 := hx.cell HA.out.2.1
          have ha3 := HA.out.2.2.2.ext hx
          have HX := Lib.hid hx
          clear hx
          go_wp2_with (at_builtin; refine wpList_append_B VOct.byteSl rfl _ _ rfl (by rfl) (by rfl) ho ha3 ?hl HX.out.size ?hk)
          case hl => have := HL.out.2; simp; omega
          case hk =>
          intro u w' ho' hg hnw
          have hx' := Below.trans HX.out (grown_below hg HX.out.size (fun k h => hbl k h))
          obtain ⟨ua, uc, rfl⟩ := ho'.slice
          clear ho ha3 a0 hg hnw
          go_wp2_with fail
          go_round
          · exact ⟨2, by omega, rfl, by rw [if_neg (by decide), if_neg (by decide)]; exact ho', hx'⟩
          · simp [intOf]
        · rw [if_neg (by decide), if_neg (by decide)] at ho
          obtain ⟨sa, sc, rfl⟩ := ho.slice
          go_wp2_with fail
          go_ret
          exact ⟨_, rfl, ho, hx⟩

theorem drop_bound (l c : List UInt8) : (sealB (l ++ c)).drop (l.length + c.length) = boundF l c := by
  unfold sealB boundF
  rw [← List.length_append, List.drop_left]
set_option maxRecDepth 100000 in
set_option maxHeartbeats 4000000 in
/-- A slice that ends where its row does: a part of a row of one's own reads as bytes. -/
theorem bound_calls (A B : Value) (a b : List UInt8) (w : World) (ha : Bys w A a) (hb : Bys w B b) (hn : 0 < a.length + b.length) (hl : a.length + b.length ≤ 1000000) :
    Calls Try.prog 52 #[A, B] w fun e w' => ∃ u, e = .returned u ∧ Bys w' u (boundF a b) ∧ (∀ s n c, u = .slice (some s) n c → w.heap.size ≤ s.block) ∧ Ext w w' := by
  have ha' := ha
  have hb' := hb
  obtain ⟨xa, ca, rfl, hac, ham, _⟩ := ha'
  obtain ⟨xb, cb, rfl, hbc, hbm, _⟩ := hb'
  have hN := Lib.hid (And.intro hn hl)
  have w2 : IntKind.i64.wrap ((a.length : Int) + (b.length : Int)) = ((a.length + b.length : Nat) : Int) := by rw [IntKind.wrap_i64]; omega
  have r0 := heap_alloc_new w (.cells #[.slice xa a.length ca, .slice xb b.length cb] 26)
  have x0 := Ext.alloc w (.cells #[.slice xa a.length ca, .slice xb b.length cb] 26)
  have kC := concat2_calls (.slice xa a.length ca) (.slice xb b.length cb) a b w.heap.size _ (cell_of_row _ _ 0 _ _ _ r0) (cell_of_row _ _ 1 _ _ _ r0) (ha.ext x0) (hb.ext x0) hn hl
  obtain ⟨ab, hab⟩ : ∃ z, z = a ++ b := ⟨_, rfl⟩
  have habl : ab.length = a.length + b.length := by rw [hab, List.length_append]
  have hdb := drop_bound a b
  rw [← hab] at kC hdb
  clear hn hl r0
  have HD := Lib.hid (And.intro hdb habl)
  clear hdb habl hab
  go_enter Try.func52, Try.ntmps52
  go_wp2_with fail
  refine kC.mono ?_
  rintro e w1 ⟨v, rfl, hv, h1⟩
  have x1 := x0.trans h1
  have hvb := hv.bys (by have := hN.out.2; rw [HD.out.2]; unfold maxLen; omega)
  obtain ⟨va, vc, rfl⟩ := hv.slice
  clear kC x0 h1 hv
  have kS := Seal_calls _ ab w1 hvb (by have := hN.out.2; rw [HD.out.2]; omega)
  go_wp2_with fail
  refine kS.mono ?_
  rintro e w2' ⟨u, rfl, hu, h2⟩
  have x2 := x1.trans h2
  have hsl : (sealB ab).length = ab.length + 3 := by unfold sealB; rw [List.length_append, beB_len]
  have hub := hu.bys (by rw [hsl, HD.out.2]; have := hN.out.2; unfold maxLen; omega)
  have hub2 := hub
  obtain ⟨ua, uc, rfl⟩ := hu.slice
  have hd := Bys.drop hub (i := ab.length) (by rw [hsl]; omega)
  rw [HD.out.2, HD.out.1] at hd
  have hown : ∀ s, ua = some s → w.heap.size ≤ s.block := fun s hs => by
    have := (hu.head (by rw [hs])).1
    exact Nat.le_trans x1.size this
  obtain ⟨_, _, hq, hcap, _, _⟩ := hub2
  simp only [Value.slice.injEq] at hq
  obtain ⟨-, -, rfl⟩ := hq
  rw [hsl, HD.out.2] at hcap hd
  have hsl2 : (sealB ab).length = a.length + b.length + 3 := by rw [hsl, HD.out.2]
  rw [hsl2]
  clear kS hub hu x1 hvb hsl hsl2
  obtain ⟨M, hM⟩ : ∃ M, M = a.length + b.length + 3 := ⟨_, rfl⟩
  rw [← hM] at hcap hd ⊢
  have hNM : a.length + b.length ≤ M := by omega
  have hne : ¬ (uc = a.length + b.length) := by omega
  generalize a.length + b.length = N at *
  have i1 : (N : Int) ≤ (M : Int) := by omega
  have i2 : (M : Int) ≤ (uc : Int) := by omega
  clear hM
  rw [if_neg hne] at hd
  have hown2 : ∀ s n c, Value.slice (Option.map (fun x => x.add N) ua) (M - N) (uc - N) = .slice (some s) n c → w.heap.size ≤ s.block := fun s n c hs => by
    simp only [Value.slice.injEq, Option.map_eq_some_iff] at hs
    obtain ⟨⟨s0, h0, rfl⟩, _⟩ := hs
    have := hown s0 h0
    have e : (s0.add N).block = s0.block := by unfold Addr.add; split <;> rfl
    rw [e]; exact this
  have HX := Lib.hid (And.intro hd (And.intro hown2 x2))
  clear hd hown hown2 x2
  go_wp2_with fail
  go_ret
  exact ⟨_, rfl, HX.out.1, HX.out.2.1, HX.out.2.2⟩
end Go.Proofs.Ytcdaelgnankmfaa.VSta
