/- Statuses: which one is better; a status of its own. -/
import Derived.Test.YtcdaelgnankmfaaVSta
import Derived.Test.YtcdaelgnankmfaaVCmpOr
namespace Go.Proofs.Ytcdaelgnankmfaa.VSta
open Go.RowKit Go.VBase Go.VRg Go.VEq VCst VMsg

def worthN (l : Int) : Int := if l = 2 then 4 else if l = 3 then 3 else if l = 1 then 2 else if l = 0 then 1 else 0
def rankN (l : Int) : Int := if l = 2 then 0 else if l = 3 then 1 else if l = 1 then 2 else if l = 0 then 3 else 16

set_option maxHeartbeats 2000000 in
theorem worth_calls (l : Int) (w : World) : Calls Try.prog 25 #[.int .i64 l] w fun e w' => e = .returned (.int .i64 (worthN l)) ∧ w = w' := by
  have hc : l = 2 ∨ l = 3 ∨ l = 1 ∨ l = 0 ∨ (l ≠ 2 ∧ l ≠ 3 ∧ l ≠ 1 ∧ l ≠ 0) := by omega
  rcases hc with rfl | rfl | rfl | rfl | ⟨h1, h2, h3, h4⟩
  rotate_right
  · have hw : worthN l = 0 := by unfold worthN; rw [if_neg h1, if_neg h2, if_neg h3, if_neg h4]
    rw [hw]
    have b1 : (l == 2) = false := by simpa using h1
    have b2 : (l == 3) = false := by simpa using h2
    have b3 : (l == 1) = false := by simpa using h3
    have b4 : (l == 0) = false := by simpa using h4
    go_enter Try.func25, Try.ntmps25
    go_wp2_with fail
    go_ret
    exact ⟨rfl, rfl⟩
  all_goals
    go_enter Try.func25, Try.ntmps25
    go_wp2_with fail
    go_ret
    exact ⟨rfl, rfl⟩

theorem put_at {K : Act → World → Prop} {a : Act} {d : Option Tmp} {W : World} {cs : Array Value} {i : Nat} {h : i < cs.size} (j : Nat) (v : Value) (hi : i = j) (hv : cs[j]? = some v) (hk : K (a.put d v) W) : K (a.put d (cs[i]'h)) W := by
  subst hi
  have : cs[i]'h = v := by rw [Array.getElem?_eq_getElem h] at hv; exact Option.some.inj hv
  rw [this]; exact hk
set_option maxRecDepth 100000 in
set_option maxHeartbeats 2000000 in
theorem rank_calls (l : Int) (w : World) : Calls Try.prog 20 #[.int .i64 l] w fun e w' => e = .returned (.int .i64 (rankN l)) ∧ Ext w w' := by
  have hsz : ∀ h, (Try.prog.types[3]'h).size = 1 := fun _ => by kernel_rfl
  go_enter Try.func20, Try.ntmps20
  go_wp2_with fail
  go_loopw [6] (fun i wr => ∃ (j : Nat), j ≤ 4 ∧ i = .int .i64 (j : Int) ∧ (0 < j → l ≠ 2) ∧ (1 < j → l ≠ 3) ∧ (2 < j → l ≠ 1) ∧ (3 < j → l ≠ 0) ∧ Ext w wr) (fun i _ => 4 - (intOf i).toNat)
  case atStart => exact ⟨0, by omega, rfl, by omega, by omega, by omega, by omega, Ext.refl _⟩
  case round =>
    obtain ⟨j, hj, rfl, c1, c2, c3, c4, hx⟩ := hrel
    rcases (by omega : j = 0 ∨ j = 1 ∨ j = 2 ∨ j = 3 ∨ j = 4) with rfl | rfl | rfl | rfl | rfl
    · rw [show ((0 : Nat) : Int) = 0 from rfl]
      by_cases h : l = 2
      · subst h
        clear c1 c2 c3 c4
        go_wp2_with fail
        refine put_at 0 (.int .i64 2) (by kernel_rfl) rfl ?_
        apply_assumption
        go_wp2_with fail
        go_ret
        exact ⟨rfl, hx⟩
      · have b : ((2 : Int) == l) = false := by simpa using Ne.symm h
        have C := Lib.hid (And.intro c1 (And.intro c2 (And.intro c3 (And.intro c4 h))))
        clear c1 c2 c3 c4 h
        go_wp2_with fail
        refine put_at 0 (.int .i64 2) (by kernel_rfl) rfl ?_
        apply_assumption
        go_wp2_with fail
        obtain ⟨c1, c2, c3, c4, h⟩ := C.out
        go_round
        · exact ⟨1, by omega, by go_num, by intro _; first | exact h | exact c1 (by omega), by intro _; first | exact h | exact c2 (by omega) | omega, by intro _; first | exact h | exact c3 (by omega) | omega, by intro _; first | exact h | exact c4 (by omega) | omega, hx⟩
        · simp [intOf]
    · rw [show ((1 : Nat) : Int) = 1 from rfl]
      by_cases h : l = 3
      · subst h
        clear c1 c2 c3 c4
        go_wp2_with fail
        refine put_at 1 (.int .i64 3) (by kernel_rfl) rfl ?_
        apply_assumption
        go_wp2_with fail
        go_ret
        exact ⟨rfl, hx⟩
      · have b : ((3 : Int) == l) = false := by simpa using Ne.symm h
        have C := Lib.hid (And.intro c1 (And.intro c2 (And.intro c3 (And.intro c4 h))))
        clear c1 c2 c3 c4 h
        go_wp2_with fail
        refine put_at 1 (.int .i64 3) (by kernel_rfl) rfl ?_
        apply_assumption
        go_wp2_with fail
        obtain ⟨c1, c2, c3, c4, h⟩ := C.out
        go_round
        · exact ⟨2, by omega, by go_num, by intro _; first | exact h | exact c1 (by omega), by intro _; first | exact h | exact c2 (by omega) | omega, by intro _; first | exact h | exact c3 (by omega) | omega, by intro _; first | exact h | exact c4 (by omega) | omega, hx⟩
        · simp [intOf]
    · rw [show ((2 : Nat) : Int) = 2 from rfl]
      by_cases h : l = 1
      · subst h
        clear c1 c2 c3 c4
        go_wp2_with fail
        refine put_at 2 (.int .i64 1) (by kernel_rfl) rfl ?_
        apply_assumption
        go_wp2_with fail
        go_ret
        exact ⟨rfl, hx⟩
      · have b : ((1 : Int) == l) = false := by simpa using Ne.symm h
        have C := Lib.hid (And.intro c1 (And.intro c2 (And.intro c3 (And.intro c4 h))))
        clear c1 c2 c3 c4 h
        go_wp2_with fail
        refine put_at 2 (.int .i64 1) (by kernel_rfl) rfl ?_
        apply_assumption
        go_wp2_with fail
        obtain ⟨c1, c2, c3, c4, h⟩ := C.out
        go_round
        · exact ⟨3, by omega, by go_num, by intro _; first | exact h | exact c1 (by omega), by intro _; first | exact h | exact c2 (by omega) | omega, by intro _; first | exact h | exact c3 (by omega) | omega, by intro _; first | exact h | exact c4 (by omega) | omega, hx⟩
        · simp [intOf]
    · rw [show ((3 : Nat) : Int) = 3 from rfl]
      by_cases h : l = 0
      · subst h
        clear c1 c2 c3 c4
        go_wp2_with fail
        refine put_at 3 (.int .i64 0) (by kernel_rfl) rfl ?_
        apply_assumption
        go_wp2_with fail
        go_ret
        exact ⟨rfl, hx⟩
      · have b : ((0 : Int) == l) = false := by simpa using Ne.symm h
        have C := Lib.hid (And.intro c1 (And.intro c2 (And.intro c3 (And.intro c4 h))))
        clear c1 c2 c3 c4 h
        go_wp2_with fail
        refine put_at 3 (.int .i64 0) (by kernel_rfl) rfl ?_
        apply_assumption
        go_wp2_with fail
        obtain ⟨c1, c2, c3, c4, h⟩ := C.out
        go_round
        · exact ⟨4, by omega, by go_num, by intro _; first | exact h | exact c1 (by omega), by intro _; first | exact h | exact c2 (by omega) | omega, by intro _; first | exact h | exact c3 (by omega) | omega, by intro _; first | exact h | exact c4 (by omega) | omega, hx⟩
        · simp [intOf]
    · rw [show ((4 : Nat) : Int) = 4 from rfl]
      have h1 := c1 (by omega)
      have h2 := c2 (by omega)
      have h3 := c3 (by omega)
      have h4 := c4 (by omega)
      have hw := Lib.hid (show rankN l = 16 by unfold rankN; rw [if_neg h1, if_neg h2, if_neg h3, if_neg h4])
      clear c1 c2 c3 c4 h1 h2 h3 h4
      go_wp2_with fail
      go_ret
      exact ⟨by rw [hw.out]; rfl, hx⟩

theorem ownB_other {w w' : World} {base e : Nat} {v : Value} {l : List UInt8} (h : OwnB w base e v l) (hk : ∀ k, base ≤ k → w'.heap[k]? = w.heap[k]?) : OwnB w' base e v l := by
  refine ⟨h.1, ?_⟩
  rcases h.2 with hn | ⟨g, cap, cur, rfl, hb, hg, rest⟩
  · exact .inl hn
  · exact .inr ⟨g, cap, cur, rfl, hb, (hk g hb).trans hg, rest⟩
theorem storeSta {ops : Array Oper} {rest : List Oper} {o : Oper} {a : Act} {Q : Exit → Act → World → Prop} {W : World} {x y : Operand} {b : Nat} {T' : TypeId} {m : StaD} {sa : Option Addr} {sn sc : Nat} {old : Array Value}
    (h : W.heap[b]? = some (.cells old T')) (hold : old.size = 9) (hgd : o.guard = none) (ho : o.op = .store TSta x y) (hx : a.eval x = .pointer (some ⟨b, 0, none⟩)) (hy : a.eval y = .agg (staC m (.slice sa sn sc)))
    (hk : wpList Try.prog ops Q rest (a.put o.dst undef) (W.setRow b (staC m (.slice sa sn sc)))) : wpList Try.prog ops Q (o :: rest) a W :=
  wpList_store_row hgd _ _ _ ho b _ hx hy T' old h (by kernel_rfl) hold (by unfold staC; simp [Value.oneCell']) hk

set_option maxRecDepth 100000 in
set_option maxHeartbeats 4000000 in
theorem copied_calls (x : StaD) (sx : Sl3) (w : World) (hx : Bys w (slV sx) x.f.b) (hl : x.f.b.length ≤ 140737488355328) :
    Calls Try.prog 23 #[.agg (staC x (slV sx))] w fun e w' => ∃ u, e = .returned (.agg (staC x u)) ∧ OwnB w' w.heap.size 5 u x.f.b ∧ Ext w w' := by
  have kB := fun W h => bytesClone_calls (slV sx) x.f.b W h hl
  unfold MadeB at kB
  obtain ⟨sa, sn, sc⟩ := sx
  unfold staC
  unfold slV at *
  simp only at *
  go_enter Try.func23, Try.ntmps23
  have x0 := (Ext.alloc w (.cells #[.int .i64 x.k, .int .i64 x.l, .int .i64 x.d, .int .i64 x.f.k, .int .i64 x.f.r, .int .i64 x.f.s, .int .i64 x.f.m, .int .u16 x.f.v, .slice sa sn sc] TSta)).thenAlloc (.cells #[.int .i64 0, .int .i64 0, .int .i64 0, .int .i64 0, .int .i64 0, .int .i64 0, .int .i64 0, .int .u16 0, .slice none 0 0] TSta)
  have r0 := (Ext.alloc _ (.cells #[.int .i64 0, .int .i64 0, .int .i64 0, .int .i64 0, .int .i64 0, .int .i64 0, .int .i64 0, .int .u16 0, .slice none 0 0] TSta)).block (heap_alloc_new w (.cells #[.int .i64 x.k, .int .i64 x.l, .int .i64 x.d, .int .i64 x.f.k, .int .i64 x.f.r, .int .i64 x.f.s, .int .i64 x.f.m, .int .u16 x.f.v, .slice sa sn sc] TSta))
  have r1 := heap_alloc_new (w.alloc (.cells #[.int .i64 x.k, .int .i64 x.l, .int .i64 x.d, .int .i64 x.f.k, .int .i64 x.f.r, .int .i64 x.f.s, .int .i64 x.f.m, .int .u16 x.f.v, .slice sa sn sc] TSta)) (.cells #[.int .i64 0, .int .i64 0, .int .i64 0, .int .i64 0, .int .i64 0, .int .i64 0, .int .i64 0, .int .u16 0, .slice none 0 0] TSta)
  rw [World.size_alloc] at r1
  go_wp2_with fail
  refine (kB _ (hx.ext x0)).mono ?_
  rintro e w1 ⟨u, rfl, hu, h1⟩
  replace x0 := x0.trans h1
  replace r0 := h1.block r0
  replace r1 := h1.block r1
  simp only [World.size_alloc] at hu
  clear h1 kB hx
  obtain ⟨a, cap, rfl⟩ := hu.slice
  have c0 := cell_of_row w1 _ 0 _ _ _ r0
  have c1 := cell_of_row w1 _ 1 _ _ _ r0
  have c2 := cell_of_row w1 _ 2 _ _ _ r0
  have c3 := cell_of_row w1 _ 3 _ _ _ r0
  have c4 := cell_of_row w1 _ 4 _ _ _ r0
  have c5 := cell_of_row w1 _ 5 _ _ _ r0
  have c6 := cell_of_row w1 _ 6 _ _ _ r0
  have c7 := cell_of_row w1 _ 7 _ _ _ r0
  have c8 := cell_of_row w1 _ 8 _ _ _ r0
  have f8 := frozen_of_row w1 _ 8 _ _ r0
  have x1 : Ext w (w1.setCell ⟨w.heap.size, 8, none⟩ (.slice a x.f.b.length cap)) := Below.setCell x0 (Nat.le_refl _) _
  have r2 := (heap_setCell_other w1 ⟨w.heap.size, 8, none⟩ (w.heap.size + 1) (.slice a x.f.b.length cap) (by simp)).trans r1
  clear r1
  go_wp2_with (refine storeSta (m := x) (sa := a) (sn := x.f.b.length) (sc := cap) r2 rfl rfl rfl rfl rfl ?_)
  have rd := setRow_heap (w1.setCell ⟨w.heap.size, 8, none⟩ (.slice a x.f.b.length cap)) (w.heap.size + 1) _ (staC x (.slice a x.f.b.length cap)) _ _ r2
  refine bodyPost_ret (results_cell_row rfl _ _ (w.heap.size + 1) _ _ _ _ (by rfl) rd Try.underlying30 rfl (by kernel_rfl)) rfl ?_
  refine ⟨_, rfl, OwnB.mono (ownB_other hu fun k hk => ?_) (by omega), x1.setRow (by omega) _⟩
  rw [setRow_other _ _ _ _ (by omega), heap_setCell_other _ _ _ _ (by simp; omega)]
end Go.Proofs.Ytcdaelgnankmfaa.VSta
