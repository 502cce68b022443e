/- Bundled out of VStaM VStaB VStaR VTwo VStaG. -/
import Derived.Test.YtcdaelgnankmfaaGreatVSta
import Derived.Test.YtcdaelgnankmfaaGreatVCmpOr
/- Statuses: which one is better; a status of its own. -/
namespace Go.Proofs.YtcdaelgnankmfaaGreat.VSta
open Go.RowKit Go.VBase Go.VRg Go.VEq VCst VMsg

def worthN (l : Int) : Int := if l = 2 then 4 else if l = 3 then 3 else if l = 1 then 2 else if l = 0 then 1 else 0
def rankN (l : Int) : Int := if l = 2 then 0 else if l = 3 then 1 else if l = 1 then 2 else if l = 0 then 3 else 16

theorem put_at {K : Act → World → Prop} {a : Act} {d : Option Tmp} {W : World} {cs : Array Value} {i : Nat} {h : i < cs.size} (j : Nat) (v : Value) (hi : i = j) (hv : cs[j]? = some v) (hk : K (a.put d v) W) : K (a.put d (cs[i]'h)) W := by
  subst hi
  have : cs[i]'h = v := by rw [Array.getElem?_eq_getElem h] at hv; exact Option.some.inj hv
  rw [this]; exact hk
set_option maxRecDepth 100000 in
set_option maxHeartbeats 2000000 in
theorem rank_calls (l : Int) (w : World) : Calls Tryz.prog 38 #[.int .i64 l] w fun e w' => e = .returned (.int .i64 (rankN l)) ∧ Ext w w' := by
  have hsz : ∀ h, (Tryz.prog.types[3]'h).size = 1 := fun _ => by kernel_rfl
  go_enter Tryz.func38, Tryz.ntmps38
  go_wp2_with fail
  go_loopw [6] (fun i wr => ∃ (j : Nat), j ≤ 4 ∧ i = .int .i64 (j : Int) ∧ (0 < j → l ≠ 2) ∧ (1 < j → l ≠ 3) ∧ (2 < j → l ≠ 1) ∧ (3 < j → l ≠ 0) ∧ Ext w wr) (fun i _ => 4 - (intOf i).toNat)
  case atStart => exact ⟨0, by omega, rfl, by omega, by omega, by omega, by omega, Ext.refl _⟩
  case round =>
    obtain ⟨j, hj, rfl, c1, c2, c3, c4, hx⟩ := hrel
    rcases (by omega : j = 0 ∨ j = 1 ∨ j = 2 ∨ j = 3 ∨ j = 4) with rfl | rfl | rfl | rfl | rfl
    · rw [show ((0 : Nat) : Int) = 0 from rfl]
      by_cases h : l = 2
      · subst h
        clear c1 c2 c3 c4
        go_wp2_with fail
        refine put_at 0 (.int .i64 2) (by kernel_rfl) rfl ?_
        apply_assumption
        go_wp2_with fail
        go_ret
        exact ⟨rfl, hx⟩
      · have b : ((2 : Int) == l) = false := by simpa using Ne.symm h
        have C := Lib.hid (And.intro c1 (And.intro c2 (And.intro c3 (And.intro c4 h))))
        clear c1 c2 c3 c4 h
        go_wp2_with fail
        refine put_at 0 (.int .i64 2) (by kernel_rfl) rfl ?_
        apply_assumption
        go_wp2_with fail
        obtain ⟨c1, c2, c3, c4, h⟩ := C.out
        go_round
        · exact ⟨1, by omega, by go_num, by intro _; first | exact h | exact c1 (by omega), by intro _; first | exact h | exact c2 (by omega) | omega, by intro _; first | exact h | exact c3 (by omega) | omega, by intro _; first | exact h | exact c4 (by omega) | omega, hx⟩
        · simp [intOf]
    · rw [show ((1 : Nat) : Int) = 1 from rfl]
      by_cases h : l = 3
      · subst h
        clear c1 c2 c3 c4
        go_wp2_with fail
        refine put_at 1 (.int .i64 3) (by kernel_rfl) rfl ?_
        apply_assumption
        go_wp2_with fail
        go_ret
        exact ⟨rfl, hx⟩
      · have b : ((3 : Int) == l) = false := by simpa using Ne.symm h
        have C := Lib.hid (And.intro c1 (And.intro c2 (And.intro c3 (And.intro c4 h))))
        clear c1 c2 c3 c4 h
        go_wp2_with fail
        refine put_at 1 (.int .i64 3) (by kernel_rfl) rfl ?_
        apply_assumption
        go_wp2_with fail
        obtain ⟨c1, c2, c3, c4, h⟩ := C.out
        go_round
        · exact ⟨2, by omega, by go_num, by intro _; first | exact h | exact c1 (by omega), by intro _; first | exact h | exact c2 (by omega) | omega, by intro _; first | exact h | exact c3 (by omega) | omega, by intro _; first | exact h | exact c4 (by omega) | omega, hx⟩
        · simp [intOf]
    · rw [show ((2 : Nat) : Int) = 2 from rfl]
      by_cases h : l = 1
      · subst h
        clear c1 c2 c3 c4
        go_wp2_with fail
        refine put_at 2 (.int .i64 1) (by kernel_rfl) rfl ?_
        apply_assumption
        go_wp2_with fail
        go_ret
        exact ⟨rfl, hx⟩
      · have b : ((1 : Int) == l) = false := by simpa using Ne.symm h
        have C := Lib.hid (And.intro c1 (And.intro c2 (And.intro c3 (And.intro c4 h))))
        clear c1 c2 c3 c4 h
        go_wp2_with fail
        refine put_at 2 (.int .i64 1) (by kernel_rfl) rfl ?_
        apply_assumption
        go_wp2_with fail
        obtain ⟨c1, c2, c3, c4, h⟩ := C.out
        go_round
        · exact ⟨3, by omega, by go_num, by intro _; first | exact h | exact c1 (by omega), by intro _; first | exact h | exact c2 (by omega) | omega, by intro _; first | exact h | exact c3 (by omega) | omega, by intro _; first | exact h | exact c4 (by omega) | omega, hx⟩
        · simp [intOf]
    · rw [show ((3 : Nat) : Int) = 3 from rfl]
      by_cases h : l = 0
      · subst h
        clear c1 c2 c3 c4
        go_wp2_with fail
        refine put_at 3 (.int .i64 0) (by kernel_rfl) rfl ?_
        apply_assumption
        go_wp2_with fail
        go_ret
        exact ⟨rfl, hx⟩
      · have b : ((0 : Int) == l) = false := by simpa using Ne.symm h
        have C := Lib.hid (And.intro c1 (And.intro c2 (And.intro c3 (And.intro c4 h))))
        clear c1 c2 c3 c4 h
        go_wp2_with fail
        refine put_at 3 (.int .i64 0) (by kernel_rfl) rfl ?_
        apply_assumption
        go_wp2_with fail
        obtain ⟨c1, c2, c3, c4, h⟩ := C.out
        go_round
        · exact ⟨4, by omega, by go_num, by intro _; first | exact h | exact c1 (by omega), by intro _; first | exact h | exact c2 (by omega) | omega, by intro _; first | exact h | exact c3 (by omega) | omega, by intro _; first | exact h | exact c4 (by omega) | omega, hx⟩
        · simp [intOf]
    · rw [show ((4 : Nat) : Int) = 4 from rfl]
      have h1 := c1 (by omega)
      have h2 := c2 (by omega)
      have h3 := c3 (by omega)
      have h4 := c4 (by omega)
      have hw := Lib.hid (show rankN l = 16 by unfold rankN; rw [if_neg h1, if_neg h2, if_neg h3, if_neg h4])
      clear c1 c2 c3 c4 h1 h2 h3 h4
      go_wp2_with fail
      go_ret
      exact ⟨by rw [hw.out]; rfl, hx⟩

theorem ownB_other {w w' : World} {base e : Nat} {v : Value} {l : List UInt8} (h : OwnB w base e v l) (hk : ∀ k, base ≤ k → w'.heap[k]? = w.heap[k]?) : OwnB w' base e v l := by
  refine ⟨h.1, ?_⟩
  rcases h.2 with hn | ⟨g, cap, cur, rfl, hb, hg, rest⟩
  · exact .inl hn
  · exact .inr ⟨g, cap, cur, rfl, hb, (hk g hb).trans hg, rest⟩
theorem storeSta {ops : Array Oper} {rest : List Oper} {o : Oper} {a : Act} {Q : Exit → Act → World → Prop} {W : World} {x y : Operand} {b : Nat} {T' : TypeId} {m : StaD} {sa : Option Addr} {sn sc : Nat} {old : Array Value}
    (h : W.heap[b]? = some (.cells old T')) (hold : old.size = 9) (hgd : o.guard = none) (ho : o.op = .store TSta x y) (hx : a.eval x = .pointer (some ⟨b, 0, none⟩)) (hy : a.eval y = .agg (staC m (.slice sa sn sc)))
    (hk : wpList Tryz.prog ops Q rest (a.put o.dst undef) (W.setRow b (staC m (.slice sa sn sc)))) : wpList Tryz.prog ops Q (o :: rest) a W :=
  wpList_store_row hgd _ _ _ ho b _ hx hy T' old h (by kernel_rfl) hold (by unfold staC; simp [Value.oneCell']) hk

set_option maxRecDepth 100000 in
set_option maxHeartbeats 4000000 in
theorem copied_calls (x : StaD) (sx : Sl3) (w : World) (hx : Bys w (slV sx) x.f.b) (hl : x.f.b.length ≤ 140737488355328) :
    Calls Tryz.prog 41 #[.agg (staC x (slV sx))] w fun e w' => ∃ u, e = .returned (.agg (staC x u)) ∧ OwnB w' w.heap.size 5 u x.f.b ∧ Ext w w' := by
  have kB := fun W h => bytesClone_calls (slV sx) x.f.b W h hl
  unfold MadeB at kB
  obtain ⟨sa, sn, sc⟩ := sx
  unfold staC
  unfold slV at *
  simp only at *
  go_enter Tryz.func41, Tryz.ntmps41
  have x0 := (Ext.alloc w (.cells #[.int .i64 x.k, .int .i64 x.l, .int .i64 x.d, .int .i64 x.f.k, .int .i64 x.f.r, .int .i64 x.f.s, .int .i64 x.f.m, .int .u16 x.f.v, .slice sa sn sc] TSta)).thenAlloc (.cells #[.int .i64 0, .int .i64 0, .int .i64 0, .int .i64 0, .int .i64 0, .int .i64 0, .int .i64 0, .int .u16 0, .slice none 0 0] TSta)
  have r0 := (Ext.alloc _ (.cells #[.int .i64 0, .int .i64 0, .int .i64 0, .int .i64 0, .int .i64 0, .int .i64 0, .int .i64 0, .int .u16 0, .slice none 0 0] TSta)).block (heap_alloc_new w (.cells #[.int .i64 x.k, .int .i64 x.l, .int .i64 x.d, .int .i64 x.f.k, .int .i64 x.f.r, .int .i64 x.f.s, .int .i64 x.f.m, .int .u16 x.f.v, .slice sa sn sc] TSta))
  have r1 := heap_alloc_new (w.alloc (.cells #[.int .i64 x.k, .int .i64 x.l, .int .i64 x.d, .int .i64 x.f.k, .int .i64 x.f.r, .int .i64 x.f.s, .int .i64 x.f.m, .int .u16 x.f.v, .slice sa sn sc] TSta)) (.cells #[.int .i64 0, .int .i64 0, .int .i64 0, .int .i64 0, .int .i64 0, .int .i64 0, .int .i64 0, .int .u16 0, .slice none 0 0] TSta)
  rw [World.size_alloc] at r1
  go_wp2_with fail
  refine (kB _ (hx.ext x0)).mono ?_
  rintro e w1 ⟨u, rfl, hu, h1⟩
  replace x0 := x0.trans h1
  replace r0 := h1.block r0
  replace r1 := h1.block r1
  simp only [World.size_alloc] at hu
  clear h1 kB hx
  obtain ⟨a, cap, rfl⟩ := hu.slice
  have c0 := cell_of_row w1 _ 0 _ _ _ r0
  have c1 := cell_of_row w1 _ 1 _ _ _ r0
  have c2 := cell_of_row w1 _ 2 _ _ _ r0
  have c3 := cell_of_row w1 _ 3 _ _ _ r0
  have c4 := cell_of_row w1 _ 4 _ _ _ r0
  have c5 := cell_of_row w1 _ 5 _ _ _ r0
  have c6 := cell_of_row w1 _ 6 _ _ _ r0
  have c7 := cell_of_row w1 _ 7 _ _ _ r0
  have c8 := cell_of_row w1 _ 8 _ _ _ r0
  have f8 := frozen_of_row w1 _ 8 _ _ r0
  have x1 : Ext w (w1.setCell ⟨w.heap.size, 8, none⟩ (.slice a x.f.b.length cap)) := Below.setCell x0 (Nat.le_refl _) _
  have r2 := (heap_setCell_other w1 ⟨w.heap.size, 8, none⟩ (w.heap.size + 1) (.slice a x.f.b.length cap) (by simp)).trans r1
  clear r1
  go_wp2_with (refine storeSta (m := x) (sa := a) (sn := x.f.b.length) (sc := cap) r2 rfl rfl rfl rfl rfl ?_)
  have rd := setRow_heap (w1.setCell ⟨w.heap.size, 8, none⟩ (.slice a x.f.b.length cap)) (w.heap.size + 1) _ (staC x (.slice a x.f.b.length cap)) _ _ r2
  refine bodyPost_ret (results_cell_row rfl _ _ (w.heap.size + 1) _ _ _ _ (by rfl) rd Tryz.underlying36 rfl (by kernel_rfl)) rfl ?_
  refine ⟨_, rfl, OwnB.mono (ownB_other hu fun k hk => ?_) (by omega), x1.setRow (by omega) _⟩
  rw [setRow_other _ _ _ _ (by omega), heap_setCell_other _ _ _ _ (by simp; omega)]
end Go.Proofs.YtcdaelgnankmfaaGreat.VSta

/- Statuses: the better one of two. -/
namespace Go.Proofs.YtcdaelgnankmfaaGreat.VSta
open Go.RowKit Go.VBase Go.VRg Go.VEq VCst VMsg

/-- Whether the second one is better. -/
def betB (x y : StaD) : Bool := decide (0 < orB (cmpB (rankN x.l) (rankN y.l)) (cmpB y.k x.k))
theorem betB_worth (x y : StaD) : betB x y = (decide (worthN x.l < worthN y.l) || (decide (worthN y.l = worthN x.l) && decide (x.k < y.k))) := by
  have key : ∀ l, (worthN l = 4 ∧ rankN l = 0) ∨ (worthN l = 3 ∧ rankN l = 1) ∨ (worthN l = 2 ∧ rankN l = 2) ∨ (worthN l = 1 ∧ rankN l = 3) ∨ (worthN l = 0 ∧ rankN l = 16) := by
    intro l
    unfold worthN rankN
    repeat' split
    all_goals simp
  have k1 := key x.l
  have k2 := key y.l
  unfold betB
  generalize worthN x.l = a at *
  generalize worthN y.l = b at *
  generalize rankN x.l = c at *
  generalize rankN y.l = d at *
  rw [Bool.eq_iff_iff]
  simp only [decide_eq_true_eq, Bool.or_eq_true, Bool.and_eq_true]
  unfold orB cmpB
  rcases k1 with ⟨rfl, rfl⟩ | ⟨rfl, rfl⟩ | ⟨rfl, rfl⟩ | ⟨rfl, rfl⟩ | ⟨rfl, rfl⟩ <;> rcases k2 with ⟨rfl, rfl⟩ | ⟨rfl, rfl⟩ | ⟨rfl, rfl⟩ | ⟨rfl, rfl⟩ | ⟨rfl, rfl⟩ <;> simp
  all_goals
    repeat' split
    all_goals omega
end Go.Proofs.YtcdaelgnankmfaaGreat.VSta

/- Statuses: the reference's better one. -/
namespace Go.Proofs.YtcdaelgnankmfaaGreat.VSta
open Go.RowKit Go.VBase Go.VRg Go.VEq VCst VMsg

/-- Three rows behind one another; nine cells of the first two. -/
theorem loadSta {ops : Array Oper} {rest : List Oper} {o : Oper} {a : Act} {Q : Exit → Act → World → Prop} {W : World} {t : Tmp} {b : Nat} {T' : TypeId} {mk : Nat × Nat} {x : StaD} {u : Value}
    (h : W.heap[b]? = some (.cells (staC x u) T' mk)) (hgd : o.guard = none) (ho : o.op = .load 36 (.tmp t)) (hx : a.eval (.tmp t) = .pointer (some ⟨b, 0, none⟩))
    (hk : wpList Tryz.prog ops Q rest (a.put o.dst (.agg (staC x u))) W) : wpList Tryz.prog ops Q (o :: rest) a W :=
  wpList_step fun K hK => by
    have hw : Region.wanted o (yielded ops a.tmps) = true := by unfold Region.wanted; rw [hgd]
    simp only [hw, if_true]
    exact wp_load_row _ _ ho _ hx _ _ _ _ h Tryz.underlying36 rfl (by kernel_rfl) (hK _ _ hk)

theorem sizeSta (x : StaD) (u : Value) : (staC x u).size = 9 := rfl

end Go.Proofs.YtcdaelgnankmfaaGreat.VSta

/- A slice of two numbers. -/
namespace Go.Proofs.YtcdaelgnankmfaaGreat.VCst
open Go.RowKit Go.VBase Go.VRg

def Two (a b : Int) (v : Value) (W : World) : Prop := ∃ q, v = .slice (some ⟨q, 0, none⟩) 2 2 ∧ W.cell? ⟨q, 0, none⟩ = some (.int .i64 a) ∧ W.cell? ⟨q, 1, none⟩ = some (.int .i64 b)
theorem Two.ext {a b : Int} (v : Value) (W W' : World) (x : Ext W W') : Two a b v W → Two a b v W' := fun ⟨q, h1, h2, h3⟩ => ⟨q, h1, x.cell h2, x.cell h3⟩
end Go.Proofs.YtcdaelgnankmfaaGreat.VCst

/- Statuses: the better one. -/
namespace Go.Proofs.YtcdaelgnankmfaaGreat.VSta
open Go.RowKit Go.VBase Go.VRg Go.VEq VCst VMsg

set_option maxRecDepth 100000 in
set_option maxHeartbeats 8000000 in
theorem merge_calls (x y : StaD) (sx sy : Sl3) (w : World) (hx : Bys w (slV sx) x.f.b) (hy : Bys w (slV sy) y.f.b) (hlx : x.f.b.length ≤ 140737488355328) (hly : y.f.b.length ≤ 140737488355328) :
    Calls Tryz.prog 14 #[.agg (staC x (slV sx)), .agg (staC y (slV sy))] w fun e w' => ∃ u, e = .returned (.agg (staC (if betB x y then y else x) u)) ∧ OwnB w' w.heap.size 5 u (if betB x y then y else x).f.b ∧ Ext w w' := by
  have kcx := fun W (h : Ext w W) => copied_calls x sx W (hx.ext h) hlx
  have kcy := fun W (h : Ext w W) => copied_calls y sy W (hy.ext h) hly
  have kx := fun W => rank_calls x.l W
  have ky := fun W => rank_calls y.l W
  have hB : betB x y = decide (0 < orB (cmpB (rankN x.l) (rankN y.l)) (cmpB y.k x.k)) := rfl
  rw [hB]
  clear hB hx hy hlx hly
  obtain ⟨M, hm⟩ : ∃ M, M = (if decide (0 < orB (cmpB (rankN x.l) (rankN y.l)) (cmpB y.k x.k)) = true then y else x) := ⟨_, rfl⟩
  rw [← hm]
  have HM := Lib.hid hm
  clear hm
  generalize rankN x.l = wx at *
  generalize rankN y.l = wy at *
  obtain ⟨sa, sn, sc⟩ := sx
  obtain ⟨ta, tn, tc⟩ := sy
  unfold slV at *
  simp only at *
  have r0 := (Ext.alloc _ (.cells #[.int .i64 0, .int .i64 0, .int .i64 0, .int .i64 0, .int .i64 0, .int .i64 0, .int .i64 0, .int .u16 0, .slice none 0 0] TSta)).block ((Ext.alloc _ (.cells (staC y (.slice ta tn tc)) TSta)).block (heap_alloc_new w (.cells (staC x (.slice sa sn sc)) TSta)))
  have r1 := (Ext.alloc _ (.cells #[.int .i64 0, .int .i64 0, .int .i64 0, .int .i64 0, .int .i64 0, .int .i64 0, .int .i64 0, .int .u16 0, .slice none 0 0] TSta)).block (heap_alloc_new (w.alloc (.cells (staC x (.slice sa sn sc)) TSta)) (.cells (staC y (.slice ta tn tc)) TSta))
  have r2 := heap_alloc_new ((w.alloc (.cells (staC x (.slice sa sn sc)) TSta)).alloc (.cells (staC y (.slice ta tn tc)) TSta)) (.cells #[.int .i64 0, .int .i64 0, .int .i64 0, .int .i64 0, .int .i64 0, .int .i64 0, .int .i64 0, .int .u16 0, .slice none 0 0] TSta)
  have x2 := ((Ext.alloc w (.cells (staC x (.slice sa sn sc)) TSta)).thenAlloc (.cells (staC y (.slice ta tn tc)) TSta)).thenAlloc (.cells #[.int .i64 0, .int .i64 0, .int .i64 0, .int .i64 0, .int .i64 0, .int .i64 0, .int .i64 0, .int .u16 0, .slice none 0 0] TSta)
  simp only [World.size_alloc] at r0 r1 r2
  have hst : ∀ (z : StaD) (u : Value), staC z u = #[.int .i64 z.k, .int .i64 z.l, .int .i64 z.d, .int .i64 z.f.k, .int .i64 z.f.r, .int .i64 z.f.s, .int .i64 z.f.m, .int .u16 z.f.v, u] := fun _ _ => rfl
  have HR0 := Lib.hid (And.intro r0 (And.intro r1 (And.intro r2 x2)))
  have KC := Lib.hid (And.intro kcx kcy)
  clear r0 r1 r2 x2 kcx kcy
  rw [hst x, hst y] at HR0 ⊢
  obtain ⟨W1, hW1⟩ : ∃ W1, W1 = ((w.alloc (.cells #[.int .i64 x.k, .int .i64 x.l, .int .i64 x.d, .int .i64 x.f.k, .int .i64 x.f.r, .int .i64 x.f.s, .int .i64 x.f.m, .int .u16 x.f.v, .slice sa sn sc] TSta)).alloc (.cells #[.int .i64 y.k, .int .i64 y.l, .int .i64 y.d, .int .i64 y.f.k, .int .i64 y.f.r, .int .i64 y.f.s, .int .i64 y.f.m, .int .u16 y.f.v, .slice ta tn tc] TSta)).alloc (.cells #[.int .i64 0, .int .i64 0, .int .i64 0, .int .i64 0, .int .i64 0, .int .i64 0, .int .i64 0, .int .u16 0, .slice none 0 0] TSta) := ⟨_, rfl⟩
  rw [← hW1] at HR0
  have HW := Lib.hid hW1
  clear hW1
  go_enter Tryz.func14, Tryz.ntmps14
  go_wp2_with fail
  rw [← HW.out]
  clear HW
  obtain ⟨r0, r1, r2, x2⟩ := HR0.out
  have k0 : ∀ W, Ext W1.drew W → W.cell? ⟨w.heap.size, 0, none⟩ = some (.int .i64 x.k) ∧ W.cell? ⟨w.heap.size, 1, none⟩ = some (.int .i64 x.l) ∧ W.cell? ⟨w.heap.size + 1, 0, none⟩ = some (.int .i64 y.k) ∧ W.cell? ⟨w.heap.size + 1, 1, none⟩ = some (.int .i64 y.l) := fun W h =>
    ⟨h.cell (cell_of_row W1 _ 0 _ _ _ r0), h.cell (cell_of_row W1 _ 1 _ _ _ r0), h.cell (cell_of_row W1 _ 0 _ _ _ r1), h.cell (cell_of_row W1 _ 1 _ _ _ r1)⟩
  clear r0 r1 r2 x2
  refine wp_region_rg Ext [(3, .known (.int .i64 wx)), (7, .known (.int .i64 wy)), (8, .known (.int .i64 (cmpB wx wy))), (13, .known (.int .i64 (cmpB y.k x.k))), (14, .unk (Two (cmpB wx wy) (cmpB y.k x.k)) Two.ext), (15, .known (.int .i64 (orB (cmpB wx wy) (cmpB y.k x.k))))] (by kernel_rfl) (by kernel_rfl) (by kernel_rfl) Ext.refl (fun _ _ _ => Ext.trans) ?_
  intro σ
  simp only
  repeat (first | (refine rg_pure (x := ?_) rfl (by rfl) (fun W hW => ?_) ?_; rotate_left; (· obtain ⟨e0, e1, f0, f1⟩ := k0 W hW; go_simp; with_reducible rfl); simp only [Nat.reduceAdd, Act.put, List.setIfInBounds_toArray, List.set_cons_zero, List.set_cons_succ]) | (refine rg_skip rfl (by rfl) ?_; simp only [Nat.reduceAdd, Act.put, List.setIfInBounds_toArray, List.set_cons_zero, List.set_cons_succ]))
  refine rg_known rfl (by rfl) (fun W hW hF => ?_) ?_
  · go_simp
    refine (kx W).mono ?_
    rintro e W' ⟨rfl, h⟩
    exact ⟨_, rfl, h, rfl⟩
  simp only [Nat.reduceAdd, Act.put, List.setIfInBounds_toArray, List.set_cons_zero, List.set_cons_succ]
  repeat (first | (refine rg_pure (x := ?_) rfl (by rfl) (fun W hW => ?_) ?_; rotate_left; (· obtain ⟨e0, e1, f0, f1⟩ := k0 W hW; go_simp; with_reducible rfl); simp only [Nat.reduceAdd, Act.put, List.setIfInBounds_toArray, List.set_cons_zero, List.set_cons_succ]) | (refine rg_skip rfl (by rfl) ?_; simp only [Nat.reduceAdd, Act.put, List.setIfInBounds_toArray, List.set_cons_zero, List.set_cons_succ]))
  refine rg_known rfl (by rfl) (fun W hW hF => ?_) ?_
  · go_simp
    refine (ky W).mono ?_
    rintro e W' ⟨rfl, h⟩
    exact ⟨_, rfl, h, rfl⟩
  simp only [Nat.reduceAdd, Act.put, List.setIfInBounds_toArray, List.set_cons_zero, List.set_cons_succ]
  repeat (first | (refine rg_pure (x := ?_) rfl (by rfl) (fun W hW => ?_) ?_; rotate_left; (· obtain ⟨e0, e1, f0, f1⟩ := k0 W hW; go_simp; with_reducible rfl); simp only [Nat.reduceAdd, Act.put, List.setIfInBounds_toArray, List.set_cons_zero, List.set_cons_succ]) | (refine rg_skip rfl (by rfl) ?_; simp only [Nat.reduceAdd, Act.put, List.setIfInBounds_toArray, List.set_cons_zero, List.set_cons_succ]))
  refine rg_known rfl (by rfl) (fun W hW hF => ?_) ?_
  · go_simp
    refine (cmp_calls wx wy W).mono ?_
    rintro e W' ⟨rfl, rfl⟩
    exact ⟨_, rfl, Ext.refl _, rfl⟩
  simp only [Nat.reduceAdd, Act.put, List.setIfInBounds_toArray, List.set_cons_zero, List.set_cons_succ]
  repeat (first | (refine rg_pure (x := ?_) rfl (by rfl) (fun W hW => ?_) ?_; rotate_left; (· obtain ⟨e0, e1, f0, f1⟩ := k0 W hW; go_simp; with_reducible rfl); simp only [Nat.reduceAdd, Act.put, List.setIfInBounds_toArray, List.set_cons_zero, List.set_cons_succ]) | (refine rg_skip rfl (by rfl) ?_; simp only [Nat.reduceAdd, Act.put, List.setIfInBounds_toArray, List.set_cons_zero, List.set_cons_succ]))
  refine rg_known rfl (by rfl) (fun W hW hF => ?_) ?_
  · go_simp
    refine (cmp_calls y.k x.k W).mono ?_
    rintro e W' ⟨rfl, rfl⟩
    exact ⟨_, rfl, Ext.refl _, rfl⟩
  simp only [Nat.reduceAdd, Act.put, List.setIfInBounds_toArray, List.set_cons_zero, List.set_cons_succ]
  repeat (first | (refine rg_pure (x := ?_) rfl (by rfl) (fun W hW => ?_) ?_; rotate_left; (· obtain ⟨e0, e1, f0, f1⟩ := k0 W hW; go_simp; with_reducible rfl); simp only [Nat.reduceAdd, Act.put, List.setIfInBounds_toArray, List.set_cons_zero, List.set_cons_succ]) | (refine rg_skip rfl (by rfl) ?_; simp only [Nat.reduceAdd, Act.put, List.setIfInBounds_toArray, List.set_cons_zero, List.set_cons_succ]))
  refine rg_unk rfl (by rfl) (fun W hW hF => ?_) ?_
  · go_simp
    exact ⟨Ext.alloc _ _, _, rfl, cell_of_row _ _ 0 _ _ _ (heap_alloc_new W _), cell_of_row _ _ 1 _ _ _ (heap_alloc_new W _)⟩
  simp only [Nat.reduceAdd, Act.put, List.setIfInBounds_toArray, List.set_cons_zero, List.set_cons_succ]
  repeat (first | (refine rg_pure (x := ?_) rfl (by rfl) (fun W hW => ?_) ?_; rotate_left; (· obtain ⟨e0, e1, f0, f1⟩ := k0 W hW; go_simp; with_reducible rfl); simp only [Nat.reduceAdd, Act.put, List.setIfInBounds_toArray, List.set_cons_zero, List.set_cons_succ]) | (refine rg_skip rfl (by rfl) ?_; simp only [Nat.reduceAdd, Act.put, List.setIfInBounds_toArray, List.set_cons_zero, List.set_cons_succ]))
  refine rg_known rfl (by rfl) (fun W hW hF => ?_) ?_
  · obtain ⟨q, hq, c0, c1⟩ := hF 14 _ _ rfl (by kernel_rfl)
    generalize σ 14 = u at *
    subst hq
    go_simp
    refine (or_calls q _ _ W c0 c1).mono ?_
    rintro e W' ⟨rfl, rfl⟩
    exact ⟨_, rfl, Ext.refl _, rfl⟩
  simp only [Nat.reduceAdd, Act.put, List.setIfInBounds_toArray, List.set_cons_zero, List.set_cons_succ]
  obtain ⟨z, hz⟩ : ∃ z, orB (cmpB wx wy) (cmpB y.k x.k) = z := ⟨_, rfl⟩
  rw [hz]
  repeat (first | (refine rg_pure (x := ?_) rfl (by rfl) (fun W hW => ?_) ?_; rotate_left; (· obtain ⟨e0, e1, f0, f1⟩ := k0 W hW; go_simp; with_reducible rfl); simp only [Nat.reduceAdd, Act.put, List.setIfInBounds_toArray, List.set_cons_zero, List.set_cons_succ]) | (refine rg_skip rfl (by rfl) ?_; simp only [Nat.reduceAdd, Act.put, List.setIfInBounds_toArray, List.set_cons_zero, List.set_cons_succ]))
  refine rg_done fun W2 hW hF => ?_
  clear hF k0 kx ky
  obtain ⟨r0, r1, r2, x2⟩ := HR0.out
  replace r0 := hW.block r0
  replace r1 := hW.block r1
  replace r2 := hW.block r2
  have x3 := x2.trans (Ext.of_drew hW)
  clear hW x2 HR0
  cases hd : decide (0 < z) with
  | true =>
    go_wp2_with (first | refine loadSta (x := y) (u := .slice ta tn tc) r1 rfl rfl rfl ?_)
    have hm := HM.out
    rw [hz, hd] at hm
    clear HM
    obtain rfl : y = M := hm.symm
    clear hm
    refine (KC.out.2 _ x3).mono ?_
    rintro e w4 ⟨u, rfl, hu, h4⟩
    have hlt2 := (Array.getElem?_eq_some_iff.1 r2).1
    replace r2 := h4.block r2
    have x4 := x3.trans h4
    obtain ⟨a4, cap4, rfl⟩ := hu.slice
    have HH := Lib.hid (And.intro x3 (And.intro x4 (And.intro hlt2 hu)))
    clear KC hz hd hst r0 r1 h4 x3 x4 hlt2 hu
    go_wp2_with (refine storeSta (m := y) (sa := a4) (sn := y.f.b.length) (sc := cap4) r2 rfl rfl rfl rfl rfl ?_)
    have rd := setRow_heap w4 (w.heap.size + 1 + 1) _ (staC y (.slice a4 y.f.b.length cap4)) _ _ r2
    refine bodyPost_ret (results_cell_row rfl _ _ (w.heap.size + 1 + 1) _ _ _ _ (by rfl) rd Tryz.underlying36 rfl (by kernel_rfl)) rfl ?_
    refine ⟨.slice a4 y.f.b.length cap4, by rfl, ?_, HH.out.2.1.setRow (by omega) _⟩
    exact OwnB.mono (ownB_other HH.out.2.2.2 fun k hk => setRow_other _ _ _ _ (by have := HH.out.2.2.1; omega)) HH.out.1.size
  | false =>
    go_wp2_with (first | refine loadSta (x := x) (u := .slice sa sn sc) r0 rfl rfl rfl ?_)
    have hm := HM.out
    rw [hz, hd] at hm
    clear HM
    obtain rfl : x = M := hm.symm
    clear hm
    refine (KC.out.1 _ x3).mono ?_
    rintro e w4 ⟨u, rfl, hu, h4⟩
    have hlt2 := (Array.getElem?_eq_some_iff.1 r2).1
    replace r2 := h4.block r2
    have x4 := x3.trans h4
    obtain ⟨a4, cap4, rfl⟩ := hu.slice
    have HH := Lib.hid (And.intro x3 (And.intro x4 (And.intro hlt2 hu)))
    clear KC hz hd hst r0 r1 h4 x3 x4 hlt2 hu
    go_wp2_with (refine storeSta (m := x) (sa := a4) (sn := x.f.b.length) (sc := cap4) r2 rfl rfl rfl rfl rfl ?_)
    have rd := setRow_heap w4 (w.heap.size + 1 + 1) _ (staC x (.slice a4 x.f.b.length cap4)) _ _ r2
    refine bodyPost_ret (results_cell_row rfl _ _ (w.heap.size + 1 + 1) _ _ _ _ (by rfl) rd Tryz.underlying36 rfl (by kernel_rfl)) rfl ?_
    refine ⟨.slice a4 x.f.b.length cap4, by rfl, ?_, HH.out.2.1.setRow (by omega) _⟩
    exact OwnB.mono (ownB_other HH.out.2.2.2 fun k hk => setRow_other _ _ _ _ (by have := HH.out.2.2.1; omega)) HH.out.1.size
end Go.Proofs.YtcdaelgnankmfaaGreat.VSta
