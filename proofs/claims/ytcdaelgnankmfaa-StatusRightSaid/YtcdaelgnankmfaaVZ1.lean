/- Bundled out of VStat1 VStat2 VSeqB VStat3 VStat4. -/
import Derived.Test.YtcdaelgnankmfaaVZ0
import Derived.Test.YtcdaelgnankmfaaVCst
import Derived.Test.YtcdaelgnankmfaaVSeqN
import Derived.Test.YtcdaelgnankmfaaVBase
import Derived.Test.YtcdaelgnankmfaaVFrmF
import Derived.Test.YtcdaelgnankmfaaVSta
import Derived.Test.YtcdaelgnankmfaaVCh
import Derived.Test.YtcdaelgnankmfaaVPlanK
import Derived.Deep.MidRow
/- status: right, Check. -/
namespace Go.Proofs.Ytcdaelgnankmfaa.VPlan
open Go.RowKit Go.VBase Go.VRg Go.VPlan

def rightS (p : PlanD) (r s k : Int) : Bool := if k = 2 ∨ k = 3 then fullP p r s else if k = 1 then !(fullP p r s) else false
set_option maxRecDepth 100000 in
set_option maxHeartbeats 4000000 in
theorem right_calls (p : PlanD) (r s k : Int) (w : World) : Calls Try.prog 36 #[planV p, plV r s, .int .i64 k] w fun e w' => e = .returned (.bool (rightS p r s k)) ∧ Ext w w' := by
  have kF := fun W => Full_calls p r s W
  have r0 := (Ext.alloc _ (.cells #[.int .i64 r, .int .i64 s] 37)).block (heap_alloc_new w (.cells (planC p) 35))
  have r1 := heap_alloc_new (w.alloc (.cells (planC p) 35)) (.cells #[.int .i64 r, .int .i64 s] 37)
  rw [World.size_alloc] at r1
  have x0 := (Ext.alloc w (.cells (planC p) 35)).thenAlloc (.cells #[.int .i64 r, .int .i64 s] 37)
  obtain ⟨W0, hW0⟩ : ∃ W0, W0 = (w.alloc (.cells (planC p) 35)).alloc (.cells #[.int .i64 r, .int .i64 s] 37) := ⟨_, rfl⟩
  rw [← hW0] at r0 r1 x0
  have H0 := Lib.hid hW0
  clear hW0
  have e0 : W0.cell? ⟨w.heap.size + 1, 0, none⟩ = some (.int .i64 r) := cell_of_row _ _ 0 _ _ _ r1
  have e1 : W0.cell? ⟨w.heap.size + 1, 1, none⟩ = some (.int .i64 s) := cell_of_row _ _ 1 _ _ _ r1
  obtain ⟨X, hX⟩ : ∃ X, rightS p r s k = X := ⟨_, rfl⟩
  rw [hX]
  unfold rightS at hX
  generalize fullP p r s = F at *
  have HX := Lib.hid hX
  clear hX
  unfold plV at kF ⊢
  unfold planV planC at ⊢
  go_enter Try.func36, Try.ntmps36
  refine wp_seq_k fun K hK => ?_
  have HK := Lib.hid hK
  clear hK
  go_wp2_with fail
  refine HK.out _ _ ?_
  clear HK
  show Code.wp _ _ _ _ ((w.alloc (.cells (planC p) 35)).alloc (.cells #[.int .i64 r, .int .i64 s] 37))
  rw [← H0.out]
  clear H0
  by_cases h2 : k = 2
  · subst h2
    have hx : X = F := HX.out.symm.trans (if_pos (.inl rfl))
    subst hx
    go_wp2_with (refine loadPlanP r0 rfl rfl rfl ?_)
    refine (kF _).mono ?_
    rintro e w1 ⟨rfl, h1⟩
    have x1 := x0.trans h1
    clear r0 r1 x0 h1 kF e0 e1
    go_wp2_with fail
    go_ret
    exact ⟨by simp, x1⟩
  by_cases h3 : k = 3
  · subst h3
    have hx : X = F := HX.out.symm.trans (if_pos (.inr rfl))
    subst hx
    go_wp2_with (refine loadPlanP r0 rfl rfl rfl ?_)
    refine (kF _).mono ?_
    rintro e w1 ⟨rfl, h1⟩
    have x1 := x0.trans h1
    clear r0 r1 x0 h1 kF e0 e1
    go_wp2_with fail
    go_ret
    exact ⟨by simp, x1⟩
  by_cases h4 : k = 1
  · subst h4
    have hx : X = !F := HX.out.symm
    subst hx
    go_wp2_with (refine loadPlanP r0 rfl rfl rfl ?_)
    refine (kF _).mono ?_
    rintro e w1 ⟨rfl, h1⟩
    have x1 := x0.trans h1
    clear r0 r1 x0 h1 kF e0 e1
    go_wp2_with fail
    go_ret
    exact ⟨by simp, x1⟩
  have b2 : (k == 2) = false := by simpa using h2
  have b3 : (k == 3) = false := by simpa using h3
  have b1 : (k == 1) = false := by simpa using h4
  have hx : X = false := by rw [← HX.out, if_neg (by omega), if_neg h4]
  subst hx
  clear r0 r1 kF e0 e1 h2 h3 h4
  go_wp2_with fail
  go_ret
  exact ⟨rfl, x0⟩

abbrev CsD := Int × Int × Int × Int
/-- A slice reads as these C-states. -/
def LooksE (w : World) (v : Value) (l : List CsD) : Prop :=
  ∃ a cap, v = .slice a l.length cap ∧ l.length ≤ cap ∧ cap ≤ maxLen ∧ ∀ (i : Nat) (c : CsD), l[i]? = some c → ∃ b off, a = some ⟨b, off, none⟩ ∧ w.cell? ⟨b, off + i * 4, none⟩ = some (.int .i64 c.1) ∧ w.cell? ⟨b, off + i * 4 + 1, none⟩ = some (.int .i64 c.2.1) ∧
    w.cell? ⟨b, off + i * 4 + 2, none⟩ = some (.int .i64 c.2.2.1) ∧ w.cell? ⟨b, off + i * 4 + 3, none⟩ = some (.int .u16 c.2.2.2)
theorem LooksE.ext {w w' : World} {v : Value} {l : List CsD} (h : LooksE w v l) (e : Ext w w') : LooksE w' v l := by
  obtain ⟨a, cap, h1, h2, h3, h4⟩ := h
  refine ⟨a, cap, h1, h2, h3, fun i c hc => ?_⟩
  obtain ⟨b, off, h5, d0, d1, d2, d3⟩ := h4 i c hc
  exact ⟨b, off, h5, e.cell d0, e.cell d1, e.cell d2, e.cell d3⟩
def lookOk (r s : Int) (c : CsD) : Bool := VCst.chkB c.1 c.2.1 c.2.2.1 && ((c.1 == r) && (c.2.1 == s))
def stChk (p : PlanD) (r s : Int) (l : List CsD) : Bool := hasP p r s && (decide (1 ≤ l.length) && (decide (l.length ≤ 2) && l.all (lookOk r s)))
set_option maxRecDepth 100000 in
set_option maxHeartbeats 8000000 in
theorem stCheck_calls (p : PlanD) (r s : Int) (v : Value) (l : List CsD) (w : World) (hv : LooksE w v l) : Calls Try.prog 33 #[planV p, plV r s, v] w fun e w' => e = .returned (.int .i64 (if stChk p r s l then 0 else 170)) ∧ Ext w w' := by
  have kB := fun W => Begin_calls p r s W
  have kK := fun (c : CsD) W => VCst.Check_calls c.1 c.2.1 c.2.2.1 c.2.2.2 W
  unfold VCst.CheckPost VCst.cst at kK
  obtain ⟨va, vc, rfl, hlc, hcm, hop⟩ := hv
  have r0 := (Ext.alloc _ (.cells #[.int .i64 r, .int .i64 s] 37)).block (heap_alloc_new w (.cells (planC p) 35))
  have r1 := heap_alloc_new (w.alloc (.cells (planC p) 35)) (.cells #[.int .i64 r, .int .i64 s] 37)
  rw [World.size_alloc] at r1
  have x0 := (Ext.alloc w (.cells (planC p) 35)).thenAlloc (.cells #[.int .i64 r, .int .i64 s] 37)
  obtain ⟨W0, hW0⟩ : ∃ W0, W0 = (w.alloc (.cells (planC p) 35)).alloc (.cells #[.int .i64 r, .int .i64 s] 37) := ⟨_, rfl⟩
  rw [← hW0] at r0 r1 x0
  have H0 := Lib.hid hW0
  clear hW0
  have e0 : W0.cell? ⟨w.heap.size + 1, 0, none⟩ = some (.int .i64 r) := cell_of_row _ _ 0 _ _ _ r1
  have e1 : W0.cell? ⟨w.heap.size + 1, 1, none⟩ = some (.int .i64 s) := cell_of_row _ _ 1 _ _ _ r1
  obtain ⟨X, hX⟩ : ∃ X : Int, (if stChk p r s l then 0 else 170) = X := ⟨_, rfl⟩
  rw [hX]
  unfold stChk at hX
  have HX := Lib.hid hX
  clear hX
  have HOP := Lib.hid hop
  clear hop
  generalize begP p r s = BG at *
  generalize hasP p r s = B at *
  unfold plV at kB ⊢
  unfold planV planC at ⊢
  go_enter Try.func33, Try.ntmps33
  refine wp_seq_k fun K hK => ?_
  have HK := Lib.hid hK
  clear hK
  go_wp2_with fail
  refine HK.out _ _ ?_
  clear HK
  show Code.wp _ _ _ _ ((w.alloc (.cells (planC p) 35)).alloc (.cells #[.int .i64 r, .int .i64 s] 37))
  rw [← H0.out]
  clear H0
  go_wp2_with (refine loadPlanP r0 rfl rfl rfl ?_)
  refine (kB _).mono ?_
  rintro e w1 ⟨rfl, h1⟩
  have x1 := x0.trans h1
  have r11 := h1.block r1
  clear kB h1 r0 r1 x0 e0 e1
  cases B with
  | false =>
    have hx : X = 170 := HX.out.symm
    subst hx
    simp only [Bool.false_eq_true, if_false]
    go_wp2_with fail
    go_ret
    exact ⟨rfl, x1⟩
  | true =>
  simp only [if_true]
  by_cases h0 : l.length = 0
  · have hx : X = 170 := by rw [← HX.out, decide_eq_false (by omega : ¬ 1 ≤ l.length)]; rfl
    subst hx
    rw [h0]
    clear r11 HOP
    go_wp2_with fail
    go_ret
    exact ⟨rfl, x1⟩
  have d0 : decide ((l.length : Int) < 1) = false := decide_eq_false (by omega)
  have d0n : ¬ l.length = 0 := h0
  by_cases h2 : l.length ≤ 2
  rotate_left
  · have d1 : decide ((2 : Int) < (l.length : Int)) = true := decide_eq_true (by omega)
    have hx : X = 170 := by rw [← HX.out, decide_eq_false h2, decide_eq_true (by omega : 1 ≤ l.length)]; rfl
    subst hx
    clear r11 HOP
    go_wp2_with fail
    go_ret
    exact ⟨rfl, x1⟩
  have d1 : decide ((2 : Int) < (l.length : Int)) = false := decide_eq_false (by omega)
  have hx : X = if l.all (lookOk r s) then 0 else 170 := by rw [← HX.out, decide_eq_true h2, decide_eq_true (by omega : 1 ≤ l.length)]; rfl
  have HX2 := Lib.hid hx
  clear hx HX
  go_wp2_with fail
  go_loopw [31] (fun i wr => ∃ j : Nat, j ≤ l.length ∧ i = .int .i64 (j : Int) ∧ (∀ c ∈ l.take j, lookOk r s c = true) ∧ Ext w1 wr) (fun i _ => l.length - (intOf i).toNat)
  case atStart => exact ⟨0, Nat.zero_le _, rfl, fun c hc => by simp at hc, Ext.refl _⟩
  case round =>
    obtain ⟨j, hj, rfl, hall, hE⟩ := hrel
    have HALL := Lib.hid hall
    clear hall
    by_cases hlt : j < l.length
    · have hd : decide ((j : Int) < (l.length : Int)) = true := decide_eq_true (by omega)
      have hjw : (j : Int) < (l.length : Int) := by omega
      obtain ⟨c, hc⟩ := get_some hlt
      obtain ⟨b, off, rfl, m0, m1, m2, m3⟩ := HOP.out j c hc
      have xw := x1.trans hE
      have c0 := xw.cell m0
      have c1 := xw.cell m1
      have c2 := xw.cell m2
      have c3 := xw.cell m3
      have HC := Lib.hid hc
      have kKc := kK c
      have hlo : lookOk r s c = (VCst.chkB c.1 c.2.1 c.2.2.1 && ((c.1 == r) && (c.2.1 == s))) := rfl
      have HLO := Lib.hid hlo
      have rA := hE.block r11
      have mem : c ∈ l := List.mem_of_getElem? hc
      have HM := Lib.hid mem
      clear hc m0 m1 m2 m3 hlo mem
      obtain ⟨y0, y1, y2, y3⟩ := c
      simp only at c0 c1 c2 c3 kKc HLO
      have xb := Ext.alloc wr (.cells #[.int .i64 y0, .int .i64 y1, .int .i64 y2, .int .u16 y3] 25)
      have rb := heap_alloc_new wr (.cells #[.int .i64 y0, .int .i64 y1, .int .i64 y2, .int .u16 y3] 25)
      have bad : lookOk r s (y0, y1, y2, y3) = false → X = 170 := fun h => by
        rw [HX2.out, if_neg]
        intro h'
        have := List.all_eq_true.1 h' _ HM.out
        rw [h] at this; cases this
      have HBad := Lib.hid bad
      clear bad
      cases hq : VCst.chkB y0 y1 y2 with
      | false =>
        rw [hq] at kKc HLO
        have hx : X = 170 := HBad.out (by rw [HLO.out]; rfl)
        subst hx
        rw [show (if false = true then (0 : Int) else 40) = 40 from rfl] at kKc
        clear hq rA
        go_wp2_with fail
        refine (kKc _).mono ?_
        rintro e w2 ⟨rfl, h2x⟩
        have xE := (xw.trans xb).trans h2x
        clear kKc h2x rb c0 c1 c2 c3
        go_wp2_with fail
        go_ret
        exact ⟨rfl, xE⟩
      | true =>
        rw [hq] at kKc HLO
        rw [show (if true = true then (0 : Int) else 40) = 0 from rfl] at kKc
        clear hq
        go_wp2_with fail
        refine (kKc _).mono ?_
        rintro e w2 ⟨rfl, h2x⟩
        have xE := (xw.trans xb).trans h2x
        have hE2 := (hE.trans xb).trans h2x
        have rb2 := h2x.block rb
        have rA2 := h2x.block (xb.block rA)
        have f0 := cell_of_row _ _ 0 _ _ _ rb2
        have f1 := cell_of_row _ _ 1 _ _ _ rb2
        rw [show (#[Value.int .i64 y0, .int .i64 y1, .int .i64 y2, .int .u16 y3] : Array Value)[0]? = some (.int .i64 y0) from rfl] at f0
        rw [show (#[Value.int .i64 y0, .int .i64 y1, .int .i64 y2, .int .u16 y3] : Array Value)[1]? = some (.int .i64 y1) from rfl] at f1
        have g0 : w2.cell? ⟨w.heap.size + 1, 0, none⟩ = some (.int .i64 r) := cell_of_row _ _ 0 _ _ _ rA2
        have g1 : w2.cell? ⟨w.heap.size + 1, 1, none⟩ = some (.int .i64 s) := cell_of_row _ _ 1 _ _ _ rA2
        clear kKc h2x rb c0 c1 c2 c3 rb2 rA2 xb rA xw hE
        by_cases hr : y0 = r
        rotate_left
        · have br : (y0 == r) = false := by simpa using hr
          have hx : X = 170 := HBad.out (by rw [HLO.out, br]; rfl)
          subst hx
          go_wp2_with fail
          go_ret
          exact ⟨rfl, xE⟩
        have br : (y0 == r) = true := by simpa using hr
        by_cases hs : y1 = s
        rotate_left
        · have bs : (y1 == s) = false := by simpa using hs
          have hx : X = 170 := HBad.out (by rw [HLO.out, br, bs]; rfl)
          subst hx
          go_wp2_with fail
          go_ret
          exact ⟨rfl, xE⟩
        have bs : (y1 == s) = true := by simpa using hs
        have hok : lookOk r s (y0, y1, y2, y3) = true := by rw [HLO.out, br, bs]; rfl
        have HOK := Lib.hid hok
        clear hok HBad
        go_wp2_with fail
        go_roundw
        case rel =>
          refine ⟨j + 1, by omega, by go_num, fun c hc => ?_, hE2⟩
          rw [take_snoc HC.out] at hc
          rcases List.mem_append.1 hc with hc | hc
          · exact HALL.out c hc
          · simp at hc; subst hc; exact HOK.out
        case measure => simp [intOf]; omega
    · have hd : decide ((j : Int) < (l.length : Int)) = false := decide_eq_false (by omega)
      have hjl : j = l.length := by omega
      have hx : X = 0 := by
        rw [HX2.out, if_pos]
        rw [List.all_eq_true]
        have := HALL.out
        rw [hjl, List.take_length] at this
        exact this
      subst hx
      have xE := x1.trans hE
      clear r11 HOP
      go_wp2_with fail
      go_ret
      exact ⟨rfl, xE⟩
end Go.Proofs.Ytcdaelgnankmfaa.VPlan

/- status: results, as an iterator tells it. -/
namespace Go.Proofs.Ytcdaelgnankmfaa.VPlan
open Go.RowKit Go.VBase Go.VRg Go.VPlan Go.VSeq

def getL (l : List CsD) (i : Nat) : CsD := (l[i]?).getD (0, 0, 0, 0)
def csV (c : CsD) : Value := .agg #[.int .i64 c.1, .int .i64 c.2.1, .int .i64 c.2.2.1, .int .u16 c.2.2.2]
def NxL (l : List CsD) (pre : List Nat) (x : Nat) : Prop := pre = List.range x ∧ x < l.length
theorem KpC.cell {W W' : World} (h : KpC W W') {p : Addr} {v : Value} (hc : W.cell? p = some v) : W'.cell? p = some v := by
  unfold World.cell? at hc ⊢
  cases ho : W.heap[p.block]? with
  | none => rw [ho] at hc; simp at hc
  | some o =>
    cases o with
    | cells cs t mk => rw [h _ _ ho rfl, ← ho]; exact hc
    | _ => rw [ho] at hc; simp at hc
theorem results_calls (va : Option Addr) (n vc : Nat) (w : World) : Calls Try.prog 59 #[.slice va n vc] w fun e w' => e = .returned (.func (.func 82) #[] #[.pointer (some ⟨w.heap.size, 0, none⟩)]) ∧ w' = w.alloc (.cells #[.slice va n vc] 48) := by
  go_enter Try.func59, Try.ntmps59
  go_wp2_with fail
  go_ret
  exact ⟨rfl, rfl⟩
attribute [local go_sem] Oper.semAt_some
set_option maxRecDepth 100000 in
set_option maxHeartbeats 4000000 in
theorem results1_in (l : List CsD) (va : Option Addr) (vc : Nat) (lp Bn : Nat) (J Jx : List Nat → World → Prop)
    (hY : ∀ pre x W, J pre W → NxL l pre x → YieldAt Fence.wide 7 Try.prog lp #[.int .i64 (2 + (x : Int)), csV (getL l x)] W fun e W' =>
      (e = .returned (.bool true) ∧ J (pre ++ [x]) W' ∧ KpC W W') ∨ (e = .returned (.bool false) ∧ Jx (pre ++ [x]) W'))
    (W : World) (hBn : W.cell? ⟨Bn, 0, none⟩ = some (.slice va l.length vc)) (hL : LooksE W (.slice va l.length vc) l) (hl48 : l.length ≤ 1000) (hJ : AbidesFrom W.heap.size J) (h0 : J [] W) :
    CallsIn Fence.wide 8 Try.prog 82 #[.func (.yield lp) #[] #[], .pointer (some ⟨Bn, 0, none⟩)] W fun e W' => (∃ v, e = .returned v) ∧
      ((∃ ys, ys = List.range l.length ∧ J ys W') ∨ (∃ pre, pre <+: List.range l.length ∧ Jx pre W')) := by
  obtain ⟨a', cap', hv, hlc, hcm, hop⟩ := hL
  simp only [Value.slice.injEq] at hv
  obtain ⟨rfl, -, rfl⟩ := hv
  have HOP := Lib.hid hop
  clear hop
  refine callsIn_of_wp Try.func82 rfl trivial ?_ rfl
  simp only [Try.ntmps82, List.size_toArray, List.length_cons, List.length_nil, Nat.reduceAdd, Nat.reduceSub, Array.replicate_succ, Array.replicate_zero, List.push_toArray, List.append_toArray, List.nil_append, List.cons_append]
  gi_wp2
  gi_loopw [7] (fun i wr => ∃ j : Nat, j ≤ l.length ∧ i = .int .i64 (j : Int) ∧ J (List.range j) wr ∧ KpC W wr ∧ W.heap.size ≤ wr.heap.size) (fun i _ => l.length - (intOf i).toNat)
  case atStart => exact ⟨0, Nat.zero_le _, rfl, h0, KpC.refl _, Nat.le_refl _⟩
  case round =>
    obtain ⟨j, hj, rfl, hJj, hK, hsz⟩ := hrel
    by_cases hlt : j < l.length
    · have hd : decide ((j : Int) < (l.length : Int)) = true := decide_eq_true (by omega)
      have hjw : (j : Int) < (l.length : Int) := by omega
      obtain ⟨c, hc⟩ := get_some hlt
      obtain ⟨b, off, rfl, m0, m1, m2, m3⟩ := HOP.out j c hc
      have c0 := KpC.cell hK m0
      have c1 := KpC.cell hK m1
      have c2 := KpC.cell hK m2
      have c3 := KpC.cell hK m3
      have hg : getL l j = c := by unfold getL; rw [hc]; rfl
      have hJ2 : J (List.range j) (wr.alloc (.cells #[.int .i64 c.1, .int .i64 c.2.1, .int .i64 c.2.2.1, .int .u16 c.2.2.2] 25)) := hJ _ _ _ none hJj (World.grownBy_alloc _ _ none) (fun r e => by cases e)
      obtain ⟨fn, tmps, assign, body, hy, hR⟩ := hY (List.range j) j _ hJ2 ⟨rfl, hlt⟩
      rw [hg] at hy
      rw [show List.range j ++ [j] = List.range (j + 1) from List.range_succ.symm] at hR
      unfold csV at hy
      have hw2 : IntKind.i64.wrap (2 + (j : Int)) = 2 + (j : Int) := by rw [IntKind.wrap_i64]; omega
      have HK := Lib.hid hK
      clear hc hg hJ2 hY hJj h0 hBn m0 m1 m2 m3 hK hJ
      gi_wp2
      refine hR.mono ?_
      rintro e W3 (⟨rfl, hJ3, hk3⟩ | ⟨rfl, hJx3⟩)
      · have hkk : KpC W W3 := HK.out.trans (KpC.trans (fun k o hk ho => (Ext.alloc _ _).block hk) hk3)
        have hs3 : W.heap.size ≤ W3.heap.size := by
          have h1 := hk3 wr.heap.size _ (heap_alloc_new wr _) rfl
          have h2 := (Array.getElem?_eq_some_iff.1 h1).1
          omega
        clear hy hk3
        gi_wp2
        go_roundw
        case rel => exact ⟨j + 1, by omega, by go_num, hJ3, hkk, hs3⟩
        case measure => simp [intOf]; omega
      · clear hy
        gi_wp2
        refine bodyPost_ret (results_none rfl _ _ _) rfl ?_
        exact ⟨⟨_, rfl⟩, .inr ⟨_, ⟨(List.range l.length).drop (j + 1), by
          have h := List.take_append_drop (j + 1) (List.range l.length)
          rw [List.take_range, Nat.min_eq_left (by omega)] at h
          exact h⟩, hJx3⟩⟩
    · have hjl : j = l.length := by omega
      subst hjl
      clear hY h0 hBn hJ
      gi_wp2
      go_end0
      exact ⟨⟨_, rfl⟩, .inl ⟨_, rfl, hJj⟩⟩
end Go.Proofs.Ytcdaelgnankmfaa.VPlan

/- A range over a function whose rounds come in a known order, and put their second variable into a box. No program in sight. -/
namespace Go.VSeq
open Go.RowKit Go.VBase

theorem wp_rangeFunc_nxb {P : Program} {α : Type} {g : Operand} {ps : Array Tmp} {assign body : Code} {Q : Exit → Act → World → Prop} {a : Act} {w : World}
    {gf : Nat} {lb : Array Value} (hg : a.eval g = .func (.func gf) #[] lb) (eg : ∀ args w, (callFunc gf args).run P w = .ok (.enter gf args) w)
    {encs : α → Array Value} {Nx : List α → α → Prop} {Kp : World → World → Prop} {S Sp : List α → Prop} (hseq : SeqNx P gf lb encs Nx Kp S Sp w)
    (hKt : ∀ {A B C : World}, Kp A B → Kp B C → Kp A C) (hKb : ∀ (W : World) (l : Nat) (o o' : Obj), w.heap.size ≤ l → W.heap[l]? = some o → o.isCells = false → o.isWalk = false → Kp W (W.putObj l o')) (hps : ∀ x, (encs x).size = ps.size)
    (I : List α → World → Prop) (Ix : Code → List α → World → Prop) (hI : OwnFrom w.heap.size I) (hIx : ∀ c, OwnFrom w.heap.size (Ix c)) (h0 : I [] w) (a₁ : α → Nat → Act) (bx : α → Obj) (hKa : ∀ (W : World) (o : Obj), Kp W (W.alloc o))
    (hassign : ∀ (l : Nat) (x : α) (W : World) (K : Act → World → Prop), K (a₁ x W.heap.size) (W.alloc (bx x)) →
      assign.wpIn (Fence.wide.inRound l) 7 P (Exit.then K (fun _ _ _ => False)) { tmps := (ps.zip (encs x)).foldl (fun t (p, v) => t.setIfInBounds p v) a.tmps, defers := [] } W)
    (hbody : ∀ (l : Nat) (pre : List α) (x : α) (n : Nat) (W : World), I pre W → Nx pre x → w.heap.size ≤ n → W.heap[n]? = some (bx x) → body.wpIn (Fence.wide.inRound l) 7 P (ownPostK Kp I Ix (pre ++ [x]) W) (a₁ x n) W)
    (hdone : ∀ (D : Nat) (xs : List α) (W : World), w.heap.size ≤ D → S xs → I xs W → W.heap[D]? = some (.deferred (some [])) → Q .normal { a with defers := { target := .collected D, args := #[] } :: a.defers } W)
    (hstop : ∀ (D : Nat) (c : Code) (pre : List α) (W : World), w.heap.size ≤ D → Sp pre → Ix c pre W → W.heap[D]? = some (.deferred (some [])) → c.wp P Q { a with defers := { target := .collected D, args := #[] } :: a.defers } W) :
    (Code.rangeFunc g ps assign body).wp P Q a w := by
  refine wpIn_wide.1 (wpIn_rangeFunc (F := Fence.wide) (n := 9) fun fn hfn => ?_)
  have hbk : Books fn a.tmps ps assign body w.heap.size .ready none ((w.alloc (.deferred (some []))).alloc (recO fn a.tmps ps assign body w.heap.size .ready none)) :=
    ⟨by have := heap_alloc_new (w.alloc (.deferred (some []))) (recO fn a.tmps ps assign body w.heap.size .ready none); rwa [World.size_alloc] at this, (Below.heap_alloc _ _ _ (by simp)).trans (heap_alloc_new w _)⟩
  have hlow : Below w.heap.size w ((w.alloc (.deferred (some []))).alloc (recO fn a.tmps ps assign body w.heap.size .ready none)) := ((Below.refl _ w).alloc (Nat.le_refl _) _).alloc (by simp) _
  have hI1 := hI.alloc (recO fn a.tmps ps assign body w.heap.size .ready none) (hI.alloc (.deferred (some [])) h0)
  have hsz : ((w.alloc (.deferred (some []))).alloc (recO fn a.tmps ps assign body w.heap.size .ready none)).heap.size = w.heap.size + 2 := by simp
  have hen : (Instr.enterLoop fn a.tmps ps assign body Fence.wide.round).run P w = .ok (w.heap.size + 1, [{ target := .collected w.heap.size, args := #[] }]) ((w.alloc (.deferred (some []))).alloc (recO fn a.tmps ps assign body w.heap.size .ready none)) := run_enterLoop_outer _ _ _ _ _
  generalize (w.alloc (.deferred (some []))).alloc (recO fn a.tmps ps assign body w.heap.size .ready none) = W1 at *
  have hnw : ∀ {A : World} {row : Option Nat}, (∀ r, row = some r → W1.heap.size ≤ r ∧ ∃ o : Obj, A.heap[r]? = some o ∧ o.isWalk = true) → ∀ r, row = some r → w.heap.size ≤ r ∧ ∃ o : Obj, A.heap[r]? = some o ∧ o.isCells = false :=
    fun hr r e => by obtain ⟨h1, o, h2, h3⟩ := hr r e; exact ⟨by omega, o, h2, Obj.not_cells_of_walk h3⟩
  refine ⟨_, _, W1, { target := .fn (.func gf) lb, args := #[.func (.yield (w.heap.size + 1)) #[] #[]] }, W1, gf, #[.func (.yield (w.heap.size + 1)) #[] #[]] ++ lb, W1, hen, ?_, ?_, ?_, ⟨fun _ => by decide, ?_⟩⟩
  · simp only [resolve, hg]; simp [go_sem]
  · intro f' _; trivial
  · simp [invoke, go_sem, eg]
  refine (hseq (w.heap.size + 1) (fun pre W => I pre W ∧ Books fn a.tmps ps assign body w.heap.size .ready none W) (fun pre W => ∃ c, Ix c pre W ∧ Books fn a.tmps ps assign body w.heap.size .done (some c) W) W1 hlow
    (fun s A B row hs hg' hr => ⟨hI s A B row hs.1 hg' (hnw hr), hs.2.walk hg' fun r e => (hr r e).2⟩)
    (fun s A B row hs hg' hr => by obtain ⟨c, h1, h2⟩ := hs; exact ⟨c, hIx c s A B row h1 hg' (hnw hr), h2.walk hg' fun r e => (hr r e).2⟩) ?_ ⟨hI1, hbk⟩).mono ?_
  · rintro pre x W ⟨hi, hB⟩ hnx
    have hy := run_yield (P := P) (args := encs x) hB.1 (hps x)
    have hlt : w.heap.size + 1 < W.heap.size := (Array.getElem?_eq_some_iff.1 hB.1).1
    have hB0 := hB
    have hbox := heap_alloc_new W (bx x)
    have hB : Books fn a.tmps ps assign body w.heap.size .ready none (W.alloc (bx x)) := hB0.keep ⟨by simp, fun k o hk _ => (Ext.alloc _ _).block hk⟩
    have hi := hI.alloc (bx x) hi
    have hwa : Kp W (W.alloc (bx x)) := hKa _ _
    refine ⟨fn, _, assign, body, hy, roundIn_of_wpIn hfn (hassign _ x W _ ⟨_, run_beginRound hB.1 rfl, ?_⟩)⟩
    have hbx2 : ((W.alloc (bx x)).putObj (w.heap.size + 1) (recO fn a.tmps ps assign body w.heap.size .busy none)).heap[W.heap.size]? = some (bx x) := (World.putObj_heap_other (by omega)).trans hbox
    generalize hWg : W.alloc (bx x) = WB at *
    have hB2 : Books fn a.tmps ps assign body w.heap.size .busy none (WB.putObj (w.heap.size + 1) (recO fn a.tmps ps assign body w.heap.size .busy none)) := hB.put
    refine wpIn_mono (hbody _ pre x W.heap.size _ (hI.putObj _ hi (by omega) hB.1 rfl) hnx (by omega) hbx2) ?_
    have hw2 : Kp W (WB.putObj (w.heap.size + 1) (recO fn a.tmps ps assign body w.heap.size .busy none)) := hKt hwa (hKb _ _ _ _ (by omega) hB.1 rfl rfl)
    have leave : ∀ (c : Code) (V : World), KeepsOthers (WB.putObj (w.heap.size + 1) (recO fn a.tmps ps assign body w.heap.size .busy none)) V → Ix c (pre ++ [x]) V →
        ∃ v V', (Instr.endRound (w.heap.size + 1) (some c)).run P V = .ok v V' ∧ ((Ending.returned v = .returned (.bool true) ∧ (I (pre ++ [x]) V' ∧ Books fn a.tmps ps assign body w.heap.size .ready none V') ∧ Kp W V') ∨
          (Ending.returned v = .returned (.bool false) ∧ ∃ c, Ix c (pre ++ [x]) V' ∧ Books fn a.tmps ps assign body w.heap.size .done (some c) V')) := fun c V hk hx => by
      have hBV := hB2.keep hk
      exact ⟨_, _, run_endRound (P := P) (some c) hBV.1, .inr ⟨rfl, c, (hIx c).putObj _ hx (by omega) hBV.1 rfl, hBV.put⟩⟩
    rintro e a3 V hp
    cases e with
    | normal =>
      obtain ⟨hk, hkp, hi3⟩ := hp
      have hBV := hB2.keep hk
      exact ⟨_, _, run_endRound (P := P) none hBV.1, .inl ⟨rfl, ⟨hI.putObj _ hi3 (by omega) hBV.1 rfl, hBV.put⟩, hKt (hKt hw2 hkp) (hKb _ _ _ _ (by omega) hBV.1 rfl rfl)⟩⟩
    | ret => exact leave _ V hp.1 hp.2
    | exit id => exact leave _ V hp.1 hp.2
    | goto t => exact leave _ V hp.1 hp.2
    | panic ch => exact hp.elim
    | outgrown => exact hp.elim
  · rintro e W2 ⟨⟨v, rfl⟩, (⟨xs, hS, hi, hB⟩ | ⟨pre, hSp, c, hi, hB⟩)⟩
    · exact ⟨none, _, run_endLoop (P := P) hB.1 (by simp), hdone _ xs _ (Nat.le_refl _) hS (hI.putObj _ hi (by omega) hB.1 rfl) ((World.putObj_heap_other (by omega)).trans hB.2)⟩
    · exact ⟨some c, _, run_endLoop (P := P) hB.1 (by simp), wpIn_wide.2 (hstop _ c pre _ (Nat.le_refl _) hSp ((hIx c).putObj _ hi (by omega) hB.1 rfl) ((World.putObj_heap_other (by omega)).trans hB.2))⟩
theorem wp_rangeFunc2_nxb {P : Program} {α : Type} {g : Operand} {p1 p2 q1 q2 : Tmp} {assign body : Code} {Q : Exit → Act → World → Prop} {a : Act} {w : World}
    {gf : Nat} {lb : Array Value} (hg : a.eval g = .func (.func gf) #[] lb) (eg : ∀ args w, (callFunc gf args).run P w = .ok (.enter gf args) w)
    {e1 e2 : α → Value} {Nx : List α → α → Prop} {Kp : World → World → Prop} {S Sp : List α → Prop} (hseq : SeqNx P gf lb (fun x => #[e1 x, e2 x]) Nx Kp S Sp w)
    (hKt : ∀ {A B C : World}, Kp A B → Kp B C → Kp A C) (hKb : ∀ (W : World) (l : Nat) (o o' : Obj), w.heap.size ≤ l → W.heap[l]? = some o → o.isCells = false → o.isWalk = false → Kp W (W.putObj l o'))
    (I : List α → World → Prop) (Ix : Code → List α → World → Prop) (hI : OwnFrom w.heap.size I) (hIx : ∀ c, OwnFrom w.heap.size (Ix c)) (h0 : I [] w) (bx : α → Obj) (hKa : ∀ (W : World) (o : Obj), Kp W (W.alloc o))
    (hassign : ∀ (l : Nat) (x : α) (W : World) (K : Act → World → Prop), K { tmps := (((a.tmps.setIfInBounds p1 (e1 x)).setIfInBounds p2 (e2 x)).setIfInBounds q1 (e1 x)).setIfInBounds q2 (.pointer (some ⟨W.heap.size, 0, none⟩)), defers := [] } (W.alloc (bx x)) →
      assign.wpIn (Fence.wide.inRound l) 7 P (Exit.then K (fun _ _ _ => False)) { tmps := (a.tmps.setIfInBounds p1 (e1 x)).setIfInBounds p2 (e2 x), defers := [] } W)
    (hbody : ∀ (l : Nat) (pre : List α) (x : α) (n : Nat) (W : World), I pre W → Nx pre x → w.heap.size ≤ n → W.heap[n]? = some (bx x) → body.wpIn (Fence.wide.inRound l) 7 P (ownPostK Kp I Ix (pre ++ [x]) W) { tmps := (((a.tmps.setIfInBounds p1 (e1 x)).setIfInBounds p2 (e2 x)).setIfInBounds q1 (e1 x)).setIfInBounds q2 (.pointer (some ⟨n, 0, none⟩)), defers := [] } W)
    (hdone : ∀ (D : Nat) (xs : List α) (W : World), w.heap.size ≤ D → S xs → I xs W → W.heap[D]? = some (.deferred (some [])) → Q .normal { a with defers := { target := .collected D, args := #[] } :: a.defers } W)
    (hstop : ∀ (D : Nat) (c : Code) (pre : List α) (W : World), w.heap.size ≤ D → Sp pre → Ix c pre W → W.heap[D]? = some (.deferred (some [])) → c.wp P Q { a with defers := { target := .collected D, args := #[] } :: a.defers } W) :
    (Code.rangeFunc g #[p1, p2] assign body).wp P Q a w :=
  wp_rangeFunc_nxb hg eg hseq hKt hKb (fun x => rfl) I Ix hI hIx h0 (fun x n => { tmps := (((a.tmps.setIfInBounds p1 (e1 x)).setIfInBounds p2 (e2 x)).setIfInBounds q1 (e1 x)).setIfInBounds q2 (.pointer (some ⟨n, 0, none⟩)), defers := [] }) bx hKa
    (fun l x W K hK => by have := hassign l x W K hK; simpa using this) hbody hdone hstop
end Go.VSeq

/- status: looked. -/
namespace Go.Proofs.Ytcdaelgnankmfaa.VSta
open Go.RowKit Go.VBase Go.VRg Go.VSeq Go.VPlan VPlan Go.VOct VOct VCst Go.Proofs.Ytcdaelgnankmfaa.VCrc _root_.Go.VCrc VMsg

def withL (g : FrmD) (c : CsD) : FrmD := { g with r := c.1, s := c.2.1, m := c.2.2.1, v := c.2.2.2 }
def fitL (raw : List UInt8) (l : List CsD) (k : Nat) : Bool := fitsF raw (getL l k).1 (getL l k).2.1 (getL l k).2.2.1 (getL l k).2.2.2
def LkI (raw : List UInt8) (l : List CsD) (A : World) (pre : List Nat) (W : World) : Prop := (∀ i, i < pre.length → fitL raw l i = false) ∧ Ext A W
def LkX (raw : List UInt8) (l : List CsD) (w A : World) (by' : Int) (g : FrmD) (u : Value) (c : Code) (_ : List Nat) (W : World) : Prop :=
  c = .exit 0 ∧ ∃ i, i < l.length ∧ (∀ k, k < i → fitL raw l k = false) ∧ fitL raw l i = true ∧ W.heap[w.heap.size + 2]? = A.heap[w.heap.size + 2]? ∧ W.heap[w.heap.size + 3]? = some (.cells (staC ⟨3, 2 + (i : Int), by', withL g (getL l i)⟩ u) TSta) ∧ Ext w W
theorem lkI_own (raw : List UInt8) (l : List CsD) (A : World) : OwnFrom A.heap.size (LkI raw l A) := by
  rintro pre W W' row ⟨h0, h3⟩ hg hr
  exact ⟨h0, Below.trans h3 (grown_below hg h3.size (fun k hk => by have := (hr k hk).1; omega))⟩
/-- The frame inside of a status, put in as a whole. -/
theorem frm_set2 {W : World} {b : Nat} {x : StaD} {f : FrmD} {u0 u : Value} {T : TypeId} (h : W.heap[b]? = some (.cells (staC x u0) T)) :
    (W.setCells b 3 (frmC f u).toList).heap[b]? = some (.cells (staC { x with f := f } u) T) ∧ (∀ k, k ≠ b → (W.setCells b 3 (frmC f u).toList).heap[k]? = W.heap[k]?) ∧ (W.setCells b 3 (frmC f u).toList).heap.size = W.heap.size ∧ KeepsOthers W (W.setCells b 3 (frmC f u).toList) ∧ (∀ n, n ≤ b → Below n W (W.setCells b 3 (frmC f u).toList)) := by
  have e : W.setCells b 3 (frmC f u).toList = (((((W.setCell ⟨b, 3, none⟩ (.int .i64 f.k)).setCell ⟨b, 4, none⟩ (.int .i64 f.r)).setCell ⟨b, 5, none⟩ (.int .i64 f.s)).setCell ⟨b, 6, none⟩ (.int .i64 f.m)).setCell ⟨b, 7, none⟩ (.int .u16 f.v)).setCell ⟨b, 8, none⟩ u := rfl
  rw [e]
  have h1 := heap_setCell_same W b 3 _ _ (.int .i64 f.k) h
  have h2 := heap_setCell_same _ b 4 _ _ (.int .i64 f.r) h1
  have h3 := heap_setCell_same _ b 5 _ _ (.int .i64 f.s) h2
  have h4 := heap_setCell_same _ b 6 _ _ (.int .i64 f.m) h3
  have h5 := heap_setCell_same _ b 7 _ _ (.int .u16 f.v) h4
  have h6 := heap_setCell_same _ b 8 _ _ u h5
  refine ⟨h6.trans rfl, fun k hk => ?_, ?_, ?_, fun n hn => Below.setCell (Below.setCell (Below.setCell (Below.setCell (Below.setCell (Below.setCell (Below.refl _ _) hn _) hn _) hn _) hn _) hn _) hn _⟩
  · rw [heap_setCell_other _ _ _ _ hk, heap_setCell_other _ _ _ _ hk, heap_setCell_other _ _ _ _ hk, heap_setCell_other _ _ _ _ hk, heap_setCell_other _ _ _ _ hk, heap_setCell_other _ _ _ _ hk]
  · simp only [World.size_setCell]
  · exact ((((((KeepsOthers.setCell _ _ _)).trans (KeepsOthers.setCell _ _ _)).trans (KeepsOthers.setCell _ _ _)).trans (KeepsOthers.setCell _ _ _)).trans (KeepsOthers.setCell _ _ _)).trans (KeepsOthers.setCell _ _ _)
theorem frm_there2 {W : World} {b : Nat} {x : StaD} {u : Value} {T : TypeId} (h : W.heap[b]? = some (.cells (staC x u) T)) : W.there b 3 6 := fun j hj => by
  refine ⟨?_, frozen_of_row W b (3 + j) _ _ h⟩
  match j, hj with
  | 0, _ => rw [cell_of_row W b 3 _ _ _ h]; rfl
  | 1, _ => rw [cell_of_row W b 4 _ _ _ h]; rfl
  | 2, _ => rw [cell_of_row W b 5 _ _ _ h]; rfl
  | 3, _ => rw [cell_of_row W b 6 _ _ _ h]; rfl
  | 4, _ => rw [cell_of_row W b 7 _ _ _ h]; rfl
  | 5, _ => rw [cell_of_row W b 8 _ _ _ h]; rfl
theorem exec_storeFrm2 {W : World} {o : Oper} {a : Act} {t t' : Tmp} {b : Nat} {x : StaD} {f : FrmD} {u0 : Value} {sl : Sl3} (h0 : W.heap[b]? = some (.cells (staC x u0) TSta)) (ho : o.op = .store 28 (.tmp t) (.tmp t')) (hx : a.eval (.tmp t) = .pointer (some ⟨b, 3, none⟩)) (hy : a.eval (.tmp t') = .agg (frmC f (slV sl))) :
    (execOp a.eval o).run Try.prog W = .ok .skip (W.setCells b 3 (frmC f (slV sl)).toList) := by
  unfold execOp
  simp only [ho, hx, hy, Sem.run_bind, run_storeAt_mid (P := Try.prog) W b 3 28 (frmC f (slV sl)) (frm_there2 h0) (by kernel_rfl) (by unfold frmC slV; simp [Value.oneCell'])]
  rfl
/-- The c-state inside of a frame, put in field by field. -/
theorem cst_set {W : World} {b : Nat} {f : FrmD} {c : CsD} {u : Value} {T : TypeId} (h : W.heap[b]? = some (.cells (frmC f u) T)) :
    ((((W.setCell ⟨b, 1, none⟩ (.int .i64 c.1)).setCell ⟨b, 2, none⟩ (.int .i64 c.2.1)).setCell ⟨b, 3, none⟩ (.int .i64 c.2.2.1)).setCell ⟨b, 4, none⟩ (.int .u16 c.2.2.2)).heap[b]? = some (.cells (frmC (withL f c) u) T) ∧
    (∀ k, k ≠ b → ((((W.setCell ⟨b, 1, none⟩ (.int .i64 c.1)).setCell ⟨b, 2, none⟩ (.int .i64 c.2.1)).setCell ⟨b, 3, none⟩ (.int .i64 c.2.2.1)).setCell ⟨b, 4, none⟩ (.int .u16 c.2.2.2)).heap[k]? = W.heap[k]?) ∧
    KeepsOthers W ((((W.setCell ⟨b, 1, none⟩ (.int .i64 c.1)).setCell ⟨b, 2, none⟩ (.int .i64 c.2.1)).setCell ⟨b, 3, none⟩ (.int .i64 c.2.2.1)).setCell ⟨b, 4, none⟩ (.int .u16 c.2.2.2)) ∧
    (∀ n, n ≤ b → Below n W ((((W.setCell ⟨b, 1, none⟩ (.int .i64 c.1)).setCell ⟨b, 2, none⟩ (.int .i64 c.2.1)).setCell ⟨b, 3, none⟩ (.int .i64 c.2.2.1)).setCell ⟨b, 4, none⟩ (.int .u16 c.2.2.2))) := by
  have h1 := heap_setCell_same W b 1 _ _ (.int .i64 c.1) h
  have h2 := heap_setCell_same _ b 2 _ _ (.int .i64 c.2.1) h1
  have h3 := heap_setCell_same _ b 3 _ _ (.int .i64 c.2.2.1) h2
  have h4 := heap_setCell_same _ b 4 _ _ (.int .u16 c.2.2.2) h3
  refine ⟨h4.trans rfl, fun k hk => ?_, ?_, fun n hn => ?_⟩
  · rw [heap_setCell_other _ _ _ _ hk, heap_setCell_other _ _ _ _ hk, heap_setCell_other _ _ _ _ hk, heap_setCell_other _ _ _ _ hk]
  · exact (((KeepsOthers.setCell _ _ _).trans (KeepsOthers.setCell _ _ _)).trans (KeepsOthers.setCell _ _ _)).trans (KeepsOthers.setCell _ _ _)
  · exact Below.setCell (Below.setCell (Below.setCell (Below.setCell (Below.refl _ _) hn _) hn _) hn _) hn _

theorem lkX_own (raw : List UInt8) (l : List CsD) (w A : World) (n0 : Nat) (hn0 : w.heap.size + 4 ≤ n0) (by' : Int) (g : FrmD) (u : Value) (c : Code) (o2 : Array Value) (t2 : TypeId) (h2 : A.heap[w.heap.size + 2]? = some (.cells o2 t2)) : OwnFrom n0 (LkX raw l w A by' g u c) := by
  rintro pre W W' row ⟨hc, i, h0, h1, hf, h3, h4, h5⟩ hg hr
  have hr' : ∀ r, row = some r → ∃ o : Obj, W.heap[r]? = some o ∧ o.isCells = false := fun k hk => (hr k hk).2
  rw [h2] at h3
  exact ⟨hc, i, h0, h1, hf, (cells_of_not hg hr' h3).trans h2.symm, cells_of_not hg hr' h4, Below.trans h5 (grown_below hg h5.size (fun k hk => by have := (hr k hk).1; omega))⟩
theorem results_stops (l : List CsD) (va : Option Addr) (vc : Nat) (w : World) (Bn : Nat) (hb : w.heap[Bn]? = some (.cells #[.slice va l.length vc] 48)) (hL : LooksE w (.slice va l.length vc) l) (hl : l.length ≤ 1000) :
    SeqNx Try.prog 82 #[.pointer (some ⟨Bn, 0, none⟩)] (fun (x : Nat) => #[.int .i64 (2 + (x : Int)), csV (getL l x)]) (NxL l) KpC (· = List.range l.length) (· <+: List.range l.length) w :=
  fun lp J Jx W hW hJ _ hY h0 => results1_in l va vc lp Bn J Jx hY W (cell_of_row W _ 0 _ _ _ ((Below.block hW Bn (Array.getElem?_eq_some_iff.1 hb).1).trans hb)) (hL.ext hW) hl hJ h0
theorem loadStaB {ops : Array Oper} {rest : List Oper} {o : Oper} {a : Act} {Q : Exit → Act → World → Prop} {W : World} {t : Tmp} {b : Nat} {T' : TypeId} {mk : Nat × Nat} {x : StaD} {u : Value}
    (h : W.heap[b]? = some (.cells (staC x u) T' mk)) (hgd : o.guard = none) (ho : o.op = .load 30 (.tmp t)) (hx : a.eval (.tmp t) = .pointer (some ⟨b, 0, none⟩))
    (hk : wpList Try.prog ops Q rest (a.put o.dst (.agg (staC x u))) W) : wpList Try.prog ops Q (o :: rest) a W :=
  wpList_step fun K hK => by
    have hw : Region.wanted o (yielded ops a.tmps) = true := by unfold Region.wanted; rw [hgd]
    simp only [hw, if_true]
    exact wp_load_row _ _ ho _ hx _ _ _ _ h Try.underlying30 rfl (by kernel_rfl) (hK _ _ hk)
theorem storeStaB {ops : Array Oper} {rest : List Oper} {o : Oper} {a : Act} {Q : Exit → Act → World → Prop} {W : World} {x y : Operand} {b : Nat} {T' : TypeId} {m : StaD} {sl : Sl3} {old : Array Value}
    (h : W.heap[b]? = some (.cells old T')) (hold : old.size = 9) (hgd : o.guard = none) (ho : o.op = .store TSta x y) (hx : a.eval x = .pointer (some ⟨b, 0, none⟩)) (hy : a.eval y = .agg (staC m (slV sl)))
    (hk : wpList Try.prog ops Q rest (a.put o.dst undef) (W.setRow b (staC m (slV sl)))) : wpList Try.prog ops Q (o :: rest) a W :=
  wpList_store_row hgd _ _ _ ho b _ hx hy T' old h (by kernel_rfl) hold (by unfold staC slV; simp [Value.oneCell']) hk
theorem ext_putD {w V : World} {D : Nat} {o : Obj} (h : Ext w V) (hD : w.heap.size ≤ D) : Ext w (V.putObj D o) := Below.trans h (grown_below (grownBy_putObj' V D _) h.size (fun k hk => by cases hk; exact hD))
theorem exec_loadFrmB {W : World} {o : Oper} {a : Act} {t : Tmp} {b : Nat} {f : FrmD} {u : Value} {T' : TypeId} (h : W.heap[b]? = some (.cells (frmC f u) T')) (ho : o.op = .load 28 (.tmp t)) (hx : a.eval (.tmp t) = .pointer (some ⟨b, 0, none⟩)) :
    (execOp a.eval o).run Try.prog W = .ok (.value (.agg (frmC f u))) W := by
  have hr : W.rangeAt b 0 (frmC f u).toList := fun j v hj => by
    have hl : j < 6 := (List.getElem?_eq_some_iff.1 hj).1
    refine (cell_of_row W b (0 + j) _ _ _ h).trans ?_
    match j, hl with
    | 0, _ => exact hj
    | 1, _ => exact hj
    | 2, _ => exact hj
    | 3, _ => exact hj
    | 4, _ => exact hj
    | 5, _ => exact hj
  unfold execOp
  simp only [ho, hx, Sem.run_bind, run_loadAt_mid (P := Try.prog) W b 0 28 (frmC f u).toList _ hr Try.underlying28 rfl (by kernel_rfl)]
  rfl
/-- The status, by how many of the three stores are done. -/
def stepSt (x by' : Int) (g : FrmD) (c : CsD) (u : Value) : List Value → Array Value
  | [] => staC ⟨2, 1, by', frm0 0⟩ (.slice none 0 0)
  | [_] => staC ⟨3, 1, by', frm0 0⟩ (.slice none 0 0)
  | [_, _] => staC ⟨3, 2 + x, by', frm0 0⟩ (.slice none 0 0)
  | _ => staC ⟨3, 2 + x, by', withL g c⟩ u
def LkS (w A W : World) (x by' : Int) (g : FrmD) (c : CsD) (u : Value) (vs : List Value) (W' : World) : Prop :=
  KeepsOthers W W' ∧ Ext w W' ∧ W'.heap[w.heap.size + 2]? = A.heap[w.heap.size + 2]? ∧ W'.heap[w.heap.size + 3]? = some (.cells (stepSt x by' g c u vs) TSta)
def csO (c : CsD) : Obj := .cells #[.int .i64 c.1, .int .i64 c.2.1, .int .i64 c.2.2.1, .int .u16 c.2.2.2] 25
attribute [local go_sem] Oper.semAt_some
set_option maxRecDepth 100000 in
set_option maxHeartbeats 8000000 in
theorem looked_calls (g : FrmD) (sx : Sl3) (raw : List UInt8) (rv : Value) (by' : Int) (l : List CsD) (va : Option Addr) (vc : Nat) (w : World) (hraw : Bys w rv raw) (hrl : raw.length ≤ 100000) (hL : LooksE w (.slice va l.length vc) l) (hl : l.length ≤ 1000)
    (hvl : ∀ c ∈ l, 0 ≤ c.2.2.2 ∧ c.2.2.2 < 65536) :
    Calls Try.prog 37 #[.agg (frmC g (slV sx)), .slice va l.length vc, rv, .int .i64 by'] w fun e w' =>
      ((∃ i, i < l.length ∧ (∀ k, k < i → fitL raw l k = false) ∧ fitL raw l i = true ∧ e = .returned (.agg (staC ⟨3, 2 + (i : Int), by', withL g (getL l i)⟩ (slV sx)))) ∨ ((∀ k, k < l.length → fitL raw l k = false) ∧ e = .returned (.agg (staC ⟨2, 1, by', frm0 0⟩ (.slice none 0 0))))) ∧ Ext w w' := by
  obtain ⟨sa, sn, sc⟩ := sx
  obtain ⟨ra, rc, rfl⟩ : ∃ a c, rv = .slice a raw.length c := by obtain ⟨a, c, h, _⟩ := hraw; exact ⟨a, c, h⟩
  have hrc := fun W => results_calls va l.length vc W
  unfold slV frmC
  simp only
  refine calls_of_marks Try.func37 rfl ?_
  simp only [Try.ntmps37, List.size_toArray, List.length_cons, List.length_nil, Nat.reduceAdd, Nat.reduceSub, Array.replicate_succ, Array.replicate_zero, List.push_toArray, List.append_toArray, List.nil_append, List.cons_append]
  go_wp2_with fail
  refine wp_scope_straight ?_
  go_wp2_with fail
  refine wp_label ?_
  go_wp2_with fail
  refine (hrc _).mono ?_
  rintro e w' ⟨rfl, rfl⟩
  go_wp2_with fail
  have x0 : Ext w ((((w.alloc (.cells #[.int .i64 g.k, .int .i64 g.r, .int .i64 g.s, .int .i64 g.m, .int .u16 g.v, .slice sa sn sc] TFrm)).alloc (.cells #[.slice ra raw.length rc] 26)).alloc (.cells #[.int .i64 0, .int .i64 0, .int .i64 0, .int .i64 0, .int .i64 0, .int .i64 0, .int .i64 0, .int .u16 0, .slice none 0 0] TSta)).alloc (.cells #[.int .i64 2, .int .i64 1, .int .i64 by', .int .i64 0, .int .i64 0, .int .i64 0, .int .i64 0, .int .u16 0, .slice none 0 0] TSta)) := (((Ext.alloc w _).thenAlloc _).thenAlloc _).thenAlloc _
  have f0 := ((((Ext.alloc _ (.cells #[.slice ra raw.length rc] 26)).thenAlloc (.cells #[.int .i64 0, .int .i64 0, .int .i64 0, .int .i64 0, .int .i64 0, .int .i64 0, .int .i64 0, .int .u16 0, .slice none 0 0] TSta)).thenAlloc (.cells #[.int .i64 2, .int .i64 1, .int .i64 by', .int .i64 0, .int .i64 0, .int .i64 0, .int .i64 0, .int .u16 0, .slice none 0 0] TSta)).thenAlloc (.cells #[.slice va l.length vc] 48)).block (heap_alloc_new w (.cells #[.int .i64 g.k, .int .i64 g.r, .int .i64 g.s, .int .i64 g.m, .int .u16 g.v, .slice sa sn sc] TFrm))
  obtain ⟨W1, hW1⟩ : ∃ W1, W1 = w.alloc (.cells #[.int .i64 g.k, .int .i64 g.r, .int .i64 g.s, .int .i64 g.m, .int .u16 g.v, .slice sa sn sc] TFrm) := ⟨_, rfl⟩
  have hs1 : W1.heap.size = w.heap.size + 1 := by rw [hW1]; simp
  rw [← hW1] at x0 f0 ⊢
  clear hW1
  have f1 := (((Ext.alloc _ (.cells #[.int .i64 0, .int .i64 0, .int .i64 0, .int .i64 0, .int .i64 0, .int .i64 0, .int .i64 0, .int .u16 0, .slice none 0 0] TSta)).thenAlloc (.cells #[.int .i64 2, .int .i64 1, .int .i64 by', .int .i64 0, .int .i64 0, .int .i64 0, .int .i64 0, .int .u16 0, .slice none 0 0] TSta)).thenAlloc (.cells #[.slice va l.length vc] 48)).block (heap_alloc_at W1 (.cells #[.slice ra raw.length rc] 26) hs1)
  obtain ⟨W2, hW2⟩ : ∃ W2, W2 = W1.alloc (.cells #[.slice ra raw.length rc] 26) := ⟨_, rfl⟩
  have hs2 : W2.heap.size = w.heap.size + 2 := by rw [hW2]; simp [hs1]
  rw [← hW2] at x0 f0 f1 ⊢
  clear hW2
  have f2 := ((Ext.alloc _ (.cells #[.int .i64 2, .int .i64 1, .int .i64 by', .int .i64 0, .int .i64 0, .int .i64 0, .int .i64 0, .int .u16 0, .slice none 0 0] TSta)).thenAlloc (.cells #[.slice va l.length vc] 48)).block (heap_alloc_at W2 (.cells #[.int .i64 0, .int .i64 0, .int .i64 0, .int .i64 0, .int .i64 0, .int .i64 0, .int .i64 0, .int .u16 0, .slice none 0 0] TSta) hs2)
  obtain ⟨W3, hW3⟩ : ∃ W3, W3 = W2.alloc (.cells #[.int .i64 0, .int .i64 0, .int .i64 0, .int .i64 0, .int .i64 0, .int .i64 0, .int .i64 0, .int .u16 0, .slice none 0 0] TSta) := ⟨_, rfl⟩
  have hs3 : W3.heap.size = w.heap.size + 3 := by rw [hW3]; simp [hs2]
  rw [← hW3] at x0 f0 f1 f2 ⊢
  clear hW3
  have f3 := (Ext.alloc _ (.cells #[.slice va l.length vc] 48)).block (heap_alloc_at W3 (.cells #[.int .i64 2, .int .i64 1, .int .i64 by', .int .i64 0, .int .i64 0, .int .i64 0, .int .i64 0, .int .u16 0, .slice none 0 0] TSta) hs3)
  obtain ⟨W4, hW4⟩ : ∃ W4, W4 = W3.alloc (.cells #[.int .i64 2, .int .i64 1, .int .i64 by', .int .i64 0, .int .i64 0, .int .i64 0, .int .i64 0, .int .u16 0, .slice none 0 0] TSta) := ⟨_, rfl⟩
  have hs4 : W4.heap.size = w.heap.size + 4 := by rw [hW4]; simp [hs3]
  rw [← hW4] at x0 f0 f1 f2 f3 ⊢
  clear hW4
  have f4 := heap_alloc_new W4 (.cells #[.slice va l.length vc] 48)
  obtain ⟨A, hA⟩ : ∃ A, A = W4.alloc (.cells #[.slice va l.length vc] 48) := ⟨_, rfl⟩
  have hsA : A.heap.size = w.heap.size + 5 := by rw [hA]; simp [hs4]
  have xA : Ext w A := by rw [hA]; exact x0.thenAlloc _
  rw [← hA] at f0 f1 f2 f3 f4 ⊢
  clear hA x0 hrc
  rw [hs4] at f4
  have hLA := hL.ext xA
  have hrA := hraw.ext xA
  clear hL hraw
  have hvl' : ∀ i, 0 ≤ (getL l i).2.2.2 ∧ (getL l i).2.2.2 < 65536 := fun i => by
    unfold getL
    cases hq : l[i]? with
    | none => exact ⟨Int.le_refl _, by decide⟩
    | some c => exact hvl c (List.mem_of_getElem? hq)
  clear hvl
  have HF := Lib.hid (And.intro f0 (And.intro f1 (And.intro f2 (And.intro f3 (And.intro hsA (And.intro xA (And.intro hrA (And.intro hrl hvl'))))))))
  clear f0 f1 f3 hrA hrl hvl' hs1 hs2 hs3 xA
  have hX := fun c n hn => lkX_own raw l w A n hn by' g (.slice sa sn sc) c _ _ f2
  clear f2
  refine wp_rangeFunc2_nxb (α := Nat) (p1 := 16) (p2 := 17) (q1 := 10) (q2 := 11) (e1 := fun (x : Nat) => .int .i64 (2 + (x : Int))) (e2 := fun (x : Nat) => csV (getL l x)) (gf := 82) (lb := #[.pointer (some ⟨w.heap.size + 1 + 1 + 1 + 1, 0, none⟩)]) rfl (fun args w => by go_simp) (results_stops l va vc A (w.heap.size + 1 + 1 + 1 + 1) f4 hLA hl)
    (fun h1 h2 => h1.trans h2) (fun W n o o' hn ho hc hwk => KpC.put W n o o' ho hc) (LkI raw l A) (LkX raw l w A by' g (.slice sa sn sc)) (lkI_own raw l A) (fun c => hX c _ (by omega)) ⟨fun i h => absurd h (Nat.not_lt_zero i), Below.refl _ _⟩ (fun x => csO (getL l x)) (fun W o k q hk hq => (Ext.alloc _ _).block hk) (fun lp x W K hK => ?_) (fun l1 pre x n W hI hnx hn hbx => ?_) (fun D xs W hD hS hI hk => ?_) (fun D c pre W hD hS hI hk => ?_)
  · obtain ⟨⟨cr, cs, cm, cv⟩, hc⟩ : ∃ c : CsD, c = getL l x := ⟨_, rfl⟩
    rw [← hc] at hK ⊢
    unfold csV
    unfold csV csO at hK
    simp only [List.setIfInBounds_toArray, List.set_cons_zero, List.set_cons_succ] at hK ⊢
    gi_wp2
    exact hK
  · simp only [List.setIfInBounds_toArray, List.set_cons_zero, List.set_cons_succ]
    obtain ⟨hpre, hxl⟩ := hnx
    obtain ⟨hno, hxA⟩ := hI
    obtain ⟨F0, F1, F2, F3, FA, FX, FR, FL, FV⟩ := HF.out
    have hlen : (pre ++ [x]).length = x + 1 := by simp [hpre]
    have hwW : Ext w W := FX.trans hxA
    have hnW : n < W.heap.size := (Array.getElem?_eq_some_iff.1 hbx).1
    have fv := FV x
    obtain ⟨⟨cr, cs, cm, cv⟩, hc⟩ : ∃ c : CsD, c = getL l x := ⟨_, rfl⟩
    have hfit : fitL raw l x = fitsF raw cr cs cm cv := by unfold fitL; rw [← hc]
    rw [← hc] at hbx fv ⊢
    have hcc := fun (m : Nat) W' hb => CallsIn.inRound l1 (callsIn_wide (n := m).2 (frmFits_calls (.slice ra raw.length rc) raw cr cs cm cv W' hb FL fv.1 fv.2))
    unfold csO at hbx
    unfold csV
    unfold VCst.cst at hcc
    simp only at hcc hbx fv ⊢
    have r1 : W.cell? ⟨w.heap.size + 1, 0, none⟩ = some (.slice ra raw.length rc) := cell_of_row W _ 0 _ _ _ (hxA.block F1)
    have b0 : W.cell? ⟨n, 0, none⟩ = some (.int .i64 cr) := cell_of_row W _ 0 _ _ _ hbx
    have b1 : W.cell? ⟨n, 1, none⟩ = some (.int .i64 cs) := cell_of_row W _ 1 _ _ _ hbx
    have b2 : W.cell? ⟨n, 2, none⟩ = some (.int .i64 cm) := cell_of_row W _ 2 _ _ _ hbx
    have b3 : W.cell? ⟨n, 3, none⟩ = some (.int .u16 cv) := cell_of_row W _ 3 _ _ _ hbx
    have p0 := hxA.block F0
    have p2 := hxA.block F2
    have p3 := hxA.block F3
    have hWs := hxA.size
    have HN := Lib.hid (And.intro hpre (And.intro hno (And.intro hfit (And.intro hxl (And.intro hlen hc)))))
    have hraw := FR.ext hxA
    have HX := Lib.hid (And.intro hxA (And.intro FX hwW))
    have HP := Lib.hid (And.intro p0 (And.intro p2 (And.intro p3 F2)))
    clear F0 F1 F2 F3 FX FR FL FV p0 p2 p3 hpre hno hxl hlen hc hxA hwW fv hX hLA f4
    rw [FA] at hWs hn
    cases hb : fitsF raw cr cs cm cv with
    | false =>
      rw [hb] at hcc
      gi_wp2
      refine ⟨trivial, (hcc 6 _ hraw).mono ?_⟩
      rintro e w2 ⟨rfl, h5⟩
      clear hcc
      gi_wp2
      refine ⟨⟨h5.size, fun k o hk _ => h5.block hk⟩, fun k o hk _ => h5.block hk, ?_, HX.out.1.trans h5⟩
      intro i a
      rw [HN.out.2.2.2.2.1] at a
      by_cases e : i = x
      · rw [e, HN.out.2.2.1]; exact hb
      · exact HN.out.2.1 i (by rw [HN.out.1]; simp; omega)
    | true =>
      rw [hb] at hcc
      gi_wp2
      refine ⟨trivial, (hcc 6 _ hraw).mono ?_⟩
      rintro e w2 ⟨rfl, h5⟩
      have q0 : w2.heap[w.heap.size]? = some (.cells (frmC g (.slice sa sn sc)) TFrm) := h5.block HP.out.1
      have q1 : w2.cell? ⟨w.heap.size, 1, none⟩ = some (.int .i64 g.r) := cell_of_row w2 _ 1 _ _ _ q0
      have q2 : w2.cell? ⟨w.heap.size, 2, none⟩ = some (.int .i64 g.s) := cell_of_row w2 _ 2 _ _ _ q0
      have q3 : w2.cell? ⟨w.heap.size, 3, none⟩ = some (.int .i64 g.m) := cell_of_row w2 _ 3 _ _ _ q0
      have q4 : w2.cell? ⟨w.heap.size, 4, none⟩ = some (.int .u16 g.v) := cell_of_row w2 _ 4 _ _ _ q0
      have z0 := fun j => frozen_of_row w2 w.heap.size j _ _ q0
      have b0' := h5.cell b0
      have b1' := h5.cell b1
      have b2' := h5.cell b2
      have b3' := h5.cell b3
      have s0 := cst_set (c := (cr, cs, cm, cv)) q0
      clear hcc b0 b1 b2 b3 r1 hbx
      have HQ := Lib.hid q0
      clear q0
      gi_wp2
      obtain ⟨V, hV⟩ : ∃ V, V = (((w2.setCell ⟨w.heap.size, 1, none⟩ (.int .i64 cr)).setCell ⟨w.heap.size, 2, none⟩ (.int .i64 cs)).setCell ⟨w.heap.size, 3, none⟩ (.int .i64 cm)).setCell ⟨w.heap.size, 4, none⟩ (.int .u16 cv) := ⟨_, rfl⟩
      rw [← hV] at s0 ⊢
      clear hV q1 q2 q3 q4 z0 b0' b1' b2' b3'
      obtain ⟨s0, s1, s2, s3⟩ := s0
      have hS0 : LkS w A W (x : Int) by' g (cr, cs, cm, cv) (.slice sa sn sc) [] V.drew :=
        ⟨((KeepsOthers.trans ⟨h5.size, fun k o hk _ => h5.block hk⟩ s2).trans (KeepsOthers.drew V)), Ext.thenDrew (Below.trans (HX.out.2.2.trans h5) (s3 _ (Nat.le_refl _))),
          ((s1 _ (by omega)).trans (h5.block HP.out.2.1)).trans HP.out.2.2.2.symm, (s1 _ (by omega)).trans (h5.block HP.out.2.2.1)⟩
      clear s1 s2 s3 h5 HQ
      refine wpIn_region_of_any _ l1 7 rfl (by kernel_rfl) (fun _ _ h => h) ?_
      refine any_chain (fun a b => ∀ o, a.heap[w.heap.size]? = some o → b.heap[w.heap.size]? = some o) Eq [(3, .known undef), (5, .known undef), (7, .known undef)] [3, 5, 7]
        (LkS w A W (x : Int) by' g (cr, cs, cm, cv) (.slice sa sn sc))
        (by kernel_rfl) (by kernel_rfl) (by kernel_rfl) (fun a b h o ho => by rw [← h]; exact ho) (fun _ _ _ h k => by rw [← h]; exact k) (fun _ _ h => h) (fun _ _ _ h k o ho => k o (h o ho)) hS0 ?_
      intro σ
      clear hS0
      refine cg_pure (x := .int .i64 (2 + (x : Int))) rfl (by rfl) (fun W3 hW => by go_simp) ?_
      simp only [Nat.reduceAdd, Act.put, List.setIfInBounds_toArray, List.set_cons_zero, List.set_cons_succ]
      refine cg_pure (x := .agg (frmC (withL g (cr, cs, cm, cv)) (.slice sa sn sc))) rfl (by rfl) (fun W3 hW => exec_loadFrmB (hW _ s0) rfl rfl) ?_
      simp only [Nat.reduceAdd, Act.put, List.setIfInBounds_toArray, List.set_cons_zero, List.set_cons_succ]
      refine cg_pure (x := .pointer (some ⟨w.heap.size + 1 + 1 + 1, 0, none⟩)) rfl (by rfl) (fun W3 hW => by go_simp) ?_
      simp only [Nat.reduceAdd, Act.put, List.setIfInBounds_toArray, List.set_cons_zero, List.set_cons_succ]
      refine cg_call (x := undef) 0 (vs := []) rfl rfl (by decide) rfl (by rfl) (fun W3 hW hF hS => ?_) ?_
      · obtain ⟨t0, t1, t2, t3⟩ := hS
        have c0 : W3.cell? ⟨w.heap.size + 1 + 1 + 1, 0, none⟩ = some (.int .i64 2) := cell_of_row W3 _ 0 _ _ _ t3
        have z0 := frozen_of_row W3 (w.heap.size + 1 + 1 + 1) 0 _ _ t3
        go_simp
        exact ⟨fun o ho => (heap_setCell_other _ _ _ _ (by simp only; omega)).trans ho, rfl, t0.trans (KeepsOthers.setCell _ _ _), Below.setCell t1 (by simp only; omega) _, (heap_setCell_other _ _ _ _ (by simp only; omega)).trans t2, (heap_setCell_same _ _ _ _ _ _ t3).trans rfl⟩
      simp only [Nat.reduceAdd, Act.put, List.setIfInBounds_toArray, List.set_cons_zero, List.set_cons_succ]
      refine cg_pure (x := .pointer (some ⟨w.heap.size + 1 + 1 + 1, 1, none⟩)) rfl (by rfl) (fun W3 hW => by go_simp) ?_
      simp only [Nat.reduceAdd, Act.put, List.setIfInBounds_toArray, List.set_cons_zero, List.set_cons_succ]
      refine cg_call (x := undef) 1 (vs := [undef]) rfl rfl (by decide) rfl (by rfl) (fun W3 hW hF hS => ?_) ?_
      · obtain ⟨t0, t1, t2, t3⟩ := hS
        have c0 : W3.cell? ⟨w.heap.size + 1 + 1 + 1, 1, none⟩ = some (.int .i64 1) := cell_of_row W3 _ 1 _ _ _ t3
        have z0 := frozen_of_row W3 (w.heap.size + 1 + 1 + 1) 1 _ _ t3
        go_simp
        exact ⟨fun o ho => (heap_setCell_other _ _ _ _ (by simp only; omega)).trans ho, rfl, t0.trans (KeepsOthers.setCell _ _ _), Below.setCell t1 (by simp only; omega) _, (heap_setCell_other _ _ _ _ (by simp only; omega)).trans t2, (heap_setCell_same _ _ _ _ _ _ t3).trans rfl⟩
      simp only [Nat.reduceAdd, Act.put, List.setIfInBounds_toArray, List.set_cons_zero, List.set_cons_succ]
      refine cg_pure (x := .pointer (some ⟨w.heap.size + 1 + 1 + 1, 3, none⟩)) rfl (by rfl) (fun W3 hW => by go_simp) ?_
      simp only [Nat.reduceAdd, Act.put, List.setIfInBounds_toArray, List.set_cons_zero, List.set_cons_succ]
      refine cg_call (x := undef) 2 (vs := [undef, undef]) rfl rfl (by decide) rfl (by rfl) (fun W3 hW hF hS => ?_) ?_
      · obtain ⟨t0, t1, t2, t3⟩ := hS
        obtain ⟨e0, e1, e2, e3, e4⟩ := frm_set2 (f := withL g (cr, cs, cm, cv)) (u := .slice sa sn sc) t3
        rw [exec_storeFrm2 (sl := (sa, sn, sc)) (f := withL g (cr, cs, cm, cv)) t3 rfl rfl rfl]
        exact ⟨fun o ho => (e1 _ (by omega)).trans ho, rfl, t0.trans e3, Below.trans t1 (e4 _ (by omega)), (e1 _ (by omega)).trans t2, e0⟩
      simp only [Nat.reduceAdd, Act.put, List.setIfInBounds_toArray, List.set_cons_zero, List.set_cons_succ]
      refine cg_done rfl fun W3 hW hF hS => ?_
      obtain ⟨t0, t1, t2, t3⟩ := hS
      clear hF hW
      have HT := Lib.hid (And.intro t0 (And.intro t1 (And.intro t2 t3)))
      clear t0 t1 t2 t3 s0
      unfold onlyN
      simp only
      gi_wp2
      have hpl : pre.length = x := by rw [HN.out.1]; simp
      exact ⟨HT.out.1, rfl, x, HN.out.2.2.2.1, fun k hk => HN.out.2.1 k (by omega), HN.out.2.2.1.trans hb, HT.out.2.2.1, by rw [← HN.out.2.2.2.2.2]; exact HT.out.2.2.2, HT.out.2.1⟩
  · subst hS
    obtain ⟨hno, hxA⟩ := hI
    have t2 := hxA.block HF.out.2.2.1
    have t3 : W.heap[w.heap.size + 3]? = some (.cells (staC ⟨2, 1, by', frm0 0⟩ (.slice none 0 0)) TSta) := hxA.block HF.out.2.2.2.1
    have hw : Ext w W := HF.out.2.2.2.2.2.1.trans hxA
    have v2 := setRow_heap W (w.heap.size + 2) _ (staC ⟨2, 1, by', frm0 0⟩ (slV (none, 0, 0))) _ _ t2
    have hk2 := (setRow_other W (w.heap.size + 2) D (staC ⟨2, 1, by', frm0 0⟩ (slV (none, 0, 0))) (by omega)).trans hk
    have HH := Lib.hid (And.intro hno (And.intro hw (And.intro hxA v2)))
    clear hno hw hxA v2 hX hLA f4 HF
    go_wp2_with (first | refine loadStaB t3 rfl rfl rfl ?_ | refine storeStaB (m := ⟨2, 1, by', frm0 0⟩) (sl := (none, 0, 0)) t2 rfl rfl rfl rfl rfl ?_)
    have rd : ∀ o, ((W.setRow (w.heap.size + 2) (staC ⟨2, 1, by', frm0 0⟩ (slV (none, 0, 0)))).putObj D o).heap[w.heap.size + 2]? = _ := fun o => (World.putObj_heap_other (by omega)).trans HH.out.2.2.2
    refine leave1 rfl hk2 (results_cell_row rfl _ _ (w.heap.size + 2) _ _ _ _ (by rfl) (rd _) Try.underlying30 rfl (by kernel_rfl)) ?_
    exact ⟨.inr ⟨fun k h => HH.out.1 k (by simpa using h), rfl⟩, ext_putD (HH.out.2.1.setRow (by omega) _) (by omega)⟩
  · obtain ⟨rfl, i, i0, i1, i2, t2, t3, hw⟩ := hI
    rw [HF.out.2.2.1] at t2
    have v2 := setRow_heap W (w.heap.size + 2) _ (staC ⟨3, 2 + (i : Int), by', withL g (getL l i)⟩ (slV (sa, sn, sc))) _ _ t2
    have hk2 := (setRow_other W (w.heap.size + 2) D (staC ⟨3, 2 + (i : Int), by', withL g (getL l i)⟩ (slV (sa, sn, sc))) (by omega)).trans hk
    have HH := Lib.hid (And.intro i0 (And.intro i1 (And.intro i2 (And.intro hw v2))))
    clear i0 i1 i2 hw v2 hX hLA f4 HF
    go_wp2_with (first | refine loadStaB t3 rfl rfl rfl ?_ | refine storeStaB (m := ⟨3, 2 + (i : Int), by', withL g (getL l i)⟩) (sl := (sa, sn, sc)) t2 rfl rfl rfl rfl rfl ?_)
    have rd : ∀ o, ((W.setRow (w.heap.size + 2) (staC ⟨3, 2 + (i : Int), by', withL g (getL l i)⟩ (slV (sa, sn, sc)))).putObj D o).heap[w.heap.size + 2]? = _ := fun o => (World.putObj_heap_other (by omega)).trans HH.out.2.2.2.2
    refine leave1 rfl hk2 (results_cell_row rfl _ _ (w.heap.size + 2) _ _ _ _ (by rfl) (rd _) Try.underlying30 rfl (by kernel_rfl)) ?_
    exact ⟨.inl ⟨i, HH.out.1, HH.out.2.1, HH.out.2.2.1, rfl⟩, ext_putD (HH.out.2.2.2.1.setRow (by omega) _) (by omega)⟩
end Go.Proofs.Ytcdaelgnankmfaa.VSta

/- status: Judge. -/
namespace Go.Proofs.Ytcdaelgnankmfaa.VSta
open Go.RowKit Go.VBase Go.VRg Go.VSeq Go.VPlan VPlan Go.VOct VOct VCst Go.Proofs.Ytcdaelgnankmfaa.VCrc _root_.Go.VCrc VMsg

def lookS (raw : List UInt8) (l : List CsD) (by' : Int) (g : FrmD) : StaD :=
  match (List.range l.length).find? (fun i => fitL raw l i) with
  | some i => ⟨3, 2 + (i : Int), by', withL g (getL l i)⟩
  | none => ⟨2, 1, by', frm0 0⟩
theorem looked2_calls (g : FrmD) (sx : Sl3) (raw : List UInt8) (rv : Value) (by' : Int) (l : List CsD) (va : Option Addr) (vc : Nat) (n : Nat) (w : World) (hs : OwnB w n TB (slV sx) g.b) (hraw : Bys w rv raw) (hrl : raw.length ≤ 100000) (hL : LooksE w (.slice va l.length vc) l) (hl : l.length ≤ 1000)
    (hvl : ∀ c ∈ l, 0 ≤ c.2.2.2 ∧ c.2.2.2 < 65536) :
    Calls Try.prog 37 #[.agg (frmC g (slV sx)), .slice va l.length vc, rv, .int .i64 by'] w fun e w' =>
      ∃ sl : Sl3, e = .returned (.agg (staC (lookS raw l by' g) (slV sl))) ∧ OwnB w' n TB (slV sl) (lookS raw l by' g).f.b ∧ Ext w w' := by
  refine (looked_calls g sx raw rv by' l va vc w hraw hrl hL hl hvl).mono ?_
  rintro e w' ⟨h, hx⟩
  rcases h with ⟨i, hi, h0, h1, rfl⟩ | ⟨h0, rfl⟩
  · have hf : (List.range l.length).find? (fun i => fitL raw l i) = some i := List.find?_range_eq_some.2 ⟨h1, List.mem_range.2 hi, fun j hj => by rw [h0 j hj]; rfl⟩
    have e : lookS raw l by' g = ⟨3, 2 + (i : Int), by', withL g (getL l i)⟩ := by unfold lookS; rw [hf]
    exact ⟨sx, by rw [e], by rw [e]; exact hs.ext hx, hx⟩
  · have hf : (List.range l.length).find? (fun i => fitL raw l i) = none := List.find?_range_eq_none.2 fun i hi => by rw [h0 i hi]; rfl
    have e : lookS raw l by' g = ⟨2, 1, by', frm0 0⟩ := by unfold lookS; rw [hf]
    exact ⟨(none, 0, 0), by rw [e]; rfl, by rw [e]; exact OwnB.nil _ _ _, hx⟩

def sta0 (k : Int) : StaD := ⟨k, 0, 0, frm0 0⟩
def judS (p : PlanD) (r s : Int) (l : List CsD) (raw : List UInt8) (x : Int) : StaD × Int :=
  if stChk p r s l then
    if raw.length = 0 then (sta0 0, 0)
    else if okW p r s x then
      if verW x (expP p r s - p.window) (expP p r s + p.window) = 2 then
        match decF raw with
        | some g => if rightS p r s g.k then (lookS raw l (x - expP p r s) g, 0) else (sta0 1, 0)
        | none => (sta0 1, 0)
      else (sta0 1, 0)
    else (sta0 0, 170)
  else (sta0 0, 170)
def JudPost (X : StaD × Int) (w : World) (e : Ending) (w' : World) : Prop :=
  ∃ sl : Sl3, e = .returned (.tuple #[.agg (staC X.1 (slV sl)), .int .i64 X.2]) ∧ OwnB w' w.heap.size TB (slV sl) X.1.f.b ∧ Ext w w'
theorem jud_end {w V : World} {X : StaD} {c : Int} {sl : Sl3} {old : Array Value} (hx : Ext w V) (hr : V.heap[w.heap.size + 2]? = some (.cells old TSta)) (ho : OwnB V w.heap.size TB (slV sl) X.f.b) :
    JudPost (X, c) w (.returned (.tuple #[.agg (staC X (slV sl)), .int .i64 c])) (V.setRow (w.heap.size + 2) (staC X (slV sl))) :=
  ⟨sl, rfl, own_turn ho (own_type ho hr (by decide)) (fun k hk => setRow_other _ _ _ _ hk), hx.setRow (by omega) _⟩
theorem loadPlanW {ops : Array Oper} {rest : List Oper} {o : Oper} {a : Act} {Q : Exit → Act → World → Prop} {W : World} {t : Tmp} {b : Nat} {T' : TypeId} {mk : Nat × Nat} {p : PlanD}
    (h : W.heap[b]? = some (.cells (planC p) T' mk)) (hw : Region.wanted o (yielded ops a.tmps) = true) (ho : o.op = .load 35 (.tmp t)) (hx : a.eval (.tmp t) = .pointer (some ⟨b, 0, none⟩))
    (hk : wpList Try.prog ops Q rest (a.put o.dst (planV p)) W) : wpList Try.prog ops Q (o :: rest) a W :=
  wpList_step fun K hK => by
    simp only [hw, if_true]
    exact wp_load_row _ _ ho _ hx _ _ _ _ h Try.underlying35 rfl (by kernel_rfl) (hK _ _ hk)
attribute [local go_sem] Oper.semAt_some
set_option maxRecDepth 100000 in
set_option maxHeartbeats 8000000 in
theorem stJudge_calls (p : PlanD) (r s : Int) (l : List CsD) (va : Option Addr) (vc : Nat) (raw : List UInt8) (rv : Value) (x : Int) (w : World) (hraw : Bys w rv raw) (hrl : raw.length ≤ 100000) (hL : LooksE w (.slice va l.length vc) l) (hl : l.length ≤ 1000)
    (hvl : ∀ c ∈ l, 0 ≤ c.2.2.2 ∧ c.2.2.2 < 65536) :
    Calls Try.prog 18 #[planV p, plV r s, .slice va l.length vc, rv, .int .i64 x] w (JudPost (judS p r s l raw x) w) := by
  have kC := fun W h => stCheck_calls p r s (.slice va l.length vc) l W h
  have kW := fun W => winJudge_calls p r s x W
  have kD := fun W h => frmDecode_calls rv raw W h hrl
  have kR := fun k W => right_calls p r s k W
  have kL := fun g sx by' W hs h hLL => looked2_calls g sx raw rv by' l va vc w.heap.size W hs h hrl hLL hl hvl
  unfold DecFPost at kD
  obtain ⟨ra, rc, rfl⟩ : ∃ a c, rv = .slice a raw.length c := by obtain ⟨a, c, h, _⟩ := hraw; exact ⟨a, c, h⟩
  obtain ⟨X, hX⟩ : ∃ X, judS p r s l raw x = X := ⟨_, rfl⟩
  rw [hX]
  unfold judS at hX
  have HX := Lib.hid hX
  clear hX
  have x0 := ((Ext.alloc w (.cells (planC p) 35)).thenAlloc (.cells #[.int .i64 r, .int .i64 s] 37)).thenAlloc (.cells #[.int .i64 0, .int .i64 0, .int .i64 0, .int .i64 0, .int .i64 0, .int .i64 0, .int .i64 0, .int .u16 0, .slice none 0 0] TSta)
  have r0 := ((Ext.alloc _ (.cells #[.int .i64 r, .int .i64 s] 37)).thenAlloc (.cells #[.int .i64 0, .int .i64 0, .int .i64 0, .int .i64 0, .int .i64 0, .int .i64 0, .int .i64 0, .int .u16 0, .slice none 0 0] TSta)).block (heap_alloc_new w (.cells (planC p) 35))
  have r1 := (Ext.alloc _ (.cells #[.int .i64 0, .int .i64 0, .int .i64 0, .int .i64 0, .int .i64 0, .int .i64 0, .int .i64 0, .int .u16 0, .slice none 0 0] TSta)).block (heap_alloc_at (w.alloc (.cells (planC p) 35)) (.cells #[.int .i64 r, .int .i64 s] 37) (n := w.heap.size + 1) (by simp))
  have r2 := heap_alloc_at ((w.alloc (.cells (planC p) 35)).alloc (.cells #[.int .i64 r, .int .i64 s] 37)) (.cells #[.int .i64 0, .int .i64 0, .int .i64 0, .int .i64 0, .int .i64 0, .int .i64 0, .int .i64 0, .int .u16 0, .slice none 0 0] TSta) (n := w.heap.size + 2) (by simp)
  obtain ⟨W0, hW0⟩ : ∃ W0, W0 = ((w.alloc (.cells (planC p) 35)).alloc (.cells #[.int .i64 r, .int .i64 s] 37)).alloc (.cells #[.int .i64 0, .int .i64 0, .int .i64 0, .int .i64 0, .int .i64 0, .int .i64 0, .int .i64 0, .int .u16 0, .slice none 0 0] TSta) := ⟨_, rfl⟩
  rw [← hW0] at r0 r1 r2 x0
  have H0 := Lib.hid hW0
  clear hW0
  have e0 : W0.cell? ⟨w.heap.size + 1, 0, none⟩ = some (.int .i64 r) := cell_of_row _ _ 0 _ _ _ r1
  have e1 : W0.cell? ⟨w.heap.size + 1, 1, none⟩ = some (.int .i64 s) := cell_of_row _ _ 1 _ _ _ r1
  have hL0 := hL.ext x0
  have HI := Lib.hid (And.intro hraw hL)
  clear hraw hL hl hvl hrl
  unfold plV at kC kW kR ⊢
  unfold planV planC at ⊢
  go_enter Try.func18, Try.ntmps18
  refine wp_seq_k fun K hK => ?_
  have HK := Lib.hid hK
  clear hK
  go_wp2_with fail
  refine HK.out _ _ ?_
  clear HK
  show Code.wp _ _ _ _ (((w.alloc (.cells (planC p) 35)).alloc (.cells #[.int .i64 r, .int .i64 s] 37)).alloc (.cells #[.int .i64 0, .int .i64 0, .int .i64 0, .int .i64 0, .int .i64 0, .int .i64 0, .int .i64 0, .int .u16 0, .slice none 0 0] TSta))
  rw [← H0.out]
  clear H0
  go_wp2_with (refine loadPlanP r0 rfl rfl rfl ?_)
  refine (kC _ hL0).mono ?_
  rintro e w1 ⟨rfl, h1⟩
  have x1 := x0.trans h1
  have r01 := h1.block r0
  have r11 := h1.block r1
  have r21 := h1.block r2
  clear kC h1 r0 r1 r2 x0 e0 e1 hL0
  have fin : ∀ {V : World} {Y : StaD} {c : Int} {sl : Sl3} {old : Array Value}, V.heap[w.heap.size + 2]? = some (.cells old TSta) → (V.setRow (w.heap.size + 2) (staC Y (slV sl))).heap[w.heap.size + 1 + 1]? = some (.cells (staC Y (slV sl)) TSta) := fun h => setRow_heap _ _ _ _ _ _ h
  cases hb : stChk p r s l with
  | false =>
    rw [hb] at HX
    have hx : X = (sta0 0, 170) := HX.out.symm
    subst hx
    simp only [Bool.false_eq_true, if_false]
    have HE := Lib.hid (jud_end (X := sta0 0) (c := 170) (sl := (none, 0, 0)) x1 r21 (OwnB.nil _ _ _))
    have rd := setRow_heap w1 (w.heap.size + 2) _ (staC (sta0 0) (slV (none, 0, 0))) _ _ r21
    go_wp2_with (refine storeStaB (m := sta0 0) (sl := (none, 0, 0)) r21 rfl rfl rfl rfl rfl ?_)
    refine bodyPost_ret (results_row_tmp rfl _ _ (w.heap.size + 2) _ _ _ _ (by rfl) rd Try.underlying30 rfl (by kernel_rfl)) rfl ?_
    exact HE.out
  | true =>
  rw [hb] at HX
  simp only [if_true]
  rw [if_pos rfl] at HX
  by_cases hl0 : raw.length = 0
  · have hx : X = (sta0 0, 0) := by have := HX.out; rw [if_pos hl0] at this; exact this.symm
    subst hx
    have hd : ((raw.length : Int) == 0) = true := beq_iff_eq.2 (by omega)
    have HE := Lib.hid (jud_end (X := sta0 0) (c := 0) (sl := (none, 0, 0)) x1 r21 (OwnB.nil _ _ _))
    have rd := setRow_heap w1 (w.heap.size + 2) _ (staC (sta0 0) (slV (none, 0, 0))) _ _ r21
    clear HX
    go_wp2_with (refine storeStaB (m := sta0 0) (sl := (none, 0, 0)) r21 rfl rfl rfl rfl rfl ?_)
    refine bodyPost_ret (results_row_tmp rfl _ _ (w.heap.size + 2) _ _ _ _ (by rfl) rd Try.underlying30 rfl (by kernel_rfl)) rfl ?_
    exact HE.out
  have hx2 := HX.out
  rw [if_neg hl0] at hx2
  have HX2 := Lib.hid hx2
  clear HX hx2
  have hd0 : ((raw.length : Int) == 0) = false := beq_false_of_ne (by omega)
  have e10 : w1.cell? ⟨w.heap.size + 1, 0, none⟩ = some (.int .i64 r) := cell_of_row _ _ 0 _ _ _ r11
  have e11 : w1.cell? ⟨w.heap.size + 1, 1, none⟩ = some (.int .i64 s) := cell_of_row _ _ 1 _ _ _ r11
  go_wp2_with (refine loadPlanP r01 rfl rfl rfl ?_)
  refine (kW _).mono ?_
  rintro e w2 ⟨rfl, h2⟩
  have x2 := x1.trans h2
  have r02 := h2.block r01
  have r12 := h2.block r11
  have r22 := h2.block r21
  clear kW h2 r01 r11 r21 x1 e10 e11
  unfold judW
  generalize verW x (expP p r s - p.window) (expP p r s + p.window) = VD at *
  generalize x - expP p r s = BY at *
  cases hok : okW p r s x with
  | false =>
    have hx : X = (sta0 0, 170) := by have := HX2.out; rw [hok] at this; exact this.symm
    subst hx
    simp only [Bool.false_eq_true, if_false]
    have HE := Lib.hid (jud_end (X := sta0 0) (c := 170) (sl := (none, 0, 0)) x2 r22 (OwnB.nil _ _ _))
    have rd := setRow_heap w2 (w.heap.size + 2) _ (staC (sta0 0) (slV (none, 0, 0))) _ _ r22
    clear HX2
    go_wp2_with (refine storeStaB (m := sta0 0) (sl := (none, 0, 0)) r22 rfl rfl rfl rfl rfl ?_)
    refine bodyPost_ret (results_row_tmp rfl _ _ (w.heap.size + 2) _ _ _ _ (by rfl) rd Try.underlying30 rfl (by kernel_rfl)) rfl ?_
    exact HE.out
  | true =>
  simp only [if_true]
  have hx3 := HX2.out
  rw [hok, if_pos rfl] at hx3
  have HX3 := Lib.hid hx3
  clear HX2 hx3
  have hraw2 := HI.out.1.ext x2
  go_wp2_with fail
  refine (kD _ hraw2).mono ?_
  rintro e w3 ⟨u, rfl, hu, h3⟩
  have hu3 := hu.mono x2.size
  have x3 := x2.trans h3
  have r03 := h3.block r02
  have r13 := h3.block r12
  have r23 := h3.block r22
  obtain ⟨ua, uc, rfl⟩ := hu.slice
  clear kD hraw2 x2 r02 r12 r22 h3 hu
  generalize hF : (decF raw).getD (frm0 0) = f at *
  have rz := heap_alloc_new w3 (.cells #[.int .i64 0, .int .i64 0, .int .i64 0, .int .i64 0, .int .u16 0, .slice none 0 0] TFrm)
  have r4 := setRow_heap (w3.alloc (.cells #[.int .i64 0, .int .i64 0, .int .i64 0, .int .i64 0, .int .u16 0, .slice none 0 0] TFrm)) w3.heap.size _ (frmC f (.slice ua f.b.length uc)) _ _ rz
  have x4 : Ext w3 ((w3.alloc (.cells #[.int .i64 0, .int .i64 0, .int .i64 0, .int .i64 0, .int .u16 0, .slice none 0 0] TFrm)).setRow w3.heap.size (frmC f (.slice ua f.b.length uc))) := (Ext.alloc _ _).setRow (Nat.le_refl _) _
  have xA := x3.trans x4
  have rA0 := x4.block r03
  have rA1 := x4.block r13
  have rA2 := x4.block r23
  have huA := hu3.ext x4
  have hfb : w.heap.size + 3 ≤ w3.heap.size := by have := (Array.getElem?_eq_some_iff.1 r23).1; omega
  clear x3 x4 r03 r13 r23 hu3
  have hHE := Lib.hid (jud_end (X := sta0 1) (c := 0) (sl := (none, 0, 0)) xA rA2 (OwnB.nil _ _ _))
  have rd := setRow_heap _ (w.heap.size + 2) _ (staC (sta0 1) (slV (none, 0, 0))) _ _ rA2
  by_cases hv2 : VD = 2
  rotate_left
  · have hx : X = (sta0 1, 0) := by have := HX3.out; rw [if_neg hv2] at this; exact this.symm
    subst hx
    have hd : (VD != 2) = true := bne_iff_ne.2 hv2
    obtain ⟨z, hz⟩ : ∃ z : Int, (if (decF raw).isSome = true then 0 else 50) = z := ⟨_, rfl⟩
    rw [hz]
    clear HX3 hF hz
    go_wp2_with (first | (refine storeFrm (m := f) (sa := ua) (sn := f.b.length) (sc := uc) rz rfl rfl rfl rfl rfl ?_; clear rz) | refine storeStaB (m := sta0 1) (sl := (none, 0, 0)) rA2 rfl rfl rfl rfl rfl ?_)
    refine bodyPost_ret (results_row_tmp rfl _ _ (w.heap.size + 2) _ _ _ _ (by rfl) rd Try.underlying30 rfl (by kernel_rfl)) rfl ?_
    exact hHE.out
  subst hv2
  have hx3 := HX3.out
  rw [if_pos rfl] at hx3
  clear HX3
  cases hdc : decF raw with
  | none =>
    rw [hdc] at hx3
    have hx : X = (sta0 1, 0) := hx3.symm
    subst hx
    simp only [Option.isSome_none, Bool.false_eq_true, if_false]
    clear hx3 hF hdc
    go_wp2_with (first | (refine storeFrm (m := f) (sa := ua) (sn := f.b.length) (sc := uc) rz rfl rfl rfl rfl rfl ?_; clear rz) | refine storeStaB (m := sta0 1) (sl := (none, 0, 0)) rA2 rfl rfl rfl rfl rfl ?_)
    refine bodyPost_ret (results_row_tmp rfl _ _ (w.heap.size + 2) _ _ _ _ (by rfl) rd Try.underlying30 rfl (by kernel_rfl)) rfl ?_
    exact hHE.out
  | some g =>
  rw [hdc] at hx3 hF
  have hfg : g = f := hF
  subst hfg
  simp only [Option.isSome_some, if_true]
  have HX4 := Lib.hid hx3
  have cE0 : World.cell? _ ⟨w.heap.size + 1, 0, none⟩ = some (.int .i64 r) := cell_of_row _ _ 0 _ _ _ rA1
  have cE1 : World.cell? _ ⟨w.heap.size + 1, 1, none⟩ = some (.int .i64 s) := cell_of_row _ _ 1 _ _ _ rA1
  have cF0 : World.cell? _ ⟨w3.heap.size, 0, none⟩ = some (.int .i64 g.k) := cell_of_row _ _ 0 _ _ _ r4
  clear hx3 hF hdc rd hHE
  go_wp2_with (first | (refine storeFrm (m := g) (sa := ua) (sn := g.b.length) (sc := uc) rz rfl rfl rfl rfl rfl ?_; clear rz) | refine loadPlanW rA0 rfl rfl rfl ?_)
  refine (kR _ _).mono ?_
  rintro e w5 ⟨rfl, h5⟩
  have x5 := xA.trans h5
  have r52 := h5.block rA2
  have r5F := h5.block r4
  have hu5 := huA.ext h5
  clear kR r4 rA0 rA1 rA2 huA cE0 cE1 cF0 xA h5
  cases hrt : rightS p r s g.k with
  | false =>
    have hx : X = (sta0 1, 0) := by have := HX4.out; rw [hrt] at this; exact this.symm
    subst hx
    have HE := Lib.hid (jud_end (X := sta0 1) (c := 0) (sl := (none, 0, 0)) x5 r52 (OwnB.nil _ _ _))
    have rd := setRow_heap w5 (w.heap.size + 2) _ (staC (sta0 1) (slV (none, 0, 0))) _ _ r52
    clear HX4
    go_wp2_with (refine storeStaB (m := sta0 1) (sl := (none, 0, 0)) r52 rfl rfl rfl rfl rfl ?_)
    refine bodyPost_ret (results_row_tmp rfl _ _ (w.heap.size + 2) _ _ _ _ (by rfl) rd Try.underlying30 rfl (by kernel_rfl)) rfl ?_
    exact HE.out
  | true =>
  have hx : X = (lookS raw l BY g, 0) := by have := HX4.out; rw [hrt] at this; exact this.symm
  subst hx
  clear HX4
  have hraw5 := HI.out.1.ext x5
  have hL5 := HI.out.2.ext x5
  go_wp2_with (refine loadFrm r5F rfl rfl rfl ?_)
  refine (kL g (ua, g.b.length, uc) BY _ hu5 hraw5 hL5).mono ?_
  rintro e w6 ⟨sl, rfl, hu6, h6⟩
  have x6 := x5.trans h6
  have r62 := h6.block r52
  clear x5 r52 r5F hu5 hraw5 hL5 kL h6
  have HE := Lib.hid (jud_end (X := lookS raw l BY g) (c := 0) (sl := sl) x6 r62 hu6)
  have rd := setRow_heap w6 (w.heap.size + 2) _ (staC (lookS raw l BY g) (slV sl)) _ _ r62
  go_wp2_with (refine storeStaB (m := lookS raw l BY g) (sl := sl) r62 rfl rfl rfl rfl rfl ?_)
  refine bodyPost_ret (results_row_tmp rfl _ _ (w.heap.size + 2) _ _ _ _ (by rfl) rd Try.underlying30 rfl (by kernel_rfl)) rfl ?_
  exact HE.out
end Go.Proofs.Ytcdaelgnankmfaa.VSta
