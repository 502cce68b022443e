/- plan: the conditions, one by one, as an iterator tells them; Fails and Check. -/
import Derived.Test.YtcdaelgnankmfaaVPlan
import Derived.Test.YtcdaelgnankmfaaVSeqN
namespace Go.Proofs.Ytcdaelgnankmfaa.VPlan
open Go.RowKit Go.VBase Go.VRg Go.VPlan Go.VSeq

def condF : Nat → Nat
  | 1 => 83
  | 2 => 84
  | 3 => 85
  | 4 => 106
  | 5 => 107
  | 6 => 108
  | 7 => 109
  | 8 => 110
  | 9 => 62
  | 10 => 111
  | _ => 112
theorem cond_calls (p : PlanD) (m : Nat) (h1 : 1 ≤ m) (h2 : m ≤ 11) (hp : ∀ i, 1 ≤ i → i < m → cN p i = true) (w : World) :
    Calls Try.prog (condF m) #[planV p] w fun e w' => e = .returned (.bool (cN p m)) ∧ Ext w w' := by
  have K : 4 ≤ m → Known p := fun h => known_iff.1 (by
    unfold known
    rw [show c1 p = true from hp 1 (by omega) (by omega), show c2 p = true from hp 2 (by omega) (by omega), show c3 p = true from hp 3 (by omega) (by omega)]; rfl)
  have h4 : 5 ≤ m → p.pi ≤ 1048576 ∧ lPi p ≤ p.pi := fun h => by have := inP_iff.1 (hp 4 (by omega) (by omega)); exact ⟨this.2, this.1⟩
  have h5 : 6 ≤ m → p.window ≤ 1048576 ∧ lWin p ≤ p.window := fun h => by have := inP_iff.1 (hp 5 (by omega) (by omega)); exact ⟨this.2, this.1⟩
  have h6 : 7 ≤ m → p.cap ≤ 1048576 ∧ lCap p ≤ p.cap := fun h => by have := inP_iff.1 (hp 6 (by omega) (by omega)); exact ⟨this.2, this.1⟩
  have h7 : 8 ≤ m → p.sendOff ≤ 1048576 ∧ lOff p ≤ p.sendOff := fun h => by have := inP_iff.1 (hp 7 (by omega) (by omega)); exact ⟨this.2, this.1⟩
  have pos4 : 4 ≤ m → 0 ≤ lPi p := fun h => by have k := K h; have := k.eb; have := k.gb; have := k.ab; unfold lPi; omega
  have pos6 : 4 ≤ m → 0 ≤ lCap p := fun h => by have k := K h; have := k.eb; have := k.gb; have := k.ab; unfold lCap; omega
  have pos5 : 5 ≤ m → 0 ≤ lWin p := fun h => by have k := K (by omega); have := k.eb; have := pos4 (by omega); have := h4 h; unfold lWin; omega
  have pos7 : 7 ≤ m → 0 ≤ lOff p := fun h => by have := pos4 (by omega); have := h4 (by omega); have := pos5 (by omega); have := h5 (by omega); have := pos6 (by omega); have := h6 (by omega); unfold lOff; omega
  have h9 : 10 ≤ m → (1 ≤ p.queue ∧ p.queue ≤ 64) ∧ (1 ≤ p.burst ∧ p.burst ≤ 8) := fun h => by
    have := hp 9 (by omega) (by omega)
    have hc : c9 p = true := this
    unfold c9 at hc
    simp only [Bool.and_eq_true, inP_iff] at hc
    exact hc.1
  have M : 8 ≤ m → Mild p := fun h => by
    have := pos4 (by omega); have := h4 (by omega); have := pos5 (by omega); have := h5 (by omega); have := pos6 (by omega); have := h6 (by omega); have := pos7 (by omega); have := h7 (by omega)
    exact ⟨by omega, by omega, by omega, by omega, by omega, by omega, by omega, by omega⟩
  match m, h1, h2 with
  | 1, _, _ => exact nodes_calls p w
  | 2, _, _ => exact air_calls p w
  | 3, _, _ => exact slot_calls p w
  | 4, _, _ => exact pi_calls p (K (by omega)) w
  | 5, _, _ => exact window_calls p (K (by omega)) (by have := h4 (by omega); have := pos4 (by omega); omega) (by have := h4 (by omega); omega) w
  | 6, _, _ => exact limit_calls p (K (by omega)) w
  | 7, _, _ =>
    have := pos4 (by omega); have := h4 (by omega); have := pos5 (by omega); have := h5 (by omega); have := pos6 (by omega); have := h6 (by omega)
    exact sends_calls p (by omega) (by omega) (by omega) (by omega) (by omega) (by omega) w
  | 8, _, _ => exact plFits_calls p (K (by omega)) (M (by omega)) w
  | 9, _, _ => exact queue_calls p w
  | 10, _, _ =>
    have := pos4 (by omega); have := h4 (by omega); obtain ⟨⟨a, b⟩, c, d⟩ := h9 (by omega)
    exact delta_calls p (K (by omega)) a b c d (by omega) (by omega) w
  | 11, _, _ => exact horizon_calls p (K (by omega)) w

theorem conditions_calls (p : PlanD) (w : World) :
    Calls Try.prog 93 #[planV p] w fun e w' => e = .returned (.func (.func 105) #[] #[.pointer (some ⟨w.heap.size, 0, none⟩)]) ∧ w' = w.alloc (.cells (planC p) 110) := by
  unfold planV planC
  go_enter Try.func93, Try.ntmps93
  go_wp2_with fail
  go_ret
  exact ⟨rfl, rfl⟩

def condV (p : PlanD) (j : Nat) : Value := .func (.func (condF j)) #[planV p] #[]
def ns : List Nat := (List.range 11).map (· + 1)
theorem ns_len : ns.length = 11 := rfl
theorem ns_get {i : Nat} (h : i < 11) : ns[i]? = some (i + 1) := by unfold ns; rw [List.getElem?_map, List.getElem?_range h]; rfl
def NxP (pre : List Nat) (x : Nat) : Prop := pre = ns.take pre.length ∧ x = pre.length + 1 ∧ x ≤ 11

def rowC (p : PlanD) : Array Value := #[.nilFunc, condV p 1, condV p 2, condV p 3, condV p 4, condV p 5, condV p 6, condV p 7, condV p 8, condV p 9, condV p 10, condV p 11]
theorem row_cell {W : World} {b j : Nat} {T : TypeId} {mk : Nat × Nat} {p : PlanD} (h : W.heap[b]? = some (.cells (rowC p) T mk)) (h1 : 1 ≤ j) (h2 : j ≤ 11) : W.cell? ⟨b, j, none⟩ = some (condV p j) := by
  unfold World.cell?; simp only [h]
  match j, h1, h2 with
  | 1, _, _ => rfl
  | 2, _, _ => rfl
  | 3, _, _ => rfl
  | 4, _, _ => rfl
  | 5, _, _ => rfl
  | 6, _, _ => rfl
  | 7, _, _ => rfl
  | 8, _, _ => rfl
  | 9, _, _ => rfl
  | 10, _, _ => rfl
  | 11, _, _ => rfl

attribute [local go_sem] Oper.semAt_some

set_option maxRecDepth 100000 in
set_option maxHeartbeats 4000000 in
theorem conditions1_in (p : PlanD) (l Bn : Nat) (J Jx : List Nat → World → Prop)
    (hY : ∀ pre x W, J pre W → NxP pre x → YieldAt Fence.wide 7 Try.prog l #[.int .i64 (x : Int), condV p x] W fun e W' =>
      (e = .returned (.bool true) ∧ J (pre ++ [x]) W' ∧ KpC W W') ∨ (e = .returned (.bool false) ∧ Jx (pre ++ [x]) W'))
    (W : World) (hBn : W.heap[Bn]? = some (.cells (planC p) 110)) (hJ : AbidesFrom W.heap.size J) (h0 : J [] W) :
    CallsIn Fence.wide 8 Try.prog 105 #[.func (.yield l) #[] #[], .pointer (some ⟨Bn, 0, none⟩)] W fun e W' => (∃ v, e = .returned v) ∧
      ((∃ ys, ys = ns ∧ J ys W') ∨ (∃ pre, pre <+: ns ∧ Jx pre W')) := by
  have hcs := planBox hBn
  unfold PlanCells at hcs
  obtain ⟨e0, e1, e2, e3, e4, e5, e6, e7, e8, e9, e10, e11, e12, e13, e14, e15⟩ := hcs
  refine callsIn_of_wp Try.func105 rfl trivial ?_ rfl
  simp only [Try.ntmps105, List.size_toArray, List.length_cons, List.length_nil, Nat.reduceAdd, Nat.reduceSub, Array.replicate_succ, Array.replicate_zero, List.push_toArray, List.append_toArray, List.nil_append, List.cons_append]
  gi_wp2
  gi_loopw [4] (fun i wr => ∃ j : Nat, j ≤ 11 ∧ i = .int .i64 ((j : Int) + 1) ∧ J (ns.take j) wr ∧ wr.heap[W.heap.size]? = some (.cells (rowC p) 38)) (fun i _ => 12 - (intOf i).toNat)
  case atStart => exact ⟨0, by omega, rfl, hJ [] W _ none h0 (World.grownBy_alloc W _ none) (fun r e => by cases e), heap_alloc_new W _⟩
  case round =>
    clear e0 e1 e2 e3 e4 e5 e6 e7 e8 e9 e10 e11 e12 e13 e14 e15
    obtain ⟨j, hj, rfl, hJj, hb⟩ := hrel
    by_cases hlt : j < 11
    · have hc := row_cell (j := j + 1) hb (by omega) (by omega)
      have htl : (ns.take j).length = j := by rw [List.length_take, ns_len]; omega
      obtain ⟨fn, tmps, assign, body, hy, hR⟩ := hY (ns.take j) (j + 1) wr hJj ⟨by rw [htl], by rw [htl], by omega⟩
      have hd : decide ((j : Int) + 1 < 12) = true := decide_eq_true (by omega)
      have hsn := take_snoc (ns_get hlt)
      rw [← hsn] at hR
      unfold condV at hy hc
      rw [show (((j + 1 : Nat)) : Int) = (j : Int) + 1 from by omega] at hy
      have hlt1 : ((j : Int) + 1).toNat < 12 := by omega
      have HB := Lib.hid hb
      generalize condF (j + 1) = F at *
      generalize planV p = V at *
      clear hsn hb hY hBn h0 hJj htl hJ
      gi_wp2
      refine hR.mono ?_
      rintro e W3 (⟨rfl, hJ3, hk3⟩ | ⟨rfl, hJx3⟩)
      · have HK := Lib.hid (hk3 _ _ HB.out rfl)
        clear hk3 hy
        gi_wp2
        go_roundw
        case rel => exact ⟨j + 1, by omega, by go_num, hJ3, HK.out⟩
        case measure => simp [intOf]; omega
      · clear hy
        gi_wp2
        refine bodyPost_ret (results_none rfl _ _ _) rfl ?_
        exact ⟨⟨_, rfl⟩, .inr ⟨_, List.take_prefix _ _, hJx3⟩⟩
    · have hjk : j = 11 := by omega
      subst hjk
      clear hY hBn h0 hb
      gi_wp2
      go_end0
      exact ⟨⟨_, rfl⟩, .inl ⟨_, rfl, by rw [List.take_of_length_le (by rw [ns_len]; exact Nat.le_refl _)] at hJj; exact hJj⟩⟩
theorem conditions_stops (p : PlanD) (w : World) (Bn : Nat) (hb : w.heap[Bn]? = some (.cells (planC p) 110)) :
    SeqNx Try.prog 105 #[.pointer (some ⟨Bn, 0, none⟩)] (fun (x : Nat) => #[.int .i64 (x : Int), condV p x]) NxP KpC (· = ns) (· <+: ns) w :=
  fun l J Jx W hW hJ _ hY h0 => conditions1_in p l Bn J Jx hY W ((Below.block hW Bn (Array.getElem?_eq_some_iff.1 hb).1).trans hb) hJ h0
end Go.Proofs.Ytcdaelgnankmfaa.VPlan
