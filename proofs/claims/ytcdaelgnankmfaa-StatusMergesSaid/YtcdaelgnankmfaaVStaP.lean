/- Two statuses copied into two boxes of their own, whatever the order (x, y := a, b). -/
import Derived.Test.YtcdaelgnankmfaaVStaG
import Derived.Test.YtcdaelgnankmfaaVAnyI
namespace Go.Proofs.Ytcdaelgnankmfaa.VSta
open Go.RowKit Go.VBase Go.VRg Go.VEq VCst VMsg

def zeroS : Array Value := #[.int .i64 0, .int .i64 0, .int .i64 0, .int .i64 0, .int .i64 0, .int .i64 0, .int .i64 0, .int .u16 0, .slice none 0 0]
def boxOf (n : Nat) (done : Bool) (c : Array Value) (v : Value) (W : World) : Prop := ∃ b, v = .pointer (some ⟨b, 0, none⟩) ∧ n ≤ b ∧ W.heap[b]? = some (.cells (if done then c else zeroS) TSta)
theorem boxOf.ext {n : Nat} {done : Bool} {c : Array Value} {v : Value} {W W' : World} (h : boxOf n done c v W) (x : Ext W W') : boxOf n done c v W' := by
  obtain ⟨b, h1, h2, h3⟩ := h
  exact ⟨b, h1, h2, x.block h3⟩
structure Cp (W0 : World) (a0 : Act) (X Y : Array Value) (L : Array Bool) (a : Act) (W : World) (v5 v6 v22 v23 : Value) : Prop where
  act : a = act4 a0 5 6 22 23 v5 v6 v22 v23
  l0 : L.getD 0 false = true → v22 = .agg X
  l1 : L.getD 1 false = true → v23 = .agg Y
  l2 : L.getD 2 false = true → boxOf W0.heap.size (L.getD 4 false) X v5 W
  l3 : L.getD 3 false = true → boxOf W0.heap.size (L.getD 5 false) Y v6 W
  ne : L.getD 2 false = true → L.getD 3 false = true → v5 ≠ v6
  c4 : L.getD 4 false = true → L.getD 2 false = true
  c5 : L.getD 5 false = true → L.getD 3 false = true
  ext : Ext W0 W
theorem getD_set (L : Array Bool) (i : Nat) (h : i < L.size) (j : Nat) : (L.setIfInBounds i true).getD j false = if j = i then true else L.getD j false := by
  by_cases e : j = i
  · subst e; simp [h]
  · rw [if_neg e, getD_set_ne false (Ne.symm e)]

set_option maxHeartbeats 2000000 in
theorem two_copies {o0 o1 o2 o3 o4 o5 : Oper} {id : Nat} {Q : Exit → Act → World → Prop} {a0 : Act} {W0 : World} {x y : StaD} {sx sy : Sl3} {bA bB : Nat}
    (hf : fine #[o0, o1, o2, o3, o4, o5] = true)
    (q0 : o0.guard = none ∧ o0.dst = some 22 ∧ o0.op = .load TSta (.tmp 2)) (q1 : o1.guard = none ∧ o1.dst = some 23 ∧ o1.op = .load TSta (.tmp 3))
    (q2 : o2.guard = none ∧ o2.dst = some 5 ∧ o2.op = .alloc TSta) (q3 : o3.guard = none ∧ o3.dst = some 6 ∧ o3.op = .alloc TSta)
    (q4 : o4.guard = none ∧ o4.dst = none ∧ o4.op = .store TSta (.tmp 5) (.tmp 22)) (q5 : o5.guard = none ∧ o5.dst = none ∧ o5.op = .store TSta (.tmp 6) (.tmp 23))
    (r4 : ∀ L, 4 ∈ Region.ready .any #[o0, o1, o2, o3, o4, o5] L → L.getD 0 false = true ∧ L.getD 2 false = true)
    (r5 : ∀ L, 5 ∈ Region.ready .any #[o0, o1, o2, o3, o4, o5] L → L.getD 1 false = true ∧ L.getD 3 false = true)
    (sz : 24 ≤ a0.tmps.size) (h0 : a0 = act4 a0 5 6 22 23 undef undef undef undef)
    (e2 : a0.eval (.tmp 2) = .pointer (some ⟨bA, 0, none⟩)) (e3 : a0.eval (.tmp 3) = .pointer (some ⟨bB, 0, none⟩)) (hA : W0.heap[bA]? = some (.cells (staC x (slV sx)) TSta)) (hB : W0.heap[bB]? = some (.cells (staC y (slV sy)) TSta))
    (hk : ∀ b5 b6 W, b5 ≠ b6 → W0.heap.size ≤ b5 → W0.heap.size ≤ b6 → W.heap[b5]? = some (.cells (staC x (slV sx)) TSta) → W.heap[b6]? = some (.cells (staC y (slV sy)) TSta) → Ext W0 W → Q .normal (act4 a0 5 6 22 23 (.pointer (some ⟨b5, 0, none⟩)) (.pointer (some ⟨b6, 0, none⟩)) (.agg (staC x (slV sx))) (.agg (staC y (slV sy)))) W) :
    (Code.region id #[o0, o1, o2, o3, o4, o5] true).wp Try.prog Q a0 W0 := by
  have hev := fun v5 v6 v22 v23 => act4_eval (a0 := a0) (p := 5) (q := 6) (r := 22) (s := 23) (by decide) (by decide) (by decide) (by decide) (by decide) (by decide) (Nat.lt_of_lt_of_le (by decide) sz) (Nat.lt_of_lt_of_le (by decide) sz) (Nat.lt_of_lt_of_le (by decide) sz) (Nat.lt_of_lt_of_le (by decide) sz) v5 v6 v22 v23
  have hpu := fun v5 v6 v22 v23 v => act4_put (a0 := a0) (p := 5) (q := 6) (r := 22) (s := 23) (by decide) (by decide) (by decide) (by decide) (by decide) (by decide) v5 v6 v22 v23 v
  refine wp_region_inv (by rfl) hf (fun L a W => ∃ v5 v6 v22 v23, Cp W0 a0 (staC x (slV sx)) (staC y (slV sy)) L a W v5 v6 v22 v23) ?_ ?_ ⟨undef, undef, undef, undef, h0, by simp, by simp, by simp, by simp, by simp, by simp, by simp, Ext.of_drew (Ext.refl _)⟩
  · rintro L a W i hs hi ⟨v5, v6, v22, v23, C⟩
    have hs6 : L.size = 6 := hs
    obtain ⟨hun, o, ho, _⟩ := mem_ready.1 hi
    have hi6 : i < 6 := (Array.getElem?_eq_some_iff.1 ho).1
    have hg := getD_set L i (by omega)
    have hunl : L.getD i false = false := by
      have h1 : i < L.size := by omega
      simpa [h1] using hun
    obtain ⟨p1, p2, p3, p4, p5⟩ := hev v5 v6 v22 v23
    obtain ⟨g1, g2, g3, g4⟩ := hpu v5 v6 v22 v23 (.pointer (some ⟨W.heap.size, 0, none⟩))
    unfold wpOp
    simp only [ho]
    have hact := C.act
    subst hact
    have hwant : ∀ q : Oper, q.guard = none → Region.wanted q (yielded #[o0, o1, o2, o3, o4, o5] (act4 a0 5 6 22 23 v5 v6 v22 v23).tmps) = true := fun q hq => by unfold Region.wanted; rw [hq]
    match i, hi6 with
    | 0, _ =>
      obtain rfl : o0 = o := by simpa using ho
      rw [if_pos (hwant _ q0.1)]
      refine .inl (wp_load_row TSta (.tmp 2) q0.2.2 bA ((p5 2 (by decide) (by decide) (by decide) (by decide)).trans e2) TSta _ _ _ (C.ext.block hA) Try.underlying30 rfl (by kernel_rfl) ?_)
      rw [q0.2.1, (hpu v5 v6 v22 v23 _).2.2.1]
      refine ⟨v5, v6, _, v23, rfl, fun _ => rfl, ?_, ?_, ?_, ?_, ?_, ?_, C.ext⟩ <;> simp only [hg] <;> simp only [show (1 : Nat) = 0 ↔ False from by simp, show (2 : Nat) = 0 ↔ False from by simp, show (3 : Nat) = 0 ↔ False from by simp, show (4 : Nat) = 0 ↔ False from by simp, show (5 : Nat) = 0 ↔ False from by simp, if_false]
      · exact C.l1
      · exact C.l2
      · exact C.l3
      · exact C.ne
      · exact C.c4
      · exact C.c5
    | 1, _ =>
      obtain rfl : o1 = o := by simpa using ho
      rw [if_pos (hwant _ q1.1)]
      refine .inl (wp_load_row TSta (.tmp 3) q1.2.2 bB ((p5 3 (by decide) (by decide) (by decide) (by decide)).trans e3) TSta _ _ _ (C.ext.block hB) Try.underlying30 rfl (by kernel_rfl) ?_)
      rw [q1.2.1, (hpu v5 v6 v22 v23 _).2.2.2]
      refine ⟨v5, v6, v22, _, rfl, ?_, fun _ => rfl, ?_, ?_, ?_, ?_, ?_, C.ext⟩ <;> simp only [hg] <;> simp only [show (0 : Nat) = 1 ↔ False from by simp, show (2 : Nat) = 1 ↔ False from by simp, show (3 : Nat) = 1 ↔ False from by simp, show (4 : Nat) = 1 ↔ False from by simp, show (5 : Nat) = 1 ↔ False from by simp, if_false]
      · exact C.l0
      · exact C.l2
      · exact C.l3
      · exact C.ne
      · exact C.c4
      · exact C.c5
    | 2, _ =>
      obtain rfl : o2 = o := by simpa using ho
      rw [if_pos (hwant _ q2.1)]
      refine .inl ?_
      have hr : (execOp (act4 a0 5 6 22 23 v5 v6 v22 v23).eval o2).run Try.prog W = .ok (.value (.pointer (some ⟨W.heap.size, 0, none⟩))) (W.alloc (.cells zeroS TSta)) := by
        unfold execOp
        simp only [q2.2.2]
        go_simp
        rfl
      unfold Oper.wp
      rw [hr]
      have h4 : L.getD 4 false = false := by
        cases h : L.getD 4 false with
        | false => rfl
        | true => rw [C.c4 h] at hunl; cases hunl
      show ∃ v5' v6' v22' v23', _
      rw [q2.2.1, g1]
      refine ⟨_, v6, v22, v23, rfl, ?_, ?_, ?_, ?_, ?_, ?_, ?_, C.ext.thenAlloc _⟩ <;> simp only [hg] <;> simp only [show (0 : Nat) = 2 ↔ False from by simp, show (1 : Nat) = 2 ↔ False from by simp, show (3 : Nat) = 2 ↔ False from by simp, show (4 : Nat) = 2 ↔ False from by simp, show (5 : Nat) = 2 ↔ False from by simp, if_false, if_true]
      · exact C.l0
      · exact C.l1
      · exact fun _ => ⟨_, rfl, C.ext.size, by rw [h4]; exact heap_alloc_new W _⟩
      · exact fun h => (C.l3 h).ext (Ext.alloc W _)
      · intro _ h3 e
        obtain ⟨b, hb, _, hbb⟩ := C.l3 h3
        rw [hb] at e
        have := (Array.getElem?_eq_some_iff.1 hbb).1
        cases e
        omega
      · exact fun _ => trivial
      · exact C.c5
    | 3, _ =>
      obtain rfl : o3 = o := by simpa using ho
      rw [if_pos (hwant _ q3.1)]
      refine .inl ?_
      have hr : (execOp (act4 a0 5 6 22 23 v5 v6 v22 v23).eval o3).run Try.prog W = .ok (.value (.pointer (some ⟨W.heap.size, 0, none⟩))) (W.alloc (.cells zeroS TSta)) := by
        unfold execOp
        simp only [q3.2.2]
        go_simp
        rfl
      unfold Oper.wp
      rw [hr]
      have h5 : L.getD 5 false = false := by
        cases h : L.getD 5 false with
        | false => rfl
        | true => rw [C.c5 h] at hunl; cases hunl
      show ∃ v5' v6' v22' v23', _
      rw [q3.2.1, g2]
      refine ⟨v5, _, v22, v23, rfl, ?_, ?_, ?_, ?_, ?_, ?_, ?_, C.ext.thenAlloc _⟩ <;> simp only [hg] <;> simp only [show (0 : Nat) = 3 ↔ False from by simp, show (1 : Nat) = 3 ↔ False from by simp, show (2 : Nat) = 3 ↔ False from by simp, show (4 : Nat) = 3 ↔ False from by simp, show (5 : Nat) = 3 ↔ False from by simp, if_false, if_true]
      · exact C.l0
      · exact C.l1
      · exact fun h => (C.l2 h).ext (Ext.alloc W _)
      · exact fun _ => ⟨_, rfl, C.ext.size, by rw [h5]; exact heap_alloc_new W _⟩
      · intro h2 _ e
        obtain ⟨b, hb, _, hbb⟩ := C.l2 h2
        rw [hb] at e
        have := (Array.getElem?_eq_some_iff.1 hbb).1
        cases e
        omega
      · exact C.c4
      · exact fun _ => trivial
    | 4, _ =>
      obtain rfl : o4 = o := by simpa using ho
      rw [if_pos (hwant _ q4.1)]
      obtain ⟨k0, k2⟩ := r4 L hi
      obtain ⟨b, hb, hbn, hbb⟩ := C.l2 k2
      have h22 := C.l0 k0
      refine .inl (wp_store_row TSta (.tmp 5) (.tmp 22) q4.2.2 b _ (p1.trans hb) (p3.trans h22) TSta _ hbb (by kernel_rfl) (by split <;> rfl) (by unfold staC slV; simp [Value.oneCell']) ?_)
      rw [q4.2.1]
      have hx : Ext W0 (W.setRow b (staC x (slV sx))) := C.ext.setRow hbn _
      refine ⟨v5, v6, v22, v23, rfl, ?_, ?_, ?_, ?_, ?_, ?_, ?_, hx⟩ <;> simp only [hg] <;> simp only [show (0 : Nat) = 4 ↔ False from by simp, show (1 : Nat) = 4 ↔ False from by simp, show (2 : Nat) = 4 ↔ False from by simp, show (3 : Nat) = 4 ↔ False from by simp, show (5 : Nat) = 4 ↔ False from by simp, if_false, if_true]
      · exact C.l0
      · exact C.l1
      · exact fun _ => ⟨b, hb, hbn, setRow_heap W b _ _ _ _ hbb⟩
      · intro h3
        obtain ⟨b', hb', hbn', hbb'⟩ := C.l3 h3
        exact ⟨b', hb', hbn', (setRow_other _ _ _ _ (fun e => C.ne k2 h3 (by rw [hb, hb', e]))).trans hbb'⟩
      · exact C.ne
      · exact fun _ => k2
      · exact C.c5
    | 5, _ =>
      obtain rfl : o5 = o := by simpa using ho
      rw [if_pos (hwant _ q5.1)]
      obtain ⟨k1, k3⟩ := r5 L hi
      obtain ⟨b, hb, hbn, hbb⟩ := C.l3 k3
      have h23 := C.l1 k1
      refine .inl (wp_store_row TSta (.tmp 6) (.tmp 23) q5.2.2 b _ (p2.trans hb) (p4.trans h23) TSta _ hbb (by kernel_rfl) (by split <;> rfl) (by unfold staC slV; simp [Value.oneCell']) ?_)
      rw [q5.2.1]
      have hx : Ext W0 (W.setRow b (staC y (slV sy))) := C.ext.setRow hbn _
      refine ⟨v5, v6, v22, v23, rfl, ?_, ?_, ?_, ?_, ?_, ?_, ?_, hx⟩ <;> simp only [hg] <;> simp only [show (0 : Nat) = 5 ↔ False from by simp, show (1 : Nat) = 5 ↔ False from by simp, show (2 : Nat) = 5 ↔ False from by simp, show (3 : Nat) = 5 ↔ False from by simp, show (4 : Nat) = 5 ↔ False from by simp, if_false, if_true]
      · exact C.l0
      · exact C.l1
      · intro h2
        obtain ⟨b', hb', hbn', hbb'⟩ := C.l2 h2
        exact ⟨b', hb', hbn', (setRow_other _ _ _ _ (fun e => C.ne h2 k3 (by rw [hb, hb', e]))).trans hbb'⟩
      · exact fun _ => ⟨b, hb, hbn, setRow_heap W b _ _ _ _ hbb⟩
      · exact C.ne
      · exact C.c4
      · exact fun _ => k3
  · rintro L a W hs hall ⟨v5, v6, v22, v23, C⟩
    have a0' := hall 0 (by simp)
    have a1 := hall 1 (by simp)
    have a2 := hall 2 (by simp)
    have a3 := hall 3 (by simp)
    have a4 := hall 4 (by simp)
    have a5 := hall 5 (by simp)
    obtain ⟨b5, rfl, h5, k5⟩ := C.l2 a2
    obtain ⟨b6, rfl, h6, k6⟩ := C.l3 a3
    have hne := C.ne a2 a3
    rw [a4, if_pos rfl] at k5
    rw [a5, if_pos rfl] at k6
    have := C.l0 a0'
    have := C.l1 a1
    have := C.act
    subst_vars
    exact hk b5 b6 W (fun e => hne (by rw [e])) h5 h6 k5 k6 C.ext
end Go.Proofs.Ytcdaelgnankmfaa.VSta
