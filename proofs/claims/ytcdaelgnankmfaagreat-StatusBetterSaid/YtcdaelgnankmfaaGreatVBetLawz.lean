/- Bundled out of VBetLaw. -/
import Derived.Test.YtcdaelgnankmfaaGreatVZ2
import Derived.Test.YtcdaelgnankmfaaGreatVB3
import Derived.Deep.Cut
/- StatusBetter. -/
namespace Go.Proofs.YtcdaelgnankmfaaGreat.VSta
open Go.RowKit Go.VBase Go.VRg Go.VSeq Go.VEq Go.VPlan VPlan Go.VOct VOct VCst Go.Proofs.YtcdaelgnankmfaaGreat.VCrc _root_.Go.VCrc VMsg

/-! ### The plain law -/
def mS (x y : StaD) : StaD := if betB x y then y else x
theorem worth_cases (l : Int) : (worthN l = 4 ∧ l = 2) ∨ (worthN l = 3 ∧ l = 3) ∨ (worthN l = 2 ∧ l = 1) ∨ (worthN l = 1 ∧ l = 0) ∨ (worthN l = 0 ∧ (l < 0 ∨ 3 < l)) := by
  unfold worthN
  split
  · left; omega
  · split
    · right; left; omega
    · split
      · right; right; left; omega
      · split
        · right; right; right; left; omega
        · right; right; right; right; omega
theorem bet_iff (x y : StaD) : betB x y = true ↔ worthN x.l < worthN y.l ∨ (worthN y.l = worthN x.l ∧ x.k < y.k) := by
  rw [betB_worth]; simp
theorem bet_not (x y : StaD) : betB x y = false ↔ ¬ (worthN x.l < worthN y.l ∨ (worthN y.l = worthN x.l ∧ x.k < y.k)) := by
  rw [← bet_iff]; simp
theorem sameS_self (x : StaD) : sameS x x = true := by unfold sameS sameF; simp
theorem m_one (x y : StaD) : sameS (mS x y) x = true ∨ sameS (mS x y) y = true := by
  unfold mS; split
  · exact .inr (sameS_self y)
  · exact .inl (sameS_self x)
theorem m_kind (x y : StaD) : (mS x y).k = (mS y x).k := by
  unfold mS
  cases h1 : betB x y <;> cases h2 : betB y x
  · rw [bet_not] at h1 h2; simp; omega
  · simp
  · simp
  · rw [bet_iff] at h1 h2; omega
theorem m_alike (x y : StaD) (h : ¬ ((x.k = y.k ∧ x.l = y.l) ∨ ((x.l < 0 ∨ 3 < x.l) ∧ (y.l < 0 ∨ 3 < y.l)))) : sameS (mS x y) (mS y x) = true := by
  unfold mS
  cases h1 : betB x y <;> cases h2 : betB y x
  · rw [bet_not] at h1 h2
    exfalso
    have a := worth_cases x.l
    have b := worth_cases y.l
    by_cases hk : x.k = y.k
    · have : worthN x.l = worthN y.l := by omega
      omega
    · omega
  · simp [sameS_self]
  · simp [sameS_self]
  · rw [bet_iff] at h1 h2; omega
theorem m_again (x y : StaD) : sameS (mS (mS x y) x) (mS x y) = true := by
  have h : mS (mS x y) x = mS x y := by
    unfold mS
    cases h1 : betB x y
    · simp only [Bool.false_eq_true, if_false]
      cases h2 : betB x x <;> simp
    · simp only [if_true]
      cases h2 : betB y x
      · simp
      · rw [bet_iff] at h1 h2; omega
  rw [h]; exact sameS_self _
theorem m_assoc (x y z : StaD) : sameS (mS (mS x y) z) (mS x (mS y z)) = true := by
  have h : mS (mS x y) z = mS x (mS y z) := by
    unfold mS
    cases h1 : betB x y <;> cases h2 : betB y z <;> cases h3 : betB x z <;> simp [h1, h2, h3] <;> (first | rfl | skip)
    all_goals (first | (rw [bet_iff] at *; done) | skip)
    all_goals (simp only [bet_iff, bet_not] at h1 h2 h3; omega)
  rw [h]; exact sameS_self _

/-! ### The walk -/
theorem exec_loadStaE {W : World} {o : Oper} {a : Act} {t : Tmp} {b : Nat} {x : StaD} {u : Value} {T' : TypeId} {mk : Nat × Nat} (h : W.heap[b]? = some (.cells (staC x u) T' mk)) (ho : o.op = .load 36 (.tmp t)) (hx : a.eval (.tmp t) = .pointer (some ⟨b, 0, none⟩)) :
    (execOp a.eval o).run Tryz.prog W = .ok (.value (.agg (staC x u))) W := by
  unfold execOp
  simp only [ho, hx, Instr.loadAt, Instr.sureAddr, Sem.run_bind, Sem.run_pure, Result.andThen_ok, run_loadVar_row W b T' 36 (staC x u) mk _ h Tryz.underlying36 rfl (by kernel_rfl)]
theorem loadStaV {ops : Array Oper} {rest : List Oper} {o : Oper} {a : Act} {Q : Exit → Act → World → Prop} {W : World} {t : Tmp} {b : Nat} {T' : TypeId} {mk : Nat × Nat} {x : StaD} {u : Value}
    (h : W.heap[b]? = some (.cells (staC x u) T' mk)) (hw : Region.wanted o (yielded ops a.tmps) = true) (ho : o.op = .load 36 (.tmp t)) (hx : a.eval (.tmp t) = .pointer (some ⟨b, 0, none⟩))
    (hk : wpList Tryz.prog ops Q rest (a.put o.dst (.agg (staC x u))) W) : wpList Tryz.prog ops Q (o :: rest) a W :=
  wpList_step fun K hK => by
    simp only [hw, if_true]
    exact wp_load_row _ _ ho _ hx _ _ _ _ h Tryz.underlying36 rfl (by kernel_rfl) (hK _ _ hk)
theorem mergeS_calls (x y : StaD) (sx sy : Sl3) (w : World) (hx : Bys w (slV sx) x.f.b) (hy : Bys w (slV sy) y.f.b) (hlx : x.f.b.length ≤ 1100) (hly : y.f.b.length ≤ 1100) :
    Calls Tryz.prog 14 #[.agg (staC x (slV sx)), .agg (staC y (slV sy))] w fun e w' => ∃ sl : Sl3, e = .returned (.agg (staC (mS x y) (slV sl))) ∧ OwnB w' 0 TB (slV sl) (mS x y).f.b ∧ Ext w w' := by
  refine (merge_calls x y sx sy w hx hy (by omega) (by omega)).mono ?_
  rintro e w' ⟨u, rfl, hu, hx⟩
  obtain ⟨a, c, rfl⟩ := hu.slice
  exact ⟨(a, _, c), rfl, hu.mono (Nat.zero_le _), hx⟩
theorem mS_len {x y : StaD} (hx : x.f.b.length ≤ 1100) (hy : y.f.b.length ≤ 1100) : (mS x y).f.b.length ≤ 1100 := by
  unfold mS; split
  · exact hy
  · exact hx
/-- A status in hand, its bytes in a row of bytes. -/
def StV2 (X : StaD) (v : Value) (W : World) : Prop := ∃ sl : Sl3, v = .agg (staC X (slV sl)) ∧ OwnB W 0 TB (slV sl) X.f.b
theorem own_stR {n base : Nat} {A W : World} {v : Value} {l : List UInt8} (h : OwnB A base TB v l) (k : StR n A W) : OwnB W base TB v l := by
  refine ⟨h.1, ?_⟩
  rcases h.2 with hn | ⟨g, cap, cur, e1, e2, e3, rest⟩
  · exact .inl hn
  · exact .inr ⟨g, cap, cur, e1, e2, k.2.2.1 _ _ e3 (fun c e => by cases e), rest⟩
theorem StV2.keep {n : Nat} {X : StaD} (v : Value) (W W' : World) (h : StR n W W') : StV2 X v W → StV2 X v W' := by
  rintro ⟨sl, h1, h2⟩
  exact ⟨sl, h1, own_stR h2 h⟩
theorem StV2.ext {X : StaD} (v : Value) (W W' : World) (h : Ext W W') : StV2 X v W → StV2 X v W' := by
  rintro ⟨sl, h1, h2⟩
  exact ⟨sl, h1, h2.ext h⟩
def StH2 (n : Nat) (X : StaD) (v : Value) (W : World) : Prop := ∃ (b : Nat) (sl : Sl3), v = .pointer (some ⟨b, 0, none⟩) ∧ n ≤ b ∧ W.heap[b]? = some (.cells (staC X (slV sl)) TSta) ∧ OwnB W 0 TB (slV sl) X.f.b
theorem StH2.ext {n : Nat} {X : StaD} {v : Value} {W W' : World} (h : StH2 n X v W) (e : Ext W W') : StH2 n X v W' := by
  obtain ⟨b, sl, h1, h2, h3, h4⟩ := h
  exact ⟨b, sl, h1, h2, e.block h3, h4.ext e⟩
theorem StH2.set {n m b : Nat} {X : StaD} {v : Value} {W : World} {c : Array Value} (h : StH2 n X v W) (k : StR m W (W.setRow b c)) (hne : v ≠ .pointer (some ⟨b, 0, none⟩)) : StH2 n X v (W.setRow b c) := by
  obtain ⟨b', sl, rfl, h2, h3, h4⟩ := h
  exact ⟨b', sl, rfl, h2, (setRow_other _ _ _ _ (fun e => hne (by rw [e]))).trans h3, own_stR h4 k⟩
theorem StH2.mk' {n m b : Nat} {X : StaD} {sl : Sl3} {v : Value} {W : World} {c : Array Value} (hn : n ≤ b) (h : W.heap[b]? = some (.cells c TSta)) (k : StR m W (W.setRow b (staC X (slV sl)))) (ho : OwnB W 0 TB (slV sl) X.f.b) (hv : v = .pointer (some ⟨b, 0, none⟩)) : StH2 n X v (W.setRow b (staC X (slV sl))) :=
  ⟨b, sl, hv, hn, setRow_heap _ _ _ _ _ _ h, own_stR ho k⟩
/-- Two boxes are filled, one behind the other: the state of a chain of m calls ahead of them. -/
def LiB (n m i j : Nat) (X Y : StaD) (σ : Nat → Value) (vs : List Value) (W : World) : Prop :=
  (m + 1 ≤ vs.length → StH2 n X (σ i) W) ∧ (m + 2 ≤ vs.length → StH2 n Y (σ j) W)
theorem LiB.low (n m i j : Nat) (X Y : StaD) (σ : Nat → Value) (vs : List Value) (W : World) (h : vs.length ≤ m) : LiB n m i j X Y σ vs W := ⟨fun k => by omega, fun k => by omega⟩
theorem LiB.ext {n m i j : Nat} {X Y : StaD} {σ : Nat → Value} {vs : List Value} {W W' : World} (h : LiB n m i j X Y σ vs W) (e : Ext W W') : LiB n m i j X Y σ vs W' := ⟨fun k => (h.1 k).ext e, fun k => (h.2 k).ext e⟩
def oddB (l : Int) : Bool := decide (l < 0) || decide (3 < l)
set_option maxHeartbeats 2000000 in
theorem odd_calls (x : StaD) (sx : Sl3) (w : World) : Calls Tryz.prog 15 #[.agg (staC x (slV sx))] w fun e w' => e = .returned (.bool (oddB x.l)) ∧ Ext w w' := by
  have r0 := heap_alloc_new w (.cells (staC x (slV sx)) TSta)
  have x0 := Ext.alloc w (.cells (staC x (slV sx)) TSta)
  have c1 : (w.alloc (.cells (staC x (slV sx)) TSta)).cell? ⟨w.heap.size, 1, none⟩ = some (.int .i64 x.l) := cell_of_row _ _ 1 _ _ _ r0
  unfold oddB
  by_cases h : x.l < 0
  · have d1 : decide (x.l < 0) = true := decide_eq_true h
    rw [d1, Bool.true_or]
    clear r0
    go_enter Tryz.func15, Tryz.ntmps15
    go_wp2_with fail
    go_ret
    exact ⟨rfl, x0⟩
  · have d1 : decide (x.l < 0) = false := decide_eq_false h
    rw [d1, Bool.false_or]
    clear r0
    go_enter Tryz.func15, Tryz.ntmps15
    go_wp2_with fail
    go_ret
    exact ⟨rfl, x0⟩
attribute [local go_sem] Oper.semAt_some
set_option maxRecDepth 100000 in
set_option maxHeartbeats 16000000 in
theorem Better_any (x y z : StaD) (sx sy sz : Sl3) (w : World) (hx : Bys w (slV sx) x.f.b) (hy : Bys w (slV sy) y.f.b) (hz : Bys w (slV sz) z.f.b) :
    Calls Tryz.prog 4 #[.agg (staC x (slV sx)), .agg (staC y (slV sy)), .agg (staC z (slV sz))] w fun e w' => e = .returned (.bool true) ∧ Ext w w' := by
  obtain ⟨sa, hsx⟩ : ∃ a, ∃ c, sx = (a, x.f.b.length, c) := by obtain ⟨a, c, h, _⟩ := hx; obtain ⟨p, q, r⟩ := sx; unfold slV at h; cases h; exact ⟨_, _, rfl⟩
  obtain ⟨sc, rfl⟩ := hsx
  obtain ⟨ta, hsy⟩ : ∃ a, ∃ c, sy = (a, y.f.b.length, c) := by obtain ⟨a, c, h, _⟩ := hy; obtain ⟨p, q, r⟩ := sy; unfold slV at h; cases h; exact ⟨_, _, rfl⟩
  obtain ⟨tc, rfl⟩ := hsy
  obtain ⟨ua, hsz⟩ : ∃ a, ∃ c, sz = (a, z.f.b.length, c) := by obtain ⟨a, c, h, _⟩ := hz; obtain ⟨p, q, r⟩ := sz; unfold slV at h; cases h; exact ⟨_, _, rfl⟩
  obtain ⟨uc, rfl⟩ := hsz
  have kA := fun W => stAlive_calls W
  have x0 := ((Ext.alloc w (.cells (staC x (slV (sa, x.f.b.length, sc))) TSta)).thenAlloc (.cells (staC y (slV (ta, y.f.b.length, tc))) TSta)).thenAlloc (.cells (staC z (slV (ua, z.f.b.length, uc))) TSta)
  have r0 := ((Ext.alloc _ (.cells (staC y (slV (ta, y.f.b.length, tc))) TSta)).thenAlloc (.cells (staC z (slV (ua, z.f.b.length, uc))) TSta)).block (heap_alloc_new w (.cells (staC x (slV (sa, x.f.b.length, sc))) TSta))
  have r1 := (Ext.alloc _ (.cells (staC z (slV (ua, z.f.b.length, uc))) TSta)).block (heap_alloc_at (w.alloc (.cells (staC x (slV (sa, x.f.b.length, sc))) TSta)) (.cells (staC y (slV (ta, y.f.b.length, tc))) TSta) (n := w.heap.size + 1) (by simp))
  have r2 := heap_alloc_at ((w.alloc (.cells (staC x (slV (sa, x.f.b.length, sc))) TSta)).alloc (.cells (staC y (slV (ta, y.f.b.length, tc))) TSta)) (.cells (staC z (slV (ua, z.f.b.length, uc))) TSta) (n := w.heap.size + 2) (by simp)
  obtain ⟨W0, hW0⟩ : ∃ W0, W0 = ((w.alloc (.cells (staC x (slV (sa, x.f.b.length, sc))) TSta)).alloc (.cells (staC y (slV (ta, y.f.b.length, tc))) TSta)).alloc (.cells (staC z (slV (ua, z.f.b.length, uc))) TSta) := ⟨_, rfl⟩
  rw [← hW0] at r0 r1 r2 x0
  have H0 := Lib.hid hW0
  have HX := Lib.hid (And.intro hx (And.intro hy hz))
  clear hW0 hx hy hz
  go_enter Tryz.func4, Tryz.ntmps4
  refine wp_seq_k fun K hK => ?_
  have HK := Lib.hid hK
  clear hK
  go_wp2_with fail
  refine HK.out _ _ ?_
  clear HK
  show Code.wp _ _ _ _ (((w.alloc (.cells (staC x (slV (sa, x.f.b.length, sc))) TSta)).alloc (.cells (staC y (slV (ta, y.f.b.length, tc))) TSta)).alloc (.cells (staC z (slV (ua, z.f.b.length, uc))) TSta))
  rw [← H0.out]
  clear H0
  go_wp2_with fail
  refine (kA _).mono ?_
  rintro e w1 ⟨rfl, h1⟩
  have x1 := x0.trans h1
  have q0 := h1.block r0
  have q1 := h1.block r1
  have q2 := h1.block r2
  have l0 : w1.cell? ⟨w.heap.size, 8, none⟩ = some (.slice sa x.f.b.length sc) := cell_of_row _ _ 8 _ _ _ q0
  have l1 : w1.cell? ⟨w.heap.size + 1, 8, none⟩ = some (.slice ta y.f.b.length tc) := cell_of_row _ _ 8 _ _ _ q1
  have l2 : w1.cell? ⟨w.heap.size + 2, 8, none⟩ = some (.slice ua z.f.b.length uc) := cell_of_row _ _ 8 _ _ _ q2
  have HQ := Lib.hid (And.intro q0 (And.intro q1 q2))
  clear kA h1 x0 r0 r1 r2 q0 q1 q2
  by_cases hlx : x.f.b.length ≤ 1100
  rotate_left
  · have dA : decide ((1100 : Int) < (x.f.b.length : Int)) = true := decide_eq_true (by omega)
    go_wp2_with fail
    go_ret
    exact ⟨rfl, x1⟩
  have dA : decide ((1100 : Int) < (x.f.b.length : Int)) = false := decide_eq_false (by omega)
  by_cases hly : y.f.b.length ≤ 1100
  rotate_left
  · have dB : decide ((1100 : Int) < (y.f.b.length : Int)) = true := decide_eq_true (by omega)
    go_wp2_with fail
    go_ret
    exact ⟨rfl, x1⟩
  have dB : decide ((1100 : Int) < (y.f.b.length : Int)) = false := decide_eq_false (by omega)
  by_cases hlz : z.f.b.length ≤ 1100
  rotate_left
  · have dC : decide ((1100 : Int) < (z.f.b.length : Int)) = true := decide_eq_true (by omega)
    go_wp2_with fail
    go_ret
    exact ⟨rfl, x1⟩
  have dC : decide ((1100 : Int) < (z.f.b.length : Int)) = false := decide_eq_false (by omega)
  go_wp2_with fail
  clear dA dB dC l0 l1 l2
  obtain ⟨q0, q1, q2⟩ := HQ.out
  have kr1 : ∀ W, StR w1.heap.size w1.drew W → W.heap[w.heap.size]? = some (.cells (staC x (slV (sa, x.f.b.length, sc))) TSta) ∧ W.heap[w.heap.size + 1]? = some (.cells (staC y (slV (ta, y.f.b.length, tc))) TSta) ∧ W.heap[w.heap.size + 2]? = some (.cells (staC z (slV (ua, z.f.b.length, uc))) TSta) ∧ Ext w1 W := fun W h => by
    have he : Ext w1 W := Ext.of_drew (h.2.1 (Nat.le_refl _))
    exact ⟨he.block q0, he.block q1, he.block q2, he⟩
  refine wp_region_chainB (StR w1.heap.size) Ext [(2, .unk (StV2 (mS x y)) StV2.keep), (5, .unk (StV2 (mS y x)) StV2.keep), (6, .unk (StBox w1.heap.size) StBox.keep), (7, .unk (StBox w1.heap.size) StBox.keep), (8, .known undef), (9, .known undef)] [2, 5, 8, 9] [6, 7] (LiB w1.heap.size 2 6 7 (mS x y) (mS y x))
    (by kernel_rfl) (by kernel_rfl) (by kernel_rfl) (by kernel_rfl) (fun _ _ h => StR.ext h) (fun _ _ _ _ e h => h.ext e) (fun _ _ h => h.1) ?_ ?_ (StR.refl _) (fun _ _ _ => StR.trans) (fun σ => LiB.low _ _ _ _ _ _ _ _ _ (by simp)) ?_
  · intro i hi
    simp at hi
    rcases hi with rfl | rfl
    · exact ⟨rfl, by decide, fun o ho => by cases ho; exact ⟨_, fun a W => by go_simp; rfl⟩⟩
    · exact ⟨rfl, by decide, fun o ho => by cases ho; exact ⟨_, fun a W => by go_simp; rfl⟩⟩
  · intro σ τ vs W h hS
    refine ⟨fun k => ?_, fun k => ?_⟩
    · rw [← h 6 8 2 rfl (by omega) (by kernel_rfl)]; exact hS.1 k
    · rw [← h 7 9 3 rfl (by omega) (by kernel_rfl)]; exact hS.2 k
  intro σ
  simp only
  refine cb_pure (x := .agg (staC x (slV (sa, x.f.b.length, sc)))) rfl (by rfl) (fun W hW => exec_loadStaE (kr1 W hW).1 rfl rfl) ?_
  simp only [Nat.reduceAdd, Act.put, List.setIfInBounds_toArray, List.set_cons_zero, List.set_cons_succ]
  refine cb_pure (x := .agg (staC y (slV (ta, y.f.b.length, tc)))) rfl (by rfl) (fun W hW => exec_loadStaE (kr1 W hW).2.1 rfl rfl) ?_
  simp only [Nat.reduceAdd, Act.put, List.setIfInBounds_toArray, List.set_cons_zero, List.set_cons_succ]
  refine cb_call' 0 rfl rfl (by decide) rfl (by rfl) (fun W hW hF hA hS => ?_) ?_
  · have he := (kr1 W hW).2.2.2
    have hba := HX.out.1.ext (x1.trans he)
    have hbb := HX.out.2.1.ext (x1.trans he)
    go_simp
    refine (mergeS_calls x y (sa, x.f.b.length, sc) (ta, y.f.b.length, tc) W hba hbb hlx hly).mono ?_
    rintro e W' ⟨sl, rfl, ho, hx⟩
    exact ⟨_, rfl, StR.ext hx, ⟨sl, rfl, ho⟩, LiB.low _ _ _ _ _ _ _ _ _ (by simp)⟩
  simp only [Nat.reduceAdd, Act.put, List.setIfInBounds_toArray, List.set_cons_zero, List.set_cons_succ]
  refine cb_pure (x := .agg (staC y (slV (ta, y.f.b.length, tc)))) rfl (by rfl) (fun W hW => exec_loadStaE (kr1 W hW).2.1 rfl rfl) ?_
  simp only [Nat.reduceAdd, Act.put, List.setIfInBounds_toArray, List.set_cons_zero, List.set_cons_succ]
  refine cb_pure (x := .agg (staC x (slV (sa, x.f.b.length, sc)))) rfl (by rfl) (fun W hW => exec_loadStaE (kr1 W hW).1 rfl rfl) ?_
  simp only [Nat.reduceAdd, Act.put, List.setIfInBounds_toArray, List.set_cons_zero, List.set_cons_succ]
  refine cb_call' 1 rfl rfl (by decide) rfl (by rfl) (fun W hW hF hA hS => ?_) ?_
  · have he := (kr1 W hW).2.2.2
    have hba := HX.out.2.1.ext (x1.trans he)
    have hbb := HX.out.1.ext (x1.trans he)
    go_simp
    refine (mergeS_calls y x (ta, y.f.b.length, tc) (sa, x.f.b.length, sc) W hba hbb hly hlx).mono ?_
    rintro e W' ⟨sl, rfl, ho, hx⟩
    exact ⟨_, rfl, StR.ext hx, ⟨sl, rfl, ho⟩, LiB.low _ _ _ _ _ _ _ _ _ (by simp)⟩
  simp only [Nat.reduceAdd, Act.put, List.setIfInBounds_toArray, List.set_cons_zero, List.set_cons_succ]
  refine cb_unk rfl (by decide) (by rfl) (fun W hW hF hS => ?_) ?_
  · go_simp; exact ⟨Ext.alloc _ _, _, _, rfl, hW.1, rfl, heap_alloc_new _ _⟩
  simp only [Nat.reduceAdd, Act.put, List.setIfInBounds_toArray, List.set_cons_zero, List.set_cons_succ]
  refine cb_unk rfl (by decide) (by rfl) (fun W hW hF hS => ?_) ?_
  · go_simp; exact ⟨Ext.alloc _ _, _, _, rfl, hW.1, rfl, heap_alloc_new _ _⟩
  simp only [Nat.reduceAdd, Act.put, List.setIfInBounds_toArray, List.set_cons_zero, List.set_cons_succ]
  refine cb_call 2 rfl rfl (by decide) rfl (by rfl) (fun W hW hF hA hS => ?_) ?_
  · obtain ⟨b, c, hb, hn, hc, hrow⟩ := hF 6 _ _ rfl (by kernel_rfl)
    obtain ⟨sl, hsl, ho⟩ := hF 2 _ _ rfl (by kernel_rfl)
    exact eff_storeStaE (m := (mS x y)) (sl := sl) hrow hc rfl hb hsl (StR.set hn hrow rfl) ⟨rfl, fun _ => StH2.mk' hn hrow (StR.set hn hrow rfl) ho hb, fun h => absurd h (by simp)⟩
  simp only [Nat.reduceAdd, Act.put, List.setIfInBounds_toArray, List.set_cons_zero, List.set_cons_succ]
  refine cb_call 3 rfl rfl (by decide) rfl (by rfl) (fun W hW hF hA hS => ?_) ?_
  · obtain ⟨b, c, hb, hn, hc, hrow⟩ := hF 7 _ _ rfl (by kernel_rfl)
    obtain ⟨sl, hsl, ho⟩ := hF 5 _ _ rfl (by kernel_rfl)
    have a0 : σ 6 ≠ .pointer (some ⟨b, 0, none⟩) := fun e => hA 6 (by decide) 7 (by decide) (by kernel_rfl) (by kernel_rfl) (by decide) (e.trans hb.symm)
    exact eff_storeStaE (m := (mS y x)) (sl := sl) hrow hc rfl hb hsl (StR.set hn hrow rfl) ⟨rfl, fun _ => (hS.1 (by simp)).set (StR.set hn hrow rfl) a0, fun _ => StH2.mk' hn hrow (StR.set hn hrow rfl) ho hb⟩
  simp only [Nat.reduceAdd, Act.put, List.setIfInBounds_toArray, List.set_cons_zero, List.set_cons_succ]
  refine cb_done rfl (fun W4 hW4 hF hA hS => ?_)
  obtain ⟨b8, s8, e8, n8, r8, o8⟩ := hS.1 (by simp)
  obtain ⟨b9, s9, e9, n9, r9, o9⟩ := hS.2 (by simp)
  obtain ⟨q04, q14, q24, x14⟩ := kr1 W4 hW4
  have x4 := x1.trans x14
  clear hS hA hF kr1 HQ q0 q1 q2 x1 x14 hW4
  simp only [e8, e9]
  clear e8 e9
  have hl8 : (mS x y).f.b.length ≤ 1100 := mS_len hlx hly
  have hl9 : (mS y x).f.b.length ≤ 1100 := mS_len hly hlx
  have hk89 := m_kind x y
  have ho1 := m_one x y
  go_upto_region 5 with fail
  go_cut [68] from 14 (fun s68 wx => s68 = .bool false ∧ Ext W4 wx)
  case first =>
    have c8 : W4.cell? ⟨b8, 0, none⟩ = some (.int .i64 (mS x y).k) := cell_of_row _ _ 0 _ _ _ r8
    have c9 : W4.cell? ⟨b9, 0, none⟩ = some (.int .i64 (mS x y).k) := by rw [hk89]; exact cell_of_row _ _ 0 _ _ _ r9
    have kS1 := refSame_calls (mS x y) x s8 (sa, x.f.b.length, sc) W4 (o8.bys (Nat.le_trans hl8 (by decide))) (HX.out.1.ext x4)
    cases hs1 : sameS (mS x y) x with
    | true =>
      rw [hs1] at kS1
      clear ho1 hk89
      go_wp2_with (first | refine loadStaV r8 (by rfl) rfl rfl ?_ | refine loadStaV q04 (by rfl) rfl rfl ?_)
      refine kS1.mono ?_
      rintro e w5 ⟨rfl, h5⟩
      have d8 := h5.cell c8
      have d9 := h5.cell c9
      clear c8 c9 kS1
      go_wp2_with fail
      go_meet
      exact ⟨rfl, h5⟩
    | false =>
      have hs2 : sameS (mS x y) y = true := by
        rcases ho1 with h | h
        · rw [hs1] at h; cases h
        · exact h
      rw [hs1] at kS1
      clear ho1 hk89
      go_wp2_with (first | refine loadStaV r8 (by rfl) rfl rfl ?_ | refine loadStaV q04 (by rfl) rfl rfl ?_)
      refine kS1.mono ?_
      rintro e w5 ⟨rfl, h5⟩
      have d8 := h5.cell c8
      have d9 := h5.cell c9
      have r8' := h5.block r8
      have q14' := h5.block q14
      have kS2 := refSame_calls (mS x y) y s8 (ta, y.f.b.length, tc) w5 ((o8.ext h5).bys (Nat.le_trans hl8 (by decide))) (HX.out.2.1.ext (x4.trans h5))
      rw [hs2] at kS2
      clear c8 c9 kS1
      go_wp2_with (first | refine loadStaV r8' (by rfl) rfl rfl ?_ | refine loadStaV q14' (by rfl) rfl rfl ?_)
      refine kS2.mono ?_
      rintro e w6 ⟨rfl, h6⟩
      have f8 := h6.cell d8
      have f9 := h6.cell d9
      clear d8 d9 kS2
      go_wp2_with fail
      go_meet
      exact ⟨rfl, h5.trans h6⟩
  case rest =>
  obtain ⟨rfl, hE5⟩ := hcut
  obtain ⟨W5, hW5⟩ : ∃ W5, W5 = wc := ⟨_, rfl⟩
  subst hW5
  clear ho1 hk89
  go_upto_region 8 with fail
  go_cut [11] from 14 (fun s11 wx => ∃ al : Bool, s11 = .bool al ∧ (al = true ∨ sameS (mS x y) (mS y x) = true) ∧ Ext W4 wx)
  case first =>
    have p0 := hE5.block q04
    have p1 := hE5.block q14
    have c0 : W5.cell? ⟨w.heap.size, 0, none⟩ = some (.int .i64 x.k) := cell_of_row _ _ 0 _ _ _ p0
    have c1 : W5.cell? ⟨w.heap.size, 1, none⟩ = some (.int .i64 x.l) := cell_of_row _ _ 1 _ _ _ p0
    have c2 : W5.cell? ⟨w.heap.size + 1, 0, none⟩ = some (.int .i64 y.k) := cell_of_row _ _ 0 _ _ _ p1
    have c3 : W5.cell? ⟨w.heap.size + 1, 1, none⟩ = some (.int .i64 y.l) := cell_of_row _ _ 1 _ _ _ p1
    have hal := m_alike x y
    have hxo : oddB x.l = true ↔ (x.l < 0 ∨ 3 < x.l) := by unfold oddB; simp
    have hyo : oddB y.l = true ↔ (y.l < 0 ∨ 3 < y.l) := by unfold oddB; simp
    have HAL := Lib.hid (And.intro hal (And.intro hxo hyo))
    clear hal hxo hyo
    have kO := fun W => odd_calls x (sa, x.f.b.length, sc) W
    have kP := fun W => odd_calls y (ta, y.f.b.length, tc) W
    have HE := Lib.hid hE5
    clear hE5
    by_cases hk : x.k = y.k
    · have ek : (x.k == y.k) = true := by rw [hk]; simp
      by_cases hl : x.l = y.l
      · have el : (x.l == y.l) = true := by rw [hl]; simp
        clear kO kP
        have HKL := Lib.hid (And.intro hk hl)
        clear hk hl
        go_wp2_with fail
        go_meet
        exact ⟨true, rfl, .inl rfl, HE.out⟩
      have el : (x.l == y.l) = false := beq_eq_false_iff_ne.2 hl
      have HKL := Lib.hid (And.intro hk hl)
      clear hk hl
      cases hox : oddB x.l with
      | false =>
        simp only [hox] at kO
        clear kP
        go_wp2_with (first | refine loadStaV p0 (by rfl) rfl rfl ?_ | refine loadStaV p1 (by rfl) rfl rfl ?_)
        refine (kO _).mono ?_
        rintro e w6 ⟨rfl, h6⟩
        clear c0 c1 c2 c3 kO
        go_wp2_with fail
        go_meet
        exact ⟨false, rfl, .inr (HAL.out.1 (by
          rintro (⟨g1, g2⟩ | ⟨g1, g2⟩)
          · exact HKL.out.2 g2
          · rw [HAL.out.2.1.2 g1] at hox; cases hox)), HE.out.trans h6⟩
      | true =>
        simp only [hox] at kO
        cases hoy : oddB y.l with
        | false =>
          simp only [hoy] at kP
          go_wp2_with (first | refine loadStaV p0 (by rfl) rfl rfl ?_ | refine loadStaV p1 (by rfl) rfl rfl ?_)
          refine (kO _).mono ?_
          rintro e w6 ⟨rfl, h6⟩
          have p1' := h6.block p1
          clear c0 c1 c2 c3 kO
          go_wp2_with (refine loadStaV p1' (by rfl) rfl rfl ?_)
          refine (kP _).mono ?_
          rintro e w7 ⟨rfl, h7⟩
          clear kP
          go_wp2_with fail
          go_meet
          exact ⟨false, rfl, .inr (HAL.out.1 (by
            rintro (⟨g1, g2⟩ | ⟨g1, g2⟩)
            · exact HKL.out.2 g2
            · rw [HAL.out.2.2.2 g2] at hoy; cases hoy)), (HE.out.trans h6).trans h7⟩
        | true =>
          simp only [hoy] at kP
          go_wp2_with (first | refine loadStaV p0 (by rfl) rfl rfl ?_ | refine loadStaV p1 (by rfl) rfl rfl ?_)
          refine (kO _).mono ?_
          rintro e w6 ⟨rfl, h6⟩
          have p1' := h6.block p1
          clear c0 c1 c2 c3 kO
          go_wp2_with (refine loadStaV p1' (by rfl) rfl rfl ?_)
          refine (kP _).mono ?_
          rintro e w7 ⟨rfl, h7⟩
          clear kP
          go_wp2_with fail
          go_meet
          exact ⟨true, rfl, .inl rfl, (HE.out.trans h6).trans h7⟩
    · have ek : (x.k == y.k) = false := beq_eq_false_iff_ne.2 hk
      have HKL := Lib.hid hk
      clear hk
      cases hox : oddB x.l with
      | false =>
        simp only [hox] at kO
        clear kP
        go_wp2_with (first | refine loadStaV p0 (by rfl) rfl rfl ?_ | refine loadStaV p1 (by rfl) rfl rfl ?_)
        refine (kO _).mono ?_
        rintro e w6 ⟨rfl, h6⟩
        clear c0 c1 c2 c3 kO
        go_wp2_with fail
        go_meet
        exact ⟨false, rfl, .inr (HAL.out.1 (by
          rintro (⟨g1, g2⟩ | ⟨g1, g2⟩)
          · exact HKL.out g1
          · rw [HAL.out.2.1.2 g1] at hox; cases hox)), HE.out.trans h6⟩
      | true =>
        simp only [hox] at kO
        cases hoy : oddB y.l with
        | false =>
          simp only [hoy] at kP
          go_wp2_with (first | refine loadStaV p0 (by rfl) rfl rfl ?_ | refine loadStaV p1 (by rfl) rfl rfl ?_)
          refine (kO _).mono ?_
          rintro e w6 ⟨rfl, h6⟩
          have p1' := h6.block p1
          clear c0 c1 c2 c3 kO
          go_wp2_with (refine loadStaV p1' (by rfl) rfl rfl ?_)
          refine (kP _).mono ?_
          rintro e w7 ⟨rfl, h7⟩
          clear kP
          go_wp2_with fail
          go_meet
          exact ⟨false, rfl, .inr (HAL.out.1 (by
            rintro (⟨g1, g2⟩ | ⟨g1, g2⟩)
            · exact HKL.out g1
            · rw [HAL.out.2.2.2 g2] at hoy; cases hoy)), (HE.out.trans h6).trans h7⟩
        | true =>
          simp only [hoy] at kP
          go_wp2_with (first | refine loadStaV p0 (by rfl) rfl rfl ?_ | refine loadStaV p1 (by rfl) rfl rfl ?_)
          refine (kO _).mono ?_
          rintro e w6 ⟨rfl, h6⟩
          have p1' := h6.block p1
          clear c0 c1 c2 c3 kO
          go_wp2_with (refine loadStaV p1' (by rfl) rfl rfl ?_)
          refine (kP _).mono ?_
          rintro e w7 ⟨rfl, h7⟩
          clear kP
          go_wp2_with fail
          go_meet
          exact ⟨true, rfl, .inl rfl, (HE.out.trans h6).trans h7⟩
  case rest =>
  obtain ⟨al, rfl, hal, hE8⟩ := hcut
  obtain ⟨W8, hW8⟩ : ∃ W8, W8 = wc := ⟨_, rfl⟩
  subst hW8
  go_upto_region 9 with fail
  go_cut [98] from 14 (fun s98 wx => s98 = .bool false ∧ Ext W4 wx)
  case first =>
    cases al with
    | true =>
      go_wp2_with fail
      go_meet
      exact ⟨rfl, hE8⟩
    | false =>
      have hs : sameS (mS x y) (mS y x) = true := by
        rcases hal with h | h
        · cases h
        · exact h
      have kS := refSame_calls (mS x y) (mS y x) s8 s9 W8 ((o8.ext hE8).bys (Nat.le_trans hl8 (by decide))) ((o9.ext hE8).bys (Nat.le_trans hl9 (by decide)))
      rw [hs] at kS
      have r8' := hE8.block r8
      have r9' := hE8.block r9
      clear hal
      go_wp2_with (first | refine loadStaV r8' (by rfl) rfl rfl ?_ | refine loadStaV r9' (by rfl) rfl rfl ?_)
      refine kS.mono ?_
      rintro e w6 ⟨rfl, h6⟩
      clear kS
      go_wp2_with fail
      go_meet
      exact ⟨rfl, hE8.trans h6⟩
  case rest =>
  obtain ⟨rfl, hE9⟩ := hcut
  obtain ⟨W9, hW9⟩ : ∃ W9, W9 = wc := ⟨_, rfl⟩
  subst hW9
  have q0 := hE9.block q04
  have q1 := hE9.block q14
  have q2 := hE9.block q24
  have p8 := hE9.block r8
  have y8 := o8.ext hE9
  have x9 := x4.trans hE9
  clear hE5 hE8 hal q04 q14 q24 r8 r9 o8 o9 x4 hE9 hl9
  go_wp2_with fail
  have hl12 : (mS y z).f.b.length ≤ 1100 := mS_len hly hlz
  have hl11 : (mS (mS x y) z).f.b.length ≤ 1100 := mS_len hl8 hlz
  have hl13 : (mS x (mS y z)).f.b.length ≤ 1100 := mS_len hlx hl12
  have kr9 : ∀ W, StR W9.heap.size W9.drew W → W.heap[w.heap.size]? = some (.cells (staC x (slV (sa, x.f.b.length, sc))) TSta) ∧ W.heap[w.heap.size + 1]? = some (.cells (staC y (slV (ta, y.f.b.length, tc))) TSta) ∧ W.heap[w.heap.size + 2]? = some (.cells (staC z (slV (ua, z.f.b.length, uc))) TSta) ∧ Ext W9 W := fun W h => by
    have he : Ext W9 W := Ext.of_drew (h.2.1 (Nat.le_refl _))
    exact ⟨he.block q0, he.block q1, he.block q2, he⟩
  refine wp_region_chainB (StR W9.heap.size) Ext [(2, .unk (StV2 (mS x y)) StV2.keep), (4, .unk (StV2 (mS (mS x y) z)) StV2.keep), (8, .unk (StV2 (mS y z)) StV2.keep), (9, .unk (StV2 (mS x (mS y z))) StV2.keep), (10, .unk (StBox W9.heap.size) StBox.keep), (11, .unk (StBox W9.heap.size) StBox.keep), (12, .known undef), (13, .known undef)] [2, 4, 8, 9, 12, 13] [10, 11] (LiB W9.heap.size 4 10 11 (mS (mS x y) z) (mS x (mS y z)))
    (by kernel_rfl) (by kernel_rfl) (by kernel_rfl) (by kernel_rfl) (fun _ _ h => StR.ext h) (fun _ _ _ _ e h => h.ext e) (fun _ _ h => h.1) ?_ ?_ (StR.refl _) (fun _ _ _ => StR.trans) (fun σ => LiB.low _ _ _ _ _ _ _ _ _ (by simp)) ?_
  · intro i hi
    simp at hi
    rcases hi with rfl | rfl
    · exact ⟨rfl, by decide, fun o ho => by cases ho; exact ⟨_, fun a W => by go_simp; rfl⟩⟩
    · exact ⟨rfl, by decide, fun o ho => by cases ho; exact ⟨_, fun a W => by go_simp; rfl⟩⟩
  · intro σ τ vs W h hS
    refine ⟨fun k => ?_, fun k => ?_⟩
    · rw [← h 10 12 4 rfl (by omega) (by kernel_rfl)]; exact hS.1 k
    · rw [← h 11 13 5 rfl (by omega) (by kernel_rfl)]; exact hS.2 k
  intro σ
  simp only
  refine cb_pure (x := .agg (staC x (slV (sa, x.f.b.length, sc)))) rfl (by rfl) (fun W hW => exec_loadStaE (kr9 W hW).1 rfl rfl) ?_
  simp only [Nat.reduceAdd, Act.put, List.setIfInBounds_toArray, List.set_cons_zero, List.set_cons_succ]
  refine cb_pure (x := .agg (staC y (slV (ta, y.f.b.length, tc)))) rfl (by rfl) (fun W hW => exec_loadStaE (kr9 W hW).2.1 rfl rfl) ?_
  simp only [Nat.reduceAdd, Act.put, List.setIfInBounds_toArray, List.set_cons_zero, List.set_cons_succ]
  refine cb_call' 0 rfl rfl (by decide) rfl (by rfl) (fun W hW hF hA hS => ?_) ?_
  · have he := (kr9 W hW).2.2.2
    have hba := HX.out.1.ext (x9.trans he)
    have hbb := HX.out.2.1.ext (x9.trans he)
    go_simp
    refine (mergeS_calls x y (sa, x.f.b.length, sc) (ta, y.f.b.length, tc) W hba hbb hlx hly).mono ?_
    rintro e W' ⟨sl, rfl, ho, hx⟩
    exact ⟨_, rfl, StR.ext hx, ⟨sl, rfl, ho⟩, LiB.low _ _ _ _ _ _ _ _ _ (by simp)⟩
  simp only [Nat.reduceAdd, Act.put, List.setIfInBounds_toArray, List.set_cons_zero, List.set_cons_succ]
  refine cb_pure (x := .agg (staC z (slV (ua, z.f.b.length, uc)))) rfl (by rfl) (fun W hW => exec_loadStaE (kr9 W hW).2.2.1 rfl rfl) ?_
  simp only [Nat.reduceAdd, Act.put, List.setIfInBounds_toArray, List.set_cons_zero, List.set_cons_succ]
  refine cb_call' 1 rfl rfl (by decide) rfl (by rfl) (fun W hW hF hA hS => ?_) ?_
  · have he := (kr9 W hW).2.2.2
    obtain ⟨sa, ea, oa⟩ := hF 2 _ _ rfl (by kernel_rfl)
    have hba := oa.bys (Nat.le_trans hl8 (by decide))
    have hbb := HX.out.2.2.ext (x9.trans he)
    go_simp
    refine (mergeS_calls (mS x y) z sa (ua, z.f.b.length, uc) W hba hbb hl8 hlz).mono ?_
    rintro e W' ⟨sl, rfl, ho, hx⟩
    exact ⟨_, rfl, StR.ext hx, ⟨sl, rfl, ho⟩, LiB.low _ _ _ _ _ _ _ _ _ (by simp)⟩
  simp only [Nat.reduceAdd, Act.put, List.setIfInBounds_toArray, List.set_cons_zero, List.set_cons_succ]
  refine cb_pure (x := .agg (staC x (slV (sa, x.f.b.length, sc)))) rfl (by rfl) (fun W hW => exec_loadStaE (kr9 W hW).1 rfl rfl) ?_
  simp only [Nat.reduceAdd, Act.put, List.setIfInBounds_toArray, List.set_cons_zero, List.set_cons_succ]
  refine cb_pure (x := .agg (staC y (slV (ta, y.f.b.length, tc)))) rfl (by rfl) (fun W hW => exec_loadStaE (kr9 W hW).2.1 rfl rfl) ?_
  simp only [Nat.reduceAdd, Act.put, List.setIfInBounds_toArray, List.set_cons_zero, List.set_cons_succ]
  refine cb_pure (x := .agg (staC z (slV (ua, z.f.b.length, uc)))) rfl (by rfl) (fun W hW => exec_loadStaE (kr9 W hW).2.2.1 rfl rfl) ?_
  simp only [Nat.reduceAdd, Act.put, List.setIfInBounds_toArray, List.set_cons_zero, List.set_cons_succ]
  refine cb_call' 2 rfl rfl (by decide) rfl (by rfl) (fun W hW hF hA hS => ?_) ?_
  · have he := (kr9 W hW).2.2.2
    have hba := HX.out.2.1.ext (x9.trans he)
    have hbb := HX.out.2.2.ext (x9.trans he)
    go_simp
    refine (mergeS_calls y z (ta, y.f.b.length, tc) (ua, z.f.b.length, uc) W hba hbb hly hlz).mono ?_
    rintro e W' ⟨sl, rfl, ho, hx⟩
    exact ⟨_, rfl, StR.ext hx, ⟨sl, rfl, ho⟩, LiB.low _ _ _ _ _ _ _ _ _ (by simp)⟩
  simp only [Nat.reduceAdd, Act.put, List.setIfInBounds_toArray, List.set_cons_zero, List.set_cons_succ]
  refine cb_call' 3 rfl rfl (by decide) rfl (by rfl) (fun W hW hF hA hS => ?_) ?_
  · have he := (kr9 W hW).2.2.2
    have hba := HX.out.1.ext (x9.trans he)
    obtain ⟨sb, eb, ob⟩ := hF 8 _ _ rfl (by kernel_rfl)
    have hbb := ob.bys (Nat.le_trans hl12 (by decide))
    go_simp
    refine (mergeS_calls x (mS y z) (sa, x.f.b.length, sc) sb W hba hbb hlx hl12).mono ?_
    rintro e W' ⟨sl, rfl, ho, hx⟩
    exact ⟨_, rfl, StR.ext hx, ⟨sl, rfl, ho⟩, LiB.low _ _ _ _ _ _ _ _ _ (by simp)⟩
  simp only [Nat.reduceAdd, Act.put, List.setIfInBounds_toArray, List.set_cons_zero, List.set_cons_succ]
  refine cb_unk rfl (by decide) (by rfl) (fun W hW hF hS => ?_) ?_
  · go_simp; exact ⟨Ext.alloc _ _, _, _, rfl, hW.1, rfl, heap_alloc_new _ _⟩
  simp only [Nat.reduceAdd, Act.put, List.setIfInBounds_toArray, List.set_cons_zero, List.set_cons_succ]
  refine cb_unk rfl (by decide) (by rfl) (fun W hW hF hS => ?_) ?_
  · go_simp; exact ⟨Ext.alloc _ _, _, _, rfl, hW.1, rfl, heap_alloc_new _ _⟩
  simp only [Nat.reduceAdd, Act.put, List.setIfInBounds_toArray, List.set_cons_zero, List.set_cons_succ]
  refine cb_call 4 rfl rfl (by decide) rfl (by rfl) (fun W hW hF hA hS => ?_) ?_
  · obtain ⟨b, c, hb, hn, hc, hrow⟩ := hF 10 _ _ rfl (by kernel_rfl)
    obtain ⟨sl, hsl, ho⟩ := hF 4 _ _ rfl (by kernel_rfl)
    exact eff_storeStaE (m := (mS (mS x y) z)) (sl := sl) hrow hc rfl hb hsl (StR.set hn hrow rfl) ⟨rfl, fun _ => StH2.mk' hn hrow (StR.set hn hrow rfl) ho hb, fun h => absurd h (by simp)⟩
  simp only [Nat.reduceAdd, Act.put, List.setIfInBounds_toArray, List.set_cons_zero, List.set_cons_succ]
  refine cb_call 5 rfl rfl (by decide) rfl (by rfl) (fun W hW hF hA hS => ?_) ?_
  · obtain ⟨b, c, hb, hn, hc, hrow⟩ := hF 11 _ _ rfl (by kernel_rfl)
    obtain ⟨sl, hsl, ho⟩ := hF 9 _ _ rfl (by kernel_rfl)
    have a0 : σ 10 ≠ .pointer (some ⟨b, 0, none⟩) := fun e => hA 10 (by decide) 11 (by decide) (by kernel_rfl) (by kernel_rfl) (by decide) (e.trans hb.symm)
    exact eff_storeStaE (m := (mS x (mS y z))) (sl := sl) hrow hc rfl hb hsl (StR.set hn hrow rfl) ⟨rfl, fun _ => (hS.1 (by simp)).set (StR.set hn hrow rfl) a0, fun _ => StH2.mk' hn hrow (StR.set hn hrow rfl) ho hb⟩
  simp only [Nat.reduceAdd, Act.put, List.setIfInBounds_toArray, List.set_cons_zero, List.set_cons_succ]
  refine cb_done rfl (fun W12 hW12 hF hA hS => ?_)
  obtain ⟨b12, s12, e12, n12, r12, o12⟩ := hS.1 (by simp)
  obtain ⟨b13, s13, e13, n13, r13, o13⟩ := hS.2 (by simp)
  obtain ⟨g0, -, -, x912⟩ := kr9 W12 hW12
  have z8 := x912.block p8
  have u8 := y8.ext x912
  have x12 := x9.trans x912
  clear hS hA hF kr9 q0 q1 q2 x9 x912 hW12 p8 y8
  simp only [e12, e13]
  clear e12 e13
  go_wp2_with fail
  have kr2 : ∀ W, Ext W12.drew W → W.heap[b8]? = some (.cells (staC (mS x y) (slV s8)) TSta) ∧ W.heap[w.heap.size]? = some (.cells (staC x (slV (sa, x.f.b.length, sc))) TSta) ∧ W.heap[b12]? = some (.cells (staC (mS (mS x y) z) (slV s12)) TSta) ∧ W.heap[b13]? = some (.cells (staC (mS x (mS y z)) (slV s13)) TSta) ∧ Ext W12 W := fun W h =>
    ⟨(Ext.of_drew h).block z8, (Ext.of_drew h).block g0, (Ext.of_drew h).block r12, (Ext.of_drew h).block r13, Ext.of_drew h⟩
  have hl14 : (mS (mS x y) x).f.b.length ≤ 1100 := mS_len hl8 hlx
  refine wp_region_rg Ext [(4, .unk (StV2 (mS (mS x y) x)) StV2.ext), (6, .known (.bool true)), (11, .known (.bool true))] (by kernel_rfl) (by kernel_rfl) (by kernel_rfl) Ext.refl (fun _ _ _ => Ext.trans) ?_
  intro σ3
  simp only
  refine rg_pure (x := ?_) rfl (by rfl) (fun W hW => ?_) ?_
  rotate_left
  · go_simp; with_reducible rfl
  simp only [Nat.reduceAdd, Act.put, List.setIfInBounds_toArray, List.set_cons_zero, List.set_cons_succ]
  refine rg_pure (x := ?_) rfl (by rfl) (fun W hW => ?_) ?_
  rotate_left
  · go_simp; with_reducible rfl
  simp only [Nat.reduceAdd, Act.put, List.setIfInBounds_toArray, List.set_cons_zero, List.set_cons_succ]
  refine rg_pure (x := .agg (staC (mS x y) (slV s8))) rfl (by rfl) (fun W hW => exec_loadStaE (kr2 W hW).1 rfl rfl) ?_
  simp only [Nat.reduceAdd, Act.put, List.setIfInBounds_toArray, List.set_cons_zero, List.set_cons_succ]
  refine rg_pure (x := .agg (staC x (slV (sa, x.f.b.length, sc)))) rfl (by rfl) (fun W hW => exec_loadStaE (kr2 W hW).2.1 rfl rfl) ?_
  simp only [Nat.reduceAdd, Act.put, List.setIfInBounds_toArray, List.set_cons_zero, List.set_cons_succ]
  refine rg_unk rfl (by rfl) (fun W hW hF => ?_) ?_
  · have he := (kr2 W hW).2.2.2.2
    go_simp
    refine (mergeS_calls (mS x y) x s8 (sa, x.f.b.length, sc) W ((u8.ext he).bys (Nat.le_trans hl8 (by decide))) (HX.out.1.ext (x12.trans he)) hl8 hlx).mono ?_
    rintro e W' ⟨sl, rfl, ho, hx⟩
    exact ⟨_, rfl, hx, ⟨sl, rfl, ho⟩⟩
  simp only [Nat.reduceAdd, Act.put, List.setIfInBounds_toArray, List.set_cons_zero, List.set_cons_succ]
  refine rg_pure (x := .agg (staC (mS x y) (slV s8))) rfl (by rfl) (fun W hW => exec_loadStaE (kr2 W hW).1 rfl rfl) ?_
  simp only [Nat.reduceAdd, Act.put, List.setIfInBounds_toArray, List.set_cons_zero, List.set_cons_succ]
  refine rg_known rfl (by rfl) (fun W hW hF => ?_) ?_
  · have he := (kr2 W hW).2.2.2.2
    obtain ⟨sl, hsl, ho⟩ := hF 4 _ _ rfl (by kernel_rfl)
    go_simp
    refine (refSame_calls (mS (mS x y) x) (mS x y) sl s8 W (ho.bys (Nat.le_trans hl14 (by decide))) ((u8.ext he).bys (Nat.le_trans hl8 (by decide)))).mono ?_
    rintro e W' ⟨rfl, h⟩
    rw [m_again]
    exact ⟨_, rfl, h, rfl⟩
  simp only [Nat.reduceAdd, Act.put, List.setIfInBounds_toArray, List.set_cons_zero, List.set_cons_succ]
  refine rg_pure (x := ?_) rfl (by rfl) (fun W hW => ?_) ?_
  rotate_left
  · go_simp; with_reducible rfl
  simp only [Nat.reduceAdd, Act.put, List.setIfInBounds_toArray, List.set_cons_zero, List.set_cons_succ]
  refine rg_pure (x := ?_) rfl (by rfl) (fun W hW => ?_) ?_
  rotate_left
  · go_simp; with_reducible rfl
  simp only [Nat.reduceAdd, Act.put, List.setIfInBounds_toArray, List.set_cons_zero, List.set_cons_succ]
  refine rg_pure (x := .agg (staC (mS (mS x y) z) (slV s12))) rfl (by rfl) (fun W hW => exec_loadStaE (kr2 W hW).2.2.1 rfl rfl) ?_
  simp only [Nat.reduceAdd, Act.put, List.setIfInBounds_toArray, List.set_cons_zero, List.set_cons_succ]
  refine rg_pure (x := .agg (staC (mS x (mS y z)) (slV s13))) rfl (by rfl) (fun W hW => exec_loadStaE (kr2 W hW).2.2.2.1 rfl rfl) ?_
  simp only [Nat.reduceAdd, Act.put, List.setIfInBounds_toArray, List.set_cons_zero, List.set_cons_succ]
  refine rg_known rfl (by rfl) (fun W hW hF => ?_) ?_
  · have he := (kr2 W hW).2.2.2.2
    go_simp
    refine (refSame_calls (mS (mS x y) z) (mS x (mS y z)) s12 s13 W ((o12.ext he).bys (Nat.le_trans hl11 (by decide))) ((o13.ext he).bys (Nat.le_trans hl13 (by decide)))).mono ?_
    rintro e W' ⟨rfl, h⟩
    rw [m_assoc]
    exact ⟨_, rfl, h, rfl⟩
  simp only [Nat.reduceAdd, Act.put, List.setIfInBounds_toArray, List.set_cons_zero, List.set_cons_succ]
  repeat (refine rg_pure (x := ?_) rfl (by rfl) (fun W hW => ?_) ?_; rotate_left; (· (go_simp; with_reducible rfl)); simp only [Nat.reduceAdd, Act.put, List.setIfInBounds_toArray, List.set_cons_zero, List.set_cons_succ])
  refine rg_done fun W hW _ => ?_
  have xe := x12.trans (Ext.of_drew hW)
  go_wp2_with fail
  go_ret
  exact ⟨rfl, xe⟩
end Go.Proofs.YtcdaelgnankmfaaGreat.VSta
