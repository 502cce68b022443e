/- A region whose order Go leaves open, proved in the order of the text: each operation is shown to come to its value whatever the operations that need not lie ahead of it have done. No program in sight. -/
import Derived.Orders
import Derived.Laws.World
import Derived.KernelRfl
namespace Go.VRg

/-- 'j' lies ahead of 'i' in every order. -/
inductive Path (ops : Array Oper) : Nat → Nat → Prop
  | one {i j : Nat} {o : Oper} {e : Edge} (hi : ops[i]? = some o) (he : e ∈ o.after) (hb : Region.binds .any e = true) (hj : e.on = j) : Path ops j i
  | more {i j : Nat} {o : Oper} {e : Edge} (hi : ops[i]? = some o) (he : e ∈ o.after) (hb : Region.binds .any e = true) (h : Path ops j e.on) : Path ops j i

theorem Path.trans {ops : Array Oper} {a b c : Nat} (h1 : Path ops a b) (h2 : Path ops b c) : Path ops a c := by
  revert h1
  induction h2 with
  | one hi he hb hj => intro h1; subst hj; exact .more hi he hb h1
  | more hi he hb _ ih => intro h1; exact .more hi he hb (ih h1)

/-- The closure, as masks: of each operation those that lie ahead of it. -/
def masks (ops : Array Oper) : List Nat :=
  ops.toList.foldl (fun acc o => acc ++ [o.after.toList.foldl (fun s e => if Region.binds .any e then (s ||| 2 ^ e.on) ||| acc.getD e.on 0 else s) 0]) []

def ahead (B : List Nat) (j i : Nat) : Bool := (B.getD i 0).testBit j

theorem masks_go (ops : Array Oper) : ∀ (rest : List Oper) (acc : List Nat) (done : List Oper), ops.toList = done ++ rest → acc.length = done.length →
    (∀ i j, (acc.getD i 0).testBit j = true → Path ops j i) →
    ∀ i j, ((rest.foldl (fun acc o => acc ++ [o.after.toList.foldl (fun s e => if Region.binds .any e then (s ||| 2 ^ e.on) ||| acc.getD e.on 0 else s) 0]) acc).getD i 0).testBit j = true → Path ops j i := by
  intro rest
  induction rest with
  | nil => intro acc done _ _ h i j; exact h i j
  | cons o rest ih =>
    intro acc done hd hl h
    refine ih _ (done ++ [o]) (by simp [hd]) (by simp [hl]) ?_
    intro i j hb
    by_cases hi : i < acc.length
    · rw [List.getD_eq_getElem?_getD, List.getElem?_append_left hi, ← List.getD_eq_getElem?_getD] at hb
      exact h i j hb
    · by_cases hi2 : i = acc.length
      · subst hi2
        rw [List.getD_eq_getElem?_getD, List.getElem?_append_right (Nat.le_refl _)] at hb
        simp only [Nat.sub_self, List.getElem?_cons_zero, Option.getD_some] at hb
        have ho : ops[acc.length]? = some o := by
          rw [← Array.getElem?_toList, hd, List.getElem?_append_right (by omega), hl]; simp
        have key : ∀ (es : List Edge) (s : Nat), (∀ e ∈ es, e ∈ o.after) → (s.testBit j = true → Path ops j acc.length) →
            (es.foldl (fun s e => if Region.binds .any e then (s ||| 2 ^ e.on) ||| acc.getD e.on 0 else s) s).testBit j = true → Path ops j acc.length := by
          intro es
          induction es with
          | nil => intro s _ hs h; exact hs h
          | cons e es ihe =>
            intro s hes hs hh
            refine ihe _ (fun e' h' => hes e' (by simp [h'])) ?_ hh
            intro hbit
            by_cases hb : Region.binds .any e = true
            · simp only [hb, if_true, Nat.testBit_or, Bool.or_eq_true] at hbit
              rcases hbit with (h1 | h1) | h1
              · exact hs h1
              · rw [Nat.testBit_two_pow] at h1
                exact .one ho (hes e (by simp)) hb (of_decide_eq_true h1)
              · exact .more ho (hes e (by simp)) hb (h _ _ h1)
            · simp only [hb] at hbit; exact hs hbit
        exact key _ 0 (fun e he => by simpa using he) (by simp) hb
      · rw [List.getD_eq_getElem?_getD, List.getElem?_eq_none (by simp; omega)] at hb
        simp at hb

theorem path_of_ahead {ops : Array Oper} {j i : Nat} (h : ahead (masks ops) j i = true) : Path ops j i :=
  masks_go ops ops.toList [] [] (by simp) rfl (by intro i j h; simp at h) i j h

/-- The region is in the form that the law asks: edges lead back; whoever names a temporary that another one writes is ordered with it; no select, no defer. -/
def plainOp (o : Oper) : Bool := match o.op with | .select .. => false | .defer _ => false | _ => true
def fine (ops : Array Oper) : Bool :=
  let B := masks ops
  let L := ops.toList.zipIdx
  L.all fun (o, i) => plainOp o && (o.after.toList.all fun e => !Region.binds .any e || decide (e.on < i)) &&
    L.all fun (p, k) => match p.dst with
      | none => true
      | some d => k == i || !((o.looksAt ops).contains d || o.dst == some d) || (if k < i then ahead B k i else ahead B i k)

structure Fine (ops : Array Oper) : Prop where
  plain : ∀ (i : Nat) (o : Oper), ops[i]? = some o → plainOp o = true
  back : ∀ (i : Nat) (o : Oper) (e : Edge), ops[i]? = some o → e ∈ o.after → Region.binds .any e = true → e.on < i
  order : ∀ (i : Nat) (o : Oper) (k : Nat) (p : Oper) (d : Tmp), ops[i]? = some o → ops[k]? = some p → p.dst = some d → k ≠ i → (d ∈ o.looksAt ops ∨ o.dst = some d) → (k < i ∧ Path ops k i) ∨ (i < k ∧ Path ops i k)

theorem Fine.of {ops : Array Oper} (h : fine ops = true) : Fine ops := by
  simp only [fine, List.all_eq_true, Bool.and_eq_true] at h
  have hm : ∀ i o, ops[i]? = some o → (o, i) ∈ ops.toList.zipIdx := fun i o hi => by
    rw [List.mk_mem_zipIdx_iff_getElem?, Array.getElem?_toList]; exact hi
  refine ⟨fun i o hi => (h _ (hm i o hi)).1.1, fun i o e hi he hb => ?_, fun i o k p d hi hk hd hne hl => ?_⟩
  · have := (h _ (hm i o hi)).1.2 e (by simpa using he)
    simp only [hb, Bool.not_true, Bool.false_or, decide_eq_true_eq] at this
    exact this
  · have := (h _ (hm i o hi)).2 _ (hm k p hk)
    simp only [hd] at this
    have hl' : ((o.looksAt ops).contains d || o.dst == some d) = true := by
      rcases hl with hl | hl
      · simp [hl]
      · simp [hl]
    rw [hl'] at this
    simp only [Bool.not_true, Bool.or_false, Bool.or_eq_true, beq_iff_eq, hne, false_or] at this
    split at this
    · rename_i hlt; exact .inl ⟨hlt, path_of_ahead this⟩
    · rename_i hlt; exact .inr ⟨by omega, path_of_ahead this⟩

theorem Path.lt {ops : Array Oper} (F : Fine ops) {j i : Nat} (h : Path ops j i) : j < i := by
  induction h with
  | one hi he hb hj => subst hj; exact F.back _ _ _ hi he hb
  | more hi he hb _ ih => exact Nat.lt_trans ih (F.back _ _ _ hi he hb)

/-- Writes, one behind the other. -/
def puts : List (Option Tmp × Value) → Act → Act
  | [], a => a
  | (d, v) :: l, a => puts l (a.put d v)

theorem puts_append (l m : List (Option Tmp × Value)) (a : Act) : puts (l ++ m) a = puts m (puts l a) := by
  induction l generalizing a with
  | nil => rfl
  | cons x l ih => exact ih _

theorem eval_tmp_put (a : Act) (d : Option Tmp) (v : Value) (t : Tmp) (h : d ≠ some t) : (a.put d v).tmps[t]? = a.tmps[t]? := by
  cases d with
  | none => rfl
  | some d => simp only [Act.put]; rw [Array.getElem?_setIfInBounds_ne]; intro e; exact h (by rw [e])

theorem size_put (a : Act) (d : Option Tmp) (v : Value) : (a.put d v).tmps.size = a.tmps.size := by
  cases d <;> simp [Act.put]

theorem eval_tmp_put_same (a : Act) (v : Value) (t : Tmp) : (a.put (some t) v).tmps[t]? = if t < a.tmps.size then some v else none := by
  simp only [Act.put, Array.getElem?_setIfInBounds]; simp

/-- What a temporary holds behind the writes hangs on the writes to it alone. -/
theorem puts_tmp (t : Tmp) : ∀ (l m : List (Option Tmp × Value)) (a b : Act), a.tmps.size = b.tmps.size → a.tmps[t]? = b.tmps[t]? →
    l.filter (fun x => x.1 == some t) = m.filter (fun x => x.1 == some t) → (puts l a).tmps[t]? = (puts m b).tmps[t]? := by
  have drop : ∀ (l : List (Option Tmp × Value)) (a : Act), (puts l a).tmps[t]? = (puts (l.filter (fun x => x.1 == some t)) a).tmps[t]? := by
    intro l
    have gen : ∀ (l : List (Option Tmp × Value)) (a b : Act), a.tmps.size = b.tmps.size → a.tmps[t]? = b.tmps[t]? →
        (puts l a).tmps[t]? = (puts (l.filter (fun x => x.1 == some t)) b).tmps[t]? := by
      intro l
      induction l with
      | nil => intro a b _ h; exact h
      | cons x l ih =>
        intro a b hs h
        obtain ⟨d, v⟩ := x
        by_cases hd : d = some t
        · subst hd
          simp only [List.filter_cons, beq_self_eq_true, if_true, puts]
          exact ih _ _ (by rw [size_put, size_put, hs]) (by rw [eval_tmp_put_same, eval_tmp_put_same, hs])
        · have : (d == some t) = false := by simpa using hd
          simp only [List.filter_cons, this, puts]
          exact ih _ _ (by rw [size_put, hs]) (by rw [eval_tmp_put _ _ _ _ hd, h])
    exact fun a => gen l a a rfl rfl
  intro l m a b hs h he
  rw [drop l a, drop m b, he]
  have gen2 : ∀ (k : List (Option Tmp × Value)) (a b : Act), a.tmps.size = b.tmps.size → a.tmps[t]? = b.tmps[t]? → (puts k a).tmps[t]? = (puts k b).tmps[t]? := by
    intro k
    induction k with
    | nil => intro a b _ h; exact h
    | cons x k ih =>
      intro a b hs h
      obtain ⟨d, v⟩ := x
      refine ih _ _ (by rw [size_put, size_put, hs]) ?_
      by_cases hd : d = some t
      · subst hd; rw [eval_tmp_put_same, eval_tmp_put_same, hs]
      · rw [eval_tmp_put _ _ _ _ hd, eval_tmp_put _ _ _ _ hd, h]
  exact gen2 _ a b hs h

theorem puts_defers (l : List (Option Tmp × Value)) (a : Act) : (puts l a).defers = a.defers := by
  induction l generalizing a with
  | nil => rfl
  | cons x l ih => obtain ⟨d, v⟩ := x; rw [puts, ih]; cases d <;> rfl

/-- A write to what no later write writes may as well come last. -/
theorem puts_last (d : Option Tmp) (v : Value) : ∀ (l : List (Option Tmp × Value)) (a : Act), (∀ x ∈ l, ∀ t, x.1 = some t → d ≠ some t) → puts l (a.put d v) = (puts l a).put d v := by
  intro l
  induction l with
  | nil => intro a _; rfl
  | cons x l ih =>
    intro a h
    obtain ⟨e, u⟩ := x
    show puts l ((a.put d v).put e u) = (puts l (a.put e u)).put d v
    rw [Act.put_comm a v u (fun t ht he => h (e, u) (by simp) t he ht), ih _ (fun x hx => h x (by simp [hx]))]

/-- What is told of the value of an operation with an effect: what it is; or what holds of it, now and later. -/
inductive Kind (R : World → World → Prop) where
  | known (x : Value)
  | unk (p : Value → World → Prop) (hs : ∀ v W W', R W W' → p v W → p v W')
  | last (p : Value → World → Prop)

section
variable (P : Program) (ops : Array Oper) (R N : World → World → Prop) (Ps : List (Nat × Kind R)) (a₀ : Act) (w₀ : World)

def isEff {R : World → World → Prop} (Ps : List (Nat × Kind R)) (k : Nat) : Bool := (Ps.lookup k).isSome
/-- What is asked of the value of an operation with an effect. -/
def postOf {R : World → World → Prop} (Ps : List (Nat × Kind R)) (k : Nat) (v : Value) (w : World) : Prop := match Ps.lookup k with | some (.known x) => v = x | some (.unk p _) => p v w | some (.last p) => p v w | none => True
/-- One of the last kind waits for all others that have an effect. -/
def lastOk {R : World → World → Prop} (Ps : List (Nat × Kind R)) (ops : Array Oper) : Bool :=
  Ps.all fun x => match x.2 with
    | .last _ => Ps.all fun y => y.1 == x.1 || ahead (masks ops) y.1 x.1
    | _ => true
theorem mem_of_lookup {α : Type} : ∀ {l : List (Nat × α)} {k : Nat} {x : α}, l.lookup k = some x → (k, x) ∈ l
  | [], _, _, h => by cases h
  | (j, y) :: l, k, x, h => by
    rw [List.lookup_cons] at h
    by_cases hjk : k = j
    · subst hjk; simp at h; subst h; simp
    · have : (k == j) = false := by simpa using hjk
      rw [this] at h
      exact List.mem_cons_of_mem _ (mem_of_lookup h)
/-- Its value, where it is told; else what the run gives. -/
def effVal {R : World → World → Prop} (Ps : List (Nat × Kind R)) (σ : Nat → Value) (k : Nat) : Value := match Ps.lookup k with | some (.known x) => x | _ => σ k
theorem postOf_stable {R : World → World → Prop} {Ps : List (Nat × Kind R)} {ops : Array Oper} (hL : lastOk Ps ops = true) {k i : Nat} (hi : isEff Ps i = true) (hki : ¬ Path ops i k) (hne : k ≠ i) (v : Value) (W W' : World) (h : R W W') : postOf Ps k v W → postOf Ps k v W' := by
  unfold postOf
  cases hl : Ps.lookup k with
  | none => exact id
  | some p => cases p with
    | known x => exact id
    | unk p hs => exact hs v W W' h
    | last p =>
      exfalso
      unfold lastOk at hL
      rw [List.all_eq_true] at hL
      have h1 := hL _ (mem_of_lookup hl)
      simp only [List.all_eq_true] at h1
      unfold isEff at hi
      obtain ⟨kd, hkd⟩ := Option.isSome_iff_exists.1 hi
      have h2 := h1 _ (mem_of_lookup hkd)
      simp only [Bool.or_eq_true, beq_iff_eq] at h2
      rcases h2 with h2 | h2
      · exact hne h2.symm
      · exact hki (path_of_ahead h2)
theorem effVal_of_post {R : World → World → Prop} {Ps : List (Nat × Kind R)} {k : Nat} {v : Value} {W : World} (h : postOf Ps k v W) (he : isEff Ps k = true) (σ : Nat → Value) (hσ : σ k = v) : effVal Ps σ k = v := by
  unfold postOf at h
  unfold effVal
  unfold isEff at he
  cases hl : Ps.lookup k with
  | none => rw [hl] at he; cases he
  | some p => rw [hl] at h; cases p with
    | known x => exact h.symm
    | unk p hs => exact hσ
    | last p => exact hσ
theorem effVal_congr {R : World → World → Prop} {Ps : List (Nat × Kind R)} {k : Nat} {σ τ : Nat → Value} (h : σ k = τ k) : effVal Ps σ k = effVal Ps τ k := by
  unfold effVal; split <;> first | rfl | exact h

def want (ops : Array Oper) (o : Oper) (a : Act) : Bool := Region.wanted o (yielded ops a.tmps)

def pureVal (o : Oper) (a : Act) : Value :=
  if want ops o a then (match (execOp a.eval o).run P w₀ with | .ok (.value x) _ => x | _ => undef) else undef

/-- The frame ahead of operation k, and k's value, where the operations with an effect have come to 'σ'. -/
def fr (σ : Nat → Value) : Nat → Act
  | 0 => a₀
  | k + 1 => match ops[k]? with
    | some o => (fr σ k).put o.dst (if isEff Ps k then effVal Ps σ k else pureVal P ops w₀ o (fr σ k))
    | none => fr σ k
def val (σ : Nat → Value) (k : Nat) : Value := match ops[k]? with
  | some o => if isEff Ps k then effVal Ps σ k else pureVal P ops w₀ o (fr P ops R Ps a₀ w₀ σ k)
  | none => undef

/-- An operation that comes to one value in every world beyond the first, and leaves it. -/
def PureOb (o : Oper) (a : Act) (x : Value) : Prop :=
  (want ops o a = true ∧ ∀ W, R w₀ W → (execOp a.eval o).run P W = .ok (.value x) W) ∨ (want ops o a = false ∧ x = undef)

/-- An operation with an effect. -/
def EffOut (p : Value → World → Prop) (W : World) : Result Next → Prop
  | .ok (.value v) W' => R W W' ∧ p v W'
  | .ok .skip W' => R W W' ∧ p undef W'
  | .ok (.enter f args) W1 => Calls P f args W1 fun e W' => ∃ v, e = .returned v ∧ R W W' ∧ p v W'
  | _ => False
def isLast {R : World → World → Prop} (Ps : List (Nat × Kind R)) (k : Nat) : Bool := match Ps.lookup k with | some (.last _) => true | _ => false
def EffOb (σ : Nat → Value) (k : Nat) (o : Oper) (a : Act) : Prop :=
  ∀ W, N w₀ W → (∀ j, isEff Ps j = true → Path ops j k → postOf Ps j (effVal Ps σ j) W) →
    want ops o a = true ∧ EffOut P (if isLast Ps k then R else N) (postOf Ps k) W ((execOp a.eval o).run P W)

/-- The obligations, in the order of the text. -/
def RG (Q : Exit → Act → World → Prop) (σ : Nat → Value) : List Oper → Nat → Act → Prop
  | [], _, a => ∀ W, R w₀ W → (∀ j, isEff Ps j = true → j < ops.size → postOf Ps j (effVal Ps σ j) W) → Q .normal a W
  | o :: rest, k, a =>
    if isEff Ps k = true then EffOb P ops R N Ps w₀ σ k o a ∧ RG Q σ rest (k + 1) (a.put o.dst (effVal Ps σ k))
    else ∃ x, PureOb P ops R w₀ o a x ∧ RG Q σ rest (k + 1) (a.put o.dst x)
end

section
variable {P : Program} {ops : Array Oper} {R N : World → World → Prop} {Ps : List (Nat × Kind R)} {a₀ : Act} {w₀ : World}

theorem fr_succ (σ : Nat → Value) {k : Nat} {o : Oper} (h : ops[k]? = some o) : fr P ops R Ps a₀ w₀ σ (k + 1) = (fr P ops R Ps a₀ w₀ σ k).put o.dst (val P ops R Ps a₀ w₀ σ k) := by
  simp only [fr, val, h]

theorem PureOb.val_eq {o : Oper} {a : Act} {x : Value} (hr : R w₀ w₀) (h : PureOb P ops R w₀ o a x) : pureVal P ops w₀ o a = x := by
  unfold pureVal
  rcases h with ⟨h1, h2⟩ | ⟨h1, h2⟩
  · rw [h1, h2 w₀ hr]; rfl
  · rw [h1, h2]; rfl

/-- What the obligations give at each operation. -/
theorem RG.at {Q : Exit → Act → World → Prop} (hr : R w₀ w₀) (σ : Nat → Value) : ∀ (rest : List Oper) (k : Nat), ops.toList.drop k = rest → RG P ops R N Ps w₀ Q σ rest k (fr P ops R Ps a₀ w₀ σ k) →
    (∀ i o, k ≤ i → ops[i]? = some o →
      (isEff Ps i = true → EffOb P ops R N Ps w₀ σ i o (fr P ops R Ps a₀ w₀ σ i)) ∧
      (isEff Ps i = false → PureOb P ops R w₀ o (fr P ops R Ps a₀ w₀ σ i) (val P ops R Ps a₀ w₀ σ i))) ∧
    (∀ W, R w₀ W → (∀ j, isEff Ps j = true → j < ops.size → postOf Ps j (effVal Ps σ j) W) → Q .normal (fr P ops R Ps a₀ w₀ σ ops.size) W) := by
  intro rest
  induction rest with
  | nil =>
    intro k hk h
    have hsz : ops.size ≤ k := by
      have := congrArg List.length hk
      simp at this; omega
    have hfr : ∀ m, fr P ops R Ps a₀ w₀ σ (ops.size + m) = fr P ops R Ps a₀ w₀ σ ops.size := by
      intro m
      induction m with
      | zero => rfl
      | succ m ih =>
        show fr P ops R Ps a₀ w₀ σ ((ops.size + m) + 1) = _
        rw [← ih]
        simp only [fr]
        rw [Array.getElem?_eq_none (by omega)]
    refine ⟨fun i o hi ho => ?_, ?_⟩
    · rw [Array.getElem?_eq_none (by omega)] at ho; cases ho
    · have e : k = ops.size + (k - ops.size) := by omega
      rw [e, hfr] at h
      exact h
  | cons o rest ih =>
    intro k hk h
    have ho : ops[k]? = some o := by
      rw [← Array.getElem?_toList]
      have := congrArg (fun l => l[0]?) hk
      simpa using this
    have hdrop : ops.toList.drop (k + 1) = rest := by
      rw [← List.drop_drop, hk]; rfl
    have hval : ∀ x, val P ops R Ps a₀ w₀ σ k = x → RG P ops R N Ps w₀ Q σ rest (k + 1) ((fr P ops R Ps a₀ w₀ σ k).put o.dst x) → RG P ops R N Ps w₀ Q σ rest (k + 1) (fr P ops R Ps a₀ w₀ σ (k + 1)) := by
      intro x hx hh; rw [fr_succ σ ho, hx]; exact hh
    unfold RG at h
    by_cases he : isEff Ps k = true
    · rw [if_pos he] at h
      have hv : val P ops R Ps a₀ w₀ σ k = effVal Ps σ k := by simp only [val, ho, he, if_true]
      obtain ⟨h1, h2⟩ := ih (k + 1) hdrop (hval _ hv h.2)
      refine ⟨fun i oi hi hoi => ?_, h2⟩
      by_cases hik : i = k
      · subst hik
        rw [ho] at hoi; cases hoi
        exact ⟨fun _ => h.1, fun hf => by rw [he] at hf; cases hf⟩
      · exact h1 i oi (by omega) hoi
    · rw [if_neg he] at h
      obtain ⟨x, hp, hrest⟩ := h
      have hv : val P ops R Ps a₀ w₀ σ k = x := by
        simp only [val, ho, if_neg he]; exact hp.val_eq hr
      obtain ⟨h1, h2⟩ := ih (k + 1) hdrop (hval _ hv hrest)
      refine ⟨fun i oi hi hoi => ?_, h2⟩
      by_cases hik : i = k
      · subst hik
        rw [ho] at hoi; cases hoi
        exact ⟨fun ht => absurd ht he, fun _ => by rw [hv]; exact hp⟩
      · exact h1 i oi (by omega) hoi

/-- The writes of the first k operations. -/
def wr (v : Nat → Value) (k : Nat) (sel : Nat → Bool) (ops : Array Oper) : List (Option Tmp × Value) :=
  ((ops.toList.take k).zipIdx.filter fun x => sel x.2).map fun x => (x.1.dst, v x.2)

theorem wr_succ (v : Nat → Value) (sel : Nat → Bool) {k : Nat} {o : Oper} (h : ops[k]? = some o) :
    wr v (k + 1) sel ops = wr v k sel ops ++ (if sel k then [(o.dst, v k)] else []) := by
  unfold wr
  have hl : ops.toList[k]? = some o := by rw [Array.getElem?_toList]; exact h
  have hk : k < ops.toList.length := (List.getElem?_eq_some_iff.1 hl).1
  rw [List.take_add_one, hl, Option.toList_some, List.zipIdx_append, List.filter_append, List.map_append]
  congr 1
  have : (ops.toList.take k).length = k := by rw [List.length_take]; omega
  rw [this]
  by_cases hs : sel k = true <;> simp [hs]

theorem fr_puts (σ : Nat → Value) : ∀ k, k ≤ ops.size → fr P ops R Ps a₀ w₀ σ k = puts (wr (val P ops R Ps a₀ w₀ σ) k (fun _ => true) ops) a₀ := by
  intro k
  induction k with
  | zero => intro _; simp [fr, wr, puts]
  | succ k ih =>
    intro hk
    have ho : ops[k]? = some ops[k] := by simp
    rw [fr_succ σ ho, ih (by omega), wr_succ _ _ ho, if_pos rfl, puts_append]; rfl

theorem mem_wr {v : Nat → Value} {k : Nat} {sel : Nat → Bool} {x : Option Tmp × Value} (h : x ∈ wr v k sel ops) : ∃ i o, i < k ∧ ops[i]? = some o ∧ sel i = true ∧ x = (o.dst, v i) := by
  unfold wr at h
  obtain ⟨y, hy, rfl⟩ := List.mem_map.1 h
  obtain ⟨hy1, hy2⟩ := List.mem_filter.1 hy
  obtain ⟨o, i⟩ := y
  rw [List.mk_mem_zipIdx_iff_getElem?] at hy1
  have hi : i < k := by
    have := (List.getElem?_eq_some_iff.1 hy1).1
    rw [List.length_take] at this; omega
  refine ⟨i, o, hi, ?_, hy2, rfl⟩
  rw [List.getElem?_take_of_lt hi, Array.getElem?_toList] at hy1
  exact hy1

/-- Two lists of writes that tell the same of one temporary. -/
theorem wr_filter {v v' : Nat → Value} {sel sel' : Nat → Bool} (t : Tmp) {k : Nat} : ∀ m, k ≤ m → m ≤ ops.size →
    (∀ i o, i < k → ops[i]? = some o → o.dst = some t → sel i = sel' i ∧ (sel i = true → v i = v' i)) →
    (∀ i o, k ≤ i → i < m → ops[i]? = some o → o.dst = some t → sel' i = false) →
    (wr v k sel ops).filter (fun x => x.1 == some t) = (wr v' m sel' ops).filter (fun x => x.1 == some t) := by
  intro m
  induction m with
  | zero =>
    intro hkm _ _ _
    obtain rfl : k = 0 := by omega
    simp [wr]
  | succ m ih =>
    intro hkm hm h1 h2
    have ho : ops[m]? = some ops[m] := by simp
    rw [wr_succ v' sel' ho, List.filter_append]
    by_cases hk : k = m + 1
    · subst hk
      rw [wr_succ v sel ho, List.filter_append]
      congr 1
      · clear ih
        have aux : ∀ n, n ≤ m → (wr v n sel ops).filter (fun x => x.1 == some t) = (wr v' n sel' ops).filter (fun x => x.1 == some t) := by
          intro n
          induction n with
          | zero => intro _; simp [wr]
          | succ n ihn =>
            intro hn
            have hon : ops[n]? = some ops[n] := by simp
            rw [wr_succ v sel hon, wr_succ v' sel' hon, List.filter_append, List.filter_append, ihn (by omega)]
            congr 1
            by_cases hd : ops[n].dst = some t
            · obtain ⟨a1, a2⟩ := h1 n _ (by omega) hon hd
              rw [← a1]
              by_cases hs : sel n = true
              · simp [hs, a2 hs]
              · simp [hs]
            · have : (ops[n].dst == some t) = false := by simpa using hd
              split <;> split <;> simp [this]
        exact aux m (Nat.le_refl _)
      · by_cases hd : ops[m].dst = some t
        · obtain ⟨a1, a2⟩ := h1 m _ (by omega) ho hd
          rw [← a1]
          by_cases hs : sel m = true
          · simp [hs, a2 hs]
          · simp [hs]
        · have : (ops[m].dst == some t) = false := by simpa using hd
          split <;> split <;> simp [this]
    · rw [ih (by omega) (by omega) h1 (fun i o a b c d => h2 i o a (by omega) c d)]
      have : (if sel' m then [(ops[m].dst, v' m)] else []).filter (fun x => x.1 == some t) = [] := by
        by_cases hd : ops[m].dst = some t
        · rw [h2 m _ (by omega) (by omega) ho hd]; rfl
        · have : (ops[m].dst == some t) = false := by simpa using hd
          split <;> simp [this]
      rw [this, List.append_nil]

theorem puts_size (l : List (Option Tmp × Value)) (a : Act) : (puts l a).tmps.size = a.tmps.size := by
  induction l generalizing a with
  | nil => rfl
  | cons x l ih => obtain ⟨d, v⟩ := x; rw [puts, ih, size_put]

theorem eval_of_tmps {a b : Act} {x : Operand} (h : ∀ t, x = .tmp t → a.tmps[t]? = b.tmps[t]?) : a.eval x = b.eval x := by
  cases x with
  | tmp t => simp only [Act.eval, Array.getD_eq_getD_getElem?, h t rfl]
  | _ => rfl

theorem plain_noSelect {o : Oper} (h : plainOp o = true) : ∀ cs b, o.op ≠ .select cs b := by
  intro cs b e; simp [plainOp, e] at h

/-- Frames that agree on what an operation looks at run it alike. -/
theorem exec_agree {o : Oper} (hp : plainOp o = true) {a b : Act} (h : ∀ t, t ∈ o.looksAt ops → a.tmps[t]? = b.tmps[t]?) : execOp a.eval o = execOp b.eval o := by
  refine execOp_congr o (plain_noSelect hp) fun x hx => eval_of_tmps fun t ht => h t ?_
  subst ht
  exact List.mem_append_left _ (List.mem_filterMap.2 ⟨.tmp t, by simpa using hx, rfl⟩)

theorem want_agree {o : Oper} {a b : Act} (h : ∀ t, t ∈ o.looksAt ops → a.tmps[t]? = b.tmps[t]?) : want ops o a = want ops o b := by
  unfold want Region.wanted
  cases hg : o.guard with
  | none => rfl
  | some gw =>
    obtain ⟨g, want⟩ := gw
    have hy : yielded ops a.tmps g = yielded ops b.tmps g := by
      unfold yielded
      cases ht : (ops[g]?).bind (·.dst) with
      | none => rfl
      | some t =>
        have := h t (by unfold Oper.looksAt; rw [hg]; simp [ht])
        simp only [Option.bind_some, this]
    simp only [hy]

/-- A value hangs on what lies ahead alone. -/
theorem val_agree (F : Fine ops) {σ τ : Nat → Value} : ∀ (k : Nat), (∀ j, isEff Ps j = true → (j = k ∨ Path ops j k) → σ j = τ j) → val P ops R Ps a₀ w₀ σ k = val P ops R Ps a₀ w₀ τ k := by
  intro k
  induction k using Nat.strongRecOn with
  | _ k ih =>
    intro h
    unfold val
    cases ho : ops[k]? with
    | none => rfl
    | some o =>
      dsimp only
      by_cases he : isEff Ps k = true
      · rw [if_pos he, if_pos he]; exact effVal_congr (h k he (.inl rfl))
      · rw [if_neg he, if_neg he]
        have hk : k < ops.size := (Array.getElem?_eq_some_iff.1 ho).1
        have hag : ∀ t, t ∈ o.looksAt ops → (fr P ops R Ps a₀ w₀ σ k).tmps[t]? = (fr P ops R Ps a₀ w₀ τ k).tmps[t]? := by
          intro t ht
          rw [fr_puts σ k (by omega), fr_puts τ k (by omega)]
          refine puts_tmp t _ _ _ _ rfl rfl (wr_filter t k (Nat.le_refl _) (by omega) ?_ (fun i _ h1 h2 => absurd h1 (by omega)))
          intro i oi hi hoi hd
          refine ⟨rfl, fun _ => ih i hi ?_⟩
          rcases F.order k o i oi t ho hoi hd (by omega) (.inl ht) with ⟨_, hp⟩ | ⟨hlt, _⟩
          · intro j hj hjp
            refine h j hj (.inr ?_)
            rcases hjp with rfl | hjp
            · exact hp
            · exact hjp.trans hp
          · omega
        unfold pureVal
        rw [want_agree hag, exec_agree (F.plain k o ho) hag]

/-- The run's state: 'listed' have come up; the frame holds their values; of those with an effect all that was promised holds. -/
structure Inv (P : Program) (ops : Array Oper) (R N : World → World → Prop) (Ps : List (Nat × Kind R)) (a₀ : Act) (w₀ : World) (listed : Array Bool) (σ : Nat → Value) (a : Act) (W : World) : Prop where
  far : R w₀ W
  near : (∀ k, isLast Ps k = true → listed.getD k false = false) → N w₀ W
  size : listed.size = ops.size
  closed : ∀ i o e, listed.getD i false = true → ops[i]? = some o → e ∈ o.after → Region.binds .any e = true → listed.getD e.on false = true
  frame : a = puts (wr (val P ops R Ps a₀ w₀ σ) ops.size (fun i => listed.getD i false) ops) a₀
  post : ∀ j, isEff Ps j = true → listed.getD j false = true → postOf Ps j (effVal Ps σ j) W

theorem Inv.path {listed : Array Bool} {σ : Nat → Value} {a : Act} {W : World} (I : Inv P ops R N Ps a₀ w₀ listed σ a W) {j i : Nat} (h : Path ops j i) : listed.getD i false = true → listed.getD j false = true := by
  induction h with
  | one hi he hb hj => subst hj; exact fun hl => I.closed _ _ _ hl hi he hb
  | more hi he hb _ ih => exact fun hl => ih (I.closed _ _ _ hl hi he hb)

theorem wr_congr {v v' : Nat → Value} {sel sel' : Nat → Bool} : ∀ k, k ≤ ops.size → (∀ i, i < k → sel i = sel' i ∧ (sel i = true → v i = v' i)) → wr v k sel ops = wr v' k sel' ops := by
  intro k
  induction k with
  | zero => intro _ _; simp [wr]
  | succ k ih =>
    intro hk h
    have ho : ops[k]? = some ops[k] := by simp
    rw [wr_succ v sel ho, wr_succ v' sel' ho, ih (by omega) (fun i hi => h i (by omega))]
    obtain ⟨h1, h2⟩ := h k (by omega)
    rw [← h1]
    by_cases hs : sel k = true
    · simp [hs, h2 hs]
    · simp [hs]

/-- One more has come up. -/
theorem wr_insert {v : Nat → Value} {sel sel' : Nat → Bool} {i : Nat} {o : Oper} (hi : ops[i]? = some o) (hn : sel i = false) (hy : sel' i = true) (hs : ∀ k, k ≠ i → sel' k = sel k) (a : Act)
    (hlate : ∀ k p d, i < k → ops[k]? = some p → sel k = true → p.dst = some d → o.dst ≠ some d) :
    ∀ k, i < k → k ≤ ops.size → puts (wr v k sel' ops) a = (puts (wr v k sel ops) a).put o.dst (v i) := by
  intro k
  induction k with
  | zero => intro h; omega
  | succ k ih =>
    intro hik hk
    have ho : ops[k]? = some ops[k] := by simp
    rw [wr_succ v sel' ho, wr_succ v sel ho, puts_append, puts_append]
    by_cases hki : k = i
    · subst hki
      rw [ho] at hi; cases hi
      rw [hn, hy]
      have : wr v k sel' ops = wr v k sel ops := wr_congr k (by omega) fun j hj => ⟨hs j (by omega), fun _ => rfl⟩
      rw [this]; rfl
    · rw [ih (by omega) (by omega), hs k hki]
      by_cases hsk : sel k = true
      · rw [if_pos hsk]
        show ((puts _ a).put o.dst (v i)).put _ _ = ((puts _ a).put _ _).put _ _
        exact Act.put_comm _ _ _ fun d hd he => hlate k _ d (by omega) ho hsk he hd
      · rw [if_neg hsk]; rfl

theorem Inv.step (F : Fine ops) (hL : lastOk Ps ops = true) (hsub : ∀ a b, N a b → R a b) (hntr : ∀ a b c, N a b → N b c → N a c) (htr : ∀ a b c, R a b → R b c → R a c)
    {listed : Array Bool} {σ : Nat → Value} {a : Act} {W W' : World} (I : Inv P ops R N Ps a₀ w₀ listed σ a W) {i : Nat} {o : Oper} (hi : ops[i]? = some o) (hr : i ∈ Region.ready .any ops listed)
    {τ : Nat → Value} (hτ : ∀ j, j ≠ i → τ j = σ j) (hR₀ : (if isLast Ps i then R else N) W W') (hp : isEff Ps i = true → postOf Ps i (effVal Ps τ i) W') (hsame : isEff Ps i = false → W' = W) :
    Inv P ops R N Ps a₀ w₀ (listed.setIfInBounds i true) τ (a.put o.dst (val P ops R Ps a₀ w₀ τ i)) W' := by
  have hlt : i < ops.size := (Array.getElem?_eq_some_iff.1 hi).1
  obtain ⟨hun, o', ho', hall⟩ := mem_ready.1 hr
  rw [hi] at ho'; cases ho'
  have hunf : listed.getD i false = false := by
    have h1 : i < listed.size := by rw [I.size]; exact hlt
    simpa [h1] using hun
  have hset : ∀ k, k ≠ i → (listed.setIfInBounds i true).getD k false = listed.getD k false := fun k hk => getD_set_ne false (Ne.symm hk)
  have hseti : (listed.setIfInBounds i true).getD i false = true := by
    have h1 : i < listed.size := by rw [I.size]; exact hlt
    simp [h1]
  have hR : R W W' := by
    by_cases hl : isLast Ps i = true
    · rw [if_pos hl] at hR₀; exact hR₀
    · rw [if_neg hl] at hR₀; exact hsub _ _ hR₀
  refine ⟨htr _ _ _ I.far hR, fun hno => ?_, by simp [I.size], ?_, ?_, ?_⟩
  · have hl : ¬ isLast Ps i = true := fun hl => by have := hno i hl; rw [hseti] at this; cases this
    rw [if_neg hl] at hR₀
    refine hntr _ _ _ (I.near fun k hk => ?_) hR₀
    have hki : k ≠ i := fun e => hl (e ▸ hk)
    have := hno k hk
    rw [hset k hki] at this
    exact this
  · intro k ok e hk hok he hb
    by_cases hki : k = i
    · subst hki; rw [hi] at hok; cases hok
      exact getD_set_true (hall e he hb)
    · rw [hset k hki] at hk
      exact getD_set_true (I.closed k ok e hk hok he hb)
  · have hvals : ∀ k, listed.getD k false = true → val P ops R Ps a₀ w₀ τ k = val P ops R Ps a₀ w₀ σ k := by
      intro k hk
      refine val_agree F k fun j _ hj => hτ j ?_
      intro hji
      subst hji
      rcases hj with rfl | hj
      · rw [hunf] at hk; cases hk
      · have := I.path hj hk; rw [hunf] at this; cases this
    rw [wr_insert (sel := fun k => listed.getD k false) hi hunf hseti (fun k hk => hset k hk) a₀ ?_ ops.size hlt (Nat.le_refl _)]
    · rw [I.frame]
      congr 2
      exact wr_congr _ (Nat.le_refl _) fun k _ => ⟨rfl, fun hk => (hvals k hk).symm⟩
    · intro k p d hik hk hsel hd hod
      rcases F.order i o k p d hi hk hd (by omega) (.inr hod) with ⟨h1, _⟩ | ⟨_, hpath⟩
      · omega
      · have := I.path hpath hsel; rw [hunf] at this; cases this
  · intro j hj hl
    by_cases hji : j = i
    · subst hji; exact hp hj
    · rw [hset j hji] at hl
      rw [effVal_congr (hτ j hji)]
      cases he : isEff Ps i with
      | false => rw [hsame he]; exact I.post j hj hl
      | true =>
        refine postOf_stable hL he (fun hp => ?_) hji _ _ _ hR (I.post j hj hl)
        have := I.path hp hl
        rw [hunf] at this; cases this

/-- The frame of the run agrees with the text's on what is looked at. -/
theorem Inv.agree (F : Fine ops) {listed : Array Bool} {σ : Nat → Value} {a : Act} {W : World} (I : Inv P ops R N Ps a₀ w₀ listed σ a W) {i : Nat} {o : Oper} (hi : ops[i]? = some o) (hr : i ∈ Region.ready .any ops listed) :
    ∀ t, t ∈ o.looksAt ops → (fr P ops R Ps a₀ w₀ σ i).tmps[t]? = a.tmps[t]? := by
  intro t ht
  have hlt : i < ops.size := (Array.getElem?_eq_some_iff.1 hi).1
  obtain ⟨hun, o', ho', hall⟩ := mem_ready.1 hr
  rw [hi] at ho'; cases ho'
  have hunf : listed.getD i false = false := by
    have h1 : i < listed.size := by rw [I.size]; exact hlt
    simpa [h1] using hun
  have hpl : ∀ k, Path ops k i → listed.getD k false = true := by
    intro k hk
    cases hk with
    | one h1 he hb hj => rw [hi] at h1; cases h1; subst hj; exact hall _ he hb
    | more h1 he hb h => rw [hi] at h1; cases h1; exact I.path h (hall _ he hb)
  rw [fr_puts σ i (by omega), I.frame]
  refine puts_tmp t _ _ _ _ rfl rfl (wr_filter t ops.size (by omega) (Nat.le_refl _) ?_ ?_)
  · intro k p hk hp hd
    rcases F.order i o k p t hi hp hd (by omega) (.inl ht) with ⟨_, hpath⟩ | ⟨h1, _⟩
    · exact ⟨(hpl k hpath).symm, fun _ => rfl⟩
    · omega
  · intro k p hk _ hp hd
    by_cases hki : k = i
    · subst hki; exact hunf
    · rcases F.order i o k p t hi hp hd hki (.inl ht) with ⟨h1, _⟩ | ⟨_, hpath⟩
      · omega
      · cases hl : listed.getD k false with
        | false => rfl
        | true => have := I.path hpath hl; rw [hunf] at this; cases this

theorem path_of_last {Ps : List (Nat × Kind R)} (hL : lastOk Ps ops = true) {k i : Nat} (hk : isLast Ps k = true) (hi : isEff Ps i = true) (hne : i ≠ k) : Path ops i k := by
  unfold isLast at hk
  cases hl : Ps.lookup k with
  | none => rw [hl] at hk; cases hk
  | some kd =>
    rw [hl] at hk
    cases kd with
    | known x => cases hk
    | unk p hs => cases hk
    | last p =>
      unfold lastOk at hL
      rw [List.all_eq_true] at hL
      have h1 := hL _ (mem_of_lookup hl)
      simp only [List.all_eq_true] at h1
      unfold isEff at hi
      obtain ⟨kd', hkd⟩ := Option.isSome_iff_exists.1 hi
      have h2 := h1 _ (mem_of_lookup hkd)
      simp only [Bool.or_eq_true, beq_iff_eq] at h2
      rcases h2 with h2 | h2
      · exact absurd h2 hne
      · exact path_of_ahead h2

theorem effOut_upon {o : Oper} {a : Act} {K : Act → World → Prop} {Q : Exit → Act → World → Prop} {p : Value → World → Prop} {W : World} {r : Result Next} (h : EffOut P R p W r)
    (hK : ∀ v W', R W W' → p v W' → K (a.put o.dst v) W') : o.upon P a K Q r := by
  cases r with
  | halt x w => exact h.elim
  | ok n w' =>
    cases n <;> simp only [EffOut] at h
    case value v => exact hK v w' h.1 h.2
    case skip => exact hK undef w' h.1 h.2
    case enter f args =>
      refine Calls.mono h fun e W' ⟨v, he, h1, h2⟩ => ?_
      subst he
      exact hK v W' h1 h2

theorem run_any (F : Fine ops) (hL : lastOk Ps ops = true) (hsub : ∀ a b, N a b → R a b) (hnrefl : ∀ W, N W W) (hntr : ∀ a b c, N a b → N b c → N a c) (hrefl : ∀ W, R W W) (htr : ∀ a b c, R a b → R b c → R a c) {Q : Exit → Act → World → Prop}
    (H : ∀ σ, RG P ops R N Ps w₀ Q σ ops.toList 0 a₀) : ∀ (fuel : Nat) (listed : Array Bool) (σ : Nat → Value) (a : Act) (W : World),
      ((List.range ops.size).filter fun i => !listed.getD i false).length ≤ fuel → Inv P ops R N Ps a₀ w₀ listed σ a W → wpAny P .any ops Q fuel listed a W := by
  have hdone : ∀ (listed : Array Bool) (σ : Nat → Value) (a : Act) (W : World), Inv P ops R N Ps a₀ w₀ listed σ a W → Region.ready .any ops listed = [] → Q .normal a W := by
    intro listed σ a W I hnone
    have hall : ∀ i, i < ops.size → listed.getD i false = true := by
      intro i
      induction i using Nat.strongRecOn with
      | _ i ih =>
        intro hi
        cases hl : listed.getD i false with
        | true => rfl
        | false =>
          have ho : ops[i]? = some ops[i] := by simp
          have hmem : i ∈ Region.ready .any ops listed := by
            rw [mem_ready]
            refine ⟨?_, _, ho, fun e he hb => ?_⟩
            · have h1 : i < listed.size := by rw [I.size]; exact hi
              simpa [h1] using hl
            · have := F.back _ _ _ ho he hb
              exact ih _ this (by omega)
          rw [hnone] at hmem; cases hmem
    have h2 := (RG.at (hrefl w₀) σ ops.toList 0 rfl (H σ)).2 W I.far (fun j hj hlt => I.post j hj (hall j hlt))
    rw [fr_puts σ ops.size (Nat.le_refl _)] at h2
    rw [I.frame]
    have : wr (val P ops R Ps a₀ w₀ σ) ops.size (fun i => listed.getD i false) ops = wr (val P ops R Ps a₀ w₀ σ) ops.size (fun _ => true) ops :=
      wr_congr _ (Nat.le_refl _) fun i hi => ⟨hall i hi, fun _ => rfl⟩
    rw [this]; exact h2
  intro fuel
  induction fuel with
  | zero =>
    intro listed σ a W hf I
    have hnone : Region.ready .any ops listed = [] := by
      apply List.eq_nil_iff_forall_not_mem.2
      intro i hi
      obtain ⟨hun, o, ho, _⟩ := mem_ready.1 hi
      have hlt : i < ops.size := (Array.getElem?_eq_some_iff.1 ho).1
      have : i ∈ (List.range ops.size).filter fun i => !listed.getD i false := by
        rw [List.mem_filter, List.mem_range]
        refine ⟨hlt, ?_⟩
        have h1 : i < listed.size := by rw [I.size]; exact hlt
        have : listed.getD i false = false := by simpa [h1] using hun
        rw [this]; rfl
      have hlen := List.length_pos_of_mem this
      omega
    exact ⟨hnone, hdone listed σ a W I hnone⟩
  | succ fuel ih =>
    intro listed σ a W hf I
    refine ⟨hdone listed σ a W I, fun i hr => ?_⟩
    obtain ⟨hun, o, ho, hall⟩ := mem_ready.1 hr
    have hlt : i < ops.size := (Array.getElem?_eq_some_iff.1 ho).1
    have hunf : listed.getD i false = false := by
      have h1 : i < listed.size := by rw [I.size]; exact hlt
      simpa [h1] using hun
    have hag := I.agree F ho hr
    have hpl : ∀ k, Path ops k i → listed.getD k false = true := by
      intro k hk
      cases hk with
      | one h1 he hb hj => rw [ho] at h1; cases h1; subst hj; exact hall _ he hb
      | more h1 he hb h => rw [ho] at h1; cases h1; exact I.path h (hall _ he hb)
    have hfuel : ((List.range ops.size).filter fun k => !(listed.setIfInBounds i true).getD k false).length ≤ fuel := by
      have hsub : ((List.range ops.size).filter fun k => !(listed.setIfInBounds i true).getD k false) = (((List.range ops.size).filter fun k => !listed.getD k false)).filter (fun k => k != i) := by
        rw [List.filter_filter]
        apply List.filter_congr
        intro k _
        by_cases hki : k = i
        · subst hki
          have h1 : k < listed.size := by rw [I.size]; exact hlt
          simp [h1]
        · rw [getD_set_ne false (Ne.symm hki)]; simp [hki]
      rw [hsub]
      have hmem : i ∈ (List.range ops.size).filter fun k => !listed.getD k false := by
        rw [List.mem_filter, List.mem_range]; exact ⟨hlt, by rw [hunf]; rfl⟩
      have hlt2 : (((List.range ops.size).filter fun k => !listed.getD k false).filter (fun k => k != i)).length < ((List.range ops.size).filter fun k => !listed.getD k false).length := by
        rw [List.length_filter_lt_length_iff_exists]
        exact ⟨i, hmem, by simp⟩
      omega
    obtain ⟨hE, hPu⟩ := (RG.at (hrefl w₀) σ ops.toList 0 rfl (H σ)).1 i o (Nat.zero_le _) ho
    unfold wpOp
    simp only [ho]
    cases he : isEff Ps i with
    | true =>
      have hEi := hE he W (I.near fun k hk => by
        cases hlk : listed.getD k false with
        | false => rfl
        | true =>
          by_cases hik : i = k
          · subst hik; rw [hunf] at hlk; cases hlk
          · have := I.path (path_of_last hL hk he hik) hlk
            rw [hunf] at this; cases this) (fun j hj hp => I.post j hj (hpl j hp))
      have hw : Region.wanted o (yielded ops a.tmps) = true := by
        have := want_agree (o := o) hag
        unfold want at this
        rw [← this]; exact hEi.1
      rw [if_pos hw]
      refine .inl ?_
      unfold Oper.wp
      have hex := exec_agree (F.plain i o ho) hag
      rw [← hex]
      refine effOut_upon hEi.2 fun v W' hRW hp => ?_
      have hτ : ∀ j, j ≠ i → (fun k => if k = i then v else σ k) j = σ j := fun j hj => by simp [hj]
      have hev : effVal Ps (fun k => if k = i then v else σ k) i = v := effVal_of_post hp he _ (by simp)
      have I' := I.step F hL hsub hntr htr ho hr (τ := fun k => if k = i then v else σ k) hτ hRW (fun _ => by rw [hev]; exact hp) (fun h => by rw [he] at h; cases h)
      have hv : val P ops R Ps a₀ w₀ (fun k => if k = i then v else σ k) i = v := by
        simp only [val, ho, he, if_true]; exact hev
      rw [hv] at I'
      exact ih _ _ _ _ hfuel I'
    | false =>
      have hP := hPu he
      have hex := exec_agree (F.plain i o ho) hag
      have hwant := want_agree (o := o) hag
      unfold want at hwant
      have I' := I.step F hL hsub hntr htr ho hr (τ := σ) (fun _ _ => rfl) (by split; exact hrefl W; exact hnrefl W) (fun h => by rw [he] at h; cases h) (fun _ => rfl)
      have hnext := ih _ _ _ _ hfuel I'
      rcases hP with ⟨h1, h2⟩ | ⟨h1, h2⟩
      · unfold want at h1
        rw [if_pos (by rw [← hwant]; exact h1)]
        refine .inl ?_
        unfold Oper.wp
        rw [← hex, h2 W I.far]
        exact hnext
      · unfold want at h1
        rw [if_neg (by rw [← hwant, h1]; simp), ← h2]
        exact hnext

/-- THE LAW. 'N': what an effect does to the world; 'R': what the last one does, too. -/
theorem wp_region_rg2 {id : Nat} {a : Act} {w : World} {Q : Exit → Act → World → Prop} (R N : World → World → Prop) (Ps : List (Nat × Kind R))
    (hm : P.follows .mixedOrders = true) (hf : fine ops = true) (hL : lastOk Ps ops = true) (hsub : ∀ a b, N a b → R a b) (hnrefl : ∀ W, N W W) (hntr : ∀ a b c, N a b → N b c → N a c) (hrefl : ∀ W, R W W) (htr : ∀ a b c, R a b → R b c → R a c)
    (H : ∀ σ, RG P ops R N Ps w.drew Q σ ops.toList 0 a) : (Code.region id ops true).wp P Q a w := by
  refine wp_region_any hm ?_
  refine run_any (a₀ := a) (w₀ := w.drew) (Fine.of hf) hL hsub hnrefl hntr hrefl htr H ops.size _ (fun _ => undef) a _ ?_ ?_
  · exact Nat.le_trans (List.length_filter_le _ _) (by simp)
  · refine ⟨hrefl _, fun _ => hnrefl _, by simp, ?_, ?_, ?_⟩
    · intro i o e h
      simp [Array.getElem?_replicate] at h
      split at h <;> simp at h
    · have : wr (val P ops R Ps a w.drew fun _ => undef) ops.size (fun i => (Array.replicate ops.size false).getD i false) ops = [] := by
        unfold wr
        rw [List.map_eq_nil_iff, List.filter_eq_nil_iff]
        intro x _
        simp [Array.getElem?_replicate]
        split <;> simp
      rw [this]; rfl
    · intro j _ h
      simp [Array.getElem?_replicate] at h
      split at h <;> simp at h
end

/-- The same, the last effect being as the others. -/
theorem wp_region_rg {P : Program} {ops : Array Oper} {id : Nat} {a : Act} {w : World} {Q : Exit → Act → World → Prop} (R : World → World → Prop) (Ps : List (Nat × Kind R))
    (hm : P.follows .mixedOrders = true) (hf : fine ops = true) (hL : lastOk Ps ops = true) (hrefl : ∀ W, R W W) (htr : ∀ a b c, R a b → R b c → R a c)
    (H : ∀ σ, RG P ops R R Ps w.drew Q σ ops.toList 0 a) : (Code.region id ops true).wp P Q a w :=
  wp_region_rg2 R R Ps hm hf hL (fun _ _ h => h) hrefl htr hrefl htr H

/-! ### The moves -/
section
variable {W : World} {P : Program} {ops : Array Oper} {R N : World → World → Prop} {Ps : List (Nat × Kind R)} {w₀ : World} {Q : Exit → Act → World → Prop} {σ : Nat → Value} {o : Oper} {rest : List Oper} {k : Nat} {a : Act}

/-- An operation that comes to one value. -/
theorem rg_pure {x : Value} (he : isEff Ps k = false) (hw : want ops o a = true) (h : ∀ W, R w₀ W → (execOp a.eval o).run P W = .ok (.value x) W)
    (hn : RG P ops R N Ps w₀ Q σ rest (k + 1) (a.put o.dst x)) : RG P ops R N Ps w₀ Q σ (o :: rest) k a := by
  unfold RG; rw [if_neg (by rw [he]; decide)]; exact ⟨x, .inl ⟨hw, h⟩, hn⟩
/-- One whose guard says no. -/
theorem rg_skip (he : isEff Ps k = false) (hw : want ops o a = false) (hn : RG P ops R N Ps w₀ Q σ rest (k + 1) (a.put o.dst undef)) : RG P ops R N Ps w₀ Q σ (o :: rest) k a := by
  unfold RG; rw [if_neg (by rw [he]; decide)]; exact ⟨undef, .inr ⟨hw, rfl⟩, hn⟩
/-- What is promised of those that lie ahead. -/
theorem facts_of (hF : ∀ j, isEff Ps j = true → Path ops j k → postOf Ps j (effVal Ps σ j) W) :
    ∀ j p hs, Ps.lookup j = some (.unk p hs) → ahead (masks ops) j k = true → p (σ j) W := by
  intro j p hs hl hp
  have := hF j (by unfold isEff; rw [hl]; rfl) (path_of_ahead hp)
  unfold postOf effVal at this
  rw [hl] at this
  exact this
/-- One with an effect, whose value is told. -/
theorem rg_known {x : Value} (hl : Ps.lookup k = some (.known x)) (hw : want ops o a = true)
    (h : ∀ W, N w₀ W → (∀ j p hs, Ps.lookup j = some (.unk p hs) → ahead (masks ops) j k = true → p (σ j) W) → EffOut P N (fun v _ => v = x) W ((execOp a.eval o).run P W))
    (hn : RG P ops R N Ps w₀ Q σ rest (k + 1) (a.put o.dst x)) : RG P ops R N Ps w₀ Q σ (o :: rest) k a := by
  have he : isEff Ps k = true := by unfold isEff; rw [hl]; rfl
  unfold RG; rw [if_pos he]
  refine ⟨fun W hW hF => ⟨hw, ?_⟩, ?_⟩
  · have := h W hW (facts_of hF)
    have e : postOf Ps k = fun v _ => v = x := by funext v w; unfold postOf; rw [hl]
    have e2 : isLast Ps k = false := by unfold isLast; rw [hl]
    rw [e, e2]; exact this
  · have e : effVal Ps σ k = x := by unfold effVal; rw [hl]
    rw [e]; exact hn
/-- One with an effect, of whose value something is told. -/
theorem rg_unk {p : Value → World → Prop} {hs : ∀ v W W', R W W' → p v W → p v W'} (hl : Ps.lookup k = some (.unk p hs)) (hw : want ops o a = true)
    (h : ∀ W, N w₀ W → (∀ j p hs, Ps.lookup j = some (.unk p hs) → ahead (masks ops) j k = true → p (σ j) W) → EffOut P N p W ((execOp a.eval o).run P W))
    (hn : RG P ops R N Ps w₀ Q σ rest (k + 1) (a.put o.dst (σ k))) : RG P ops R N Ps w₀ Q σ (o :: rest) k a := by
  have he : isEff Ps k = true := by unfold isEff; rw [hl]; rfl
  unfold RG; rw [if_pos he]
  refine ⟨fun W hW hF => ⟨hw, ?_⟩, ?_⟩
  · have := h W hW (facts_of hF)
    have e : postOf Ps k = p := by funext v w; unfold postOf; rw [hl]
    have e2 : isLast Ps k = false := by unfold isLast; rw [hl]
    rw [e, e2]; exact this
  · have e : effVal Ps σ k = σ k := by unfold effVal; rw [hl]
    rw [e]; exact hn
/-- One whose effect is the region's last. -/
theorem rg_last {p : Value → World → Prop} (hl : Ps.lookup k = some (.last p)) (hw : want ops o a = true)
    (h : ∀ W, N w₀ W → (∀ j p hs, Ps.lookup j = some (.unk p hs) → ahead (masks ops) j k = true → p (σ j) W) → EffOut P R p W ((execOp a.eval o).run P W))
    (hn : RG P ops R N Ps w₀ Q σ rest (k + 1) (a.put o.dst (σ k))) : RG P ops R N Ps w₀ Q σ (o :: rest) k a := by
  have he : isEff Ps k = true := by unfold isEff; rw [hl]; rfl
  unfold RG; rw [if_pos he]
  refine ⟨fun W hW hF => ⟨hw, ?_⟩, ?_⟩
  · have := h W hW (facts_of hF)
    have e : postOf Ps k = p := by funext v w; unfold postOf; rw [hl]
    have e2 : isLast Ps k = true := by unfold isLast; rw [hl]
    rw [e, e2]; exact this
  · have e : effVal Ps σ k = σ k := by unfold effVal; rw [hl]
    rw [e]; exact hn
/-- The end; of the last kind, too, what was promised holds. -/
theorem rg_done' (h : ∀ W, R w₀ W → (∀ j p hs, Ps.lookup j = some (.unk p hs) → j < ops.size → p (σ j) W) → (∀ j p, Ps.lookup j = some (.last p) → j < ops.size → p (σ j) W) → Q .normal a W) : RG P ops R N Ps w₀ Q σ [] k a := by
  unfold RG
  intro W hW hF
  refine h W hW (fun j p hs hl hj => ?_) (fun j p hl hj => ?_)
  · have := hF j (by unfold isEff; rw [hl]; rfl) hj
    unfold postOf effVal at this
    rw [hl] at this
    exact this
  · have := hF j (by unfold isEff; rw [hl]; rfl) hj
    unfold postOf effVal at this
    rw [hl] at this
    exact this
theorem rg_done (h : ∀ W, R w₀ W → (∀ j p hs, Ps.lookup j = some (.unk p hs) → j < ops.size → p (σ j) W) → Q .normal a W) : RG P ops R N Ps w₀ Q σ [] k a :=
  rg_done' fun W hW hF _ => h W hW hF
end

end Go.VRg
