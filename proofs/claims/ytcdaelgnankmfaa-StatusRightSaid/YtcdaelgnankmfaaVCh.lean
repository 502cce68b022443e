/- A region whose order Go leaves open, where calls that turn memory stand in one order: a state of the world is carried from call to call. No program in sight. -/
import Derived.Test.YtcdaelgnankmfaaVRgCut
namespace Go.VRg

section
variable (P : Program) (ops : Array Oper) (R N : World → World → Prop) (Ps : List (Nat × Kind R)) (C : List Nat) (S : List Value → World → Prop) (a₀ : Act) (w₀ : World)

def noLast {R : World → World → Prop} (Ps : List (Nat × Kind R)) : Bool := Ps.all fun x => match x.2 with | .last _ => false | _ => true
/-- The chain: each is an operation with an effect and lies ahead of the next one. -/
def chainOk {R : World → World → Prop} (ops : Array Oper) (Ps : List (Nat × Kind R)) : List Nat → Bool
  | [] => true
  | [k] => isEff Ps k
  | k :: j :: C => isEff Ps k && ahead (masks ops) k j && chainOk ops Ps (j :: C)

theorem chain_eff {R : World → World → Prop} {ops : Array Oper} {Ps : List (Nat × Kind R)} : ∀ {C : List Nat}, chainOk ops Ps C = true → ∀ k ∈ C, isEff Ps k = true
  | [], _, k, h => by cases h
  | [j], hc, k, h => by simp at h; subst h; exact hc
  | j :: i :: C, hc, k, h => by
    simp only [chainOk, Bool.and_eq_true] at hc
    rcases List.mem_cons.1 h with rfl | h
    · exact hc.1.1
    · exact chain_eff hc.2 k h
theorem chain_path {R : World → World → Prop} {ops : Array Oper} {Ps : List (Nat × Kind R)} : ∀ {C : List Nat}, chainOk ops Ps C = true → ∀ {i j a b : Nat}, i < j → C[i]? = some a → C[j]? = some b → Path ops a b
  | [], _, i, j, a, b, _, h, _ => by simp at h
  | [x], _, i, j, a, b, hij, _, h => by
    have : j = 0 := by
      rcases Nat.eq_zero_or_pos j with h0 | h0
      · exact h0
      · rw [List.getElem?_eq_none (by simp; omega)] at h; cases h
    omega
  | x :: y :: C, hc, i, j, a, b, hij, h1, h2 => by
    simp only [chainOk, Bool.and_eq_true] at hc
    obtain ⟨j', rfl⟩ : ∃ j', j = j' + 1 := ⟨j - 1, by omega⟩
    rw [List.getElem?_cons_succ] at h2
    cases i with
    | succ i =>
      rw [List.getElem?_cons_succ] at h1
      exact chain_path hc.2 (by omega) h1 h2
    | zero =>
      simp at h1; subst h1
      have hxy := path_of_ahead hc.1.2
      cases j' with
      | zero => simp at h2; subst h2; exact hxy
      | succ j' => exact hxy.trans (chain_path hc.2 (i := 0) (Nat.succ_pos j') rfl h2)

/-- An operation with an effect: one of the chain carries the state on; any other one leaves it. -/
def CEff (σ : Nat → Value) (k : Nat) (o : Oper) (a : Act) : Prop :=
  ∀ W, R w₀ W → (∀ j, isEff Ps j = true → Path ops j k → postOf Ps j (effVal Ps σ j) W) →
    ∀ m, (∀ (i c : Nat), C[i]? = some c → Path ops c k → i < m) → S ((C.take m).map (effVal Ps σ)) W →
      (k ∉ C → want ops o a = true ∧ EffOut P N (postOf Ps k) W ((execOp a.eval o).run P W)) ∧
      (C[m]? = some k → want ops o a = true ∧ EffOut P R (fun v W' => postOf Ps k v W' ∧ S ((C.take m).map (effVal Ps σ) ++ [v]) W') W ((execOp a.eval o).run P W))

/-- The obligations, in the order of the text. -/
def CG (Q : Exit → Act → World → Prop) (σ : Nat → Value) : List Oper → Nat → Act → Prop
  | [], _, a => ∀ W, R w₀ W → (∀ j, isEff Ps j = true → j < ops.size → postOf Ps j (effVal Ps σ j) W) → S (C.map (effVal Ps σ)) W → Q .normal a W
  | o :: rest, k, a =>
    if isEff Ps k = true then CEff P ops R N Ps C S w₀ σ k o a ∧ CG Q σ rest (k + 1) (a.put o.dst (effVal Ps σ k))
    else ∃ x, PureOb P ops R w₀ o a x ∧ CG Q σ rest (k + 1) (a.put o.dst x)
end

section
variable {P : Program} {ops : Array Oper} {R N : World → World → Prop} {Ps : List (Nat × Kind R)} {C : List Nat} {S : List Value → World → Prop} {a₀ : Act} {w₀ : World}

theorem CG.at {Q : Exit → Act → World → Prop} (hr : R w₀ w₀) (σ : Nat → Value) : ∀ (rest : List Oper) (k : Nat), ops.toList.drop k = rest → CG P ops R N Ps C S w₀ Q σ rest k (fr P ops R Ps a₀ w₀ σ k) →
    (∀ i o, k ≤ i → ops[i]? = some o →
      (isEff Ps i = true → CEff P ops R N Ps C S w₀ σ i o (fr P ops R Ps a₀ w₀ σ i)) ∧
      (isEff Ps i = false → PureOb P ops R w₀ o (fr P ops R Ps a₀ w₀ σ i) (val P ops R Ps a₀ w₀ σ i))) ∧
    (∀ W, R w₀ W → (∀ j, isEff Ps j = true → j < ops.size → postOf Ps j (effVal Ps σ j) W) → S (C.map (effVal Ps σ)) W → Q .normal (fr P ops R Ps a₀ w₀ σ ops.size) W) := by
  intro rest
  induction rest with
  | nil =>
    intro k hk h
    have hsz : ops.size ≤ k := by
      have := congrArg List.length hk
      simp at this; omega
    have hfr : ∀ m, fr P ops R Ps a₀ w₀ σ (ops.size + m) = fr P ops R Ps a₀ w₀ σ ops.size := by
      intro m
      induction m with
      | zero => rfl
      | succ m ih =>
        show fr P ops R Ps a₀ w₀ σ ((ops.size + m) + 1) = _
        rw [← ih]
        simp only [fr]
        rw [Array.getElem?_eq_none (by omega)]
    refine ⟨fun i o hi ho => ?_, ?_⟩
    · rw [Array.getElem?_eq_none (by omega)] at ho; cases ho
    · have e : k = ops.size + (k - ops.size) := by omega
      rw [e, hfr] at h
      exact h
  | cons o rest ih =>
    intro k hk h
    have ho : ops[k]? = some o := by
      rw [← Array.getElem?_toList]
      have := congrArg (fun l => l[0]?) hk
      simpa using this
    have hdrop : ops.toList.drop (k + 1) = rest := by
      rw [← List.drop_drop, hk]; rfl
    have hval : ∀ x, val P ops R Ps a₀ w₀ σ k = x → CG P ops R N Ps C S w₀ Q σ rest (k + 1) ((fr P ops R Ps a₀ w₀ σ k).put o.dst x) → CG P ops R N Ps C S w₀ Q σ rest (k + 1) (fr P ops R Ps a₀ w₀ σ (k + 1)) := by
      intro x hx hh; rw [fr_succ σ ho, hx]; exact hh
    unfold CG at h
    by_cases he : isEff Ps k = true
    · rw [if_pos he] at h
      have hv : val P ops R Ps a₀ w₀ σ k = effVal Ps σ k := by simp only [val, ho, he, if_true]
      obtain ⟨h1, h2⟩ := ih (k + 1) hdrop (hval _ hv h.2)
      refine ⟨fun i oi hi hoi => ?_, h2⟩
      by_cases hik : i = k
      · subst hik
        rw [ho] at hoi; cases hoi
        exact ⟨fun _ => h.1, fun hf => by rw [he] at hf; cases hf⟩
      · exact h1 i oi (by omega) hoi
    · rw [if_neg he] at h
      obtain ⟨x, hp, hrest⟩ := h
      have hv : val P ops R Ps a₀ w₀ σ k = x := by
        simp only [val, ho, if_neg he]; exact hp.val_eq hr
      obtain ⟨h1, h2⟩ := ih (k + 1) hdrop (hval _ hv hrest)
      refine ⟨fun i oi hi hoi => ?_, h2⟩
      by_cases hik : i = k
      · subst hik
        rw [ho] at hoi; cases hoi
        exact ⟨fun ht => absurd ht he, fun _ => by rw [hv]; exact hp⟩
      · exact h1 i oi (by omega) hoi

/-- The run's state. -/
structure CInv (P : Program) (ops : Array Oper) (R : World → World → Prop) (Ps : List (Nat × Kind R)) (C : List Nat) (S : List Value → World → Prop) (a₀ : Act) (w₀ : World) (listed : Array Bool) (σ : Nat → Value) (a : Act) (W : World) : Prop where
  far : R w₀ W
  size : listed.size = ops.size
  closed : ∀ i o e, listed.getD i false = true → ops[i]? = some o → e ∈ o.after → Region.binds .any e = true → listed.getD e.on false = true
  frame : a = puts (wr (val P ops R Ps a₀ w₀ σ) ops.size (fun i => listed.getD i false) ops) a₀
  post : ∀ j, isEff Ps j = true → listed.getD j false = true → postOf Ps j (effVal Ps σ j) W
  state : ∃ m, m ≤ C.length ∧ (∀ (i c : Nat), C[i]? = some c → (listed.getD c false = true ↔ i < m)) ∧ S ((C.take m).map (effVal Ps σ)) W

theorem cpost_stable (hL : noLast Ps = true) {k : Nat} (v : Value) (W W' : World) (h : R W W') : postOf Ps k v W → postOf Ps k v W' := by
  unfold postOf
  cases hl : Ps.lookup k with
  | none => exact id
  | some p => cases p with
    | known x => exact id
    | unk p hs => exact hs v W W' h
    | last p =>
      exfalso
      unfold noLast at hL
      rw [List.all_eq_true] at hL
      have := hL _ (mem_of_lookup hl)
      simp at this

theorem CInv.path {listed : Array Bool} {σ : Nat → Value} {a : Act} {W : World} (I : CInv P ops R Ps C S a₀ w₀ listed σ a W) {j i : Nat} (h : Path ops j i) : listed.getD i false = true → listed.getD j false = true := by
  induction h with
  | one hi he hb hj => subst hj; exact fun hl => I.closed _ _ _ hl hi he hb
  | more hi he hb _ ih => exact fun hl => ih (I.closed _ _ _ hl hi he hb)

theorem CInv.step (F : Fine ops) (hL : noLast Ps = true) (htr : ∀ a b c, R a b → R b c → R a c)
    {listed : Array Bool} {σ : Nat → Value} {a : Act} {W W' : World} (I : CInv P ops R Ps C S a₀ w₀ listed σ a W) {i : Nat} {o : Oper} (hi : ops[i]? = some o) (hr : i ∈ Region.ready .any ops listed)
    {τ : Nat → Value} (hτ : ∀ j, j ≠ i → τ j = σ j) (hR : R W W') (hp : isEff Ps i = true → postOf Ps i (effVal Ps τ i) W') (hsame : isEff Ps i = false → W' = W)
    (hS : ∃ m, m ≤ C.length ∧ (∀ (k c : Nat), C[k]? = some c → ((listed.setIfInBounds i true).getD c false = true ↔ k < m)) ∧ S ((C.take m).map (effVal Ps τ)) W') :
    CInv P ops R Ps C S a₀ w₀ (listed.setIfInBounds i true) τ (a.put o.dst (val P ops R Ps a₀ w₀ τ i)) W' := by
  have hlt : i < ops.size := (Array.getElem?_eq_some_iff.1 hi).1
  obtain ⟨hun, o', ho', hall⟩ := mem_ready.1 hr
  rw [hi] at ho'; cases ho'
  have hunf : listed.getD i false = false := by
    have h1 : i < listed.size := by rw [I.size]; exact hlt
    simpa [h1] using hun
  have hset : ∀ k, k ≠ i → (listed.setIfInBounds i true).getD k false = listed.getD k false := fun k hk => getD_set_ne false (Ne.symm hk)
  have hseti : (listed.setIfInBounds i true).getD i false = true := by
    have h1 : i < listed.size := by rw [I.size]; exact hlt
    simp [h1]
  refine ⟨htr _ _ _ I.far hR, by simp [I.size], ?_, ?_, ?_, hS⟩
  · intro k ok e hk hok he hb
    by_cases hki : k = i
    · subst hki; rw [hi] at hok; cases hok
      exact getD_set_true (hall e he hb)
    · rw [hset k hki] at hk
      exact getD_set_true (I.closed k ok e hk hok he hb)
  · have hvals : ∀ k, listed.getD k false = true → val P ops R Ps a₀ w₀ τ k = val P ops R Ps a₀ w₀ σ k := by
      intro k hk
      refine val_agree F k fun j _ hj => hτ j ?_
      intro hji
      subst hji
      rcases hj with rfl | hj
      · rw [hunf] at hk; cases hk
      · have := I.path hj hk; rw [hunf] at this; cases this
    rw [wr_insert (sel := fun k => listed.getD k false) hi hunf hseti (fun k hk => hset k hk) a₀ ?_ ops.size hlt (Nat.le_refl _)]
    · rw [I.frame]
      congr 2
      exact wr_congr _ (Nat.le_refl _) fun k _ => ⟨rfl, fun hk => (hvals k hk).symm⟩
    · intro k p d hik hk hsel hd hod
      rcases F.order i o k p d hi hk hd (by omega) (.inr hod) with ⟨h1, _⟩ | ⟨_, hpath⟩
      · omega
      · have := I.path hpath hsel; rw [hunf] at this; cases this
  · intro j hj hl
    by_cases hji : j = i
    · subst hji; exact hp hj
    · rw [hset j hji] at hl
      rw [effVal_congr (hτ j hji)]
      cases he : isEff Ps i with
      | false => rw [hsame he]; exact I.post j hj hl
      | true =>
        exact cpost_stable hL _ _ _ hR (I.post j hj hl)

theorem CInv.agree (F : Fine ops) {listed : Array Bool} {σ : Nat → Value} {a : Act} {W : World} (I : CInv P ops R Ps C S a₀ w₀ listed σ a W) {i : Nat} {o : Oper} (hi : ops[i]? = some o) (hr : i ∈ Region.ready .any ops listed) :
    ∀ t, t ∈ o.looksAt ops → (fr P ops R Ps a₀ w₀ σ i).tmps[t]? = a.tmps[t]? := by
  intro t ht
  have hlt : i < ops.size := (Array.getElem?_eq_some_iff.1 hi).1
  obtain ⟨hun, o', ho', hall⟩ := mem_ready.1 hr
  rw [hi] at ho'; cases ho'
  have hunf : listed.getD i false = false := by
    have h1 : i < listed.size := by rw [I.size]; exact hlt
    simpa [h1] using hun
  have hpl : ∀ k, Path ops k i → listed.getD k false = true := by
    intro k hk
    cases hk with
    | one h1 he hb hj => rw [hi] at h1; cases h1; subst hj; exact hall _ he hb
    | more h1 he hb h => rw [hi] at h1; cases h1; exact I.path h (hall _ he hb)
  rw [fr_puts σ i (by omega), I.frame]
  refine puts_tmp t _ _ _ _ rfl rfl (wr_filter t ops.size (by omega) (Nat.le_refl _) ?_ ?_)
  · intro k p hk hp hd
    rcases F.order i o k p t hi hp hd (by omega) (.inl ht) with ⟨_, hpath⟩ | ⟨h1, _⟩
    · exact ⟨(hpl k hpath).symm, fun _ => rfl⟩
    · omega
  · intro k p hk _ hp hd
    by_cases hki : k = i
    · subst hki; exact hunf
    · rcases F.order i o k p t hi hp hd hki (.inl ht) with ⟨h1, _⟩ | ⟨_, hpath⟩
      · omega
      · cases hl : listed.getD k false with
        | false => rfl
        | true => have := I.path hpath hl; rw [hunf] at this; cases this

theorem run_chain (F : Fine ops) (hL : noLast Ps = true) (hC : chainOk ops Ps C = true) (hsub : ∀ a b, N a b → R a b) (hSN : ∀ vs W W', N W W' → S vs W → S vs W') (hCs : ∀ c ∈ C, c < ops.size) (hrefl : ∀ W, R W W) (htr : ∀ a b c, R a b → R b c → R a c) {Q : Exit → Act → World → Prop}
    (H : ∀ σ, CG P ops R N Ps C S w₀ Q σ ops.toList 0 a₀) : ∀ (fuel : Nat) (listed : Array Bool) (σ : Nat → Value) (a : Act) (W : World),
      ((List.range ops.size).filter fun i => !listed.getD i false).length ≤ fuel → CInv P ops R Ps C S a₀ w₀ listed σ a W → wpAny P .any ops Q fuel listed a W := by
  have hdone : ∀ (listed : Array Bool) (σ : Nat → Value) (a : Act) (W : World), CInv P ops R Ps C S a₀ w₀ listed σ a W → Region.ready .any ops listed = [] → Q .normal a W := by
    intro listed σ a W I hnone
    have hall : ∀ i, i < ops.size → listed.getD i false = true := by
      intro i
      induction i using Nat.strongRecOn with
      | _ i ih =>
        intro hi
        cases hl : listed.getD i false with
        | true => rfl
        | false =>
          have ho : ops[i]? = some ops[i] := by simp
          have hmem : i ∈ Region.ready .any ops listed := by
            rw [mem_ready]
            refine ⟨?_, _, ho, fun e he hb => ?_⟩
            · have h1 : i < listed.size := by rw [I.size]; exact hi
              simpa [h1] using hl
            · have := F.back _ _ _ ho he hb
              exact ih _ this (by omega)
          rw [hnone] at hmem; cases hmem
    have h2 := (CG.at (hrefl w₀) σ ops.toList 0 rfl (H σ)).2 W I.far (fun j hj hlt => I.post j hj (hall j hlt)) (by
      obtain ⟨m, hm, hmi, hS⟩ := I.state
      have : m = C.length := by
        rcases Nat.lt_or_ge m C.length with h | h
        · have h1 : C[m]? = some C[m] := by simp [h]
          have := (hmi m _ h1).1 (hall _ (hCs _ (List.getElem_mem h)))
          omega
        · omega
      subst this
      rwa [List.take_length] at hS)
    rw [fr_puts σ ops.size (Nat.le_refl _)] at h2
    rw [I.frame]
    have : wr (val P ops R Ps a₀ w₀ σ) ops.size (fun i => listed.getD i false) ops = wr (val P ops R Ps a₀ w₀ σ) ops.size (fun _ => true) ops :=
      wr_congr _ (Nat.le_refl _) fun i hi => ⟨hall i hi, fun _ => rfl⟩
    rw [this]; exact h2
  intro fuel
  induction fuel with
  | zero =>
    intro listed σ a W hf I
    have hnone : Region.ready .any ops listed = [] := by
      apply List.eq_nil_iff_forall_not_mem.2
      intro i hi
      obtain ⟨hun, o, ho, _⟩ := mem_ready.1 hi
      have hlt : i < ops.size := (Array.getElem?_eq_some_iff.1 ho).1
      have : i ∈ (List.range ops.size).filter fun i => !listed.getD i false := by
        rw [List.mem_filter, List.mem_range]
        refine ⟨hlt, ?_⟩
        have h1 : i < listed.size := by rw [I.size]; exact hlt
        have : listed.getD i false = false := by simpa [h1] using hun
        rw [this]; rfl
      have hlen := List.length_pos_of_mem this
      omega
    exact ⟨hnone, hdone listed σ a W I hnone⟩
  | succ fuel ih =>
    intro listed σ a W hf I
    refine ⟨hdone listed σ a W I, fun i hr => ?_⟩
    obtain ⟨hun, o, ho, hall⟩ := mem_ready.1 hr
    have hlt : i < ops.size := (Array.getElem?_eq_some_iff.1 ho).1
    have hunf : listed.getD i false = false := by
      have h1 : i < listed.size := by rw [I.size]; exact hlt
      simpa [h1] using hun
    have hag := I.agree F ho hr
    have hpl : ∀ k, Path ops k i → listed.getD k false = true := by
      intro k hk
      cases hk with
      | one h1 he hb hj => rw [ho] at h1; cases h1; subst hj; exact hall _ he hb
      | more h1 he hb h => rw [ho] at h1; cases h1; exact I.path h (hall _ he hb)
    have hfuel : ((List.range ops.size).filter fun k => !(listed.setIfInBounds i true).getD k false).length ≤ fuel := by
      have hsub : ((List.range ops.size).filter fun k => !(listed.setIfInBounds i true).getD k false) = (((List.range ops.size).filter fun k => !listed.getD k false)).filter (fun k => k != i) := by
        rw [List.filter_filter]
        apply List.filter_congr
        intro k _
        by_cases hki : k = i
        · subst hki
          have h1 : k < listed.size := by rw [I.size]; exact hlt
          simp [h1]
        · rw [getD_set_ne false (Ne.symm hki)]; simp [hki]
      rw [hsub]
      have hmem : i ∈ (List.range ops.size).filter fun k => !listed.getD k false := by
        rw [List.mem_filter, List.mem_range]; exact ⟨hlt, by rw [hunf]; rfl⟩
      have hlt2 : (((List.range ops.size).filter fun k => !listed.getD k false).filter (fun k => k != i)).length < ((List.range ops.size).filter fun k => !listed.getD k false).length := by
        rw [List.length_filter_lt_length_iff_exists]
        exact ⟨i, hmem, by simp⟩
      omega
    obtain ⟨hE, hPu⟩ := (CG.at (hrefl w₀) σ ops.toList 0 rfl (H σ)).1 i o (Nat.zero_le _) ho
    unfold wpOp
    simp only [ho]
    cases he : isEff Ps i with
    | true =>
      obtain ⟨m, hm, hmi, hS⟩ := I.state
      have hEi := hE he W I.far (fun j hj hp => I.post j hj (hpl j hp)) m (fun k c hk hp => (hmi k c hk).1 (hpl c hp)) hS
      have hex := exec_agree (F.plain i o ho) hag
      have hwantA := want_agree (o := o) hag
      unfold want at hwantA
      by_cases hin : i ∈ C
      · obtain ⟨k, hk⟩ := List.mem_iff_getElem?.1 hin
        have hkm : k = m := by
          have h1 : ¬ k < m := fun h => by have := (hmi k i hk).2 h; rw [hunf] at this; cases this
          rcases Nat.lt_or_ge m k with h | h
          · have hml : m < C.length := Nat.lt_of_lt_of_le h (Nat.le_of_lt (List.getElem?_eq_some_iff.1 hk).1)
            have h2 : C[m]? = some C[m] := by simp [hml]
            have := (hmi m _ h2).1 (hpl _ (chain_path hC h h2 hk))
            omega
          · omega
        subst hkm
        obtain ⟨hw1, hEo⟩ := hEi.2 hk
        have hw : Region.wanted o (yielded ops a.tmps) = true := by rw [← hwantA]; unfold want at hw1; exact hw1
        rw [if_pos hw]
        refine .inl ?_
        unfold Oper.wp
        rw [← hex]
        refine effOut_upon hEo fun v W' hRW hp => ?_
        have hτ : ∀ j, j ≠ i → (fun k => if k = i then v else σ k) j = σ j := fun j hj => by simp [hj]
        have hev : effVal Ps (fun k => if k = i then v else σ k) i = v := effVal_of_post hp.1 he _ (by simp)
        have hnd : ∀ (j c : Nat), C[j]? = some c → j ≠ k → c ≠ i := fun j c hj hne e => by
          subst e
          rcases Nat.lt_or_ge j k with h | h
          · exact absurd (Path.lt F (chain_path hC h hj hk)) (Nat.lt_irrefl _)
          · exact absurd (Path.lt F (chain_path hC (show k < j by omega) hk hj)) (Nat.lt_irrefl _)
        have hlsz : i < listed.size := by rw [I.size]; exact hlt
        have I' := I.step F hL htr ho hr (τ := fun k => if k = i then v else σ k) hτ hRW (fun _ => by rw [hev]; exact hp.1) (fun h => by rw [he] at h; cases h) ⟨k + 1, (List.getElem?_eq_some_iff.1 hk).1, fun j c hj => by
            by_cases hjk : j = k
            · subst hjk; rw [hk] at hj; cases hj
              simp [hlsz]
            · have hci := hnd j c hj hjk
              rw [getD_set_ne false (Ne.symm hci), hmi j c hj]
              omega, by
            rw [List.take_add_one, hk, Option.toList_some, List.map_append, List.map_cons, List.map_nil, hev]
            have : (C.take k).map (effVal Ps fun k => if k = i then v else σ k) = (C.take k).map (effVal Ps σ) := by
              apply List.map_congr_left
              intro c hc
              obtain ⟨j, hj⟩ := List.mem_iff_getElem?.1 hc
              have hjl := (List.getElem?_eq_some_iff.1 hj).1
              rw [List.length_take] at hjl
              rw [List.getElem?_take_of_lt (by omega)] at hj
              exact effVal_congr (hτ c (hnd j c hj (by omega)))
            rw [this]; exact hp.2⟩
        have hv : val P ops R Ps a₀ w₀ (fun k => if k = i then v else σ k) i = v := by
          simp only [val, ho, he, if_true]; exact hev
        rw [hv] at I'
        exact ih _ _ _ _ hfuel I'
      · obtain ⟨hw1, hEo⟩ := hEi.1 hin
        have hw : Region.wanted o (yielded ops a.tmps) = true := by rw [← hwantA]; unfold want at hw1; exact hw1
        rw [if_pos hw]
        refine .inl ?_
        unfold Oper.wp
        rw [← hex]
        refine effOut_upon hEo fun v W' hRW hp => ?_
        have hτ : ∀ j, j ≠ i → (fun k => if k = i then v else σ k) j = σ j := fun j hj => by simp [hj]
        have hev : effVal Ps (fun k => if k = i then v else σ k) i = v := effVal_of_post hp he _ (by simp)
        have I' := I.step F hL htr ho hr (τ := fun k => if k = i then v else σ k) hτ (hsub _ _ hRW) (fun _ => by rw [hev]; exact hp) (fun h => by rw [he] at h; cases h) ⟨m, hm, fun j c hj => by
            have hci : c ≠ i := fun e => hin (e ▸ List.mem_of_getElem? hj)
            rw [getD_set_ne false (Ne.symm hci), hmi j c hj], by
            have : (C.take m).map (effVal Ps fun k => if k = i then v else σ k) = (C.take m).map (effVal Ps σ) := by
              apply List.map_congr_left
              intro c hc
              have hci : c ≠ i := fun e => hin (e ▸ List.mem_of_mem_take hc)
              exact effVal_congr (hτ c hci)
            rw [this]; exact hSN _ _ _ hRW hS⟩
        have hv : val P ops R Ps a₀ w₀ (fun k => if k = i then v else σ k) i = v := by
          simp only [val, ho, he, if_true]; exact hev
        rw [hv] at I'
        exact ih _ _ _ _ hfuel I'
    | false =>
      have hP := hPu he
      have hex := exec_agree (F.plain i o ho) hag
      have hwant := want_agree (o := o) hag
      unfold want at hwant
      have I' := I.step F hL htr ho hr (τ := σ) (fun _ _ => rfl) (hrefl W) (fun h => by rw [he] at h; cases h) (fun _ => rfl) (by
        obtain ⟨m, hm, hmi, hS⟩ := I.state
        refine ⟨m, hm, fun j c hj => ?_, hS⟩
        have hci : c ≠ i := fun e => by
          have := chain_eff hC c (List.mem_of_getElem? hj)
          rw [e, he] at this; cases this
        rw [getD_set_ne false (Ne.symm hci), hmi j c hj])
      have hnext := ih _ _ _ _ hfuel I'
      rcases hP with ⟨h1, h2⟩ | ⟨h1, h2⟩
      · unfold want at h1
        rw [if_pos (by rw [← hwant]; exact h1)]
        refine .inl ?_
        unfold Oper.wp
        rw [← hex, h2 W I.far]
        exact hnext
      · unfold want at h1
        rw [if_neg (by rw [← hwant, h1]; simp), ← h2]
        exact hnext

end

/-- Before the region's own law. 'N': what an effect outside of the chain does; 'R': what any does; 'S': the state behind the chain's values so far. -/
theorem any_chain {P : Program} {ops : Array Oper} {a : Act} {w : World} {Q : Exit → Act → World → Prop} (R N : World → World → Prop) (Ps : List (Nat × Kind R)) (C : List Nat) (S : List Value → World → Prop)
    (hf : fine ops = true) (hL : noLast Ps = true) (hC : (chainOk ops Ps C && C.all (fun c => decide (c < ops.size))) = true) (hsub : ∀ a b, N a b → R a b) (hSN : ∀ vs W W', N W W' → S vs W → S vs W') (hrefl : ∀ W, R W W) (htr : ∀ a b c, R a b → R b c → R a c) (h0 : S [] w)
    (H : ∀ σ, CG P ops R N Ps C S w Q σ ops.toList 0 a) : wpAny P .any ops Q ops.size (Array.replicate ops.size false) a w := by
  simp only [Bool.and_eq_true, List.all_eq_true, decide_eq_true_eq] at hC
  refine run_chain (a₀ := a) (w₀ := w) (Fine.of hf) hL hC.1 hsub hSN hC.2 hrefl htr H ops.size _ (fun _ => undef) a _ ?_ ?_
  · exact Nat.le_trans (List.length_filter_le _ _) (by simp)
  · refine ⟨hrefl _, by simp, ?_, ?_, ?_, ⟨0, Nat.zero_le _, fun i c _ => ?_, h0⟩⟩
    · intro i o e h
      simp [Array.getElem?_replicate] at h
      split at h <;> simp at h
    · have : wr (val P ops R Ps a w fun _ => undef) ops.size (fun i => (Array.replicate ops.size false).getD i false) ops = [] := by
        unfold wr
        rw [List.map_eq_nil_iff, List.filter_eq_nil_iff]
        intro x _
        simp [Array.getElem?_replicate]
        split <;> simp
      rw [this]; rfl
    · intro j _ h
      simp [Array.getElem?_replicate] at h
      split at h <;> simp at h
    · rw [getD_replicate_false]; simp

/-- THE LAW. -/
theorem wp_region_chain {P : Program} {ops : Array Oper} {id : Nat} {a : Act} {w : World} {Q : Exit → Act → World → Prop} (R N : World → World → Prop) (Ps : List (Nat × Kind R)) (C : List Nat) (S : List Value → World → Prop)
    (hm : P.follows .mixedOrders = true) (hf : fine ops = true) (hL : noLast Ps = true) (hC : (chainOk ops Ps C && C.all (fun c => decide (c < ops.size))) = true) (hsub : ∀ a b, N a b → R a b) (hSN : ∀ vs W W', N W W' → S vs W → S vs W') (hrefl : ∀ W, R W W) (htr : ∀ a b c, R a b → R b c → R a c) (h0 : S [] w.drew)
    (H : ∀ σ, CG P ops R N Ps C S w.drew Q σ ops.toList 0 a) : (Code.region id ops true).wp P Q a w :=
  wp_region_any hm (any_chain R N Ps C S hf hL hC hsub hSN hrefl htr h0 H)

/-! ### The moves -/
section
variable {P : Program} {ops : Array Oper} {R N : World → World → Prop} {Ps : List (Nat × Kind R)} {C : List Nat} {S : List Value → World → Prop} {w₀ : World} {Q : Exit → Act → World → Prop} {σ : Nat → Value} {o : Oper} {rest : List Oper} {k : Nat} {a : Act}

theorem cg_pure {x : Value} (he : isEff Ps k = false) (hw : want ops o a = true) (h : ∀ W, R w₀ W → (execOp a.eval o).run P W = .ok (.value x) W)
    (hn : CG P ops R N Ps C S w₀ Q σ rest (k + 1) (a.put o.dst x)) : CG P ops R N Ps C S w₀ Q σ (o :: rest) k a := by
  unfold CG; rw [if_neg (by rw [he]; decide)]; exact ⟨x, .inl ⟨hw, h⟩, hn⟩
theorem cg_skip (he : isEff Ps k = false) (hw : want ops o a = false) (hn : CG P ops R N Ps C S w₀ Q σ rest (k + 1) (a.put o.dst undef)) : CG P ops R N Ps C S w₀ Q σ (o :: rest) k a := by
  unfold CG; rw [if_neg (by rw [he]; decide)]; exact ⟨undef, .inr ⟨hw, rfl⟩, hn⟩
/-- One outside of the chain, whose value is told. -/
theorem cg_known {x : Value} (hl : Ps.lookup k = some (.known x)) (hk : C.contains k = false) (hw : want ops o a = true)
    (h : ∀ W, R w₀ W → (∀ j p hs, Ps.lookup j = some (.unk p hs) → ahead (masks ops) j k = true → p (σ j) W) → (∃ m, (∀ (i c : Nat), C[i]? = some c → ahead (masks ops) c k = true → i < m) ∧ S ((C.take m).map (effVal Ps σ)) W) → EffOut P N (fun v _ => v = x) W ((execOp a.eval o).run P W))
    (hn : CG P ops R N Ps C S w₀ Q σ rest (k + 1) (a.put o.dst x)) : CG P ops R N Ps C S w₀ Q σ (o :: rest) k a := by
  have he : isEff Ps k = true := by unfold isEff; rw [hl]; rfl
  have hk' : k ∉ C := fun h => by simp [h] at hk
  unfold CG; rw [if_pos he]
  refine ⟨fun W hW hF m hm hS => ⟨fun _ => ⟨hw, ?_⟩, fun hc => absurd (List.mem_of_getElem? hc) hk'⟩, ?_⟩
  · have := h W hW (facts_of hF) ⟨m, fun i c hi hp => hm i c hi (path_of_ahead hp), hS⟩
    have e : postOf Ps k = fun v _ => v = x := by funext v w; unfold postOf; rw [hl]
    rw [e]; exact this
  · have e : effVal Ps σ k = x := by unfold effVal; rw [hl]
    rw [e]; exact hn
theorem cg_unk {p : Value → World → Prop} {hs : ∀ v W W', R W W' → p v W → p v W'} (hl : Ps.lookup k = some (.unk p hs)) (hk : C.contains k = false) (hw : want ops o a = true)
    (h : ∀ W, R w₀ W → (∀ j p hs, Ps.lookup j = some (.unk p hs) → ahead (masks ops) j k = true → p (σ j) W) → (∃ m, (∀ (i c : Nat), C[i]? = some c → ahead (masks ops) c k = true → i < m) ∧ S ((C.take m).map (effVal Ps σ)) W) → EffOut P N p W ((execOp a.eval o).run P W))
    (hn : CG P ops R N Ps C S w₀ Q σ rest (k + 1) (a.put o.dst (σ k))) : CG P ops R N Ps C S w₀ Q σ (o :: rest) k a := by
  have he : isEff Ps k = true := by unfold isEff; rw [hl]; rfl
  have hk' : k ∉ C := fun h => by simp [h] at hk
  unfold CG; rw [if_pos he]
  refine ⟨fun W hW hF m hm hS => ⟨fun _ => ⟨hw, ?_⟩, fun hc => absurd (List.mem_of_getElem? hc) hk'⟩, ?_⟩
  · have := h W hW (facts_of hF) ⟨m, fun i c hi hp => hm i c hi (path_of_ahead hp), hS⟩
    have e : postOf Ps k = p := by funext v w; unfold postOf; rw [hl]
    rw [e]; exact this
  · have e : effVal Ps σ k = σ k := by unfold effVal; rw [hl]
    rw [e]; exact hn
theorem nodup_get {C : List Nat} (hd : C.Nodup) {i j k : Nat} (hi : C[i]? = some k) (hj : C[j]? = some k) : i = j := by
  obtain ⟨h1, h2⟩ := List.getElem?_eq_some_iff.1 hi
  obtain ⟨h3, h4⟩ := List.getElem?_eq_some_iff.1 hj
  have hp := List.pairwise_iff_getElem.1 hd
  rcases Nat.lt_trichotomy i j with h | h | h
  · exact absurd (h2.trans h4.symm) (hp i j h1 h3 h)
  · exact h
  · exact absurd (h4.trans h2.symm) (hp j i h3 h1 h)
/-- One of the chain, whose value is told. -/
theorem cg_call {x : Value} (m : Nat) {vs : List Value} (hl : Ps.lookup k = some (.known x)) (hm : C[m]? = some k) (hd : C.Nodup) (hv : (C.take m).map (effVal Ps σ) = vs) (hw : want ops o a = true)
    (h : ∀ W, R w₀ W → (∀ j p hs, Ps.lookup j = some (.unk p hs) → ahead (masks ops) j k = true → p (σ j) W) → S vs W → EffOut P R (fun v W' => v = x ∧ S (vs ++ [x]) W') W ((execOp a.eval o).run P W))
    (hn : CG P ops R N Ps C S w₀ Q σ rest (k + 1) (a.put o.dst x)) : CG P ops R N Ps C S w₀ Q σ (o :: rest) k a := by
  have he : isEff Ps k = true := by unfold isEff; rw [hl]; rfl
  subst hv
  unfold CG; rw [if_pos he]
  refine ⟨fun W hW hF m' hm' hS => ⟨fun hk => absurd (List.mem_of_getElem? hm) hk, fun hc => ⟨hw, ?_⟩⟩, ?_⟩
  · obtain rfl := nodup_get hd hm hc
    have := h W hW (facts_of hF) hS
    have e : postOf Ps k = fun v _ => v = x := by funext v w; unfold postOf; rw [hl]
    rw [e]
    have e2 : (fun v W' => v = x ∧ S ((C.take m).map (effVal Ps σ) ++ [v]) W') = (fun v W' => v = x ∧ S ((C.take m).map (effVal Ps σ) ++ [x]) W') := by
      funext v W'; apply propext; constructor <;> (rintro ⟨rfl, h'⟩; exact ⟨rfl, h'⟩)
    rw [e2]; exact this
  · have e : effVal Ps σ k = x := by unfold effVal; rw [hl]
    rw [e]; exact hn
/-- One of the chain, of whose value something is told. -/
theorem cg_call' {p : Value → World → Prop} {hs : ∀ v W W', R W W' → p v W → p v W'} (m : Nat) {vs : List Value} (hl : Ps.lookup k = some (.unk p hs)) (hm : C[m]? = some k) (hd : C.Nodup) (hv : (C.take m).map (effVal Ps σ) = vs) (hw : want ops o a = true)
    (h : ∀ W, R w₀ W → (∀ j p hs, Ps.lookup j = some (.unk p hs) → ahead (masks ops) j k = true → p (σ j) W) → S vs W → EffOut P R (fun v W' => p v W' ∧ S (vs ++ [v]) W') W ((execOp a.eval o).run P W))
    (hn : CG P ops R N Ps C S w₀ Q σ rest (k + 1) (a.put o.dst (σ k))) : CG P ops R N Ps C S w₀ Q σ (o :: rest) k a := by
  have he : isEff Ps k = true := by unfold isEff; rw [hl]; rfl
  subst hv
  unfold CG; rw [if_pos he]
  refine ⟨fun W hW hF m' hm' hS => ⟨fun hk => absurd (List.mem_of_getElem? hm) hk, fun hc => ⟨hw, ?_⟩⟩, ?_⟩
  · obtain rfl := nodup_get hd hm hc
    have := h W hW (facts_of hF) hS
    have e : postOf Ps k = p := by funext v w; unfold postOf; rw [hl]
    rw [e]; exact this
  · have e : effVal Ps σ k = σ k := by unfold effVal; rw [hl]
    rw [e]; exact hn
theorem cg_done {vs : List Value} (hv : C.map (effVal Ps σ) = vs) (h : ∀ W, R w₀ W → (∀ j p hs, Ps.lookup j = some (.unk p hs) → j < ops.size → p (σ j) W) → S vs W → Q .normal a W) : CG P ops R N Ps C S w₀ Q σ [] k a := by
  subst hv
  unfold CG
  intro W hW hF hS
  refine h W hW (fun j p hs hl hj => ?_) hS
  have := hF j (by unfold isEff; rw [hl]; rfl) hj
  unfold postOf effVal at this
  rw [hl] at this
  exact this
end

end Go.VRg
