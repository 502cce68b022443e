/- A region whose last operations stand in one order: what lies ahead of them by the law of the text VRg, then the rest in a row; and a region's plain walk taken into a round of a range over a function. No program in sight. -/
import Derived.Test.YtcdaelgnankmfaaVRg
import Derived.StillTail
import Derived.OrdersIn
import Derived.RangeFuncCalls
namespace Go.VRg

/-- It goes on, by no other way. -/
def onlyN (K : Act → World → Prop) : Exit → Act → World → Prop
  | .normal, a, w => K a w
  | _, _, _ => False
theorem letsOut_onlyN {K : Act → World → Prop} : ¬ LetsOut (onlyN K) := fun ⟨_, _, h⟩ => h

theorem upon_turn {P : Program} {o : Oper} {a : Act} {K K' T : Act → World → Prop} {Q : Exit → Act → World → Prop} {r : Result Next} (hk : ∀ a w, K a w → K' a w) (h : o.upon P a K (onlyN T) r) : o.upon P a K' Q r := by
  cases r with
  | halt x w => cases x <;> exact h.elim
  | ok n w =>
    cases n <;> simp only [Oper.upon] at h ⊢
    case value v => exact hk _ _ h
    case skip => exact hk _ _ h
    case defer d => exact hk _ _ h
    case enter f args =>
      refine Calls.mono h fun e w' h' => ?_
      cases e with
      | returned v => exact hk _ _ h'
      | panicked c => exact h'.elim
      | outgrown => exact (letsOut_onlyN h').elim
    case row s args => exact fun c cs => let ⟨v, w', r, s⟩ := h c cs; ⟨v, w', hk _ _ r, s⟩

theorem upon_round {P : Program} {o : Oper} {a : Act} {K K' T : Act → World → Prop} {Q : Exit → Act → World → Prop} {r : Result Next} (l n : Nat) (hk : ∀ a w, K a w → K' a w) (h : o.upon P a K (onlyN T) r) : o.uponIn (Fence.wide.inRound l) n P a K' Q r := by
  cases r with
  | halt x w => cases x <;> exact h.elim
  | ok m w =>
    cases m <;> simp only [Oper.upon, Oper.uponIn] at h ⊢
    case value v => exact hk _ _ h
    case skip => exact hk _ _ h
    case defer d => exact hk _ _ h
    case enter f args =>
      refine ⟨(fun hd => by cases hd), CallsIn.mono (CallsIn.inRound l (callsIn_wide.2 h)) fun e w' h' => ?_⟩
      cases e with
      | returned v => exact hk _ _ h'
      | panicked c => exact h'.elim
      | outgrown => exact (letsOut_onlyN h').elim
    case row s args => exact ⟨(fun hd => by cases hd), fun c cs _ => let ⟨v, w', r, s⟩ := h c cs; ⟨v, w', hk _ _ r, stepsIn_wide.2 s⟩⟩

theorem wpOp_round {P : Program} {ops : Array Oper} {T : Act → World → Prop} {Q : Exit → Act → World → Prop} {i : Nat} {K K' : Act → World → Prop} {a : Act} {w : World} (l n : Nat) (hp : ∀ (j : Nat) (o : Oper), ops[j]? = some o → plainOp o = true) (hk : ∀ a w, K a w → K' a w)
    (h : wpOp P ops (onlyN T) i K a w) : wpOpIn (Fence.wide.inRound l) n P ops Q i K' a w := by
  unfold wpOp at h
  unfold wpOpIn
  cases ho : ops[i]? with
  | none => rw [ho] at h; exact hk _ _ h
  | some o =>
    rw [ho] at h
    simp only at h ⊢
    by_cases hw : Region.wanted o (yielded ops a.tmps) = true
    · rw [if_pos hw] at h ⊢
      rcases h with h | h
      · unfold Oper.wp at h
        unfold Oper.wpIn
        have hno : ∀ c, o.op ≠ .defer c := fun c e => by have := hp i o ho; simp [plainOp, e] at this
        rw [Oper.semAt_eq _ _ _ hno]
        exact ⟨fun _ _ => trivial, upon_round l n hk h⟩
      · exact (letsOut_onlyN h.2).elim
    · rw [if_neg hw] at h ⊢
      exact ⟨fun _ _ => trivial, hk _ _ h⟩

theorem wpAny_round {P : Program} {ops : Array Oper} {T : Act → World → Prop} {Q : Exit → Act → World → Prop} (l n : Nat) (hp : ∀ (j : Nat) (o : Oper), ops[j]? = some o → plainOp o = true) (hT : ∀ a w, T a w → Q .normal a w) :
    ∀ (f : Nat) (listed : Array Bool) (a : Act) (w : World), wpAny P .any ops (onlyN T) f listed a w → wpAnyIn (Fence.wide.inRound l) n P .any ops Q f listed a w
  | 0, _, _, _, h => ⟨h.1, hT _ _ h.2⟩
  | f + 1, _, _, _, h => ⟨fun h0 => hT _ _ (h.1 h0), fun i hi => wpOp_round l n hp (fun a w h => wpAny_round l n hp hT f _ a w h) (h.2 i hi)⟩

/-- A region in a round, by its plain walk. -/
theorem wpIn_region_of_any {P : Program} {ops : Array Oper} (T : Act → World → Prop) {Q : Exit → Act → World → Prop} (l n : Nat) {id : Nat} {a : Act} {w : World} (hm : P.follows .mixedOrders = true) (hp : (ops.toList.all plainOp) = true) (hT : ∀ a w, T a w → Q .normal a w)
    (h : wpAny P .any ops (onlyN T) ops.size (Array.replicate ops.size false) a w.drew) : (Code.region id ops true).wpIn (Fence.wide.inRound l) n P Q a w :=
  wpIn_region_any hm (wpAny_round l n (fun j o ho => List.all_eq_true.1 hp o (by rw [← Array.getElem?_toList] at ho; exact List.mem_of_getElem? ho)) hT _ _ _ _ h)

theorem wpAny_more {P : Program} {ops : Array Oper} {md : Region.Mode} {Q : Exit → Act → World → Prop} : ∀ (f : Nat) (listed : Array Bool) (a : Act) (w : World), wpAny P md ops Q f listed a w → wpAny P md ops Q (f + 1) listed a w
  | 0, _, _, _, h => ⟨fun _ => h.2, fun i hi => by rw [h.1] at hi; cases hi⟩
  | f + 1, _, _, _, h => ⟨h.1, fun i hi => wpOp_mono (fun a w h => wpAny_more f _ a w h) (h.2 i hi)⟩
theorem wpAny_more' {P : Program} {ops : Array Oper} {md : Region.Mode} {Q : Exit → Act → World → Prop} (g : Nat) : ∀ (f : Nat) (listed : Array Bool) (a : Act) (w : World), wpAny P md ops Q f listed a w → wpAny P md ops Q (f + g) listed a w := by
  induction g with
  | zero => exact fun f listed a w h => h
  | succ g ih => exact fun f listed a w h => wpAny_more _ _ _ _ (ih f listed a w h)

/-- From 'm' on the operations stand in one order, and each of these waits for all ahead of 'm'. -/
def cutOk (l : List Oper) (m : Nat) : Bool :=
  decide (m ≤ l.length) && (l.zipIdx.all fun (o, t) => (o.after.toList.all fun e => !Region.binds .any e || decide (e.on < t)) && (match o.guard with | some (g, _) => decide (g < t) | none => true) &&
    (decide (t < m) || (List.range m).all fun i => Region.waitsFor .any l.toArray t i)) &&
  Region.seqB .any l.toArray (l.length - m) m (Array.replicate m true ++ Array.replicate (l.length - m) false)

section
variable {P : Program} {l : List Oper} {m : Nat}

theorem cut_listed {L : Array Bool} {m g : Nat} (hs : L.size = m) : ∀ i, (L ++ Array.replicate g false).getD i false = L.getD i false := by
  intro i
  simp only [Array.getD_eq_getD_getElem?]
  by_cases h : i < m
  · rw [Array.getElem?_append_left (by omega)]
  · rw [Array.getElem?_append_right (by omega), Array.getElem?_eq_none (xs := L) (by omega)]
    by_cases h2 : i - L.size < g
    · rw [Array.getElem?_replicate, if_pos h2]; rfl
    · rw [Array.getElem?_replicate, if_neg h2]

theorem cut_any (hc : cutOk l m = true) {T : Act → World → Prop} {Q : Exit → Act → World → Prop} (hT : ∀ a w, T a w → wpList P l.toArray Q (l.drop m) a w) :
    ∀ (f : Nat) (L : Array Bool) (a : Act) (w : World), L.size = m → wpAny P .any (l.take m).toArray (onlyN T) f L a w → wpAny P .any l.toArray Q (f + (l.length - m)) (L ++ Array.replicate (l.length - m) false) a w := by
  simp only [cutOk, Bool.and_eq_true, decide_eq_true_eq, List.all_eq_true] at hc
  obtain ⟨⟨hle, hall⟩, hseq⟩ := hc
  have hmem : ∀ (t : Nat) (o : Oper), l[t]? = some o → (o, t) ∈ l.zipIdx := fun t o h => by rw [List.mk_mem_zipIdx_iff_getElem?]; exact h
  have hback : ∀ (t : Nat) (o : Oper) (e : Edge), l[t]? = some o → e ∈ o.after → Region.binds .any e = true → e.on < t := by
    intro t o e ho he hb
    have := (hall _ (hmem t o ho)).1.1 e (by simpa using he)
    simp only [hb, Bool.not_true, Bool.false_or, decide_eq_true_eq] at this
    exact this
  have hget : ∀ (i : Nat), i < m → (l.take m).toArray[i]? = l.toArray[i]? := fun i hi => by simp [List.getElem?_take, hi]
  have hnone : ∀ (i : Nat), m ≤ i → (l.take m).toArray[i]? = none := fun i hi => by simp; omega
  have hdone : ∀ (L : Array Bool) (a : Act) (w : World), L.size = m → Region.ready .any (l.take m).toArray L = [] → T a w → wpAny P .any l.toArray Q (l.length - m) (L ++ Array.replicate (l.length - m) false) a w := by
    intro L a w hs hno h
    have hfull : ∀ i, i < m → L.getD i false = true := by
      intro i
      induction i using Nat.strongRecOn with
      | _ i ih =>
        intro hi
        cases hl : L.getD i false with
        | true => rfl
        | false =>
          have hil : i < l.length := by omega
          have ho : (l.take m).toArray[i]? = some l[i] := by rw [hget i hi]; simp
          have hmm : i ∈ Region.ready .any (l.take m).toArray L := by
            rw [mem_ready]
            refine ⟨?_, _, ho, fun e he hb => ?_⟩
            · have h1 : i < L.size := by omega
              simpa [h1] using hl
            · have := hback i l[i] e (by simp) he hb
              exact ih _ this (by omega)
          rw [hno] at hmm; cases hmm
    have hL : L = Array.replicate m true := by
      apply Array.ext
      · simp [hs]
      · intro i h1 h2
        have := hfull i (by omega)
        simp only [Array.getD, h1, dif_pos] at this
        simpa using this
    subst hL
    have hlen : (l.drop m).length = l.length - m := by simp
    have := wpAny_of_seq (P := P) (ops := l.toArray) (md := .any) (Q' := Q) (l.drop m) m (Array.replicate m true ++ Array.replicate (l.length - m) false) a w (fun j => by simp) (by rw [hlen]; exact hseq) (hT a w h)
    rwa [hlen] at this
  intro f
  induction f with
  | zero =>
    intro L a w hs h
    have := hdone L a w hs h.1 h.2
    rwa [Nat.zero_add]
  | succ f ih =>
    intro L a w hs h
    by_cases hno : Region.ready .any (l.take m).toArray L = []
    · have := wpAny_more' (f + 1) _ _ _ _ (hdone L a w hs hno (h.1 hno))
      rwa [Nat.add_comm] at this
    · rw [show f + 1 + (l.length - m) = (f + (l.length - m)) + 1 by omega]
      obtain ⟨i0, hi0⟩ := List.exists_mem_of_ne_nil _ hno
      obtain ⟨hun0, o0, ho0, _⟩ := mem_ready.1 hi0
      have hi0m : i0 < m := by
        rcases Nat.lt_or_ge i0 m with h' | h'
        · exact h'
        · rw [hnone i0 h'] at ho0; cases ho0
      have hrd : ∀ i, i ∈ Region.ready .any l.toArray (L ++ Array.replicate (l.length - m) false) → i ∈ Region.ready .any (l.take m).toArray L ∧ i < m := by
        intro i hi
        obtain ⟨hun, o, ho, hw⟩ := mem_ready.1 hi
        have him : i < m := by
          rcases Nat.lt_or_ge i m with h' | h'
          · exact h'
          · exfalso
            have h1 := (hall _ (hmem i o (by simpa using ho))).2
            simp only [Bool.or_eq_true, decide_eq_true_eq, List.all_eq_true] at h1
            rcases h1 with h1 | h1
            · omega
            · obtain ⟨o', ho', e, he, hb, hon⟩ := Region.waitsFor_spec (h1 i0 (List.mem_range.2 hi0m))
              rw [ho] at ho'; cases ho'
              have := hw e he hb
              rw [hon, cut_listed hs, getD_both hun0] at this
              cases this
        refine ⟨mem_ready.2 ⟨?_, o, by rw [hget i him]; exact ho, fun e he hb => by have := hw e he hb; rwa [cut_listed hs] at this⟩, him⟩
        have h1 := getD_both hun
        rw [cut_listed hs] at h1
        exact getD_in (by omega) h1
      refine ⟨fun h0 => ?_, fun i hi => ?_⟩
      · exfalso
        have : i0 ∈ Region.ready .any l.toArray (L ++ Array.replicate (l.length - m) false) := by
          rw [mem_ready]
          obtain ⟨hun, o, ho, hw⟩ := mem_ready.1 hi0
          refine ⟨?_, o, by rw [← hget i0 hi0m]; exact ho, fun e he hb => by rw [cut_listed hs]; exact hw e he hb⟩
          apply getD_in
          · simp; omega
          · rw [cut_listed hs]; exact getD_both hun
        rw [h0] at this; cases this
      · obtain ⟨hi', him⟩ := hrd i hi
        have hop := h.2 i hi'
        unfold wpOp at hop ⊢
        rw [hget i him] at hop
        have hset : (L ++ Array.replicate (l.length - m) false).setIfInBounds i true = L.setIfInBounds i true ++ Array.replicate (l.length - m) false := by
          rw [Array.setIfInBounds_append_left (by omega)]
        obtain ⟨_, o, ho, _⟩ := mem_ready.1 hi
        rw [ho] at hop ⊢
        simp only at hop ⊢
        rw [hset]
        have hwant : Region.wanted o (yielded (l.take m).toArray a.tmps) = Region.wanted o (yielded l.toArray a.tmps) := by
          have h1 := (hall _ (hmem i o (by simpa using ho))).1.2
          unfold Region.wanted
          cases hg : o.guard with
          | none => rfl
          | some gb =>
            obtain ⟨g, b⟩ := gb
            rw [hg] at h1
            simp only [decide_eq_true_eq] at h1
            simp only
            unfold yielded
            rw [hget g (by omega)]
        rw [hwant] at hop
        by_cases hw : Region.wanted o (yielded l.toArray a.tmps) = true
        · rw [if_pos hw] at hop ⊢
          rcases hop with hop | hop
          · exact .inl (upon_turn (fun a' w' h' => ih _ a' w' (by simp [hs]) h') hop)
          · exact (letsOut_onlyN hop.2).elim
        · rw [if_neg hw] at hop ⊢
          exact ih _ _ _ (by simp [hs]) hop
end

/-- What the law of VRg gives, before the region's own. -/
theorem any_rg2 {P : Program} {ops : Array Oper} {a : Act} {w : World} {Q : Exit → Act → World → Prop} (R N : World → World → Prop) (Ps : List (Nat × Kind R))
    (hf : fine ops = true) (hL : lastOk Ps ops = true) (hsub : ∀ a b, N a b → R a b) (hnrefl : ∀ W, N W W) (hntr : ∀ a b c, N a b → N b c → N a c) (hrefl : ∀ W, R W W) (htr : ∀ a b c, R a b → R b c → R a c)
    (H : ∀ σ, RG P ops R N Ps w Q σ ops.toList 0 a) : wpAny P .any ops Q ops.size (Array.replicate ops.size false) a w := by
  refine run_any (a₀ := a) (w₀ := w) (Fine.of hf) hL hsub hnrefl hntr hrefl htr H ops.size _ (fun _ => undef) a _ ?_ ?_
  · exact Nat.le_trans (List.length_filter_le _ _) (by simp)
  · refine ⟨hrefl _, fun _ => hnrefl _, by simp, ?_, ?_, ?_⟩
    · intro i o e h
      simp [Array.getElem?_replicate] at h
      split at h <;> simp at h
    · have : wr (val P ops R Ps a w fun _ => undef) ops.size (fun i => (Array.replicate ops.size false).getD i false) ops = [] := by
        unfold wr
        rw [List.map_eq_nil_iff, List.filter_eq_nil_iff]
        intro x _
        simp [Array.getElem?_replicate]
        split <;> simp
      rw [this]; rfl
    · intro j _ h
      simp [Array.getElem?_replicate] at h
      split at h <;> simp at h

/-- THE LAW with a rest in a row. -/
theorem any_rg2_tail {P : Program} {l : List Oper} {a : Act} {w : World} {Q : Exit → Act → World → Prop} (m : Nat) (hc : cutOk l m = true) (R N : World → World → Prop) (Ps : List (Nat × Kind R))
    (hf : fine (l.take m).toArray = true) (hL : lastOk Ps (l.take m).toArray = true) (hsub : ∀ a b, N a b → R a b) (hnrefl : ∀ W, N W W) (hntr : ∀ a b c, N a b → N b c → N a c) (hrefl : ∀ W, R W W) (htr : ∀ a b c, R a b → R b c → R a c)
    (H : ∀ σ, RG P (l.take m).toArray R N Ps w (onlyN (wpList P l.toArray Q (l.drop m))) σ (l.take m) 0 a) : wpAny P .any l.toArray Q l.length (Array.replicate l.length false) a w := by
  have h1 := any_rg2 R N Ps hf hL hsub hnrefl hntr hrefl htr H
  have hle : m ≤ l.length := by simp only [cutOk, Bool.and_eq_true, decide_eq_true_eq] at hc; exact hc.1.1
  have hsz : (l.take m).toArray.size = m := by simp [hle]
  rw [hsz] at h1
  have h2 := cut_any hc (fun _ _ h => h) m (Array.replicate m false) a w (by simp) h1
  have e : m + (l.length - m) = l.length := by omega
  have e2 : Array.replicate m false ++ Array.replicate (l.length - m) false = Array.replicate l.length false := by
    rw [Array.replicate_append_replicate, e]
  rwa [e, e2] at h2

theorem wp_region_rg2_tail {P : Program} {l : List Oper} {id : Nat} {a : Act} {w : World} {Q : Exit → Act → World → Prop} (m : Nat) (R N : World → World → Prop) (Ps : List (Nat × Kind R)) (hm : P.follows .mixedOrders = true) (hc : cutOk l m = true)
    (hf : fine (l.take m).toArray = true) (hL : lastOk Ps (l.take m).toArray = true) (hsub : ∀ a b, N a b → R a b) (hnrefl : ∀ W, N W W) (hntr : ∀ a b c, N a b → N b c → N a c) (hrefl : ∀ W, R W W) (htr : ∀ a b c, R a b → R b c → R a c)
    (H : ∀ σ, RG P (l.take m).toArray R N Ps w.drew (onlyN (wpList P l.toArray Q (l.drop m))) σ (l.take m) 0 a) : (Code.region id l.toArray true).wp P Q a w :=
  wp_region_any hm (any_rg2_tail m hc R N Ps hf hL hsub hnrefl hntr hrefl htr H)

/-- The same in a round. -/
theorem wpIn_region_rg2_tail {P : Program} {l : List Oper} {id : Nat} {a : Act} {w : World} (T : Act → World → Prop) {Q : Exit → Act → World → Prop} (ll n m : Nat) (R N : World → World → Prop) (Ps : List (Nat × Kind R)) (hm : P.follows .mixedOrders = true) (hp : (l.all plainOp) = true) (hc : cutOk l m = true)
    (hf : fine (l.take m).toArray = true) (hL : lastOk Ps (l.take m).toArray = true) (hsub : ∀ a b, N a b → R a b) (hnrefl : ∀ W, N W W) (hntr : ∀ a b c, N a b → N b c → N a c) (hrefl : ∀ W, R W W) (htr : ∀ a b c, R a b → R b c → R a c) (hT : ∀ a w, T a w → Q .normal a w)
    (H : ∀ σ, RG P (l.take m).toArray R N Ps w.drew (onlyN (wpList P l.toArray (onlyN T) (l.drop m))) σ (l.take m) 0 a) : (Code.region id l.toArray true).wpIn (Fence.wide.inRound ll) n P Q a w :=
  wpIn_region_of_any T ll n hm hp hT (any_rg2_tail m hc R N Ps hf hL hsub hnrefl hntr hrefl htr H)

/-- A region in a round, no rest. -/
theorem wpIn_region_rg2 {P : Program} {ops : Array Oper} {id : Nat} {a : Act} {w : World} (T : Act → World → Prop) {Q : Exit → Act → World → Prop} (ll n : Nat) (R N : World → World → Prop) (Ps : List (Nat × Kind R)) (hm : P.follows .mixedOrders = true) (hp : (ops.toList.all plainOp) = true)
    (hf : fine ops = true) (hL : lastOk Ps ops = true) (hsub : ∀ a b, N a b → R a b) (hnrefl : ∀ W, N W W) (hntr : ∀ a b c, N a b → N b c → N a c) (hrefl : ∀ W, R W W) (htr : ∀ a b c, R a b → R b c → R a c) (hT : ∀ a w, T a w → Q .normal a w)
    (H : ∀ σ, RG P ops R N Ps w.drew (onlyN T) σ ops.toList 0 a) : (Code.region id ops true).wpIn (Fence.wide.inRound ll) n P Q a w :=
  wpIn_region_of_any T ll n hm hp hT (any_rg2 R N Ps hf hL hsub hnrefl hntr hrefl htr H)

end Go.VRg
