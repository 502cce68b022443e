/- A range over a function whose rounds come in a known order: the round is told which element it is. No program in sight. -/
import Derived.Test.YtcdaelgnankmfaaVSeq
import Derived.Lib.Hide
namespace Go.VSeq
open Go.RowKit

/-- All cells stay as they are. -/
def KpC (W W' : World) : Prop := ∀ (k : Nat) (o : Obj), W.heap[k]? = some o → o.isCells = true → W'.heap[k]? = some o
theorem KpC.refl (W : World) : KpC W W := fun _ _ h _ => h
theorem KpC.trans {A B C : World} (h : KpC A B) (k : KpC B C) : KpC A C := fun i o hi ho => k i o (h i o hi ho) ho
theorem KpC.put (W : World) (l : Nat) (o o' : Obj) (hl : W.heap[l]? = some o) (ho : o.isCells = false) : KpC W (W.putObj l o') := fun k q hk hq => by
  by_cases e : k = l
  · subst e; rw [hl] at hk; cases hk; rw [ho] at hq; cases hq
  · exact (World.putObj_heap_other (fun h => e h)).trans hk

/-- The contract of an iterator that tells what comes next: 'Nx pre x': behind 'pre' it is x. -/
def SeqNx {α : Type} (P : Program) (g : Nat) (lb : Array Value) (encs : α → Array Value) (Nx : List α → α → Prop) (Kp : World → World → Prop) (S Sp : List α → Prop) (w : World) : Prop :=
  ∀ (l : Nat) (J Jx : List α → World → Prop) (W : World), Below w.heap.size w W → AbidesFrom W.heap.size J → AbidesFrom W.heap.size Jx →
    (∀ pre x V, J pre V → Nx pre x → YieldAt Fence.wide 7 P l (encs x) V fun e V' => (e = .returned (.bool true) ∧ J (pre ++ [x]) V' ∧ Kp V V') ∨ (e = .returned (.bool false) ∧ Jx (pre ++ [x]) V')) →
    J [] W →
    CallsIn Fence.wide 8 P g (#[.func (.yield l) #[] #[]] ++ lb) W fun e W' => (∃ v, e = .returned v) ∧ ((∃ xs, S xs ∧ J xs W') ∨ (∃ pre, Sp pre ∧ Jx pre W'))

section
variable {P : Program} {fn : FuncId} {tm : Array Value} {ps : Array Tmp} {assign body : Code} {K : Nat}
/-- The loop's record. -/
def recO (fn : FuncId) (tm : Array Value) (ps : Array Tmp) (assign body : Code) (K : Nat) (st : LoopState) (pe : Option Code) : Obj :=
  .loop { state := st, pending := pe, fn := fn, tmps := tm, params := ps, assign := assign, body := body, defers := K }
/-- The record, and the block of the rounds' deferred calls, as they lie between two rounds. -/
def Books (fn : FuncId) (tm : Array Value) (ps : Array Tmp) (assign body : Code) (K : Nat) (st : LoopState) (pe : Option Code) (W : World) : Prop :=
  W.heap[K + 1]? = some (recO fn tm ps assign body K st pe) ∧ W.heap[K]? = some (.deferred (some []))
theorem Books.put {st st' : LoopState} {pe pe' : Option Code} {W : World} (h : Books fn tm ps assign body K st pe W) : Books fn tm ps assign body K st' pe' (W.putObj (K + 1) (recO fn tm ps assign body K st' pe')) :=
  ⟨World.putObj_heap_same (Array.getElem?_eq_some_iff.1 h.1).1, (World.putObj_heap_other (by omega)).trans h.2⟩
theorem Books.keep {st : LoopState} {pe : Option Code} {W W' : World} (h : Books fn tm ps assign body K st pe W) (k : KeepsOthers W W') : Books fn tm ps assign body K st pe W' :=
  ⟨k.same _ _ h.1 rfl, k.same _ _ h.2 rfl⟩
theorem Books.walk {st : LoopState} {pe : Option Code} {W W' : World} {row : Option Nat} (h : Books fn tm ps assign body K st pe W) (hg : W.grownBy W' row) (hr : ∀ r, row = some r → ∃ o : Obj, W.heap[r]? = some o ∧ o.isWalk = true) : Books fn tm ps assign body K st pe W' :=
  ⟨(grownBy_keeps hg hr h.1 rfl).trans h.1, (grownBy_keeps hg hr h.2 rfl).trans h.2⟩
end

theorem wp_rangeFunc_nx {P : Program} {α : Type} {g : Operand} {ps : Array Tmp} {assign body : Code} {Q : Exit → Act → World → Prop} {a : Act} {w : World}
    {gf : Nat} {lb : Array Value} (hg : a.eval g = .func (.func gf) #[] lb) (eg : ∀ args w, (callFunc gf args).run P w = .ok (.enter gf args) w)
    {encs : α → Array Value} {Nx : List α → α → Prop} {Kp : World → World → Prop} {S Sp : List α → Prop} (hseq : SeqNx P gf lb encs Nx Kp S Sp w)
    (hKt : ∀ {A B C : World}, Kp A B → Kp B C → Kp A C) (hKb : ∀ (W : World) (l : Nat) (o o' : Obj), w.heap.size ≤ l → W.heap[l]? = some o → o.isCells = false → o.isWalk = false → Kp W (W.putObj l o')) (hps : ∀ x, (encs x).size = ps.size)
    (I : List α → World → Prop) (Ix : Code → List α → World → Prop) (hI : OwnFrom w.heap.size I) (hIx : ∀ c, OwnFrom w.heap.size (Ix c)) (h0 : I [] w) (a₁ : α → Act)
    (hassign : ∀ (l : Nat) (x : α) (W : World) (K : Act → World → Prop), K (a₁ x) W →
      assign.wpIn (Fence.wide.inRound l) 7 P (Exit.then K (fun _ _ _ => False)) { tmps := (ps.zip (encs x)).foldl (fun t (p, v) => t.setIfInBounds p v) a.tmps, defers := [] } W)
    (hbody : ∀ (l : Nat) (pre : List α) (x : α) (W : World), I pre W → Nx pre x → body.wpIn (Fence.wide.inRound l) 7 P (ownPostK Kp I Ix (pre ++ [x]) W) (a₁ x) W)
    (hdone : ∀ (D : Nat) (xs : List α) (W : World), w.heap.size ≤ D → S xs → I xs W → W.heap[D]? = some (.deferred (some [])) → Q .normal { a with defers := { target := .collected D, args := #[] } :: a.defers } W)
    (hstop : ∀ (D : Nat) (c : Code) (pre : List α) (W : World), w.heap.size ≤ D → Sp pre → Ix c pre W → W.heap[D]? = some (.deferred (some [])) → c.wp P Q { a with defers := { target := .collected D, args := #[] } :: a.defers } W) :
    (Code.rangeFunc g ps assign body).wp P Q a w := by
  refine wpIn_wide.1 (wpIn_rangeFunc (F := Fence.wide) (n := 9) fun fn hfn => ?_)
  have hbk : Books fn a.tmps ps assign body w.heap.size .ready none ((w.alloc (.deferred (some []))).alloc (recO fn a.tmps ps assign body w.heap.size .ready none)) :=
    ⟨by have := heap_alloc_new (w.alloc (.deferred (some []))) (recO fn a.tmps ps assign body w.heap.size .ready none); rwa [World.size_alloc] at this, (Below.heap_alloc _ _ _ (by simp)).trans (heap_alloc_new w _)⟩
  have hlow : Below w.heap.size w ((w.alloc (.deferred (some []))).alloc (recO fn a.tmps ps assign body w.heap.size .ready none)) := ((Below.refl _ w).alloc (Nat.le_refl _) _).alloc (by simp) _
  have hI1 := hI.alloc (recO fn a.tmps ps assign body w.heap.size .ready none) (hI.alloc (.deferred (some [])) h0)
  have hsz : ((w.alloc (.deferred (some []))).alloc (recO fn a.tmps ps assign body w.heap.size .ready none)).heap.size = w.heap.size + 2 := by simp
  have hen : (Instr.enterLoop fn a.tmps ps assign body Fence.wide.round).run P w = .ok (w.heap.size + 1, [{ target := .collected w.heap.size, args := #[] }]) ((w.alloc (.deferred (some []))).alloc (recO fn a.tmps ps assign body w.heap.size .ready none)) := run_enterLoop_outer _ _ _ _ _
  generalize (w.alloc (.deferred (some []))).alloc (recO fn a.tmps ps assign body w.heap.size .ready none) = W1 at *
  have hnw : ∀ {A : World} {row : Option Nat}, (∀ r, row = some r → W1.heap.size ≤ r ∧ ∃ o : Obj, A.heap[r]? = some o ∧ o.isWalk = true) → ∀ r, row = some r → w.heap.size ≤ r ∧ ∃ o : Obj, A.heap[r]? = some o ∧ o.isCells = false :=
    fun hr r e => by obtain ⟨h1, o, h2, h3⟩ := hr r e; exact ⟨by omega, o, h2, Obj.not_cells_of_walk h3⟩
  refine ⟨_, _, W1, { target := .fn (.func gf) lb, args := #[.func (.yield (w.heap.size + 1)) #[] #[]] }, W1, gf, #[.func (.yield (w.heap.size + 1)) #[] #[]] ++ lb, W1, hen, ?_, ?_, ?_, ⟨fun _ => by decide, ?_⟩⟩
  · simp only [resolve, hg]; simp [go_sem]
  · intro f' _; trivial
  · simp [invoke, go_sem, eg]
  refine (hseq (w.heap.size + 1) (fun pre W => I pre W ∧ Books fn a.tmps ps assign body w.heap.size .ready none W) (fun pre W => ∃ c, Ix c pre W ∧ Books fn a.tmps ps assign body w.heap.size .done (some c) W) W1 hlow
    (fun s A B row hs hg' hr => ⟨hI s A B row hs.1 hg' (hnw hr), hs.2.walk hg' fun r e => (hr r e).2⟩)
    (fun s A B row hs hg' hr => by obtain ⟨c, h1, h2⟩ := hs; exact ⟨c, hIx c s A B row h1 hg' (hnw hr), h2.walk hg' fun r e => (hr r e).2⟩) ?_ ⟨hI1, hbk⟩).mono ?_
  · rintro pre x W ⟨hi, hB⟩ hnx
    have hy := run_yield (P := P) (args := encs x) hB.1 (hps x)
    refine ⟨fn, _, assign, body, hy, roundIn_of_wpIn hfn (hassign _ x W _ ⟨_, run_beginRound hB.1 rfl, ?_⟩)⟩
    have hB2 : Books fn a.tmps ps assign body w.heap.size .busy none (W.putObj (w.heap.size + 1) (recO fn a.tmps ps assign body w.heap.size .busy none)) := hB.put
    refine wpIn_mono (hbody _ pre x _ (hI.putObj _ hi (by omega) hB.1 rfl) hnx) ?_
    have hw2 : Kp W (W.putObj (w.heap.size + 1) (recO fn a.tmps ps assign body w.heap.size .busy none)) := hKb _ _ _ _ (by omega) hB.1 rfl rfl
    have leave : ∀ (c : Code) (V : World), KeepsOthers (W.putObj (w.heap.size + 1) (recO fn a.tmps ps assign body w.heap.size .busy none)) V → Ix c (pre ++ [x]) V →
        ∃ v V', (Instr.endRound (w.heap.size + 1) (some c)).run P V = .ok v V' ∧ ((Ending.returned v = .returned (.bool true) ∧ (I (pre ++ [x]) V' ∧ Books fn a.tmps ps assign body w.heap.size .ready none V') ∧ Kp W V') ∨
          (Ending.returned v = .returned (.bool false) ∧ ∃ c, Ix c (pre ++ [x]) V' ∧ Books fn a.tmps ps assign body w.heap.size .done (some c) V')) := fun c V hk hx => by
      have hBV := hB2.keep hk
      exact ⟨_, _, run_endRound (P := P) (some c) hBV.1, .inr ⟨rfl, c, (hIx c).putObj _ hx (by omega) hBV.1 rfl, hBV.put⟩⟩
    rintro e a3 V hp
    cases e with
    | normal =>
      obtain ⟨hk, hkp, hi3⟩ := hp
      have hBV := hB2.keep hk
      exact ⟨_, _, run_endRound (P := P) none hBV.1, .inl ⟨rfl, ⟨hI.putObj _ hi3 (by omega) hBV.1 rfl, hBV.put⟩, hKt (hKt hw2 hkp) (hKb _ _ _ _ (by omega) hBV.1 rfl rfl)⟩⟩
    | ret => exact leave _ V hp.1 hp.2
    | exit id => exact leave _ V hp.1 hp.2
    | goto t => exact leave _ V hp.1 hp.2
    | panic ch => exact hp.elim
    | outgrown => exact hp.elim
  · rintro e W2 ⟨⟨v, rfl⟩, (⟨xs, hS, hi, hB⟩ | ⟨pre, hSp, c, hi, hB⟩)⟩
    · exact ⟨none, _, run_endLoop (P := P) hB.1 (by simp), hdone _ xs _ (Nat.le_refl _) hS (hI.putObj _ hi (by omega) hB.1 rfl) ((World.putObj_heap_other (by omega)).trans hB.2)⟩
    · exact ⟨some c, _, run_endLoop (P := P) hB.1 (by simp), wpIn_wide.2 (hstop _ c pre _ (Nat.le_refl _) hSp ((hIx c).putObj _ hi (by omega) hB.1 rfl) ((World.putObj_heap_other (by omega)).trans hB.2))⟩
/-- Two variables, which the round's code finds in the slots q1, q2. -/
theorem wp_rangeFunc2_nx {P : Program} {α : Type} {g : Operand} {p1 p2 q1 q2 : Tmp} {assign body : Code} {Q : Exit → Act → World → Prop} {a : Act} {w : World}
    {gf : Nat} {lb : Array Value} (hg : a.eval g = .func (.func gf) #[] lb) (eg : ∀ args w, (callFunc gf args).run P w = .ok (.enter gf args) w)
    {e1 e2 : α → Value} {Nx : List α → α → Prop} {Kp : World → World → Prop} {S Sp : List α → Prop} (hseq : SeqNx P gf lb (fun x => #[e1 x, e2 x]) Nx Kp S Sp w)
    (hKt : ∀ {A B C : World}, Kp A B → Kp B C → Kp A C) (hKb : ∀ (W : World) (l : Nat) (o o' : Obj), w.heap.size ≤ l → W.heap[l]? = some o → o.isCells = false → o.isWalk = false → Kp W (W.putObj l o'))
    (I : List α → World → Prop) (Ix : Code → List α → World → Prop) (hI : OwnFrom w.heap.size I) (hIx : ∀ c, OwnFrom w.heap.size (Ix c)) (h0 : I [] w)
    (hassign : ∀ (l : Nat) (x : α) (W : World) (K : Act → World → Prop), K { tmps := (((a.tmps.setIfInBounds p1 (e1 x)).setIfInBounds p2 (e2 x)).setIfInBounds q1 (e1 x)).setIfInBounds q2 (e2 x), defers := [] } W →
      assign.wpIn (Fence.wide.inRound l) 7 P (Exit.then K (fun _ _ _ => False)) { tmps := (a.tmps.setIfInBounds p1 (e1 x)).setIfInBounds p2 (e2 x), defers := [] } W)
    (hbody : ∀ (l : Nat) (pre : List α) (x : α) (W : World), I pre W → Nx pre x → body.wpIn (Fence.wide.inRound l) 7 P (ownPostK Kp I Ix (pre ++ [x]) W) { tmps := (((a.tmps.setIfInBounds p1 (e1 x)).setIfInBounds p2 (e2 x)).setIfInBounds q1 (e1 x)).setIfInBounds q2 (e2 x), defers := [] } W)
    (hdone : ∀ (D : Nat) (xs : List α) (W : World), w.heap.size ≤ D → S xs → I xs W → W.heap[D]? = some (.deferred (some [])) → Q .normal { a with defers := { target := .collected D, args := #[] } :: a.defers } W)
    (hstop : ∀ (D : Nat) (c : Code) (pre : List α) (W : World), w.heap.size ≤ D → Sp pre → Ix c pre W → W.heap[D]? = some (.deferred (some [])) → c.wp P Q { a with defers := { target := .collected D, args := #[] } :: a.defers } W) :
    (Code.rangeFunc g #[p1, p2] assign body).wp P Q a w :=
  wp_rangeFunc_nx hg eg hseq hKt hKb (fun x => rfl) I Ix hI hIx h0 (fun x => { tmps := (((a.tmps.setIfInBounds p1 (e1 x)).setIfInBounds p2 (e2 x)).setIfInBounds q1 (e1 x)).setIfInBounds q2 (e2 x), defers := [] })
    (fun l x W K hK => by have := hassign l x W K hK; simpa using this) hbody hdone hstop
end Go.VSeq
