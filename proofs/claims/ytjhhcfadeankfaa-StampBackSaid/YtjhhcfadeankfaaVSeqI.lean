/- A range over a function whose rounds come in a known order, where the iterator turns an object of its own between them; the variable lies in a box. No program in sight. -/
import Derived.Test.YtjhhcfadeankfaaVSeqN
namespace Go.VSeq
open Go.RowKit

/-- The contract of an iterator that turns an object of its own: 'Rit' is what it may do between the rounds, 'Nx pre x V': behind 'pre' it is x, in the world V. -/
def SeqIt {α : Type} (P : Program) (g : Nat) (lb : Array Value) (encs : α → Array Value) (Nx : List α → α → World → Prop) (Kp Rit : World → World → Prop) (S : List α → World → Prop) (w : World) : Prop :=
  ∀ (l : Nat) (J Jx : List α → World → Prop) (W : World), Kp w W → AbidesFrom W.heap.size J → AbidesFrom W.heap.size Jx → (∀ pre V V', J pre V → Rit V V' → J pre V') →
    (∀ pre x V, J pre V → Nx pre x V → YieldAt Fence.wide 7 P l (encs x) V fun e V' => (e = .returned (.bool true) ∧ J (pre ++ [x]) V' ∧ Kp V V') ∨ (e = .returned (.bool false) ∧ Jx (pre ++ [x]) V')) →
    J [] W →
    CallsIn Fence.wide 8 P g (#[.func (.yield l) #[] #[]] ++ lb) W fun e W' => (∃ v, e = .returned v) ∧ ((∃ xs, S xs W' ∧ J xs W') ∨ (∃ pre, Jx pre W'))

theorem wp_rangeFunc_it {P : Program} {α : Type} {g : Operand} {ps : Array Tmp} {assign body : Code} {Q : Exit → Act → World → Prop} {a : Act} {w : World}
    {gf : Nat} {lb : Array Value} (hg : a.eval g = .func (.func gf) #[] lb) (eg : ∀ args w, (callFunc gf args).run P w = .ok (.enter gf args) w)
    {encs : α → Array Value} {Nx : List α → α → World → Prop} {Kp Rit : World → World → Prop} {S : List α → World → Prop} (hseq : SeqIt P gf lb encs Nx Kp Rit S w)
    (hKt : ∀ {A B C : World}, Kp A B → Kp B C → Kp A C) (hKr : Kp w w) (hKa : ∀ (W : World) (o : Obj), Kp W (W.alloc o)) (hKb : ∀ (W : World) (l : Nat) (o o' : Obj), w.heap.size ≤ l → W.heap[l]? = some o → o.isCells = false → o.isWalk = false → Kp W (W.putObj l o')) (hps : ∀ x, (encs x).size = ps.size)
    (hRK : ∀ V V', Rit V V' → KeepsOthers V V')
    (hNx : ∀ pre x (V V' : World), Kp V V' → Nx pre x V → Nx pre x V') (hS : ∀ xs (V V' : World), Kp V V' → S xs V → S xs V')
    (I : List α → World → Prop) (Ix : Code → List α → World → Prop) (hI : OwnFrom w.heap.size I) (hIx : ∀ c, OwnFrom w.heap.size (Ix c)) (hIR : ∀ pre V V', I pre V → Rit V V' → I pre V') (h0 : I [] w) (a₁ : α → Nat → Act) (bx : α → Obj)
    (hassign : ∀ (l : Nat) (x : α) (W : World) (K : Act → World → Prop), K (a₁ x W.heap.size) (W.alloc (bx x)) →
      assign.wpIn (Fence.wide.inRound l) 7 P (Exit.then K (fun _ _ _ => False)) { tmps := (ps.zip (encs x)).foldl (fun t (p, v) => t.setIfInBounds p v) a.tmps, defers := [] } W)
    (hbody : ∀ (l : Nat) (pre : List α) (x : α) (n : Nat) (W : World), I pre W → Nx pre x W → w.heap.size ≤ n → W.heap[n]? = some (bx x) → body.wpIn (Fence.wide.inRound l) 7 P (ownPostK Kp I Ix (pre ++ [x]) W) (a₁ x n) W)
    (hdone : ∀ (D : Nat) (xs : List α) (W : World), w.heap.size ≤ D → S xs W → I xs W → W.heap[D]? = some (.deferred (some [])) → Q .normal { a with defers := { target := .collected D, args := #[] } :: a.defers } W)
    (hstop : ∀ (D : Nat) (c : Code) (pre : List α) (W : World), w.heap.size ≤ D → Ix c pre W → W.heap[D]? = some (.deferred (some [])) → c.wp P Q { a with defers := { target := .collected D, args := #[] } :: a.defers } W) :
    (Code.rangeFunc g ps assign body).wp P Q a w := by
  refine wpIn_wide.1 (wpIn_rangeFunc (F := Fence.wide) (n := 9) fun fn hfn => ?_)
  have hbk : Books fn a.tmps ps assign body w.heap.size .ready none ((w.alloc (.deferred (some []))).alloc (recO fn a.tmps ps assign body w.heap.size .ready none)) :=
    ⟨by have := heap_alloc_new (w.alloc (.deferred (some []))) (recO fn a.tmps ps assign body w.heap.size .ready none); rwa [World.size_alloc] at this, (Below.heap_alloc _ _ _ (by simp)).trans (heap_alloc_new w _)⟩
  have hlow : Kp w ((w.alloc (.deferred (some []))).alloc (recO fn a.tmps ps assign body w.heap.size .ready none)) := hKt (hKa _ _) (hKa _ _)
  have hI1 := hI.alloc (recO fn a.tmps ps assign body w.heap.size .ready none) (hI.alloc (.deferred (some [])) h0)
  have hsz : ((w.alloc (.deferred (some []))).alloc (recO fn a.tmps ps assign body w.heap.size .ready none)).heap.size = w.heap.size + 2 := by simp
  have hen : (Instr.enterLoop fn a.tmps ps assign body Fence.wide.round).run P w = .ok (w.heap.size + 1, [{ target := .collected w.heap.size, args := #[] }]) ((w.alloc (.deferred (some []))).alloc (recO fn a.tmps ps assign body w.heap.size .ready none)) := run_enterLoop_outer _ _ _ _ _
  generalize (w.alloc (.deferred (some []))).alloc (recO fn a.tmps ps assign body w.heap.size .ready none) = W1 at *
  have hnw : ∀ {A : World} {row : Option Nat}, (∀ r, row = some r → W1.heap.size ≤ r ∧ ∃ o : Obj, A.heap[r]? = some o ∧ o.isWalk = true) → ∀ r, row = some r → w.heap.size ≤ r ∧ ∃ o : Obj, A.heap[r]? = some o ∧ o.isCells = false :=
    fun hr r e => by obtain ⟨h1, o, h2, h3⟩ := hr r e; exact ⟨by omega, o, h2, Obj.not_cells_of_walk h3⟩
  refine ⟨_, _, W1, { target := .fn (.func gf) lb, args := #[.func (.yield (w.heap.size + 1)) #[] #[]] }, W1, gf, #[.func (.yield (w.heap.size + 1)) #[] #[]] ++ lb, W1, hen, ?_, ?_, ?_, ⟨fun _ => by decide, ?_⟩⟩
  · simp only [resolve, hg]; simp [go_sem]
  · intro f' _; trivial
  · simp [invoke, go_sem, eg]
  refine (hseq (w.heap.size + 1) (fun pre W => I pre W ∧ Books fn a.tmps ps assign body w.heap.size .ready none W) (fun pre W => ∃ c, Ix c pre W ∧ Books fn a.tmps ps assign body w.heap.size .done (some c) W) W1 hlow
    (fun s A B row hs hg' hr => ⟨hI s A B row hs.1 hg' (hnw hr), hs.2.walk hg' fun r e => (hr r e).2⟩)
    (fun s A B row hs hg' hr => by obtain ⟨c, h1, h2⟩ := hs; exact ⟨c, hIx c s A B row h1 hg' (hnw hr), h2.walk hg' fun r e => (hr r e).2⟩)
    (fun pre V V' hs hr => ⟨hIR pre V V' hs.1 hr, hs.2.keep (hRK V V' hr)⟩) ?_ ⟨hI1, hbk⟩).mono ?_
  · rintro pre x W ⟨hi, hB⟩ hnx
    have hy := run_yield (P := P) (args := encs x) hB.1 (hps x)
    have hlt : w.heap.size + 1 < W.heap.size := (Array.getElem?_eq_some_iff.1 hB.1).1
    have hB0 := hB
    have hbox := heap_alloc_new W (bx x)
    have hB : Books fn a.tmps ps assign body w.heap.size .ready none (W.alloc (bx x)) := hB0.keep ⟨by simp, fun k o hk _ => (Below.heap_alloc _ _ _ (Array.getElem?_eq_some_iff.1 hk).1).trans hk⟩
    have hi := hI.alloc (bx x) hi
    have hwa : Kp W (W.alloc (bx x)) := hKa _ _
    have hnx := hNx pre x _ _ hwa hnx
    refine ⟨fn, _, assign, body, hy, roundIn_of_wpIn hfn (hassign _ x W _ ⟨_, run_beginRound hB.1 rfl, ?_⟩)⟩
    have hbx2 : ((W.alloc (bx x)).putObj (w.heap.size + 1) (recO fn a.tmps ps assign body w.heap.size .busy none)).heap[W.heap.size]? = some (bx x) := (World.putObj_heap_other (by omega)).trans hbox
    generalize hWg : W.alloc (bx x) = WB at *
    have hB2 : Books fn a.tmps ps assign body w.heap.size .busy none (WB.putObj (w.heap.size + 1) (recO fn a.tmps ps assign body w.heap.size .busy none)) := hB.put
    have hkp1 : Kp WB (WB.putObj (w.heap.size + 1) (recO fn a.tmps ps assign body w.heap.size .busy none)) := hKb _ _ _ _ (by omega) hB.1 rfl rfl
    refine wpIn_mono (hbody _ pre x W.heap.size _ (hI.putObj _ hi (by omega) hB.1 rfl) (hNx _ _ _ _ hkp1 hnx) (by omega) hbx2) ?_
    have hw2 : Kp W (WB.putObj (w.heap.size + 1) (recO fn a.tmps ps assign body w.heap.size .busy none)) := hKt hwa hkp1
    have leave : ∀ (c : Code) (V : World), KeepsOthers (WB.putObj (w.heap.size + 1) (recO fn a.tmps ps assign body w.heap.size .busy none)) V → Ix c (pre ++ [x]) V →
        ∃ v V', (Instr.endRound (w.heap.size + 1) (some c)).run P V = .ok v V' ∧ ((Ending.returned v = .returned (.bool true) ∧ (I (pre ++ [x]) V' ∧ Books fn a.tmps ps assign body w.heap.size .ready none V') ∧ Kp W V') ∨
          (Ending.returned v = .returned (.bool false) ∧ ∃ c, Ix c (pre ++ [x]) V' ∧ Books fn a.tmps ps assign body w.heap.size .done (some c) V')) := fun c V hk hx => by
      have hBV := hB2.keep hk
      exact ⟨_, _, run_endRound (P := P) (some c) hBV.1, .inr ⟨rfl, c, (hIx c).putObj _ hx (by omega) hBV.1 rfl, hBV.put⟩⟩
    rintro e a3 V hp
    cases e with
    | normal =>
      obtain ⟨hk, hkp, hi3⟩ := hp
      have hBV := hB2.keep hk
      exact ⟨_, _, run_endRound (P := P) none hBV.1, .inl ⟨rfl, ⟨hI.putObj _ hi3 (by omega) hBV.1 rfl, hBV.put⟩, hKt (hKt hw2 hkp) (hKb _ _ _ _ (by omega) hBV.1 rfl rfl)⟩⟩
    | ret => exact leave _ V hp.1 hp.2
    | exit id => exact leave _ V hp.1 hp.2
    | goto t => exact leave _ V hp.1 hp.2
    | panic ch => exact hp.elim
    | outgrown => exact hp.elim
  · rintro e W2 ⟨⟨v, rfl⟩, (⟨xs, hSx, hi, hB⟩ | ⟨pre, c, hi, hB⟩)⟩
    · exact ⟨none, _, run_endLoop (P := P) hB.1 (by simp), hdone _ xs _ (Nat.le_refl _) (hS _ _ _ (hKb _ _ _ _ (by omega) hB.1 rfl rfl) hSx) (hI.putObj _ hi (by omega) hB.1 rfl) ((World.putObj_heap_other (by omega)).trans hB.2)⟩
    · exact ⟨some c, _, run_endLoop (P := P) hB.1 (by simp), wpIn_wide.2 (hstop _ c pre _ (Nat.le_refl _) ((hIx c).putObj _ hi (by omega) hB.1 rfl) ((World.putObj_heap_other (by omega)).trans hB.2))⟩
/-- One variable, in a box whose pointer lies in the slot q. -/
theorem wp_rangeFunc1_it {P : Program} {α : Type} {g : Operand} {p q : Tmp} {assign body : Code} {Q : Exit → Act → World → Prop} {a : Act} {w : World}
    {gf : Nat} {lb : Array Value} (hg : a.eval g = .func (.func gf) #[] lb) (eg : ∀ args w, (callFunc gf args).run P w = .ok (.enter gf args) w)
    {enc : α → Value} {Nx : List α → α → World → Prop} {Kp Rit : World → World → Prop} {S : List α → World → Prop} (hseq : SeqIt P gf lb (fun x => #[enc x]) Nx Kp Rit S w)
    (hKt : ∀ {A B C : World}, Kp A B → Kp B C → Kp A C) (hKr : Kp w w) (hKa : ∀ (W : World) (o : Obj), Kp W (W.alloc o)) (hKb : ∀ (W : World) (l : Nat) (o o' : Obj), w.heap.size ≤ l → W.heap[l]? = some o → o.isCells = false → o.isWalk = false → Kp W (W.putObj l o'))
    (hRK : ∀ V V', Rit V V' → KeepsOthers V V')
    (hNx : ∀ pre x (V V' : World), Kp V V' → Nx pre x V → Nx pre x V') (hS : ∀ xs (V V' : World), Kp V V' → S xs V → S xs V')
    (I : List α → World → Prop) (Ix : Code → List α → World → Prop) (hI : OwnFrom w.heap.size I) (hIx : ∀ c, OwnFrom w.heap.size (Ix c)) (hIR : ∀ pre V V', I pre V → Rit V V' → I pre V') (h0 : I [] w) (bx : α → Obj)
    (hassign : ∀ (l : Nat) (x : α) (W : World) (K : Act → World → Prop), K { tmps := (a.tmps.setIfInBounds p (enc x)).setIfInBounds q (.pointer (some ⟨W.heap.size, 0, none⟩)), defers := [] } (W.alloc (bx x)) →
      assign.wpIn (Fence.wide.inRound l) 7 P (Exit.then K (fun _ _ _ => False)) { tmps := a.tmps.setIfInBounds p (enc x), defers := [] } W)
    (hbody : ∀ (l : Nat) (pre : List α) (x : α) (n : Nat) (W : World), I pre W → Nx pre x W → w.heap.size ≤ n → W.heap[n]? = some (bx x) → body.wpIn (Fence.wide.inRound l) 7 P (ownPostK Kp I Ix (pre ++ [x]) W) { tmps := (a.tmps.setIfInBounds p (enc x)).setIfInBounds q (.pointer (some ⟨n, 0, none⟩)), defers := [] } W)
    (hdone : ∀ (D : Nat) (xs : List α) (W : World), w.heap.size ≤ D → S xs W → I xs W → W.heap[D]? = some (.deferred (some [])) → Q .normal { a with defers := { target := .collected D, args := #[] } :: a.defers } W)
    (hstop : ∀ (D : Nat) (c : Code) (pre : List α) (W : World), w.heap.size ≤ D → Ix c pre W → W.heap[D]? = some (.deferred (some [])) → c.wp P Q { a with defers := { target := .collected D, args := #[] } :: a.defers } W) :
    (Code.rangeFunc g #[p] assign body).wp P Q a w :=
  wp_rangeFunc_it hg eg hseq hKt hKr hKa hKb (fun x => rfl) hRK hNx hS I Ix hI hIx hIR h0 (fun x n => { tmps := (a.tmps.setIfInBounds p (enc x)).setIfInBounds q (.pointer (some ⟨n, 0, none⟩)), defers := [] }) bx
    (fun l x W K hK => by have := hassign l x W K hK; simpa using this) hbody hdone hstop
end Go.VSeq
