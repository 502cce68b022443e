/- An append to a row of a call's own, in a round of a range over a function. No program in sight. -/
import Derived.Test.YtjhhcfadeankfaaVOwn
import Derived.Test.YtjhhcfadeankfaaVSeq
namespace Go.VBase
open Go.RowKit

theorem wpListIn_append_G {F : Fence} {n' : Nat} {α : Type} {enc : α → List Value} {s by' : Nat} {z : Value} {P : Program} {t e : TypeId} (hT : ElemTy P t e z s by') (hs : 0 < s) (hf : ∀ a, (enc a).length = s) (h1 : ∀ a, ∀ u ∈ enc a, u.oneCell' = true)
    {ops : Array Oper} {rest : List Oper} {o : Oper} {a : Act} {Q : Exit → Act → World → Prop} (hgd : o.guard = none) (sl x : Operand)
    (ho : o.op = .call { callee := .builtin .append, args := #[sl, x], argTypes := #[t, t] })
    {W : World} {base : Nat} {v : Value} {l : List α} (y : α) {ad : Addr} {c : Nat} (hsl : a.eval sl = v) (hxe : a.eval x = .slice (some ad) 1 c) (h : OwnG enc s W base e v l)
    (hx : ∀ j u, (enc y)[j]? = some u → W.cell? (ad.add j) = some u) (hlen : (l.length + 1) * by' ≤ 140737488355328) (hl2 : l.length < 140737488355328) (hb : base ≤ W.heap.size)
    (hk : ∀ v' w', OwnG enc s w' base e v' (l ++ [y]) → W.grownBy w' v.ownBlock → wpListIn F n' P ops Q rest (a.put o.dst v') w') : wpListIn F n' P ops Q (o :: rest) a W := by
  refine wpListIn_plain hgd fun K hK => ?_
  obtain ⟨v', w', hr, g1, g2⟩ := run_append_G hT hs hf h1 o.type h hx hlen hl2 hb
  unfold Oper.wpIn
  refine ⟨?_, ?_⟩
  · simp [Oper.about, ho, resolve, Target.leads, Sem.run_pure]
  · rw [Oper.semAt_plain F _ _ (by rw [ho]; intro c hc'; cases hc')]
    simp [execOp, ho, resolve, invoke, builtin, hsl, hxe, Result.andThen]
    rw [hr]
    exact hK _ _ (hk v' w' g1 g2)
theorem ownG_cells {α : Type} {enc : α → List Value} {s : Nat} {w : World} {base e : Nat} {v : Value} {l : List α} (h : OwnG enc s w base e v l) {g : Nat} (hg : v.ownBlock = some g) {o : Obj} (ho : w.heap[g]? = some o) : o.isCells = true := by
  rcases h.2 with hn | ⟨g', cap, cur, rfl, hb, hgg, rest⟩
  · rw [hn.1] at hg; simp [Value.ownBlock] at hg
  · simp [Value.ownBlock] at hg; subst hg; rw [hgg] at ho; cases ho; rfl
end Go.VBase
