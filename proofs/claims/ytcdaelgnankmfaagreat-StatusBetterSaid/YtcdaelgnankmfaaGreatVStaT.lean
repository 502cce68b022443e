/- Frames: one of one's own (the reference's Twin). -/
import Derived.Test.YtcdaelgnankmfaaGreatVFrm
import Derived.Test.YtcdaelgnankmfaaGreatVRef01
namespace Go.Proofs.YtcdaelgnankmfaaGreat.VSta
open Go.RowKit Go.VBase Go.VRg Go.VEq VCst VMsg VRef01

theorem frm_other {w w' : World} {base e : Nat} {v : Value} {l : List UInt8} (h : OwnB w base e v l) (hk : ∀ k, base ≤ k → w'.heap[k]? = w.heap[k]?) : OwnB w' base e v l := by
  refine ⟨h.1, ?_⟩
  rcases h.2 with hn | ⟨g, cap, cur, rfl, hb, hg, rest⟩
  · exact .inl hn
  · exact .inr ⟨g, cap, cur, rfl, hb, (hk g hb).trans hg, rest⟩
theorem storeFrm {ops : Array Oper} {rest : List Oper} {o : Oper} {a : Act} {Q : Exit → Act → World → Prop} {W : World} {x y : Operand} {b : Nat} {T' : TypeId} {m : FrmD} {sa : Option Addr} {sn sc : Nat} {old : Array Value}
    (h : W.heap[b]? = some (.cells old T')) (hold : old.size = 6) (hgd : o.guard = none) (ho : o.op = .store TFrm x y) (hx : a.eval x = .pointer (some ⟨b, 0, none⟩)) (hy : a.eval y = .agg (frmC m (.slice sa sn sc)))
    (hk : wpList Tryz.prog ops Q rest (a.put o.dst undef) (W.setRow b (frmC m (.slice sa sn sc)))) : wpList Tryz.prog ops Q (o :: rest) a W :=
  wpList_store_row hgd _ _ _ ho b _ hx hy T' old h (by kernel_rfl) hold (by unfold frmC; simp [Value.oneCell']) hk

end Go.Proofs.YtcdaelgnankmfaaGreat.VSta
