/- '==' on structs whose fields are integers; a string's bytes. No program in sight. -/
import Derived.Test.YtcdaelgnankmfaaVBase
import Derived.WalkKit
import Derived.DeepKeys
namespace Go.VEq
open Go.RowKit Go.VBase
def intAt (xs : Array Value) (i : Nat) : Int := match xs[i]? with | some (.int _ n) => n | _ => 0
def isI64 (P : Program) (t : TypeId) : Bool := match P.underlying t with | some (.int .i64) => true | _ => false
theorem isI64_eq {P : Program} {t : TypeId} (h : isI64 P t = true) : P.underlying t = some (.int .i64) := by
  unfold isI64 at h
  split at h
  · assumption
  · cases h
theorem run_eqFields_ints {P : Program} (w : World) (d : Nat) (xs ys : Array Value) : ∀ (fs : List Field), (∀ f ∈ fs, f.name ≠ "_" ∧ isI64 P f.type = true ∧ (∃ a, xs[f.offset]? = some (.int .i64 a)) ∧ (∃ b, ys[f.offset]? = some (.int .i64 b))) →
    (Op.eqFields (d + 1) xs ys fs).run P w = .ok (fs.all fun f => decide (intAt xs f.offset = intAt ys f.offset)) w
  | [], _ => by simp [Op.eqFields]
  | f :: fs, h => by
    obtain ⟨h1, h2, ⟨a, ha⟩, ⟨b, hb⟩⟩ := h f (by simp)
    have ih := run_eqFields_ints w d xs ys fs (fun g hg => h g (by simp [hg]))
    have hu := isI64_eq h2
    have pa : (part f.type xs f.offset).run P w = .ok (.int .i64 a) w := by simp [part, isAgg, run_underlying hu, ha]
    have pb : (part f.type ys f.offset).run P w = .ok (.int .i64 b) w := by simp [part, isAgg, run_underlying hu, hb]
    have he : (Op.equalIn (d + 1) f.type (.int .i64 a) (.int .i64 b)).run P w = .ok (a == b) w := by simp [Op.equalIn, run_underlying hu]
    have ia : intAt xs f.offset = a := by unfold intAt; rw [ha]
    have ib : intAt ys f.offset = b := by unfold intAt; rw [hb]
    simp only [Op.eqFields, h1, ne_eq, not_false_eq_true, if_true, Sem.run_bind, pa, pb, he, Result.andThen_ok, List.all_cons, ia, ib]
    by_cases hab : a = b
    · subst hab; simp [ih]
    · simp [hab]
/-- '==' on structs whose fields are integers. -/
theorem run_eql_ints {P : Program} {t : TypeId} {n : Nat} (hu : P.underlying t = some (.struct (P.fieldsOf t))) (hs : P.stoodInHeld t = false) (hf : ((P.fieldsOf t).toList.all fun f => f.name != "_" && isI64 P f.type && decide (f.offset < n)) = true)
    (a b : Fin n → Int) (w : World) : (binOp .eql t (.agg (Array.ofFn fun i => .int .i64 (a i))) (.agg (Array.ofFn fun i => .int .i64 (b i)))).run P w = .ok (.bool ((P.fieldsOf t).toList.all fun f => decide (intAt (Array.ofFn fun i => .int .i64 (a i)) f.offset = intAt (Array.ofFn fun i => .int .i64 (b i)) f.offset))) w := by
  simp only [binOp]
  have h := run_equalIn_struct w 9999 t (Array.ofFn fun i => .int .i64 (a i)) (Array.ofFn fun i => .int .i64 (b i)) hu hs
  have h2 := run_eqFields_ints (P := P) w 9998 (Array.ofFn fun i => .int .i64 (a i)) (Array.ofFn fun i => .int .i64 (b i)) (P.fieldsOf t).toList (fun f hm => by
    have := List.all_eq_true.1 hf f hm
    simp only [Bool.and_eq_true, bne_iff_ne, ne_eq, decide_eq_true_eq] at this
    obtain ⟨⟨h1, h2⟩, h3⟩ := this
    exact ⟨h1, h2, ⟨_, by rw [Array.getElem?_ofFn, dif_pos h3]⟩, ⟨_, by rw [Array.getElem?_ofFn, dif_pos h3]⟩⟩)
  have e : (Op.equal t (.agg (Array.ofFn fun i => .int .i64 (a i))) (.agg (Array.ofFn fun i => .int .i64 (b i)))).run P w = _ := (show _ from h).trans h2
  simp [e]

theorem loop_eq (l : List UInt8) : ∀ (n i : Nat) (r : List UInt8), l.length - i = n → ByteArray.toList.loop ⟨l.toArray⟩ i r = r.reverse ++ l.drop i := by
  intro n
  induction n with
  | zero =>
    intro i r h
    rw [ByteArray.toList.loop]
    rw [if_neg (by show ¬ i < l.toArray.size; simp; omega)]
    rw [List.drop_eq_nil_of_le (by omega), List.append_nil]
  | succ n ih =>
    intro i r h
    rw [ByteArray.toList.loop]
    rw [if_pos (by show i < l.toArray.size; simp; omega), ih (i + 1) _ (by omega)]
    have hi : i < l.length := by omega
    rw [List.reverse_cons, List.append_assoc, List.drop_eq_getElem_cons hi]
    congr 1
    show [(⟨l.toArray⟩ : ByteArray).get! i] ++ _ = _
    simp [ByteArray.get!, hi]
theorem strB_toList (l : List UInt8) : (strB l).toList = l := by
  unfold strB ByteArray.toList
  rw [loop_eq l _ 0 [] rfl]; simp
end Go.VEq
