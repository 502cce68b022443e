/- Merged out of VFrmR4 VFrmR5 VFrmR6 VFrmR7 VFrmR8. -/
import Derived.Test.YtfjjgceagpcfkaaVFrmQ
import Derived.Test.YtfjjgceagpcfkaaVFrmRA
import Derived.Test.YtfjjgceagpcfkaaVFrmB
import Derived.Deep.MidRow
import Derived.Test.YtfjjgceagpcfkaaVFrmU
/- The document's read, plainly: what Decode by it comes to. -/
namespace Go.Proofs.Ytfjjgceagpcfkaa.VSta
open Go.RowKit Go.VBase Go.VOct VOct VCst Go.Proofs.Ytfjjgceagpcfkaa.VCrc _root_.Go.VCrc

/-- What lies between a frame's first byte and its last three. -/
def restB (l : List UInt8) : List UInt8 := (l.drop 1).take (l.length - 4)
def dataB (t : List UInt8) : List UInt8 := if 2 < t.length then t.drop 2 else []
def cstD (x : Option (Int × Int × Int × Nat)) : Int × Int × Int × Int := match x with | none => (0, 0, 0, 0) | some (r, s, m, g) => (r, s, m, (g : Int))
/-- The frame that bytes could be. -/
def readF (l : List UInt8) : FrmD :=
  let k := numB (l.take 1)
  let t := restB l
  if k = 4 then ⟨4, 0, (numB (t.take 1) : Nat), 0, 0, []⟩
  else if k = 2 ∨ k = 3 then
    if t.length < 8 then frm0 0 else ⟨k, (cstD (decC (t.take 8))).1, (cstD (decC (t.take 8))).2.1, (cstD (decC (t.take 8))).2.2.1, (cstD (decC (t.take 8))).2.2.2, dataB (t.drop 8)⟩
  else ⟨k, 0, 0, 0, 0, dataB t⟩
def keepN (g : FrmD) (n : Nat) : Nat := if g.k = 1 then n - 3 else n
def refDecF (l : List UInt8) : Option FrmD :=
  if l.length < 5 then none else match encF (readF l) with
  | none => none
  | some c => if c.length = l.length ∧ c.take (keepN (readF l) l.length) = l.take (keepN (readF l) l.length) then some (readF l) else none
theorem data_front2 (b : List UInt8) : dataB (beB 2 b.length ++ b) = b := by
  unfold dataB
  rw [List.length_append, beB_len]
  split
  · exact List.drop_left' (beB_len 2 _)
  · have : b.length = 0 := by omega
    rw [List.length_eq_zero_iff.1 this]
theorem rest_front (x : UInt8) (m t : List UInt8) (ht : t.length = 3) : restB (x :: (m ++ t)) = m := by
  unfold restB
  rw [List.drop_succ_cons, List.drop_zero, List.length_cons, List.length_append, ht]
  have : m.length + 3 + 1 - 4 = m.length := by omega
  rw [this, List.take_left]
theorem read_front {g : FrmD} (hc : chkF g = true) (hz : g.k = 1 → g.r = 0 ∧ g.s = 0 ∧ g.m = 0 ∧ g.v = 0) (hv0 : 0 ≤ g.v) (hv : g.v < 65536) {t : List UInt8} (ht : t.length = 3) : readF (frontF g ++ t) = g := by
  obtain ⟨hk, hcb, hbl, hb2, h4⟩ := chkF_facts hc
  obtain ⟨k, r, s, m, v, b⟩ := g
  simp only at hk hcb hbl hb2 h4 hz hv0 hv
  obtain ⟨n, rfl⟩ : ∃ n : Nat, v = (n : Int) := ⟨v.toNat, by omega⟩
  have hn : n < 65536 := by omega
  have e4 : beB 1 4 = [4] := by decide
  rcases hk with h | h | h | h <;> subst h
  · rw [front1 rfl, show beB 1 1 = [1] from by decide]
    have e : ([1] ++ (beB 2 b.length ++ b)) ++ t = (1 : UInt8) :: ((beB 2 b.length ++ b) ++ t) := rfl
    obtain ⟨rfl, rfl, rfl, hv1⟩ := hz rfl
    rw [e]
    unfold readF
    simp only [rest_front _ _ _ ht, List.take_succ_cons, List.take_zero, data_front2]
    rw [show numB [1] = 1 from by decide]
    have e6 : (n : Int) = 0 := hv1
    rw [e6]
    rfl
  · have hb : b = [] := hb2 (.inl rfl)
    subst hb
    rw [front2 rfl, show beB 1 2 = [2] from by decide]
    have hcl := cstF_len ⟨2, r, s, m, (n : Int), []⟩
    have hcf : cstF ⟨2, r, s, m, (n : Int), []⟩ = cstBy r s m n := rfl
    have e : ([2] ++ cstF ⟨2, r, s, m, (n : Int), []⟩) ++ t = (2 : UInt8) :: (cstF ⟨2, r, s, m, (n : Int), []⟩ ++ t) := rfl
    rw [e]
    unfold readF
    simp only [rest_front _ _ _ ht, List.take_succ_cons, List.take_zero]
    rw [show numB [2] = 2 from by decide, hcl]
    have h8 : (cstF ⟨2, r, s, m, (n : Int), []⟩).take 8 = cstF ⟨2, r, s, m, (n : Int), []⟩ := List.take_of_length_le (by omega)
    have h9 : (cstF ⟨2, r, s, m, (n : Int), []⟩).drop 8 = [] := List.drop_of_length_le (by omega)
    rw [h8, h9, hcf, (cst_front hcb hn []).2]
    rfl
  · rw [front3 rfl, show beB 1 3 = [3] from by decide]
    have hcl := cstF_len ⟨3, r, s, m, (n : Int), b⟩
    have hcf : cstF ⟨3, r, s, m, (n : Int), b⟩ = cstBy r s m n := rfl
    simp only
    have e : ([3] ++ (cstF ⟨3, r, s, m, (n : Int), b⟩ ++ (beB 2 b.length ++ b))) ++ t = (3 : UInt8) :: ((cstF ⟨3, r, s, m, (n : Int), b⟩ ++ (beB 2 b.length ++ b)) ++ t) := rfl
    rw [e]
    unfold readF
    simp only [rest_front _ _ _ ht, List.take_succ_cons, List.take_zero]
    rw [show numB [3] = 3 from by decide]
    have h8 : (cstF ⟨3, r, s, m, (n : Int), b⟩ ++ (beB 2 b.length ++ b)).take 8 = cstF ⟨3, r, s, m, (n : Int), b⟩ := List.take_left' hcl
    have h9 : (cstF ⟨3, r, s, m, (n : Int), b⟩ ++ (beB 2 b.length ++ b)).drop 8 = beB 2 b.length ++ b := List.drop_left' hcl
    have hlt : ¬ (cstF ⟨3, r, s, m, (n : Int), b⟩ ++ (beB 2 b.length ++ b)).length < 8 := by rw [List.length_append, hcl]; omega
    rw [h8, h9, hcf, (cst_front hcb hn []).2, data_front2]
    rw [hcf] at hlt
    simp only [cstD]
    rw [if_neg (by decide), if_pos (by decide), if_neg hlt]
    rfl
  · have hb : b = [] := hb2 (.inr rfl)
    subst hb
    obtain ⟨h0, h1, h2⟩ := h4 rfl
    subst h0 h1
    obtain ⟨a0, a1, a2, a3, a4, a5⟩ := chkB_facts hcb
    rw [front4 rfl, e4]
    simp only
    have e : ([4] ++ beB 1 s.toNat) ++ t = (4 : UInt8) :: (beB 1 s.toNat ++ t) := rfl
    rw [e]
    unfold readF
    simp only [rest_front _ _ _ ht, List.take_succ_cons, List.take_zero]
    rw [show numB [4] = 4 from by decide]
    have h1b : (beB 1 s.toNat).take 1 = beB 1 s.toNat := List.take_of_length_le (by rw [beB_len]; omega)
    rw [h1b, numB_beB' 1 s.toNat (by have : s.toNat < 256 := by omega
                                     simpa using this)]
    have e5 : ((s.toNat : Nat) : Int) = s := by omega
    have e6 : (n : Int) = 0 := h2
    rw [e5, e6]
    rfl
theorem read_v (l : List UInt8) : 0 ≤ (readF l).v ∧ (readF l).v < 65536 := by
  have hd : ∀ x : List UInt8, 0 ≤ (cstD (decC x)).2.2.2 ∧ (cstD (decC x)).2.2.2 < 65536 := fun x => by
    unfold cstD
    cases h : decC x with
    | none => simp
    | some y =>
      obtain ⟨r, s, m, g⟩ := y
      unfold decC at h
      split at h
      · rename_i hh
        simp only [Option.some.injEq, Prod.mk.injEq] at h
        obtain ⟨-, -, -, rfl⟩ := h
        have := numB_lt (x.drop 6)
        have hl : (x.drop 6).length = 2 := by rw [List.length_drop]; omega
        rw [hl] at this
        simp only
        omega
      · cases h
  unfold readF
  simp only
  split
  · simp
  · split
    · split
      · exact ⟨Int.le_refl _, by decide⟩
      · exact hd _
    · simp
theorem read_z (l : List UInt8) (h : (readF l).k = 1) : (readF l).r = 0 ∧ (readF l).s = 0 ∧ (readF l).m = 0 ∧ (readF l).v = 0 := by
  unfold readF at h ⊢
  simp only at h ⊢
  split at h
  · simp at h
  · rename_i h4
    rw [if_neg h4]
    split at h
    · rename_i h23
      rw [if_pos h23]
      split at h
      · unfold frm0 at h; simp at h
      · simp only at h; omega
    · rename_i h23
      rw [if_neg h23]
      exact ⟨rfl, rfl, rfl, rfl⟩
theorem ref_dec (l : List UInt8) : refDecF l = decF l := by
  have hsome : ∀ g, refDecF l = some g → decF l = some g := fun g h => by
    unfold refDecF at h
    split at h
    · cases h
    · cases he : encF (readF l) with
      | none => rw [he] at h; cases h
      | some c =>
        rw [he] at h
        simp only at h
        split at h
        · rename_i hh
          obtain ⟨hlen, htk⟩ := hh
          cases h
          unfold encF at he
          split at he
          · rename_i hc
            cases he
            have hv := read_v l
            by_cases hk : (readF l).k = 1
            · have hz := read_z l hk
              unfold keepN at htk
              rw [if_pos hk] at htk
              have hfl : (frontF (readF l)).length = l.length - 3 := by
                have h1 := frm_len hc
                have h2 := front_len hc
                omega
              have h3 : (frmBy (readF l)).take (l.length - 3) = frontF (readF l) := by
                unfold frmBy; exact List.take_left' hfl
              rw [h3] at htk
              have hl : l = frontF (readF l) ++ l.drop (l.length - 3) := by rw [htk]; exact (List.take_append_drop _ _).symm
              have h5 := (long_le hc).2
              have hll : 5 ≤ l.length := by rw [← hlen, frm_len hc]; exact h5
              have hform := form_front (t := l.drop (l.length - 3)) hc (fun _ => hz) hv.1 hv.2 (by rw [List.length_drop]; omega)
              rw [← hl] at hform
              unfold decF
              rw [hform]
              simp only [Bool.true_and]
              have : ((readF l).k == 1) = true := by simpa using hk
              rw [this]; rfl
            · unfold keepN at htk
              rw [if_neg hk, List.take_of_length_le (by omega), List.take_length] at htk
              have hd := dec_enc hc hv.1 hv.2
              rw [htk] at hd
              rw [hd]
              congr 1
              unfold noC
              rw [if_neg hk]
          · cases he
        · cases h
  cases h : decF l with
  | none =>
    cases hr : refDecF l with
    | none => rfl
    | some g => rw [hsome g hr] at h; cases h
  | some g =>
    obtain ⟨hc, hv0, hv, hz, ⟨t, ht, hl⟩, hb⟩ := dec_back h
    have hr : readF l = g := by rw [hl]; exact read_front hc hz hv0 hv ht
    have h5 := long_le hc
    have h6 := front_len hc
    have hll : l.length = longF g := by rw [hl, List.length_append, ht, h6]
    unfold refDecF
    rw [if_neg (by omega), hr]
    unfold encF
    rw [if_pos hc]
    simp only
    rw [if_pos]
    refine ⟨by rw [frm_len hc, hll], ?_⟩
    unfold keepN
    by_cases hk : g.k = 1
    · rw [if_pos hk]
      have e3 : l.length - 3 = (frontF g).length := by omega
      have h3 : (frmBy g).take (l.length - 3) = frontF g := by rw [e3]; unfold frmBy; exact List.take_left
      rw [h3, e3, hl, List.take_left]
    · rw [if_neg hk, ← hb hk]
end Go.Proofs.Ytfjjgceagpcfkaa.VSta

/- The document's read of a frame. -/
namespace Go.Proofs.Ytfjjgceagpcfkaa.VSta
open Go.RowKit Go.VBase Go.VRg Go.VEq Go.VOct VOct VCst Go.Proofs.Ytfjjgceagpcfkaa.VCrc _root_.Go.VCrc VMsg

def ReadPost (g : FrmD) (w : World) (e : Ending) (w' : World) : Prop := ∃ u, e = .returned (.agg (frmC g u)) ∧ OwnB w' w.heap.size TB u g.b ∧ Ext w w'
theorem bys_off {W : World} {b off cap : Nat} {l : List UInt8} (hcells : ∀ (i : Nat) (c : UInt8), l[i]? = some c → W.cell? ⟨b, off + i, none⟩ = some (.int .u8 (c.toNat : Int))) {i m : Nat} (h : i + m ≤ l.length) (h1 : l.length ≤ cap) (h2 : cap ≤ maxLen) :
    Bys W (.slice (some ⟨b, off + i, none⟩) m (cap - i)) ((l.drop i).take m) := by
  have hlen : ((l.drop i).take m).length = m := by rw [List.length_take, List.length_drop]; omega
  refine ⟨_, cap - i, by rw [hlen], by omega, by omega, fun _ => ⟨b, off + i, rfl, fun j c hj => ?_⟩⟩
  have hjm : j < m := by rw [← hlen]; exact (List.getElem?_eq_some_iff.1 hj).1
  rw [List.getElem?_take, if_pos hjm, List.getElem?_drop] at hj
  have := hcells _ c hj
  rwa [← Nat.add_assoc] at this
theorem bys_drop2 {W : World} {b o n cap : Nat} {l : List UInt8} (h : Bys W (.slice (some ⟨b, o, none⟩) n cap) l) {i : Nat} (hi : i < l.length) : Bys W (.slice (some ⟨b, o + i, none⟩) (n - i) (cap - i)) (l.drop i) := by
  have hc : l.length ≤ cap := by obtain ⟨a', c', h1, h2, _⟩ := h; cases h1; exact h2
  have hd := h.drop (i := i) (by omega)
  rw [if_neg (by omega)] at hd
  have e : Option.map (fun x : Addr => x.add i) (some ⟨b, o, none⟩) = some ⟨b, o + i, none⟩ := by
    show some (Addr.add _ i) = _
    unfold Addr.add
    split
    · rename_i h0; subst h0; rfl
    · rfl
  rw [e] at hd
  exact hd
theorem dec_post {x : Option (Int × Int × Int × Nat)} {w : World} {e : Ending} {w' : World} (h : DecPost x w e w') : e = .returned (.tuple #[cst (cstD x).1 (cstD x).2.1 (cstD x).2.2.1 (cstD x).2.2.2, .int .i64 (if x.isSome then 0 else 40)]) ∧ Ext w w' := by
  unfold DecPost at h
  cases x with
  | none => exact h
  | some y => exact h
def withR (g f : FrmD) : FrmD := { g with r := f.r, s := f.s, m := f.m, v := f.v }
def cstR (f : FrmD) : Array Value := #[.int .i64 f.r, .int .i64 f.s, .int .i64 f.m, .int .u16 f.v]
theorem setR_row {W : World} {b : Nat} {g : FrmD} {u : Value} {T : TypeId} (h : W.heap[b]? = some (.cells (frmC g u) T)) (f : FrmD) :
    (W.setCells b 1 (cstR f).toList).heap[b]? = some (.cells (frmC (withR g f) u) T) ∧ (∀ k, k ≠ b → (W.setCells b 1 (cstR f).toList).heap[k]? = W.heap[k]?) ∧
    (∀ a, Ext a W → a.heap.size ≤ b → Ext a (W.setCells b 1 (cstR f).toList)) ∧ W.there b 1 4 := by
  have h1 := heap_setCell_same W b 1 _ _ (.int .i64 f.r) h
  have h2 := heap_setCell_same _ b 2 _ _ (.int .i64 f.s) h1
  have h3 := heap_setCell_same _ b 3 _ _ (.int .i64 f.m) h2
  have h4 := heap_setCell_same _ b 4 _ _ (.int .u16 f.v) h3
  refine ⟨h4.trans rfl, fun k e => ?_, fun a x hb => Below.setCell (Below.setCell (Below.setCell (Below.setCell x hb _) hb _) hb _) hb _, fun j hj => ⟨?_, frozen_of_row W b (1 + j) _ _ h⟩⟩
  · show ((((W.setCell ⟨b, 1, none⟩ (.int .i64 f.r)).setCell ⟨b, 2, none⟩ (.int .i64 f.s)).setCell ⟨b, 3, none⟩ (.int .i64 f.m)).setCell ⟨b, 4, none⟩ (.int .u16 f.v)).heap[k]? = _
    rw [heap_setCell_other _ _ _ _ e, heap_setCell_other _ _ _ _ e, heap_setCell_other _ _ _ _ e, heap_setCell_other _ _ _ _ e]
  · rw [cell_of_row W b (1 + j) _ _ _ h]
    match j, hj with
    | 0, _ => rfl
    | 1, _ => rfl
    | 2, _ => rfl
    | 3, _ => rfl
theorem storeR {ops : Array Oper} {rest : List Oper} {o : Oper} {a : Act} {Q : Exit → Act → World → Prop} {W : World} (b off : Nat) (t t' : Tmp) (f : FrmD) (hgd : o.guard = none) (ho : o.op = .store 25 (.tmp t) (.tmp t')) (hx : a.eval (.tmp t) = .pointer (some ⟨b, off, none⟩)) (hy : a.eval (.tmp t') = .agg (cstR f)) (ht : W.there b off 4)
    (hk : wpList Try.prog ops Q rest (a.put o.dst undef) (W.setCells b off (cstR f).toList)) : wpList Try.prog ops Q (o :: rest) a W :=
  wpList_store_mid hgd _ _ _ ho b off (cstR f) hx hy ht (by kernel_rfl) (by unfold cstR; simp [Value.oneCell']) hk
set_option maxRecDepth 100000 in
set_option maxHeartbeats 8000000 in
theorem read_calls (v : Value) (l : List UInt8) (w : World) (hv : Bys w v l) (hl : l.length ≤ 100000) (h5 : 5 ≤ l.length) : Calls Try.prog 41 #[v] w (ReadPost (readF l) w) := by
  obtain ⟨a, cap, rfl, h1, h2, h3⟩ := hv
  obtain ⟨b, off, rfl, hcells⟩ := h3 (by intro h; rw [h] at h5; simp at h5)
  clear h3
  obtain ⟨c, hc⟩ := get_some (l := l) (k := 0) (by omega)
  obtain ⟨c1, hc1⟩ := get_some (l := l) (k := 1) (by omega)
  have hb0 := hcells 0 c hc
  have hb1 := hcells 1 c1 hc1
  rw [Nat.add_zero] at hb0
  have hrest := bys_off hcells (i := 1) (m := l.length - 4) (by omega) h1 h2
  have hrl : restB l = (l.drop 1).take (l.length - 4) := rfl
  rw [← hrl] at hrest
  have hrlen : (restB l).length = l.length - 4 := by unfold restB; rw [List.length_take, List.length_drop]; omega
  have hk : numB (l.take 1) = c.toNat := by
    cases l with
    | nil => simp at hc
    | cons x l => simp at hc; subst hc; simp [numB]
  have ht1 : numB ((restB l).take 1) = c1.toNat := by
    have : (restB l).take 1 = [c1] := by
      rw [hrl, List.take_take, Nat.min_eq_left (by omega)]
      match l, hc1 with
      | [], h => simp at h
      | [_], h => simp at h
      | _ :: y :: l, h => simp at h; subst h; simp
    rw [this]; simp [numB]
  have hread : readF l = readF l := rfl
  conv at hread => rhs; unfold readF
  rw [hk] at hread
  simp only at hread
  rw [ht1] at hread
  have hkl := c.toNat_lt
  have hk1l := c1.toNat_lt
  generalize c.toNat = k at *
  generalize c1.toNat = k1 at *
  obtain ⟨L, hL⟩ : ∃ L, l.length = L := ⟨_, rfl⟩
  rw [hL] at hl h5 h1 hrest hrlen ⊢
  generalize restB l = t at *
  generalize readF l = RF at *
  have d4 : decide ((L : Int) < 4) = false := decide_eq_false (by omega)
  have hL0 : (0 : Int) < (L : Int) := by omega
  obtain ⟨q, hq⟩ : ∃ q, L - 3 = q := ⟨_, rfl⟩
  obtain ⟨n, hn⟩ : ∃ n, L - 4 = n := ⟨_, rfl⟩
  rw [hn] at hrest hrlen
  have hqi : (L : Int) - 3 = (q : Int) := by omega
  have hqc : (q : Int) ≤ (cap : Int) := by omega
  have hq1 : (1 : Int) ≤ (q : Int) := by omega
  have hqn : q - 1 = n := by omega
  have hcap1 : ¬ cap = 1 := by omega
  have hn1 : 1 ≤ n := by omega
  have r12 : ((w.alloc (.cells #[.int .i64 0, .int .i64 0, .int .i64 0, .int .i64 0, .int .u16 0, .slice none 0 0] TFrm)).alloc (.cells #[.int .i64 (k : Int), .int .i64 0, .int .i64 0, .int .i64 0, .int .u16 0, .slice none 0 0] TFrm)).heap[w.heap.size]? = some (.cells #[.int .i64 0, .int .i64 0, .int .i64 0, .int .i64 0, .int .u16 0, .slice none 0 0] TFrm) := (Ext.alloc _ _).block (heap_alloc_new w _)
  have r13 : ((w.alloc (.cells #[.int .i64 0, .int .i64 0, .int .i64 0, .int .i64 0, .int .u16 0, .slice none 0 0] TFrm)).alloc (.cells #[.int .i64 (k : Int), .int .i64 0, .int .i64 0, .int .i64 0, .int .u16 0, .slice none 0 0] TFrm)).heap[w.heap.size + 1]? = some (.cells #[.int .i64 (k : Int), .int .i64 0, .int .i64 0, .int .i64 0, .int .u16 0, .slice none 0 0] TFrm) := by have h := heap_alloc_new (w.alloc (.cells #[.int .i64 0, .int .i64 0, .int .i64 0, .int .i64 0, .int .u16 0, .slice none 0 0] TFrm)) (.cells #[.int .i64 (k : Int), .int .i64 0, .int .i64 0, .int .i64 0, .int .u16 0, .slice none 0 0] TFrm); rwa [World.size_alloc] at h
  have xA : Ext w ((w.alloc (.cells #[.int .i64 0, .int .i64 0, .int .i64 0, .int .i64 0, .int .u16 0, .slice none 0 0] TFrm)).alloc (.cells #[.int .i64 0, .int .i64 0, .int .i64 0, .int .i64 0, .int .u16 0, .slice none 0 0] TFrm)) := (Ext.alloc _ _).thenAlloc _
  have x1 : Ext w ((w.alloc (.cells #[.int .i64 0, .int .i64 0, .int .i64 0, .int .i64 0, .int .u16 0, .slice none 0 0] TFrm)).alloc (.cells #[.int .i64 (k : Int), .int .i64 0, .int .i64 0, .int .i64 0, .int .u16 0, .slice none 0 0] TFrm)) := (Ext.alloc _ _).thenAlloc _
  have cA := xA.cell hb0
  have cA1 := x1.cell hb1
  have hw8 : IntKind.i64.wrap (k : Int) = (k : Int) := by rw [IntKind.wrap_i64]; omega
  have hw9 : IntKind.i64.wrap (k1 : Int) = (k1 : Int) := by rw [IntKind.wrap_i64]; omega
  have c0 : (((w.alloc (.cells #[.int .i64 0, .int .i64 0, .int .i64 0, .int .i64 0, .int .u16 0, .slice none 0 0] TFrm)).alloc (.cells #[.int .i64 (k : Int), .int .i64 0, .int .i64 0, .int .i64 0, .int .u16 0, .slice none 0 0] TFrm))).cell? ⟨w.heap.size + 1, 0, none⟩ = some (.int .i64 (k : Int)) := cell_of_row _ _ 0 _ _ _ r13
  have c1 : (((w.alloc (.cells #[.int .i64 0, .int .i64 0, .int .i64 0, .int .i64 0, .int .u16 0, .slice none 0 0] TFrm)).alloc (.cells #[.int .i64 (k : Int), .int .i64 0, .int .i64 0, .int .i64 0, .int .u16 0, .slice none 0 0] TFrm))).cell? ⟨w.heap.size + 1, 1, none⟩ = some (.int .i64 0) := cell_of_row _ _ 1 _ _ _ r13
  have c2 : (((w.alloc (.cells #[.int .i64 0, .int .i64 0, .int .i64 0, .int .i64 0, .int .u16 0, .slice none 0 0] TFrm)).alloc (.cells #[.int .i64 (k : Int), .int .i64 0, .int .i64 0, .int .i64 0, .int .u16 0, .slice none 0 0] TFrm))).cell? ⟨w.heap.size + 1, 2, none⟩ = some (.int .i64 0) := cell_of_row _ _ 2 _ _ _ r13
  have c3 : (((w.alloc (.cells #[.int .i64 0, .int .i64 0, .int .i64 0, .int .i64 0, .int .u16 0, .slice none 0 0] TFrm)).alloc (.cells #[.int .i64 (k : Int), .int .i64 0, .int .i64 0, .int .i64 0, .int .u16 0, .slice none 0 0] TFrm))).cell? ⟨w.heap.size + 1, 3, none⟩ = some (.int .i64 0) := cell_of_row _ _ 3 _ _ _ r13
  have c4 : (((w.alloc (.cells #[.int .i64 0, .int .i64 0, .int .i64 0, .int .i64 0, .int .u16 0, .slice none 0 0] TFrm)).alloc (.cells #[.int .i64 (k : Int), .int .i64 0, .int .i64 0, .int .i64 0, .int .u16 0, .slice none 0 0] TFrm))).cell? ⟨w.heap.size + 1, 4, none⟩ = some (.int .u16 0) := cell_of_row _ _ 4 _ _ _ r13
  have c5 : (((w.alloc (.cells #[.int .i64 0, .int .i64 0, .int .i64 0, .int .i64 0, .int .u16 0, .slice none 0 0] TFrm)).alloc (.cells #[.int .i64 (k : Int), .int .i64 0, .int .i64 0, .int .i64 0, .int .u16 0, .slice none 0 0] TFrm))).cell? ⟨w.heap.size + 1, 5, none⟩ = some (.slice none 0 0) := cell_of_row _ _ 5 _ _ _ r13
  have hrest1 := hrest.ext x1
  have HR0 := Lib.hid hrest
  have HX := Lib.hid (And.intro x1 (And.intro r12 (And.intro r13 (And.intro hread (And.intro hrlen hrest1)))))
  clear hcells hc hc1 hrest hrl hk ht1 hread xA r12 r13 x1 hL hb0 hb1 hrest1 hrlen h5 hq hn
  by_cases hk4 : k = 4
  · have b4 : ((k : Int) == 4) = true := by rw [hk4]; rfl
    have HK4 := Lib.hid hk4
    clear hk4
    go_enter Try.func41, Try.ntmps41
    go_wp2_with fail
    have rd : ((w.alloc (.cells #[.int .i64 (k : Int), .int .i64 0, .int .i64 (k1 : Int), .int .i64 0, .int .u16 0, .slice none 0 0] TFrm)).alloc (.cells #[.int .i64 (k : Int), .int .i64 0, .int .i64 (k1 : Int), .int .i64 0, .int .u16 0, .slice none 0 0] TFrm)).heap[w.heap.size]? = some (.cells #[.int .i64 (k : Int), .int .i64 0, .int .i64 (k1 : Int), .int .i64 0, .int .u16 0, .slice none 0 0] TFrm) := (Ext.alloc _ _).block (heap_alloc_new w _)
    refine bodyPost_ret (results_cell_row rfl _ _ w.heap.size _ _ _ _ (by rfl) rd Try.underlying28 rfl (by kernel_rfl)) rfl ?_
    have hR : RF = ⟨4, 0, (k1 : Int), 0, 0, []⟩ := by have h := HX.out.2.2.2.1; rw [if_pos HK4.out] at h; exact h
    rw [hR]
    refine ⟨.slice none 0 0, ?_, OwnB.nil _ _ _, (Ext.alloc _ _).thenAlloc _⟩
    rw [HK4.out]; rfl
  have b4 : ((k : Int) == 4) = false := by simp; omega
  have hRF := HX.out.2.2.2.1
  rw [if_neg hk4] at hRF
  by_cases hk23 : k = 2 ∨ k = 3
  · rw [if_pos hk23] at hRF
    have b23 : ((k : Int) == 2) = true ∨ (((k : Int) == 2) = false ∧ ((k : Int) == 3) = true) := by
      rcases hk23 with h | h
      · left; rw [h]; rfl
      · right; rw [h]; exact ⟨rfl, rfl⟩
    clear hk4 hk23
    by_cases hn8 : n < 8
    · have dn : decide ((n : Int) < 8) = true := decide_eq_true (by omega)
      rw [if_pos (by have := HX.out.2.2.2.2.1; omega)] at hRF
      have HRF := Lib.hid hRF
      clear hRF
      have rz : ((w.alloc (.cells #[.int .i64 0, .int .i64 0, .int .i64 0, .int .i64 0, .int .u16 0, .slice none 0 0] TFrm)).alloc (.cells #[.int .i64 (k : Int), .int .i64 0, .int .i64 0, .int .i64 0, .int .u16 0, .slice none 0 0] TFrm)).heap[w.heap.size]? = some (.cells #[.int .i64 0, .int .i64 0, .int .i64 0, .int .i64 0, .int .u16 0, .slice none 0 0] TFrm) := HX.out.2.1
      rcases b23 with b2 | ⟨b2, b3⟩
      all_goals
        go_enter Try.func41, Try.ntmps41
        go_wp2_with fail
        refine bodyPost_ret (results_cell_row rfl _ _ w.heap.size _ _ _ _ (by rfl) rz Try.underlying28 rfl (by kernel_rfl)) rfl ?_
        rw [HRF.out]
        exact ⟨.slice none 0 0, rfl, OwnB.nil _ _ _, HX.out.1⟩
    have dn : decide ((n : Int) < 8) = false := decide_eq_false (by omega)
    have dn8 : (8 : Int) ≤ (n : Int) := by omega
    have dc8 : (8 : Int) ≤ ((cap - 1 : Nat) : Int) := by omega
    rw [if_neg (by have := HX.out.2.2.2.2.1; omega)] at hRF
    have h8 := HX.out.2.2.2.2.2.take (i := 8) (by have := HX.out.2.2.2.2.1; omega)
    have kD := refDecode_calls _ (t.take 8) _ h8
    have kD := kD.mono (fun _ _ h => dec_post h)
    clear h8
    generalize decC (t.take 8) = xd at *
    generalize hxv : (if xd.isSome then (0 : Int) else 40) = en at *
    generalize (cstD xd).1 = r at *
    generalize (cstD xd).2.1 = s at *
    generalize (cstD xd).2.2.1 = m at *
    generalize (cstD xd).2.2.2 = v at *
    clear hxv
    unfold cst at kD
    have hdl : (t.drop 8).length = n - 8 := by rw [List.length_drop, HX.out.2.2.2.2.1]
    have hB8 := HX.out.2.2.2.2.2
    rcases b23 with b2 | ⟨b2, b3⟩
    all_goals
      go_enter Try.func41, Try.ntmps41
      go_wp2_with fail
      refine kD.mono ?_
      rintro e w2 ⟨rfl, h2x⟩
      have x2 := HX.out.1.trans h2x
      have r22 := h2x.block HX.out.2.1
      have r23 : w2.heap[w.heap.size + 1]? = some (.cells (frmC ⟨(k : Int), 0, 0, 0, 0, []⟩ (.slice none 0 0)) TFrm) := h2x.block HX.out.2.2.1
      obtain ⟨s1, s2, s3, s4⟩ := setR_row r23 ⟨0, r, s, m, v, []⟩
      have hne : w.heap.size ≠ w.heap.size + 1 := by omega
      have hle : w.heap.size ≤ w.heap.size + 1 := by omega
      have x3 := s3 w x2 hle
      have r32 := (s2 _ hne).trans r22
      have hBt := HR0.out.ext x3
      obtain ⟨V3, hV3⟩ : ∃ V, w2.setCells (w.heap.size + 1) 1 (cstR ⟨0, r, s, m, v, []⟩).toList = V := ⟨_, rfl⟩
      rw [hV3] at s1 x3 r32 hBt
      have HV3 := Lib.hid hV3
      have HS4 := Lib.hid s4
      have HV := Lib.hid (And.intro x3 (And.intro r32 s1))
      have c0 : (V3).cell? ⟨w.heap.size + 1, 0, none⟩ = some (.int .i64 (k : Int)) := cell_of_row _ _ 0 _ _ _ s1
      have c1 : (V3).cell? ⟨w.heap.size + 1, 1, none⟩ = some (.int .i64 r) := cell_of_row _ _ 1 _ _ _ s1
      have c2 : (V3).cell? ⟨w.heap.size + 1, 2, none⟩ = some (.int .i64 s) := cell_of_row _ _ 2 _ _ _ s1
      have c3 : (V3).cell? ⟨w.heap.size + 1, 3, none⟩ = some (.int .i64 m) := cell_of_row _ _ 3 _ _ _ s1
      have c4 : (V3).cell? ⟨w.heap.size + 1, 4, none⟩ = some (.int .u16 v) := cell_of_row _ _ 4 _ _ _ s1
      have c5 : (V3).cell? ⟨w.heap.size + 1, 5, none⟩ = some (.slice none 0 0) := cell_of_row _ _ 5 _ _ _ s1
      have hB1 := bys_drop2 hBt (i := 8)
      have HB := Lib.hid hB1
      have HRF := Lib.hid hRF
      clear s1 s2 s3 s4 x2 r22 r23 x3 r32 hne hle hV3 kD hBt hB1 hB8 hdl hRF h2x
      by_cases hn10 : n ≤ 10
      · have dN : decide ((2 : Int) < ((n - 8 : Nat) : Int)) = false := decide_eq_false (by omega)
        have dN2 : decide ((2 : Int) < (n : Int) - 8) = false := decide_eq_false (by omega)
        have dN3 : ¬ (2 < n - 8) := by omega
        have rd := setRow_heap V3 w.heap.size _ (frmC ⟨(k : Int), r, s, m, v, []⟩ (.slice none 0 0)) _ _ HV.out.2.1
        go_wp2_with (first | (refine storeR (w.heap.size + 1) 1 48 46 ⟨0, r, s, m, v, []⟩ rfl rfl rfl rfl HS4.out ?_; rw [HV3.out]) | (refine storeFrm (m := ⟨(k : Int), r, s, m, v, []⟩) (sa := none) (sn := 0) (sc := 0) HV.out.2.1 rfl rfl rfl rfl rfl ?_))
        refine bodyPost_ret (results_cell_row rfl _ _ w.heap.size _ _ _ _ (by rfl) rd Try.underlying28 rfl (by kernel_rfl)) rfl ?_
        have hd : dataB (t.drop 8) = [] := by unfold dataB; rw [if_neg (by have := HX.out.2.2.2.2.1; rw [List.length_drop]; omega)]
        rw [HRF.out, hd]
        exact ⟨.slice none 0 0, rfl, OwnB.nil _ _ _, HV.out.1.setRow (Nat.le_refl _) _⟩
      · have dN : decide ((2 : Int) < ((n - 8 : Nat) : Int)) = true := decide_eq_true (by omega)
        have dN2 : decide ((2 : Int) < (n : Int) - 8) = true := decide_eq_true (by omega)
        have dN3 : 2 < n - 8 := by omega
        have hB2 := bys_drop2 (HB.out (by have := HX.out.2.2.2.2.1; omega)) (i := 2) (by have := HX.out.2.2.2.2.1; rw [List.length_drop]; omega)
        obtain ⟨D, hD⟩ : ∃ D, (t.drop 8).drop 2 = D := ⟨_, rfl⟩
        rw [hD] at hB2
        have HD := Lib.hid hD
        clear hD
        go_wp2_with (first | (refine storeR (w.heap.size + 1) 1 48 46 ⟨0, r, s, m, v, []⟩ rfl rfl rfl rfl HS4.out ?_; rw [HV3.out]))
        refine (VRef01.Twin_calls _ (D) _ hB2 (by have := HX.out.2.2.2.2.1; rw [← HD.out]; simp only [List.length_drop]; omega)).mono ?_
        rintro e w5 ⟨u5, rfl, hu5, h5⟩
        have hlV : w.heap.size + 1 < (V3).heap.size := (Array.getElem?_eq_some_iff.1 HV.out.2.2).1
        have hu5 := hu5.mono (base' := w.heap.size + 2) (by omega)
        have x5 := HV.out.1.trans h5
        have r25 := h5.block HV.out.2.1
        have r35 := h5.block HV.out.2.2
        obtain ⟨ua, uc, rfl⟩ := hu5.slice
        clear h5 c0 c1 c2 c3 c4 c5 hB2
        have c0 : (w5).cell? ⟨w.heap.size + 1, 0, none⟩ = some (.int .i64 (k : Int)) := cell_of_row _ _ 0 _ _ _ r35
        have c1 : (w5).cell? ⟨w.heap.size + 1, 1, none⟩ = some (.int .i64 r) := cell_of_row _ _ 1 _ _ _ r35
        have c2 : (w5).cell? ⟨w.heap.size + 1, 2, none⟩ = some (.int .i64 s) := cell_of_row _ _ 2 _ _ _ r35
        have c3 : (w5).cell? ⟨w.heap.size + 1, 3, none⟩ = some (.int .i64 m) := cell_of_row _ _ 3 _ _ _ r35
        have c4 : (w5).cell? ⟨w.heap.size + 1, 4, none⟩ = some (.int .u16 v) := cell_of_row _ _ 4 _ _ _ r35
        have c5 : (w5).cell? ⟨w.heap.size + 1, 5, none⟩ = some (.slice none 0 0) := cell_of_row _ _ 5 _ _ _ r35
        have f5 := frozen_of_row w5 (w.heap.size + 1) 5 _ _ r35
        have hne : w.heap.size ≠ w.heap.size + 1 := by omega
        have hle : w.heap.size ≤ w.heap.size + 1 := by omega
        have r26 : (w5.setCell ⟨w.heap.size + 1, 5, none⟩ (.slice ua (D).length uc)).heap[w.heap.size]? = some (.cells #[.int .i64 0, .int .i64 0, .int .i64 0, .int .i64 0, .int .u16 0, .slice none 0 0] TFrm) := (heap_setCell_other w5 ⟨w.heap.size + 1, 5, none⟩ _ _ hne).trans r25
        have x6 : Ext w (w5.setCell ⟨w.heap.size + 1, 5, none⟩ (.slice ua (D).length uc)) := Below.setCell x5 hle _
        have hb5 : ∀ q, (Value.slice ua (D).length uc).ownBlock = some q → w.heap.size + 2 ≤ q := hu5.lt
        have hu6 : OwnB ((w5.setCell ⟨w.heap.size + 1, 5, none⟩ (.slice ua (D).length uc)).setRow w.heap.size (frmC ⟨(k : Int), r, s, m, v, D⟩ (.slice ua (D).length uc))) (w.heap.size + 2) TB (.slice ua (D).length uc) (D) := by
          refine own_turn (b := w.heap.size) (own_turn (b := w.heap.size + 1) hu5 (fun e => ?_) (fun q hq => heap_setCell_other _ _ _ _ hq)) (fun e => ?_) (fun q hq => setRow_other _ _ _ _ hq)
          · have := hb5 _ e; omega
          · have := hb5 _ e; omega
        have hdt : dataB (t.drop 8) = D := by rw [← HD.out]; unfold dataB; rw [if_pos (by have := HX.out.2.2.2.2.1; (try simp only [List.length_drop]); omega)]
        have rd := setRow_heap (w5.setCell ⟨w.heap.size + 1, 5, none⟩ (.slice ua (D).length uc)) w.heap.size _ (frmC ⟨(k : Int), r, s, m, v, D⟩ (.slice ua (D).length uc)) _ _ r26
        have HE := Lib.hid (And.intro hu6 (And.intro (x6.setRow (Nat.le_refl _) (frmC ⟨(k : Int), r, s, m, v, D⟩ (.slice ua (D).length uc))) hdt))
        clear hu5 hu6 hb5 x5 x6 r25 r35 hdt hlV
        go_wp2_with (refine storeFrm (m := ⟨(k : Int), r, s, m, v, D⟩) (sa := ua) (sn := (D).length) (sc := uc) r26 rfl rfl rfl rfl rfl ?_)
        refine bodyPost_ret (results_cell_row rfl _ _ w.heap.size _ _ _ _ (by rfl) rd Try.underlying28 rfl (by kernel_rfl)) rfl ?_
        rw [HRF.out, HE.out.2.2]
        exact ⟨_, rfl, HE.out.1.mono (by omega), HE.out.2.1⟩
  have b2 : ((k : Int) == 2) = false := by simp; omega
  have b3 : ((k : Int) == 3) = false := by simp; omega
  rw [if_neg hk23] at hRF
  have HRF := Lib.hid hRF
  clear hk4 hk23 hRF
  by_cases hn2 : n ≤ 2
  · have dn : decide ((2 : Int) < (n : Int)) = false := decide_eq_false (by omega)
    go_enter Try.func41, Try.ntmps41
    go_wp2_with fail
    have rd : ((w.alloc (.cells #[.int .i64 (k : Int), .int .i64 0, .int .i64 0, .int .i64 0, .int .u16 0, .slice none 0 0] TFrm)).alloc (.cells #[.int .i64 (k : Int), .int .i64 0, .int .i64 0, .int .i64 0, .int .u16 0, .slice none 0 0] TFrm)).heap[w.heap.size]? = some (.cells #[.int .i64 (k : Int), .int .i64 0, .int .i64 0, .int .i64 0, .int .u16 0, .slice none 0 0] TFrm) := (Ext.alloc _ _).block (heap_alloc_new w _)
    refine bodyPost_ret (results_cell_row rfl _ _ w.heap.size _ _ _ _ (by rfl) rd Try.underlying28 rfl (by kernel_rfl)) rfl ?_
    have hd : dataB t = [] := by unfold dataB; rw [if_neg (by have := HX.out.2.2.2.2.1; omega)]
    rw [HRF.out, hd]
    exact ⟨.slice none 0 0, rfl, OwnB.nil _ _ _, (Ext.alloc _ _).thenAlloc _⟩
  have dn : decide ((2 : Int) < (n : Int)) = true := decide_eq_true (by omega)
  have dn2 : (2 : Int) ≤ (n : Int) := by omega
  go_enter Try.func41, Try.ntmps41
  go_wp2_with fail
  have hB2 := bys_drop2 HX.out.2.2.2.2.2 (i := 2) (by have := HX.out.2.2.2.2.1; omega)
  obtain ⟨D, hD⟩ : ∃ D, t.drop 2 = D := ⟨_, rfl⟩
  rw [hD] at hB2
  have HD := Lib.hid hD
  clear hD
  have HV := Lib.hid (And.intro HX.out.1 (And.intro HX.out.2.1 HX.out.2.2.1))
  refine (VRef01.Twin_calls _ (D) _ hB2 (by have := HX.out.2.2.2.2.1; rw [← HD.out]; simp only [List.length_drop]; omega)).mono ?_
  rintro e w5 ⟨u5, rfl, hu5, h5⟩
  have hlV : w.heap.size + 1 < (((w.alloc (.cells #[.int .i64 0, .int .i64 0, .int .i64 0, .int .i64 0, .int .u16 0, .slice none 0 0] TFrm)).alloc (.cells #[.int .i64 (k : Int), .int .i64 0, .int .i64 0, .int .i64 0, .int .u16 0, .slice none 0 0] TFrm))).heap.size := (Array.getElem?_eq_some_iff.1 HV.out.2.2).1
  have hu5 := hu5.mono (base' := w.heap.size + 2) (by omega)
  have x5 := HV.out.1.trans h5
  have r25 := h5.block HV.out.2.1
  have r35 := h5.block HV.out.2.2
  obtain ⟨ua, uc, rfl⟩ := hu5.slice
  clear h5 c0 c1 c2 c3 c4 c5 hB2
  have c0 : (w5).cell? ⟨w.heap.size + 1, 0, none⟩ = some (.int .i64 (k : Int)) := cell_of_row _ _ 0 _ _ _ r35
  have c1 : (w5).cell? ⟨w.heap.size + 1, 1, none⟩ = some (.int .i64 0) := cell_of_row _ _ 1 _ _ _ r35
  have c2 : (w5).cell? ⟨w.heap.size + 1, 2, none⟩ = some (.int .i64 0) := cell_of_row _ _ 2 _ _ _ r35
  have c3 : (w5).cell? ⟨w.heap.size + 1, 3, none⟩ = some (.int .i64 0) := cell_of_row _ _ 3 _ _ _ r35
  have c4 : (w5).cell? ⟨w.heap.size + 1, 4, none⟩ = some (.int .u16 0) := cell_of_row _ _ 4 _ _ _ r35
  have c5 : (w5).cell? ⟨w.heap.size + 1, 5, none⟩ = some (.slice none 0 0) := cell_of_row _ _ 5 _ _ _ r35
  have f5 := frozen_of_row w5 (w.heap.size + 1) 5 _ _ r35
  have hne : w.heap.size ≠ w.heap.size + 1 := by omega
  have hle : w.heap.size ≤ w.heap.size + 1 := by omega
  have r26 : (w5.setCell ⟨w.heap.size + 1, 5, none⟩ (.slice ua (D).length uc)).heap[w.heap.size]? = some (.cells #[.int .i64 0, .int .i64 0, .int .i64 0, .int .i64 0, .int .u16 0, .slice none 0 0] TFrm) := (heap_setCell_other w5 ⟨w.heap.size + 1, 5, none⟩ _ _ hne).trans r25
  have x6 : Ext w (w5.setCell ⟨w.heap.size + 1, 5, none⟩ (.slice ua (D).length uc)) := Below.setCell x5 hle _
  have hb5 : ∀ q, (Value.slice ua (D).length uc).ownBlock = some q → w.heap.size + 2 ≤ q := hu5.lt
  have hu6 : OwnB ((w5.setCell ⟨w.heap.size + 1, 5, none⟩ (.slice ua (D).length uc)).setRow w.heap.size (frmC ⟨(k : Int), 0, 0, 0, 0, D⟩ (.slice ua (D).length uc))) (w.heap.size + 2) TB (.slice ua (D).length uc) (D) := by
    refine own_turn (b := w.heap.size) (own_turn (b := w.heap.size + 1) hu5 (fun e => ?_) (fun q hq => heap_setCell_other _ _ _ _ hq)) (fun e => ?_) (fun q hq => setRow_other _ _ _ _ hq)
    · have := hb5 _ e; omega
    · have := hb5 _ e; omega
  have hdt : dataB (t) = D := by rw [← HD.out]; unfold dataB; rw [if_pos (by have := HX.out.2.2.2.2.1; (try simp only [List.length_drop]); omega)]
  have rd := setRow_heap (w5.setCell ⟨w.heap.size + 1, 5, none⟩ (.slice ua (D).length uc)) w.heap.size _ (frmC ⟨(k : Int), 0, 0, 0, 0, D⟩ (.slice ua (D).length uc)) _ _ r26
  have HE := Lib.hid (And.intro hu6 (And.intro (x6.setRow (Nat.le_refl _) (frmC ⟨(k : Int), 0, 0, 0, 0, D⟩ (.slice ua (D).length uc))) hdt))
  clear hu5 hu6 hb5 x5 x6 r25 r35 hdt hlV
  go_wp2_with (refine storeFrm (m := ⟨(k : Int), 0, 0, 0, 0, D⟩) (sa := ua) (sn := (D).length) (sc := uc) r26 rfl rfl rfl rfl rfl ?_)
  refine bodyPost_ret (results_cell_row rfl _ _ w.heap.size _ _ _ _ (by rfl) rd Try.underlying28 rfl (by kernel_rfl)) rfl ?_
  rw [HRF.out, HE.out.2.2]
  exact ⟨_, rfl, HE.out.1.mono (by omega), HE.out.2.1⟩
end Go.Proofs.Ytfjjgceagpcfkaa.VSta

/- The document's Decode of a frame. -/
namespace Go.Proofs.Ytfjjgceagpcfkaa.VSta
open Go.RowKit Go.VBase Go.VRg Go.VEq Go.VOct VOct VCst Go.Proofs.Ytfjjgceagpcfkaa.VCrc _root_.Go.VCrc VMsg

theorem strB_eqb (x y : List UInt8) : (strB x == strB y) = decide (x = y) ∧ ((strB x).toList == (strB y).toList) = decide (x = y) := by
  have h : ((strB x).toList == (strB y).toList) = decide (x = y) := by
    rw [show (strB x).toList = x from ByteArray.toList_mk _, show (strB y).toList = y from ByteArray.toList_mk _, Bool.eq_iff_iff]
    simp
  exact ⟨by rw [beq_toListBytes]; exact h, h⟩
set_option maxRecDepth 100000 in
set_option maxHeartbeats 8000000 in
theorem refFDecode_calls (v : Value) (l : List UInt8) (w : World) (hv : Bys w v l) (hl : l.length ≤ 100000) : Calls Try.prog 20 #[v] w (DecFPost (decF l) w) := by
  have ks := fun (W : World) (v : Value) (l : List UInt8) (h : Bys W v l) => run_string_bys (P := Try.prog) Try.underlying26 Try.underlying5 Try.underlying9 h
  obtain ⟨X, hX⟩ : ∃ X, decF l = X := ⟨_, rfl⟩
  have hXr := ref_dec l
  rw [hX] at hXr ⊢
  clear hX
  obtain ⟨va, vc, rfl⟩ : ∃ a c, v = .slice a l.length c := by obtain ⟨a, c, h, _⟩ := hv; exact ⟨a, c, h⟩
  have hlc : l.length ≤ vc := by obtain ⟨a, c, h, h2, _⟩ := hv; cases h; exact h2
  have fin0 : ∀ (W : World), X = none → Ext w W → DecFPost X w (.returned (.tuple #[.agg (frmC (frm0 0) (.slice none 0 0)), .int .i64 50])) W := fun W hx hxw => by
    rw [hx]
    exact ⟨.slice none 0 0, rfl, OwnB.nil _ _ _, hxw⟩
  have HF0 := Lib.hid fin0
  clear fin0
  have x0 := Ext.alloc w (.cells #[.int .i64 0, .int .i64 0, .int .i64 0, .int .i64 0, .int .u16 0, .slice none 0 0] TFrm)
  have r0 := heap_alloc_new w (.cells #[.int .i64 0, .int .i64 0, .int .i64 0, .int .i64 0, .int .u16 0, .slice none 0 0] TFrm)
  unfold refDecF at hXr
  by_cases h5 : l.length < 5
  · have d5 : decide ((l.length : Int) < 5) = true := decide_eq_true (by omega)
    rw [if_pos h5] at hXr
    have HXr := Lib.hid hXr
    clear hXr h5
    go_enter Try.func20, Try.ntmps20
    go_wp2_with fail
    refine bodyPost_ret (results_row_tmp rfl _ _ w.heap.size _ _ _ _ (by rfl) r0 Try.underlying28 rfl (by kernel_rfl)) rfl ?_
    exact HF0.out _ HXr.out.symm x0
  have d5 : decide ((l.length : Int) < 5) = false := decide_eq_false (by omega)
  rw [if_neg h5] at hXr
  have kR := fun W h => read_calls (.slice va l.length vc) l W h hl (by omega)
  unfold ReadPost at kR
  have hgv := read_v l
  have hgl : encF (readF l) ≠ none → (readF l).b.length ≤ 1024 := fun h => by
    unfold encF at h
    split at h
    · rename_i hc; exact (chkF_facts hc).2.2.1
    · exact absurd rfl h
  have hrb : (readF l).b.length ≤ l.length := by
    unfold readF dataB restB frm0
    simp only
    repeat' split
    all_goals simp only [List.length_drop, List.length_take, List.length_nil]
    all_goals omega
  have hel : ∀ c, encF (readF l) = some c → c.length ≤ 2000 := fun c h => by
    unfold encF at h
    split at h
    · rename_i hc; cases h; rw [frm_len hc]; have := (long_le hc).1; omega
    · cases h
  generalize readF l = g at *
  have fin1 : ∀ (W : World) (u : Value), X = some g → Ext w W → OwnB W w.heap.size TB u g.b → DecFPost X w (.returned (.tuple #[.agg (frmC g u), .int .i64 0])) W := fun W u hx hxw hu => by
    rw [hx]
    exact ⟨u, rfl, hu, hxw⟩
  have HF1 := Lib.hid fin1
  have HXr := Lib.hid hXr
  have HG := Lib.hid (And.intro hgv (And.intro hrb hel))
  clear fin1 hXr hgv hgl hrb hel
  have hv0 := hv.ext x0
  have HV := Lib.hid hv
  clear hv
  go_enter Try.func20, Try.ntmps20
  go_wp2_with fail
  refine (kR _ hv0).mono ?_
  rintro e w1 ⟨u, rfl, hu, h1⟩
  have x1 := x0.trans h1
  have r1 := h1.block r0
  have hu1 := hu.mono (show w.heap.size + 1 ≤ _ by simp)
  obtain ⟨ua, uc, rfl⟩ := hu.slice
  clear kR hv0 x0 r0 h1 hu
  have rz := heap_alloc_new w1 (.cells #[.int .i64 0, .int .i64 0, .int .i64 0, .int .i64 0, .int .u16 0, .slice none 0 0] TFrm)
  have r4 := setRow_heap (w1.alloc (.cells #[.int .i64 0, .int .i64 0, .int .i64 0, .int .i64 0, .int .u16 0, .slice none 0 0] TFrm)) w1.heap.size _ (frmC g (.slice ua g.b.length uc)) _ _ rz
  have x4 : Ext w1 ((w1.alloc (.cells #[.int .i64 0, .int .i64 0, .int .i64 0, .int .i64 0, .int .u16 0, .slice none 0 0] TFrm)).setRow w1.heap.size (frmC g (.slice ua g.b.length uc))) := (Ext.alloc _ _).setRow (Nat.le_refl _) _
  have r41 := x4.block r1
  have x14 := x1.trans x4
  have hu4 := hu1.ext x4
  generalize hgen4 : ((w1.alloc (.cells #[.int .i64 0, .int .i64 0, .int .i64 0, .int .i64 0, .int .u16 0, .slice none 0 0] TFrm)).setRow w1.heap.size (frmC g (.slice ua g.b.length uc))) = V4 at *
  have HG4 := Lib.hid hgen4
  have c0 : (V4).cell? ⟨w1.heap.size, 0, none⟩ = some (.int .i64 g.k) := cell_of_row _ _ 0 _ _ _ r4
  have c1 : (V4).cell? ⟨w1.heap.size, 1, none⟩ = some (.int .i64 g.r) := cell_of_row _ _ 1 _ _ _ r4
  have c2 : (V4).cell? ⟨w1.heap.size, 2, none⟩ = some (.int .i64 g.s) := cell_of_row _ _ 2 _ _ _ r4
  have c3 : (V4).cell? ⟨w1.heap.size, 3, none⟩ = some (.int .i64 g.m) := cell_of_row _ _ 3 _ _ _ r4
  have c4 : (V4).cell? ⟨w1.heap.size, 4, none⟩ = some (.int .u16 g.v) := cell_of_row _ _ 4 _ _ _ r4
  have c5 : (V4).cell? ⟨w1.heap.size, 5, none⟩ = some (.slice ua g.b.length uc) := cell_of_row _ _ 5 _ _ _ r4
  have hub := hu4.bys (by have := HG.out.2.1; unfold maxLen; omega)
  have kE := refFEncode_calls g (ua, g.b.length, uc) V4 hub HG.out.1.1 HG.out.1.2
  unfold EncFPost slV at kE
  rw [show frmC g (.slice ua g.b.length uc) = #[.int .i64 g.k, .int .i64 g.r, .int .i64 g.s, .int .i64 g.m, .int .u16 g.v, .slice ua g.b.length uc] from rfl] at kE
  have HU := Lib.hid (And.intro hu4 (And.intro x14 (And.intro r41 r4)))
  clear hu1 x4 x1 r1 hu4 x14 hub hgen4 r41 r4
  generalize hxe : encF g = xe at *
  go_wp2_with (first | (refine storeFrm (m := g) (sa := ua) (sn := g.b.length) (sc := uc) rz rfl rfl rfl rfl rfl ?_; rw [HG4.out]))
  refine kE.mono ?_
  rintro e w5 ⟨u5, rfl, hu5, h5x, -⟩
  have x5 := HU.out.2.1.trans h5x
  have r52 := h5x.block HU.out.2.2.1
  have r54 := h5x.block HU.out.2.2.2
  have hug := HU.out.1.ext h5x
  clear kE rz c0 c1 c2 c3 c4 c5
  have r53 := setRow_heap w5 w.heap.size _ (frmC (frm0 0) (.slice none 0 0)) _ _ r52
  have x53 : Ext w (w5.setRow w.heap.size (frmC (frm0 0) (.slice none 0 0))) := x5.setRow (Nat.le_refl _) _
  cases xe with
  | none =>
    simp only [Option.isSome_none, Bool.false_eq_true, if_false]
    clear hu5 h5x hug r54
    go_wp2_with (first | (refine storeFrm (m := frm0 0) (sa := none) (sn := 0) (sc := 0) r52 rfl rfl rfl rfl rfl ?_))
    refine bodyPost_ret (results_row_tmp rfl _ _ w.heap.size _ _ _ _ (by rfl) r53 Try.underlying28 rfl (by kernel_rfl)) rfl ?_
    exact HF0.out _ HXr.out.symm x53
  | some c =>
  simp only [Option.isSome_some, if_true, Option.getD_some] at hu5 ⊢
  have hXr := HXr.out
  simp only at hXr
  have hcl := HG.out.2.2 c rfl
  have hcb := hu5.bys (by unfold maxLen; omega)
  obtain ⟨ea, ec, rfl⟩ := hu5.slice
  have hec : c.length ≤ ec := by obtain ⟨a, q, h, h2, _⟩ := hcb; cases h; exact h2
  by_cases hlen : c.length = l.length
  rotate_left
  · have dl : ((c.length : Int) == (l.length : Int)) = false := by simp; omega
    have dl2 : ¬ ((c.length : Int) = (l.length : Int)) := by omega
    rw [if_neg (fun h => hlen h.1)] at hXr
    have HXn := Lib.hid hXr
    clear hXr hlen hu5 hcb h5x hug r54
    generalize c.length = C at *
    generalize l.length = L at *
    go_wp2_with (first | (refine storeFrm (m := frm0 0) (sa := none) (sn := 0) (sc := 0) r52 rfl rfl rfl rfl rfl ?_))
    refine bodyPost_ret (results_row_tmp rfl _ _ w.heap.size _ _ _ _ (by rfl) r53 Try.underlying28 rfl (by kernel_rfl)) rfl ?_
    exact HF0.out _ HXn.out.symm x53
  have hlb := HV.out.ext x5
  obtain ⟨p, hp⟩ : ∃ p, keepN g l.length = p := ⟨_, rfl⟩
  have hpl : p ≤ l.length := by rw [← hp]; unfold keepN; split <;> omega
  have hct := hcb.take (i := p) (by omega)
  have hlt := hlb.take (i := p) hpl
  have k1 : ∀ W, Ext w5 W → (convert 26 9 (.slice ea p ec)).run Try.prog W = .ok (.string (strB (c.take p))) W := fun W h => ks W _ _ (hct.ext h)
  have k2 : ∀ W, Ext w5 W → (convert 26 9 (.slice va p vc)).run Try.prog W = .ok (.string (strB (l.take p))) W := fun W h => ks W _ _ (hlt.ext h)
  obtain ⟨q1, q2⟩ := strB_eqb (c.take p) (l.take p)
  have hq : X = if decide (c.take p = l.take p) = true then some g else none := by
    rw [hp] at hXr
    rw [← hXr]
    by_cases h : c.take p = l.take p
    · rw [if_pos ⟨hlen, h⟩, if_pos (decide_eq_true h)]
    · rw [if_neg (fun x => h x.2), if_neg (by simpa using h)]
  generalize strB (c.take p) = S1 at *
  generalize strB (l.take p) = S2 at *
  generalize decide (c.take p = l.take p) = Bq at *
  have HQ := Lib.hid hq
  have hpe : p ≤ ec := by omega
  have hpv : p ≤ vc := by omega
  have hp5 : (g.k = 1 → (l.length : Int) - 3 = (p : Int)) ∧ (¬ g.k = 1 → l.length = p) := by
    rw [← hp]; unfold keepN
    constructor
    · intro h; rw [if_pos h]; omega
    · intro h; rw [if_neg h]
  have HP := Lib.hid hp5
  have HLN := Lib.hid hlen
  rw [hlen]
  clear hXr hu5 hcb h5x hq hp5 hct hlt hlb hp hlen hcl hec
  have d0 : w5.cell? ⟨w1.heap.size, 0, none⟩ = some (.int .i64 g.k) := cell_of_row _ _ 0 _ _ _ r54
  have r55 := setRow_heap w5.drew w.heap.size _ (frmC g (.slice ua g.b.length uc)) _ _ r52
  have r56 := setRow_heap w5.drew w.heap.size _ (frmC (frm0 0) (.slice none 0 0)) _ _ r52
  have x55 : Ext w (w5.drew.setRow w.heap.size (frmC g (.slice ua g.b.length uc))) := (x5.thenDrew).setRow (Nat.le_refl _) _
  have x56 : Ext w (w5.drew.setRow w.heap.size (frmC (frm0 0) (.slice none 0 0))) := (x5.thenDrew).setRow (Nat.le_refl _) _
  have hu9 : OwnB (w5.drew.setRow w.heap.size (frmC g (.slice ua g.b.length uc))) w.heap.size TB (.slice ua g.b.length uc) g.b := by
    refine (own_turn (b := w.heap.size) (W := w5.drew) hug.drew (fun e => ?_) (fun q hq => setRow_other _ _ _ _ hq)).mono (by omega)
    have := hug.lt _ e; omega
  have HE := Lib.hid (And.intro r55 (And.intro r56 (And.intro x55 (And.intro x56 hu9))))
  clear r55 r56 x55 x56 hu9 hug r53 x53
  by_cases hk : g.k = 1
  · have b1 : (g.k == 1) = true := by simpa using hk
    have e1 := HP.out.1 hk
    clear hk
    go_wp2_with fail
    refine wp_region_rg Eq [] (by kernel_rfl) (by kernel_rfl) (by kernel_rfl) (fun _ => rfl) (fun _ _ _ => Eq.trans) ?_
    intro σ
    simp only
    have k1' := k1 _ (Ext.drew w5)
    have k2' := k2 _ (Ext.drew w5)
    repeat (first | (refine rg_pure (x := ?_) rfl (by rfl) (fun W hW => ?_) ?_; rotate_left; (· subst hW; go_simp; with_reducible rfl); simp only [Nat.reduceAdd, Act.put, List.setIfInBounds_toArray, List.set_cons_zero, List.set_cons_succ]))
    refine rg_done fun W hW hno => ?_
    subst hW
    clear hno k1 k2 k1' k2' d0
    have r54' : (w5.drew).heap[w1.heap.size]? = some (.cells (frmC g (.slice ua g.b.length uc)) TFrm) := r54
    have r52' : (w5.drew).heap[w.heap.size]? = some (.cells #[.int .i64 0, .int .i64 0, .int .i64 0, .int .i64 0, .int .u16 0, .slice none 0 0] TFrm) := r52
    cases Bq with
    | true =>
      go_wp2_with (first | (refine loadFrm (x := g) (u := .slice ua g.b.length uc) r54' rfl rfl rfl ?_) | (refine storeFrm (m := g) (sa := ua) (sn := g.b.length) (sc := uc) r52' rfl rfl rfl rfl rfl ?_))
      refine bodyPost_ret (results_row_tmp rfl _ _ w.heap.size _ _ _ _ (by rfl) HE.out.1 Try.underlying28 rfl (by kernel_rfl)) rfl ?_
      exact HF1.out _ _ (by rw [HQ.out]; rfl) HE.out.2.2.1 HE.out.2.2.2.2
    | false =>
      go_wp2_with (first | (refine storeFrm (m := frm0 0) (sa := none) (sn := 0) (sc := 0) r52' rfl rfl rfl rfl rfl ?_))
      refine bodyPost_ret (results_row_tmp rfl _ _ w.heap.size _ _ _ _ (by rfl) HE.out.2.1 Try.underlying28 rfl (by kernel_rfl)) rfl ?_
      exact HF0.out _ (by rw [HQ.out]; rfl) HE.out.2.2.2.1
  · have b1 : (g.k == 1) = false := by simpa using hk
    have e1 := HP.out.2 hk
    rw [e1] at *
    clear hk e1
    go_wp2_with fail
    refine wp_region_rg Eq [] (by kernel_rfl) (by kernel_rfl) (by kernel_rfl) (fun _ => rfl) (fun _ _ _ => Eq.trans) ?_
    intro σ
    simp only
    have k1' := k1 _ (Ext.drew w5)
    have k2' := k2 _ (Ext.drew w5)
    repeat (first | (refine rg_pure (x := ?_) rfl (by rfl) (fun W hW => ?_) ?_; rotate_left; (· subst hW; go_simp; with_reducible rfl); simp only [Nat.reduceAdd, Act.put, List.setIfInBounds_toArray, List.set_cons_zero, List.set_cons_succ]))
    refine rg_done fun W hW hno => ?_
    subst hW
    clear hno k1 k2 k1' k2' d0
    have r54' : (w5.drew).heap[w1.heap.size]? = some (.cells (frmC g (.slice ua g.b.length uc)) TFrm) := r54
    have r52' : (w5.drew).heap[w.heap.size]? = some (.cells #[.int .i64 0, .int .i64 0, .int .i64 0, .int .i64 0, .int .u16 0, .slice none 0 0] TFrm) := r52
    cases Bq with
    | true =>
      go_wp2_with (first | (refine loadFrm (x := g) (u := .slice ua g.b.length uc) r54' rfl rfl rfl ?_) | (refine storeFrm (m := g) (sa := ua) (sn := g.b.length) (sc := uc) r52' rfl rfl rfl rfl rfl ?_))
      refine bodyPost_ret (results_row_tmp rfl _ _ w.heap.size _ _ _ _ (by rfl) HE.out.1 Try.underlying28 rfl (by kernel_rfl)) rfl ?_
      exact HF1.out _ _ (by rw [HQ.out]; rfl) HE.out.2.2.1 HE.out.2.2.2.2
    | false =>
      go_wp2_with (first | (refine storeFrm (m := frm0 0) (sa := none) (sn := 0) (sc := 0) r52' rfl rfl rfl rfl rfl ?_))
      refine bodyPost_ret (results_row_tmp rfl _ _ w.heap.size _ _ _ _ (by rfl) HE.out.2.1 Try.underlying28 rfl (by kernel_rfl)) rfl ?_
      exact HF0.out _ (by rw [HQ.out]; rfl) HE.out.2.2.2.1
end Go.Proofs.Ytfjjgceagpcfkaa.VSta

/- The document's Fits. -/
namespace Go.Proofs.Ytfjjgceagpcfkaa.VSta
open Go.RowKit Go.VBase Go.VRg Go.VEq Go.VOct VOct VCst Go.Proofs.Ytfjjgceagpcfkaa.VCrc _root_.Go.VCrc VMsg

theorem fits_one {l : List UInt8} {f : FrmD} {r s m v : Int} (h : decF l = some f) (hk : f.k = 1) (hc : chkB r s m = true) :
    chkF (withR f ⟨0, r, s, m, v, []⟩) = true ∧ fitsF l r s m v = decide (frmBy (withR f ⟨0, r, s, m, v, []⟩) = l) := by
  obtain ⟨hcf, _, _, _, ⟨t, ht, hl⟩, _⟩ := dec_back h
  have hk' : (withR f ⟨0, r, s, m, v, []⟩).k = 1 := hk
  have hfr : frontF (withR f ⟨0, r, s, m, v, []⟩) = frontF f := by rw [front1 hk', front1 hk]; rfl
  have hchk : chkF (withR f ⟨0, r, s, m, v, []⟩) = true := by
    obtain ⟨_, _, hbl, _, _⟩ := chkF_facts hcf
    unfold chkF withR
    simp only [hk, hc]
    have h3 : decide (f.b.length ≤ 1024) = true := decide_eq_true hbl
    rw [h3]
    have h4 : hasB 1 1 = true := by decide
    rw [h4]
    simp
  refine ⟨hchk, ?_⟩
  have hlen : l.length - 3 = (frontF f).length := by rw [hl, List.length_append, ht]; omega
  have ed : l.drop (l.length - 3) = t := by rw [hlen, hl, List.drop_left]
  have et : l.take (l.length - 3) = frontF f := by rw [hlen, hl, List.take_left]
  unfold fitsF
  rw [h]
  simp only [hc, Bool.true_and]
  rw [if_pos hk, ed, et]
  unfold frmBy
  rw [hfr, if_pos hk', show cstF (withR f ⟨0, r, s, m, v, []⟩) = cstBy r s m v.toNat from rfl, Bool.eq_iff_iff, beq_iff_eq, decide_eq_true_eq, hl]
  exact ⟨fun e => by rw [e], fun e => List.append_cancel_left e⟩
set_option maxRecDepth 100000 in
set_option maxHeartbeats 8000000 in
theorem refFFits_calls (b : Value) (l : List UInt8) (r s m v : Int) (w : World) (hb : Bys w b l) (hl : l.length ≤ 100000) (hv0 : 0 ≤ v) (hv : v < 65536) :
    Calls Try.prog 15 #[b, cst r s m v] w fun e w' => e = .returned (.bool (fitsF l r s m v)) ∧ Ext w w' := by
  have ks := fun (W : World) (v : Value) (l : List UInt8) (h : Bys W v l) => run_string_bys (P := Try.prog) Try.underlying26 Try.underlying5 Try.underlying9 h
  have kD := fun W h => refFDecode_calls b l W h hl
  unfold DecFPost at kD
  have kC := fun W => refCheck_calls r s m v W
  unfold CheckPost at kC
  obtain ⟨X, hX⟩ : ∃ X, fitsF l r s m v = X := ⟨_, rfl⟩
  rw [hX]
  have hone := fun (f : FrmD) h1 h2 h3 => fits_one (l := l) (f := f) (r := r) (s := s) (m := m) (v := v) h1 h2 h3
  rw [hX] at hone
  unfold fitsF at hX
  have hdb : ∀ f, decF l = some f → f.b.length ≤ 1024 := fun f h => (chkF_facts (dec_back h).1).2.2.1
  have HV := Lib.hid (And.intro hl (And.intro hv0 (And.intro hv (And.intro hone hdb))))
  clear hone hl hv0 hv hdb
  obtain ⟨d, hd⟩ : ∃ d, decF l = d := ⟨_, rfl⟩
  rw [hd] at hX kD
  have HD := Lib.hid hd
  clear hd
  have HX := Lib.hid hX
  clear hX
  obtain ⟨va, vc, rfl⟩ : ∃ a c, b = .slice a l.length c := by obtain ⟨a, c, h, _⟩ := hb; exact ⟨a, c, h⟩
  unfold cst at *
  have x0 := Ext.alloc w (.cells #[.int .i64 r, .int .i64 s, .int .i64 m, .int .u16 v] 25)
  have r0 := heap_alloc_new w (.cells #[.int .i64 r, .int .i64 s, .int .i64 m, .int .u16 v] 25)
  have HB := Lib.hid hb
  have hb0 := hb.ext x0
  clear hb
  go_enter Try.func15, Try.ntmps15
  go_wp2_with fail
  refine (kD _ hb0).mono ?_
  rintro e w1 ⟨u, rfl, hu, h1⟩
  have x1 := x0.trans h1
  have r1 := h1.block r0
  obtain ⟨ua, uc, rfl⟩ := hu.slice
  clear kD hb0 x0 r0 h1
  generalize hF : d.getD (frm0 0) = g at *
  have rz := heap_alloc_new w1 (.cells #[.int .i64 0, .int .i64 0, .int .i64 0, .int .i64 0, .int .u16 0, .slice none 0 0] TFrm)
  have r4 := setRow_heap (w1.alloc (.cells #[.int .i64 0, .int .i64 0, .int .i64 0, .int .i64 0, .int .u16 0, .slice none 0 0] TFrm)) w1.heap.size _ (frmC g (.slice ua g.b.length uc)) _ _ rz
  have x4 : Ext w1 ((w1.alloc (.cells #[.int .i64 0, .int .i64 0, .int .i64 0, .int .i64 0, .int .u16 0, .slice none 0 0] TFrm)).setRow w1.heap.size (frmC g (.slice ua g.b.length uc))) := (Ext.alloc _ _).setRow (Nat.le_refl _) _
  have r41 := x4.block r1
  have x14 := x1.trans x4
  have hu4 := hu.ext x4
  have hlt : w.heap.size < w1.heap.size := (Array.getElem?_eq_some_iff.1 r1).1
  generalize hgen4 : ((w1.alloc (.cells #[.int .i64 0, .int .i64 0, .int .i64 0, .int .i64 0, .int .u16 0, .slice none 0 0] TFrm)).setRow w1.heap.size (frmC g (.slice ua g.b.length uc))) = V4 at *
  have HG4 := Lib.hid hgen4
  have c0 : (V4).cell? ⟨w.heap.size, 0, none⟩ = some (.int .i64 r) := cell_of_row _ _ 0 _ _ _ r41
  have c1 : (V4).cell? ⟨w.heap.size, 1, none⟩ = some (.int .i64 s) := cell_of_row _ _ 1 _ _ _ r41
  have c2 : (V4).cell? ⟨w.heap.size, 2, none⟩ = some (.int .i64 m) := cell_of_row _ _ 2 _ _ _ r41
  have c3 : (V4).cell? ⟨w.heap.size, 3, none⟩ = some (.int .u16 v) := cell_of_row _ _ 3 _ _ _ r41
  have e0 : (V4).cell? ⟨w1.heap.size, 0, none⟩ = some (.int .i64 g.k) := cell_of_row _ _ 0 _ _ _ r4
  have e1 : (V4).cell? ⟨w1.heap.size, 1, none⟩ = some (.int .i64 g.r) := cell_of_row _ _ 1 _ _ _ r4
  have e2 : (V4).cell? ⟨w1.heap.size, 2, none⟩ = some (.int .i64 g.s) := cell_of_row _ _ 2 _ _ _ r4
  have e3 : (V4).cell? ⟨w1.heap.size, 3, none⟩ = some (.int .i64 g.m) := cell_of_row _ _ 3 _ _ _ r4
  have e4 : (V4).cell? ⟨w1.heap.size, 4, none⟩ = some (.int .u16 g.v) := cell_of_row _ _ 4 _ _ _ r4
  have e5 : (V4).cell? ⟨w1.heap.size, 5, none⟩ = some (.slice ua g.b.length uc) := cell_of_row _ _ 5 _ _ _ r4
  have HU := Lib.hid (And.intro hu4 (And.intro x14 (And.intro r41 (And.intro r4 hlt))))
  clear hu x4 x1 r1 hu4 x14 hgen4 r41 r4 hlt
  obtain ⟨z, hz⟩ : ∃ z : Int, (if d.isSome = true then 0 else 50) = z := ⟨_, rfl⟩
  rw [hz]
  have HZ := Lib.hid (And.intro hz hF)
  clear hz hF
  cases d with
  | none =>
    have hz : z = 50 := HZ.out.1.symm
    subst hz
    have hx : X = false := HX.out.symm
    subst hx
    have x2 := HU.out.2.1
    go_wp2_with (first | (refine storeFrm (m := g) (sa := ua) (sn := g.b.length) (sc := uc) rz rfl rfl rfl rfl rfl ?_; rw [HG4.out]))
    go_ret
    exact ⟨rfl, x2⟩
  | some f' =>
  have hz : z = 0 := HZ.out.1.symm
  subst hz
  have hff : f' = g := HZ.out.2
  subst hff
  go_wp2_with (first | (refine storeFrm (m := f') (sa := ua) (sn := f'.b.length) (sc := uc) rz rfl rfl rfl rfl rfl ?_; rw [HG4.out]))
  refine (kC _).mono ?_
  rintro e w2 ⟨rfl, h2⟩
  have x2 := HU.out.2.1.trans h2
  have r21 := h2.block HU.out.2.2.1
  have r24 := h2.block HU.out.2.2.2.1
  have hu2 := HU.out.1.ext h2
  have hlt := HU.out.2.2.2.2
  clear kC rz c0 c1 c2 c3 e0 e1 e2 e3 e4 e5 HU h2
  cases hc : chkB r s m with
  | false =>
    have hx : X = false := by rw [← HX.out, hc]; rfl
    subst hx
    rw [show (if false = true then (0 : Int) else 40) = 40 from rfl]
    clear hc r21 r24 hu2 hlt
    go_wp2_with fail
    go_ret
    exact ⟨rfl, x2⟩
  | true =>
  rw [show (if true = true then (0 : Int) else 40) = 0 from rfl]
  have hX1 := HX.out
  rw [hc] at hX1
  simp only [Bool.true_and] at hX1
  have HX1 := Lib.hid hX1
  have HC := Lib.hid hc
  clear hX1 hc
  have c0 : (w2).cell? ⟨w.heap.size, 0, none⟩ = some (.int .i64 r) := cell_of_row _ _ 0 _ _ _ r21
  have c1 : (w2).cell? ⟨w.heap.size, 1, none⟩ = some (.int .i64 s) := cell_of_row _ _ 1 _ _ _ r21
  have c2 : (w2).cell? ⟨w.heap.size, 2, none⟩ = some (.int .i64 m) := cell_of_row _ _ 2 _ _ _ r21
  have c3 : (w2).cell? ⟨w.heap.size, 3, none⟩ = some (.int .u16 v) := cell_of_row _ _ 3 _ _ _ r21
  have e0 : (w2).cell? ⟨w1.heap.size, 0, none⟩ = some (.int .i64 f'.k) := cell_of_row _ _ 0 _ _ _ r24
  have e1 : (w2).cell? ⟨w1.heap.size, 1, none⟩ = some (.int .i64 f'.r) := cell_of_row _ _ 1 _ _ _ r24
  have e2 : (w2).cell? ⟨w1.heap.size, 2, none⟩ = some (.int .i64 f'.s) := cell_of_row _ _ 2 _ _ _ r24
  have e3 : (w2).cell? ⟨w1.heap.size, 3, none⟩ = some (.int .i64 f'.m) := cell_of_row _ _ 3 _ _ _ r24
  have e4 : (w2).cell? ⟨w1.heap.size, 4, none⟩ = some (.int .u16 f'.v) := cell_of_row _ _ 4 _ _ _ r24
  have e5 : (w2).cell? ⟨w1.heap.size, 5, none⟩ = some (.slice ua f'.b.length uc) := cell_of_row _ _ 5 _ _ _ r24
  by_cases hk4 : f'.k = 4
  · have b4 : (f'.k == 4) = true := by simpa using hk4
    have hx : X = false := by rw [← HX1.out, if_neg (by omega), b4]; rfl
    subst hx
    clear hk4 r21 r24 hu2 hlt
    go_wp2_with fail
    go_ret
    exact ⟨rfl, x2⟩
  have b4 : (f'.k == 4) = false := by simpa using hk4
  by_cases hk1 : f'.k = 1
  rotate_left
  · have b1 : (f'.k == 1) = false := by simpa using hk1
    have hx : X = ((f'.r == r) && ((f'.s == s) && ((f'.m == m) && (f'.v == v)))) := by rw [← HX1.out, if_neg hk1, b4]; rfl
    have HX3 := Lib.hid hx
    clear hx r21 r24 hu2 hlt
    go_wp2_with fail
    all_goals
      go_ret
      exact ⟨by rw [HX3.out]; simp_all, x2⟩
  have b1 : (f'.k == 1) = true := by simpa using hk1
  obtain ⟨hchk, hfit⟩ := HV.out.2.2.2.1 f' HD.out hk1 HC.out
  obtain ⟨s1, s2, s3, s4⟩ := setR_row r24 ⟨0, r, s, m, v, []⟩
  have x3 := s3 w x2 (by omega)
  have hu3 := own_turn hu2 (own_type hu2 r24 (by decide)) s2
  have hb3 : Bys _ (slV (ua, f'.b.length, uc)) (withR f' ⟨0, r, s, m, v, []⟩).b := hu3.bys (by have := HV.out.2.2.2.2 f' HD.out; show f'.b.length ≤ _; unfold maxLen; omega)
  obtain ⟨V3, hV3⟩ : ∃ V, w2.setCells w1.heap.size 1 (cstR ⟨0, r, s, m, v, []⟩).toList = V := ⟨_, rfl⟩
  rw [hV3] at s1 x3 hb3
  have HV3 := Lib.hid hV3
  have HS4 := Lib.hid s4
  have hfl : (frmBy (withR f' ⟨0, r, s, m, v, []⟩)).length ≤ 2000 := by rw [frm_len hchk]; have := (long_le hchk).1; omega
  have kB := fun W (h : Ext V3 W) => refFBytes_calls (withR f' ⟨0, r, s, m, v, []⟩) (ua, f'.b.length, uc) W (hb3.ext h) hchk HV.out.2.1 HV.out.2.2.1
  unfold MadeB slV at kB
  generalize frmBy (withR f' ⟨0, r, s, m, v, []⟩) = Y at *
  have hlb := HB.out.ext x3
  obtain ⟨q1, q2⟩ := strB_eqb Y l
  rw [← hfit] at q1 q2
  have k2 : ∀ W, Ext V3.drew W → (convert 26 9 (.slice va l.length vc)).run Try.prog W = .ok (.string (strB l)) W := fun W h => ks W _ _ (hlb.ext (Ext.of_drew h))
  have k1 : ∀ W v, Bys W v Y → (convert 26 9 v).run Try.prog W = .ok (.string (strB Y)) W := fun W v h => ks W _ _ h
  generalize strB Y = S1 at *
  generalize strB l = S2 at *
  have r3W : ∀ W, Ext V3.drew W → W.heap[w1.heap.size]? = some (.cells (frmC (withR f' ⟨0, r, s, m, v, []⟩) (.slice ua f'.b.length uc)) TFrm) := fun W h => (Ext.of_drew h).block s1
  have HFL := Lib.hid hfl
  clear hchk hfit s1 s2 s3 s4 hu2 hu3 hb3 hV3 hlb hlt hfl r21 r24 hk1 hk4 x2
  go_wp2_with (first | (refine storeR w1.heap.size 1 28 27 ⟨0, r, s, m, v, []⟩ rfl rfl rfl rfl HS4.out ?_; rw [HV3.out]))
  clear c0 c1 c2 c3 e0 e1 e2 e3 e4 e5
  refine wp_region_rg Ext [(1, .unk (fun v W => Bys W v Y) (fun _ _ _ e h => h.ext e)), (2, .known (.string S1))] (by kernel_rfl) (by kernel_rfl) (by kernel_rfl) Ext.refl (fun _ _ _ => Ext.trans) ?_
  intro σ
  simp only
  refine rg_pure (x := .agg (frmC (withR f' ⟨0, r, s, m, v, []⟩) (.slice ua f'.b.length uc))) rfl (by rfl) (fun W hW => exec_loadF (r3W W hW) rfl rfl) ?_
  simp only [Nat.reduceAdd, Act.put, List.setIfInBounds_toArray, List.set_cons_zero, List.set_cons_succ]
  refine rg_unk rfl (by rfl) (fun W hW hF => ?_) ?_
  · go_simp
    refine (kB W (Ext.of_drew hW)).mono ?_
    rintro e W' ⟨u, rfl, hu, h⟩
    exact ⟨_, rfl, h, hu.bys (by have := HFL.out; unfold maxLen; omega)⟩
  simp only [Nat.reduceAdd, Act.put, List.setIfInBounds_toArray, List.set_cons_zero, List.set_cons_succ]
  refine rg_known rfl (by rfl) (fun W hW hF => ?_) ?_
  · have hq := k1 W _ (hF 1 _ _ rfl (by kernel_rfl))
    go_simp
    exact ⟨Ext.refl _, rfl⟩
  simp only [Nat.reduceAdd, Act.put, List.setIfInBounds_toArray, List.set_cons_zero, List.set_cons_succ]
  repeat (first | (refine rg_pure (x := ?_) rfl (by rfl) (fun W hW => ?_) ?_; rotate_left; (· have f0 := k2 W hW; go_simp; with_reducible rfl); simp only [Nat.reduceAdd, Act.put, List.setIfInBounds_toArray, List.set_cons_zero, List.set_cons_succ]))
  refine rg_done fun W hW hF => ?_
  have xE := x3.trans (Ext.of_drew hW)
  clear hF hW k1 k2 r3W kB
  go_wp2_with fail
  go_ret
  exact ⟨rfl, xE⟩
end Go.Proofs.Ytfjjgceagpcfkaa.VSta

/- The document's Cut. -/
namespace Go.Proofs.Ytfjjgceagpcfkaa.VSta
open Go.RowKit Go.VBase Go.VRg Go.VEq Go.VOct VOct VCst Go.Proofs.Ytfjjgceagpcfkaa.VCrc _root_.Go.VCrc VMsg

theorem strB_snocF (l : List UInt8) (c : UInt8) : strB l ++ (⟨#[c]⟩ : ByteArray) = strB (l ++ [c]) := by
  unfold strB
  apply ByteArray.ext
  simp [ByteArray.data_append]
set_option maxRecDepth 100000 in
set_option maxHeartbeats 2000000 in
theorem refFCut_calls (v : Value) (l : List UInt8) (w : World) (hv : Bys w v l) (hl : l.length ≤ 100000) :
    Calls Try.prog 22 #[v] w (MadeB w 5 (l.take (l.length - 1))) := by
  obtain ⟨a, cap, rfl, h1, h2, h3⟩ := hv
  have hv : Bys w (.slice a l.length cap) l := ⟨a, cap, rfl, h1, h2, h3⟩
  clear h3
  by_cases h0 : l.length = 0
  · have hn : l = [] := List.length_eq_zero_iff.1 h0
    subst hn
    clear hv h0
    simp only [List.length_nil]
    go_enter Try.func22, Try.ntmps22
    go_wp2_with fail
    go_ret
    exact ⟨_, rfl, OwnB.nil _ _ _, Ext.refl _⟩
  have ht := hv.take (i := l.length - 1) (by omega)
  have hk := VRef01.Twin_calls _ _ w ht (by rw [List.length_take]; omega)
  obtain ⟨n, hn⟩ : ∃ n, l.length = n + 1 := ⟨l.length - 1, by omega⟩
  rw [hn] at hk h1 hl ⊢
  rw [Nat.add_sub_cancel] at hk ⊢
  have hnc : n ≤ cap := by omega
  have hni : (n : Int) ≤ (cap : Int) := by omega
  clear hv ht h0 hn
  unfold MadeB at hk ⊢
  go_enter Try.func22, Try.ntmps22
  go_wp2_with fail
  refine hk.mono ?_
  rintro e w1 ⟨u, rfl, hu, h⟩
  go_wp2_with fail
  go_ret
  exact ⟨u, rfl, hu, h⟩
end Go.Proofs.Ytfjjgceagpcfkaa.VSta
