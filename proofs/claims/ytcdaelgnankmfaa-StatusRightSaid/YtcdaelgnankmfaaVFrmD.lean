/- Frames as bytes: what a frame's bytes are, and what is read of any. No program in sight. -/
import Derived.Test.YtcdaelgnankmfaaVFrm
import Derived.Test.YtcdaelgnankmfaaVBe
import Derived.Test.YtcdaelgnankmfaaVCrcOpen
namespace Go.Proofs.Ytcdaelgnankmfaa.VSta
open Go.RowKit Go.VBase Go.VCrc Go.VOct VOct VCst VCrc

def cstF (f : FrmD) : List UInt8 := cstBy f.r f.s f.m f.v.toNat
/-- What stands in a frame of a kind: 0 a C-state, 1 data, 2 a slot. -/
def partsL (k : Int) : List Int := if k = 3 then [0, 1] else if k = 1 then [1] else if k = 2 then [0] else if k = 4 then [2] else []
def partBy (f : FrmD) (p : Int) : List UInt8 := if p = 0 then cstF f else if p = 1 then beB 2 f.b.length ++ f.b else beB 1 f.s.toNat
def hasB (k p : Int) : Bool := (partsL k).contains p
/-- Whether a frame may be. -/
def chkF (f : FrmD) : Bool := (decide (1 ≤ f.k) && decide (f.k ≤ 4)) && (chkB f.r f.s f.m && (decide (f.b.length ≤ 1024) && ((decide (f.b.length = 0) || hasB f.k 1) && (!(f.k == 4) || ((f.r == 0) && (f.m == 0) && (f.v == 0))))))
/-- A frame's bytes ahead of the sum. -/
def frontF (f : FrmD) : List UInt8 := beB 1 f.k.toNat ++ (partsL f.k).flatMap (partBy f)
def boundF (l c : List UInt8) : List UInt8 := beB 3 (ofN (l ++ c))
def frmBy (f : FrmD) : List UInt8 := frontF f ++ boundF (frontF f) (if f.k = 1 then cstF f else [])
def encF (f : FrmD) : Option (List UInt8) := if chkF f then some (frmBy f) else none

theorem chkF_facts {f : FrmD} (h : chkF f = true) : (f.k = 1 ∨ f.k = 2 ∨ f.k = 3 ∨ f.k = 4) ∧ chkB f.r f.s f.m = true ∧ f.b.length ≤ 1024 ∧ (f.k = 2 ∨ f.k = 4 → f.b = []) ∧ (f.k = 4 → f.r = 0 ∧ f.m = 0 ∧ f.v = 0) := by
  unfold chkF at h
  simp only [Bool.and_eq_true, decide_eq_true_eq, Bool.or_eq_true, Bool.not_eq_true', beq_iff_eq, List.length_eq_zero_iff, beq_eq_false_iff_ne] at h
  obtain ⟨⟨h1, h2⟩, h3, h4, h5, h6⟩ := h
  refine ⟨by omega, h3, h4, fun hk => ?_, fun hk => ?_⟩
  · rcases h5 with h5 | h5
    · exact h5
    · exfalso
      rcases hk with e | e <;> rw [e] at h5 <;> exact absurd h5 (by decide)
  · rcases h6 with h6 | h6
    · exact absurd hk h6
    · exact ⟨h6.1.1, h6.1.2, h6.2⟩
theorem parts1 : partsL 1 = [1] := by decide
theorem parts2 : partsL 2 = [0] := by decide
theorem parts3 : partsL 3 = [0, 1] := by decide
theorem parts4 : partsL 4 = [2] := by decide
theorem front1 {f : FrmD} (h : f.k = 1) : frontF f = beB 1 1 ++ (beB 2 f.b.length ++ f.b) := by unfold frontF; rw [h, parts1]; simp [partBy]
theorem front2 {f : FrmD} (h : f.k = 2) : frontF f = beB 1 2 ++ cstF f := by unfold frontF; rw [h, parts2]; simp [partBy]
theorem front3 {f : FrmD} (h : f.k = 3) : frontF f = beB 1 3 ++ (cstF f ++ (beB 2 f.b.length ++ f.b)) := by unfold frontF; rw [h, parts3]; simp [partBy]
theorem front4 {f : FrmD} (h : f.k = 4) : frontF f = beB 1 4 ++ beB 1 f.s.toNat := by unfold frontF; rw [h, parts4]; simp [partBy]
theorem cstF_len (f : FrmD) : (cstF f).length = 8 := cstBy_len _ _ _ _
/-- How long they are. -/
def longF (f : FrmD) : Nat := if f.k = 1 then 6 + f.b.length else if f.k = 2 then 12 else if f.k = 3 then 14 + f.b.length else 5
theorem front_len {f : FrmD} (h : chkF f = true) : (frontF f).length + 3 = longF f := by
  have hk := (chkF_facts h).1
  unfold longF
  rcases hk with e | e | e | e
  · rw [front1 e, e]; simp [beB_len]; omega
  · rw [front2 e, e]; simp [beB_len, cstF_len]
  · rw [front3 e, e]; simp [beB_len, cstF_len]; omega
  · rw [front4 e, e]; simp [beB_len]
theorem frm_len {f : FrmD} (h : chkF f = true) : (frmBy f).length = longF f := by
  rw [← front_len h]
  unfold frmBy boundF
  rw [List.length_append, beB_len]
theorem long_le {f : FrmD} (h : chkF f = true) : longF f ≤ 1038 ∧ 5 ≤ longF f := by
  obtain ⟨hk, _, hb, _⟩ := chkF_facts h
  unfold longF
  rcases hk with e | e | e | e <;> simp [e] <;> omega

/-! ### What is read -/
theorem inTake_back {st : Option (List UInt8)} {n : Int} {t : List UInt8} (h : (inTake st n).2 = some t) : ∃ d, st = some (d ++ t) ∧ (inTake st n).1 = d ∧ (d.length : Int) = n := by
  cases st with
  | none => simp [inTake] at h
  | some l =>
    unfold inTake at h ⊢
    simp only at h ⊢
    split at h
    · rename_i hn
      rw [if_pos hn]
      simp only [Option.some.injEq] at h
      exact ⟨l.take n.toNat, by rw [← h, List.take_append_drop], rfl, by rw [List.length_take]; omega⟩
    · cases h
theorem inTake_front {d : List UInt8} {n : Int} (hn : (d.length : Int) = n) (t : List UInt8) : inTake (some (d ++ t)) n = (d, some t) := by
  subst hn
  unfold inTake
  simp only
  rw [if_pos ⟨by omega, by rw [List.length_append]; omega⟩]
  simp
theorem one_back {st : Option (List UInt8)} {k : Nat} {t : List UInt8} (h : (inTake st (k : Int)).2 = some t) : st = some (beB k (VCst.rd st k) ++ t) ∧ VCst.rd st k < 256 ^ k := by
  obtain ⟨d, h1, h2, h3⟩ := inTake_back h
  refine ⟨?_, VCst.rd_lt st k⟩
  have : VCst.rd st k = numB d := by unfold VCst.rd; rw [h2]
  rw [this, be_numB d k (by omega), h1]
theorem one_front {k n : Nat} (hn : n < 256 ^ k) (t : List UInt8) : VCst.rd (some (beB k n ++ t)) k = n ∧ (inTake (some (beB k n ++ t)) (k : Int)).2 = some t := by
  have h := inTake_front (d := beB k n) (n := (k : Int)) (by rw [beB_len]) t
  unfold VCst.rd
  rw [h]
  exact ⟨numB_be k n hn, rfl⟩
def dataR (st : Option (List UInt8)) : List UInt8 × Option (List UInt8) := inTake (inTake st 2).2 ((VCst.rd st 2 : Nat) : Int)
theorem data_back {st : Option (List UInt8)} {t : List UInt8} (h : (dataR st).2 = some t) : st = some ((beB 2 (dataR st).1.length ++ (dataR st).1) ++ t) ∧ (dataR st).1.length < 65536 := by
  obtain ⟨d, h1, h2, h3⟩ := inTake_back h
  obtain ⟨h4, h5⟩ := one_back (k := 2) h1
  have hd : (dataR st).1 = d := h2
  rw [hd]
  have e : d.length = VCst.rd st 2 := by omega
  rw [e]
  exact ⟨by rw [List.append_assoc]; exact h4, h5⟩
theorem data_front {d : List UInt8} (hd : d.length < 65536) (t : List UInt8) : dataR (some ((beB 2 d.length ++ d) ++ t)) = (d, some t) := by
  unfold dataR
  rw [List.append_assoc]
  obtain ⟨h1, h2⟩ := one_front (k := 2) (n := d.length) (by simpa using hd) (d ++ t)
  rw [h1, show (2 : Int) = ((2 : Nat) : Int) from rfl, h2]
  exact inTake_front rfl t
theorem cst_back {st : Option (List UInt8)} {t : List UInt8} {r s m : Int} {g : Nat} (h : (inTake st 8).2 = some t) (hd : decC (inTake st 8).1 = some (r, s, m, g)) : st = some (cstBy r s m g ++ t) ∧ chkB r s m = true ∧ g < 65536 := by
  obtain ⟨d, h1, h2, h3⟩ := inTake_back h
  rw [h2] at hd
  obtain ⟨e1, e2⟩ := enc_of_dec hd
  unfold encC at e1
  by_cases hc : chkB r s m = true
  · rw [if_pos hc] at e1
    simp only [Option.some.injEq] at e1
    exact ⟨by rw [e1]; exact h1, hc, e2⟩
  · rw [if_neg hc] at e1; cases e1
theorem cst_front {r s m : Int} {g : Nat} (hc : chkB r s m = true) (hg : g < 65536) (t : List UInt8) : (inTake (some (cstBy r s m g ++ t)) 8) = (cstBy r s m g, some t) ∧ decC (cstBy r s m g) = some (r, s, m, g) := by
  refine ⟨inTake_front (by rw [cstBy_len]; rfl) t, (dec_of_enc hg ?_).1⟩
  unfold encC
  rw [if_pos hc]

def stepF (p : Int) (f : FrmD) (st : Option (List UInt8)) : FrmD × Option (List UInt8) × Bool :=
  if p = 0 then
    match decC (inTake st 8).1 with
    | some (r, s, m, g) => ({ f with r := r, s := s, m := m, v := (g : Int) }, (inTake st 8).2, true)
    | none => ({ f with r := 0, s := 0, m := 0, v := 0 }, (inTake st 8).2, false)
  else if p = 1 then ({ f with b := (dataR st).1 }, (dataR st).2, true)
  else ({ f with s := (VCst.rd st 1 : Int) }, (inTake st 1).2, true)
def runF : List Int → FrmD → Option (List UInt8) → FrmD × Option (List UInt8) × Bool
  | [], f, st => (f, st, true)
  | p :: ps, f, st => match stepF p f st with
    | (f', st', true) => runF ps f' st'
    | (f', st', false) => (f', st', false)
def frm0 (k : Int) : FrmD := ⟨k, 0, 0, 0, 0, []⟩
/-- The frame that bytes have the form of, whatever the sum says; and whether they have. -/
def formF (l : List UInt8) : FrmD × Bool :=
  let k : Int := (VCst.rd (some l) 1 : Int)
  let x := runF (partsL k) (frm0 k) (inTake (some l) 1).2
  (x.1, (decide (1 ≤ k) && decide (k ≤ 4)) && x.2.2 && ((inTake x.2.1 3).2 == some []) && chkF x.1)

theorem form_back {l : List UInt8} {f : FrmD} (h : formF l = (f, true)) : chkF f = true ∧ (f.k = 1 → f.r = 0 ∧ f.s = 0 ∧ f.m = 0 ∧ f.v = 0) ∧ 0 ≤ f.v ∧ f.v < 65536 ∧ ∃ t, t.length = 3 ∧ l = frontF f ++ t := by
  unfold formF at h
  simp only [Prod.mk.injEq, Bool.and_eq_true, decide_eq_true_eq, beq_iff_eq] at h
  obtain ⟨hf, ⟨⟨⟨hk1, hk2⟩, hr⟩, hd⟩, hc⟩ := h
  rw [hf] at hc
  obtain ⟨t, hst, _, ht⟩ := inTake_back hd
  rw [List.append_nil] at hst
  have ht3 : t.length = 3 := by omega
  have hk : VCst.rd (some l) 1 = 1 ∨ VCst.rd (some l) 1 = 2 ∨ VCst.rd (some l) 1 = 3 ∨ VCst.rd (some l) 1 = 4 := by omega
  rcases hk with e | e | e | e
  · rw [e, show ((1 : Nat) : Int) = 1 from rfl, parts1] at hf hr hst
    simp only [runF, stepF, frm0] at hf hr hst
    simp only [show ((1 : Int) = 0) = False from by simp, if_false, if_true] at hf hr hst
    obtain ⟨h1, h2⟩ := data_back hst
    obtain ⟨h3, h4⟩ := one_back (k := 1) h1
    subst hf
    refine ⟨hc, fun _ => ⟨rfl, rfl, rfl, rfl⟩, Int.le_refl _, (by decide : (0 : Int) < 65536), t, ht3, ?_⟩
    rw [front1 rfl]
    rw [e] at h3
    simp only [Option.some.injEq] at h3
    simpa using h3
  · rw [e, show ((2 : Nat) : Int) = 2 from rfl, parts2] at hf hr hst
    simp only [runF, stepF, frm0] at hf hr hst
    simp only [if_true] at hf hr hst
    cases hdc : decC (inTake (inTake (some l) 1).2 8).1 with
    | none => rw [hdc] at hr; simp at hr
    | some q =>
      obtain ⟨r, s, m, g⟩ := q
      rw [hdc] at hf hst
      simp only at hf hst
      obtain ⟨h1, h2, h3⟩ := cst_back hst hdc
      obtain ⟨h4, h5⟩ := one_back (k := 1) h1
      subst hf
      refine ⟨hc, fun h => absurd h (by simp), Int.natCast_nonneg g, by show (g : Int) < 65536; omega, t, ht3, ?_⟩
      rw [front2 rfl]
      rw [e] at h4
      simp only [Option.some.injEq] at h4
      rw [h4]; simp [cstF]
  · rw [e, show ((3 : Nat) : Int) = 3 from rfl, parts3] at hf hr hst
    simp only [runF, stepF, frm0] at hf hr hst
    simp only [if_true] at hf hr hst
    cases hdc : decC (inTake (inTake (some l) 1).2 8).1 with
    | none => rw [hdc] at hr; simp at hr
    | some q =>
      obtain ⟨r, s, m, g⟩ := q
      rw [hdc] at hf hst
      simp only [show ((1 : Int) = 0) = False from by simp, if_false, if_true] at hf hst
      obtain ⟨h1, h2⟩ := data_back hst
      obtain ⟨h3, h4, h5⟩ := cst_back h1 hdc
      obtain ⟨h6, h7⟩ := one_back (k := 1) h3
      subst hf
      refine ⟨hc, fun h => absurd h (by simp), Int.natCast_nonneg g, by show (g : Int) < 65536; omega, t, ht3, ?_⟩
      rw [front3 rfl]
      rw [e] at h6
      simp only [Option.some.injEq] at h6
      simpa [cstF] using h6
  · rw [e, show ((4 : Nat) : Int) = 4 from rfl, parts4] at hf hr hst
    simp only [runF, stepF, frm0] at hf hr hst
    simp only [show ((2 : Int) = 0) = False from by simp, show ((2 : Int) = 1) = False from by simp, if_false] at hf hr hst
    obtain ⟨h1, h2⟩ := one_back (k := 1) hst
    obtain ⟨h3, h4⟩ := one_back (k := 1) h1
    subst hf
    refine ⟨hc, fun h => absurd h (by simp), Int.le_refl _, (by decide : (0 : Int) < 65536), t, ht3, ?_⟩
    rw [front4 rfl]
    rw [e] at h3
    simp only [Option.some.injEq] at h3
    simpa using h3
theorem form_run {l rest : List UInt8} {k : Nat} {f : FrmD} {st : Option (List UInt8)} (h1 : VCst.rd (some l) 1 = k) (h2 : (inTake (some l) ((1 : Nat) : Int)).2 = some rest) (h3 : runF (partsL (k : Int)) (frm0 (k : Int)) (some rest) = (f, st, true)) (hk1 : 1 ≤ k) (hk4 : k ≤ 4) (h4 : (inTake st 3).2 = some []) (hc : chkF f = true) : formF l = (f, true) := by
  rw [show ((1 : Nat) : Int) = 1 from rfl] at h2
  have a1 : decide ((1 : Int) ≤ (k : Int)) = true := decide_eq_true (by omega)
  have a2 : decide ((k : Int) ≤ 4) = true := decide_eq_true (by omega)
  unfold formF
  simp only [h1, h2, h3, h4, hc, a1, a2]
  rfl
theorem form_front {f : FrmD} {t : List UInt8} (hc : chkF f = true) (hz : f.k = 1 → f.r = 0 ∧ f.s = 0 ∧ f.m = 0 ∧ f.v = 0) (hv0 : 0 ≤ f.v) (hv : f.v < 65536) (ht : t.length = 3) : formF (frontF f ++ t) = (f, true) := by
  obtain ⟨hk, hcb, hbl, hbe, hke⟩ := chkF_facts hc
  obtain ⟨q0, q1, q2, q3, q4, q5⟩ := chkB_facts hcb
  have hvn : ((f.v.toNat : Nat) : Int) = f.v := by omega
  have hend : (inTake (some t) 3).2 = some [] := by
    have := inTake_front (d := t) (n := 3) (by omega) []
    rw [List.append_nil] at this
    rw [this]
  rcases hk with e | e | e | e
  · obtain ⟨z1, z2, z3, z4⟩ := hz e
    rw [front1 e, List.append_assoc]
    obtain ⟨h1, h2⟩ := one_front (k := 1) (n := 1) (by decide) ((beB 2 f.b.length ++ f.b) ++ t)
    have h3 := data_front (d := f.b) (by omega) t
    have hfe : f = { frm0 1 with b := f.b } := by obtain ⟨k, r, s, m, v, b⟩ := f; simp_all [frm0]
    refine form_run h1 h2 ?_ (by decide) (by decide) hend hc
    rw [show ((1 : Nat) : Int) = 1 from rfl, parts1]
    simp only [runF, stepF, show ((1 : Int) = 0) = False from by simp, if_false, if_true, h3, ← hfe]
  · rw [front2 e, List.append_assoc]
    obtain ⟨h1, h2⟩ := one_front (k := 1) (n := 2) (by decide) (cstF f ++ t)
    obtain ⟨h3, h4⟩ := cst_front (g := f.v.toNat) hcb (by omega) t
    have hb0 := hbe (.inl e)
    have hfe : f = { frm0 2 with r := f.r, s := f.s, m := f.m, v := ((f.v.toNat : Nat) : Int) } := by rw [hvn]; obtain ⟨k, r, s, m, v, b⟩ := f; simp_all [frm0]
    refine form_run h1 h2 ?_ (by decide) (by decide) hend hc
    rw [show ((2 : Nat) : Int) = 2 from rfl, parts2]
    unfold cstF
    simp only [runF, stepF, if_true, h3, h4, ← hfe]
  · rw [front3 e, List.append_assoc, List.append_assoc]
    obtain ⟨h1, h2⟩ := one_front (k := 1) (n := 3) (by decide) (cstF f ++ ((beB 2 f.b.length ++ f.b) ++ t))
    obtain ⟨h3, h4⟩ := cst_front (g := f.v.toNat) hcb (by omega) ((beB 2 f.b.length ++ f.b) ++ t)
    have h5 := data_front (d := f.b) (by omega) t
    have hfe : f = { frm0 3 with r := f.r, s := f.s, m := f.m, v := ((f.v.toNat : Nat) : Int), b := f.b } := by rw [hvn]; obtain ⟨k, r, s, m, v, b⟩ := f; simp_all [frm0]
    refine form_run h1 h2 ?_ (by decide) (by decide) hend hc
    rw [show ((3 : Nat) : Int) = 3 from rfl, parts3]
    unfold cstF
    simp only [runF, stepF, show ((1 : Int) = 0) = False from by simp, if_false, if_true, h3, h4, h5, ← hfe]
  · obtain ⟨z1, z2, z3⟩ := hke e
    rw [front4 e, List.append_assoc]
    obtain ⟨h1, h2⟩ := one_front (k := 1) (n := 4) (by decide) (beB 1 f.s.toNat ++ t)
    have hs256 : f.s.toNat < 256 ^ 1 := by
      have : f.s.toNat < 256 := by omega
      simpa using this
    obtain ⟨h3, h4⟩ := one_front (k := 1) (n := f.s.toNat) hs256 t
    have hb0 := hbe (.inr e)
    have hsn : ((f.s.toNat : Nat) : Int) = f.s := by omega
    have hfe : f = { frm0 4 with s := f.s } := by obtain ⟨k, r, s, m, v, b⟩ := f; simp_all [frm0]
    refine form_run h1 h2 ?_ (by decide) (by decide) hend hc
    rw [show ((4 : Nat) : Int) = 4 from rfl, parts4]
    rw [show ((1 : Nat) : Int) = 1 from rfl] at h4
    simp only [runF, stepF, show ((2 : Int) = 0) = False from by simp, show ((2 : Int) = 1) = False from by simp, if_false, h3, h4, hsn, ← hfe]
/-- Bytes' frame. -/
def decF (l : List UInt8) : Option FrmD := if (formF l).2 && ((formF l).1.k == 1 || (openB l).isSome) then some (formF l).1 else none
end Go.Proofs.Ytcdaelgnankmfaa.VSta
