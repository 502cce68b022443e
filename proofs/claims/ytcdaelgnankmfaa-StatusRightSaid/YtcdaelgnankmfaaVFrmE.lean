/- frame.Encode. -/
import Derived.Test.YtcdaelgnankmfaaVFrmK
import Derived.Test.YtcdaelgnankmfaaVFrmC
import Derived.Test.YtcdaelgnankmfaaVCh
namespace Go.Proofs.Ytcdaelgnankmfaa.VSta
open Go.RowKit Go.VBase Go.VRg Go.VSeq Go.VOct VOct VCst Go.Proofs.Ytcdaelgnankmfaa.VCrc _root_.Go.VCrc VMsg

def EncFPost (x : Option (List UInt8)) (w : World) (e : Ending) (w' : World) : Prop :=
  ∃ u, e = .returned (.tuple #[u, .int .i64 (if x.isSome then 0 else 50)]) ∧ OwnB w' w.heap.size TB u (x.getD []) ∧ Ext w w' ∧ (x = none → u = .slice none 0 0)
theorem own_not {W W' : World} {row : Option Nat} (hg : W.grownBy W' row) (hr : ∀ r, row = some r → ∃ o : Obj, W.heap[r]? = some o ∧ o.isCells = false) {b e : Nat} {v : Value} {l : List UInt8} (h : OwnB W b e v l) : OwnB W' b e v l := by
  refine ⟨h.1, ?_⟩
  rcases h.2 with hn | ⟨g, cap, cur, rfl, hb, hgg, rest⟩
  · exact .inl hn
  · exact .inr ⟨g, cap, cur, rfl, hb, cells_of_not hg hr hgg, rest⟩

/-- An Out, beside a frame's box and that of its C-state's bytes. -/
structure EnF (w W : World) (bx bc B : Nat) (f : FrmD) (sx : Sl3) (uc : Value) (r : Option Nat) (st : Option (List UInt8)) : Prop where
  out : OutAt W TOut TB B r st
  row : W.heap[bx]? = some (.cells (frmC f (slV sx)) TFrm)
  box : W.heap[bc]? = some (.cells #[uc] 26)
  own : OwnB W 0 TB uc (cstF f)
  ext : Ext w W
  rle : ∀ g, r = some g → w.heap.size ≤ g ∧ g ≠ bx ∧ g ≠ bc ∧ uc.ownBlock ≠ some g
  ne : bx ≠ B ∧ bc ≠ B ∧ uc.ownBlock ≠ some B
  ble : w.heap.size ≤ B
theorem EnF.put {w W W' : World} {bx bc B : Nat} {f : FrmD} {sx : Sl3} {uc : Value} {r : Option Nat} {st st' : Option (List UInt8)} {e : Ending} (h : EnF w W bx bc B f sx uc r st) (hp : TailPost W B r st' e W') :
    e = .returned (.pointer (some ⟨B, 0, none⟩)) ∧ (∃ r', EnF w W' bx bc B f sx uc r' st') ∧ (∀ D o, W.heap[D]? = some o → D ≠ B → r ≠ some D → W'.heap[D]? = some o) := by
  obtain ⟨he, r', ho, ht, hn⟩ := hp
  have hbx : bx < W.heap.size := (Array.getElem?_eq_some_iff.1 h.row).1
  have hbc : bc < W.heap.size := (Array.getElem?_eq_some_iff.1 h.box).1
  have hle := h.ext.size
  have hub : ∀ g, uc.ownBlock = some g → g < W.heap.size := fun g hg => (World.ownsRow.lt h.own g hg).2
  refine ⟨he, ⟨r', ho, (ht.block bx hbx h.ne.1 (fun e => (h.rle bx e.symm).2.1 rfl)).trans h.row, (ht.block bc hbc h.ne.2.1 (fun e => (h.rle bc e.symm).2.2.1 rfl)).trans h.box, own_touch ht h.own h.ne.2.2 ?_, Below.trans h.ext (ht.below hle h.ble (fun g hg => (h.rle g hg).1)), fun g hg => ?_, h.ne, h.ble⟩, fun D o hD h1 h2 => (ht.block D (Array.getElem?_eq_some_iff.1 hD).1 h1 (fun e => h2 e.symm)).trans hD⟩
  · cases hq : uc.ownBlock with
    | none => exact .inl rfl
    | some g => exact .inr fun e => (h.rle g e.symm).2.2.2 hq
  · rcases hn g hg with h1 | h1
    · exact h.rle g h1
    · exact ⟨by omega, by omega, by omega, fun e => by have := hub g e; omega⟩
theorem EnF.keeps {w W W' : World} {bx bc B : Nat} {f : FrmD} {sx : Sl3} {uc : Value} {r : Option Nat} {st st' : Option (List UInt8)} {e : Ending} (h : EnF w W bx bc B f sx uc r st) (hp : TailPost W B r st' e W') : KeepsOthers W W' := by
  obtain ⟨he, r', ho, ht, hn⟩ := hp
  refine ⟨ht.size, fun k o hk hc => (ht.block k (Array.getElem?_eq_some_iff.1 hk).1 (fun e => ?_) (fun e => ?_)).trans hk⟩
  · subst e
    obtain ⟨v, hv⟩ := out_cells h.out
    rw [hv] at hk; cases hk; cases hc
  · have hout := h.out
    cases st with
    | none => rw [hout.2] at e; cases e
    | some l =>
      obtain ⟨v, h1, h2, h3, h4⟩ := hout
      have := own_cells h2 (h3.trans e.symm) hk
      rw [hc] at this; cases this
theorem EnF.later {w W W' : World} {bx bc B : Nat} {f : FrmD} {sx : Sl3} {uc : Value} {r : Option Nat} {st : Option (List UInt8)} (h : EnF w W bx bc B f sx uc r st) (x : Ext W W') : EnF w W' bx bc B f sx uc r st :=
  ⟨h.out.ext x, x.block h.row, x.block h.box, h.own.ext x, h.ext.trans x, h.rle, h.ne, h.ble⟩
theorem EnF.not {w W W' : World} {bx bc B : Nat} {f : FrmD} {sx : Sl3} {uc : Value} {r : Option Nat} {st : Option (List UInt8)} (h : EnF w W bx bc B f sx uc r st) {row : Option Nat} (hg : W.grownBy W' row) (hr : ∀ g, row = some g → w.heap.size ≤ g ∧ ∃ o : Obj, W.heap[g]? = some o ∧ o.isCells = false) : EnF w W' bx bc B f sx uc r st := by
  have hr' : ∀ g, row = some g → ∃ o : Obj, W.heap[g]? = some o ∧ o.isCells = false := fun g e => (hr g e).2
  exact ⟨outAt_own hg hr' h.out, cells_of_not hg hr' h.row, cells_of_not hg hr' h.box, own_not hg hr' h.own, Below.trans h.ext (grown_below hg h.ext.size (fun k hk => (hr k hk).1)), h.rle, h.ne, h.ble⟩
theorem EnF.cell {w W : World} {bx bc B : Nat} {f : FrmD} {sx : Sl3} {uc : Value} {r : Option Nat} {st : Option (List UInt8)} (h : EnF w W bx bc B f sx uc r st) :
    W.cell? ⟨bx, 0, none⟩ = some (.int .i64 f.k) ∧ W.cell? ⟨bx, 2, none⟩ = some (.int .i64 f.s) ∧ W.cell? ⟨bx, 5, none⟩ = some (slV sx) ∧ W.cell? ⟨bc, 0, none⟩ = some uc :=
  ⟨cell_of_row W _ 0 _ _ _ h.row, cell_of_row W _ 2 _ _ _ h.row, cell_of_row W _ 5 _ _ _ h.row, cell_of_row W _ 0 _ _ _ h.box⟩

/-- Between two rounds. -/
def FeI (w : World) (bx bc B : Nat) (f : FrmD) (sx : Sl3) (uc : Value) (pre : List Int) (W : World) : Prop :=
  ∃ r, EnF w W bx bc B f sx uc r (some (beB 1 f.k.toNat ++ pre.flatMap (partBy f)))
theorem feI_own (w : World) (bx bc B : Nat) (f : FrmD) (sx : Sl3) (uc : Value) (n0 : Nat) (hn0 : w.heap.size ≤ n0) : OwnFrom n0 (FeI w bx bc B f sx uc) := by
  rintro pre W W' row ⟨r, h⟩ hg hr
  exact ⟨r, h.not hg fun g e => ⟨by have := (hr g e).1; omega, (hr g e).2⟩⟩
theorem pre_len {f : FrmD} (hc : chkF f = true) {pre : List Int} (hp : pre <+: partsL f.k) : (beB 1 f.k.toNat ++ pre.flatMap (partBy f)).length ≤ 1040 := by
  obtain ⟨t, ht⟩ := hp
  have h := front_len hc
  have h2 := (long_le hc).1
  unfold frontF at h
  rw [← ht, List.flatMap_append] at h
  simp only [List.length_append] at h ⊢
  omega

set_option maxRecDepth 100000 in
set_option maxHeartbeats 8000000 in
theorem frmEncode_bad (f : FrmD) (sx : Sl3) (w : World) (hn : sx.2.1 = f.b.length) (hc : chkF f = false) :
    Calls Try.prog 31 #[.agg (frmC f (slV sx))] w (EncFPost (encF f) w) := by
  have hx : encF f = none := by unfold encF; rw [hc]; rfl
  rw [hx]
  have kC := fun W => frmCheck_calls f sx hn W
  rw [hc] at kC
  have hE := Ext.alloc w (.cells (frmC f (slV sx)) TFrm)
  obtain ⟨sa, sn, sc⟩ := sx
  simp only at hn
  subst hn
  unfold frmC slV at *
  simp only at *
  rw [show (if false = true then (0 : Int) else 50) = 50 from rfl] at kC
  go_enter Try.func31, Try.ntmps31
  go_wp2_with fail
  refine (kC _).mono ?_
  rintro e w1 ⟨rfl, h1⟩
  have x1 := hE.trans h1
  clear kC hE h1
  go_wp2_with fail
  refine bodyPost_ret (results_tmp2 rfl _ _ _) rfl ?_
  exact ⟨_, rfl, OwnB.nil _ _ _, x1, fun _ => rfl⟩

attribute [local go_sem] Oper.semAt_some
set_option maxRecDepth 100000 in
set_option maxHeartbeats 8000000 in
theorem frmEncode_ok (f : FrmD) (sx : Sl3) (w : World) (hx : Bys w (slV sx) f.b) (hn : sx.2.1 = f.b.length) (hc : chkF f = true) (hv0 : 0 ≤ f.v) (hv : f.v < 65536) :
    Calls Try.prog 31 #[.agg (frmC f (slV sx))] w (EncFPost (encF f) w) := by
  have hxe : encF f = some (frmBy f) := by unfold encF; exact if_pos hc
  rw [hxe]
  have kC := fun W => frmCheck_calls f sx hn W
  rw [hc] at kC
  rw [show (if true = true then (0 : Int) else 50) = 0 from rfl] at kC
  obtain ⟨hk, hcb, hbl, hbe, hke⟩ := chkF_facts hc
  obtain ⟨q0, q1, q2, q3, q4, q5⟩ := chkB_facts hcb
  have kE := fun W => Encode_calls f.r f.s f.m f.v.toNat (by omega) W
  rw [show ((f.v.toNat : Nat) : Int) = f.v by omega] at kE
  have hxc : encC f.r f.s f.m f.v.toNat = some (cstF f) := by unfold encC cstF; exact if_pos hcb
  rw [hxc] at kE
  unfold EncPost cst at kE
  simp only [Option.isSome_some, if_true, Option.getD_some, reduceCtorEq, false_implies, and_true] at kE
  have kP := fun W => parts_calls f.k W
  have wk : IntKind.u64.wrap f.k = ((f.k.toNat : Nat) : Int) := by rw [IntKind.wrap_u64]; omega
  have ws : IntKind.u64.wrap f.s = ((f.s.toNat : Nat) : Int) := by rw [IntKind.wrap_u64]; omega
  have wl : IntKind.u64.wrap (f.b.length : Int) = (f.b.length : Int) := by rw [IntKind.wrap_u64]; omega
  obtain ⟨KN, hKN⟩ : ∃ z, z = f.k.toNat := ⟨_, rfl⟩
  obtain ⟨SN, hSN⟩ : ∃ z, z = f.s.toNat := ⟨_, rfl⟩
  rw [← hKN] at wk
  rw [← hSN] at ws
  have HKS := Lib.hid (And.intro hKN hSN)
  have HC := Lib.hid (And.intro hc (And.intro hk (And.intro hcb (And.intro hbl (And.intro hx (And.intro hn (And.intro q2 q3)))))))
  clear hKN hSN hxe hxc hc hk hcb hbl hbe hke q0 q1 q2 q3 q4 q5 hv0 hv hx
  have r0 := heap_alloc_new w (.cells (frmC f (slV sx)) TFrm)
  have x0 := Ext.alloc w (.cells (frmC f (slV sx)) TFrm)
  obtain ⟨sa, sn, sc⟩ := sx
  simp only at hn
  subst hn
  have hrw : slV (sa, f.b.length, sc) = .slice sa f.b.length sc := rfl
  have hst : ∀ (u : Value), frmC f u = #[.int .i64 f.k, .int .i64 f.r, .int .i64 f.s, .int .i64 f.m, .int .u16 f.v, u] := fun _ => rfl
  rw [hrw, hst] at r0 x0 kC ⊢
  clear hrw hst
  refine calls_of_marks Try.func31 rfl ?_
  simp only [Try.ntmps31, List.size_toArray, List.length_cons, List.length_nil, Nat.reduceAdd, Nat.reduceSub, Array.replicate_succ, Array.replicate_zero, List.push_toArray, List.append_toArray, List.nil_append, List.cons_append]
  go_wp2_with fail
  refine (kC _).mono ?_
  rintro e w1 ⟨rfl, h1⟩
  replace r0 := h1.block r0
  replace x0 := x0.trans h1
  clear kC h1
  have c0 := cell_of_row w1 _ 0 _ _ _ r0
  have a0 : ∀ c t, (w1.alloc (.cells c t)).cell? ⟨w.heap.size, 0, none⟩ = some (.int .i64 f.k) := fun c t => (Ext.alloc w1 _).cell c0
  have hlt : w.heap.size < w1.heap.size := (Array.getElem?_eq_some_iff.1 r0).1
  have o1 := OutAt.new w1 TOut TB
  have x1 := x0.thenAlloc (.cells #[.slice none 0 0, .bool false] TOut)
  replace r0 := (Ext.alloc w1 (.cells #[.slice none 0 0, .bool false] TOut)).block r0
  clear c0
  go_wp2_with fail
  have hkb : KN < 256 := by have := HC.out.2.1; have := HKS.out.1; omega
  refine (Put_calls w1.heap.size none (some []) 1 KN _ o1 (by omega) (by decide)).mono ?_
  rintro e w2 ⟨rfl, r2, o2, t2, n2⟩
  have hB : w.heap.size ≤ w1.heap.size := by omega
  have x2 : Ext w w2 := Below.trans x1 (t2.below x1.size hB (fun g hg => by cases hg))
  have r0' := touch_row t2 r0 (by omega)
  have r2le : ∀ g, r2 = some g → w1.heap.size + 1 ≤ g := fun g hg => by
    rcases n2 g hg with h | h
    · cases h
    · simp at h; omega
  have h1b : stPut (some []) 1 KN = some (beB 1 KN) := by
    unfold stPut putB
    rw [if_pos ⟨rfl, by simpa using hkb⟩]; rfl
  rw [h1b] at o2
  generalize w1.heap.size = B at *
  have hBlt := o2.lt
  have hrlt := o2.rlt
  clear o1 x1 t2 n2 r0 a0 h1b x0 hkb
  have c1 := cell_of_row w2 _ 1 _ _ _ r0'
  have c2 := cell_of_row w2 _ 2 _ _ _ r0'
  have c3 := cell_of_row w2 _ 3 _ _ _ r0'
  have c4 := cell_of_row w2 _ 4 _ _ _ r0'
  go_wp2_with fail
  refine (kE _).mono ?_
  rintro e w3 ⟨uc, rfl, hu, h3⟩
  have x3 := x2.trans h3
  have r03 := h3.block r0'
  have o3 := o2.ext h3
  have hul := hu.lt
  have hul2 : ∀ g, uc.ownBlock = some g → g < w3.heap.size := fun g hg => (World.ownsRow.lt hu g hg).2
  obtain ⟨ua, cap, rfl⟩ := hu.slice
  clear kE c1 c2 c3 c4 r0' o2 x2
  have hs3 : w2.heap.size ≤ w3.heap.size := h3.size
  have E0 : EnF w (w3.alloc (.cells #[.slice ua (cstF f).length cap] 26)) w.heap.size w3.heap.size B f (sa, f.b.length, sc) (.slice ua (cstF f).length cap) r2 (some (beB 1 KN)) :=
    ⟨o3.ext (Ext.alloc _ _), (Ext.alloc _ _).block r03, heap_alloc_new w3 _, (hu.ext (Ext.alloc _ _)).mono (Nat.zero_le _), x3.thenAlloc _, fun g hg => ⟨by have := r2le g hg; omega, by have := r2le g hg; omega, by have := hrlt g hg; omega, fun e => by have := hul g e; have := hrlt g hg; omega⟩, ⟨by omega, by omega, fun e => by have := hul B e; omega⟩, by omega⟩
  have hbc : w.heap.size < w3.heap.size := by omega
  clear o3 r03 x3 hu h3
  rw [cstF_len] at E0 ⊢
  obtain ⟨W0, hW0⟩ : ∃ W0, W0 = w3.alloc (.cells #[.slice ua 8 cap] 26) := ⟨_, rfl⟩
  rw [← hW0] at E0
  have c0 := E0.cell.1
  have HW := Lib.hid hW0
  have HE := Lib.hid E0
  have hn0 : w.heap.size ≤ W0.heap.size := E0.ext.size
  clear hW0 E0
  rw [HW.out] at c0
  go_wp2_with fail
  rw [← HW.out]
  clear HW
  refine (kP _).mono ?_
  rintro e w4 ⟨rfl, rfl⟩
  clear kP c0
  go_wp2_with fail
  obtain ⟨uv, huv⟩ : ∃ u, u = Value.slice ua 8 cap := ⟨_, rfl⟩
  rw [← huv] at HE
  have HU := Lib.hid huv
  have E1 := HE.out.later (Ext.alloc W0 (.cells #[.int .i64 f.k] 3))
  rw [HKS.out.1] at E1
  have hI0 : FeI w w.heap.size w3.heap.size B f (sa, f.b.length, sc) uv [] (W0.alloc (.cells #[.int .i64 f.k] 3)) := ⟨r2, by simpa using E1⟩
  have hD0 : B < (W0.alloc (.cells #[.int .i64 f.k] 3)).heap.size ∧ w3.heap.size < (W0.alloc (.cells #[.int .i64 f.k] 3)).heap.size := ⟨E1.out.lt, (Array.getElem?_eq_some_iff.1 E1.box).1⟩
  clear E1 HE hul hul2 r2le hrlt huv
  generalize w3.heap.size = bc at *
  refine wp_rangeFunc1_nx (α := Int) (p1 := 27) (q1 := 8) (e1 := fun (x : Int) => .int .i64 x) (gf := 72) (lb := #[.pointer (some ⟨W0.heap.size, 0, none⟩)]) rfl (fun args w => by go_simp) (parts_seq f.k _ W0.heap.size (heap_alloc_new W0 _))
    (fun _ _ => trivial) (fun _ _ _ _ _ _ _ _ => trivial) (FeI w w.heap.size bc B f (sa, f.b.length, sc) uv) (fun _ _ _ => False) (feI_own w w.heap.size bc B f _ _ _ (by simp; omega)) (fun c s A B' row hs _ _ => hs.elim) hI0 (fun l x W K hK => ?_) (fun l1 pre x W hI hnx => ?_) (fun D xs W hD hS hI hk => ?_) (fun D c pre W hD hS hI hk => hI.elim)
  · simp only [List.setIfInBounds_toArray, List.set_cons_zero, List.set_cons_succ] at hK ⊢
    gi_wp2
    exact hK
  · simp only [List.setIfInBounds_toArray, List.set_cons_zero, List.set_cons_succ]
    obtain ⟨r, E⟩ := hI
    have hpl := pre_len HC.out.1 (List.IsPrefix.trans (List.prefix_append pre [x]) hnx)
    have hx3 : x = 0 ∨ x = 1 ∨ x = 2 := by
      have hm : x ∈ partsL f.k := hnx.subset (by simp)
      rcases HC.out.2.1 with e | e | e | e <;> rw [e] at hm
      · rw [parts1] at hm; simp at hm; omega
      · rw [parts2] at hm; simp at hm; omega
      · rw [parts3] at hm; simp at hm; omega
      · rw [parts4] at hm; simp at hm; omega
    have hnext : beB 1 f.k.toNat ++ (pre ++ [x]).flatMap (partBy f) = (beB 1 f.k.toNat ++ pre.flatMap (partBy f)) ++ partBy f x := by simp [List.flatMap_append]
    generalize beB 1 f.k.toNat ++ pre.flatMap (partBy f) = P at *
    have HNX := Lib.hid hnext
    clear hnext hnx hI0
    obtain ⟨e0, e2, e5, eb⟩ := E.cell
    unfold slV at e5
    simp only at e5
    rcases hx3 with rfl | rfl | rfl
    · have hT := fun n => CallsIn.inRound l1 (callsIn_wide (n := n).2 (Tail_calls B r (some P) uv (cstF f) W E.out (E.own.bys (by rw [cstF_len]; decide)) (by rw [cstF_len]; show P.length + 8 ≤ _; omega)))
      have HE := Lib.hid E
      clear E e0 e2 e5
      gi_wp2
      refine ⟨trivial, (hT 6).mono ?_⟩
      rintro e W' hp
      obtain ⟨rfl, ⟨r', E'⟩, _⟩ := HE.out.put hp
      have hkeep := HE.out.keeps hp
      have E2 : FeI w w.heap.size bc B f (sa, f.b.length, sc) uv (pre ++ [0]) W' := ⟨r', by rw [HNX.out]; exact E'⟩
      clear hp E' hT
      gi_wp2
      exact ⟨hkeep, trivial, E2⟩
    · have HE := Lib.hid E
      have rb := E.row
      clear E e0 e2 e5 eb
      gi_wp2
      refine wpIn_region_of_any (fun _ W' => KeepsOthers W W' ∧ True ∧ FeI w w.heap.size bc B f (sa, f.b.length, sc) uv (pre ++ [1]) W') l1 7 rfl (by kernel_rfl) (fun a W' h => by first | exact h | (gi_wp2; exact h)) ?_
      refine any_chain (fun a b => ∀ o, a.heap[w.heap.size]? = some o → b.heap[w.heap.size]? = some o) Eq [(4, .known (.pointer (some ⟨B, 0, none⟩))), (7, .known (.pointer (some ⟨B, 0, none⟩)))] [4, 7]
        (fun vs W' => (∃ r, EnF w W' w.heap.size bc B f (sa, f.b.length, sc) uv r (match vs.length with | 0 => some P | 1 => some (P ++ beB 2 f.b.length) | _ => some ((P ++ beB 2 f.b.length) ++ f.b))) ∧ KeepsOthers W W')
        (by kernel_rfl) (by kernel_rfl) (by kernel_rfl) (fun a b h o ho => by rw [← h]; exact ho) (fun _ _ _ h k => by rw [← h]; exact k) (fun _ _ h => h) (fun _ _ _ h k o ho => k o (h o ho)) ⟨⟨r, HE.out.later (Ext.drew W)⟩, KeepsOthers.drew W⟩ ?_
      intro σ
      simp only
      have kd : ∀ W' : World, (∀ o, W.drew.heap[w.heap.size]? = some o → W'.heap[w.heap.size]? = some o) → W'.cell? ⟨w.heap.size, 5, none⟩ = some (.slice sa f.b.length sc) := fun W' h => cell_of_row W' _ 5 _ _ _ (h _ rb)
      have hl16 : f.b.length < 65536 := by have := HC.out.2.2.2.1; omega
      have hput : stPut (some P) 2 f.b.length = some (P ++ beB 2 f.b.length) := by
        unfold stPut putB
        rw [if_pos ⟨rfl, by simpa using hl16⟩]; rfl
      have hbl := HC.out.2.2.2.1
      have HX := Lib.hid HC.out.2.2.2.2.1
      repeat (refine cg_pure (x := ?_) rfl (by rfl) (fun W2 hW => ?_) ?_; rotate_left; (· have f5 := kd W2 hW; go_simp; with_reducible rfl); simp only [Nat.reduceAdd, Act.put, List.setIfInBounds_toArray, List.set_cons_zero, List.set_cons_succ])
      refine cg_call (x := .pointer (some ⟨B, 0, none⟩)) 0 (vs := []) rfl rfl (by decide) rfl (by rfl) (fun W2 hW hF hS => ?_) ?_
      · obtain ⟨⟨r1, E⟩, kp⟩ := hS
        clear hF
        go_simp
        refine (Put_calls B r1 (some P) 2 f.b.length W2 E.out (by omega) (by show P.length + 8 ≤ _; omega)).mono ?_
        rintro e W' hp
        rw [hput] at hp
        obtain ⟨rfl, h2, _⟩ := E.put hp
        have hkeep := E.keeps hp
        obtain ⟨r2, E2⟩ := h2
        exact ⟨_, rfl, fun o ho => (by rw [E.row] at ho; cases ho; exact E2.row), rfl, ⟨r2, E2⟩, kp.trans hkeep⟩
      simp only [Nat.reduceAdd, Act.put, List.setIfInBounds_toArray, List.set_cons_zero, List.set_cons_succ]
      repeat (refine cg_pure (x := ?_) rfl (by rfl) (fun W2 hW => ?_) ?_; rotate_left; (· have f5 := kd W2 hW; go_simp; with_reducible rfl); simp only [Nat.reduceAdd, Act.put, List.setIfInBounds_toArray, List.set_cons_zero, List.set_cons_succ])
      refine cg_call (x := .pointer (some ⟨B, 0, none⟩)) 1 (vs := [.pointer (some ⟨B, 0, none⟩)]) rfl rfl (by decide) rfl (by rfl) (fun W2 hW hF hS => ?_) ?_
      · obtain ⟨⟨r1, E⟩, kp⟩ := hS
        clear hF
        go_simp
        refine (Tail_calls B r1 (some (P ++ beB 2 f.b.length)) (.slice sa f.b.length sc) f.b W2 E.out (HX.out.ext E.ext) (by show (P ++ beB 2 f.b.length).length + f.b.length ≤ _; rw [List.length_append, beB_len]; omega)).mono ?_
        rintro e W' hp
        obtain ⟨rfl, h2, _⟩ := E.put hp
        have hkeep := E.keeps hp
        obtain ⟨r2, E2⟩ := h2
        exact ⟨_, rfl, fun o ho => (by rw [E.row] at ho; cases ho; exact E2.row), rfl, ⟨r2, by simpa [stTail] using E2⟩, kp.trans hkeep⟩
      simp only [Nat.reduceAdd, Act.put, List.setIfInBounds_toArray, List.set_cons_zero, List.set_cons_succ]
      refine cg_done rfl fun W2 hW hF hS => ?_
      obtain ⟨⟨r5, E5⟩, kp⟩ := hS
      exact ⟨kp, trivial, r5, by rw [HNX.out, show partBy f 1 = beB 2 f.b.length ++ f.b from rfl, ← List.append_assoc]; exact E5⟩
    · have hs256 : SN < 256 := by have := HC.out.2.2.2.2.2.2; have := HKS.out.2; omega
      have hT := fun n => CallsIn.inRound l1 (callsIn_wide (n := n).2 (Put_calls B r (some P) 1 SN W E.out (by omega) (by show P.length + 8 ≤ _; omega)))
      have hput : stPut (some P) 1 SN = some (P ++ beB 1 SN) := by
        unfold stPut putB
        rw [if_pos ⟨rfl, by simpa using hs256⟩]; rfl
      rw [hput] at hT
      have HE := Lib.hid E
      clear E e0 e5 eb hput
      gi_wp2
      refine ⟨trivial, (hT 6).mono ?_⟩
      rintro e W' hp
      obtain ⟨rfl, ⟨r', E'⟩, _⟩ := HE.out.put hp
      have hkeep := HE.out.keeps hp
      have E2 : FeI w w.heap.size bc B f (sa, f.b.length, sc) uv (pre ++ [2]) W' := ⟨r', by rw [HNX.out, show partBy f 2 = beB 1 SN by rw [HKS.out.2]; rfl]; exact E'⟩
      clear hp E' hT
      gi_wp2
      exact ⟨hkeep, trivial, E2⟩
  · subst hS
    obtain ⟨r, E⟩ := hI
    rw [show beB 1 f.k.toNat ++ (partsL f.k).flatMap (partBy f) = frontF f from rfl] at E
    have hfl := front_len HC.out.1
    have hfl2 := (long_le HC.out.1).1
    have hfl3 := (long_le HC.out.1).2
    have hD2 : (W0.alloc (.cells #[.int .i64 f.k] 3)).heap.size ≤ D := hD
    have hDw : w.heap.size ≤ D := by simp at hD2; omega
    have hDB : D ≠ B ∧ D ≠ bc := ⟨by have := hD0.1; omega, by have := hD0.2; omega⟩
    have hKB : frmBy f = frontF f ++ boundF (frontF f) (if f.k = 1 then cstF f else []) := rfl
    obtain ⟨e0, e2, e5, eb⟩ := E.cell
    have hfin : ∀ (W2 : World) (b : Nat) (v : Value), W2.heap[D]? = some (.deferred (some [])) → Ext w W2 → w.heap.size ≤ b → OwnB W2 b TB v (frmBy f) → EncFPost (some (frmBy f)) w (.returned (.tuple #[v, .int .i64 0])) (W2.putObj D (.deferred none)) := fun W2 b v hk2 hx2 hb hv =>
      ⟨v, rfl, (own_not (grownBy_putObj' W2 D _) (fun g hg => by cases hg; exact ⟨_, hk2, rfl⟩) hv).mono hb, Below.trans hx2 (grown_below (grownBy_putObj' W2 D _) hx2.size (fun k h => by cases h; exact hDw)), fun h => by cases h⟩
    have HF := Lib.hid hfin
    clear hfin hI0 hD
    generalize hFr : frontF f = F at *
    by_cases hk1 : f.k = 1
    rotate_left
    · rw [if_neg hk1] at hKB
      have hKB2 : frmBy f = sealB F := by rw [hKB]; unfold sealB boundF; rw [List.append_nil]
      have hb1 : (f.k == 1) = false := by simpa using hk1
      have HE := Lib.hid E
      have hl1 : F.length ≤ 1038 := by omega
      clear E e2 e5 eb hk1 hKB hfl hfl2 hfl3
      go_wp2_with fail
      refine (All_calls B r (some F) W HE.out.out (by show F.length ≤ _; omega)).mono ?_
      rintro e W1 ⟨u, rfl, hu, h1⟩
      have hub := hu.bys (l := F) (by unfold maxLen; omega)
      have hk' := h1.block hk
      have x1 := HE.out.ext.trans h1
      clear hk hu h1 e0
      have kS := Seal_calls u F W1 hub (by omega)
      go_wp2_with fail
      refine kS.mono ?_
      rintro e W2 ⟨v, rfl, hv, h2⟩
      have hk2 := h2.block hk'
      have x2 := x1.trans h2
      have hs1 := x1.size
      rw [← hKB2] at hv
      clear kS hub hk' h2 x1 HE
      go_wp2_with fail
      refine leave1 rfl hk2 (results_tmp2 rfl _ _ _) ?_
      exact HF.out W2 _ v hk2 x2 hs1 hv
    · rw [if_pos hk1] at hKB
      have hb1 : (f.k == 1) = true := by simpa using hk1
      have HE := Lib.hid E
      have rb := E.box
      have hl1 : F.length ≤ 1038 := by omega
      have hl0 : 0 < F.length := by omega
      clear E e2 e5 eb hk1 hfl hfl2 hfl3
      go_wp2_with fail
      refine wp_region_chain (fun a b => ∀ o, a.heap[bc]? = some o → b.heap[bc]? = some o) Eq [(0, .unk (fun _ _ => True) (fun _ _ _ _ _ => trivial)), (2, .unk (fun _ _ => True) (fun _ _ _ _ _ => trivial)), (3, .known (.pointer (some ⟨B, 0, none⟩))), (4, .unk (fun _ _ => True) (fun _ _ _ _ _ => trivial))] [0, 2, 3, 4]
        (fun vs W' => match vs with
          | [] => (∃ r, EnF w W' w.heap.size bc B f (sa, f.b.length, sc) uv r (some F)) ∧ W'.heap[D]? = some (.deferred (some []))
          | [u] => ((∃ r, EnF w W' w.heap.size bc B f (sa, f.b.length, sc) uv r (some F)) ∧ W'.heap[D]? = some (.deferred (some []))) ∧ Bys W' u F
          | [_, v] => ((∃ r, EnF w W' w.heap.size bc B f (sa, f.b.length, sc) uv r (some F)) ∧ W'.heap[D]? = some (.deferred (some []))) ∧ Bys W' v (boundF F (cstF f))
          | [_, _, _] => (∃ r, EnF w W' w.heap.size bc B f (sa, f.b.length, sc) uv r (some (F ++ boundF F (cstF f)))) ∧ W'.heap[D]? = some (.deferred (some []))
          | [_, _, _, x] => OwnB W' w.heap.size TB x (F ++ boundF F (cstF f)) ∧ Ext w W' ∧ W'.heap[D]? = some (.deferred (some []))
          | _ => True)
        (by rfl) (by kernel_rfl) (by kernel_rfl) (by kernel_rfl) (fun a b h o ho => by rw [← h]; exact ho) (fun _ _ _ h k => by rw [← h]; exact k) (fun _ _ h => h) (fun _ _ _ h k o ho => k o (h o ho)) ⟨⟨r, HE.out.later (Ext.drew W)⟩, hk⟩ ?_
      intro σ
      simp only
      have kd : ∀ W' : World, (∀ o, W.drew.heap[bc]? = some o → W'.heap[bc]? = some o) → W'.cell? ⟨bc, 0, none⟩ = some uv := fun W' h => cell_of_row W' _ 0 _ _ _ (h _ rb)
      refine cg_call' 0 (vs := []) rfl rfl (by decide) rfl (by rfl) (fun W2 hW hF hS => ?_) ?_
      · obtain ⟨⟨r1, E⟩, hk2⟩ := hS
        clear hF
        go_simp
        refine (All_calls B r1 (some F) W2 E.out (by show F.length ≤ _; omega)).mono ?_
        rintro e W3 ⟨u, rfl, hu, h3⟩
        exact ⟨_, rfl, fun o ho => h3.block ho, ⟨⟨r1, E.later h3⟩, h3.block hk2⟩, hu.bys (l := F) (by unfold maxLen; omega)⟩
      simp only [Nat.reduceAdd, Act.put, List.setIfInBounds_toArray, List.set_cons_zero, List.set_cons_succ]
      repeat (refine cg_pure (x := ?_) rfl (by rfl) (fun W2 hW => ?_) ?_; rotate_left; (· have f5 := kd W2 hW; go_simp; with_reducible rfl); simp only [Nat.reduceAdd, Act.put, List.setIfInBounds_toArray, List.set_cons_zero, List.set_cons_succ])
      refine cg_call' 1 (vs := [σ 0]) rfl rfl (by decide) rfl (by rfl) (fun W2 hW hF hS => ?_) ?_
      · obtain ⟨⟨⟨r1, E⟩, hk2⟩, hb⟩ := hS
        clear hF
        go_simp
        refine (bound_calls (σ 0) uv F (cstF f) W2 hb (E.own.bys (by rw [cstF_len]; decide)) (by omega) (by rw [cstF_len]; omega)).mono ?_
        rintro e W3 ⟨v, rfl, hv, _, h3⟩
        exact ⟨_, rfl, fun o ho => h3.block ho, ⟨⟨r1, E.later h3⟩, h3.block hk2⟩, hv⟩
      simp only [Nat.reduceAdd, Act.put, List.setIfInBounds_toArray, List.set_cons_zero, List.set_cons_succ]
      refine cg_call (x := .pointer (some ⟨B, 0, none⟩)) 2 (vs := [σ 0, σ 2]) rfl rfl (by decide) rfl (by rfl) (fun W2 hW hF hS => ?_) ?_
      · obtain ⟨⟨⟨r1, E⟩, hk2⟩, hb⟩ := hS
        clear hF
        go_simp
        refine (Tail_calls B r1 (some F) (σ 2) (boundF F (cstF f)) W2 E.out hb (by unfold boundF; rw [beB_len]; show F.length + 3 ≤ _; omega)).mono ?_
        rintro e W3 hp
        have hkeep := E.keeps hp
        obtain ⟨rfl, ⟨r2, E2⟩, _⟩ := E.put hp
        exact ⟨_, rfl, fun o ho => (by rw [E.box] at ho; cases ho; exact E2.box), rfl, ⟨r2, E2⟩, hkeep.same _ _ hk2 rfl⟩
      simp only [Nat.reduceAdd, Act.put, List.setIfInBounds_toArray, List.set_cons_zero, List.set_cons_succ]
      refine cg_call' 3 (vs := [σ 0, σ 2, .pointer (some ⟨B, 0, none⟩)]) rfl rfl (by decide) rfl (by rfl) (fun W2 hW hF hS => ?_) ?_
      · obtain ⟨⟨r1, E⟩, hk2⟩ := hS
        clear hF
        go_simp
        refine (All_calls B r1 (some (F ++ boundF F (cstF f))) W2 E.out (by show (F ++ boundF F (cstF f)).length ≤ _; unfold boundF; rw [List.length_append, beB_len]; omega)).mono ?_
        rintro e W3 ⟨u, rfl, hu, h3⟩
        exact ⟨_, rfl, fun o ho => h3.block ho, OwnB.mono hu E.ext.size, E.ext.trans h3, h3.block hk2⟩
      simp only [Nat.reduceAdd, Act.put, List.setIfInBounds_toArray, List.set_cons_zero, List.set_cons_succ]
      repeat (refine cg_pure (x := ?_) rfl (by rfl) (fun W2 hW => ?_) ?_; rotate_left; (· skip; go_simp; with_reducible rfl); simp only [Nat.reduceAdd, Act.put, List.setIfInBounds_toArray, List.set_cons_zero, List.set_cons_succ])
      refine cg_done rfl fun W2 hW hF hS => ?_
      obtain ⟨hv, hx2, hk2⟩ := hS
      rw [← hKB] at hv
      have hv : OwnB W2 w.heap.size TB (σ 4) (frmBy f) := hv
      clear hF hW kd hKB rb HE hk e0
      generalize σ 4 = v at *
      go_wp2_with fail
      refine leave1 rfl hk2 (results_tmp2 rfl _ _ _) ?_
      exact HF.out W2 _ v hk2 hx2 (Nat.le_refl _) hv

/-- frame.Encode. -/
theorem frmEncode_calls (f : FrmD) (sx : Sl3) (w : World) (hx : Bys w (slV sx) f.b) (hv0 : 0 ≤ f.v) (hv : f.v < 65536) :
    Calls Try.prog 31 #[.agg (frmC f (slV sx))] w (EncFPost (encF f) w) := by
  have hn : sx.2.1 = f.b.length := by
    obtain ⟨a, c, h, _⟩ := hx
    unfold slV at h
    simp only [Value.slice.injEq] at h
    exact h.2.1
  cases hc : chkF f with
  | false => exact frmEncode_bad f sx w hn hc
  | true => exact frmEncode_ok f sx w hx hn hc hv0 hv
end Go.Proofs.Ytcdaelgnankmfaa.VSta
