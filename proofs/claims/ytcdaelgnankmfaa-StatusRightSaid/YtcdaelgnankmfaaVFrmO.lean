/- frame.form: the walk. -/
import Derived.Test.YtcdaelgnankmfaaVFrmG
namespace Go.Proofs.Ytcdaelgnankmfaa.VSta
open Go.RowKit Go.VBase Go.VRg Go.VSeq Go.VOct VOct VCst Go.Proofs.Ytcdaelgnankmfaa.VCrc _root_.Go.VCrc VMsg

def FormPost (x : FrmD × Bool) (w : World) (e : Ending) (w' : World) : Prop := ∃ u, e = .returned (.tuple #[.agg (frmC x.1 u), .bool x.2]) ∧ OwnB w' w.heap.size TB u x.1.b ∧ Ext w w'
theorem inTake_all (st : Option (List UInt8)) (n : Int) : (stAll (inTake st n).2).length ≤ (stAll st).length := by
  cases st with
  | none => simp [inTake, stAll]
  | some l =>
    unfold inTake
    simp only
    split
    · show (l.drop n.toNat).length ≤ l.length; rw [List.length_drop]; omega
    · simp [stAll]
def FmI (w : World) (B b4 b5 b7 : Nat) (k : Int) (s : Option (List UInt8)) (pre : List Int) (W : World) : Prop :=
  ∃ f u st, runF pre (frm0 k) s = (f, st, true) ∧ FmS w W B b4 b5 b7 f u st true ∧ (stAll st).length ≤ 100000
def FmX (w : World) (B b4 b5 b7 : Nat) (k : Int) (s : Option (List UInt8)) (c : Code) (pre : List Int) (W : World) : Prop :=
  c = .exit 0 ∧ ∃ f u st, runF pre (frm0 k) s = (f, st, false) ∧ FmS w W B b4 b5 b7 f u st false ∧ (stAll st).length ≤ 100000
theorem fmI_own (w : World) (B b4 b5 b7 : Nat) (k : Int) (s : Option (List UInt8)) (n0 : Nat) (hn0 : w.heap.size ≤ n0) : OwnFrom n0 (FmI w B b4 b5 b7 k s) := by
  rintro pre W W' row ⟨f, u, st, h1, h2, h3⟩ hg hr
  exact ⟨f, u, st, h1, h2.not hg fun g e => ⟨by have := (hr g e).1; omega, (hr g e).2⟩, h3⟩
theorem fmX_own (w : World) (B b4 b5 b7 : Nat) (k : Int) (s : Option (List UInt8)) (n0 : Nat) (hn0 : w.heap.size ≤ n0) (c : Code) : OwnFrom n0 (FmX w B b4 b5 b7 k s c) := by
  rintro pre W W' row ⟨hc, f, u, st, h1, h2, h3⟩ hg hr
  exact ⟨hc, f, u, st, h1, h2.not hg fun g e => ⟨by have := (hr g e).1; omega, (hr g e).2⟩, h3⟩

attribute [local go_sem] Oper.semAt_some

set_option maxRecDepth 100000 in
set_option maxHeartbeats 8000000 in
theorem form_calls (v : Value) (l : List UInt8) (w : World) (hv : Bys w v l) (hl : l.length ≤ 100000) : Calls Try.prog 57 #[v] w (FormPost (formF l) w) := by
  have kF := fun W (h : Bys W v l) => From_calls v l W h (by omega)
  unfold FromPost at kF
  obtain ⟨X, hX⟩ : ∃ X, formF l = X := ⟨_, rfl⟩
  rw [hX]
  have HX := Lib.hid hX
  clear hX
  obtain ⟨n, hn⟩ : ∃ n, VCst.rd (some l) 1 = n := ⟨_, rfl⟩
  obtain ⟨s1, hs1⟩ : ∃ s, (inTake (some l) 1).2 = s := ⟨_, rfl⟩
  have hn256 : n < 256 := by have := VCst.rd_lt (some l) 1; rw [hn] at this; simpa using this
  have hsl : (stAll s1).length ≤ 100000 := by have := inTake_all (some l) 1; rw [hs1] at this; exact Nat.le_trans this hl
  have kG := fun B W h => Get_calls B (some l) 1 W h (by decide) (by decide)
  rw [show getW 1 = 1 from rfl] at kG
  unfold GetPost at kG
  rw [hs1, show numB (inTake (some l) 1).1 = VCst.rd (some l) 1 from rfl, hn] at kG
  have wn : IntKind.i64.wrap (n : Int) = (n : Int) := by rw [IntKind.wrap_i64]; omega
  have kP := fun W => parts_calls (n : Int) W
  have HN := Lib.hid (And.intro hn (And.intro hs1 (And.intro hn256 (And.intro hsl hl))))
  obtain ⟨N, hNn⟩ : ∃ N : Int, N = (n : Int) := ⟨_, rfl⟩
  rw [← hNn] at wn kP
  have kG := fun B W h => (kG B W h)
  have HNN := Lib.hid hNn
  simp only [← hNn] at kG
  clear hn hs1 hn256 hsl hl hNn
  refine calls_of_marks Try.func57 rfl ?_
  simp only [Try.ntmps57, List.size_toArray, List.length_cons, List.length_nil, Nat.reduceAdd, Nat.reduceSub, Array.replicate_succ, Array.replicate_zero, List.push_toArray, List.append_toArray, List.nil_append, List.cons_append]
  have x0 := Ext.alloc w (.cells (frmC (frm0 0) (.slice none 0 0)) TFrm)
  have r0 := heap_alloc_new w (.cells (frmC (frm0 0) (.slice none 0 0)) TFrm)
  have hv0 := hv.ext x0
  have hst0 : frmC (frm0 0) (.slice none 0 0) = #[.int .i64 0, .int .i64 0, .int .i64 0, .int .i64 0, .int .u16 0, .slice none 0 0] := rfl
  rw [hst0] at x0 r0 hv0
  obtain ⟨va, vc, rfl⟩ : ∃ a c, v = .slice a l.length c := by obtain ⟨a, c, h, _⟩ := hv; exact ⟨a, c, h⟩
  clear hv
  go_wp2_with fail
  refine (kF _ hv0).mono ?_
  rintro e w1 ⟨B, rfl, hB, hin, h1⟩
  have x1 := x0.trans h1
  have r1 := h1.block r0
  have hBl := hin.lt
  have hBw : w.heap.size < B := by simp at hB; omega
  clear kF hv0 x0 r0 h1 hB
  have c4 := cell_of_row _ _ 0 _ _ _ (heap_alloc_new w1 (.cells #[.pointer (some ⟨B, 0, none⟩)] 123))
  have p4 := heap_alloc_new w1 (.cells #[.pointer (some ⟨B, 0, none⟩)] 123)
  have x2 := x1.thenAlloc (.cells #[.pointer (some ⟨B, 0, none⟩)] 123)
  have r2 := (Ext.alloc w1 (.cells #[.pointer (some ⟨B, 0, none⟩)] 123)).block r1
  have hin2 := hin.ext (Ext.alloc w1 (.cells #[.pointer (some ⟨B, 0, none⟩)] 123))
  clear r1 x1 hin
  go_wp2_with fail
  refine (kG B _ hin2).mono ?_
  rintro e w2 ⟨rfl, hi2, ht2⟩
  have hb4 : w1.heap.size ≠ B := by omega
  have p4' := touch_row ht2 p4 hb4
  have r2' := touch_row ht2 r2 (by omega)
  have x3 : Ext w w2 := Below.trans x2 (ht2.below x2.size (by omega) (fun _ h => by cases h))
  have hs4 : w1.heap.size < w2.heap.size := (Array.getElem?_eq_some_iff.1 p4').1
  clear kG hin2 ht2 p4 r2 x2 c4
  have hBb : B < w1.heap.size := hBl
  generalize w1.heap.size = b4 at *
  have rz := heap_alloc_new w2 (.cells #[.int .i64 0, .int .i64 0, .int .i64 0, .int .i64 0, .int .u16 0, .slice none 0 0] TFrm)
  have x4 : Ext w2 ((w2.alloc (.cells #[.int .i64 0, .int .i64 0, .int .i64 0, .int .i64 0, .int .u16 0, .slice none 0 0] TFrm)).setRow w2.heap.size (frmC (frm0 N) (.slice none 0 0))) := (Ext.alloc _ _).setRow (Nat.le_refl _) _
  have r5 := setRow_heap (w2.alloc (.cells #[.int .i64 0, .int .i64 0, .int .i64 0, .int .i64 0, .int .u16 0, .slice none 0 0] TFrm)) w2.heap.size _ (frmC (frm0 N) (.slice none 0 0)) _ _ rz
  obtain ⟨W5, hW5⟩ : ∃ W5, W5 = (w2.alloc (.cells #[.int .i64 0, .int .i64 0, .int .i64 0, .int .i64 0, .int .u16 0, .slice none 0 0] TFrm)).setRow w2.heap.size (frmC (frm0 N) (.slice none 0 0)) := ⟨_, rfl⟩
  have hsz5 : W5.heap.size = w2.heap.size + 1 := by rw [hW5]; simp
  rw [← hW5] at x4 r5
  have HW := Lib.hid hW5
  clear hW5
  have q4 := cell_of_row w2 _ 0 _ _ _ p4'
  have c50 : ((w2.alloc (.cells #[.int .i64 0, .int .i64 0, .int .i64 0, .int .i64 0, .int .u16 0, .slice none 0 0] TFrm)).setRow w2.heap.size (frmC (frm0 N) (.slice none 0 0))).cell? ⟨w2.heap.size, 0, none⟩ = some (.int .i64 N) := by rw [← HW.out]; exact cell_of_row W5 _ 0 _ _ _ r5
  have c51 : ((((w2.alloc (.cells #[.int .i64 0, .int .i64 0, .int .i64 0, .int .i64 0, .int .u16 0, .slice none 0 0] TFrm)).setRow w2.heap.size (frmC (frm0 N) (.slice none 0 0))).alloc (.cells #[.bool false] 4)).setCell ⟨w2.heap.size + 1, 0, none⟩ (.bool true)).cell? ⟨w2.heap.size, 0, none⟩ = some (.int .i64 N) := by
    rw [← HW.out, World.cell?_setCell_other _ _ _ _ (by intro e; simp at e)]
    exact (Ext.alloc W5 _).cell (cell_of_row W5 _ 0 _ _ _ r5)
  obtain ⟨kn, hkn⟩ : ∃ kn, (decide (1 ≤ N) && decide (N ≤ 4)) = kn := ⟨_, rfl⟩
  have F6 : FmS w (W5.alloc (.cells #[.bool true] 4)) B b4 w2.heap.size (w2.heap.size + 1) (frm0 N) (.slice none 0 0) s1 true := by
    have xa := x4.thenAlloc (.cells #[.bool true] 4)
    refine ⟨hi2.ext xa, xa.block p4', (Ext.alloc _ _).block r5, OwnB.nil _ _ _, heap_alloc_at W5 _ hsz5, xa.block r2', x3.trans xa, hBw, hBb, hs4, by omega⟩
  clear hi2 r2' x3 p4' x4 r5 hst0
  have HF6 := Lib.hid F6
  clear F6
  by_cases h1 : 1 ≤ N
  · have hd1 : decide (1 ≤ N) = true := decide_eq_true h1
    have hd2 : decide (N ≤ 4) = kn := by rw [← hkn, hd1]; rfl
    have HKN := Lib.hid hkn
    clear h1 hkn
    go_wp2_with (refine storeFrm (m := frm0 N) (sa := none) (sn := 0) (sc := 0) rz rfl rfl rfl rfl rfl ?_)
    refine (kP _).mono ?_
    rintro e w' ⟨rfl, rfl⟩
    go_wp2_with fail
    show Code.wp _ _ _ _ ((((w2.alloc (.cells #[.int .i64 0, .int .i64 0, .int .i64 0, .int .i64 0, .int .u16 0, .slice none 0 0] TFrm)).setRow w2.heap.size (frmC (frm0 N) (.slice none 0 0))).alloc (.cells #[.bool true] 4)).alloc (.cells #[.int .i64 N] 3))
    rw [← HW.out]
    clear kP c50 c51 rz HW q4
    obtain ⟨W6, hW6⟩ : ∃ W6, W6 = W5.alloc (.cells #[.bool true] 4) := ⟨_, rfl⟩
    have hsz6 : W6.heap.size = w2.heap.size + 1 + 1 := by rw [hW6]; simp [hsz5]
    rw [← hW6] at HF6 ⊢
    clear hW6 hsz5
    have F6 := HF6.out
    have hI0 : FmI w B b4 w2.heap.size (w2.heap.size + 1) N s1 [] (W6.alloc (.cells #[.int .i64 N] 3)) := ⟨frm0 N, _, s1, rfl, F6.later (Ext.alloc _ _), HN.out.2.2.2.1⟩
    have hw6 : w.heap.size ≤ W6.heap.size := F6.ext.size
    have hlast : w2.heap.size + 1 < W6.heap.size := by omega
    clear HF6 F6
    generalize w2.heap.size = b5 at *
    rw [show (b5 + 1 + 1 : Nat) = W6.heap.size from hsz6.symm]
    refine wp_rangeFunc1_nx (α := Int) (p1 := 28) (q1 := 8) (e1 := fun (x : Int) => .int .i64 x) (gf := 72) (lb := #[.pointer (some ⟨W6.heap.size, 0, none⟩)]) rfl (fun args w => by go_simp) (parts_seq N _ W6.heap.size (heap_alloc_new W6 _))
      (fun _ _ => trivial) (fun _ _ _ _ _ _ _ _ => trivial) (FmI w B b4 b5 (b5 + 1) N s1) (FmX w B b4 b5 (b5 + 1) N s1) (fmI_own w B b4 b5 _ N s1 _ (by simp; omega)) (fmX_own w B b4 b5 _ N s1 _ (by simp; omega)) hI0 (fun l x W K hK => ?_) (fun l1 pre x W hI hnx => ?_) (fun D xs W hD hS hI hk => ?_) (fun D c pre W hD hS hI hk => ?_)
    · simp only [List.setIfInBounds_toArray, List.set_cons_zero, List.set_cons_succ] at hK ⊢
      gi_wp2
      exact hK
    · simp only [List.setIfInBounds_toArray, List.set_cons_zero, List.set_cons_succ]
      obtain ⟨f, u, st, hrun, F, hstl⟩ := hI
      have hrn := runF_snoc (x := x) hrun
      have hx3 : x = 0 ∨ x = 1 ∨ x = 2 := by
        have hm : x ∈ partsL N := hnx.subset (by simp)
        unfold partsL at hm
        repeat' split at hm
        all_goals simp at hm
        all_goals omega
      obtain ⟨q4, q7, z7, z5, e0, e1, e2, e3, e4, e5⟩ := F.cells
      have HRN := Lib.hid (And.intro hrn hstl)
      have HF := Lib.hid F
      clear hrun hrn hI0
      rcases hx3 with rfl | rfl | rfl
      · have hT := fun m => CallsIn.inRound l1 (callsIn_wide (n := m).2 (Take_calls B st 8 W F.inn (by decide) (by decide) (by omega)))
        unfold TakePost at hT
        have hdl : (inTake st 8).1.length ≤ 8 := inTake_le st 8
        clear F e0 e1 e2 e3 e4 e5 q7 z7 z5
        gi_wp2
        refine ⟨trivial, (hT 6).mono ?_⟩
        rintro e W1 ⟨uu, rfl, hu, hi, ht⟩
        have F1 := HF.out.touch hi ht
        have hub := hu.bys (by unfold maxLen; omega)
        have hD := fun m => CallsIn.inRound l1 (callsIn_wide (n := m).2 (Decode_calls uu (inTake st 8).1 W1 hub (by omega)))
        unfold DecPost at hD
        have hkp : KeepsOthers W W1 := ⟨ht.size, fun k o hk hc => touch_row ht hk (fun e => by
          subst e
          have hin := HF.out.inn
          cases st with
          | none => obtain ⟨v, h1⟩ := hin; rw [h1] at hk; cases hk; cases hc
          | some l => obtain ⟨v, h1, _⟩ := hin; rw [h1] at hk; cases hk; cases hc)⟩
        clear hT hu hub hi ht q4
        have hal := inTake_all st 8
        cases hdc : decC (inTake st 8).1 with
        | none =>
          rw [hdc] at hD
          simp only [Option.isSome_none, Bool.false_eq_true, if_false] at hD
          have hstep : stepF 0 f st = ({ f with r := 0, s := 0, m := 0, v := 0 }, (inTake st 8).2, false) := by unfold stepF; rw [if_pos rfl, hdc]
          have HST := Lib.hid hstep
          have HF1 := Lib.hid (And.intro F1 (And.intro hkp (Nat.le_trans hal hstl)))
          clear F1 hstep hdc hkp hal hstl hdl
          unfold cst at hD
          gi_wp2
          refine ⟨trivial, (hD 6).mono ?_⟩
          rintro e W2 ⟨rfl, h2⟩
          have F2 := HF1.out.1.later h2
          clear hD
          have F3 := F2.later (Ext.alloc W2 (.cells #[.int .i64 0, .int .i64 0, .int .i64 0, .int .u16 0] 25))
          obtain ⟨q4, q7, z7, z5, e0, e1, e2, e3, e4, e5⟩ := F3.cells
          have F4 := (F3.setC 0 0 0 0).set7 false
          have q8 := F4.cells.2.1
          have HF4 := Lib.hid (And.intro F4 (KeepsOthers.trans HF1.out.2.1 (show KeepsOthers W1 (W2.alloc (.cells #[.int .i64 0, .int .i64 0, .int .i64 0, .int .u16 0] 25)) from ⟨(h2.thenAlloc _).size, fun k o hk _ => (h2.thenAlloc _).block hk⟩)))
          clear F2 F3 F4 h2 q4 e0 e5
          gi_wp2
          exact ⟨(((((HF4.out.2.trans (KeepsOthers.setCell _ _ _)).trans (KeepsOthers.setCell _ _ _)).trans (KeepsOthers.setCell _ _ _)).trans (KeepsOthers.setCell _ _ _)).trans (KeepsOthers.setCell _ _ _)), rfl, _, _, _, by rw [HRN.out.1, HST.out], HF4.out.1, HF1.out.2.2⟩
        | some q =>
          obtain ⟨r, s, m, g⟩ := q
          rw [hdc] at hD
          simp only [Option.isSome_some, if_true] at hD
          have hstep : stepF 0 f st = ({ f with r := r, s := s, m := m, v := (g : Int) }, (inTake st 8).2, true) := by unfold stepF; rw [if_pos rfl, hdc]
          have HST := Lib.hid hstep
          have HF1 := Lib.hid (And.intro F1 (And.intro hkp (Nat.le_trans hal hstl)))
          clear F1 hstep hdc hkp hal hstl hdl
          unfold cst at hD
          gi_wp2
          refine ⟨trivial, (hD 6).mono ?_⟩
          rintro e W2 ⟨rfl, h2⟩
          have F2 := HF1.out.1.later h2
          clear hD
          have F3 := F2.later (Ext.alloc W2 (.cells #[.int .i64 r, .int .i64 s, .int .i64 m, .int .u16 (g : Int)] 25))
          obtain ⟨q4, q7, z7, z5, e0, e1, e2, e3, e4, e5⟩ := F3.cells
          have F4 := (F3.setC r s m (g : Int)).set7 true
          have q8 := F4.cells.2.1
          have HF4 := Lib.hid (And.intro F4 (KeepsOthers.trans HF1.out.2.1 (show KeepsOthers W1 (W2.alloc (.cells #[.int .i64 r, .int .i64 s, .int .i64 m, .int .u16 (g : Int)] 25)) from ⟨(h2.thenAlloc _).size, fun k o hk _ => (h2.thenAlloc _).block hk⟩)))
          clear F2 F3 F4 h2 q4 e0 e5
          gi_wp2
          exact ⟨(((((HF4.out.2.trans (KeepsOthers.setCell _ _ _)).trans (KeepsOthers.setCell _ _ _)).trans (KeepsOthers.setCell _ _ _)).trans (KeepsOthers.setCell _ _ _)).trans (KeepsOthers.setCell _ _ _)), trivial, _, _, _, by rw [HRN.out.1, HST.out], HF4.out.1, HF1.out.2.2⟩
      · have p4 := F.p4
        have hM : VCst.rd st 2 < 65536 := by have := VCst.rd_lt st 2; simpa using this
        have hal := inTake_all st 2
        have hal2 := inTake_all (inTake st 2).2 ((VCst.rd st 2 : Nat) : Int)
        have hstep : stepF 1 f st = ({ f with b := (dataR st).1 }, (dataR st).2, true) := rfl
        have hdr : inTake (inTake st 2).2 ((VCst.rd st 2 : Nat) : Int) = dataR st := rfl
        have hG := fun W h => Get_calls B st 2 W h (by decide) (by decide)
        rw [show getW 2 = 2 from rfl] at hG
        unfold GetPost at hG
        rw [show numB (inTake st 2).1 = VCst.rd st 2 from rfl] at hG
        rw [hdr] at hal2
        have hT := fun W h => Take_calls B (inTake st 2).2 ((VCst.rd st 2 : Nat) : Int) W h (by omega) (by omega) (by omega)
        rw [hdr] at hT
        unfold TakePost at hT
        obtain ⟨M, hMM⟩ : ∃ M : Int, M = ((VCst.rd st 2 : Nat) : Int) := ⟨_, rfl⟩
        rw [← hMM] at hT
        simp only [← hMM] at hG
        have wM : IntKind.i64.wrap M = M := by rw [IntKind.wrap_i64]; omega
        generalize dataR st = dr at *
        generalize (inTake st 2).2 = st1 at *
        have HST := Lib.hid (And.intro hstep (show (stAll dr.2).length ≤ 100000 by omega))
        clear F e0 e1 e2 e3 e4 e5 q7 z7 z5 hstep hal hal2 hMM hM hdr
        gi_wp2
        refine wpIn_region_of_any _ l1 7 rfl (by kernel_rfl) (fun _ _ h => h) ?_
        refine any_chain (fun a b => ∀ o, a.heap[b4]? = some o → b.heap[b4]? = some o) Eq [(2, .known (.int .u64 M)), (4, .unk (fun _ _ => True) (fun _ _ _ _ _ => trivial)), (6, .known undef)] [2, 4, 6]
          (fun vs W' => KeepsOthers W W' ∧ match vs with
            | [] => FmS w W' B b4 b5 (b5 + 1) f u st true
            | [_] => FmS w W' B b4 b5 (b5 + 1) f u st1 true
            | [_, v] => FmS w W' B b4 b5 (b5 + 1) f u dr.2 true ∧ OwnB W' w.heap.size TB v dr.1
            | [_, _, _] => ∃ v', FmS w W' B b4 b5 (b5 + 1) { f with b := dr.1 } v' dr.2 true
            | _ => True)
          (by kernel_rfl) (by kernel_rfl) (by kernel_rfl) (fun a b h o ho => by rw [← h]; exact ho) (fun _ _ _ h k => by rw [← h]; exact k) (fun _ _ h => h) (fun _ _ _ h k o ho => k o (h o ho)) ⟨KeepsOthers.drew W, HF.out.later (Ext.drew W)⟩ ?_
        intro σ
        simp only
        have kd : ∀ W' : World, (∀ o, W.drew.heap[b4]? = some o → W'.heap[b4]? = some o) → W'.cell? ⟨b4, 0, none⟩ = some (.pointer (some ⟨B, 0, none⟩)) := fun W' h => cell_of_row W' _ 0 _ _ _ (h _ p4)
        repeat (refine cg_pure (x := ?_) rfl (by rfl) (fun W2 hW => ?_) ?_; rotate_left; (· have f5 := kd W2 hW; go_simp; with_reducible rfl); simp only [Nat.reduceAdd, Act.put, List.setIfInBounds_toArray, List.set_cons_zero, List.set_cons_succ])
        refine cg_call (x := .int .u64 M) 0 (vs := []) rfl rfl (by decide) rfl (by rfl) (fun W2 hW hF hS => ?_) ?_
        · obtain ⟨kp, E⟩ := hS
          clear hF
          go_simp
          refine (hG W2 E.inn).mono ?_
          rintro e W' ⟨rfl, hi, ht⟩
          exact ⟨_, rfl, fun o ho => touch_row ht ho (by have := E.lt; omega), rfl, kp.trans (E.keepsT ht), E.touch hi ht⟩
        simp only [Nat.reduceAdd, Act.put, List.setIfInBounds_toArray, List.set_cons_zero, List.set_cons_succ]
        repeat (refine cg_pure (x := ?_) rfl (by rfl) (fun W2 hW => ?_) ?_; rotate_left; (· have f5 := kd W2 hW; go_simp; with_reducible rfl); simp only [Nat.reduceAdd, Act.put, List.setIfInBounds_toArray, List.set_cons_zero, List.set_cons_succ])
        refine cg_call' 1 (vs := [.int .u64 M]) rfl rfl (by decide) rfl (by rfl) (fun W2 hW hF hS => ?_) ?_
        · obtain ⟨kp, E⟩ := hS
          clear hF
          go_simp
          refine (hT W2 E.inn).mono ?_
          rintro e W' ⟨v, rfl, hv, hi, ht⟩
          exact ⟨_, rfl, fun o ho => touch_row ht ho (by have := E.lt; omega), kp.trans (E.keepsT ht), E.touch hi ht, hv.mono E.ext.size⟩
        simp only [Nat.reduceAdd, Act.put, List.setIfInBounds_toArray, List.set_cons_zero, List.set_cons_succ]
        repeat (refine cg_pure (x := ?_) rfl (by rfl) (fun W2 hW => ?_) ?_; rotate_left; (· have f5 := kd W2 hW; go_simp; with_reducible rfl); simp only [Nat.reduceAdd, Act.put, List.setIfInBounds_toArray, List.set_cons_zero, List.set_cons_succ])
        refine cg_call (x := undef) 2 (vs := [.int .u64 M, σ 4]) rfl rfl (by decide) rfl (by rfl) (fun W2 hW hF hS => ?_) ?_
        · obtain ⟨kp, E, hv⟩ := hS
          clear hF
          obtain ⟨va', vc', hvs⟩ := hv.slice
          have hv2 : OwnB W2 w.heap.size TB (σ 4) dr.1 := hv
          have hvs2 : σ 4 = .slice va' dr.1.length vc' := hvs
          clear hv hvs
          generalize σ 4 = vq at *
          subst hvs2
          obtain ⟨q4, q7, z7, z5, e0, e1, e2, e3, e4, e5⟩ := E.cells
          have E2 := E.setD hv2
          have z55 := z5 5
          obtain ⟨ua, uc, rfl⟩ := E.own.slice
          clear q4 q7 z7 z5 e0 e1 e2 e3 e4
          go_simp
          exact ⟨fun o ho => (heap_setCell_other _ _ _ _ (by have := E.lt; show b4 ≠ b5; omega)).trans ho, rfl, kp.trans (KeepsOthers.setCell _ _ _), _, E2⟩
        simp only [Nat.reduceAdd, Act.put, List.setIfInBounds_toArray, List.set_cons_zero, List.set_cons_succ]
        refine cg_done rfl fun W2 hW hF hS => ?_
        obtain ⟨kp, v', E⟩ := hS
        obtain ⟨q4, q7, z7, z5, e0, e1, e2, e3, e4, e5⟩ := E.cells
        have HE := Lib.hid E
        clear hF hW kd hG hT E z5 e0 e1 e2 e3 e4 e5 q4 p4
        unfold onlyN
        simp only
        gi_wp2
        exact ⟨kp, trivial, _, _, _, by rw [HRN.out.1, HST.out.1], HE.out, HST.out.2⟩
      · have hG := fun m => CallsIn.inRound l1 (callsIn_wide (n := m).2 (Get_calls B st 1 W F.inn (by decide) (by decide)))
        rw [show getW 1 = 1 from rfl] at hG
        unfold GetPost at hG
        rw [show numB (inTake st 1).1 = VCst.rd st 1 from rfl] at hG
        have hs256 : VCst.rd st 1 < 256 := by have := VCst.rd_lt st 1; simpa using this
        have hal := inTake_all st 1
        have hstep : stepF 2 f st = ({ f with s := (VCst.rd st 1 : Int) }, (inTake st 1).2, true) := rfl
        obtain ⟨S, hS⟩ : ∃ S : Int, S = (VCst.rd st 1 : Int) := ⟨_, rfl⟩
        rw [← hS] at hG hstep
        have wS : IntKind.i64.wrap S = S := by rw [IntKind.wrap_i64]; omega
        have HST := Lib.hid hstep
        clear F e0 e1 e3 e4 e5 q7 z7 hS hs256 hstep
        gi_wp2
        refine ⟨trivial, (hG 6).mono ?_⟩
        rintro e W1 ⟨rfl, hi, ht⟩
        have F1 := HF.out.touch hi ht
        obtain ⟨q4', q7, z7, z5', e0', e1', e2', e3', e4', e5'⟩ := F1.cells
        have F2 := F1.setS S
        have HF2 := Lib.hid F2
        have hkp : KeepsOthers W W1 := ⟨ht.size, fun k o hk hc => touch_row ht hk (fun e => by
          subst e
          have hin := HF.out.inn
          cases st with
          | none => obtain ⟨v, h1⟩ := hin; rw [h1] at hk; cases hk; cases hc
          | some l => obtain ⟨v, h1, _⟩ := hin; rw [h1] at hk; cases hk; cases hc)⟩
        have q7' := (F1.setS S).cells.2.1
        clear hG hi ht q4 z5 e2 F1 F2 e0' e1' e3' e4' e5' q4' q7 z7
        gi_wp2
        exact ⟨hkp.trans (KeepsOthers.setCell _ _ _), trivial, _, _, _, by rw [HRN.out.1, HST.out], HF2.out, Nat.le_trans hal hstl⟩
    · subst hS
      obtain ⟨f, u, st, hrun, F, hstl⟩ := hI
      have hXE : X = (f, (kn && true && ((inTake st 3).2 == some []) && chkF f)) := by
        rw [← HX.out]
        unfold formF
        simp only [HN.out.1, HN.out.2.1, ← HNN.out, hrun, HKN.out]
      obtain ⟨st3, hst3⟩ : ∃ s, (inTake st 3).2 = s := ⟨_, rfl⟩
      have kT := fun W h => Take_calls B st 3 W h (by decide) (by decide) (by omega)
      unfold TakePost at kT
      rw [hst3] at hXE kT
      have HXE := Lib.hid hXE
      have hD2 : (W6.alloc (.cells #[.int .i64 N] 3)).heap.size ≤ D := hD
      have hDw : w.heap.size ≤ D := by simp at hD2; omega
      have hDb : b5 + 1 < D := by simp at hD2; omega
      have hFIN : ∀ (W' : World) (R : Bool), W'.heap[D]? = some (.deferred (some [])) → Ext w W' → OwnB W' w.heap.size TB u f.b → X = (f, R) → FormPost X w (.returned (.tuple #[.agg (frmC f u), .bool R])) (W'.putObj D (.deferred none)) := fun W' R hk2 hx2 hv hXR => by
        rw [hXR]
        exact ⟨u, rfl, own_not (grownBy_putObj' W' D _) (fun g hg => by cases hg; exact ⟨_, hk2, rfl⟩) hv, Below.trans hx2 (grown_below (grownBy_putObj' W' D _) hx2.size (fun k h => by cases h; exact hDw))⟩
      have HFIN := Lib.hid hFIN
      have q4 := F.cells.1
      clear hXE hFIN hrun hst3 hD hI0
      go_wp2_with fail
      refine (kT _ F.inn).mono ?_
      rintro e W1 ⟨uu, rfl, -, hi, ht⟩
      have F1 := F.touch hi ht
      have lt := F1.lt
      have hk1 := touch_row ht hk (by omega)
      have hown := F1.own
      have x1 := F1.ext
      have hw1 := x1.size
      have r2' := F1.r2
      have kd : ∀ W2, RT w.heap.size f u W1.drew W2 → W2.heap[b5]? = some (.cells (frmC f u) TFrm) ∧ W2.cell? ⟨b5 + 1, 0, none⟩ = some (.bool true) ∧ W2.cell? ⟨b4, 0, none⟩ = some (.pointer (some ⟨B, 0, none⟩)) ∧ InLen W2 B st3 ∧ ∃ g v, W2.heap[w.heap.size]? = some (.cells (frmC g v) TFrm) := fun W2 h =>
        ⟨h.keep _ _ (by omega) F1.r5, cell_of_row _ _ 0 _ _ _ (h.keep _ _ (by omega) F1.r7), cell_of_row _ _ 0 _ _ _ (h.keep _ _ (by omega) F1.p4), InLen.keep (InLen.of F1.inn) (fun o ho => h.keep _ o (by omega) ho), h.has ⟨_, _, F1.r2⟩⟩
      clear kT q4 F hi ht hk F1
      go_wp2_with fail
      have dokb : True := trivial
      cases kn with
      | false =>
        have hknv := trivial
        refine wp_region_rg (RT w.heap.size f u) [(14, .unk (fun _ W => W.heap[w.heap.size]? = some (.cells (frmC f u) TFrm)) (fun _ _ _ h => h.done))] (by kernel_rfl) (by kernel_rfl) (by kernel_rfl) (fun W => RT.refl W) (fun _ _ _ => RT.trans) ?_
        intro σ
        simp only
        refine rg_pure (x := .agg (frmC f u)) rfl (by rfl) (fun W2 hW => exec_loadF (f := f) (u := u) (kd W2 hW).1 rfl rfl) ?_
        simp only [Nat.reduceAdd, Act.put, List.setIfInBounds_toArray, List.set_cons_zero, List.set_cons_succ]
        repeat (first | (refine rg_pure (x := ?_) rfl (by rfl) (fun W2 hW => ?_) ?_; rotate_left; (· obtain ⟨d5, d7, d4, dB, dn⟩ := kd W2 hW; have dok := dokb; go_simp; with_reducible rfl); simp only [Nat.reduceAdd, Act.put, List.setIfInBounds_toArray, List.set_cons_zero, List.set_cons_succ]) | (refine rg_skip rfl (by rfl) ?_; simp only [Nat.reduceAdd, Act.put, List.setIfInBounds_toArray, List.set_cons_zero, List.set_cons_succ]))
        refine rg_unk rfl (by rfl) (fun W2 hW hF => ?_) ?_
        · obtain ⟨ua, uc, hus⟩ := hown.slice
          obtain ⟨g0, v0, hgv⟩ := (kd W2 hW).2.2.2.2
          have q := RT.set (f := f) (u := u) (kd W2 hW).2.2.2.2
          rw [exec_storeF (f := f) (u := u) (sl := (ua, f.b.length, uc)) hgv rfl rfl rfl rfl hus]
          exact q
        simp only [Nat.reduceAdd, Act.put, List.setIfInBounds_toArray, List.set_cons_zero, List.set_cons_succ]
        repeat (first | (refine rg_pure (x := ?_) rfl (by rfl) (fun W2 hW => ?_) ?_; rotate_left; (· obtain ⟨d5, d7, d4, dB, dn⟩ := kd W2 hW; have dok := dokb; go_simp; with_reducible rfl); simp only [Nat.reduceAdd, Act.put, List.setIfInBounds_toArray, List.set_cons_zero, List.set_cons_succ]) | (refine rg_skip rfl (by rfl) ?_; simp only [Nat.reduceAdd, Act.put, List.setIfInBounds_toArray, List.set_cons_zero, List.set_cons_succ]))
        refine rg_done fun W3 hW hF => ?_
        have hrow := hF 14 _ _ rfl (by decide)
        have hk3 := hW.keep D _ (by omega) hk1
        have hx3 : Ext w W3 := Below.trans x1.thenDrew hW.bel
        have hown3 : OwnB W3 w.heap.size TB u f.b := by
          refine own_keepF hown (own_type hown r2' (by decide)) fun k o hne hq => hW.keep k o hne hq
        clear hF hW kd
        go_wp2_with fail
        refine leave1 rfl hk3 (results_row_tmp rfl _ _ w.heap.size _ _ _ _ (by rfl) ((putObj_other _ _ _ (by omega)).trans hrow) Try.underlying28 rfl (by kernel_rfl)) ?_
        exact HFIN.out W3 _ hk3 hx3 hown3 (by rw [HXE.out]; simp [hknv])
      | true =>
        have hknv := trivial
        cases hdn : (st3 == some [])
        · have hd0 := trivial
          refine wp_region_rg (RT w.heap.size f u) [(7, .known (.bool (st3 == some []))), (14, .unk (fun _ W => W.heap[w.heap.size]? = some (.cells (frmC f u) TFrm)) (fun _ _ _ h => h.done))] (by kernel_rfl) (by kernel_rfl) (by kernel_rfl) (fun W => RT.refl W) (fun _ _ _ => RT.trans) ?_
          intro σ
          simp only
          refine rg_pure (x := .agg (frmC f u)) rfl (by rfl) (fun W2 hW => exec_loadF (f := f) (u := u) (kd W2 hW).1 rfl rfl) ?_
          simp only [Nat.reduceAdd, Act.put, List.setIfInBounds_toArray, List.set_cons_zero, List.set_cons_succ]
          repeat (first | (refine rg_pure (x := ?_) rfl (by rfl) (fun W2 hW => ?_) ?_; rotate_left; (· obtain ⟨d5, d7, d4, dB, dn⟩ := kd W2 hW; have dok := dokb; go_simp; with_reducible rfl); simp only [Nat.reduceAdd, Act.put, List.setIfInBounds_toArray, List.set_cons_zero, List.set_cons_succ]) | (refine rg_skip rfl (by rfl) ?_; simp only [Nat.reduceAdd, Act.put, List.setIfInBounds_toArray, List.set_cons_zero, List.set_cons_succ]))
          refine rg_known rfl (by rfl) (fun W2 hW hF => ?_) ?_
          · go_simp
            refine (DoneL_calls B st3 W2 (kd W2 hW).2.2.2.1).mono ?_
            rintro e W' ⟨rfl, rfl⟩
            exact ⟨_, rfl, RT.refl _, by show Value.bool (st3 == some []) = _; rw [hdn]⟩
          simp only [Nat.reduceAdd, Act.put, List.setIfInBounds_toArray, List.set_cons_zero, List.set_cons_succ]
          repeat (first | (refine rg_pure (x := ?_) rfl (by rfl) (fun W2 hW => ?_) ?_; rotate_left; (· obtain ⟨d5, d7, d4, dB, dn⟩ := kd W2 hW; have dok := dokb; go_simp; with_reducible rfl); simp only [Nat.reduceAdd, Act.put, List.setIfInBounds_toArray, List.set_cons_zero, List.set_cons_succ]) | (refine rg_skip rfl (by rfl) ?_; simp only [Nat.reduceAdd, Act.put, List.setIfInBounds_toArray, List.set_cons_zero, List.set_cons_succ]))
          refine rg_unk rfl (by rfl) (fun W2 hW hF => ?_) ?_
          · obtain ⟨ua, uc, hus⟩ := hown.slice
            obtain ⟨g0, v0, hgv⟩ := (kd W2 hW).2.2.2.2
            have q := RT.set (f := f) (u := u) (kd W2 hW).2.2.2.2
            rw [exec_storeF (f := f) (u := u) (sl := (ua, f.b.length, uc)) hgv rfl rfl rfl rfl hus]
            exact q
          simp only [Nat.reduceAdd, Act.put, List.setIfInBounds_toArray, List.set_cons_zero, List.set_cons_succ]
          repeat (first | (refine rg_pure (x := ?_) rfl (by rfl) (fun W2 hW => ?_) ?_; rotate_left; (· obtain ⟨d5, d7, d4, dB, dn⟩ := kd W2 hW; have dok := dokb; go_simp; with_reducible rfl); simp only [Nat.reduceAdd, Act.put, List.setIfInBounds_toArray, List.set_cons_zero, List.set_cons_succ]) | (refine rg_skip rfl (by rfl) ?_; simp only [Nat.reduceAdd, Act.put, List.setIfInBounds_toArray, List.set_cons_zero, List.set_cons_succ]))
          refine rg_done fun W3 hW hF => ?_
          have hrow := hF 14 _ _ rfl (by decide)
          have hk3 := hW.keep D _ (by omega) hk1
          have hx3 : Ext w W3 := Below.trans x1.thenDrew hW.bel
          have hown3 : OwnB W3 w.heap.size TB u f.b := by
            refine own_keepF hown (own_type hown r2' (by decide)) fun k o hne hq => hW.keep k o hne hq
          clear hF hW kd
          go_wp2_with fail
          refine leave1 rfl hk3 (results_row_tmp rfl _ _ w.heap.size _ _ _ _ (by rfl) ((putObj_other _ _ _ (by omega)).trans hrow) Try.underlying28 rfl (by kernel_rfl)) ?_
          exact HFIN.out W3 _ hk3 hx3 hown3 (by rw [HXE.out]; simp [hknv, hdn])
        · cases hchkb : chkF f
          · have hchk : (if false = true then (0 : Int) else 50) = 50 := rfl
            refine wp_region_rg (RT w.heap.size f u) [(7, .known (.bool (st3 == some []))), (11, .known (.int .i64 (if false = true then (0 : Int) else 50))), (14, .unk (fun _ W => W.heap[w.heap.size]? = some (.cells (frmC f u) TFrm)) (fun _ _ _ h => h.done))] (by kernel_rfl) (by kernel_rfl) (by kernel_rfl) (fun W => RT.refl W) (fun _ _ _ => RT.trans) ?_
            intro σ
            simp only
            refine rg_pure (x := .agg (frmC f u)) rfl (by rfl) (fun W2 hW => exec_loadF (f := f) (u := u) (kd W2 hW).1 rfl rfl) ?_
            simp only [Nat.reduceAdd, Act.put, List.setIfInBounds_toArray, List.set_cons_zero, List.set_cons_succ]
            repeat (first | (refine rg_pure (x := ?_) rfl (by rfl) (fun W2 hW => ?_) ?_; rotate_left; (· obtain ⟨d5, d7, d4, dB, dn⟩ := kd W2 hW; have dok := dokb; go_simp; with_reducible rfl); simp only [Nat.reduceAdd, Act.put, List.setIfInBounds_toArray, List.set_cons_zero, List.set_cons_succ]) | (refine rg_skip rfl (by rfl) ?_; simp only [Nat.reduceAdd, Act.put, List.setIfInBounds_toArray, List.set_cons_zero, List.set_cons_succ]))
            refine rg_known rfl (by rfl) (fun W2 hW hF => ?_) ?_
            · go_simp
              refine (DoneL_calls B st3 W2 (kd W2 hW).2.2.2.1).mono ?_
              rintro e W' ⟨rfl, rfl⟩
              exact ⟨_, rfl, RT.refl _, by show Value.bool (st3 == some []) = _; rw [hdn]⟩
            simp only [Nat.reduceAdd, Act.put, List.setIfInBounds_toArray, List.set_cons_zero, List.set_cons_succ]
            repeat (first | (refine rg_pure (x := ?_) rfl (by rfl) (fun W2 hW => ?_) ?_; rotate_left; (· obtain ⟨d5, d7, d4, dB, dn⟩ := kd W2 hW; have dok := dokb; go_simp; with_reducible rfl); simp only [Nat.reduceAdd, Act.put, List.setIfInBounds_toArray, List.set_cons_zero, List.set_cons_succ]) | (refine rg_skip rfl (by rfl) ?_; simp only [Nat.reduceAdd, Act.put, List.setIfInBounds_toArray, List.set_cons_zero, List.set_cons_succ]))
            refine rg_pure (x := .agg (frmC f u)) rfl (by rfl) (fun W2 hW => exec_loadF (f := f) (u := u) (kd W2 hW).1 rfl rfl) ?_
            simp only [Nat.reduceAdd, Act.put, List.setIfInBounds_toArray, List.set_cons_zero, List.set_cons_succ]
            refine rg_known rfl (by rfl) (fun W2 hW hF => ?_) ?_
            · obtain ⟨ua, uc, hus⟩ := hown.slice
              go_simp
              refine (frmCheck_calls f (ua, f.b.length, uc) rfl W2).mono ?_
              rintro e W' ⟨rfl, h⟩
              exact ⟨_, rfl, RT.ext (Nat.le_trans hw1 hW.size) h, by rw [hchkb]; rfl⟩
            simp only [Nat.reduceAdd, Act.put, List.setIfInBounds_toArray, List.set_cons_zero, List.set_cons_succ]
            repeat (first | (refine rg_pure (x := ?_) rfl (by rfl) (fun W2 hW => ?_) ?_; rotate_left; (· obtain ⟨d5, d7, d4, dB, dn⟩ := kd W2 hW; have dok := dokb; go_simp; with_reducible rfl); simp only [Nat.reduceAdd, Act.put, List.setIfInBounds_toArray, List.set_cons_zero, List.set_cons_succ]) | (refine rg_skip rfl (by rfl) ?_; simp only [Nat.reduceAdd, Act.put, List.setIfInBounds_toArray, List.set_cons_zero, List.set_cons_succ]))
            refine rg_unk rfl (by rfl) (fun W2 hW hF => ?_) ?_
            · obtain ⟨ua, uc, hus⟩ := hown.slice
              obtain ⟨g0, v0, hgv⟩ := (kd W2 hW).2.2.2.2
              have q := RT.set (f := f) (u := u) (kd W2 hW).2.2.2.2
              rw [exec_storeF (f := f) (u := u) (sl := (ua, f.b.length, uc)) hgv rfl rfl rfl rfl hus]
              exact q
            simp only [Nat.reduceAdd, Act.put, List.setIfInBounds_toArray, List.set_cons_zero, List.set_cons_succ]
            repeat (first | (refine rg_pure (x := ?_) rfl (by rfl) (fun W2 hW => ?_) ?_; rotate_left; (· obtain ⟨d5, d7, d4, dB, dn⟩ := kd W2 hW; have dok := dokb; go_simp; with_reducible rfl); simp only [Nat.reduceAdd, Act.put, List.setIfInBounds_toArray, List.set_cons_zero, List.set_cons_succ]) | (refine rg_skip rfl (by rfl) ?_; simp only [Nat.reduceAdd, Act.put, List.setIfInBounds_toArray, List.set_cons_zero, List.set_cons_succ]))
            refine rg_done fun W3 hW hF => ?_
            have hrow := hF 14 _ _ rfl (by decide)
            have hk3 := hW.keep D _ (by omega) hk1
            have hx3 : Ext w W3 := Below.trans x1.thenDrew hW.bel
            have hown3 : OwnB W3 w.heap.size TB u f.b := by
              refine own_keepF hown (own_type hown r2' (by decide)) fun k o hne hq => hW.keep k o hne hq
            clear hF hW kd
            go_wp2_with fail
            refine leave1 rfl hk3 (results_row_tmp rfl _ _ w.heap.size _ _ _ _ (by rfl) ((putObj_other _ _ _ (by omega)).trans hrow) Try.underlying28 rfl (by kernel_rfl)) ?_
            exact HFIN.out W3 _ hk3 hx3 hown3 (by rw [HXE.out]; simp [hknv, hdn, hchkb])
          · have hchk : (if true = true then (0 : Int) else 50) = 0 := rfl
            refine wp_region_rg (RT w.heap.size f u) [(7, .known (.bool (st3 == some []))), (11, .known (.int .i64 (if true = true then (0 : Int) else 50))), (14, .unk (fun _ W => W.heap[w.heap.size]? = some (.cells (frmC f u) TFrm)) (fun _ _ _ h => h.done))] (by kernel_rfl) (by kernel_rfl) (by kernel_rfl) (fun W => RT.refl W) (fun _ _ _ => RT.trans) ?_
            intro σ
            simp only
            refine rg_pure (x := .agg (frmC f u)) rfl (by rfl) (fun W2 hW => exec_loadF (f := f) (u := u) (kd W2 hW).1 rfl rfl) ?_
            simp only [Nat.reduceAdd, Act.put, List.setIfInBounds_toArray, List.set_cons_zero, List.set_cons_succ]
            repeat (first | (refine rg_pure (x := ?_) rfl (by rfl) (fun W2 hW => ?_) ?_; rotate_left; (· obtain ⟨d5, d7, d4, dB, dn⟩ := kd W2 hW; have dok := dokb; go_simp; with_reducible rfl); simp only [Nat.reduceAdd, Act.put, List.setIfInBounds_toArray, List.set_cons_zero, List.set_cons_succ]) | (refine rg_skip rfl (by rfl) ?_; simp only [Nat.reduceAdd, Act.put, List.setIfInBounds_toArray, List.set_cons_zero, List.set_cons_succ]))
            refine rg_known rfl (by rfl) (fun W2 hW hF => ?_) ?_
            · go_simp
              refine (DoneL_calls B st3 W2 (kd W2 hW).2.2.2.1).mono ?_
              rintro e W' ⟨rfl, rfl⟩
              exact ⟨_, rfl, RT.refl _, by show Value.bool (st3 == some []) = _; rw [hdn]⟩
            simp only [Nat.reduceAdd, Act.put, List.setIfInBounds_toArray, List.set_cons_zero, List.set_cons_succ]
            repeat (first | (refine rg_pure (x := ?_) rfl (by rfl) (fun W2 hW => ?_) ?_; rotate_left; (· obtain ⟨d5, d7, d4, dB, dn⟩ := kd W2 hW; have dok := dokb; go_simp; with_reducible rfl); simp only [Nat.reduceAdd, Act.put, List.setIfInBounds_toArray, List.set_cons_zero, List.set_cons_succ]) | (refine rg_skip rfl (by rfl) ?_; simp only [Nat.reduceAdd, Act.put, List.setIfInBounds_toArray, List.set_cons_zero, List.set_cons_succ]))
            refine rg_pure (x := .agg (frmC f u)) rfl (by rfl) (fun W2 hW => exec_loadF (f := f) (u := u) (kd W2 hW).1 rfl rfl) ?_
            simp only [Nat.reduceAdd, Act.put, List.setIfInBounds_toArray, List.set_cons_zero, List.set_cons_succ]
            refine rg_known rfl (by rfl) (fun W2 hW hF => ?_) ?_
            · obtain ⟨ua, uc, hus⟩ := hown.slice
              go_simp
              refine (frmCheck_calls f (ua, f.b.length, uc) rfl W2).mono ?_
              rintro e W' ⟨rfl, h⟩
              exact ⟨_, rfl, RT.ext (Nat.le_trans hw1 hW.size) h, by rw [hchkb]; rfl⟩
            simp only [Nat.reduceAdd, Act.put, List.setIfInBounds_toArray, List.set_cons_zero, List.set_cons_succ]
            repeat (first | (refine rg_pure (x := ?_) rfl (by rfl) (fun W2 hW => ?_) ?_; rotate_left; (· obtain ⟨d5, d7, d4, dB, dn⟩ := kd W2 hW; have dok := dokb; go_simp; with_reducible rfl); simp only [Nat.reduceAdd, Act.put, List.setIfInBounds_toArray, List.set_cons_zero, List.set_cons_succ]) | (refine rg_skip rfl (by rfl) ?_; simp only [Nat.reduceAdd, Act.put, List.setIfInBounds_toArray, List.set_cons_zero, List.set_cons_succ]))
            refine rg_unk rfl (by rfl) (fun W2 hW hF => ?_) ?_
            · obtain ⟨ua, uc, hus⟩ := hown.slice
              obtain ⟨g0, v0, hgv⟩ := (kd W2 hW).2.2.2.2
              have q := RT.set (f := f) (u := u) (kd W2 hW).2.2.2.2
              rw [exec_storeF (f := f) (u := u) (sl := (ua, f.b.length, uc)) hgv rfl rfl rfl rfl hus]
              exact q
            simp only [Nat.reduceAdd, Act.put, List.setIfInBounds_toArray, List.set_cons_zero, List.set_cons_succ]
            repeat (first | (refine rg_pure (x := ?_) rfl (by rfl) (fun W2 hW => ?_) ?_; rotate_left; (· obtain ⟨d5, d7, d4, dB, dn⟩ := kd W2 hW; have dok := dokb; go_simp; with_reducible rfl); simp only [Nat.reduceAdd, Act.put, List.setIfInBounds_toArray, List.set_cons_zero, List.set_cons_succ]) | (refine rg_skip rfl (by rfl) ?_; simp only [Nat.reduceAdd, Act.put, List.setIfInBounds_toArray, List.set_cons_zero, List.set_cons_succ]))
            refine rg_done fun W3 hW hF => ?_
            have hrow := hF 14 _ _ rfl (by decide)
            have hk3 := hW.keep D _ (by omega) hk1
            have hx3 : Ext w W3 := Below.trans x1.thenDrew hW.bel
            have hown3 : OwnB W3 w.heap.size TB u f.b := by
              refine own_keepF hown (own_type hown r2' (by decide)) fun k o hne hq => hW.keep k o hne hq
            clear hF hW kd
            go_wp2_with fail
            refine leave1 rfl hk3 (results_row_tmp rfl _ _ w.heap.size _ _ _ _ (by rfl) ((putObj_other _ _ _ (by omega)).trans hrow) Try.underlying28 rfl (by kernel_rfl)) ?_
            exact HFIN.out W3 _ hk3 hx3 hown3 (by rw [HXE.out]; simp [hknv, hdn, hchkb])
    · obtain ⟨rfl, f, u, st, hrun', F, hstl⟩ := hI
      have hrun := runF_stop hrun' hS
      clear hrun'
      have hXE : X = (f, (kn && false && ((inTake st 3).2 == some []) && chkF f)) := by
        rw [← HX.out]
        unfold formF
        simp only [HN.out.1, HN.out.2.1, ← HNN.out, hrun, HKN.out]
      obtain ⟨st3, hst3⟩ : ∃ s, (inTake st 3).2 = s := ⟨_, rfl⟩
      have kT := fun W h => Take_calls B st 3 W h (by decide) (by decide) (by omega)
      unfold TakePost at kT
      rw [hst3] at hXE kT
      have HXE := Lib.hid hXE
      have hD2 : (W6.alloc (.cells #[.int .i64 N] 3)).heap.size ≤ D := hD
      have hDw : w.heap.size ≤ D := by simp at hD2; omega
      have hDb : b5 + 1 < D := by simp at hD2; omega
      have hFIN : ∀ (W' : World) (R : Bool), W'.heap[D]? = some (.deferred (some [])) → Ext w W' → OwnB W' w.heap.size TB u f.b → X = (f, R) → FormPost X w (.returned (.tuple #[.agg (frmC f u), .bool R])) (W'.putObj D (.deferred none)) := fun W' R hk2 hx2 hv hXR => by
        rw [hXR]
        exact ⟨u, rfl, own_not (grownBy_putObj' W' D _) (fun g hg => by cases hg; exact ⟨_, hk2, rfl⟩) hv, Below.trans hx2 (grown_below (grownBy_putObj' W' D _) hx2.size (fun k h => by cases h; exact hDw))⟩
      have HFIN := Lib.hid hFIN
      have q4 := F.cells.1
      clear hXE hFIN hrun hst3 hD hI0
      go_wp2_with fail
      refine (kT _ F.inn).mono ?_
      rintro e W1 ⟨uu, rfl, -, hi, ht⟩
      have F1 := F.touch hi ht
      have lt := F1.lt
      have hk1 := touch_row ht hk (by omega)
      have hown := F1.own
      have x1 := F1.ext
      have hw1 := x1.size
      have r2' := F1.r2
      have kd : ∀ W2, RT w.heap.size f u W1.drew W2 → W2.heap[b5]? = some (.cells (frmC f u) TFrm) ∧ W2.cell? ⟨b5 + 1, 0, none⟩ = some (.bool false) ∧ W2.cell? ⟨b4, 0, none⟩ = some (.pointer (some ⟨B, 0, none⟩)) ∧ InLen W2 B st3 ∧ ∃ g v, W2.heap[w.heap.size]? = some (.cells (frmC g v) TFrm) := fun W2 h =>
        ⟨h.keep _ _ (by omega) F1.r5, cell_of_row _ _ 0 _ _ _ (h.keep _ _ (by omega) F1.r7), cell_of_row _ _ 0 _ _ _ (h.keep _ _ (by omega) F1.p4), InLen.keep (InLen.of F1.inn) (fun o ho => h.keep _ o (by omega) ho), h.has ⟨_, _, F1.r2⟩⟩
      clear kT q4 F hi ht hk F1
      go_wp2_with fail
      have dokb : True := trivial
      cases kn with
      | false =>
        have hknv := trivial
        refine wp_region_rg (RT w.heap.size f u) [(14, .unk (fun _ W => W.heap[w.heap.size]? = some (.cells (frmC f u) TFrm)) (fun _ _ _ h => h.done))] (by kernel_rfl) (by kernel_rfl) (by kernel_rfl) (fun W => RT.refl W) (fun _ _ _ => RT.trans) ?_
        intro σ
        simp only
        refine rg_pure (x := .agg (frmC f u)) rfl (by rfl) (fun W2 hW => exec_loadF (f := f) (u := u) (kd W2 hW).1 rfl rfl) ?_
        simp only [Nat.reduceAdd, Act.put, List.setIfInBounds_toArray, List.set_cons_zero, List.set_cons_succ]
        repeat (first | (refine rg_pure (x := ?_) rfl (by rfl) (fun W2 hW => ?_) ?_; rotate_left; (· obtain ⟨d5, d7, d4, dB, dn⟩ := kd W2 hW; have dok := dokb; go_simp; with_reducible rfl); simp only [Nat.reduceAdd, Act.put, List.setIfInBounds_toArray, List.set_cons_zero, List.set_cons_succ]) | (refine rg_skip rfl (by rfl) ?_; simp only [Nat.reduceAdd, Act.put, List.setIfInBounds_toArray, List.set_cons_zero, List.set_cons_succ]))
        refine rg_unk rfl (by rfl) (fun W2 hW hF => ?_) ?_
        · obtain ⟨ua, uc, hus⟩ := hown.slice
          obtain ⟨g0, v0, hgv⟩ := (kd W2 hW).2.2.2.2
          have q := RT.set (f := f) (u := u) (kd W2 hW).2.2.2.2
          rw [exec_storeF (f := f) (u := u) (sl := (ua, f.b.length, uc)) hgv rfl rfl rfl rfl hus]
          exact q
        simp only [Nat.reduceAdd, Act.put, List.setIfInBounds_toArray, List.set_cons_zero, List.set_cons_succ]
        repeat (first | (refine rg_pure (x := ?_) rfl (by rfl) (fun W2 hW => ?_) ?_; rotate_left; (· obtain ⟨d5, d7, d4, dB, dn⟩ := kd W2 hW; have dok := dokb; go_simp; with_reducible rfl); simp only [Nat.reduceAdd, Act.put, List.setIfInBounds_toArray, List.set_cons_zero, List.set_cons_succ]) | (refine rg_skip rfl (by rfl) ?_; simp only [Nat.reduceAdd, Act.put, List.setIfInBounds_toArray, List.set_cons_zero, List.set_cons_succ]))
        refine rg_done fun W3 hW hF => ?_
        have hrow := hF 14 _ _ rfl (by decide)
        have hk3 := hW.keep D _ (by omega) hk1
        have hx3 : Ext w W3 := Below.trans x1.thenDrew hW.bel
        have hown3 : OwnB W3 w.heap.size TB u f.b := by
          refine own_keepF hown (own_type hown r2' (by decide)) fun k o hne hq => hW.keep k o hne hq
        clear hF hW kd
        go_wp2_with fail
        refine leave1 rfl hk3 (results_row_tmp rfl _ _ w.heap.size _ _ _ _ (by rfl) ((putObj_other _ _ _ (by omega)).trans hrow) Try.underlying28 rfl (by kernel_rfl)) ?_
        exact HFIN.out W3 _ hk3 hx3 hown3 (by rw [HXE.out]; simp [hknv])
      | true =>
        have hknv := trivial
        refine wp_region_rg (RT w.heap.size f u) [(14, .unk (fun _ W => W.heap[w.heap.size]? = some (.cells (frmC f u) TFrm)) (fun _ _ _ h => h.done))] (by kernel_rfl) (by kernel_rfl) (by kernel_rfl) (fun W => RT.refl W) (fun _ _ _ => RT.trans) ?_
        intro σ
        simp only
        refine rg_pure (x := .agg (frmC f u)) rfl (by rfl) (fun W2 hW => exec_loadF (f := f) (u := u) (kd W2 hW).1 rfl rfl) ?_
        simp only [Nat.reduceAdd, Act.put, List.setIfInBounds_toArray, List.set_cons_zero, List.set_cons_succ]
        repeat (first | (refine rg_pure (x := ?_) rfl (by rfl) (fun W2 hW => ?_) ?_; rotate_left; (· obtain ⟨d5, d7, d4, dB, dn⟩ := kd W2 hW; have dok := dokb; go_simp; with_reducible rfl); simp only [Nat.reduceAdd, Act.put, List.setIfInBounds_toArray, List.set_cons_zero, List.set_cons_succ]) | (refine rg_skip rfl (by rfl) ?_; simp only [Nat.reduceAdd, Act.put, List.setIfInBounds_toArray, List.set_cons_zero, List.set_cons_succ]))
        refine rg_unk rfl (by rfl) (fun W2 hW hF => ?_) ?_
        · obtain ⟨ua, uc, hus⟩ := hown.slice
          obtain ⟨g0, v0, hgv⟩ := (kd W2 hW).2.2.2.2
          have q := RT.set (f := f) (u := u) (kd W2 hW).2.2.2.2
          rw [exec_storeF (f := f) (u := u) (sl := (ua, f.b.length, uc)) hgv rfl rfl rfl rfl hus]
          exact q
        simp only [Nat.reduceAdd, Act.put, List.setIfInBounds_toArray, List.set_cons_zero, List.set_cons_succ]
        repeat (first | (refine rg_pure (x := ?_) rfl (by rfl) (fun W2 hW => ?_) ?_; rotate_left; (· obtain ⟨d5, d7, d4, dB, dn⟩ := kd W2 hW; have dok := dokb; go_simp; with_reducible rfl); simp only [Nat.reduceAdd, Act.put, List.setIfInBounds_toArray, List.set_cons_zero, List.set_cons_succ]) | (refine rg_skip rfl (by rfl) ?_; simp only [Nat.reduceAdd, Act.put, List.setIfInBounds_toArray, List.set_cons_zero, List.set_cons_succ]))
        refine rg_done fun W3 hW hF => ?_
        have hrow := hF 14 _ _ rfl (by decide)
        have hk3 := hW.keep D _ (by omega) hk1
        have hx3 : Ext w W3 := Below.trans x1.thenDrew hW.bel
        have hown3 : OwnB W3 w.heap.size TB u f.b := by
          refine own_keepF hown (own_type hown r2' (by decide)) fun k o hne hq => hW.keep k o hne hq
        clear hF hW kd
        go_wp2_with fail
        refine leave1 rfl hk3 (results_row_tmp rfl _ _ w.heap.size _ _ _ _ (by rfl) ((putObj_other _ _ _ (by omega)).trans hrow) Try.underlying28 rfl (by kernel_rfl)) ?_
        exact HFIN.out W3 _ hk3 hx3 hown3 (by rw [HXE.out]; simp [hknv])
  · have hd1 : decide (1 ≤ N) = false := decide_eq_false h1
    have hknf : false = kn := by rw [← hkn, hd1]; rfl
    subst hknf
    have HKN := Lib.hid hkn
    clear h1 hkn
    go_wp2_with (refine storeFrm (m := frm0 N) (sa := none) (sn := 0) (sc := 0) rz rfl rfl rfl rfl rfl ?_)
    refine (kP _).mono ?_
    rintro e w' ⟨rfl, rfl⟩
    go_wp2_with fail
    show Code.wp _ _ _ _ ((((w2.alloc (.cells #[.int .i64 0, .int .i64 0, .int .i64 0, .int .i64 0, .int .u16 0, .slice none 0 0] TFrm)).setRow w2.heap.size (frmC (frm0 N) (.slice none 0 0))).alloc (.cells #[.bool true] 4)).alloc (.cells #[.int .i64 N] 3))
    rw [← HW.out]
    clear kP c50 c51 rz HW q4
    obtain ⟨W6, hW6⟩ : ∃ W6, W6 = W5.alloc (.cells #[.bool true] 4) := ⟨_, rfl⟩
    have hsz6 : W6.heap.size = w2.heap.size + 1 + 1 := by rw [hW6]; simp [hsz5]
    rw [← hW6] at HF6 ⊢
    clear hW6 hsz5
    have F6 := HF6.out
    have hI0 : FmI w B b4 w2.heap.size (w2.heap.size + 1) N s1 [] (W6.alloc (.cells #[.int .i64 N] 3)) := ⟨frm0 N, _, s1, rfl, F6.later (Ext.alloc _ _), HN.out.2.2.2.1⟩
    have hw6 : w.heap.size ≤ W6.heap.size := F6.ext.size
    have hlast : w2.heap.size + 1 < W6.heap.size := by omega
    clear HF6 F6
    generalize w2.heap.size = b5 at *
    rw [show (b5 + 1 + 1 : Nat) = W6.heap.size from hsz6.symm]
    refine wp_rangeFunc1_nx (α := Int) (p1 := 28) (q1 := 8) (e1 := fun (x : Int) => .int .i64 x) (gf := 72) (lb := #[.pointer (some ⟨W6.heap.size, 0, none⟩)]) rfl (fun args w => by go_simp) (parts_seq N _ W6.heap.size (heap_alloc_new W6 _))
      (fun _ _ => trivial) (fun _ _ _ _ _ _ _ _ => trivial) (FmI w B b4 b5 (b5 + 1) N s1) (FmX w B b4 b5 (b5 + 1) N s1) (fmI_own w B b4 b5 _ N s1 _ (by simp; omega)) (fmX_own w B b4 b5 _ N s1 _ (by simp; omega)) hI0 (fun l x W K hK => ?_) (fun l1 pre x W hI hnx => ?_) (fun D xs W hD hS hI hk => ?_) (fun D c pre W hD hS hI hk => ?_)
    · simp only [List.setIfInBounds_toArray, List.set_cons_zero, List.set_cons_succ] at hK ⊢
      gi_wp2
      exact hK
    · simp only [List.setIfInBounds_toArray, List.set_cons_zero, List.set_cons_succ]
      obtain ⟨f, u, st, hrun, F, hstl⟩ := hI
      have hrn := runF_snoc (x := x) hrun
      have hx3 : x = 0 ∨ x = 1 ∨ x = 2 := by
        have hm : x ∈ partsL N := hnx.subset (by simp)
        unfold partsL at hm
        repeat' split at hm
        all_goals simp at hm
        all_goals omega
      obtain ⟨q4, q7, z7, z5, e0, e1, e2, e3, e4, e5⟩ := F.cells
      have HRN := Lib.hid (And.intro hrn hstl)
      have HF := Lib.hid F
      clear hrun hrn hI0
      rcases hx3 with rfl | rfl | rfl
      · have hT := fun m => CallsIn.inRound l1 (callsIn_wide (n := m).2 (Take_calls B st 8 W F.inn (by decide) (by decide) (by omega)))
        unfold TakePost at hT
        have hdl : (inTake st 8).1.length ≤ 8 := inTake_le st 8
        clear F e0 e1 e2 e3 e4 e5 q7 z7 z5
        gi_wp2
        refine ⟨trivial, (hT 6).mono ?_⟩
        rintro e W1 ⟨uu, rfl, hu, hi, ht⟩
        have F1 := HF.out.touch hi ht
        have hub := hu.bys (by unfold maxLen; omega)
        have hD := fun m => CallsIn.inRound l1 (callsIn_wide (n := m).2 (Decode_calls uu (inTake st 8).1 W1 hub (by omega)))
        unfold DecPost at hD
        have hkp : KeepsOthers W W1 := ⟨ht.size, fun k o hk hc => touch_row ht hk (fun e => by
          subst e
          have hin := HF.out.inn
          cases st with
          | none => obtain ⟨v, h1⟩ := hin; rw [h1] at hk; cases hk; cases hc
          | some l => obtain ⟨v, h1, _⟩ := hin; rw [h1] at hk; cases hk; cases hc)⟩
        clear hT hu hub hi ht q4
        have hal := inTake_all st 8
        cases hdc : decC (inTake st 8).1 with
        | none =>
          rw [hdc] at hD
          simp only [Option.isSome_none, Bool.false_eq_true, if_false] at hD
          have hstep : stepF 0 f st = ({ f with r := 0, s := 0, m := 0, v := 0 }, (inTake st 8).2, false) := by unfold stepF; rw [if_pos rfl, hdc]
          have HST := Lib.hid hstep
          have HF1 := Lib.hid (And.intro F1 (And.intro hkp (Nat.le_trans hal hstl)))
          clear F1 hstep hdc hkp hal hstl hdl
          unfold cst at hD
          gi_wp2
          refine ⟨trivial, (hD 6).mono ?_⟩
          rintro e W2 ⟨rfl, h2⟩
          have F2 := HF1.out.1.later h2
          clear hD
          have F3 := F2.later (Ext.alloc W2 (.cells #[.int .i64 0, .int .i64 0, .int .i64 0, .int .u16 0] 25))
          obtain ⟨q4, q7, z7, z5, e0, e1, e2, e3, e4, e5⟩ := F3.cells
          have F4 := (F3.setC 0 0 0 0).set7 false
          have q8 := F4.cells.2.1
          have HF4 := Lib.hid (And.intro F4 (KeepsOthers.trans HF1.out.2.1 (show KeepsOthers W1 (W2.alloc (.cells #[.int .i64 0, .int .i64 0, .int .i64 0, .int .u16 0] 25)) from ⟨(h2.thenAlloc _).size, fun k o hk _ => (h2.thenAlloc _).block hk⟩)))
          clear F2 F3 F4 h2 q4 e0 e5
          gi_wp2
          exact ⟨(((((HF4.out.2.trans (KeepsOthers.setCell _ _ _)).trans (KeepsOthers.setCell _ _ _)).trans (KeepsOthers.setCell _ _ _)).trans (KeepsOthers.setCell _ _ _)).trans (KeepsOthers.setCell _ _ _)), rfl, _, _, _, by rw [HRN.out.1, HST.out], HF4.out.1, HF1.out.2.2⟩
        | some q =>
          obtain ⟨r, s, m, g⟩ := q
          rw [hdc] at hD
          simp only [Option.isSome_some, if_true] at hD
          have hstep : stepF 0 f st = ({ f with r := r, s := s, m := m, v := (g : Int) }, (inTake st 8).2, true) := by unfold stepF; rw [if_pos rfl, hdc]
          have HST := Lib.hid hstep
          have HF1 := Lib.hid (And.intro F1 (And.intro hkp (Nat.le_trans hal hstl)))
          clear F1 hstep hdc hkp hal hstl hdl
          unfold cst at hD
          gi_wp2
          refine ⟨trivial, (hD 6).mono ?_⟩
          rintro e W2 ⟨rfl, h2⟩
          have F2 := HF1.out.1.later h2
          clear hD
          have F3 := F2.later (Ext.alloc W2 (.cells #[.int .i64 r, .int .i64 s, .int .i64 m, .int .u16 (g : Int)] 25))
          obtain ⟨q4, q7, z7, z5, e0, e1, e2, e3, e4, e5⟩ := F3.cells
          have F4 := (F3.setC r s m (g : Int)).set7 true
          have q8 := F4.cells.2.1
          have HF4 := Lib.hid (And.intro F4 (KeepsOthers.trans HF1.out.2.1 (show KeepsOthers W1 (W2.alloc (.cells #[.int .i64 r, .int .i64 s, .int .i64 m, .int .u16 (g : Int)] 25)) from ⟨(h2.thenAlloc _).size, fun k o hk _ => (h2.thenAlloc _).block hk⟩)))
          clear F2 F3 F4 h2 q4 e0 e5
          gi_wp2
          exact ⟨(((((HF4.out.2.trans (KeepsOthers.setCell _ _ _)).trans (KeepsOthers.setCell _ _ _)).trans (KeepsOthers.setCell _ _ _)).trans (KeepsOthers.setCell _ _ _)).trans (KeepsOthers.setCell _ _ _)), trivial, _, _, _, by rw [HRN.out.1, HST.out], HF4.out.1, HF1.out.2.2⟩
      · have p4 := F.p4
        have hM : VCst.rd st 2 < 65536 := by have := VCst.rd_lt st 2; simpa using this
        have hal := inTake_all st 2
        have hal2 := inTake_all (inTake st 2).2 ((VCst.rd st 2 : Nat) : Int)
        have hstep : stepF 1 f st = ({ f with b := (dataR st).1 }, (dataR st).2, true) := rfl
        have hdr : inTake (inTake st 2).2 ((VCst.rd st 2 : Nat) : Int) = dataR st := rfl
        have hG := fun W h => Get_calls B st 2 W h (by decide) (by decide)
        rw [show getW 2 = 2 from rfl] at hG
        unfold GetPost at hG
        rw [show numB (inTake st 2).1 = VCst.rd st 2 from rfl] at hG
        rw [hdr] at hal2
        have hT := fun W h => Take_calls B (inTake st 2).2 ((VCst.rd st 2 : Nat) : Int) W h (by omega) (by omega) (by omega)
        rw [hdr] at hT
        unfold TakePost at hT
        obtain ⟨M, hMM⟩ : ∃ M : Int, M = ((VCst.rd st 2 : Nat) : Int) := ⟨_, rfl⟩
        rw [← hMM] at hT
        simp only [← hMM] at hG
        have wM : IntKind.i64.wrap M = M := by rw [IntKind.wrap_i64]; omega
        generalize dataR st = dr at *
        generalize (inTake st 2).2 = st1 at *
        have HST := Lib.hid (And.intro hstep (show (stAll dr.2).length ≤ 100000 by omega))
        clear F e0 e1 e2 e3 e4 e5 q7 z7 z5 hstep hal hal2 hMM hM hdr
        gi_wp2
        refine wpIn_region_of_any _ l1 7 rfl (by kernel_rfl) (fun _ _ h => h) ?_
        refine any_chain (fun a b => ∀ o, a.heap[b4]? = some o → b.heap[b4]? = some o) Eq [(2, .known (.int .u64 M)), (4, .unk (fun _ _ => True) (fun _ _ _ _ _ => trivial)), (6, .known undef)] [2, 4, 6]
          (fun vs W' => KeepsOthers W W' ∧ match vs with
            | [] => FmS w W' B b4 b5 (b5 + 1) f u st true
            | [_] => FmS w W' B b4 b5 (b5 + 1) f u st1 true
            | [_, v] => FmS w W' B b4 b5 (b5 + 1) f u dr.2 true ∧ OwnB W' w.heap.size TB v dr.1
            | [_, _, _] => ∃ v', FmS w W' B b4 b5 (b5 + 1) { f with b := dr.1 } v' dr.2 true
            | _ => True)
          (by kernel_rfl) (by kernel_rfl) (by kernel_rfl) (fun a b h o ho => by rw [← h]; exact ho) (fun _ _ _ h k => by rw [← h]; exact k) (fun _ _ h => h) (fun _ _ _ h k o ho => k o (h o ho)) ⟨KeepsOthers.drew W, HF.out.later (Ext.drew W)⟩ ?_
        intro σ
        simp only
        have kd : ∀ W' : World, (∀ o, W.drew.heap[b4]? = some o → W'.heap[b4]? = some o) → W'.cell? ⟨b4, 0, none⟩ = some (.pointer (some ⟨B, 0, none⟩)) := fun W' h => cell_of_row W' _ 0 _ _ _ (h _ p4)
        repeat (refine cg_pure (x := ?_) rfl (by rfl) (fun W2 hW => ?_) ?_; rotate_left; (· have f5 := kd W2 hW; go_simp; with_reducible rfl); simp only [Nat.reduceAdd, Act.put, List.setIfInBounds_toArray, List.set_cons_zero, List.set_cons_succ])
        refine cg_call (x := .int .u64 M) 0 (vs := []) rfl rfl (by decide) rfl (by rfl) (fun W2 hW hF hS => ?_) ?_
        · obtain ⟨kp, E⟩ := hS
          clear hF
          go_simp
          refine (hG W2 E.inn).mono ?_
          rintro e W' ⟨rfl, hi, ht⟩
          exact ⟨_, rfl, fun o ho => touch_row ht ho (by have := E.lt; omega), rfl, kp.trans (E.keepsT ht), E.touch hi ht⟩
        simp only [Nat.reduceAdd, Act.put, List.setIfInBounds_toArray, List.set_cons_zero, List.set_cons_succ]
        repeat (refine cg_pure (x := ?_) rfl (by rfl) (fun W2 hW => ?_) ?_; rotate_left; (· have f5 := kd W2 hW; go_simp; with_reducible rfl); simp only [Nat.reduceAdd, Act.put, List.setIfInBounds_toArray, List.set_cons_zero, List.set_cons_succ])
        refine cg_call' 1 (vs := [.int .u64 M]) rfl rfl (by decide) rfl (by rfl) (fun W2 hW hF hS => ?_) ?_
        · obtain ⟨kp, E⟩ := hS
          clear hF
          go_simp
          refine (hT W2 E.inn).mono ?_
          rintro e W' ⟨v, rfl, hv, hi, ht⟩
          exact ⟨_, rfl, fun o ho => touch_row ht ho (by have := E.lt; omega), kp.trans (E.keepsT ht), E.touch hi ht, hv.mono E.ext.size⟩
        simp only [Nat.reduceAdd, Act.put, List.setIfInBounds_toArray, List.set_cons_zero, List.set_cons_succ]
        repeat (refine cg_pure (x := ?_) rfl (by rfl) (fun W2 hW => ?_) ?_; rotate_left; (· have f5 := kd W2 hW; go_simp; with_reducible rfl); simp only [Nat.reduceAdd, Act.put, List.setIfInBounds_toArray, List.set_cons_zero, List.set_cons_succ])
        refine cg_call (x := undef) 2 (vs := [.int .u64 M, σ 4]) rfl rfl (by decide) rfl (by rfl) (fun W2 hW hF hS => ?_) ?_
        · obtain ⟨kp, E, hv⟩ := hS
          clear hF
          obtain ⟨va', vc', hvs⟩ := hv.slice
          have hv2 : OwnB W2 w.heap.size TB (σ 4) dr.1 := hv
          have hvs2 : σ 4 = .slice va' dr.1.length vc' := hvs
          clear hv hvs
          generalize σ 4 = vq at *
          subst hvs2
          obtain ⟨q4, q7, z7, z5, e0, e1, e2, e3, e4, e5⟩ := E.cells
          have E2 := E.setD hv2
          have z55 := z5 5
          obtain ⟨ua, uc, rfl⟩ := E.own.slice
          clear q4 q7 z7 z5 e0 e1 e2 e3 e4
          go_simp
          exact ⟨fun o ho => (heap_setCell_other _ _ _ _ (by have := E.lt; show b4 ≠ b5; omega)).trans ho, rfl, kp.trans (KeepsOthers.setCell _ _ _), _, E2⟩
        simp only [Nat.reduceAdd, Act.put, List.setIfInBounds_toArray, List.set_cons_zero, List.set_cons_succ]
        refine cg_done rfl fun W2 hW hF hS => ?_
        obtain ⟨kp, v', E⟩ := hS
        obtain ⟨q4, q7, z7, z5, e0, e1, e2, e3, e4, e5⟩ := E.cells
        have HE := Lib.hid E
        clear hF hW kd hG hT E z5 e0 e1 e2 e3 e4 e5 q4 p4
        unfold onlyN
        simp only
        gi_wp2
        exact ⟨kp, trivial, _, _, _, by rw [HRN.out.1, HST.out.1], HE.out, HST.out.2⟩
      · have hG := fun m => CallsIn.inRound l1 (callsIn_wide (n := m).2 (Get_calls B st 1 W F.inn (by decide) (by decide)))
        rw [show getW 1 = 1 from rfl] at hG
        unfold GetPost at hG
        rw [show numB (inTake st 1).1 = VCst.rd st 1 from rfl] at hG
        have hs256 : VCst.rd st 1 < 256 := by have := VCst.rd_lt st 1; simpa using this
        have hal := inTake_all st 1
        have hstep : stepF 2 f st = ({ f with s := (VCst.rd st 1 : Int) }, (inTake st 1).2, true) := rfl
        obtain ⟨S, hS⟩ : ∃ S : Int, S = (VCst.rd st 1 : Int) := ⟨_, rfl⟩
        rw [← hS] at hG hstep
        have wS : IntKind.i64.wrap S = S := by rw [IntKind.wrap_i64]; omega
        have HST := Lib.hid hstep
        clear F e0 e1 e3 e4 e5 q7 z7 hS hs256 hstep
        gi_wp2
        refine ⟨trivial, (hG 6).mono ?_⟩
        rintro e W1 ⟨rfl, hi, ht⟩
        have F1 := HF.out.touch hi ht
        obtain ⟨q4', q7, z7, z5', e0', e1', e2', e3', e4', e5'⟩ := F1.cells
        have F2 := F1.setS S
        have HF2 := Lib.hid F2
        have hkp : KeepsOthers W W1 := ⟨ht.size, fun k o hk hc => touch_row ht hk (fun e => by
          subst e
          have hin := HF.out.inn
          cases st with
          | none => obtain ⟨v, h1⟩ := hin; rw [h1] at hk; cases hk; cases hc
          | some l => obtain ⟨v, h1, _⟩ := hin; rw [h1] at hk; cases hk; cases hc)⟩
        have q7' := (F1.setS S).cells.2.1
        clear hG hi ht q4 z5 e2 F1 F2 e0' e1' e3' e4' e5' q4' q7 z7
        gi_wp2
        exact ⟨hkp.trans (KeepsOthers.setCell _ _ _), trivial, _, _, _, by rw [HRN.out.1, HST.out], HF2.out, Nat.le_trans hal hstl⟩
    · subst hS
      obtain ⟨f, u, st, hrun, F, hstl⟩ := hI
      have hXE : X = (f, (false && true && ((inTake st 3).2 == some []) && chkF f)) := by
        rw [← HX.out]
        unfold formF
        simp only [HN.out.1, HN.out.2.1, ← HNN.out, hrun, HKN.out]
      obtain ⟨st3, hst3⟩ : ∃ s, (inTake st 3).2 = s := ⟨_, rfl⟩
      have kT := fun W h => Take_calls B st 3 W h (by decide) (by decide) (by omega)
      unfold TakePost at kT
      rw [hst3] at hXE kT
      have HXE := Lib.hid hXE
      have hD2 : (W6.alloc (.cells #[.int .i64 N] 3)).heap.size ≤ D := hD
      have hDw : w.heap.size ≤ D := by simp at hD2; omega
      have hDb : b5 + 1 < D := by simp at hD2; omega
      have hFIN : ∀ (W' : World) (R : Bool), W'.heap[D]? = some (.deferred (some [])) → Ext w W' → OwnB W' w.heap.size TB u f.b → X = (f, R) → FormPost X w (.returned (.tuple #[.agg (frmC f u), .bool R])) (W'.putObj D (.deferred none)) := fun W' R hk2 hx2 hv hXR => by
        rw [hXR]
        exact ⟨u, rfl, own_not (grownBy_putObj' W' D _) (fun g hg => by cases hg; exact ⟨_, hk2, rfl⟩) hv, Below.trans hx2 (grown_below (grownBy_putObj' W' D _) hx2.size (fun k h => by cases h; exact hDw))⟩
      have HFIN := Lib.hid hFIN
      have q4 := F.cells.1
      clear hXE hFIN hrun hst3 hD hI0
      go_wp2_with fail
      refine (kT _ F.inn).mono ?_
      rintro e W1 ⟨uu, rfl, -, hi, ht⟩
      have F1 := F.touch hi ht
      have lt := F1.lt
      have hk1 := touch_row ht hk (by omega)
      have hown := F1.own
      have x1 := F1.ext
      have hw1 := x1.size
      have r2' := F1.r2
      have kd : ∀ W2, RT w.heap.size f u W1.drew W2 → W2.heap[b5]? = some (.cells (frmC f u) TFrm) ∧ W2.cell? ⟨b5 + 1, 0, none⟩ = some (.bool true) ∧ W2.cell? ⟨b4, 0, none⟩ = some (.pointer (some ⟨B, 0, none⟩)) ∧ InLen W2 B st3 ∧ ∃ g v, W2.heap[w.heap.size]? = some (.cells (frmC g v) TFrm) := fun W2 h =>
        ⟨h.keep _ _ (by omega) F1.r5, cell_of_row _ _ 0 _ _ _ (h.keep _ _ (by omega) F1.r7), cell_of_row _ _ 0 _ _ _ (h.keep _ _ (by omega) F1.p4), InLen.keep (InLen.of F1.inn) (fun o ho => h.keep _ o (by omega) ho), h.has ⟨_, _, F1.r2⟩⟩
      clear kT q4 F hi ht hk F1
      go_wp2_with fail
      have dokb : True := trivial
      have hknv := trivial
      refine wp_region_rg (RT w.heap.size f u) [(14, .unk (fun _ W => W.heap[w.heap.size]? = some (.cells (frmC f u) TFrm)) (fun _ _ _ h => h.done))] (by kernel_rfl) (by kernel_rfl) (by kernel_rfl) (fun W => RT.refl W) (fun _ _ _ => RT.trans) ?_
      intro σ
      simp only
      refine rg_pure (x := .agg (frmC f u)) rfl (by rfl) (fun W2 hW => exec_loadF (f := f) (u := u) (kd W2 hW).1 rfl rfl) ?_
      simp only [Nat.reduceAdd, Act.put, List.setIfInBounds_toArray, List.set_cons_zero, List.set_cons_succ]
      repeat (first | (refine rg_pure (x := ?_) rfl (by rfl) (fun W2 hW => ?_) ?_; rotate_left; (· obtain ⟨d5, d7, d4, dB, dn⟩ := kd W2 hW; have dok := dokb; go_simp; with_reducible rfl); simp only [Nat.reduceAdd, Act.put, List.setIfInBounds_toArray, List.set_cons_zero, List.set_cons_succ]) | (refine rg_skip rfl (by rfl) ?_; simp only [Nat.reduceAdd, Act.put, List.setIfInBounds_toArray, List.set_cons_zero, List.set_cons_succ]))
      refine rg_unk rfl (by rfl) (fun W2 hW hF => ?_) ?_
      · obtain ⟨ua, uc, hus⟩ := hown.slice
        obtain ⟨g0, v0, hgv⟩ := (kd W2 hW).2.2.2.2
        have q := RT.set (f := f) (u := u) (kd W2 hW).2.2.2.2
        rw [exec_storeF (f := f) (u := u) (sl := (ua, f.b.length, uc)) hgv rfl rfl rfl rfl hus]
        exact q
      simp only [Nat.reduceAdd, Act.put, List.setIfInBounds_toArray, List.set_cons_zero, List.set_cons_succ]
      repeat (first | (refine rg_pure (x := ?_) rfl (by rfl) (fun W2 hW => ?_) ?_; rotate_left; (· obtain ⟨d5, d7, d4, dB, dn⟩ := kd W2 hW; have dok := dokb; go_simp; with_reducible rfl); simp only [Nat.reduceAdd, Act.put, List.setIfInBounds_toArray, List.set_cons_zero, List.set_cons_succ]) | (refine rg_skip rfl (by rfl) ?_; simp only [Nat.reduceAdd, Act.put, List.setIfInBounds_toArray, List.set_cons_zero, List.set_cons_succ]))
      refine rg_done fun W3 hW hF => ?_
      have hrow := hF 14 _ _ rfl (by decide)
      have hk3 := hW.keep D _ (by omega) hk1
      have hx3 : Ext w W3 := Below.trans x1.thenDrew hW.bel
      have hown3 : OwnB W3 w.heap.size TB u f.b := by
        refine own_keepF hown (own_type hown r2' (by decide)) fun k o hne hq => hW.keep k o hne hq
      clear hF hW kd
      go_wp2_with fail
      refine leave1 rfl hk3 (results_row_tmp rfl _ _ w.heap.size _ _ _ _ (by rfl) ((putObj_other _ _ _ (by omega)).trans hrow) Try.underlying28 rfl (by kernel_rfl)) ?_
      exact HFIN.out W3 _ hk3 hx3 hown3 (by rw [HXE.out]; simp [hknv])
    · obtain ⟨rfl, f, u, st, hrun', F, hstl⟩ := hI
      have hrun := runF_stop hrun' hS
      clear hrun'
      have hXE : X = (f, (false && false && ((inTake st 3).2 == some []) && chkF f)) := by
        rw [← HX.out]
        unfold formF
        simp only [HN.out.1, HN.out.2.1, ← HNN.out, hrun, HKN.out]
      obtain ⟨st3, hst3⟩ : ∃ s, (inTake st 3).2 = s := ⟨_, rfl⟩
      have kT := fun W h => Take_calls B st 3 W h (by decide) (by decide) (by omega)
      unfold TakePost at kT
      rw [hst3] at hXE kT
      have HXE := Lib.hid hXE
      have hD2 : (W6.alloc (.cells #[.int .i64 N] 3)).heap.size ≤ D := hD
      have hDw : w.heap.size ≤ D := by simp at hD2; omega
      have hDb : b5 + 1 < D := by simp at hD2; omega
      have hFIN : ∀ (W' : World) (R : Bool), W'.heap[D]? = some (.deferred (some [])) → Ext w W' → OwnB W' w.heap.size TB u f.b → X = (f, R) → FormPost X w (.returned (.tuple #[.agg (frmC f u), .bool R])) (W'.putObj D (.deferred none)) := fun W' R hk2 hx2 hv hXR => by
        rw [hXR]
        exact ⟨u, rfl, own_not (grownBy_putObj' W' D _) (fun g hg => by cases hg; exact ⟨_, hk2, rfl⟩) hv, Below.trans hx2 (grown_below (grownBy_putObj' W' D _) hx2.size (fun k h => by cases h; exact hDw))⟩
      have HFIN := Lib.hid hFIN
      have q4 := F.cells.1
      clear hXE hFIN hrun hst3 hD hI0
      go_wp2_with fail
      refine (kT _ F.inn).mono ?_
      rintro e W1 ⟨uu, rfl, -, hi, ht⟩
      have F1 := F.touch hi ht
      have lt := F1.lt
      have hk1 := touch_row ht hk (by omega)
      have hown := F1.own
      have x1 := F1.ext
      have hw1 := x1.size
      have r2' := F1.r2
      have kd : ∀ W2, RT w.heap.size f u W1.drew W2 → W2.heap[b5]? = some (.cells (frmC f u) TFrm) ∧ W2.cell? ⟨b5 + 1, 0, none⟩ = some (.bool false) ∧ W2.cell? ⟨b4, 0, none⟩ = some (.pointer (some ⟨B, 0, none⟩)) ∧ InLen W2 B st3 ∧ ∃ g v, W2.heap[w.heap.size]? = some (.cells (frmC g v) TFrm) := fun W2 h =>
        ⟨h.keep _ _ (by omega) F1.r5, cell_of_row _ _ 0 _ _ _ (h.keep _ _ (by omega) F1.r7), cell_of_row _ _ 0 _ _ _ (h.keep _ _ (by omega) F1.p4), InLen.keep (InLen.of F1.inn) (fun o ho => h.keep _ o (by omega) ho), h.has ⟨_, _, F1.r2⟩⟩
      clear kT q4 F hi ht hk F1
      go_wp2_with fail
      have dokb : True := trivial
      have hknv := trivial
      refine wp_region_rg (RT w.heap.size f u) [(14, .unk (fun _ W => W.heap[w.heap.size]? = some (.cells (frmC f u) TFrm)) (fun _ _ _ h => h.done))] (by kernel_rfl) (by kernel_rfl) (by kernel_rfl) (fun W => RT.refl W) (fun _ _ _ => RT.trans) ?_
      intro σ
      simp only
      refine rg_pure (x := .agg (frmC f u)) rfl (by rfl) (fun W2 hW => exec_loadF (f := f) (u := u) (kd W2 hW).1 rfl rfl) ?_
      simp only [Nat.reduceAdd, Act.put, List.setIfInBounds_toArray, List.set_cons_zero, List.set_cons_succ]
      repeat (first | (refine rg_pure (x := ?_) rfl (by rfl) (fun W2 hW => ?_) ?_; rotate_left; (· obtain ⟨d5, d7, d4, dB, dn⟩ := kd W2 hW; have dok := dokb; go_simp; with_reducible rfl); simp only [Nat.reduceAdd, Act.put, List.setIfInBounds_toArray, List.set_cons_zero, List.set_cons_succ]) | (refine rg_skip rfl (by rfl) ?_; simp only [Nat.reduceAdd, Act.put, List.setIfInBounds_toArray, List.set_cons_zero, List.set_cons_succ]))
      refine rg_unk rfl (by rfl) (fun W2 hW hF => ?_) ?_
      · obtain ⟨ua, uc, hus⟩ := hown.slice
        obtain ⟨g0, v0, hgv⟩ := (kd W2 hW).2.2.2.2
        have q := RT.set (f := f) (u := u) (kd W2 hW).2.2.2.2
        rw [exec_storeF (f := f) (u := u) (sl := (ua, f.b.length, uc)) hgv rfl rfl rfl rfl hus]
        exact q
      simp only [Nat.reduceAdd, Act.put, List.setIfInBounds_toArray, List.set_cons_zero, List.set_cons_succ]
      repeat (first | (refine rg_pure (x := ?_) rfl (by rfl) (fun W2 hW => ?_) ?_; rotate_left; (· obtain ⟨d5, d7, d4, dB, dn⟩ := kd W2 hW; have dok := dokb; go_simp; with_reducible rfl); simp only [Nat.reduceAdd, Act.put, List.setIfInBounds_toArray, List.set_cons_zero, List.set_cons_succ]) | (refine rg_skip rfl (by rfl) ?_; simp only [Nat.reduceAdd, Act.put, List.setIfInBounds_toArray, List.set_cons_zero, List.set_cons_succ]))
      refine rg_done fun W3 hW hF => ?_
      have hrow := hF 14 _ _ rfl (by decide)
      have hk3 := hW.keep D _ (by omega) hk1
      have hx3 : Ext w W3 := Below.trans x1.thenDrew hW.bel
      have hown3 : OwnB W3 w.heap.size TB u f.b := by
        refine own_keepF hown (own_type hown r2' (by decide)) fun k o hne hq => hW.keep k o hne hq
      clear hF hW kd
      go_wp2_with fail
      refine leave1 rfl hk3 (results_row_tmp rfl _ _ w.heap.size _ _ _ _ (by rfl) ((putObj_other _ _ _ (by omega)).trans hrow) Try.underlying28 rfl (by kernel_rfl)) ?_
      exact HFIN.out W3 _ hk3 hx3 hown3 (by rw [HXE.out]; simp [hknv])
end Go.Proofs.Ytcdaelgnankmfaa.VSta
