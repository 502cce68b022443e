/- stamp: Encode. -/
import Derived.Test.YtjhhcfadeankfaaVStmTog
import Derived.Test.YtjhhcfadeankfaaVPutOk
import Derived.Test.YtjhhcfadeankfaaVCh
namespace Go.Proofs.Ytjhhcfadeankfaa.VMsg
open Go.RowKit Go.VBase Go.VRg Go.VEq VCst Go.VPlan VPlan Go.VOct VOct

/-- A message's bytes, and those of several. -/
def msgB (m : MsgD) : List UInt8 := beB 8 m.st.toNat ++ beB 1 m.se.toNat ++ beB 4 m.nu.toNat ++ beB 1 m.b.length ++ m.b
def stB (l : List MsgD) : List UInt8 := if l = [] then [] else beB 1 l.length ++ l.flatMap msgB
def encS (p : PlanD) (l : List MsgD) : Option (List UInt8) := if togB p l then some (stB l) else none
def EncSPost (x : Option (List UInt8)) (w : World) (e : Ending) (w' : World) : Prop :=
  ∃ u, e = .returned (.tuple #[u, .int .i64 (if x.isSome then 0 else 230)]) ∧ OwnB w' w.heap.size TB u (x.getD []) ∧ Ext w w' ∧ (x = none → u = .slice none 0 0)
theorem mayB_facts {p : PlanD} {m : MsgD} (h : mayB p m = true) : 0 ≤ m.st ∧ m.st ≤ 4294967296 ∧ 0 ≤ m.se ∧ m.se < p.nodes ∧ 0 ≤ m.nu ∧ m.nu ≤ 2147483647 ∧ (m.b.length : Int) ≤ p.payload := by
  unfold mayB at h
  simp only [Bool.and_eq_true, decide_eq_true_eq] at h
  omega
theorem planOk_facts {p : PlanD} (h : planOk p = true) : 4 ≤ p.nodes ∧ p.nodes ≤ 16 ∧ 1 ≤ p.queue ∧ p.queue ≤ 64 ∧ 1 ≤ p.burst ∧ p.burst ≤ 8 ∧ 1 ≤ p.payload ∧ p.payload ≤ 32 := by
  have h' := planOk_all h
  have h1 := h'.1
  have h9 := h'.2.2.2.2.2.2.2.2.1
  unfold c1 at h1
  unfold c9 at h9
  simp only [Bool.and_eq_true, inP_iff] at h1 h9
  omega
theorem msgB_len (m : MsgD) : (msgB m).length = 14 + m.b.length := by unfold msgB; simp only [List.length_append, beB_len]
theorem flat_len (l : List MsgD) (hl : ∀ m ∈ l, m.b.length ≤ 32) : (l.flatMap msgB).length ≤ 46 * l.length := by
  induction l with
  | nil => simp
  | cons a l ih =>
    have h1 := hl a (by simp)
    have h2 := ih fun m hm => hl m (by simp [hm])
    rw [List.flatMap_cons, List.length_append, msgB_len, List.length_cons]
    omega
theorem putB_len (st : Option (List UInt8)) (width : Int) (n : Nat) : (stAll (stPut st width n)).length ≤ (stAll st).length + 8 := by
  cases st with
  | none => simp [stPut, stAll]
  | some l =>
    show (stAll ((putB width n).map (l ++ ·))).length ≤ l.length + 8
    unfold putB
    by_cases h : widthB width = true ∧ n < 256 ^ width.toNat
    · rw [if_pos h]
      have : width.toNat ≤ 8 := by
        have := h.1
        unfold widthB at this
        simp at this
        omega
      simp [stAll, beB_len]; omega
    · rw [if_neg h]; simp [stAll]
theorem st5 {p : PlanD} {m : MsgD} (hp : planOk p = true) (hm : mayB p m = true) (pre : List UInt8) :
    stTail (stPut (stPut (stPut (stPut (some pre) 8 m.st.toNat) 1 m.se.toNat) 4 m.nu.toNat) 1 m.b.length) m.b = some (pre ++ msgB m) := by
  obtain ⟨h0, h1, h2, h3, h4, h5, h6⟩ := mayB_facts hm
  obtain ⟨g0, g1, _, _, _, _, g2, g3⟩ := planOk_facts hp
  unfold stTail stPut putB msgB
  rw [if_pos ⟨by decide, by have : m.st.toNat < 18446744073709551616 := by omega
                            simpa using this⟩]
  simp only [Option.map_some]
  rw [if_pos ⟨by decide, by have : m.se.toNat < 256 := by omega
                            simpa using this⟩]
  simp only [Option.map_some]
  rw [if_pos ⟨by decide, by have : m.nu.toNat < 4294967296 := by omega
                            simpa using this⟩]
  simp only [Option.map_some]
  rw [if_pos ⟨by decide, by have : m.b.length < 256 := by omega
                            simpa using this⟩]
  simp only [Option.map_some, List.append_assoc]
  rfl
/-- An Out, beside a message's box. -/
structure EncJ (w W : World) (bx B : Nat) (x : MsgD) (s : Sl3) (r : Option Nat) (st : Option (List UInt8)) : Prop where
  out : OutAt W TOut TB B r st
  row : W.heap[bx]? = some (.cells #[.int .i64 x.st, .int .i64 x.se, .int .i64 x.nu, slV s] TMsg)
  ext : Ext w W
  rle : ∀ g, r = some g → w.heap.size ≤ g ∧ g ≠ bx
  ne : bx ≠ B
  ble : w.heap.size ≤ B
theorem EncJ.put {w W W' : World} {bx B : Nat} {x : MsgD} {s : Sl3} {r : Option Nat} {st st' : Option (List UInt8)} {e : Ending} (h : EncJ w W bx B x s r st) (hp : TailPost W B r st' e W') :
    e = .returned (.pointer (some ⟨B, 0, none⟩)) ∧ ∃ r', EncJ w W' bx B x s r' st' := by
  obtain ⟨he, r', ho, ht, hn⟩ := hp
  have hbx : bx < W.heap.size := (Array.getElem?_eq_some_iff.1 h.row).1
  have hle := h.ext.size
  refine ⟨he, r', ho, (ht.block bx hbx h.ne (fun e => (h.rle bx e.symm).2 rfl)).trans h.row, Below.trans h.ext (ht.below hle h.ble (fun g hg => (h.rle g hg).1)), fun g hg => ?_, h.ne, h.ble⟩
  rcases hn g hg with h1 | h1
  · exact h.rle g h1
  · exact ⟨by omega, by omega⟩
theorem loadBy {W : World} {b i : Nat} {v : Value} (h : W.cell? ⟨b, i, none⟩ = some v) : (Instr.loadAt 22 (.pointer (some ⟨b, i, none⟩))).run Try.prog W = .ok v W := by
  go_simp

set_option maxRecDepth 100000 in
set_option maxHeartbeats 8000000 in
theorem stampEncode_calls (p : PlanD) (l : List (MsgD × Sl3)) (v : Value) (w : World) (hv : MsgsE w v l) (hwf : ∀ x ∈ l, Wfm x.1) :
    Calls Try.prog 19 #[planV p, v] w (EncSPost (encS p (l.map Prod.fst)) w) := by
  have hvE := hv
  obtain ⟨a, cap, rfl, hcap, hcm, hop⟩ := hv
  have kt := fun W (h : Ext w W) => together_calls p l _ W (hvE.ext h) hwf
  have r0 := heap_alloc_new w (.cells (planC p) 32)
  have x0 := Ext.alloc w (.cells (planC p) 32)
  obtain ⟨W0, hW0⟩ : ∃ W0, W0 = w.alloc (.cells (planC p) 32) := ⟨_, rfl⟩
  rw [← hW0] at r0 x0
  have H0 := Lib.hid hW0
  clear hW0
  obtain ⟨r, hr⟩ : ∃ r, encS p (l.map Prod.fst) = r := ⟨_, rfl⟩
  rw [hr]
  have HR := Lib.hid hr
  clear hr
  have HOP := Lib.hid (And.intro hop hwf)
  clear hop hwf hvE
  obtain ⟨ok, hok⟩ : ∃ ok, togB p (l.map Prod.fst) = ok := ⟨_, rfl⟩
  rw [hok] at kt
  have HK0 := Lib.hid hok
  clear hok
  unfold planV planC
  go_enter Try.func19, Try.ntmps19
  refine wp_seq_k fun K hK => ?_
  have HK := Lib.hid hK
  clear hK
  go_wp2_with fail
  refine HK.out _ _ ?_
  clear HK
  show Code.wp _ _ _ _ (w.alloc (.cells (planC p) 32))
  rw [← H0.out]
  clear H0
  go_wp2_with (refine loadPlanP r0 rfl rfl rfl ?_)
  refine (kt _ x0).mono ?_
  rintro e w1 ⟨rfl, h1⟩
  have x1 := x0.trans h1
  clear r0 x0 h1 kt
  cases ok with
  | false =>
    go_wp2_with fail
    refine bodyPost_ret (results_tmp2 rfl _ _ _) rfl ?_
    have hrn : r = none := by rw [← HR.out]; unfold encS; rw [HK0.out]; rfl
    subst hrn
    exact ⟨_, rfl, OwnB.nil _ _ _, x1, fun _ => rfl⟩
  | true =>
  have htog : togP p (l.map Prod.fst) := of_decide_eq_true HK0.out
  obtain ⟨hpl, hbu, hmay, _⟩ := htog
  obtain ⟨g0, g1, _, _, _, g8, _, g32⟩ := planOk_facts hpl
  rw [List.length_map] at hbu
  have hl8 : l.length ≤ 8 := by omega
  by_cases hl0 : l.length = 0
  · have hln : l = [] := List.eq_nil_of_length_eq_zero hl0
    subst hln
    clear g0 g1 g8 g32 hpl hbu hmay
    go_wp2_with fail
    refine bodyPost_ret (results_tmp2 rfl _ _ _) rfl ?_
    have hrn : r = some [] := by rw [← HR.out]; unfold encS; rw [HK0.out]; rfl
    subst hrn
    exact ⟨_, rfl, OwnB.nil _ _ _, x1, fun h => by cases h⟩
  have hl0' : ¬ ((l.length : Int) = 0) := by omega
  have hu8 : IntKind.u64.wrap (l.length : Int) = (l.length : Int) := by rw [IntKind.wrap_u64]; omega
  have o2 := OutAt.new w1 TOut TB
  have x2 := x1.thenAlloc (.cells #[.slice none 0 0, .bool false] TOut)
  have hB : w.heap.size ≤ w1.heap.size := x1.size
  generalize hw2 : w1.alloc (.cells #[.slice none 0 0, .bool false] TOut) = w2 at o2 x2
  obtain ⟨B, hBe⟩ : ∃ B, w1.heap.size = B := ⟨_, rfl⟩
  rw [hBe] at o2 hB
  have H2 := Lib.hid (And.intro hw2 hBe)
  have HP := Lib.hid (And.intro hpl (And.intro hmay (And.intro hl8 g32)))
  clear hw2 hBe g0 g1 g8 g32 hpl hmay hbu x1
  go_wp2_with fail
  rw [H2.out.1, H2.out.2]
  clear H2
  refine (Put_calls B none (some []) 1 l.length w2 o2 (by omega) (by simp [stAll])).mono ?_
  rintro e w3 ⟨rfl, r3, o3, t3, n3⟩
  have x3 : Ext w w3 := Below.trans x2 (t3.below x2.size hB (fun g hg => by cases hg))
  have r3le : ∀ g, r3 = some g → w.heap.size ≤ g := fun g hg => by
    rcases n3 g hg with h | h
    · cases h
    · have := x2.size; omega
  have h1b : stPut (some []) 1 l.length = some (beB 1 l.length) := by
    unfold stPut putB
    have := HP.out.2.2.1
    rw [if_pos ⟨by decide, by have : l.length < 256 := by omega
                              simpa using this⟩]; rfl
  rw [h1b] at o3
  clear o2 x2 t3 n3 h1b hu8
  go_wp2_with fail
  go_loopw [22] (fun i wr => ∃ (j : Nat) (r : Option Nat), j ≤ l.length ∧ i = .int .i64 (j : Int) ∧ OutAt wr TOut TB B r (some (beB 1 l.length ++ ((l.take j).map Prod.fst).flatMap msgB)) ∧ Ext w wr ∧ (∀ g, r = some g → w.heap.size ≤ g)) (fun i _ => l.length - (intOf i).toNat)
  case atStart => exact ⟨0, r3, Nat.zero_le _, rfl, by simpa using o3, x3, r3le⟩
  case round =>
    clear o3 x3 r3le
    obtain ⟨j, r4, hj, rfl, ho, hE, hrle⟩ := hrel
    by_cases hlt : j < l.length
    · obtain ⟨x, hx⟩ := get_some hlt
      obtain ⟨b, off, rfl, d0, d1, d2, d3, hxb⟩ := HOP.out.1 j x hx
      have hmx := HP.out.2.1 x.1 (List.mem_map.2 ⟨x, List.mem_of_getElem? hx, rfl⟩)
      have hsn : (l.take (j + 1)).map Prod.fst = (l.take j).map Prod.fst ++ [x.1] := by rw [take_snoc hx, List.map_append]; rfl
      obtain ⟨pre, hpre⟩ : ∃ pre, pre = beB 1 l.length ++ ((l.take j).map Prod.fst).flatMap msgB := ⟨_, rfl⟩
      have hplen : pre.length ≤ 1 + 46 * 8 := by
        rw [hpre, List.length_append, beB_len]
        have h1 := flat_len ((l.take j).map Prod.fst) (fun m hm => by
          obtain ⟨z, hz, rfl⟩ := List.mem_map.1 hm
          have := mayB_facts (HP.out.2.1 z.1 (List.mem_map.2 ⟨z, List.mem_of_mem_take hz, rfl⟩))
          have := HP.out.2.2.2
          omega)
        rw [List.length_map, List.length_take] at h1
        have := HP.out.2.2.1
        omega
      have hnext : beB 1 l.length ++ ((l.take (j + 1)).map Prod.fst).flatMap msgB = pre ++ msgB x.1 := by rw [hsn, List.flatMap_append, hpre]; simp
      rw [← hpre] at ho
      have HX := Lib.hid (And.intro hx (And.intro hnext hmx))
      have h5s := st5 HP.out.1 hmx pre
      obtain ⟨f0, f1, f2, f3, f4, f5, f6⟩ := mayB_facts hmx
      obtain ⟨q0, q1, _, _, _, _, _, q32⟩ := planOk_facts HP.out.1
      obtain ⟨x, s⟩ := x
      obtain ⟨sa, sn, sc⟩ := s
      have hxl : sn = x.b.length := by
        obtain ⟨a', c', h1, _⟩ := hxb
        unfold slV at h1
        simp only [Value.slice.injEq] at h1
        exact h1.2.1
      subst hxl
      simp only at d0 d1 d2 d3 hxb h5s f0 f1 f2 f3 f4 f5 f6
      obtain ⟨s, hs⟩ : ∃ s : Sl3, s = (sa, x.b.length, sc) := ⟨_, rfl⟩
      have e0 := hE.cell d0
      have e1 := hE.cell d1
      have e2 := hE.cell d2
      have e3 := hE.cell d3
      have hjw : (j : Int) < (l.length : Int) := by omega
      have hjn1 : IntKind.i64.wrap ((j : Int) + 1) = (j : Int) + 1 := by rw [IntKind.wrap_i64]; have := HP.out.2.2.1; omega
      have c0 : IntKind.u64.wrap x.st = (x.st.toNat : Int) := by rw [IntKind.wrap_u64]; omega
      have c1 : IntKind.u64.wrap x.se = (x.se.toNat : Int) := by rw [IntKind.wrap_u64]; omega
      have c2 : IntKind.u64.wrap x.nu = (x.nu.toNat : Int) := by rw [IntKind.wrap_u64]; omega
      have c3 : IntKind.u64.wrap (x.b.length : Int) = (x.b.length : Int) := by rw [IntKind.wrap_u64]; omega
      have n0 : x.st.toNat < 18446744073709551616 := by omega
      have n1 : x.se.toNat < 18446744073709551616 := by omega
      have n2 : x.nu.toNat < 18446744073709551616 := by omega
      have n3 : x.b.length ≤ 32 := by omega
      have xa := hE.thenAlloc (.cells #[.int .i64 0, .int .i64 0, .int .i64 0, .slice none 0 0] TMsg)
      have ra := heap_alloc_new wr (.cells #[.int .i64 0, .int .i64 0, .int .i64 0, .slice none 0 0] TMsg)
      have xb : Ext w ((wr.alloc (.cells #[.int .i64 0, .int .i64 0, .int .i64 0, .slice none 0 0] TMsg)).setRow wr.heap.size #[.int .i64 x.st, .int .i64 x.se, .int .i64 x.nu, slV s]) := xa.setRow (by have := hE.size; omega) _
      have rb := setRow_heap (wr.alloc (.cells #[.int .i64 0, .int .i64 0, .int .i64 0, .slice none 0 0] TMsg)) wr.heap.size _ #[.int .i64 x.st, .int .i64 x.se, .int .i64 x.nu, slV s] _ _ ra
      have ob : OutAt ((wr.alloc (.cells #[.int .i64 0, .int .i64 0, .int .i64 0, .slice none 0 0] TMsg)).setRow wr.heap.size #[.int .i64 x.st, .int .i64 x.se, .int .i64 x.nu, slV s]) TOut TB B r4 (some pre) := by
        have hbl := ho.lt
        have hrl := ho.rlt
        have t1 : TouchO wr.heap.size none (wr.alloc (.cells #[.int .i64 0, .int .i64 0, .int .i64 0, .slice none 0 0] TMsg)) ((wr.alloc (.cells #[.int .i64 0, .int .i64 0, .int .i64 0, .slice none 0 0] TMsg)).setRow wr.heap.size #[.int .i64 x.st, .int .i64 x.se, .int .i64 x.nu, slV s]) :=
          ⟨rfl, rfl, rfl, by simp, fun k hk hne _ => setRow_other _ _ _ _ hne⟩
        exact (ho.ext (Ext.alloc wr _)).touch t1 (by omega) (by simp) (fun e => by have := hrl _ e; omega) (by cases r4 <;> simp)
      have hble : B < wr.heap.size := ho.lt
      have hrlt := ho.rlt
      obtain ⟨W1, hW1⟩ : ∃ W1, W1 = (wr.alloc (.cells #[.int .i64 0, .int .i64 0, .int .i64 0, .slice none 0 0] TMsg)).setRow wr.heap.size #[.int .i64 x.st, .int .i64 x.se, .int .i64 x.nu, slV s] := ⟨_, rfl⟩
      rw [← hW1] at xb rb ob
      have H1 := Lib.hid hW1
      have J0 : EncJ w W1.drew wr.heap.size B x s r4 (some pre) := ⟨ob.ext (Ext.drew _), rb, xb.thenDrew, fun g hg => ⟨hrle g hg, by have := hrlt g hg; omega⟩, by omega, hB⟩
      have hxbW : Bys W1 (slV s) x.b := by rw [hs]; exact hxb.ext xb
      have HXB := Lib.hid (show ∀ W, Ext w W → Bys W (slV s) x.b from fun W h => by rw [hs]; exact hxb.ext h)
      have HST := Lib.hid h5s
      clear hW1 hx d0 d1 d2 d3 hE xa ho ob f0 f1 f2 f3 f4 f5 f6 q0 q1 q32 hxbW xb h5s hpre hnext hmx hsn hxb
      have HS := Lib.hid hs
      unfold slV at e3
      simp only at e3
      go_wp2_with (refine storeMsg (m := x) (s := (sa, x.b.length, sc)) ra rfl rfl rfl rfl rfl ?_)
      show Code.wp _ _ _ _ ((wr.alloc (.cells #[.int .i64 0, .int .i64 0, .int .i64 0, .slice none 0 0] TMsg)).setRow wr.heap.size #[.int .i64 x.st, .int .i64 x.se, .int .i64 x.nu, slV (sa, x.b.length, sc)])
      rw [← HS.out, ← H1.out]
      generalize wr.heap.size = bx at *
      clear H1 ra e0 e1 e2 e3 hs
      have l1 := putB_len (some pre) 8 x.st.toNat
      have l2 := putB_len (stPut (some pre) 8 x.st.toNat) 1 x.se.toNat
      have l3 := putB_len (stPut (stPut (some pre) 8 x.st.toNat) 1 x.se.toNat) 4 x.nu.toNat
      have l4 := putB_len (stPut (stPut (stPut (some pre) 8 x.st.toNat) 1 x.se.toNat) 4 x.nu.toNat) 1 x.b.length
      rw [show (stAll (some pre)).length = pre.length from rfl] at l1
      have hst5 := HST.out
      generalize hs1 : stPut (some pre) 8 x.st.toNat = S1 at *
      generalize hs2 : stPut S1 1 x.se.toNat = S2 at *
      generalize hs3 : stPut S2 4 x.nu.toNat = S3 at *
      generalize hs4 : stPut S3 1 x.b.length = S4 at *
      have HSS := Lib.hid (And.intro hs1 (And.intro hs2 (And.intro hs3 (And.intro hs4 hst5))))
      obtain ⟨L, hL⟩ : ∃ L, L = (x.b.length : Int) := ⟨_, rfl⟩
      clear hs1 hs2 hs3 hs4 hst5 HST
      generalize x.st.toNat = N0 at *
      generalize x.se.toNat = N1 at *
      generalize x.nu.toNat = N2 at *
      have hp8 : (stAll (some pre)).length + 8 ≤ 140737488355328 := by show pre.length + 8 ≤ _; omega
      refine wp_region_chain (fun a b => ∀ o, a.heap[bx]? = some o → b.heap[bx]? = some o) Eq [(3, .known (.pointer (some ⟨B, 0, none⟩))), (7, .known (.pointer (some ⟨B, 0, none⟩))), (11, .known (.pointer (some ⟨B, 0, none⟩))), (16, .known (.pointer (some ⟨B, 0, none⟩))), (19, .known (.pointer (some ⟨B, 0, none⟩)))] [3, 7, 11, 16, 19]
        (fun vs W' => ∃ r, EncJ w W' bx B x s r (match vs.length with | 0 => some pre | 1 => S1 | 2 => S2 | 3 => S3 | 4 => S4 | _ => stTail S4 x.b))
        (by kernel_rfl) (by kernel_rfl) (by kernel_rfl) (by kernel_rfl) (fun a b h o ho => by rw [← h]; exact ho) (fun _ _ _ h k => by rw [← h]; exact k) (fun _ _ h => h) (fun _ _ _ h k o ho => k o (h o ho)) ⟨r4, J0⟩ ?_
      intro σ
      simp only
      refine cg_pure (x := ?_) rfl (by rfl) (fun W hW => ?_) ?_; rotate_left
      · go_simp; with_reducible rfl
      simp only [Nat.reduceAdd, Act.put, List.setIfInBounds_toArray, List.set_cons_zero, List.set_cons_succ]
      refine cg_pure (x := .int .i64 x.st) rfl (by rfl) (fun W hW => exec_load (b := .pointer (some ⟨bx, 0, none⟩)) rfl rfl (loadI64 (row4m (hW _ rb)).1)) ?_
      simp only [Nat.reduceAdd, Act.put, List.setIfInBounds_toArray, List.set_cons_zero, List.set_cons_succ]
      refine cg_pure (x := ?_) rfl (by rfl) (fun W hW => ?_) ?_; rotate_left
      · go_simp; with_reducible rfl
      simp only [Nat.reduceAdd, Act.put, List.setIfInBounds_toArray, List.set_cons_zero, List.set_cons_succ]
      refine cg_call (x := .pointer (some ⟨B, 0, none⟩)) 0 (vs := []) rfl rfl (by decide) rfl (by rfl) (fun W hW hF hS => ?_) ?_
      · obtain ⟨r1, J⟩ := hS
        clear hF
        go_simp
        refine (Put_calls B r1 (some pre) 8 N0 W J.out n0 hp8).mono ?_
        rintro e W' hp
        obtain ⟨rfl, r2, J2⟩ := J.put (st' := S1) (by rw [HSS.out.1] at hp; exact hp)
        exact ⟨_, rfl, fun o ho => (by rw [J.row] at ho; cases ho; exact J2.row), rfl, r2, J2⟩
      simp only [Nat.reduceAdd, Act.put, List.setIfInBounds_toArray, List.set_cons_zero, List.set_cons_succ]
      refine cg_pure (x := ?_) rfl (by rfl) (fun W hW => ?_) ?_; rotate_left
      · go_simp; with_reducible rfl
      simp only [Nat.reduceAdd, Act.put, List.setIfInBounds_toArray, List.set_cons_zero, List.set_cons_succ]
      refine cg_pure (x := .int .i64 x.se) rfl (by rfl) (fun W hW => exec_load (b := .pointer (some ⟨bx, 1, none⟩)) rfl rfl (loadInt (row4m (hW _ rb)).2.1)) ?_
      simp only [Nat.reduceAdd, Act.put, List.setIfInBounds_toArray, List.set_cons_zero, List.set_cons_succ]
      refine cg_pure (x := ?_) rfl (by rfl) (fun W hW => ?_) ?_; rotate_left
      · go_simp; with_reducible rfl
      simp only [Nat.reduceAdd, Act.put, List.setIfInBounds_toArray, List.set_cons_zero, List.set_cons_succ]
      refine cg_call (x := .pointer (some ⟨B, 0, none⟩)) 1 (vs := [.pointer (some ⟨B, 0, none⟩)]) rfl rfl (by decide) rfl (by rfl) (fun W hW hF hS => ?_) ?_
      · obtain ⟨r1, J⟩ := hS
        clear hF
        go_simp
        refine (Put_calls B r1 S1 1 N1 W J.out n1 (by omega)).mono ?_
        rintro e W' hp
        obtain ⟨rfl, r2, J2⟩ := J.put (st' := S2) (by rw [HSS.out.2.1] at hp; exact hp)
        exact ⟨_, rfl, fun o ho => (by rw [J.row] at ho; cases ho; exact J2.row), rfl, r2, J2⟩
      simp only [Nat.reduceAdd, Act.put, List.setIfInBounds_toArray, List.set_cons_zero, List.set_cons_succ]
      refine cg_pure (x := ?_) rfl (by rfl) (fun W hW => ?_) ?_; rotate_left
      · go_simp; with_reducible rfl
      simp only [Nat.reduceAdd, Act.put, List.setIfInBounds_toArray, List.set_cons_zero, List.set_cons_succ]
      refine cg_pure (x := .int .i64 x.nu) rfl (by rfl) (fun W hW => exec_load (b := .pointer (some ⟨bx, 2, none⟩)) rfl rfl (loadInt (row4m (hW _ rb)).2.2.1)) ?_
      simp only [Nat.reduceAdd, Act.put, List.setIfInBounds_toArray, List.set_cons_zero, List.set_cons_succ]
      refine cg_pure (x := ?_) rfl (by rfl) (fun W hW => ?_) ?_; rotate_left
      · go_simp; with_reducible rfl
      simp only [Nat.reduceAdd, Act.put, List.setIfInBounds_toArray, List.set_cons_zero, List.set_cons_succ]
      refine cg_call (x := .pointer (some ⟨B, 0, none⟩)) 2 (vs := [.pointer (some ⟨B, 0, none⟩), .pointer (some ⟨B, 0, none⟩)]) rfl rfl (by decide) rfl (by rfl) (fun W hW hF hS => ?_) ?_
      · obtain ⟨r1, J⟩ := hS
        clear hF
        go_simp
        refine (Put_calls B r1 S2 4 N2 W J.out n2 (by omega)).mono ?_
        rintro e W' hp
        obtain ⟨rfl, r2, J2⟩ := J.put (st' := S3) (by rw [HSS.out.2.2.1] at hp; exact hp)
        exact ⟨_, rfl, fun o ho => (by rw [J.row] at ho; cases ho; exact J2.row), rfl, r2, J2⟩
      simp only [Nat.reduceAdd, Act.put, List.setIfInBounds_toArray, List.set_cons_zero, List.set_cons_succ]
      refine cg_pure (x := ?_) rfl (by rfl) (fun W hW => ?_) ?_; rotate_left
      · go_simp; with_reducible rfl
      simp only [Nat.reduceAdd, Act.put, List.setIfInBounds_toArray, List.set_cons_zero, List.set_cons_succ]
      refine cg_pure (x := slV s) rfl (by rfl) (fun W hW => exec_load (b := .pointer (some ⟨bx, 3, none⟩)) rfl rfl (loadBy (row4m (hW _ rb)).2.2.2)) ?_
      simp only [Nat.reduceAdd, Act.put, List.setIfInBounds_toArray, List.set_cons_zero, List.set_cons_succ]
      refine cg_pure (x := .int .i64 (x.b.length : Int)) rfl (by rfl) (fun W hW => ?_) ?_
      · rw [HS.out]; unfold slV; go_simp
      simp only [Nat.reduceAdd, Act.put, List.setIfInBounds_toArray, List.set_cons_zero, List.set_cons_succ]
      refine cg_pure (x := ?_) rfl (by rfl) (fun W hW => ?_) ?_; rotate_left
      · go_simp; with_reducible rfl
      simp only [Nat.reduceAdd, Act.put, List.setIfInBounds_toArray, List.set_cons_zero, List.set_cons_succ]
      refine cg_call (x := .pointer (some ⟨B, 0, none⟩)) 3 (vs := [.pointer (some ⟨B, 0, none⟩), .pointer (some ⟨B, 0, none⟩), .pointer (some ⟨B, 0, none⟩)]) rfl rfl (by decide) rfl (by rfl) (fun W hW hF hS => ?_) ?_
      · obtain ⟨r1, J⟩ := hS
        clear hF
        go_simp
        refine (Put_calls B r1 S3 1 x.b.length W J.out (by omega) (by omega)).mono ?_
        rintro e W' hp
        obtain ⟨rfl, r2, J2⟩ := J.put (st' := S4) (by rw [HSS.out.2.2.2.1] at hp; exact hp)
        exact ⟨_, rfl, fun o ho => (by rw [J.row] at ho; cases ho; exact J2.row), rfl, r2, J2⟩
      simp only [Nat.reduceAdd, Act.put, List.setIfInBounds_toArray, List.set_cons_zero, List.set_cons_succ]
      refine cg_pure (x := ?_) rfl (by rfl) (fun W hW => ?_) ?_; rotate_left
      · go_simp; with_reducible rfl
      simp only [Nat.reduceAdd, Act.put, List.setIfInBounds_toArray, List.set_cons_zero, List.set_cons_succ]
      refine cg_pure (x := slV s) rfl (by rfl) (fun W hW => exec_load (b := .pointer (some ⟨bx, 3, none⟩)) rfl rfl (loadBy (row4m (hW _ rb)).2.2.2)) ?_
      simp only [Nat.reduceAdd, Act.put, List.setIfInBounds_toArray, List.set_cons_zero, List.set_cons_succ]
      refine cg_call (x := .pointer (some ⟨B, 0, none⟩)) 4 (vs := [.pointer (some ⟨B, 0, none⟩), .pointer (some ⟨B, 0, none⟩), .pointer (some ⟨B, 0, none⟩), .pointer (some ⟨B, 0, none⟩)]) rfl rfl (by decide) rfl (by rfl) (fun W hW hF hS => ?_) ?_
      · obtain ⟨r1, J⟩ := hS
        clear hF
        go_simp
        refine (Tail_calls B r1 S4 (slV s) x.b W J.out (HXB.out W J.ext) (by omega)).mono ?_
        rintro e W' hp
        obtain ⟨rfl, r2, J2⟩ := J.put hp
        exact ⟨_, rfl, fun o ho => (by rw [J.row] at ho; cases ho; exact J2.row), rfl, r2, J2⟩
      simp only [Nat.reduceAdd, Act.put, List.setIfInBounds_toArray, List.set_cons_zero, List.set_cons_succ]
      refine cg_done rfl fun W2 hW hF hS => ?_
      obtain ⟨r5, J5⟩ := hS
      have o5 : OutAt W2 TOut TB B r5 (stTail S4 x.b) := J5.out
      rw [HSS.out.2.2.2.2] at o5
      have x5 := J5.ext
      have r5le := fun g hg => (J5.rle g hg).1
      clear hW hF J5 J0 c0 c1 c2 c3 n0 n1 n2 n3 l1 l2 l3 l4 rb
      go_wp2_with fail
      go_roundw
      case rel => exact ⟨j + 1, r5, by omega, by go_num, by rw [HX.out.2.1]; exact o5, x5, r5le⟩
      case measure => simp [intOf]; omega
    · have hjl : j = l.length := by omega
      subst hjl
      rw [List.take_length] at ho
      have hjn : decide ((l.length : Int) < (l.length : Int)) = false := by simp
      have hrs : r = some (beB 1 l.length ++ (l.map Prod.fst).flatMap msgB) := by
        rw [← HR.out]
        unfold encS stB
        rw [HK0.out, if_pos rfl, if_neg (by intro h; have := congrArg List.length h; simp at this; rw [this] at hl0; exact hl0 rfl), List.length_map]
      have hlen : (stAll (some (beB 1 l.length ++ (l.map Prod.fst).flatMap msgB))).length ≤ 140737488355328 := by
        show (beB 1 l.length ++ (l.map Prod.fst).flatMap msgB).length ≤ _
        rw [List.length_append, beB_len]
        have h1 := flat_len (l.map Prod.fst) (fun m hm => by
          have := mayB_facts (HP.out.2.1 m hm)
          have := HP.out.2.2.2
          omega)
        rw [List.length_map] at h1
        have := HP.out.2.2.1
        omega
      have HRS := Lib.hid hrs
      generalize beB 1 l.length ++ (l.map Prod.fst).flatMap msgB = Z at *
      clear hrs
      go_wp2_with fail
      refine (All_calls B r4 (some Z) wr ho hlen).mono ?_
      rintro e w6 ⟨u, rfl, hu, hx6⟩
      have hxE := hE.trans hx6
      have hu' := hu.mono hE.size
      obtain ⟨a', cap', rfl⟩ := hu.slice
      go_wp2_with fail
      refine bodyPost_ret (results_tmp2 rfl _ _ _) rfl ?_
      have := HRS.out
      subst this
      exact ⟨_, rfl, hu', hxE, fun h => by cases h⟩
end Go.Proofs.Ytjhhcfadeankfaa.VMsg
