/- StampLong: the walk. -/
import Derived.Test.YtjhhcfadeankfaaVStmAlive
namespace Go.Proofs.Ytjhhcfadeankfaa.VMsg
open Go.RowKit Go.VBase Go.VRg Go.VEq VCst Go.VPlan VPlan Go.VOct VOct

/-- How many bytes messages have. -/
def wantN (l : List MsgD) : Nat := l.foldl (fun n m => n + 14 + m.b.length) 0
theorem flat_want (l : List MsgD) : (l.flatMap msgB).length = wantN l := by
  have gen : ∀ (l : List MsgD) (n : Nat), l.foldl (fun n m => n + 14 + m.b.length) n = n + (l.flatMap msgB).length := by
    intro l
    induction l with
    | nil => intro n; simp
    | cons a l ih => intro n; rw [List.foldl_cons, ih, List.flatMap_cons, List.length_append, msgB_len]; omega
  have := gen l 0
  unfold wantN
  omega
theorem stB_want (l : List MsgD) : (stB l).length = min 1 l.length + wantN l := by
  unfold stB
  split
  · rename_i h; subst h; rfl
  · rename_i h
    have : 0 < l.length := by
      rcases Nat.eq_zero_or_pos l.length with h0 | h0
      · exact absurd (List.eq_nil_of_length_eq_zero h0) h
      · exact h0
    rw [List.length_append, beB_len, flat_want]; omega
theorem want_snoc (l : List MsgD) (m : MsgD) : wantN (l ++ [m]) = wantN l + 14 + m.b.length := by unfold wantN; rw [List.foldl_append]; rfl
theorem want_le (l : List MsgD) (h : ∀ m ∈ l, m.b.length ≤ 300) : wantN l ≤ 314 * l.length := by
  rw [← flat_want]
  induction l with
  | nil => simp
  | cons a l ih =>
    have h1 := h a (by simp)
    have h2 := ih fun m hm => h m (by simp [hm])
    rw [List.flatMap_cons, List.length_append, msgB_len, List.length_cons]; omega
/-- A part of messages that may stand in one frame. -/
theorem tog_part {p : PlanD} {l : List MsgD} (h : togP p l) (i m : Nat) : togP p ((l.drop i).take m) := by
  obtain ⟨h1, h2, h3, h4⟩ := h
  refine ⟨h1, ?_, fun x hx => h3 x (List.mem_of_mem_drop (List.mem_of_mem_take hx)), ?_⟩
  · have : ((l.drop i).take m).length ≤ l.length := by rw [List.length_take, List.length_drop]; omega
    omega
  · exact h4.sublist ((List.take_sublist _ _).trans (List.drop_sublist _ _))

theorem MsgsE.cut {w : World} {a : Option Addr} {cap : Nat} {l : List (MsgD × Sl3)} (h : MsgsE w (.slice a l.length cap) l) {i m : Nat} (hm : i + m ≤ l.length) :
    MsgsE w (.slice (if cap = i then a else Option.map (fun x => x.add (i * 4)) a) m (cap - i)) ((l.drop i).take m) := by
  obtain ⟨a', cap', h1, h2, h3, h4⟩ := h
  cases h1
  have hlen : ((l.drop i).take m).length = m := by rw [List.length_take, List.length_drop]; omega
  refine ⟨_, cap - i, by rw [hlen], by omega, by omega, fun k x hk => ?_⟩
  have hkm : k < m := by rw [← hlen]; exact (List.getElem?_eq_some_iff.1 hk).1
  rw [List.getElem?_take, if_pos hkm, List.getElem?_drop] at hk
  obtain ⟨b, off, rfl, h5⟩ := h4 _ x hk
  rw [if_neg (by omega)]
  refine ⟨b, off + i * 4, ?_, ?_⟩
  · show some (Addr.add _ (i * 4)) = _
    unfold Addr.add
    split
    · rename_i h0; rw [h0]; rfl
    · rfl
  · rw [show off + i * 4 + k * 4 = off + (i + k) * 4 by omega]; exact h5
theorem loadPlanE {W : World} {b : Nat} {T : TypeId} {mk : Nat × Nat} {p : PlanD} (h : W.heap[b]? = some (.cells (planC p) T mk)) : (Instr.loadAt 32 (.pointer (some ⟨b, 0, none⟩))).run Try.prog W = .ok (planV p) W := by
  simp only [Instr.loadAt, Instr.sureAddr, Sem.run_bind, Sem.run_pure, Result.andThen_ok, run_loadVar_row W b T 32 (planC p) mk _ h Try.underlying32 rfl (by kernel_rfl)]
  rfl

set_option maxRecDepth 100000 in
set_option maxHeartbeats 8000000 in
theorem Long_any (p : PlanD) (l : List (MsgD × Sl3)) (v : Value) (fr ma : Nat) (hfr : fr < 256) (hma : ma < 256) (w : World) (hv : MsgsE w v l) (hwf : ∀ x ∈ l, Wfm x.1) :
    Calls Try.prog 4 #[planV p, v, .int .u8 (fr : Int), .int .u8 (ma : Int)] w fun e w' => e = .returned (.bool true) ∧ Ext w w' := by
  have hvE := hv
  obtain ⟨a, cap, rfl, hcap, hcm, hop⟩ := hv
  have kA := fun W => alive_calls W
  have kG := fun W (h : Ext w W) => refGreat_calls _ l W (hvE.ext h)
  have kE := fun W (h : Ext w W) => stampEncode_calls p l _ W (hvE.ext h) hwf
  have r0 := heap_alloc_new w (.cells (planC p) 32)
  have x0 := Ext.alloc w (.cells (planC p) 32)
  obtain ⟨W0, hW0⟩ : ∃ W0, W0 = w.alloc (.cells (planC p) 32) := ⟨_, rfl⟩
  rw [← hW0] at r0 x0
  have H0 := Lib.hid hW0
  have HV := Lib.hid (And.intro hvE (And.intro hop hwf))
  clear hW0 hop hvE hwf
  unfold planV planC
  go_enter Try.func4, Try.ntmps4
  refine wp_seq_k fun K hK => ?_
  have HK := Lib.hid hK
  clear hK
  go_wp2_with fail
  refine HK.out _ _ ?_
  clear HK
  show Code.wp _ _ _ _ (w.alloc (.cells (planC p) 32))
  rw [← H0.out]
  clear H0
  go_wp2_with fail
  refine (kA _).mono ?_
  rintro e w1 ⟨rfl, h1⟩
  have r1 := h1.block r0
  have x1 := x0.trans h1
  clear r0 x0 h1 kA
  go_wp2_with fail
  refine (kG _ x1).mono ?_
  rintro e w' ⟨hg, rfl⟩
  rcases hg with rfl | ⟨rfl, hsm⟩
  · clear kG kE
    go_wp2_with fail
    go_ret
    exact ⟨rfl, x1⟩
  clear kG
  have HSM := Lib.hid hsm
  clear hsm
  go_wp2_with (refine loadPlanP r1 rfl rfl rfl ?_)
  refine (kE _ x1).mono ?_
  rintro e w2 ⟨u, rfl, hu, h2, hnone⟩
  have r2 := h2.block r1
  have x2 := x1.trans h2
  clear r1 x1 h2 kE
  obtain ⟨ok, hok⟩ : ∃ ok, togB p (l.map Prod.fst) = ok := ⟨_, rfl⟩
  have HOK := Lib.hid hok
  cases ok with
  | false =>
    have hen : encS p (l.map Prod.fst) = none := by unfold encS; rw [hok]; rfl
    have hun := hnone hen
    subst hun
    rw [hen]
    rw [show (if (none : Option (List UInt8)).isSome = true then (0 : Int) else 230) = 230 from rfl]
    clear hu hnone hen hok
    go_wp2_with fail
    go_ret
    exact ⟨rfl, x2⟩
  | true =>
  have hen : encS p (l.map Prod.fst) = some (stB (l.map Prod.fst)) := by unfold encS; rw [hok]; rfl
  rw [hen] at hu
  rw [hen]
  rw [show (if (some (stB (l.map Prod.fst))).isSome = true then (0 : Int) else 230) = 0 from rfl]
  obtain ⟨ua, uc, rfl⟩ := hu.slice
  rw [show ((some (stB (l.map Prod.fst))).getD []).length = (stB (l.map Prod.fst)).length from rfl]
  have hwant := stB_want (l.map Prod.fst)
  rw [List.length_map] at hwant
  have hwle := want_le (l.map Prod.fst) (fun m hm => by obtain ⟨z, hz, rfl⟩ := List.mem_map.1 hm; exact HSM.out.2 z hz)
  rw [List.length_map] at hwle
  have hl50 := HSM.out.1
  generalize (stB (l.map Prod.fst)).length = LB at *
  have HWt := Lib.hid hwant
  have hmin : (if (l.length : Int) < 1 then (l.length : Int) else 1) = ((min 1 l.length : Nat) : Int) := by split <;> omega
  clear hu hnone hen hok hwant
  go_wp2_with fail
  obtain ⟨ms, hms⟩ : ∃ ms, ms = l.map Prod.fst := ⟨_, rfl⟩
  rw [← hms] at hwle HWt HOK
  have HMS := Lib.hid hms
  clear hms hmin
  go_loop [12, 46] (fun n i => ∃ j : Nat, j ≤ l.length ∧ i = .int .i64 (j : Int) ∧ n = .int .i64 ((min 1 l.length + wantN (ms.take j) : Nat) : Int)) (fun _ i => l.length - (intOf i).toNat)
  case atStart => exact ⟨0, Nat.zero_le _, rfl, rfl⟩
  case round =>
    obtain ⟨j, hj, rfl, rfl⟩ := hrel
    by_cases hlt : j < l.length
    · obtain ⟨x, hx⟩ := get_some hlt
      obtain ⟨b, off, rfl, d0, d1, d2, d3, hxb⟩ := HV.out.2.1 j x hx
      have e3 := x2.cell d3
      have hxl : x.2.2.1 = x.1.b.length := by
        obtain ⟨a', c', h1, _⟩ := hxb
        unfold slV at h1
        simp only [Value.slice.injEq] at h1
        exact h1.2.1
      have hsn : ms.take (j + 1) = ms.take j ++ [x.1] := by rw [HMS.out]; exact take_snoc (by rw [List.getElem?_map, hx]; rfl)
      have h300 := HSM.out.2 x (List.mem_of_getElem? hx)
      have hw1 := want_le (ms.take j) (fun m hm => by
        have := List.mem_of_mem_take hm
        rw [HMS.out] at this
        obtain ⟨z, hz, rfl⟩ := List.mem_map.1 this
        exact HSM.out.2 z hz)
      have hlm : ms.length = l.length := by rw [HMS.out, List.length_map]
      have hw2 : (ms.take j).length ≤ 50 := by rw [List.length_take]; omega
      have hws := want_snoc (ms.take j) x.1
      rw [← hsn] at hws
      have hn : min 1 l.length ≤ 1 := by omega
      have HW := Lib.hid hws
      obtain ⟨N, hN⟩ : ∃ N, N = min 1 l.length + wantN (ms.take j) := ⟨_, rfl⟩
      have hNle : N ≤ 20000 := by omega
      rw [← hN]
      have HN := Lib.hid hN
      obtain ⟨x, sa, sn, sc⟩ := x
      simp only at hxl h300
      subst hxl
      unfold slV at e3
      simp only at e3
      have q0 : IntKind.i64.wrap ((N : Int) + 14) = (N : Int) + 14 := by rw [IntKind.wrap_i64]; omega
      have q1 : IntKind.i64.wrap ((N : Int) + 14 + (x.b.length : Int)) = (N : Int) + 14 + (x.b.length : Int) := by rw [IntKind.wrap_i64]; omega
      have hjw : (j : Int) < (l.length : Int) := by omega
      clear hx d0 d1 d2 d3 hxb hsn hw1 hw2 hws hN hn hNle
      go_wp2_with fail
      go_round
      · refine ⟨j + 1, by omega, by go_num, ?_⟩
        have := HW.out
        have h2 := HN.out
        have h3 := HW.out
        rw [h3]
        congr 1
        simp only
        omega
      · simp [intOf]; omega
    · have hjl : j = l.length := by omega
      subst hjl
      have hlm : ms.length = l.length := by rw [HMS.out, List.length_map]
      rw [← hlm, List.take_length, hlm]
      have hjn : decide ((l.length : Int) < (l.length : Int)) = false := by simp
      have hwt : min 1 l.length + wantN ms = LB := HWt.out.symm
      rw [hwt]
      -- the part
      obtain ⟨i, hi⟩ : ∃ i, i = fr % (l.length + 1) := ⟨_, rfl⟩
      have hil : i ≤ l.length := by rw [hi]; have := Nat.mod_lt fr (show 0 < l.length + 1 by omega); omega
      obtain ⟨m, hm⟩ : ∃ m, m = ma % (l.length - i + 1) := ⟨_, rfl⟩
      have hml : i + m ≤ l.length := by have := Nat.mod_lt ma (show 0 < l.length - i + 1 by omega); rw [← hm] at this; omega
      have q0 : IntKind.i64.wrap (fr : Int) = (fr : Int) := by rw [IntKind.wrap_i64]; omega
      have q1 : IntKind.i64.wrap ((l.length : Int) + 1) = (l.length : Int) + 1 := by rw [IntKind.wrap_i64]; omega
      have q2 : (fr : Int) % ((l.length : Int) + 1) = (i : Int) := by rw [hi, Int.natCast_emod, Int.natCast_add]; rfl
      have q3 : ¬ ((l.length : Int) + 1 = 0) := by omega
      have q4 : IntKind.i64.wrap (ma : Int) = (ma : Int) := by rw [IntKind.wrap_i64]; omega
      have q5 : IntKind.i64.wrap ((l.length : Int) - (i : Int)) = (l.length : Int) - (i : Int) := by rw [IntKind.wrap_i64]; omega
      have q6 : IntKind.i64.wrap ((l.length : Int) - (i : Int) + 1) = (l.length : Int) - (i : Int) + 1 := by rw [IntKind.wrap_i64]; omega
      have q7 : (ma : Int) % ((l.length : Int) - (i : Int) + 1) = (m : Int) := by rw [hm, Int.natCast_emod, show ((l.length - i + 1 : Nat) : Int) = (l.length : Int) - (i : Int) + 1 by omega]
      have q8 : ¬ ((l.length : Int) - (i : Int) + 1 = 0) := by omega
      have q9 : IntKind.i64.wrap ((i : Int) + (m : Int)) = (i : Int) + (m : Int) := by rw [IntKind.wrap_i64]; omega
      clear hi hm hlm hwt
      go_wp2_with fail
      clear q0 q1 q2 q3 q4 q5 q6 q7 q8 q9 hwle
      have hi0 : (0 : Int) ≤ (i : Int) := by omega
      have hi1 : (i : Int) ≤ (i : Int) + (m : Int) := by omega
      have hi2 : (i : Int) + (m : Int) ≤ (cap : Int) := by omega
      have K0 := Lib.hid (show ∀ W, Ext w2.drew W → W.heap[w.heap.size]? = some (.cells (planC p) 32) from fun W h => h.block r2)
      refine wp_region_rg Ext [(5, .unk (fun v _ => ∃ u, v = .tuple #[u, .int .i64 0]) (fun _ _ _ _ h => h)), (7, .unk (fun _ _ => True) (fun _ _ _ _ h => h)), (8, .known (.int .i64 0))] (by kernel_rfl) (by kernel_rfl) (by kernel_rfl) Ext.refl (fun _ _ _ => Ext.trans) ?_
      intro σ
      simp only
      refine rg_pure (x := planV p) rfl (by rfl) (fun W hW => exec_load (b := .pointer (some ⟨w.heap.size, 0, none⟩)) rfl rfl (loadPlanE (K0.out W hW))) ?_
      simp only [Nat.reduceAdd, Act.put, List.setIfInBounds_toArray, List.set_cons_zero, List.set_cons_succ]
      refine rg_pure (x := ?_) rfl (by rfl) (fun W hW => ?_) ?_; rotate_left
      · go_simp; with_reducible rfl
      simp only [Nat.reduceAdd, Act.put, List.setIfInBounds_toArray, List.set_cons_zero, List.set_cons_succ]
      refine rg_pure (x := ?_) rfl (by rfl) (fun W hW => ?_) ?_; rotate_left
      · go_simp; with_reducible rfl
      simp only [Nat.reduceAdd, Act.put, List.setIfInBounds_toArray, List.set_cons_zero, List.set_cons_succ]
      refine rg_pure (x := ?_) rfl (by rfl) (fun W hW => ?_) ?_; rotate_left
      · go_simp; with_reducible rfl
      simp only [Nat.reduceAdd, Act.put, List.setIfInBounds_toArray, List.set_cons_zero, List.set_cons_succ]
      refine rg_pure (x := ?_) rfl (by rfl) (fun W hW => ?_) ?_; rotate_left
      · go_simp; with_reducible rfl
      simp only [Nat.reduceAdd, Act.put, List.setIfInBounds_toArray, List.set_cons_zero, List.set_cons_succ]
      refine rg_unk rfl (by rfl) (fun W hW hF => ?_) ?_
      · go_simp
        have hxW := x2.trans (Ext.of_drew hW)
        have hM := (HV.out.1.ext hxW).cut (i := i) (m := m) hml
        rw [show ((i : Int) + (m : Int)).toNat - i = m by omega]
        refine (stampEncode_calls p ((l.drop i).take m) _ W hM (fun x hx => HV.out.2.2 x (List.mem_of_mem_drop (List.mem_of_mem_take hx)))).mono ?_
        rintro e W' ⟨u, rfl, -, h, -⟩
        have htp : togB p (((l.drop i).take m).map Prod.fst) = true := by
          have h1 : togP p ms := of_decide_eq_true HOK.out
          have h2 := tog_part h1 i m
          rw [HMS.out, ← List.map_drop, ← List.map_take] at h2
          exact decide_eq_true h2
        refine ⟨_, rfl, h, u, ?_⟩
        unfold encS
        rw [htp]; rfl
      simp only [Nat.reduceAdd, Act.put, List.setIfInBounds_toArray, List.set_cons_zero, List.set_cons_succ]
      refine rg_pure (x := ?_) rfl (by rfl) (fun W hW => ?_) ?_; rotate_left
      · go_simp; with_reducible rfl
      simp only [Nat.reduceAdd, Act.put, List.setIfInBounds_toArray, List.set_cons_zero, List.set_cons_succ]
      refine rg_unk rfl (by rfl) (fun W hW hF => ?_) ?_
      · obtain ⟨u, h5⟩ := hF 5 _ _ rfl (by kernel_rfl)
        generalize σ 5 = z at *
        subst h5
        clear hF
        go_simp
        exact ⟨Ext.refl _, trivial⟩
      simp only [Nat.reduceAdd, Act.put, List.setIfInBounds_toArray, List.set_cons_zero, List.set_cons_succ]
      refine rg_known rfl (by rfl) (fun W hW hF => ?_) ?_
      · obtain ⟨u, h5⟩ := hF 5 _ _ rfl (by kernel_rfl)
        generalize σ 5 = z at *
        subst h5
        clear hF
        go_simp
        exact ⟨Ext.refl _, rfl⟩
      simp only [Nat.reduceAdd, Act.put, List.setIfInBounds_toArray, List.set_cons_zero, List.set_cons_succ]
      refine rg_pure (x := ?_) rfl (by rfl) (fun W hW => ?_) ?_; rotate_left
      · go_simp; with_reducible rfl
      simp only [Nat.reduceAdd, Act.put, List.setIfInBounds_toArray, List.set_cons_zero, List.set_cons_succ]
      refine rg_pure (x := ?_) rfl (by rfl) (fun W hW => ?_) ?_; rotate_left
      · go_simp; with_reducible rfl
      simp only [Nat.reduceAdd, Act.put, List.setIfInBounds_toArray, List.set_cons_zero, List.set_cons_succ]
      refine rg_done fun W2 hW hF => ?_
      have x3 := x2.trans (Ext.of_drew hW)
      clear hF hW K0
      generalize σ 5 = z5 at *
      generalize σ 7 = z7 at *
      go_wp2_with fail
      all_goals go_ret
      all_goals exact ⟨rfl, x3⟩
end Go.Proofs.Ytjhhcfadeankfaa.VMsg
