/- CrcSums: the walk. -/
import Derived.Test.YtlliemaohejpbaaVCrcRef
import Derived.Test.YtlliemaohejpbaaVCrcTab
import Derived.Test.YtlliemaohejpbaaVRef01
namespace Go.Proofs.Ytlliemaohejpbaa.VCrc
open Go.RowKit Go.VBase Go.VCrc Go.VRg

theorem refOn_to (s n : Nat) (v : Value) (l : List UInt8) (w : World) (h1 : s < 4294967296) (hv : Bys w v l) (hn : onN s l = n) :
    Calls Try.prog 15 #[.int .u32 (s : Int), v] w fun e w' => e = .returned (.int .u32 (n : Int)) ∧ w = w' := by
  subst hn; exact refOn_calls s v l w h1 hv
theorem refOf_to (n : Nat) (v : Value) (l : List UInt8) (w : World) (hv : Bys w v l) (hn : ofN l = n) :
    Calls Try.prog 14 #[v] w fun e w' => e = .returned (.int .u32 (n : Int)) ∧ w = w' := by
  subst hn; exact refOf_calls v l w hv
theorem run_index_tab (c : UInt8) (E : Nat) (hE : entryN c.toNat = E) (W : World) :
    (Instr.index 32 (.agg (tabA 256)) (.int .u8 (c.toNat : Int))).run Try.prog W = .ok (.int .u32 (E : Int)) W := by
  have h := tabA_get c.toNat_lt
  rw [hE] at h
  have h1 : (sizeOf 23).run Try.prog W = .ok 1 W := by kernel_rfl
  have hb : (0 : Int) ≤ (c.toNat : Int) ∧ (c.toNat : Int) < 256 := ⟨by omega, by have := c.toNat_lt; omega⟩
  unfold Instr.index
  simp only [asIntOf, Sem.run_bind, Sem.run_pure, Result.andThen_ok, run_underlying Try.underlying32]
  rw [if_pos (by simpa using hb)]
  have h2 : (isAgg 23).run Try.prog W = .ok false W := by kernel_rfl
  simp only [Sem.run_bind, h1, Result.andThen_ok, part, h2, Nat.mul_one, Int.toNat_natCast, h, Sem.run_pure]
  rfl

theorem sums_flat {l : List UInt8} {n : Nat} : [l.take n, [], l.drop n].flatten = l := by
  simp only [List.flatten_cons, List.flatten_nil, List.append_nil, List.nil_append]
  exact List.take_append_drop n l

set_option maxRecDepth 100000 in
set_option maxHeartbeats 2000000 in
theorem sums_small (v : Value) (l : List UInt8) (x s n F G E : Nat) (c : UInt8) (w : World) (hv : Bys w v l) (hl : l.length ≤ 5000) (hs : s < 4294967296)
    (hn : (x : Int) % ((l.length : Int) + 1) = (n : Int)) (hnl : n ≤ l.length) (hx : x < 65536) (hF : ofN l = F) (hG : onN s l = G) (hE : entryN c.toNat = E) (hE2 : onN 0 [c] = E) :
    Calls Try.prog 5 #[v, .int .u16 (x : Int), .int .u32 (s : Int), .int .u8 (c.toNat : Int)] w fun e w' => e = .returned (.bool true) ∧ Ext w w' := by
  have hv' := hv
  obtain ⟨a, cap, rfl, hle, hcap, hc⟩ := hv
  unfold maxLen at hcap
  have HF := Lib.hid hF
  have HG := Lib.hid hG
  have HE2 := Lib.hid hE2
  have hidx := run_index_tab c E hE
  clear hF hG hE hE2 hc
  go_enter Try.func5, Try.ntmps5
  go_wp2_with fail
  refine (VRef01.Twin_calls _ l _ hv' (by omega)).mono ?_
  rintro e w1 ⟨u, rfl, hou, H0⟩
  have hob := hou.bys (by unfold maxLen; omega)
  have hob' := hob
  obtain ⟨a1, cap1, rfl, hle1, hcap1, _⟩ := hob'
  have hm1 : n ≤ cap1 := by omega
  go_wp2_with fail
  refine (refOf_to F _ l _ (hv'.ext H0) HF.out).mono ?_
  rintro e w' ⟨rfl, rfl⟩
  go_wp2_with fail
  refine wp_region_rg Ext [(1, .unk (fun v w => BysL w v [l]) (fun _ _ _ e h => h.ext e)), (2, .known (.int .u32 (F : Int))), (12, .unk (fun v w => BysL w v [l.take n, [], l.drop n]) (fun _ _ _ e h => h.ext e)), (13, .known (.int .u32 (F : Int))),
    (20, .known (.int .u32 (G : Int))), (23, .known (.int .u32 (G : Int))), (27, .known (.agg (tabA 256))), (31, .unk (fun v w => Bys w v [c]) (fun _ _ _ e h => h.ext e)), (32, .known (.int .u32 (E : Int)))]
    (by kernel_rfl) (by kernel_rfl) (by kernel_rfl) Ext.refl (fun _ _ _ => Ext.trans) ?_
  · intro σ
    simp only
    repeat (refine rg_pure (x := ?_) rfl (by rfl) (fun W hW => ?_) ?_; rotate_left; (· have c0 := run_string_bys (P := Try.prog) Try.underlying22 Try.underlying5 (dst := 9) Try.underlying9 (hv'.ext (Ext.trans H0 (Ext.of_drew hW))); have c1 := run_string_bys (P := Try.prog) Try.underlying22 Try.underlying5 (dst := 9) Try.underlying9 (hob.ext (Ext.of_drew hW)); go_simp; with_reducible rfl); simp only [Nat.reduceAdd, Act.put, List.setIfInBounds_toArray, List.set_cons_zero, List.set_cons_succ])
    refine rg_unk rfl (by rfl) (fun W hW hF => ?_) ?_
    · go_simp
      exact ⟨Ext.alloc _ _, bysL_one rfl (hob.ext (Ext.of_drew hW))⟩
    simp only [Nat.reduceAdd, Act.put, List.setIfInBounds_toArray, List.set_cons_zero, List.set_cons_succ]
    repeat (refine rg_pure (x := ?_) rfl (by rfl) (fun W hW => ?_) ?_; rotate_left; (· have c0 := run_string_bys (P := Try.prog) Try.underlying22 Try.underlying5 (dst := 9) Try.underlying9 (hv'.ext (Ext.trans H0 (Ext.of_drew hW))); have c1 := run_string_bys (P := Try.prog) Try.underlying22 Try.underlying5 (dst := 9) Try.underlying9 (hob.ext (Ext.of_drew hW)); go_simp; with_reducible rfl); simp only [Nat.reduceAdd, Act.put, List.setIfInBounds_toArray, List.set_cons_zero, List.set_cons_succ])
    refine rg_known rfl (by rfl) (fun W hW hF => ?_) ?_
    · go_simp
      refine (Of_to F _ _ _ (hF 1 _ _ rfl (by kernel_rfl)) (by rw [List.flatten_singleton]; exact HF.out)).mono ?_
      rintro e W' ⟨rfl, rfl⟩
      exact ⟨_, rfl, Ext.refl _, rfl⟩
    simp only [Nat.reduceAdd, Act.put, List.setIfInBounds_toArray, List.set_cons_zero, List.set_cons_succ]
    repeat (refine rg_pure (x := ?_) rfl (by rfl) (fun W hW => ?_) ?_; rotate_left; (· have c0 := run_string_bys (P := Try.prog) Try.underlying22 Try.underlying5 (dst := 9) Try.underlying9 (hv'.ext (Ext.trans H0 (Ext.of_drew hW))); have c1 := run_string_bys (P := Try.prog) Try.underlying22 Try.underlying5 (dst := 9) Try.underlying9 (hob.ext (Ext.of_drew hW)); go_simp; with_reducible rfl); simp only [Nat.reduceAdd, Act.put, List.setIfInBounds_toArray, List.set_cons_zero, List.set_cons_succ])
    refine rg_unk rfl (by rfl) (fun W hW hF => ?_) ?_
    · go_simp
      exact ⟨Ext.alloc _ _, bysL_three rfl ((hob.ext (Ext.of_drew hW)).take hnl) (Bys.nil _) ((hob.ext (Ext.of_drew hW)).drop hnl)⟩
    simp only [Nat.reduceAdd, Act.put, List.setIfInBounds_toArray, List.set_cons_zero, List.set_cons_succ]
    repeat (refine rg_pure (x := ?_) rfl (by rfl) (fun W hW => ?_) ?_; rotate_left; (· have c0 := run_string_bys (P := Try.prog) Try.underlying22 Try.underlying5 (dst := 9) Try.underlying9 (hv'.ext (Ext.trans H0 (Ext.of_drew hW))); have c1 := run_string_bys (P := Try.prog) Try.underlying22 Try.underlying5 (dst := 9) Try.underlying9 (hob.ext (Ext.of_drew hW)); go_simp; with_reducible rfl); simp only [Nat.reduceAdd, Act.put, List.setIfInBounds_toArray, List.set_cons_zero, List.set_cons_succ])
    refine rg_known rfl (by rfl) (fun W hW hF => ?_) ?_
    · go_simp
      refine (Of_to F _ _ _ (hF 12 _ _ rfl (by kernel_rfl)) (by rw [sums_flat]; exact HF.out)).mono ?_
      rintro e W' ⟨rfl, rfl⟩
      exact ⟨_, rfl, Ext.refl _, rfl⟩
    simp only [Nat.reduceAdd, Act.put, List.setIfInBounds_toArray, List.set_cons_zero, List.set_cons_succ]
    repeat (refine rg_pure (x := ?_) rfl (by rfl) (fun W hW => ?_) ?_; rotate_left; (· have c0 := run_string_bys (P := Try.prog) Try.underlying22 Try.underlying5 (dst := 9) Try.underlying9 (hv'.ext (Ext.trans H0 (Ext.of_drew hW))); have c1 := run_string_bys (P := Try.prog) Try.underlying22 Try.underlying5 (dst := 9) Try.underlying9 (hob.ext (Ext.of_drew hW)); go_simp; with_reducible rfl); simp only [Nat.reduceAdd, Act.put, List.setIfInBounds_toArray, List.set_cons_zero, List.set_cons_succ])
    refine rg_known rfl (by rfl) (fun W hW hF => ?_) ?_
    · go_simp
      refine (On_to s G _ l _ hs (hob.ext (Ext.of_drew hW)) HG.out).mono ?_
      rintro e W' ⟨rfl, rfl⟩
      exact ⟨_, rfl, Ext.refl _, rfl⟩
    simp only [Nat.reduceAdd, Act.put, List.setIfInBounds_toArray, List.set_cons_zero, List.set_cons_succ]
    repeat (refine rg_pure (x := ?_) rfl (by rfl) (fun W hW => ?_) ?_; rotate_left; (· have c0 := run_string_bys (P := Try.prog) Try.underlying22 Try.underlying5 (dst := 9) Try.underlying9 (hv'.ext (Ext.trans H0 (Ext.of_drew hW))); have c1 := run_string_bys (P := Try.prog) Try.underlying22 Try.underlying5 (dst := 9) Try.underlying9 (hob.ext (Ext.of_drew hW)); go_simp; with_reducible rfl); simp only [Nat.reduceAdd, Act.put, List.setIfInBounds_toArray, List.set_cons_zero, List.set_cons_succ])
    refine rg_known rfl (by rfl) (fun W hW hF => ?_) ?_
    · go_simp
      refine (refOn_to s G _ l _ hs (hv'.ext (Ext.trans H0 (Ext.of_drew hW))) HG.out).mono ?_
      rintro e W' ⟨rfl, rfl⟩
      exact ⟨_, rfl, Ext.refl _, rfl⟩
    simp only [Nat.reduceAdd, Act.put, List.setIfInBounds_toArray, List.set_cons_zero, List.set_cons_succ]
    repeat (refine rg_pure (x := ?_) rfl (by rfl) (fun W hW => ?_) ?_; rotate_left; (· have c0 := run_string_bys (P := Try.prog) Try.underlying22 Try.underlying5 (dst := 9) Try.underlying9 (hv'.ext (Ext.trans H0 (Ext.of_drew hW))); have c1 := run_string_bys (P := Try.prog) Try.underlying22 Try.underlying5 (dst := 9) Try.underlying9 (hob.ext (Ext.of_drew hW)); go_simp; with_reducible rfl); simp only [Nat.reduceAdd, Act.put, List.setIfInBounds_toArray, List.set_cons_zero, List.set_cons_succ])
    refine rg_known rfl (by rfl) (fun W hW hF => ?_) ?_
    · go_simp
      refine (Table_calls _).mono ?_
      rintro e W' ⟨rfl, hT⟩
      exact ⟨_, rfl, hT, rfl⟩
    simp only [Nat.reduceAdd, Act.put, List.setIfInBounds_toArray, List.set_cons_zero, List.set_cons_succ]
    repeat (refine rg_pure (x := ?_) rfl (by rfl) (fun W hW => ?_) ?_; rotate_left; (· have c0 := run_string_bys (P := Try.prog) Try.underlying22 Try.underlying5 (dst := 9) Try.underlying9 (hv'.ext (Ext.trans H0 (Ext.of_drew hW))); have c1 := run_string_bys (P := Try.prog) Try.underlying22 Try.underlying5 (dst := 9) Try.underlying9 (hob.ext (Ext.of_drew hW)); go_simp; with_reducible rfl); simp only [Nat.reduceAdd, Act.put, List.setIfInBounds_toArray, List.set_cons_zero, List.set_cons_succ])
    refine rg_unk rfl (by rfl) (fun W hW hF => ?_) ?_
    · go_simp
      exact ⟨Ext.alloc _ _, bys_lit1 c rfl⟩
    simp only [Nat.reduceAdd, Act.put, List.setIfInBounds_toArray, List.set_cons_zero, List.set_cons_succ]
    repeat (refine rg_pure (x := ?_) rfl (by rfl) (fun W hW => ?_) ?_; rotate_left; (· have c0 := run_string_bys (P := Try.prog) Try.underlying22 Try.underlying5 (dst := 9) Try.underlying9 (hv'.ext (Ext.trans H0 (Ext.of_drew hW))); have c1 := run_string_bys (P := Try.prog) Try.underlying22 Try.underlying5 (dst := 9) Try.underlying9 (hob.ext (Ext.of_drew hW)); go_simp; with_reducible rfl); simp only [Nat.reduceAdd, Act.put, List.setIfInBounds_toArray, List.set_cons_zero, List.set_cons_succ])
    refine rg_known rfl (by rfl) (fun W hW hF => ?_) ?_
    · go_simp
      refine (refOn_to 0 E _ [c] _ (by decide) (hF 31 _ _ rfl (by kernel_rfl)) HE2.out).mono ?_
      rintro e W' ⟨rfl, rfl⟩
      exact ⟨_, rfl, Ext.refl _, rfl⟩
    simp only [Nat.reduceAdd, Act.put, List.setIfInBounds_toArray, List.set_cons_zero, List.set_cons_succ]
    repeat (refine rg_pure (x := ?_) rfl (by rfl) (fun W hW => ?_) ?_; rotate_left; (· have c0 := run_string_bys (P := Try.prog) Try.underlying22 Try.underlying5 (dst := 9) Try.underlying9 (hv'.ext (Ext.trans H0 (Ext.of_drew hW))); have c1 := run_string_bys (P := Try.prog) Try.underlying22 Try.underlying5 (dst := 9) Try.underlying9 (hob.ext (Ext.of_drew hW)); go_simp; with_reducible rfl); simp only [Nat.reduceAdd, Act.put, List.setIfInBounds_toArray, List.set_cons_zero, List.set_cons_succ])
    refine rg_done fun W hW hF => ?_
    have H2 := Ext.trans H0 (Ext.of_drew hW)
    clear hW hF hidx
    go_wp2_with fail
    all_goals
      go_ret
      exact ⟨rfl, H2⟩

set_option maxHeartbeats 400000 in
theorem sums_large (v : Value) (l : List UInt8) (x s : Nat) (c : UInt8) (w : World) (hv : Bys w v l) (hl : 5000 < l.length) :
    Calls Try.prog 5 #[v, .int .u16 (x : Int), .int .u32 (s : Int), .int .u8 (c.toNat : Int)] w fun e w' => e = .returned (.bool true) ∧ Ext w w' := by
  obtain ⟨a, cap, rfl, hle, hcap, hc⟩ := hv
  clear hc
  go_enter Try.func5, Try.ntmps5
  go_wp2_with fail
  go_ret
  exact ⟨rfl, Ext.refl _⟩

theorem sums_any (v : Value) (l : List UInt8) (x s : Nat) (c : UInt8) (w : World) (hv : Bys w v l) (hx : x < 65536) (hs : s < 4294967296) :
    Calls Try.prog 5 #[v, .int .u16 (x : Int), .int .u32 (s : Int), .int .u8 (c.toNat : Int)] w fun e w' => e = .returned (.bool true) ∧ Ext w w' := by
  rcases Nat.lt_or_ge 5000 l.length with hl | hl
  · exact sums_large v l x s c w hv hl
  have hi : x % (l.length + 1) < l.length + 1 := Nat.mod_lt _ (by omega)
  refine sums_small v l x s (x % (l.length + 1)) _ _ _ c w hv hl hs ?_ (by omega) hx rfl rfl rfl ?_
  · rw [Int.natCast_emod]; rfl
  · have hc := c.toNat_lt
    rw [onN_cons, onN_nil]
    have : byteN (0 % 16777216) c.toNat = entryN c.toNat := by
      unfold byteN
      simp
    rw [this, Nat.mod_eq_of_lt (entryN_lt _ hc)]
end Go.Proofs.Ytlliemaohejpbaa.VCrc
