/- CrcParts: the walk. -/
import Derived.Test.YtlliemaohejpbaaVCrcAlive
namespace Go.Proofs.Ytlliemaohejpbaa.VCrc
open Go.RowKit Go.VBase Go.VCrc Go.VRg

theorem parts_flat {l : List UInt8} {i j : Nat} (hij : i ≤ j) (hj : j ≤ l.length) : [l.take i, (l.drop i).take (j - i), l.drop j].flatten = l := by
  have h : l.drop j = (l.drop i).drop (j - i) := by rw [List.drop_drop]; congr 1; omega
  simp only [List.flatten_cons, List.flatten_nil, List.append_nil]
  rw [h, List.take_append_drop, List.take_append_drop]

theorem parts_on1 {l : List UInt8} {i j : Nat} (hij : i ≤ j) : onN (ofN (l.take i)) ((l.drop i).take (j - i)) = ofN (l.take j) := by
  unfold ofN
  rw [← onN_append]
  congr 1
  rw [show j = i + (j - i) from by omega, List.take_add]
  congr 2; omega
theorem parts_on2 {l : List UInt8} {j : Nat} : onN (ofN (l.take j)) (l.drop j) = ofN l := by
  unfold ofN
  rw [← onN_append, List.take_append_drop]

set_option maxHeartbeats 1000000 in
theorem parts_small (v : Value) (l : List UInt8) (x y i d j : Nat) (w : World) (hv : Bys w v l) (hx : x < 65536) (hy : y < 65536) (hl : l.length ≤ 2000)
   (hi : (x : Int) % ((l.length : Int) + 1) = (i : Int)) (hil : i ≤ l.length) (hd : (y : Int) % ((l.length : Int) - (i : Int) + 1) = (d : Int)) (hj : (i : Int) + (d : Int) = (j : Int)) (hdl : j ≤ l.length) :
    Calls Try.prog 4 #[v, .int .u16 (x : Int), .int .u16 (y : Int)] w fun e w' => e = .returned (.bool true) ∧ Ext w w' := by
  have hv0 := hv
  obtain ⟨a, cap, rfl, hle, hcap, hc⟩ := hv
  unfold maxLen at hcap
  clear hc
  have hic : i ≤ cap := by omega
  have hjc : j ≤ cap := by omega
  have hij : i ≤ j := by omega
  go_enter Try.func4, Try.ntmps4
  go_wp2_with fail
  refine (alive_calls _).mono ?_
  rintro e w1 ⟨rfl, h1⟩
  go_wp2_with fail
  refine (Of_calls _ [l] _ ?hb).mono ?_
  case hb => exact bysL_one (by simp) (hv0.ext h1)
  rintro e w' ⟨rfl, rfl⟩
  rw [show [l].flatten = l from by simp]
  have H1 := h1.thenAlloc (.cells #[Value.slice a l.length cap] 22)
  have H2 := hv0.ext H1
  generalize (w1.alloc (.cells #[Value.slice a l.length cap] 22)) = w2 at *
  clear h1
  go_wp2_with fail
  refine wp_region_rg Ext [(12, .unk (fun v w => BysL w v [l.take i, (l.drop i).take (j - i), l.drop j]) (fun _ _ _ e h => h.ext e)), (13, .known (.int .u32 (ofN l : Nat))), (21, .unk (fun v w => BysL w v [l.take i]) (fun _ _ _ e h => h.ext e)),
    (22, .known (.int .u32 (ofN (l.take i) : Nat))), (27, .known (.int .u32 (ofN (l.take j) : Nat))), (31, .known (.int .u32 (ofN l : Nat)))] (by kernel_rfl) (by kernel_rfl) Ext.refl (fun _ _ _ => Ext.trans) ?_
  · intro σ
    simp only
    repeat (refine rg_pure (x := ?_) rfl (by rfl) (fun W hW => ?_) ?_; rotate_left; (· go_simp; with_reducible rfl); simp only [Nat.reduceAdd, Act.put, List.setIfInBounds_toArray, List.set_cons_zero, List.set_cons_succ])
    refine rg_unk rfl (by rfl) (fun W hW hF => ?_) ?_
    · go_simp
      exact ⟨Ext.alloc _ _, bysL_three rfl ((H2.ext (Ext.of_drew hW)).take hil) ((H2.ext (Ext.of_drew hW)).cut hij hdl rfl) ((H2.ext (Ext.of_drew hW)).drop hdl)⟩
    simp only [Nat.reduceAdd, Act.put, List.setIfInBounds_toArray, List.set_cons_zero, List.set_cons_succ]
    repeat (refine rg_pure (x := ?_) rfl (by rfl) (fun W hW => ?_) ?_; rotate_left; (· go_simp; with_reducible rfl); simp only [Nat.reduceAdd, Act.put, List.setIfInBounds_toArray, List.set_cons_zero, List.set_cons_succ])
    refine rg_known rfl (by rfl) (fun W hW hF => ?_) ?_
    · go_simp
      refine (Of_calls _ _ _ (hF 12 _ _ rfl (by kernel_rfl))).mono ?_
      rintro e W' ⟨rfl, rfl⟩
      exact ⟨_, rfl, Ext.refl _, by rw [parts_flat hij hdl]⟩
    simp only [Nat.reduceAdd, Act.put, List.setIfInBounds_toArray, List.set_cons_zero, List.set_cons_succ]
    repeat (refine rg_pure (x := ?_) rfl (by rfl) (fun W hW => ?_) ?_; rotate_left; (· go_simp; with_reducible rfl); simp only [Nat.reduceAdd, Act.put, List.setIfInBounds_toArray, List.set_cons_zero, List.set_cons_succ])
    refine rg_unk rfl (by rfl) (fun W hW hF => ?_) ?_
    · go_simp
      exact ⟨Ext.alloc _ _, bysL_one rfl ((H2.ext (Ext.of_drew hW)).take hil)⟩
    simp only [Nat.reduceAdd, Act.put, List.setIfInBounds_toArray, List.set_cons_zero, List.set_cons_succ]
    repeat (refine rg_pure (x := ?_) rfl (by rfl) (fun W hW => ?_) ?_; rotate_left; (· go_simp; with_reducible rfl); simp only [Nat.reduceAdd, Act.put, List.setIfInBounds_toArray, List.set_cons_zero, List.set_cons_succ])
    refine rg_known rfl (by rfl) (fun W hW hF => ?_) ?_
    · go_simp
      refine (Of_calls _ _ _ (hF 21 _ _ rfl (by kernel_rfl))).mono ?_
      rintro e W' ⟨rfl, rfl⟩
      exact ⟨_, rfl, Ext.refl _, by rw [List.flatten_singleton]⟩
    simp only [Nat.reduceAdd, Act.put, List.setIfInBounds_toArray, List.set_cons_zero, List.set_cons_succ]
    repeat (refine rg_pure (x := ?_) rfl (by rfl) (fun W hW => ?_) ?_; rotate_left; (· go_simp; with_reducible rfl); simp only [Nat.reduceAdd, Act.put, List.setIfInBounds_toArray, List.set_cons_zero, List.set_cons_succ])
    refine rg_known rfl (by rfl) (fun W hW hF => ?_) ?_
    · go_simp
      refine (On_calls _ _ _ _ (Nat.lt_trans (ofN_lt _) (by decide)) ((H2.ext (Ext.of_drew hW)).cut hij hdl rfl)).mono ?_
      rintro e W' ⟨rfl, rfl⟩
      exact ⟨_, rfl, Ext.refl _, by rw [parts_on1 hij]⟩
    simp only [Nat.reduceAdd, Act.put, List.setIfInBounds_toArray, List.set_cons_zero, List.set_cons_succ]
    repeat (refine rg_pure (x := ?_) rfl (by rfl) (fun W hW => ?_) ?_; rotate_left; (· go_simp; with_reducible rfl); simp only [Nat.reduceAdd, Act.put, List.setIfInBounds_toArray, List.set_cons_zero, List.set_cons_succ])
    refine rg_known rfl (by rfl) (fun W hW hF => ?_) ?_
    · go_simp
      refine (On_calls _ _ _ _ (Nat.lt_trans (ofN_lt _) (by decide)) ((H2.ext (Ext.of_drew hW)).drop hdl)).mono ?_
      rintro e W' ⟨rfl, rfl⟩
      exact ⟨_, rfl, Ext.refl _, by rw [parts_on2]⟩
    simp only [Nat.reduceAdd, Act.put, List.setIfInBounds_toArray, List.set_cons_zero, List.set_cons_succ]
    repeat (refine rg_pure (x := ?_) rfl (by rfl) (fun W hW => ?_) ?_; rotate_left; (· go_simp; with_reducible rfl); simp only [Nat.reduceAdd, Act.put, List.setIfInBounds_toArray, List.set_cons_zero, List.set_cons_succ])
    refine rg_done fun W hW hF => ?_
    go_wp2_with fail
    all_goals
      go_ret
      exact ⟨rfl, H1.trans ((Ext.drew _).trans hW)⟩
set_option maxHeartbeats 400000 in
theorem parts_large (v : Value) (l : List UInt8) (x y : Nat) (w : World) (hv : Bys w v l) (hl : 2000 < l.length) :
    Calls Try.prog 4 #[v, .int .u16 (x : Int), .int .u16 (y : Int)] w fun e w' => e = .returned (.bool true) ∧ Ext w w' := by
  obtain ⟨a, cap, rfl, hle, hcap, hc⟩ := hv
  clear hc
  go_enter Try.func4, Try.ntmps4
  go_wp2_with fail
  refine (alive_calls _).mono ?_
  rintro e w1 ⟨rfl, h1⟩
  go_wp2_with fail
  go_ret
  exact ⟨rfl, h1⟩

theorem parts_any (v : Value) (l : List UInt8) (x y : Nat) (w : World) (hv : Bys w v l) (hx : x < 65536) (hy : y < 65536) :
    Calls Try.prog 4 #[v, .int .u16 (x : Int), .int .u16 (y : Int)] w fun e w' => e = .returned (.bool true) ∧ Ext w w' := by
  rcases Nat.lt_or_ge 2000 l.length with hl | hl
  · exact parts_large v l x y w hv hl
  · have hi : x % (l.length + 1) < l.length + 1 := Nat.mod_lt _ (by omega)
    have hd : y % (l.length - x % (l.length + 1) + 1) < l.length - x % (l.length + 1) + 1 := Nat.mod_lt _ (by omega)
    refine parts_small v l x y (x % (l.length + 1)) (y % (l.length - x % (l.length + 1) + 1)) (x % (l.length + 1) + y % (l.length - x % (l.length + 1) + 1)) w hv hx hy hl ?_ (by omega) ?_ (by omega) (by omega)
    · rw [Int.natCast_emod]; rfl
    · generalize x % (l.length + 1) = i at *
      have e : ((l.length - i + 1 : Nat) : Int) = (l.length : Int) - (i : Int) + 1 := by omega
      rw [Int.natCast_emod y, e]
end Go.Proofs.Ytlliemaohejpbaa.VCrc
