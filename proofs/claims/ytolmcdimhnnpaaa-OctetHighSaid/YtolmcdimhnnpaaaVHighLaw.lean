/- OctetHigh: the walk. -/
import Derived.Test.YtolmcdimhnnpaaaVOuts
import Derived.Test.YtolmcdimhnnpaaaVAlive01
import Derived.Test.YtolmcdimhnnpaaaVHighPlain
namespace Go.Proofs.Ytolmcdimhnnpaaa.VOct
open Go.RowKit Go.VBase Go.VOct Go.VRg

theorem modm (a m : Nat) (hm : 0 < m) : ∃ A : Nat, (a : Int).tmod (m : Int) = (A : Int) ∧ A < m := ⟨a % m, by rw [Int.tmod_eq_emod_of_nonneg (by omega)]; rfl, Nat.mod_lt _ hm⟩

/-- The state between the four calls. -/
def HiS (w : World) (bx by_ bz : Nat) (p q : List UInt8) (vs : List Value) (W : World) : Prop := match vs with
  | [] => Outs w W [⟨bx, none, some []⟩, ⟨by_, none, some []⟩, ⟨bz, none, some []⟩] []
  | [_] => ∃ r, Outs w W [⟨bx, r, some p⟩, ⟨by_, none, some []⟩, ⟨bz, none, some []⟩] []
  | [_, v] => ∃ r, Outs w W [⟨bx, r, some p⟩, ⟨by_, none, some []⟩, ⟨bz, none, some []⟩] [(v, p)]
  | [_, v, _] => ∃ r s, Outs w W [⟨bx, r, some p⟩, ⟨by_, s, some q⟩, ⟨bz, none, some []⟩] [(v, p)]
  | [_, v, _, u] => ∃ r s, Outs w W [⟨bx, r, some p⟩, ⟨by_, s, some q⟩, ⟨bz, none, some []⟩] [(v, p), (u, q)]
  | _ => True
theorem hiS_ext (w : World) (bx by_ bz : Nat) (p q : List UInt8) (vs : List Value) (W W' : World) (x : Ext W W') (h : HiS w bx by_ bz p q vs W) : HiS w bx by_ bz p q vs W' := by
  unfold HiS at h ⊢
  split at h
  · exact h.later x
  · obtain ⟨r, h⟩ := h; exact ⟨r, h.later x⟩
  · obtain ⟨r, h⟩ := h; exact ⟨r, h.later x⟩
  · obtain ⟨r, s, h⟩ := h; exact ⟨r, s, h.later x⟩
  · obtain ⟨r, s, h⟩ := h; exact ⟨r, s, h.later x⟩
  · trivial

theorem put_some (w : Nat) (n : Nat) (hw : widthB w = true) (hn : n < 256 ^ w) : stPut (some []) w n = some (beB w n) := by
  unfold stPut putB
  rw [if_pos ⟨hw, by simpa using hn⟩]; simp

/-- The state between the last three calls. -/
def HiT (w : World) (bz : Nat) (p0 p : List UInt8) (vs : List Value) (W : World) : Prop := match vs with
  | [] => Outs w W [⟨bz, none, some []⟩] []
  | [_] => ∃ r, Outs w W [⟨bz, r, some p0⟩] []
  | [_, _] => ∃ r, Outs w W [⟨bz, r, some p⟩] []
  | [_, _, v] => ∃ r, Outs w W [⟨bz, r, some p⟩] [(v, p)]
  | _ => True
theorem hiT_ext (w : World) (bz : Nat) (p0 p : List UInt8) (vs : List Value) (W W' : World) (x : Ext W W') (h : HiT w bz p0 p vs W) : HiT w bz p0 p vs W' := by
  unfold HiT at h ⊢
  split at h
  · exact h.later x
  · obtain ⟨r, h⟩ := h; exact ⟨r, h.later x⟩
  · obtain ⟨r, h⟩ := h; exact ⟨r, h.later x⟩
  · obtain ⟨r, h⟩ := h; exact ⟨r, h.later x⟩
  · trivial
theorem put_half (h A : Nat) (hw : widthB h = true) (hA : A < 256 ^ (h + h)) : ∃ p0, stPut (some []) h (A / 256 ^ h) = some p0 ∧ p0.length ≤ h ∧ stPut (some p0) h (A % 256 ^ h) = some (beB (h + h) A) := by
  have hp : 0 < 256 ^ h := Nat.pow_pos (by decide)
  refine ⟨beB h (A / 256 ^ h), put_some h _ hw (by rw [Nat.div_lt_iff_lt_mul hp, ← Nat.pow_add]; exact hA), by rw [beB_len]; exact Nat.le_refl _, ?_⟩
  unfold stPut putB
  rw [if_pos ⟨hw, by simpa using Nat.mod_lt _ hp⟩]
  simp only [Option.map_some, Int.toNat_natCast]
  rw [beB_add h h A, beB_mod]

theorem strB_size (l : List UInt8) : (strB l).size = l.length := by simp [strB, ByteArray.size]

set_option maxRecDepth 100000 in
set_option maxHeartbeats 4000000 in
theorem High_any (a b x : Nat) (w : World) (ha : a < 18446744073709551616) (hb : b < 18446744073709551616) (hx : x < 256) :
    Calls Try.prog 4 #[.int .u64 (a : Int), .int .u64 (b : Int), .int .u8 (x : Int)] w fun e w' => e = .returned (.bool true) ∧ Ext w w' := by
  have ks := fun (W : World) (v : Value) (l : List UInt8) (h : Bys W v l) => run_string_bys (P := Try.prog) Try.underlying24 Try.underlying5 Try.underlying9 h
  obtain ⟨i, hi⟩ : ∃ i, x % 4 = i := ⟨_, rfl⟩
  have hi4 : i < 4 := by omega
  have hti : (x : Int).tmod 4 = (i : Int) := by rw [Int.tmod_eq_emod_of_nonneg (by omega)]; omega
  clear hi
  go_enter Try.func4, Try.ntmps4
  go_wp2_with fail
  refine (alive_calls _).mono ?_
  rintro e w1 ⟨rfl, h1⟩
  have hcase : i = 0 ∨ i = 1 ∨ i = 2 ∨ i = 3 := by omega
  rcases hcase with rfl | rfl | rfl | rfl
  all_goals go_wp2_with fail
  focus
    obtain ⟨A, hA, hAl⟩ : ∃ A : Nat, (a : Int).tmod 256 = (A : Int) ∧ A < 256 := modm a 256 (by decide)
    obtain ⟨D, hD, hDl⟩ : ∃ A : Nat, (b : Int).tmod 256 = (A : Int) ∧ A < 256 := modm b 256 (by decide)
    have q1 : IntKind.i64.wrap 8 = 8 := by decide
    have q2 : IntKind.u64.wrap 8 = 8 := by decide
    have q3 : IntKind.u64.wrap 256 = 256 := by decide
    have q4 : IntKind.u64.wrap (A : Int) = (A : Int) := by rw [IntKind.wrap_u64]; omega
    have q5 : IntKind.u64.wrap (D : Int) = (D : Int) := by rw [IntKind.wrap_u64]; omega
    refine wp_region_rg Eq [] (by kernel_rfl) (by kernel_rfl) (by kernel_rfl) (fun _ => rfl) (fun _ _ _ => Eq.trans) ?_
    intro σ
    simp only
    repeat (refine rg_pure (x := ?_) rfl (by rfl) (fun W2 hW => ?_) ?_; rotate_left; (· go_simp; with_reducible rfl); simp only [Nat.reduceAdd, Act.put, List.setIfInBounds_toArray, List.set_cons_zero, List.set_cons_succ])
    refine rg_done fun W2 hW hno => ?_
    subst hW
    clear hno
    have hp : ∀ n : Nat, n < 256 → stPut (some []) 1 n = some (beB 1 n) := fun n hn => put_some 1 n (by decide) hn
    have H0 := (h1.thenAlloc (.cells #[.int .i64 1, .int .i64 2, .int .i64 4, .int .i64 8] 3)).thenDrew
    clear hA hD q1 q2 q3 q4 q5 hti ha hb
    generalize ((w1.alloc (.cells #[.int .i64 1, .int .i64 2, .int .i64 4, .int .i64 8] 3)).drew) = W0 at *
  rotate_left
  focus
    obtain ⟨A, hA, hAl⟩ : ∃ A : Nat, (a : Int).tmod 65536 = (A : Int) ∧ A < 65536 := modm a 65536 (by decide)
    obtain ⟨D, hD, hDl⟩ : ∃ A : Nat, (b : Int).tmod 65536 = (A : Int) ∧ A < 65536 := modm b 65536 (by decide)
    have q1 : IntKind.i64.wrap 16 = 16 := by decide
    have q2 : IntKind.u64.wrap 16 = 16 := by decide
    have q3 : IntKind.u64.wrap 65536 = 65536 := by decide
    have q4 : IntKind.u64.wrap (A : Int) = (A : Int) := by rw [IntKind.wrap_u64]; omega
    have q5 : IntKind.u64.wrap (D : Int) = (D : Int) := by rw [IntKind.wrap_u64]; omega
    refine wp_region_rg Eq [] (by kernel_rfl) (by kernel_rfl) (by kernel_rfl) (fun _ => rfl) (fun _ _ _ => Eq.trans) ?_
    intro σ
    simp only
    repeat (refine rg_pure (x := ?_) rfl (by rfl) (fun W2 hW => ?_) ?_; rotate_left; (· go_simp; with_reducible rfl); simp only [Nat.reduceAdd, Act.put, List.setIfInBounds_toArray, List.set_cons_zero, List.set_cons_succ])
    refine rg_done fun W2 hW hno => ?_
    subst hW
    clear hno
    have hp : ∀ n : Nat, n < 65536 → stPut (some []) 2 n = some (beB 2 n) := fun n hn => put_some 2 n (by decide) hn
    have H0 := (h1.thenAlloc (.cells #[.int .i64 1, .int .i64 2, .int .i64 4, .int .i64 8] 3)).thenDrew
    clear hA hD q1 q2 q3 q4 q5 hti ha hb
    generalize ((w1.alloc (.cells #[.int .i64 1, .int .i64 2, .int .i64 4, .int .i64 8] 3)).drew) = W0 at *
  rotate_left
  focus
    obtain ⟨A, hA, hAl⟩ : ∃ A : Nat, (a : Int).tmod 4294967296 = (A : Int) ∧ A < 4294967296 := modm a 4294967296 (by decide)
    obtain ⟨D, hD, hDl⟩ : ∃ A : Nat, (b : Int).tmod 4294967296 = (A : Int) ∧ A < 4294967296 := modm b 4294967296 (by decide)
    have q1 : IntKind.i64.wrap 32 = 32 := by decide
    have q2 : IntKind.u64.wrap 32 = 32 := by decide
    have q3 : IntKind.u64.wrap 4294967296 = 4294967296 := by decide
    have q4 : IntKind.u64.wrap (A : Int) = (A : Int) := by rw [IntKind.wrap_u64]; omega
    have q5 : IntKind.u64.wrap (D : Int) = (D : Int) := by rw [IntKind.wrap_u64]; omega
    refine wp_region_rg Eq [] (by kernel_rfl) (by kernel_rfl) (by kernel_rfl) (fun _ => rfl) (fun _ _ _ => Eq.trans) ?_
    intro σ
    simp only
    repeat (refine rg_pure (x := ?_) rfl (by rfl) (fun W2 hW => ?_) ?_; rotate_left; (· go_simp; with_reducible rfl); simp only [Nat.reduceAdd, Act.put, List.setIfInBounds_toArray, List.set_cons_zero, List.set_cons_succ])
    refine rg_done fun W2 hW hno => ?_
    subst hW
    clear hno
    have hp : ∀ n : Nat, n < 4294967296 → stPut (some []) 4 n = some (beB 4 n) := fun n hn => put_some 4 n (by decide) hn
    have H0 := (h1.thenAlloc (.cells #[.int .i64 1, .int .i64 2, .int .i64 4, .int .i64 8] 3)).thenDrew
    clear hA hD q1 q2 q3 q4 q5 hti ha hb
    generalize ((w1.alloc (.cells #[.int .i64 1, .int .i64 2, .int .i64 4, .int .i64 8] 3)).drew) = W0 at *
  rotate_left
  focus
    obtain ⟨A, rfl⟩ : ∃ A, A = a := ⟨_, rfl⟩
    obtain ⟨D, rfl⟩ : ∃ A, A = b := ⟨_, rfl⟩
    have hAl := ha
    have hDl := hb
    have hp : ∀ n : Nat, n < 18446744073709551616 → stPut (some []) 8 n = some (beB 8 n) := fun n hn => put_some 8 n (by decide) hn
    have H0 := (h1.thenAlloc (.cells #[.int .i64 1, .int .i64 2, .int .i64 4, .int .i64 8] 3))
    have hs8 : w1.heap.size + 1 = (w1.alloc (.cells #[.int .i64 1, .int .i64 2, .int .i64 4, .int .i64 8] 3)).heap.size := by simp
    generalize ((w1.alloc (.cells #[.int .i64 1, .int .i64 2, .int .i64 4, .int .i64 8] 3))) = W0 at *
  rotate_left
  all_goals
    obtain ⟨p, hp1, hpl⟩ : ∃ p, stPut (some []) _ A = some p ∧ p = beB _ A := ⟨_, hp A hAl, rfl⟩
    obtain ⟨q, hq1, hql⟩ : ∃ q, stPut (some []) _ D = some q ∧ q = beB _ D := ⟨_, hp D hDl, rfl⟩
    have HPQ := Lib.hid (And.intro hpl hql)
    obtain ⟨wd, hwd⟩ : ∃ wd, wd = (strB p).size := ⟨_, rfl⟩
    have hwd2 := hwd
    rw [hpl, strB_size, beB_len] at hwd2
    rw [hwd2] at hwd
    clear hwd2
    replace hwd := hwd.symm
    replace hpl : p.length ≤ 8 := by rw [hpl, beB_len]; decide
    replace hql : q.length ≤ 8 := by rw [hql, beB_len]; decide
    go_wp2_with fail
    have HO := (Outs.nil H0).make.make.make
    simp only [List.nil_append, List.cons_append, World.size_alloc] at HO
    generalize ((W0.alloc (.cells #[.slice none 0 0, .bool false] TOut)).alloc (.cells #[.slice none 0 0, .bool false] TOut)).alloc (.cells #[.slice none 0 0, .bool false] TOut) = W1 at *
    obtain ⟨bx, hbx⟩ : ∃ b, W0.heap.size = b := ⟨_, rfl⟩
    obtain ⟨by_, hby⟩ : ∃ b, bx + 1 = b := ⟨_, rfl⟩
    obtain ⟨bz, hbz⟩ : ∃ b, by_ + 1 = b := ⟨_, rfl⟩
    try rw [hs8]
    rw [hbx, hby, hbz] at HO ⊢
    clear hbx hby hbz H0
    refine wp_region_chain (fun _ _ => True) Ext [(2, .known (.pointer (some ⟨bx, 0, none⟩))), (3, .unk (fun _ _ => True) (fun _ _ _ _ h => h)), (4, .known (.string (strB p))), (7, .known (.pointer (some ⟨by_, 0, none⟩))), (8, .unk (fun _ _ => True) (fun _ _ _ _ h => h)), (9, .known (.string (strB q)))] [2, 3, 7, 8]
      (HiS w bx by_ bz p q) (by kernel_rfl) (by kernel_rfl) (by kernel_rfl) (by kernel_rfl) (fun _ _ _ => trivial) (hiS_ext w bx by_ bz p q) (fun _ => trivial) (fun _ _ _ _ _ => trivial) (HO.later (Ext.drew _)) ?_
    intro σ
    simp only
    repeat (refine cg_pure (x := ?_) rfl (by rfl) (fun W2 hW => ?_) ?_; rotate_left; (· go_simp; with_reducible rfl); simp only [Nat.reduceAdd, Act.put, List.setIfInBounds_toArray, List.set_cons_zero, List.set_cons_succ])
    refine cg_call 0 rfl rfl (by decide) rfl (by rfl) (fun W2 hW hF hS => ?_) ?_
    · go_simp
      have hS' : Outs w W2 [⟨bx, none, some []⟩, ⟨by_, none, some []⟩, ⟨bz, none, some []⟩] [] := hS
      refine (Put_calls bx none (some []) _ A W2 (hS'.at_ ⟨bx, none, some []⟩ (by simp)) (by omega) (by decide)).mono ?_
      rintro e W3 hP
      rw [hp1] at hP
      obtain ⟨rfl, r, hO⟩ := Outs.turn (L := []) hS' hP
      exact ⟨_, rfl, trivial, rfl, r, hO⟩
    simp only [Nat.reduceAdd, Act.put, List.setIfInBounds_toArray, List.set_cons_zero, List.set_cons_succ]
    refine cg_call' 1 rfl rfl (by decide) rfl (by rfl) (fun W2 hW hF hS => ?_) ?_
    · go_simp
      obtain ⟨r, hS'⟩ : ∃ r, Outs w W2 [⟨bx, r, some p⟩, ⟨by_, none, some []⟩, ⟨bz, none, some []⟩] [] := hS
      refine (All_calls bx r (some p) W2 (hS'.at_ ⟨bx, r, some p⟩ (by simp)) (by simp only [stAll, Option.getD_some]; omega)).mono ?_
      rintro e W3 ⟨u, rfl, hu, hx3⟩
      exact ⟨_, rfl, trivial, r, hS'.keep hx3 hu (by simp only [stAll, Option.getD_some, maxLen]; omega)⟩
    simp only [Nat.reduceAdd, Act.put, List.setIfInBounds_toArray, List.set_cons_zero, List.set_cons_succ]
    refine cg_known rfl (by decide) (by rfl) (fun W2 hW hF hst => ?_) ?_
    · have hb : Bys W2 (σ 3) p := by
        obtain ⟨m, hm, hS⟩ := hst
        have hm1 := hm 1 3 rfl (by kernel_rfl)
        have : m = 2 ∨ m = 3 ∨ 4 ≤ m := by omega
        rcases this with rfl | rfl | h
        · obtain ⟨r, hS⟩ := hS; exact hS.bys (K := []) (J := [])
        · obtain ⟨r, s, hS⟩ := hS; exact hS.bys (K := []) (J := [])
        · rw [List.take_of_length_le (by simpa using h)] at hS
          obtain ⟨r, s, hS⟩ := hS; exact hS.bys (K := [])
      have k1 := ks W2 _ _ hb
      go_simp
      exact ⟨Ext.refl _, rfl⟩
    simp only [Nat.reduceAdd, Act.put, List.setIfInBounds_toArray, List.set_cons_zero, List.set_cons_succ]
    repeat (refine cg_pure (x := ?_) rfl (by rfl) (fun W2 hW => ?_) ?_; rotate_left; (· go_simp; with_reducible rfl); simp only [Nat.reduceAdd, Act.put, List.setIfInBounds_toArray, List.set_cons_zero, List.set_cons_succ])
    refine cg_call 2 rfl rfl (by decide) rfl (by rfl) (fun W2 hW hF hS => ?_) ?_
    · go_simp
      obtain ⟨r, hS'⟩ : ∃ r, Outs w W2 [⟨bx, r, some p⟩, ⟨by_, none, some []⟩, ⟨bz, none, some []⟩] [(σ 3, p)] := hS
      refine (Put_calls by_ none (some []) _ D W2 (hS'.at_ ⟨by_, none, some []⟩ (by simp)) (by omega) (by decide)).mono ?_
      rintro e W3 hP
      rw [hq1] at hP
      obtain ⟨rfl, s, hO⟩ := Outs.turn (L := [_]) hS' hP
      exact ⟨_, rfl, trivial, rfl, r, s, hO⟩
    simp only [Nat.reduceAdd, Act.put, List.setIfInBounds_toArray, List.set_cons_zero, List.set_cons_succ]
    refine cg_call' 3 rfl rfl (by decide) rfl (by rfl) (fun W2 hW hF hS => ?_) ?_
    · go_simp
      obtain ⟨r, s, hS'⟩ : ∃ r s, Outs w W2 [⟨bx, r, some p⟩, ⟨by_, s, some q⟩, ⟨bz, none, some []⟩] [(σ 3, p)] := hS
      refine (All_calls by_ s (some q) W2 (hS'.at_ ⟨by_, s, some q⟩ (by simp)) (by simp only [stAll, Option.getD_some]; omega)).mono ?_
      rintro e W3 ⟨u, rfl, hu, hx3⟩
      exact ⟨_, rfl, trivial, r, s, hS'.keep hx3 hu (by simp only [stAll, Option.getD_some, maxLen]; omega)⟩
    simp only [Nat.reduceAdd, Act.put, List.setIfInBounds_toArray, List.set_cons_zero, List.set_cons_succ]
    refine cg_known rfl (by decide) (by rfl) (fun W2 hW hF hst => ?_) ?_
    · have hb : Bys W2 (σ 8) q := by
        obtain ⟨m, hm, hS⟩ := hst
        have hm1 := hm 3 8 rfl (by kernel_rfl)
        rw [List.take_of_length_le (by simp; omega)] at hS
        obtain ⟨r, s, hS⟩ := hS; exact hS.bys (K := [_]) (J := [])
      have k1 := ks W2 _ _ hb
      go_simp
      exact ⟨Ext.refl _, rfl⟩
    simp only [Nat.reduceAdd, Act.put, List.setIfInBounds_toArray, List.set_cons_zero, List.set_cons_succ]
    repeat (refine cg_pure (x := ?_) rfl (by rfl) (fun W2 hW => ?_) ?_; rotate_left; (· go_simp; with_reducible rfl); simp only [Nat.reduceAdd, Act.put, List.setIfInBounds_toArray, List.set_cons_zero, List.set_cons_succ])
    refine cg_done rfl fun W2 hW hF hS => ?_
    obtain ⟨r, s, hS'⟩ : ∃ r s, Outs w W2 [⟨bx, r, some p⟩, ⟨by_, s, some q⟩, ⟨bz, none, some []⟩] [(σ 3, p), (σ 8, q)] := hS
    clear hF
  all_goals
    have hlt : Op.bytesLess (strB p).toList (strB q).toList = decide (A < D) := by rw [strB_toList, strB_toList, HPQ.out.1, HPQ.out.2]; exact beB_less _ _ _ hAl hDl
    have heq : ((strB p).toList == (strB q).toList) = ((A : Int) == (D : Int)) := by
      rw [strB_toList, strB_toList, HPQ.out.1, HPQ.out.2, Bool.eq_iff_iff]
      simp only [beq_iff_eq]
      rw [beB_eq _ _ _ hAl hDl]; omega
  · go_wp2_with fail
    go_ret
    exact ⟨rfl, hS'.ext⟩
  focus
    obtain ⟨p0, hz1, hz0, hz2⟩ : ∃ p0, stPut (some []) 1 (A / 256) = some p0 ∧ p0.length ≤ 1 ∧ stPut (some p0) 1 (A % 256) = some (beB 2 A) := put_half 1 A (by decide) hAl
    rw [← HPQ.out.1] at hz2
    obtain ⟨Hh, hHh⟩ : ∃ n, A / 256 = n := ⟨_, rfl⟩
    obtain ⟨Lh, hLh⟩ : ∃ n, A % 256 = n := ⟨_, rfl⟩
    have hHl : Hh < 18446744073709551616 := by omega
    have hLl : Lh < 18446744073709551616 := by omega
    have r1 : IntKind.i64.wrap 1 = 1 := by decide
    have r2 : (A : Int) / 256 = (Hh : Int) := by omega
    have r3 : IntKind.u64.wrap 256 = 256 := by decide
    have r4 : (A : Int).tmod 256 = (Lh : Int) := by rw [Int.tmod_eq_emod_of_nonneg (by omega)]; omega
    have r5 : IntKind.u64.wrap (Lh : Int) = (Lh : Int) := by rw [IntKind.wrap_u64]; omega
    rw [hHh] at hz1; rw [hLh] at hz2
    go_wp2_with fail
  rotate_left
  focus
    obtain ⟨p0, hz1, hz0, hz2⟩ : ∃ p0, stPut (some []) 2 (A / 65536) = some p0 ∧ p0.length ≤ 2 ∧ stPut (some p0) 2 (A % 65536) = some (beB 4 A) := put_half 2 A (by decide) hAl
    rw [← HPQ.out.1] at hz2
    obtain ⟨Hh, hHh⟩ : ∃ n, A / 65536 = n := ⟨_, rfl⟩
    obtain ⟨Lh, hLh⟩ : ∃ n, A % 65536 = n := ⟨_, rfl⟩
    have hHl : Hh < 18446744073709551616 := by omega
    have hLl : Lh < 18446744073709551616 := by omega
    have r1 : IntKind.i64.wrap 2 = 2 := by decide
    have r2 : (A : Int) / 65536 = (Hh : Int) := by omega
    have r3 : IntKind.u64.wrap 65536 = 65536 := by decide
    have r4 : (A : Int).tmod 65536 = (Lh : Int) := by rw [Int.tmod_eq_emod_of_nonneg (by omega)]; omega
    have r5 : IntKind.u64.wrap (Lh : Int) = (Lh : Int) := by rw [IntKind.wrap_u64]; omega
    rw [hHh] at hz1; rw [hLh] at hz2
    go_wp2_with fail
  rotate_left
  focus
    obtain ⟨p0, hz1, hz0, hz2⟩ : ∃ p0, stPut (some []) 4 (A / 4294967296) = some p0 ∧ p0.length ≤ 4 ∧ stPut (some p0) 4 (A % 4294967296) = some (beB 8 A) := put_half 4 A (by decide) hAl
    rw [← HPQ.out.1] at hz2
    obtain ⟨Hh, hHh⟩ : ∃ n, A / 4294967296 = n := ⟨_, rfl⟩
    obtain ⟨Lh, hLh⟩ : ∃ n, A % 4294967296 = n := ⟨_, rfl⟩
    have hHl : Hh < 18446744073709551616 := by omega
    have hLl : Lh < 18446744073709551616 := by omega
    have r1 : IntKind.i64.wrap 4 = 4 := by decide
    have r2 : (A : Int) / 4294967296 = (Hh : Int) := by omega
    have r3 : IntKind.u64.wrap 4294967296 = 4294967296 := by decide
    have r4 : (A : Int).tmod 4294967296 = (Lh : Int) := by rw [Int.tmod_eq_emod_of_nonneg (by omega)]; omega
    have r5 : IntKind.u64.wrap (Lh : Int) = (Lh : Int) := by rw [IntKind.wrap_u64]; omega
    rw [hHh] at hz1; rw [hLh] at hz2
    go_wp2_with fail
  rotate_left
  all_goals
    refine wp_region_chain (fun _ _ => True) Ext [(7, .known (.pointer (some ⟨bz, 0, none⟩))), (14, .known (.pointer (some ⟨bz, 0, none⟩))), (15, .unk (fun _ _ => True) (fun _ _ _ _ h => h)), (16, .known (.string (strB p)))] [7, 14, 15]
      (HiT w bz p0 p) (by kernel_rfl) (by kernel_rfl) (by kernel_rfl) (by kernel_rfl) (fun _ _ _ => trivial) (hiT_ext w bz p0 p) (fun _ => trivial) (fun _ _ _ _ _ => trivial) (hS'.drop1.drop1.later (Ext.drew _)) ?_
    intro σ
    simp only
    repeat (refine cg_pure (x := ?_) rfl (by rfl) (fun W2 hW => ?_) ?_; rotate_left; (· go_simp; with_reducible rfl); simp only [Nat.reduceAdd, Act.put, List.setIfInBounds_toArray, List.set_cons_zero, List.set_cons_succ])
    refine cg_call 0 rfl rfl (by decide) rfl (by rfl) (fun W2 hW hF hS => ?_) ?_
    · go_simp
      have hS' : Outs w W2 [⟨bz, none, some []⟩] [] := hS
      refine (Put_calls bz none (some []) _ Hh W2 (hS'.at_ ⟨bz, none, some []⟩ (by simp)) (by omega) (by decide)).mono ?_
      rintro e W3 hP
      rw [hz1] at hP
      obtain ⟨rfl, r, hO⟩ := Outs.turn (L := []) hS' hP
      exact ⟨_, rfl, trivial, rfl, r, hO⟩
    simp only [Nat.reduceAdd, Act.put, List.setIfInBounds_toArray, List.set_cons_zero, List.set_cons_succ]
    repeat (refine cg_pure (x := ?_) rfl (by rfl) (fun W2 hW => ?_) ?_; rotate_left; (· go_simp; with_reducible rfl); simp only [Nat.reduceAdd, Act.put, List.setIfInBounds_toArray, List.set_cons_zero, List.set_cons_succ])
    refine cg_call 1 rfl rfl (by decide) rfl (by rfl) (fun W2 hW hF hS => ?_) ?_
    · go_simp
      obtain ⟨r, hS'⟩ : ∃ r, Outs w W2 [⟨bz, r, some p0⟩] [] := hS
      refine (Put_calls bz r (some p0) _ Lh W2 (hS'.at_ ⟨bz, r, some p0⟩ (by simp)) (by omega) (by simp only [stAll, Option.getD_some]; omega)).mono ?_
      rintro e W3 hP
      rw [hz2] at hP
      obtain ⟨rfl, r, hO⟩ := Outs.turn (L := []) hS' hP
      exact ⟨_, rfl, trivial, rfl, r, hO⟩
    simp only [Nat.reduceAdd, Act.put, List.setIfInBounds_toArray, List.set_cons_zero, List.set_cons_succ]
    refine cg_call' 2 rfl rfl (by decide) rfl (by rfl) (fun W2 hW hF hS => ?_) ?_
    · go_simp
      obtain ⟨r, hS'⟩ : ∃ r, Outs w W2 [⟨bz, r, some p⟩] [] := hS
      refine (All_calls bz r (some p) W2 (hS'.at_ ⟨bz, r, some p⟩ (by simp)) (by simp only [stAll, Option.getD_some]; omega)).mono ?_
      rintro e W3 ⟨u, rfl, hu, hx3⟩
      exact ⟨_, rfl, trivial, r, hS'.keep hx3 hu (by simp only [stAll, Option.getD_some, maxLen]; omega)⟩
    simp only [Nat.reduceAdd, Act.put, List.setIfInBounds_toArray, List.set_cons_zero, List.set_cons_succ]
    refine cg_known rfl (by decide) (by rfl) (fun W2 hW hF hst => ?_) ?_
    · have hb : Bys W2 (σ 15) p := by
        obtain ⟨m, hm, hS⟩ := hst
        have hm1 := hm 2 15 rfl (by kernel_rfl)
        rw [List.take_of_length_le (by simp; omega)] at hS
        obtain ⟨r, hS⟩ := hS; exact hS.bys (K := []) (J := [])
      have k1 := ks W2 _ _ hb
      go_simp
      exact ⟨Ext.refl _, rfl⟩
    simp only [Nat.reduceAdd, Act.put, List.setIfInBounds_toArray, List.set_cons_zero, List.set_cons_succ]
    repeat (refine cg_pure (x := ?_) rfl (by rfl) (fun W2 hW => ?_) ?_; rotate_left; (· go_simp; with_reducible rfl); simp only [Nat.reduceAdd, Act.put, List.setIfInBounds_toArray, List.set_cons_zero, List.set_cons_succ])
    refine cg_done rfl fun W2 hW hF hS => ?_
    obtain ⟨r, hS'⟩ : ∃ r, Outs w W2 [⟨bz, r, some p⟩] [(σ 15, p)] := hS
    clear hF
    go_wp2_with fail
    go_ret
    exact ⟨rfl, hS'.ext⟩
end Go.Proofs.Ytolmcdimhnnpaaa.VOct
