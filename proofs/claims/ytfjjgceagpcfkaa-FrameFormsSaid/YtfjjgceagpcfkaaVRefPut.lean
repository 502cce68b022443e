/- The reference's Width, power, Put and Number. -/
import Derived.Test.YtfjjgceagpcfkaaVOct
import Derived.Test.YtfjjgceagpcfkaaVGet
import Derived.Test.YtfjjgceagpcfkaaVSet
import Derived.OwnWalk
namespace Go.Proofs.Ytfjjgceagpcfkaa.VRefOct
open Go.RowKit Go.VBase Go.VOct Go.VRg VOct

set_option maxHeartbeats 1000000 in
theorem refWidth_calls (n : Int) (w : World) : Calls Try.prog 72 #[.int .i64 n] w fun e w' => e = .returned (.bool (widthB n)) ∧ w = w' := by
  have hw : widthB n = (n == 1 || n == 2 || n == 4 || n == 8) := rfl
  rw [hw]
  cases h1 : (n == 1) with
  | true =>
    go_enter Try.func72, Try.ntmps72
    go_wp2_with fail
    go_ret
    exact ⟨rfl, rfl⟩
  | false =>
  cases h2 : (n == 2) with
  | true =>
    go_enter Try.func72, Try.ntmps72
    go_wp2_with fail
    go_ret
    exact ⟨rfl, rfl⟩
  | false =>
  cases h3 : (n == 4) with
  | true =>
    go_enter Try.func72, Try.ntmps72
    go_wp2_with fail
    go_ret
    exact ⟨rfl, rfl⟩
  | false =>
  cases h4 : (n == 8) with
  | true =>
    go_enter Try.func72, Try.ntmps72
    go_wp2_with fail
    go_ret
    exact ⟨rfl, rfl⟩
  | false =>
    go_enter Try.func72, Try.ntmps72
    go_wp2_with fail
    go_ret
    exact ⟨rfl, rfl⟩

set_option maxHeartbeats 1000000 in
theorem power_calls (k : Nat) (hk : k < 8) (w : World) : Calls Try.prog 73 #[.int .i64 (k : Int)] w fun e w' => e = .returned (.int .u64 ((256 ^ k : Nat) : Int)) ∧ w = w' := by
  obtain ⟨q, hq⟩ : ∃ q, 256 ^ k = q := ⟨_, rfl⟩
  rw [hq]
  have HQ := Lib.hid hq
  clear hq
  go_enter Try.func73, Try.ntmps73
  go_wp2_with fail
  go_loop [3, 4] (fun p i => ∃ (j z : Nat), j ≤ k ∧ i = .int .i64 (j : Int) ∧ p = .int .u64 (z : Int) ∧ z = 256 ^ j) (fun _ i => k - (intOf i).toNat)
  case atStart => exact ⟨0, 1, Nat.zero_le _, rfl, rfl, rfl⟩
  case round =>
    obtain ⟨j, z, hj, rfl, rfl, hz⟩ := hrel
    by_cases hlt : j < k
    · have hd : decide ((j : Int) < (k : Int)) = true := decide_eq_true (by omega)
      have hzl : z ≤ 281474976710656 := by
        rw [hz]
        exact Nat.le_trans (Nat.pow_le_pow_right (by decide) (show j ≤ 6 by omega)) (by decide)
      have HZ := Lib.hid hz
      clear hz
      go_wp2_with fail
      go_round
      · exact ⟨j + 1, z * 256, by omega, by go_num, by go_num, by rw [HZ.out, Nat.pow_succ]⟩
      · simp [intOf]; omega
    · have hjk : j = k := by omega
      have hd : decide ((j : Int) < (k : Int)) = false := decide_eq_false (by omega)
      subst hjk
      have e : z = q := by rw [hz, HQ.out]
      subst e
      clear hz
      go_wp2_with fail
      go_ret
      exact ⟨rfl, rfl⟩

set_option maxHeartbeats 1000000 in
theorem refNumber_calls (v : Value) (l : List UInt8) (w : World) (hv : Bys w v l) (hl : l.length ≤ 8) : Calls Try.prog 69 #[v] w fun e w' => e = .returned (.int .u64 (numB l : Int)) ∧ w = w' := by
  obtain ⟨a, cap, rfl, h1, h2, h3⟩ := hv
  go_enter Try.func69, Try.ntmps69
  go_wp2_with fail
  go_loop [3, 4] (fun p i => ∃ (j z : Nat), j ≤ l.length ∧ i = .int .i64 (j : Int) ∧ p = .int .u64 (z : Int) ∧ z = numB (l.take j)) (fun _ i => l.length - (intOf i).toNat)
  case atStart => exact ⟨0, 0, Nat.zero_le _, rfl, rfl, by simp [numB]⟩
  case round =>
    obtain ⟨j, z, hj, rfl, rfl, hz⟩ := hrel
    by_cases hlt : j < l.length
    · have hd : decide ((j : Int) < (l.length : Int)) = true := decide_eq_true (by omega)
      obtain ⟨c, hc⟩ := get_some hlt
      obtain ⟨b, off, rfl, h4⟩ := h3 (by intro h; subst h; simp at hlt)
      have hcell := h4 j c hc
      have hzl : z < 256 ^ 7 := by
        rw [hz]
        refine Nat.lt_of_lt_of_le (numB_lt _) (Nat.pow_le_pow_right (by decide) ?_)
        rw [List.length_take]; omega
      have hzl2 : z < 72057594037927936 := by simpa using hzl
      have hcl := c.toNat_lt
      have hs : numB (l.take (j + 1)) = 256 * z + c.toNat := by rw [take_snoc hc, numB_snoc, hz]
      have HZ := Lib.hid hs
      clear hz h4 h3 hs hzl
      generalize c.toNat = cn at *
      go_wp2_with fail
      go_round
      · exact ⟨j + 1, 256 * z + cn, by omega, by go_num, by go_num, by rw [HZ.out]⟩
      · simp [intOf]; omega
    · have hjk : j = l.length := by omega
      have hd : decide ((j : Int) < (l.length : Int)) = false := decide_eq_false (by omega)
      rw [hjk, List.take_length] at hz
      clear h3
      subst hz
      go_wp2_with fail
      go_ret
      exact ⟨rfl, rfl⟩

/-- What Put answers. -/
def RPutPost (x : Option (List UInt8)) (w : World) (e : Ending) (w' : World) : Prop :=
  ∃ u, e = .returned (.tuple #[u, .bool x.isSome]) ∧ OwnB w' w.heap.size TB u (x.getD []) ∧ Ext w w'

theorem beB_cons (n : Nat) : ∀ j, beB (j + 1) n = UInt8.ofNat (n / 256 ^ j % 256) :: beB j n := by
  intro j
  induction j generalizing n with
  | zero => simp [beB]
  | succ j ih =>
    rw [beB, ih (n / 256), show beB (j + 1) n = beB j (n / 256) ++ [UInt8.ofNat (n % 256)] from rfl, Nat.div_div_eq_div_mul]
    rw [show 256 * 256 ^ j = 256 ^ (j + 1) by rw [Nat.pow_succ, Nat.mul_comm]]
    rfl

set_option maxRecDepth 100000 in
set_option maxHeartbeats 4000000 in
theorem refPut_calls (width : Int) (n : Nat) (hn : n < 18446744073709551616) (w : World) : Calls Try.prog 64 #[.int .i64 width, .int .u64 (n : Int)] w (RPutPost (putB width n) w) := by
  have hW := fun w => refWidth_calls width w
  obtain ⟨IB, hI0, hI1, hI2, hI3⟩ : ∃ i, Try.prog.info? 5 = some i ∧ i.zero = some (.int .u8 0) ∧ i.size = 1 ∧ i.bytes = 1 := info_parts (by kernel_rfl)
  cases hw : widthB width with
  | false =>
    rw [hw] at hW
    have hp : putB width n = none := by unfold putB; rw [hw]; simp
    rw [hp]
    go_enter Try.func64, Try.ntmps64
    go_wp2_with fail
    refine (hW _).mono ?_
    rintro e w1 ⟨rfl, rfl⟩
    go_wp2_with fail
    refine bodyPost_ret (results_tmp2 rfl _ _ _) rfl ?_
    exact ⟨_, rfl, OwnB.nil _ _ _, Ext.refl _⟩
  | true =>
    rw [hw] at hW
    have hcase : width = 1 ∨ width = 2 ∨ width = 4 ∨ width = 8 := by
      unfold widthB at hw
      simp at hw
      omega
    have hP := fun k hk w => power_calls k hk w
    rcases hcase with rfl | rfl | rfl | rfl
    · have hP1 := hP 1 (by decide)
      rw [show ((256 ^ 1 : Nat) : Int) = 256 by decide] at hP1
      clear hP
      by_cases hs : 256 ≤ n
      · have hp : putB 1 n = none := by unfold putB; rw [if_neg (fun h => by have := h.2; simp at this; omega)]
        rw [hp]
        have hd : decide ((256 : Int) ≤ (n : Int)) = true := decide_eq_true (by omega)
        clear hs
        go_enter Try.func64, Try.ntmps64
        go_wp2_with fail
        refine (hW _).mono ?_
        rintro e w1 ⟨rfl, rfl⟩
        go_wp2_with fail
        refine (hP1 _).mono ?_
        rintro e w1 ⟨rfl, rfl⟩
        go_wp2_with fail
        refine bodyPost_ret (results_tmp2 rfl _ _ _) rfl ?_
        exact ⟨_, rfl, OwnB.nil _ _ _, Ext.refl _⟩
      · have hp : putB 1 n = some (beB 1 n) := by unfold putB; rw [if_pos ⟨rfl, by simp; omega⟩]; rfl
        rw [hp]
        have hd0 : decide ((256 : Int) ≤ (n : Int)) = false := decide_eq_false (by omega)
        clear hs hp
        go_enter Try.func64, Try.ntmps64
        go_wp2_with fail
        refine (hW _).mono ?_
        rintro e w1 ⟨rfl, rfl⟩
        go_wp2_with fail
        refine (hP1 _).mono ?_
        rintro e w1 ⟨rfl, rfl⟩
        clear hP1 hW
        go_wp2_with (at_make; refine wpList_make_full _ rfl _ _ _ rfl w.heap.size 5 IB (.int .u8 0) 1 Try.underlying26 hI0 hI1 hI2 .i64 .i64 _ _ 1 rfl rfl (by rfl) (by rfl) (by omega) (by unfold maxLen; omega) (Nat.le_refl _) ?hk)
        case hk =>
        intro w1 hown hg
        replace hown := ownB_zeros hown
        have hx1 : Ext w w1 := grown_below hg (Nat.le_refl _) (fun _ h => by cases h)
        go_wp2_with fail
        go_loopw [8, 1] (fun i nn wr => ∃ (j : Nat), j ≤ 1 ∧ i = .int .i64 ((1 : Int) - 1 - (j : Int)) ∧ nn = .int .u64 ((n / 256 ^ j : Nat) : Int) ∧ OwnB wr w.heap.size TB (.slice (some ⟨w.heap.size, 0, none⟩) 1 1) (List.replicate (1 - j) 0 ++ beB j n) ∧ Ext w wr) (fun i _ _ => (intOf i + 1).toNat)
        case atStart => exact ⟨0, by omega, by rfl, by simp, by simpa [beB] using hown, hx1⟩
        case round =>
          clear hown hx1 hg
          obtain ⟨j, hj, rfl, rfl, hO, hX⟩ := hrel
          by_cases hlt : j < 1
          · have hd : decide ((0 : Int) ≤ (1 : Int) - 1 - (j : Int)) = true := decide_eq_true (by omega)
            obtain ⟨idx, hidx⟩ : ∃ z, 1 - 1 - j = z := ⟨_, rfl⟩
            have hii : (1 : Int) - 1 - (j : Int) = (idx : Int) := by omega
            rw [hii] at hd ⊢
            have hil : (idx : Int) < 1 := by omega
            have hlen : (List.replicate (1 - j) (0 : UInt8) ++ beB j n).length = 1 := by rw [List.length_append, List.length_replicate, beB_len]; omega
            have hset : (List.replicate (1 - j) (0 : UInt8) ++ beB j n).set idx (UInt8.ofNat (n / 256 ^ j % 256)) = List.replicate (1 - (j + 1)) 0 ++ beB (j + 1) n := by
              rw [beB_cons, show 1 - j = (1 - (j + 1)) + 1 by omega, List.replicate_succ', List.append_assoc, List.set_append_right _ _ (by rw [List.length_replicate]; omega), List.length_replicate, show idx - (1 - (j + 1)) = 0 by omega]
              rfl
            have hS := hO.set idx (by rw [hlen]; omega) (UInt8.ofNat (n / 256 ^ j % 256))
            rw [hset] at hS
            obtain ⟨g0, cap0, hv0, -, -, -, hcells⟩ := hO.row (by intro e; rw [e] at hlen; simp at hlen)
            simp only [Value.slice.injEq, Option.some.injEq, Addr.mk.injEq] at hv0
            obtain ⟨⟨rfl, -⟩, -, rfl⟩ := hv0
            obtain ⟨c0, hc0⟩ := get_some (l := List.replicate (1 - j) (0 : UInt8) ++ beB j n) (k := idx) (by rw [hlen]; omega)
            obtain ⟨hce, hfr⟩ := hcells idx c0 hc0
            have hnn : n / 256 ^ j / 256 = n / 256 ^ (j + 1) := by rw [Nat.div_div_eq_div_mul, Nat.pow_succ]
            have hcv : ((UInt8.ofNat (n / 256 ^ j % 256)).toNat : Int) = ((n / 256 ^ j % 256 : Nat) : Int) := by simp
            rw [hcv] at hS
            have hnb : n / 256 ^ j < 18446744073709551616 := Nat.lt_of_le_of_lt (Nat.div_le_self _ _) hn
            generalize n / 256 ^ j = q at *
            have hm1 : (q : Int).tmod 256 = ((q % 256 : Nat) : Int) := by rw [Int.tmod_eq_emod_of_nonneg (by omega)]; rfl
            have hm2 : (q : Int).tdiv 256 = ((q / 256 : Nat) : Int) := by rw [Int.tdiv_eq_ediv_of_nonneg (by omega)]; rfl
            obtain ⟨q1, hq1⟩ : ∃ z, q % 256 = z := ⟨_, rfl⟩
            obtain ⟨q2, hq2⟩ : ∃ z, q / 256 = z := ⟨_, rfl⟩
            have b1 : q1 < 256 := by omega
            have b2 : q2 < 18446744073709551616 := by omega
            rw [hq1] at hm1 hS
            rw [hq2] at hm2 hnn
            have hX' : Ext w (wr.setCell ⟨w.heap.size, idx, none⟩ (.int .u8 (q1 : Int))) := Below.setCell hX (Nat.le_refl _) _
            have HS := Lib.hid (And.intro hS (And.intro hX' hnn))
            have HID := Lib.hid hidx
            clear hii hidx
            clear hS hX' hnn hset hcells hc0 hcv hq1 hq2 hO hlen
            go_wp2_with fail
            go_round
            · exact ⟨j + 1, by omega, by have h9 := HID.out; congr 1; omega, by rw [HS.out.2.2], HS.out.1, HS.out.2.1⟩
            · first | (simp [intOf]; done) | (simp [intOf]; omega)
          · have hjk : j = 1 := by omega
            have hd : decide ((0 : Int) ≤ (1 : Int) - 1 - (j : Int)) = false := decide_eq_false (by omega)
            rw [hjk] at hO
            simp only [Nat.sub_self, List.replicate_zero, List.nil_append] at hO
            have HO := Lib.hid hO
            clear hO
            go_wp2_with fail
            refine bodyPost_ret (results_tmp2 rfl _ _ _) rfl ?_
            exact ⟨_, rfl, HO.out, hX⟩
    · have hP1 := hP 2 (by decide)
      rw [show ((256 ^ 2 : Nat) : Int) = 65536 by decide] at hP1
      clear hP
      by_cases hs : 65536 ≤ n
      · have hp : putB 2 n = none := by unfold putB; rw [if_neg (fun h => by have := h.2; simp at this; omega)]
        rw [hp]
        have hd : decide ((65536 : Int) ≤ (n : Int)) = true := decide_eq_true (by omega)
        clear hs
        go_enter Try.func64, Try.ntmps64
        go_wp2_with fail
        refine (hW _).mono ?_
        rintro e w1 ⟨rfl, rfl⟩
        go_wp2_with fail
        refine (hP1 _).mono ?_
        rintro e w1 ⟨rfl, rfl⟩
        go_wp2_with fail
        refine bodyPost_ret (results_tmp2 rfl _ _ _) rfl ?_
        exact ⟨_, rfl, OwnB.nil _ _ _, Ext.refl _⟩
      · have hp : putB 2 n = some (beB 2 n) := by unfold putB; rw [if_pos ⟨rfl, by simp; omega⟩]; rfl
        rw [hp]
        have hd0 : decide ((65536 : Int) ≤ (n : Int)) = false := decide_eq_false (by omega)
        clear hs hp
        go_enter Try.func64, Try.ntmps64
        go_wp2_with fail
        refine (hW _).mono ?_
        rintro e w1 ⟨rfl, rfl⟩
        go_wp2_with fail
        refine (hP1 _).mono ?_
        rintro e w1 ⟨rfl, rfl⟩
        clear hP1 hW
        go_wp2_with (at_make; refine wpList_make_full _ rfl _ _ _ rfl w.heap.size 5 IB (.int .u8 0) 1 Try.underlying26 hI0 hI1 hI2 .i64 .i64 _ _ 2 rfl rfl (by rfl) (by rfl) (by omega) (by unfold maxLen; omega) (Nat.le_refl _) ?hk)
        case hk =>
        intro w1 hown hg
        replace hown := ownB_zeros hown
        have hx1 : Ext w w1 := grown_below hg (Nat.le_refl _) (fun _ h => by cases h)
        go_wp2_with fail
        go_loopw [8, 1] (fun i nn wr => ∃ (j : Nat), j ≤ 2 ∧ i = .int .i64 ((2 : Int) - 1 - (j : Int)) ∧ nn = .int .u64 ((n / 256 ^ j : Nat) : Int) ∧ OwnB wr w.heap.size TB (.slice (some ⟨w.heap.size, 0, none⟩) 2 2) (List.replicate (2 - j) 0 ++ beB j n) ∧ Ext w wr) (fun i _ _ => (intOf i + 1).toNat)
        case atStart => exact ⟨0, by omega, by rfl, by simp, by simpa [beB] using hown, hx1⟩
        case round =>
          clear hown hx1 hg
          obtain ⟨j, hj, rfl, rfl, hO, hX⟩ := hrel
          by_cases hlt : j < 2
          · have hd : decide ((0 : Int) ≤ (2 : Int) - 1 - (j : Int)) = true := decide_eq_true (by omega)
            obtain ⟨idx, hidx⟩ : ∃ z, 2 - 1 - j = z := ⟨_, rfl⟩
            have hii : (2 : Int) - 1 - (j : Int) = (idx : Int) := by omega
            rw [hii] at hd ⊢
            have hil : (idx : Int) < 2 := by omega
            have hlen : (List.replicate (2 - j) (0 : UInt8) ++ beB j n).length = 2 := by rw [List.length_append, List.length_replicate, beB_len]; omega
            have hset : (List.replicate (2 - j) (0 : UInt8) ++ beB j n).set idx (UInt8.ofNat (n / 256 ^ j % 256)) = List.replicate (2 - (j + 1)) 0 ++ beB (j + 1) n := by
              rw [beB_cons, show 2 - j = (2 - (j + 1)) + 1 by omega, List.replicate_succ', List.append_assoc, List.set_append_right _ _ (by rw [List.length_replicate]; omega), List.length_replicate, show idx - (2 - (j + 1)) = 0 by omega]
              rfl
            have hS := hO.set idx (by rw [hlen]; omega) (UInt8.ofNat (n / 256 ^ j % 256))
            rw [hset] at hS
            obtain ⟨g0, cap0, hv0, -, -, -, hcells⟩ := hO.row (by intro e; rw [e] at hlen; simp at hlen)
            simp only [Value.slice.injEq, Option.some.injEq, Addr.mk.injEq] at hv0
            obtain ⟨⟨rfl, -⟩, -, rfl⟩ := hv0
            obtain ⟨c0, hc0⟩ := get_some (l := List.replicate (2 - j) (0 : UInt8) ++ beB j n) (k := idx) (by rw [hlen]; omega)
            obtain ⟨hce, hfr⟩ := hcells idx c0 hc0
            have hnn : n / 256 ^ j / 256 = n / 256 ^ (j + 1) := by rw [Nat.div_div_eq_div_mul, Nat.pow_succ]
            have hcv : ((UInt8.ofNat (n / 256 ^ j % 256)).toNat : Int) = ((n / 256 ^ j % 256 : Nat) : Int) := by simp
            rw [hcv] at hS
            have hnb : n / 256 ^ j < 18446744073709551616 := Nat.lt_of_le_of_lt (Nat.div_le_self _ _) hn
            generalize n / 256 ^ j = q at *
            have hm1 : (q : Int).tmod 256 = ((q % 256 : Nat) : Int) := by rw [Int.tmod_eq_emod_of_nonneg (by omega)]; rfl
            have hm2 : (q : Int).tdiv 256 = ((q / 256 : Nat) : Int) := by rw [Int.tdiv_eq_ediv_of_nonneg (by omega)]; rfl
            obtain ⟨q1, hq1⟩ : ∃ z, q % 256 = z := ⟨_, rfl⟩
            obtain ⟨q2, hq2⟩ : ∃ z, q / 256 = z := ⟨_, rfl⟩
            have b1 : q1 < 256 := by omega
            have b2 : q2 < 18446744073709551616 := by omega
            rw [hq1] at hm1 hS
            rw [hq2] at hm2 hnn
            have hX' : Ext w (wr.setCell ⟨w.heap.size, idx, none⟩ (.int .u8 (q1 : Int))) := Below.setCell hX (Nat.le_refl _) _
            have HS := Lib.hid (And.intro hS (And.intro hX' hnn))
            have HID := Lib.hid hidx
            clear hii hidx
            clear hS hX' hnn hset hcells hc0 hcv hq1 hq2 hO hlen
            go_wp2_with fail
            go_round
            · exact ⟨j + 1, by omega, by have h9 := HID.out; congr 1; omega, by rw [HS.out.2.2], HS.out.1, HS.out.2.1⟩
            · first | (simp [intOf]; done) | (simp [intOf]; omega)
          · have hjk : j = 2 := by omega
            have hd : decide ((0 : Int) ≤ (2 : Int) - 1 - (j : Int)) = false := decide_eq_false (by omega)
            rw [hjk] at hO
            simp only [Nat.sub_self, List.replicate_zero, List.nil_append] at hO
            have HO := Lib.hid hO
            clear hO
            go_wp2_with fail
            refine bodyPost_ret (results_tmp2 rfl _ _ _) rfl ?_
            exact ⟨_, rfl, HO.out, hX⟩
    · have hP1 := hP 4 (by decide)
      rw [show ((256 ^ 4 : Nat) : Int) = 4294967296 by decide] at hP1
      clear hP
      by_cases hs : 4294967296 ≤ n
      · have hp : putB 4 n = none := by unfold putB; rw [if_neg (fun h => by have := h.2; simp at this; omega)]
        rw [hp]
        have hd : decide ((4294967296 : Int) ≤ (n : Int)) = true := decide_eq_true (by omega)
        clear hs
        go_enter Try.func64, Try.ntmps64
        go_wp2_with fail
        refine (hW _).mono ?_
        rintro e w1 ⟨rfl, rfl⟩
        go_wp2_with fail
        refine (hP1 _).mono ?_
        rintro e w1 ⟨rfl, rfl⟩
        go_wp2_with fail
        refine bodyPost_ret (results_tmp2 rfl _ _ _) rfl ?_
        exact ⟨_, rfl, OwnB.nil _ _ _, Ext.refl _⟩
      · have hp : putB 4 n = some (beB 4 n) := by unfold putB; rw [if_pos ⟨rfl, by simp; omega⟩]; rfl
        rw [hp]
        have hd0 : decide ((4294967296 : Int) ≤ (n : Int)) = false := decide_eq_false (by omega)
        clear hs hp
        go_enter Try.func64, Try.ntmps64
        go_wp2_with fail
        refine (hW _).mono ?_
        rintro e w1 ⟨rfl, rfl⟩
        go_wp2_with fail
        refine (hP1 _).mono ?_
        rintro e w1 ⟨rfl, rfl⟩
        clear hP1 hW
        go_wp2_with (at_make; refine wpList_make_full _ rfl _ _ _ rfl w.heap.size 5 IB (.int .u8 0) 1 Try.underlying26 hI0 hI1 hI2 .i64 .i64 _ _ 4 rfl rfl (by rfl) (by rfl) (by omega) (by unfold maxLen; omega) (Nat.le_refl _) ?hk)
        case hk =>
        intro w1 hown hg
        replace hown := ownB_zeros hown
        have hx1 : Ext w w1 := grown_below hg (Nat.le_refl _) (fun _ h => by cases h)
        go_wp2_with fail
        go_loopw [8, 1] (fun i nn wr => ∃ (j : Nat), j ≤ 4 ∧ i = .int .i64 ((4 : Int) - 1 - (j : Int)) ∧ nn = .int .u64 ((n / 256 ^ j : Nat) : Int) ∧ OwnB wr w.heap.size TB (.slice (some ⟨w.heap.size, 0, none⟩) 4 4) (List.replicate (4 - j) 0 ++ beB j n) ∧ Ext w wr) (fun i _ _ => (intOf i + 1).toNat)
        case atStart => exact ⟨0, by omega, by rfl, by simp, by simpa [beB] using hown, hx1⟩
        case round =>
          clear hown hx1 hg
          obtain ⟨j, hj, rfl, rfl, hO, hX⟩ := hrel
          by_cases hlt : j < 4
          · have hd : decide ((0 : Int) ≤ (4 : Int) - 1 - (j : Int)) = true := decide_eq_true (by omega)
            obtain ⟨idx, hidx⟩ : ∃ z, 4 - 1 - j = z := ⟨_, rfl⟩
            have hii : (4 : Int) - 1 - (j : Int) = (idx : Int) := by omega
            rw [hii] at hd ⊢
            have hil : (idx : Int) < 4 := by omega
            have hlen : (List.replicate (4 - j) (0 : UInt8) ++ beB j n).length = 4 := by rw [List.length_append, List.length_replicate, beB_len]; omega
            have hset : (List.replicate (4 - j) (0 : UInt8) ++ beB j n).set idx (UInt8.ofNat (n / 256 ^ j % 256)) = List.replicate (4 - (j + 1)) 0 ++ beB (j + 1) n := by
              rw [beB_cons, show 4 - j = (4 - (j + 1)) + 1 by omega, List.replicate_succ', List.append_assoc, List.set_append_right _ _ (by rw [List.length_replicate]; omega), List.length_replicate, show idx - (4 - (j + 1)) = 0 by omega]
              rfl
            have hS := hO.set idx (by rw [hlen]; omega) (UInt8.ofNat (n / 256 ^ j % 256))
            rw [hset] at hS
            obtain ⟨g0, cap0, hv0, -, -, -, hcells⟩ := hO.row (by intro e; rw [e] at hlen; simp at hlen)
            simp only [Value.slice.injEq, Option.some.injEq, Addr.mk.injEq] at hv0
            obtain ⟨⟨rfl, -⟩, -, rfl⟩ := hv0
            obtain ⟨c0, hc0⟩ := get_some (l := List.replicate (4 - j) (0 : UInt8) ++ beB j n) (k := idx) (by rw [hlen]; omega)
            obtain ⟨hce, hfr⟩ := hcells idx c0 hc0
            have hnn : n / 256 ^ j / 256 = n / 256 ^ (j + 1) := by rw [Nat.div_div_eq_div_mul, Nat.pow_succ]
            have hcv : ((UInt8.ofNat (n / 256 ^ j % 256)).toNat : Int) = ((n / 256 ^ j % 256 : Nat) : Int) := by simp
            rw [hcv] at hS
            have hnb : n / 256 ^ j < 18446744073709551616 := Nat.lt_of_le_of_lt (Nat.div_le_self _ _) hn
            generalize n / 256 ^ j = q at *
            have hm1 : (q : Int).tmod 256 = ((q % 256 : Nat) : Int) := by rw [Int.tmod_eq_emod_of_nonneg (by omega)]; rfl
            have hm2 : (q : Int).tdiv 256 = ((q / 256 : Nat) : Int) := by rw [Int.tdiv_eq_ediv_of_nonneg (by omega)]; rfl
            obtain ⟨q1, hq1⟩ : ∃ z, q % 256 = z := ⟨_, rfl⟩
            obtain ⟨q2, hq2⟩ : ∃ z, q / 256 = z := ⟨_, rfl⟩
            have b1 : q1 < 256 := by omega
            have b2 : q2 < 18446744073709551616 := by omega
            rw [hq1] at hm1 hS
            rw [hq2] at hm2 hnn
            have hX' : Ext w (wr.setCell ⟨w.heap.size, idx, none⟩ (.int .u8 (q1 : Int))) := Below.setCell hX (Nat.le_refl _) _
            have HS := Lib.hid (And.intro hS (And.intro hX' hnn))
            have HID := Lib.hid hidx
            clear hii hidx
            clear hS hX' hnn hset hcells hc0 hcv hq1 hq2 hO hlen
            go_wp2_with fail
            go_round
            · exact ⟨j + 1, by omega, by have h9 := HID.out; congr 1; omega, by rw [HS.out.2.2], HS.out.1, HS.out.2.1⟩
            · first | (simp [intOf]; done) | (simp [intOf]; omega)
          · have hjk : j = 4 := by omega
            have hd : decide ((0 : Int) ≤ (4 : Int) - 1 - (j : Int)) = false := decide_eq_false (by omega)
            rw [hjk] at hO
            simp only [Nat.sub_self, List.replicate_zero, List.nil_append] at hO
            have HO := Lib.hid hO
            clear hO
            go_wp2_with fail
            refine bodyPost_ret (results_tmp2 rfl _ _ _) rfl ?_
            exact ⟨_, rfl, HO.out, hX⟩
    · have hp : putB 8 n = some (beB 8 n) := by unfold putB; rw [if_pos ⟨rfl, by simp; omega⟩]; rfl
      rw [hp]
      clear hP hp
      go_enter Try.func64, Try.ntmps64
      go_wp2_with fail
      refine (hW _).mono ?_
      rintro e w1 ⟨rfl, rfl⟩
      clear hW
      go_wp2_with (at_make; refine wpList_make_full _ rfl _ _ _ rfl w.heap.size 5 IB (.int .u8 0) 1 Try.underlying26 hI0 hI1 hI2 .i64 .i64 _ _ 8 rfl rfl (by rfl) (by rfl) (by omega) (by unfold maxLen; omega) (Nat.le_refl _) ?hk)
      case hk =>
      intro w1 hown hg
      replace hown := ownB_zeros hown
      have hx1 : Ext w w1 := grown_below hg (Nat.le_refl _) (fun _ h => by cases h)
      go_wp2_with fail
      go_loopw [8, 1] (fun i nn wr => ∃ (j : Nat), j ≤ 8 ∧ i = .int .i64 ((8 : Int) - 1 - (j : Int)) ∧ nn = .int .u64 ((n / 256 ^ j : Nat) : Int) ∧ OwnB wr w.heap.size TB (.slice (some ⟨w.heap.size, 0, none⟩) 8 8) (List.replicate (8 - j) 0 ++ beB j n) ∧ Ext w wr) (fun i _ _ => (intOf i + 1).toNat)
      case atStart => exact ⟨0, by omega, by rfl, by simp, by simpa [beB] using hown, hx1⟩
      case round =>
        clear hown hx1 hg
        obtain ⟨j, hj, rfl, rfl, hO, hX⟩ := hrel
        by_cases hlt : j < 8
        · have hd : decide ((0 : Int) ≤ (8 : Int) - 1 - (j : Int)) = true := decide_eq_true (by omega)
          obtain ⟨idx, hidx⟩ : ∃ z, 8 - 1 - j = z := ⟨_, rfl⟩
          have hii : (8 : Int) - 1 - (j : Int) = (idx : Int) := by omega
          rw [hii] at hd ⊢
          have hil : (idx : Int) < 8 := by omega
          have hlen : (List.replicate (8 - j) (0 : UInt8) ++ beB j n).length = 8 := by rw [List.length_append, List.length_replicate, beB_len]; omega
          have hset : (List.replicate (8 - j) (0 : UInt8) ++ beB j n).set idx (UInt8.ofNat (n / 256 ^ j % 256)) = List.replicate (8 - (j + 1)) 0 ++ beB (j + 1) n := by
            rw [beB_cons, show 8 - j = (8 - (j + 1)) + 1 by omega, List.replicate_succ', List.append_assoc, List.set_append_right _ _ (by rw [List.length_replicate]; omega), List.length_replicate, show idx - (8 - (j + 1)) = 0 by omega]
            rfl
          have hS := hO.set idx (by rw [hlen]; omega) (UInt8.ofNat (n / 256 ^ j % 256))
          rw [hset] at hS
          obtain ⟨g0, cap0, hv0, -, -, -, hcells⟩ := hO.row (by intro e; rw [e] at hlen; simp at hlen)
          simp only [Value.slice.injEq, Option.some.injEq, Addr.mk.injEq] at hv0
          obtain ⟨⟨rfl, -⟩, -, rfl⟩ := hv0
          obtain ⟨c0, hc0⟩ := get_some (l := List.replicate (8 - j) (0 : UInt8) ++ beB j n) (k := idx) (by rw [hlen]; omega)
          obtain ⟨hce, hfr⟩ := hcells idx c0 hc0
          have hnn : n / 256 ^ j / 256 = n / 256 ^ (j + 1) := by rw [Nat.div_div_eq_div_mul, Nat.pow_succ]
          have hcv : ((UInt8.ofNat (n / 256 ^ j % 256)).toNat : Int) = ((n / 256 ^ j % 256 : Nat) : Int) := by simp
          rw [hcv] at hS
          have hnb : n / 256 ^ j < 18446744073709551616 := Nat.lt_of_le_of_lt (Nat.div_le_self _ _) hn
          generalize n / 256 ^ j = q at *
          have hm1 : (q : Int).tmod 256 = ((q % 256 : Nat) : Int) := by rw [Int.tmod_eq_emod_of_nonneg (by omega)]; rfl
          have hm2 : (q : Int).tdiv 256 = ((q / 256 : Nat) : Int) := by rw [Int.tdiv_eq_ediv_of_nonneg (by omega)]; rfl
          obtain ⟨q1, hq1⟩ : ∃ z, q % 256 = z := ⟨_, rfl⟩
          obtain ⟨q2, hq2⟩ : ∃ z, q / 256 = z := ⟨_, rfl⟩
          have b1 : q1 < 256 := by omega
          have b2 : q2 < 18446744073709551616 := by omega
          rw [hq1] at hm1 hS
          rw [hq2] at hm2 hnn
          have hX' : Ext w (wr.setCell ⟨w.heap.size, idx, none⟩ (.int .u8 (q1 : Int))) := Below.setCell hX (Nat.le_refl _) _
          have HS := Lib.hid (And.intro hS (And.intro hX' hnn))
          have HID := Lib.hid hidx
          clear hii hidx
          clear hS hX' hnn hset hcells hc0 hcv hq1 hq2 hO hlen
          go_wp2_with fail
          go_round
          · exact ⟨j + 1, by omega, by have h9 := HID.out; congr 1; omega, by rw [HS.out.2.2], HS.out.1, HS.out.2.1⟩
          · first | (simp [intOf]; done) | (simp [intOf]; omega)
        · have hjk : j = 8 := by omega
          have hd : decide ((0 : Int) ≤ (8 : Int) - 1 - (j : Int)) = false := decide_eq_false (by omega)
          rw [hjk] at hO
          simp only [Nat.sub_self, List.replicate_zero, List.nil_append] at hO
          have HO := Lib.hid hO
          clear hO
          go_wp2_with fail
          refine bodyPost_ret (results_tmp2 rfl _ _ _) rfl ?_
          exact ⟨_, rfl, HO.out, hX⟩
end Go.Proofs.Ytfjjgceagpcfkaa.VRefOct
