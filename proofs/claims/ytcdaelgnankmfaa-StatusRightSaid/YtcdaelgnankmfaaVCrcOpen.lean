/- crc.Open. -/
import Derived.Test.YtcdaelgnankmfaaVCrcSeal
namespace Go.Proofs.Ytcdaelgnankmfaa.VCrc
open Go.RowKit Go.VBase Go.VCrc Go.VOct VOct

def OpenPost (x : Option (List UInt8)) (w : World) (e : Ending) (w' : World) : Prop :=
  ∃ u, e = .returned (.tuple #[u, .int .i64 (if x.isSome then 0 else 20)]) ∧ OwnB w' w.heap.size TB u (x.getD []) ∧ Ext w w'

theorem inTake_le (st : Option (List UInt8)) (k : Nat) : (inTake st (k : Int)).1.length ≤ k := by
  unfold inTake
  cases st with
  | none => simp
  | some l =>
    simp only
    split
    · rw [List.length_take]; omega
    · simp
theorem inTake_some {l : List UInt8} {k : Nat} (h : k ≤ l.length) : inTake (some l) (k : Int) = (l.take k, some (l.drop k)) := by
  unfold inTake
  simp only
  rw [if_pos ⟨by omega, by omega⟩]
  simp
/-- What Open reads. -/
theorem open_sts (l : List UInt8) : ∃ (f p q : List UInt8) (s1 s2 s3 : Option (List UInt8)), inTake (some l) ((l.length : Int) - 3) = (f, s1) ∧ inTake s1 1 = (p, s2) ∧ inTake s2 2 = (q, s3) ∧ numB p < 256 ∧ numB q < 65536 ∧ f.length ≤ l.length ∧
    ((s3 == some []) = false ∧ openB l = none ∨ (s3 == some []) = true ∧ numB p * 65536 + numB q < 16777216 ∧ openB l = if numB p * 65536 + numB q = ofN f then some f else none) := by
  obtain ⟨⟨f, s1⟩, h1⟩ : ∃ x, inTake (some l) ((l.length : Int) - 3) = x := ⟨_, rfl⟩
  obtain ⟨⟨p, s2⟩, h2⟩ : ∃ x, inTake s1 1 = x := ⟨_, rfl⟩
  obtain ⟨⟨q, s3⟩, h3⟩ : ∃ x, inTake s2 2 = x := ⟨_, rfl⟩
  have hp := inTake_le s1 1
  have hq := inTake_le s2 2
  rw [show ((1 : Nat) : Int) = 1 from rfl, h2] at hp
  rw [show ((2 : Nat) : Int) = 2 from rfl, h3] at hq
  have hf := inTake_len (some l) ((l.length : Int) - 3)
  rw [h1] at hf
  refine ⟨f, p, q, s1, s2, s3, h1, h2, h3, Nat.lt_of_lt_of_le (numB_lt p) (Nat.le_trans (Nat.pow_le_pow_right (by decide) hp) (by decide)), Nat.lt_of_lt_of_le (numB_lt q) (Nat.le_trans (Nat.pow_le_pow_right (by decide) hq) (by decide)), hf, ?_⟩
  by_cases h : 3 ≤ l.length
  · right
    rw [show (l.length : Int) - 3 = ((l.length - 3 : Nat) : Int) by omega, inTake_some (by omega)] at h1
    simp only [Prod.mk.injEq] at h1
    obtain ⟨rfl, rfl⟩ := h1
    have hd3 : (l.drop (l.length - 3)).length = 3 := by rw [List.length_drop]; omega
    rw [show (1 : Int) = ((1 : Nat) : Int) from rfl, inTake_some (by omega)] at h2
    simp only [Prod.mk.injEq] at h2
    obtain ⟨rfl, rfl⟩ := h2
    rw [show (2 : Int) = ((2 : Nat) : Int) from rfl, inTake_some (by rw [List.length_drop]; omega)] at h3
    simp only [Prod.mk.injEq] at h3
    obtain ⟨rfl, rfl⟩ := h3
    have hsum : numB ((l.drop (l.length - 3)).take 1) * 65536 + numB (((l.drop (l.length - 3)).drop 1).take 2) = numB (l.drop (l.length - 3)) := by
      have hl2 : ((l.drop (l.length - 3)).drop 1).length = 2 := by rw [List.length_drop, hd3]
      have ht2 : ((l.drop (l.length - 3)).drop 1).take 2 = (l.drop (l.length - 3)).drop 1 := List.take_of_length_le (Nat.le_of_eq hl2)
      rw [ht2]
      have := numB_append ((l.drop (l.length - 3)).take 1) ((l.drop (l.length - 3)).drop 1)
      rw [List.take_append_drop, hl2] at this
      rw [this]
    refine ⟨?_, ?_, ?_⟩
    · have : ((l.drop (l.length - 3)).drop 1).drop 2 = [] := List.drop_eq_nil_of_le (by rw [List.length_drop, hd3]; decide)
      rw [this]; rfl
    · rw [hsum]
      refine Nat.lt_of_lt_of_le (numB_lt _) ?_
      rw [hd3]; decide
    · rw [hsum]
      unfold openB
      by_cases hc : numB (l.drop (l.length - 3)) = ofN (l.take (l.length - 3))
      · rw [if_pos ⟨h, hc⟩, if_pos hc]
      · rw [if_neg (fun x => hc x.2), if_neg hc]
  · left
    have hn : inTake (some l) ((l.length : Int) - 3) = ([], none) := by unfold inTake; simp only; rw [if_neg (by omega)]
    rw [hn] at h1
    simp only [Prod.mk.injEq] at h1
    obtain ⟨rfl, rfl⟩ := h1
    simp only [inTake, Prod.mk.injEq] at h2
    obtain ⟨rfl, rfl⟩ := h2
    simp only [inTake, Prod.mk.injEq] at h3
    obtain ⟨rfl, rfl⟩ := h3
    exact ⟨rfl, by unfold openB; rw [if_neg (fun x => h x.1)]⟩

set_option maxRecDepth 100000 in
set_option maxHeartbeats 2000000 in
theorem Open_calls (v : Value) (l : List UInt8) (w : World) (hv : Bys w v l) (hl : l.length ≤ 1000000) : Calls Try.prog 58 #[v] w (OpenPost (openB l) w) := by
  obtain ⟨f, p, q, s1, s2, s3, h1, h2, h3, bp, bq, hfl, hfin⟩ := open_sts l
  obtain ⟨y, hy⟩ : ∃ y, openB l = y := ⟨_, rfl⟩
  rw [hy] at hfin ⊢
  have hF := From_calls v l w hv (by omega)
  have hT := fun B w h => Take_calls B (some l) ((l.length : Int) - 3) w h (by omega) (by omega) (by simp [stAll]; omega)
  have hG1 := fun B w h => Get_calls B s1 1 w h (by decide) (by decide)
  have hG2 := fun B w h => Get_calls B s2 2 w h (by decide) (by decide)
  rw [show getW 1 = 1 from rfl, h2] at hG1
  rw [show getW 2 = 2 from rfl, h3] at hG2
  rw [h1] at hT
  have hD := fun B w h => Done_calls B s3 w h
  have hO := fun v w h => Of_to (ofN f) v [f] w h (by simp)
  unfold GetPost at hG1 hG2
  unfold TakePost at hT
  unfold FromPost at hF
  have hle : f.length ≤ maxLen := by unfold maxLen; omega
  have hflt := ofN_lt f
  generalize ofN f = F at *
  generalize numB p = P at *
  generalize numB q = Q at *
  obtain ⟨a, cap, rfl, _, _, _⟩ := hv
  have HH := Lib.hid (And.intro h1 (And.intro h2 (And.intro h3 (And.intro hy (And.intro hle hfl)))))
  have HF := Lib.hid hfin
  clear h1 h2 h3 hy hfin hle hfl
  have c1 : IntKind.u64.wrap ((P : Int) * 65536) = ((P * 65536 : Nat) : Int) := by rw [IntKind.wrap_u64]; omega
  have c2 : bits BinOp.or IntKind.u64 ((P * 65536 : Nat) : Int) (Q : Int) = ((P * 65536 + Q : Nat) : Int) := by
    rw [bits_or_u64_nat _ _ (by omega) (by omega), show P * 65536 = 2 ^ 16 * P by omega, Nat.two_pow_add_eq_or_of_lt (by simpa using bq)]
  obtain ⟨A, hA⟩ : ∃ z, P * 65536 = z := ⟨_, rfl⟩
  rw [hA] at c1 c2 HF
  obtain ⟨m, hm⟩ : ∃ z, A + Q = z := ⟨_, rfl⟩
  rw [hm] at c2 HF
  have bm : m < 18446744073709551616 := by omega
  clear hA hm
  go_enter Try.func58, Try.ntmps58
  go_wp2_with fail
  refine hF.mono ?_
  rintro e w1 ⟨B, rfl, hB, hin, hx1⟩
  go_wp2_with fail
  refine (hT B _ hin).mono ?_
  rintro e w2 ⟨u, rfl, hu, hin2, ht2⟩
  have hE2 : Ext w w2 := Below.trans hx1 (ht2.below hx1.size hB (fun _ h => by cases h))
  have hBlt := hin.lt
  have hub : u.ownBlock ≠ some B := fun e => by have := hu.lt B e; omega
  clear hin ht2 hx1 hF hT
  obtain ⟨a2, cap2, rfl⟩ := hu.slice
  go_wp2_with fail
  refine (hG1 B _ hin2).mono ?_
  rintro e w3 ⟨rfl, hin3, ht3⟩
  have hu3 := own_touch ht3 hu hub (by cases (Value.slice a2 f.length cap2).ownBlock <;> simp)
  have hE3 : Ext w w3 := Below.trans hE2 (ht3.below hE2.size hB (fun _ h => by cases h))
  clear hin2 hu ht3 hE2 hG1
  go_wp2_with fail
  refine (hG2 B _ hin3).mono ?_
  rintro e w4 ⟨rfl, hin4, ht4⟩
  have hu4 := own_touch ht4 hu3 hub (by cases (Value.slice a2 f.length cap2).ownBlock <;> simp)
  have hE4 : Ext w w4 := Below.trans hE3 (ht4.below hE3.size hB (fun _ h => by cases h))
  clear hin3 hu3 ht4 hE3 hG2
  go_wp2_with fail
  refine (hD B _ hin4).mono ?_
  rintro e w5 ⟨rfl, rfl⟩
  have hbase : w.heap.size ≤ w1.heap.size := by omega
  rcases HF.out with ⟨e3, rfl⟩ | ⟨e3, b3, hy⟩
  · rw [e3]
    clear hD
    go_wp2_with fail
    refine bodyPost_ret (results_tmp2 rfl _ _ _) rfl ?_
    exact ⟨_, rfl, OwnB.nil _ _ _, hE4⟩
  · rw [e3]
    have hHY := Lib.hid hy
    have cm : IntKind.u32.wrap (m : Int) = (m : Int) := by rw [IntKind.wrap_u32]; omega
    have hub4 := hu4.bys HH.out.2.2.2.2.1
    clear hD hy HF
    go_wp2_with fail
    refine (hO _ _ (bysL_one rfl hub4)).mono ?_
    rintro e w6 ⟨rfl, rfl⟩
    have hE6 := hE4.thenAlloc (.cells #[.slice a2 f.length cap2] 26)
    have hu6 := (hu4.alloc (.cells #[.slice a2 f.length cap2] 26)).mono hbase
    by_cases hmF : m = F
    · have hb : ((m : Int) == (F : Int)) = true := by simp; omega
      obtain rfl : y = some f := by rw [hHY.out, if_pos hmF]
      clear hmF
      go_wp2_with fail
      refine bodyPost_ret (results_tmp2 rfl _ _ _) rfl ?_
      exact ⟨_, rfl, hu6, hE6⟩
    · have hb : ((m : Int) == (F : Int)) = false := by simp; omega
      obtain rfl : y = none := by rw [hHY.out, if_neg hmF]
      clear hmF
      go_wp2_with fail
      refine bodyPost_ret (results_tmp2 rfl _ _ _) rfl ?_
      exact ⟨_, rfl, OwnB.nil _ _ _, hE6⟩
end Go.Proofs.Ytcdaelgnankmfaa.VCrc
