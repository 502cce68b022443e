/- crc's three, Seal and Open. -/
import Derived.Test.YtcdaelgnankmfaaVCrcOn
import Derived.Test.YtcdaelgnankmfaaVOutI
namespace Go.Proofs.Ytcdaelgnankmfaa.VCrc
open Go.RowKit Go.VBase Go.VCrc Go.VOct VOct

/-- A message that bears its sum. -/
def sealB (l : List UInt8) : List UInt8 := l ++ beB 3 (ofN l)
/-- Sealed bytes without their sum. -/
def openB (l : List UInt8) : Option (List UInt8) := if 3 ≤ l.length ∧ numB (l.drop (l.length - 3)) = ofN (l.take (l.length - 3)) then some (l.take (l.length - 3)) else none
theorem three_bytes {n : Nat} (h : n < 16777216) : beB 1 (n / 65536) ++ beB 2 (n % 65536) = beB 3 n := by
  have e1 : n / 256 / 256 = n / 65536 := by omega
  have e2 : n % 65536 / 256 % 256 = n / 256 % 256 := by omega
  have e3 : n % 65536 % 256 = n % 256 := by omega
  simp only [beB, List.nil_append, List.append_assoc, List.cons_append, e1, e2, e3]

set_option maxRecDepth 100000 in
set_option maxHeartbeats 1000000 in
theorem three_calls (n : Nat) (hn : n < 16777216) (w : World) : Calls Try.prog 73 #[.int .u32 (n : Int)] w (MadeB w TB (beB 3 n)) := by
  have hb := three_bytes hn
  have e1 : (n : Int) / 65536 = ((n / 65536 : Nat) : Int) := by omega
  have e2 : bits .and .u32 (n : Int) 65535 = ((n % 65536 : Nat) : Int) := by
    rw [show (65535 : Int) = ((65535 : Nat) : Int) from rfl, u32_and_nat n 65535 (by omega) (by decide), show (65535 : Nat) = 2 ^ 16 - 1 from rfl, Nat.and_two_pow_sub_one_eq_mod]
  obtain ⟨h, hh⟩ : ∃ z, n / 65536 = z := ⟨_, rfl⟩
  obtain ⟨lo, hlo⟩ : ∃ z, n % 65536 = z := ⟨_, rfl⟩
  rw [hh] at e1 hb
  rw [hlo] at e2 hb
  have bh : h < 256 := by omega
  have bl : lo < 65536 := by omega
  have c1 : IntKind.u64.wrap (h : Int) = (h : Int) := by rw [IntKind.wrap_u64]; omega
  have c2 : IntKind.u64.wrap (lo : Int) = (lo : Int) := by rw [IntKind.wrap_u64]; omega
  have hst : stPut (stPut (some []) 1 h) 2 lo = some (beB 3 n) := by
    rw [← hb]
    unfold stPut putB
    rw [if_pos ⟨rfl, by simpa using bh⟩]
    simp only [Option.map_some]
    rw [if_pos ⟨rfl, by simpa using bl⟩]
    rfl
  have hsl : (stAll (stPut (some []) 1 h)).length + 8 ≤ 140737488355328 := by
    unfold stPut putB
    rw [if_pos ⟨rfl, by simpa using bh⟩]
    simp [stAll, beB_len]
  have hl3 := beB_len 3 n
  generalize beB 3 n = T at *
  have HS := Lib.hid (And.intro hst (And.intro hsl hl3))
  clear hst hsl hl3 hb hh hlo hn
  go_enter Try.func73, Try.ntmps73
  go_wp2_with fail
  have I0 := OutI.new (w := w)
  refine (Put_calls w.heap.size none (some []) 1 h _ I0.out (by omega) (by decide)).mono ?_
  rintro e w1 hp
  obtain ⟨rfl, r1, I1⟩ := I0.turn hp
  clear hp I0
  go_wp2_with fail
  refine (Put_calls w.heap.size r1 _ 2 lo _ I1.out (by omega) HS.out.2.1).mono ?_
  rintro e w2 hp
  obtain ⟨rfl, r2, I2⟩ := I1.turn hp
  rw [HS.out.1] at I2
  clear hp I1
  go_wp2_with fail
  refine (All_calls w.heap.size r2 _ _ I2.out (by show T.length ≤ _; rw [HS.out.2.2]; omega)).mono ?_
  rintro e w3 ⟨u, rfl, hu, hx⟩
  have hu' := hu.mono I2.ext.size
  have hx' := I2.ext.trans hx
  obtain ⟨a, cap, rfl⟩ := hu.slice
  go_wp2_with fail
  go_ret
  exact ⟨_, rfl, hu', hx'⟩

set_option maxRecDepth 100000 in
set_option maxHeartbeats 1000000 in
theorem Seal_calls (v : Value) (l : List UInt8) (w : World) (hv : Bys w v l) (hl : l.length ≤ 1000000) : Calls Try.prog 50 #[v] w (MadeB w TB (sealB l)) := by
  unfold sealB
  have hT := fun w => three_calls (ofN l) (ofN_lt l) w
  have hO := fun v w h => Of_to (ofN l) v [l] w h (by simp)
  have hl3 := beB_len 3 (ofN l)
  generalize beB 3 (ofN l) = T at *
  generalize ofN l = n at *
  have hv' := hv
  obtain ⟨a, cap, rfl, _, _, _⟩ := hv'
  have HL := Lib.hid (And.intro hl hl3)
  clear hl hl3
  go_enter Try.func50, Try.ntmps50
  go_wp2_with fail
  have I0 := OutI.new (w := w)
  refine (Tail_calls w.heap.size none (some []) _ l _ I0.out (hv.alloc _) (by have := HL.out.1; simp [stAll]; omega)).mono ?_
  rintro e w1 hp
  obtain ⟨rfl, r1, I1⟩ := I0.turn hp
  clear hp I0
  have hv1 := hv.ext I1.ext
  go_wp2_with fail
  refine (hO _ _ (bysL_one rfl hv1)).mono ?_
  rintro e w2 ⟨rfl, rfl⟩
  go_wp2_with fail
  refine (hT _).mono ?_
  rintro e w3 ⟨t, rfl, ht, hx3⟩
  have htb := ht.bys (by have := HL.out.2; unfold maxLen; omega)
  have I3 := (I1.later (Ext.alloc w1 _)).later hx3
  obtain ⟨a3, cap3, rfl⟩ := ht.slice
  clear ht hx3 I1 hv1
  go_wp2_with fail
  refine (Tail_calls w.heap.size r1 _ _ T _ I3.out htb (by have := HL.out.1; have := HL.out.2; simp [stAll, stTail]; omega)).mono ?_
  rintro e w4 hp
  obtain ⟨rfl, r4, I4⟩ := I3.turn hp
  clear hp I3 htb
  go_wp2_with fail
  refine (All_calls w.heap.size r4 _ _ I4.out (by have := HL.out.1; have := HL.out.2; simp [stAll, stTail]; omega)).mono ?_
  rintro e w5 ⟨u, rfl, hu, hx⟩
  have hu' := hu.mono I4.ext.size
  have hx' := I4.ext.trans hx
  obtain ⟨a5, cap5, rfl⟩ := hu.slice
  go_wp2_with fail
  go_ret
  exact ⟨_, rfl, by simpa [stAll, stTail] using hu', hx'⟩
end Go.Proofs.Ytcdaelgnankmfaa.VCrc
