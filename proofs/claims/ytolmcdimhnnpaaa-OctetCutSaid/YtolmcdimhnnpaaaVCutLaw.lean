/- OctetCut: the walk. -/
import Derived.Test.YtolmcdimhnnpaaaVOuts
import Derived.Test.YtolmcdimhnnpaaaVAlive01
import Derived.Test.YtolmcdimhnnpaaaVCutPlain
import Derived.Test.YtolmcdimhnnpaaaVNats
namespace Go.Proofs.Ytolmcdimhnnpaaa.VOct
open Go.RowKit Go.VBase Go.VOct Go.VRg

set_option maxRecDepth 100000 in
set_option maxHeartbeats 4000000 in
theorem Cut_any (v : Value) (l : List Nat) (x : Nat) (w : World) (hv : Nats .u32 w v l) (hx : x < 65536) :
    Calls Try.prog 7 #[v, .int .u16 (x : Int)] w fun e w' => e = .returned (.bool true) ∧ Ext w w' := by
  have hv0 := hv
  obtain ⟨a, cap, rfl, hcap, hcm, hwf, hcell⟩ := hv
  have hl32 : ∀ c ∈ l, c < 4294967296 := fun c hc => by
    have := hwf c hc
    simp [Lit.wf, IntKind.min, IntKind.max, IntKind.bits, IntKind.signed] at this; omega
  go_enter Try.func7, Try.ntmps7
  go_wp2_with fail
  refine (alive_calls _).mono ?_
  rintro e w1 ⟨rfl, h1⟩
  by_cases h30 : 30 < l.length
  · go_wp2_with fail
    go_ret
    exact ⟨rfl, h1⟩
  have h30n : l.length ≤ 30 := by omega
  have h30' : decide ((30 : Int) < (l.length : Int)) = false := by apply decide_eq_false; omega
  go_wp2_with fail
  have HO := (Outs.nil h1).make
  generalize hW : w1.alloc (.cells #[.slice none 0 0, .bool false] TOut) = w2 at *
  simp only [List.nil_append] at HO
  generalize w1.heap.size = B at *
  clear hW h1
  go_loopw [7, 25] (fun _ i wr => ∃ (j : Nat) (r : Option Nat), j ≤ l.length ∧ i = .int .i64 (j : Int) ∧ Outs w wr [⟨B, r, some (wr4 (l.take j))⟩] []) (fun _ i _ => l.length - (intOf i).toNat)
  case atStart => exact ⟨0, none, Nat.zero_le _, rfl, HO⟩
  case round =>
    obtain ⟨j, r, hj, rfl, hO⟩ := hrel
    by_cases hlt : j < l.length
    · obtain ⟨c, hc⟩ : ∃ c, l[j]? = some c := ⟨_, List.getElem?_eq_getElem hlt⟩
      have hcm' : c ∈ l := List.mem_of_getElem? hc
      have hc32 := hl32 c hcm'
      obtain ⟨b, off, rfl, hd⟩ := hcell (fun h => by rw [h] at hlt; simp at hlt)
      have hd' : wr.cell? ⟨b, off + j, none⟩ = some (.int .u32 (c : Int)) := hO.ext.cell (hd j c hc)
      have hwc : IntKind.u64.wrap (c : Int) = (c : Int) := by rw [IntKind.wrap_u64]; omega
      have hjw : (j : Int) < (l.length : Int) := by omega
      have HX := Lib.hid hc
      clear hd hcm' hwf hl32 hc h30 h30' HO hcm hv0
      go_wp2_with fail
      refine (Put_calls B r (some (wr4 (l.take j))) 4 c wr (hO.at_ ⟨B, r, _⟩ (by simp)) (by omega) ?hl).mono ?_
      case hl => simp only [stAll, Option.getD_some]; rw [wr4_len, List.length_take]; omega
      rintro e W3 hP
      rw [put4 _ _ hc32, ← take_snoc HX.out] at hP
      obtain ⟨rfl, r', hO'⟩ := Outs.turn (L := []) hO hP
      go_wp2_with fail
      go_roundw
      case rel => exact ⟨j + 1, r', by omega, by go_num, hO'⟩
      case measure => simp [intOf]; omega
    · have hjl : j = l.length := by omega
      subst hjl
      rw [List.take_length] at hO
      go_wp2_with fail
      refine (All_calls B r (some (wr4 l)) wr (hO.at_ ⟨B, r, some (wr4 l)⟩ (by simp)) ?hl).mono ?_
      case hl => simp only [stAll, Option.getD_some]; rw [wr4_len]; omega
      rintro e w3 ⟨v, rfl, hv, hx3⟩
      have hv : OwnB w3 wr.heap.size TB v (wr4 l) := hv
      have hvb := hv.bys (by unfold maxLen; rw [wr4_len]; omega)
      have HB := Lib.hid hvb
      obtain ⟨a4, c4, rfl, hcap4, hcm4, _⟩ := hvb
      have hLl := wr4_len l
      obtain ⟨n, hn, hnl⟩ : ∃ n : Nat, (x : Int) % (((wr4 l).length : Int) + 1) = (n : Int) ∧ n ≤ (wr4 l).length :=
        ⟨x % ((wr4 l).length + 1), rfl, by have := Nat.mod_lt x (show 0 < (wr4 l).length + 1 by omega); omega⟩
      have hnc : (n : Int) ≤ (c4 : Int) := by omega
      have hbt := HB.out.take hnl
      have hext : Ext w w3 := hO.ext.trans hx3
      have hN120 : (wr4 l).length ≤ 120 := by omega
      have HLL := Lib.hid hLl
      have HN := Lib.hid (show n ≤ 4 * l.length by omega)
      clear hv hLl HO h30 h30' hwf hcm
      generalize (wr4 l).length = N at *
      go_wp2_with fail
      refine (From_calls _ ((wr4 l).take n) w3 hbt (by rw [List.length_take]; omega)).mono ?_
      rintro e w4 ⟨B2, rfl, hB2, hin, hx4⟩
      have hin0 : InAt w4 TIn B2 (cutSt l n 0) := by unfold cutSt; simpa using hin
      have hb4 : Ext w w4 := hext.trans hx4
      have hB2w : w.heap.size ≤ B2 := Nat.le_trans hext.size hB2
      clear hin hx4 hbt hB2 hext HB hv
      go_wp2_with fail
      go_loopw [11, 12, 13, 48] (fun _ _ _ i wr => ∃ (j : Nat), j ≤ l.length ∧ i = .int .i64 (j : Int) ∧ InAt wr TIn B2 (cutSt l n j) ∧ Ext w wr) (fun _ _ _ i _ => l.length - (intOf i).toNat)
      case atStart => exact ⟨0, Nat.zero_le _, rfl, hin0, hb4⟩
      case round =>
        obtain ⟨j, hj, rfl, hI, hE⟩ := hrel
        by_cases hlt : j < l.length
        · obtain ⟨c, hc⟩ : ∃ c, l[j]? = some c := ⟨_, List.getElem?_eq_getElem hlt⟩
          have hcm' : c ∈ l := List.mem_of_getElem? hc
          have hc32 := hl32 c hcm'
          obtain ⟨b, off, rfl, hd⟩ := hcell (fun h => by rw [h] at hlt; simp at hlt)
          have hd' := hd j c hc
          have hwc : IntKind.u64.wrap (c : Int) = (c : Int) := by rw [IntKind.wrap_u64]; omega
          have hjw : (j : Int) < (l.length : Int) := by omega
          clear hd hcm' hl32 hin0 hb4
          have HX := Lib.hid hc
          have hsp : ∀ m : Nat, (cutSt l n m).isNone = !decide (4 * m ≤ n) := fun m => cut_none
          by_cases hw : 4 * j + 4 ≤ n
          · obtain ⟨k1, k2⟩ := cut_whole hc hc32 HN.out hw
            have hwi : decide (4 * (j : Int) + 4 ≤ (n : Int)) = true := by apply decide_eq_true; omega
            have hsn : (cutSt l n (j + 1)).isNone = false := by rw [hsp]; simp; omega
            clear hc hsp
            go_wp2_with fail
            refine (Get_calls B2 _ 4 wr hI (by decide) (by decide)).mono ?_
            rintro e w5 hG
            rw [show getW 4 = 4 from rfl, k1] at hG
            obtain ⟨rfl, hI5, ht5⟩ := hG
            simp only at hI5
            rw [show numB (beB 4 c, cutSt l n (j + 1)).1 = c from k2]
            have hE5 : Ext w w5 := hE.below.trans (ht5.below hE.size hB2w (fun g h => by cases h))
            have hd5 : w5.cell? ⟨b, off + j, none⟩ = some (.int .u32 (c : Int)) := hE5.cell hd'
            clear k1 k2
            go_wp2_with fail
            refine (InSpoilt_calls B2 _ w5 hI5).mono ?_
            rintro e w6 ⟨rfl, rfl⟩
            rw [hsn]
            go_wp2_with fail
            go_roundw
            case rel => exact ⟨j + 1, by omega, by go_num, hI5, hE5⟩
            case measure => simp [intOf]; omega
          · obtain ⟨k1, k2⟩ := cut_short (l := l) (j := j) HN.out (show n < 4 * j + 4 by omega)
            have hwi : decide (4 * (j : Int) + 4 ≤ (n : Int)) = false := by apply decide_eq_false; omega
            have hsn : (cutSt l n (j + 1)).isNone = true := by rw [k2]; rfl
            clear hc hsp
            go_wp2_with fail
            refine (Get_calls B2 _ 4 wr hI (by decide) (by decide)).mono ?_
            rintro e w5 hG
            rw [show getW 4 = 4 from rfl, k1] at hG
            obtain ⟨rfl, hI5, ht5⟩ := hG
            rw [show ((([] : List UInt8), (none : Option (List UInt8))).2) = cutSt l n (j + 1) from k2.symm] at hI5
            have hE5 : Ext w w5 := hE.below.trans (ht5.below hE.size hB2w (fun g h => by cases h))
            rw [show ((numB (([] : List UInt8), (none : Option (List UInt8))).1 : Nat) : Int) = 0 from rfl]
            clear k1 k2
            go_wp2_with fail
            refine (InSpoilt_calls B2 _ w5 hI5).mono ?_
            rintro e w6 ⟨rfl, rfl⟩
            rw [hsn]
            go_wp2_with fail
            go_roundw
            case rel => exact ⟨j + 1, by omega, by go_num, hI5, hE5⟩
            case measure => simp [intOf]; omega
        · have hjl : j = l.length := by omega
          subst hjl
          have hend := cut_end (l := l) HN.out
          have hnN : ((n : Int) == (N : Int)) = decide (n = 4 * l.length) := by
            have := HLL.out
            rw [Bool.eq_iff_iff]; simp only [beq_iff_eq, decide_eq_true_eq]; omega
          go_wp2_with fail
          refine (Done_calls B2 _ wr hI).mono ?_
          rintro e w5 ⟨rfl, rfl⟩
          rw [hend]
          go_wp2_with fail
          go_ret
          exact ⟨rfl, hE⟩
end Go.Proofs.Ytolmcdimhnnpaaa.VOct
