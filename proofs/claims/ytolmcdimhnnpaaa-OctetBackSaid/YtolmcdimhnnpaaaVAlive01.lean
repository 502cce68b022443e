/- The chapter's first example holds. -/
import Derived.Test.YtolmcdimhnnpaaaVLen
import Derived.Test.YtolmcdimhnnpaaaVCh
namespace Go.Proofs.Ytolmcdimhnnpaaa.VOct
open Go.RowKit Go.VBase Go.VOct Go.VRg

set_option maxRecDepth 100000 in
set_option maxHeartbeats 1000000 in
theorem alive_calls (w : World) :
    Calls Try.prog 18 #[] w fun e w' => e = .returned (.bool true) ∧ Ext w w' := by
  have kc := fun (w : World) (C : Array Value) (n c : Nat) => Lib.run_convert_bytes_const (P := Try.prog) w 24 5 C n c Try.underlying24 Try.underlying5
  have ks := fun (W : World) (v : Value) (l : List UInt8) (h : Bys W v l) => run_string_bys (P := Try.prog) Try.underlying24 Try.underlying5 Try.underlying9 h
  go_enter Try.func18, Try.ntmps18
  go_wp2_with fail
  refine (Put_calls w.heap.size none (some []) 2 258 _ (OutAt.new w _ _) (by decide) (by decide)).mono ?_
  rintro e w1 ⟨rfl, r1, ho1, ht1, hn1⟩
  go_wp2_with fail
  refine (Put_calls w.heap.size r1 _ 1 7 _ ho1 (by decide) (by decide)).mono ?_
  rintro e w2 ⟨rfl, r2, ho2, ht2, hn2⟩
  go_wp2_with fail
  refine (Tail_calls w.heap.size r2 _ _ [97, 98] _ (ho2.ext (Ext.alloc _ _)) ?hb (by decide)).mono ?_
  case hb => exact bys_new _ rfl rfl rfl (by simp [maxLen])
  rintro e w3 ⟨rfl, r3, ho3, ht3, hn3⟩
  rw [show stTail (stPut (stPut (some []) 2 258) 1 7) [97, 98] = some [1, 2, 7, 97, 98] by decide] at ho3
  have hx3 : Ext w w3 := by
    have s1 := ht1.size
    have s2 := ht2.size
    have s3 := ht3.size
    simp only [World.size_alloc] at s1 s2 s3
    have n1 := fun g h => hn1 g h
    simp only [World.size_alloc] at n1
    have b1 : Below w.heap.size _ w1 := ht1.below (by simp) (Nat.le_refl _) (fun g h => by cases h)
    have b2 : Below w.heap.size w1 w2 := ht2.below (by omega) (Nat.le_refl _) (fun g h => by rcases n1 g h with h | h; cases h; omega)
    have b3 : Below w.heap.size _ w3 := ht3.below (by simp; omega) (Nat.le_refl _) (fun g h => by
      rcases hn2 g h with h | h
      · rcases n1 g h with h | h; cases h; omega
      · omega)
    exact ((Ext.alloc w _).below.trans b1).trans (b2.trans (((Ext.alloc w2 _).below.mono (by omega)).trans b3))
  go_wp2_with fail
  refine (All_calls w.heap.size r3 _ _ ho3 (by decide)).mono ?_
  rintro e w4 ⟨v, rfl, hv, hx4⟩
  have k1 := ks w4 _ [1, 2, 7, 97, 98] (hv.bys (by decide))
  rw [show strB [1, 2, 7, 97, 98] = (⟨#[1, 2, 7, 97, 98]⟩ : ByteArray) from rfl] at k1
  go_wp2_with fail
  refine (Len_calls w.heap.size r3 _ _ (ho3.ext hx4)).mono ?_
  rintro e w5 ⟨rfl, rfl⟩
  rw [show ((stAll (some [(1 : UInt8), 2, 7, 97, 98])).length : Int) = 5 from rfl]
  go_wp2_with fail
  refine (Spoilt_calls w.heap.size r3 _ _ (ho3.ext hx4)).mono ?_
  rintro e w5 ⟨rfl, rfl⟩
  go_wp2_with fail
  go_ret
  exact ⟨rfl, hx3.trans hx4⟩
end Go.Proofs.Ytolmcdimhnnpaaa.VOct
