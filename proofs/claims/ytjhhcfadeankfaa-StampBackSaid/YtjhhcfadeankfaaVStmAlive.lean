/- stamp's laws: the plan 'some', and 'alive'. -/
import Derived.Test.YtjhhcfadeankfaaVStmEnc
import Derived.Test.YtjhhcfadeankfaaVPlanG
namespace Go.Proofs.Ytjhhcfadeankfaa.VMsg
open Go.RowKit Go.VBase Go.VRg Go.VEq VCst Go.VPlan VPlan Go.VOct VOct

def someW : PlanD := ⟨4, 1, 0, 0, 0, 1, 1, 3, 100000, 0, 0, 0, 4, 2, 8, 0⟩
def someD : PlanD := seqD (baseD someW) 1
theorem some_fit : fitB someW 1 = true := by decide +kernel
theorem someD_ok : planOk someD = true := by decide +kernel

set_option maxRecDepth 100000 in
set_option maxHeartbeats 4000000 in
theorem some_calls (w : World) : Calls Try.prog 26 #[] w fun e w' => e = .returned (planV someD) ∧ Ext w w' := by
  have kF := fun W => Fit_calls someW 1 some_fit W
  rw [show seqD (baseD someW) 1 = someD from rfl] at kF
  generalize hD : someD = D at *
  have r0 := heap_alloc_new w (.cells (planC zeroD) 32)
  have x0 := Ext.alloc w (.cells (planC zeroD) 32)
  clear hD
  go_enter Try.func26, Try.ntmps26
  go_wp2_with (refine buildP (T := 32) (q := someW) rfl rfl (by rfl) ?_)
  refine (kF _).mono ?_
  rintro e w2 ⟨rfl, h⟩
  have r2 := h.block r0
  have x2 := x0.trans h
  have hlt : w.heap.size < w2.heap.size := (Array.getElem?_eq_some_iff.1 r2).1
  have ra := heap_alloc_new w2 (.cells (planC zeroD) 32)
  have ra0 := (Ext.alloc w2 (.cells (planC zeroD) 32)).block r2
  have rb := setRow_heap (w2.alloc (.cells (planC zeroD) 32)) w2.heap.size _ (planC D) _ _ ra
  have rc := (setRow_other (w2.alloc (.cells (planC zeroD) 32)) w2.heap.size w.heap.size (planC D) (by omega)).trans ra0
  have rd := setRow_heap ((w2.alloc (.cells (planC zeroD) 32)).setRow w2.heap.size (planC D)) w.heap.size _ (planC D) _ _ rc
  have xd : Ext w (((w2.alloc (.cells (planC zeroD) 32)).setRow w2.heap.size (planC D)).setRow w.heap.size (planC D)) := ((x2.thenAlloc _).setRow (by omega) _).setRow (Nat.le_refl _) _
  clear r0 x0 kF h r2 ra0
  go_wp2_with (first | (refine storePlan (p := D) ra rfl rfl rfl rfl ?_) | (refine loadPlanP rb rfl rfl rfl ?_) | (refine storePlan (p := D) rc rfl rfl rfl rfl ?_))
  refine bodyPost_ret (results_cell_row rfl _ _ w.heap.size _ _ _ _ (by rfl) rd Try.underlying32 rfl (by kernel_rfl)) rfl ?_
  exact ⟨rfl, xd⟩

def aliveM : MsgD := ⟨258, 1, 2, [97, 98]⟩
theorem alive_enc : encS someD [aliveM] = some [1, 0, 0, 0, 0, 0, 0, 1, 2, 1, 0, 0, 0, 2, 2, 97, 98] := by decide +kernel

set_option maxRecDepth 100000 in
set_option maxHeartbeats 4000000 in
theorem alive_calls (w : World) : Calls Try.prog 18 #[] w fun e w' => e = .returned (.bool true) ∧ Ext w w' := by
  have ks := fun (W : World) (v : Value) (l : List UInt8) (h : Bys W v l) => run_string_bys (P := Try.prog) Try.underlying22 Try.underlying5 Try.underlying9 h
  have kc := fun (w : World) (C : Array Value) (n c : Nat) => Lib.run_convert_bytes_const (P := Try.prog) w 22 5 C n c Try.underlying22 Try.underlying5
  have kS := fun W => some_calls W
  have kE := fun v l W h1 h2 => stampEncode_calls someD l v W h1 h2
  generalize hD : someD = D at *
  have HD := Lib.hid hD
  clear hD
  go_enter Try.func18, Try.ntmps18
  go_wp2_with fail
  refine (kS _).mono ?_
  rintro e w1 ⟨rfl, x1⟩
  clear kS
  have hB : Bys (w1.alloc (.cells #[.int .u8 97, .int .u8 98] 5 (2, 3))) (.slice (some ⟨w1.heap.size, 0, none⟩) 2 2) [97, 98] := bys_new [97, 98] rfl rfl rfl (by simp [maxLen])
  have hM : MsgsE ((w1.alloc (.cells #[.int .u8 97, .int .u8 98] 5 (2, 3))).alloc (.cells #[.int .i64 258, .int .i64 1, .int .i64 2, .slice (some ⟨w1.heap.size, 0, none⟩) 2 2] TMsg)) (.slice (some ⟨w1.heap.size + 1, 0, none⟩) 1 1) [(aliveM, (some ⟨w1.heap.size, 0, none⟩, 2, 2))] :=
    ⟨_, 1, rfl, by simp, by simp [maxLen], fun i x hx => by
      match i, hx with
      | 0, hx =>
        cases hx
        exact ⟨w1.heap.size + 1, 0, rfl, cell_new_at (by simp) rfl, cell_new_at (by simp) rfl, cell_new_at (by simp) rfl, cell_new_at (by simp) rfl, hB.alloc _⟩⟩
  have x2 := (x1.thenAlloc (.cells #[.int .u8 97, .int .u8 98] 5 (2, 3))).thenAlloc (.cells #[.int .i64 258, .int .i64 1, .int .i64 2, .slice (some ⟨w1.heap.size, 0, none⟩) 2 2] TMsg)
  have kE2 := kE _ _ _ hM (fun x hx => by simp at hx; subst hx; exact (show Wfm aliveM from ⟨by decide, by decide, by decide⟩))
  rw [show List.map Prod.fst [((aliveM, (some ⟨w1.heap.size, 0, none⟩, 2, 2)) : MsgD × Sl3)] = [aliveM] from rfl, ← HD.out, alive_enc, HD.out] at kE2
  clear kE hB hM x1
  have hs17 : strB [1, 0, 0, 0, 0, 0, 0, 1, 2, 1, 0, 0, 0, 2, 2, 97, 98] = (⟨#[1, 0, 0, 0, 0, 0, 0, 1, 2, 1, 0, 0, 0, 2, 2, 97, 98]⟩ : ByteArray) := rfl
  go_wp2_with fail
  refine kE2.mono ?_
  rintro e w3 ⟨u, rfl, hu, x3, -⟩
  have hub := hu.bys (by simp [maxLen])
  have q := ks w3 u _ hub
  simp only [Option.getD_some] at q
  rw [hs17] at q
  have x4 := x2.trans x3
  simp only [Option.isSome_some, if_true]
  clear kE2 ks hu hub x2 x3 hs17 kc
  go_wp2_with fail
  go_ret
  exact ⟨rfl, x4⟩
end Go.Proofs.Ytjhhcfadeankfaa.VMsg
