/- What crc.Table comes to. -/
import Derived.Test.YtlliemaohejpbaaVCrcOn
import Derived.Deep.MidRow
import Derived.Deep.WholeRow
namespace Go.Proofs.Ytlliemaohejpbaa.VCrc
open Go.RowKit Go.VBase Go.VCrc

/-- A table's cells, the first k of which are filled. -/
def tabL (k : Nat) : List Value := ((List.range k).map fun b => Value.int .u32 (entryN b : Nat)) ++ List.replicate (256 - k) (.int .u32 0)
def tabA (k : Nat) : Array Value := (tabL k).toArray

theorem tabL_len {k : Nat} (h : k ≤ 256) : (tabL k).length = 256 := by
  unfold tabL; rw [List.length_append, List.length_map, List.length_range, List.length_replicate]; omega
theorem tabA_size {k : Nat} (h : k ≤ 256) : (tabA k).size = 256 := by unfold tabA; rw [List.size_toArray, tabL_len h]
theorem tabA_next {k : Nat} (h : k < 256) : (tabA k)[k]? = some (.int .u32 0) := by
  unfold tabA tabL
  rw [List.getElem?_toArray, List.getElem?_append_right (by simp), List.getElem?_replicate]
  simp only [List.length_map, List.length_range, Nat.sub_self]
  rw [if_pos (by omega)]
theorem tabA_set {k : Nat} (h : k < 256) : (tabA k).setIfInBounds k (.int .u32 (entryN k : Nat)) = tabA (k + 1) := by
  unfold tabA
  rw [List.setIfInBounds_toArray]
  congr 1
  unfold tabL
  rw [List.set_append_right _ _ (by simp), List.range_succ, List.map_append, List.append_assoc]
  congr 1
  simp only [List.length_map, List.length_range, Nat.sub_self]
  rw [show 256 - k = (256 - (k + 1)) + 1 from by omega, List.replicate_succ]
  rfl
theorem tabA_get {b : Nat} (h : b < 256) : (tabA 256)[b]? = some (.int .u32 (entryN b : Nat)) := by
  unfold tabA tabL
  rw [List.getElem?_toArray, List.getElem?_append_left (by simp; omega), List.getElem?_map, List.getElem?_range h]; rfl

theorem tabA_one : (tabA 256).all (·.oneCell') = true := by
  unfold tabA
  rw [Array.all_eq_true_iff_forall_mem]
  intro v hv
  unfold tabL at hv
  simp only [List.mem_toArray, List.mem_append, List.mem_map, List.mem_replicate] at hv
  rcases hv with ⟨b, _, rfl⟩ | ⟨_, rfl⟩ <;> rfl
attribute [irreducible] tabA

theorem tabA_zero : tabA 0 = (List.replicate 256 (Value.int .u32 0)).toArray := by unfold tabA; rfl
theorem zero_tab (W : World) : (zeroValue 32).run Try.prog W = .ok (.agg (tabA 0)) W := by rw [tabA_zero]; kernel_rfl
theorem info_tab : (Try.prog.info? 32).map (·.size) = some 256 := by kernel_rfl

theorem cells_two (w : World) (a b : Obj) : ((w.alloc a).alloc b).heap[w.heap.size]? = some a := heap_alloc2_old w a b

set_option maxHeartbeats 400000 in
set_option maxRecDepth 100000 in
theorem Table_calls (w : World) :
    Calls Try.prog 16 #[] w fun e w' => e = .returned (.agg (tabA 256)) ∧ Ext w w' := by
  have hz := zero_tab
  go_enter Try.func16, Try.ntmps16
  go_wp2_with fail
  go_loopw [2, 3] (fun _ i wr => ∃ k : Nat, k ≤ 256 ∧ i = .int .i64 (k : Int) ∧ wr.heap[w.heap.size]? = some (.cells (tabA 0) 32) ∧ wr.heap[w.heap.size + 1]? = some (.cells (tabA k) 32) ∧ Ext w wr) (fun _ i _ => 256 - (intOf i).toNat)
  case atStart => exact ⟨0, by omega, rfl, heap_alloc2_old w _ _, heap_alloc2_new w _ _, (Ext.alloc _ _).thenAlloc _⟩
  case round =>
    obtain ⟨k, hk, rfl, h1, h2, h3⟩ := hrel
    by_cases hlt : k < 256
    · have hc : wr.cell? ⟨w.heap.size + 1, k, none⟩ = some (.int .u32 0) := (cell_of_row wr _ k _ _ _ h2).trans (tabA_next hlt)
      have hf : wr.frozen? ⟨w.heap.size + 1, k, none⟩ = false := frozen_of_row wr _ k _ _ h2
      have H1 := Lib.hid h1
      have H2 := Lib.hid h2
      clear h1 h2 hz
      go_wp2_with fail
      refine (entry_calls k _ hlt).mono ?_
      rintro e w' ⟨rfl, rfl⟩
      go_wp2_with fail
      go_roundw
      case rel =>
        refine ⟨k + 1, by omega, by go_num, ?_, ?_, ?_⟩
        · rw [heap_setCell_other _ _ _ _ (by simp)]; exact H1.out
        · rw [heap_setCell_same _ _ _ _ _ _ H2.out, tabA_set hlt]
        · exact Below.setCell h3 (by simp) _
      case measure => simp [intOf]; omega
    · have hk' : k = 256 := by omega
      subst hk'
      have H1 := Lib.hid h1
      have H2 := Lib.hid h2
      clear h1 h2 hz
      go_wp2_with (first | refine wpList_load_row rfl 32 _ rfl (w.heap.size + 1) rfl _ _ _ _ H2.out Try.underlying32 rfl (by rw [tabA_size (Nat.le_refl _)]; exact info_tab) ?_ | refine wpList_store_row rfl 32 _ _ rfl w.heap.size (tabA 256) rfl rfl _ _ H1.out (by rw [tabA_size (Nat.le_refl _)]; exact info_tab) (by rw [tabA_size (Nat.le_refl _), tabA_size (Nat.zero_le _)]) tabA_one ?_)
      refine bodyPost_ret (v := .agg (tabA 256)) (results_cell_row rfl _ _ w.heap.size 32 (tabA 256) (0, 0) _ (by rfl) (setRow_heap _ _ _ _ _ _ H1.out) Try.underlying32 rfl (by rw [tabA_size (Nat.le_refl _)]; exact info_tab)) rfl ⟨rfl, ?_⟩
      exact Ext.setRow h3 (Nat.le_refl _) _
end Go.Proofs.Ytlliemaohejpbaa.VCrc
