/- stamp.Copy: the same messages, in memory of their own. -/
import Derived.Test.YtjhhcfadeankfaaVMsgs
import Derived.Test.YtjhhcfadeankfaaVOwnSet
namespace Go.Proofs.Ytjhhcfadeankfaa.VMsg
open Go.RowKit Go.VBase Go.VRg Go.VEq VCst

def CloneMPost (l : List (MsgD × Sl3)) (w : World) (e : Ending) (w' : World) : Prop :=
  ∃ u, e = .returned u ∧ OwnG encM 4 w' w.heap.size TMsg u l ∧ Ext w w'
set_option maxHeartbeats 1000000 in
theorem cloneM_calls (v : Value) (l : List (MsgD × Sl3)) (w : World) (hv : MsgsE w v l) (hl : l.length ≤ 1000000) :
    Calls Try.prog 27 #[v] w (CloneMPost l w) := by
  obtain ⟨a, cap, rfl, h1, h2, h3⟩ := hv
  cases a with
  | none =>
    have hm : l = [] := by
      cases l with
      | nil => rfl
      | cons x l => obtain ⟨b, off, h, _⟩ := h3 0 x rfl; cases h
    subst hm
    clear h3
    have hq := fun W => Lib.run_eql_slice_nil (P := Try.prog) W 25 TMsg none 0 cap 0 0 Try.underlying25
    go_enter Try.func27, Try.ntmps27
    go_wp2_with fail
    go_ret
    exact ⟨_, rfl, OwnG.nil _ _ _, Ext.refl _⟩
  | some x =>
    have hq := fun W => Lib.run_eql_slice_nil (P := Try.prog) W 25 TMsg (some x) l.length cap 0 0 Try.underlying25
    have HC := Lib.hid h3
    clear h3
    go_enter Try.func27, Try.ntmps27
    go_wp2_with (at_builtin; refine wpList_append_Gs msgSl (by decide) encM_len encM_one rfl _ _ rfl l (by rfl) (by rfl) (OwnG.made0 w w.heap.size _ (Nat.le_refl _)) ?hx ?hl ?hl2 ?hb ?hk)
    case hx =>
      cases l with
      | nil => intro j u hu; simp at hu
      | cons y l =>
        obtain ⟨b, off, hbo, _⟩ := HC.out 0 y rfl
        cases hbo
        refine cells_flat (by decide) encM_len fun i j z u hz hu => ?_
        obtain ⟨b', off', hbo, d0, d1, d2, d3, _⟩ := HC.out i z hz
        cases hbo
        have hx := Ext.alloc w (.cells #[] TMsg)
        have hj : j < 4 := (List.getElem?_eq_some_iff.1 hu).1
        match j, hu with
        | 0, hu => cases hu; exact hx.cell d0
        | 1, hu => cases hu; exact hx.cell d1
        | 2, hu => cases hu; exact hx.cell d2
        | 3, hu => cases hu; exact hx.cell d3
    case hl => simp; omega
    case hl2 => simp [maxLen]; omega
    case hb => simp
    case hk =>
    intro u w' ho hg
    obtain ⟨a', cap', rfl⟩ := ho.slice
    go_wp2_with fail
    go_ret
    exact ⟨_, rfl, ho, Below.trans (Ext.alloc w _) (grown_below hg (by simp) (fun k h => by cases h; exact Nat.le_refl _))⟩

/-- A row of bytes stays when a cell of messages is written. -/
theorem ownB_setM {W : World} {b1 b2 g n cap : Nat} {v : Value} {l : List UInt8} {m : List (MsgD × Sl3)} (h : OwnB W b1 TBy v l) (k : OwnG encM 4 W b2 TMsg (.slice (some ⟨g, 0, none⟩) n cap) m) (i : Nat) (u : Value) : OwnB (W.setCell ⟨g, i, none⟩ u) b1 TBy v l := by
  have ha := own_apart h k
  exact World.ownsRow.kept h (row := some g) ⟨rfl, rfl, rfl, by simp, fun q hq hne => heap_setCell_other _ _ _ _ (by simpa using fun e => hne (by rw [e]))⟩ ha

set_option maxHeartbeats 2000000 in
theorem stampCopy_calls (v : Value) (l : List (MsgD × Sl3)) (w : World) (hv : MsgsE w v l) (hs : Small l) :
    Calls Try.prog 12 #[v] w (RCopyPost l w) := by
  obtain ⟨hl50, hs⟩ := hs
  have hC := cloneM_calls v l w hv (by omega)
  have hbys : ∀ (i : Nat) (x : MsgD × Sl3), l[i]? = some x → Bys w (slV x.2) x.1.b := fun i x hx => by
    obtain ⟨_, _, _, _, _, h4⟩ := hv
    obtain ⟨_, _, _, _, _, _, _, h⟩ := h4 i x hx
    exact h
  obtain ⟨a, cap, rfl, hcap, hcm, _⟩ := hv
  have HBY := Lib.hid hbys
  clear hbys
  go_enter Try.func12, Try.ntmps12
  go_wp2_with fail
  refine hC.mono ?_
  rintro e w1 ⟨u, rfl, hO, hE⟩
  obtain ⟨ua, uc, rfl⟩ := hO.slice
  clear hC
  go_wp2_with fail
  go_loopw [4, 9] (fun _ i wr => ∃ (j : Nat) (m : List (MsgD × Sl3)), j ≤ l.length ∧ i = .int .i64 (j : Int) ∧ m.map Prod.fst = l.map Prod.fst ∧ OwnG encM 4 wr w.heap.size TMsg (.slice ua l.length uc) m ∧ (∀ (i : Nat), j ≤ i → m[i]? = l[i]?) ∧ (∀ (i : Nat) (x : MsgD × Sl3), i < j → m[i]? = some x → OwnB wr w.heap.size TBy (slV x.2) x.1.b) ∧ Ext w wr) (fun _ i _ => l.length - (intOf i).toNat)
  case atStart => exact ⟨0, l, Nat.zero_le _, rfl, rfl, hO, fun _ _ => rfl, fun i x hi => absurd hi (by omega), hE⟩
  case round =>
    clear hO hE
    obtain ⟨j, m, hj, rfl, hm, hO, hsame, hnew, hE⟩ := hrel
    have hml : m.length = l.length := by simpa using congrArg List.length hm
    have HM := Lib.hid (And.intro hm (And.intro hml (And.intro hsame hnew)))
    clear hm hml hnew
    by_cases hlt : j < l.length
    · obtain ⟨x, hx⟩ := get_some hlt
      have hmx := hsame j (Nat.le_refl _)
      rw [hx] at hmx
      obtain ⟨g, gc, hgv, -, -⟩ := hO.there (by intro e; rw [e] at hmx; simp at hmx)
      rw [HM.out.2.1] at hgv
      simp only [Value.slice.injEq] at hgv
      obtain ⟨rfl, -, rfl⟩ := hgv
      obtain ⟨hgb, hgl, c3, f3⟩ := hO.at_ encM_len hmx (j := 3) rfl
      have hxb := (HBY.out j x hx).ext hE
      have hb3 := hs x (List.mem_of_getElem? hx)
      have hjw : (j : Int) < (l.length : Int) := by omega
      obtain ⟨x, s⟩ := x
      obtain ⟨sa, sn, sc⟩ := s
      unfold slV at c3 hxb
      simp only at c3 hxb hb3
      have HX := Lib.hid (And.intro hx hmx)
      clear hx hmx hs hsame
      go_wp2_with fail
      refine (bytesClone_calls _ x.b wr hxb (by omega)).mono ?_
      rintro e w2 ⟨u, rfl, hu, h2⟩
      have c3' := h2.cell c3
      have hO2 := hO.ext h2
      have f3' := (hO2.at_ encM_len HX.out.2 (j := 3) rfl).2.2.2
      obtain ⟨u1, u2, rfl⟩ := hu.slice
      have hS := hO2.set encM_len j 3 (x, (u1, x.b.length, u2)) (.slice u1 x.b.length u2) HX.out.2 (by decide) rfl
      have hE' : Ext w (w2.setCell ⟨g, j * 4 + 3, none⟩ (.slice u1 x.b.length u2)) := Below.setCell (hE.trans h2) hgb _
      have hnw : OwnB (w2.setCell ⟨g, j * 4 + 3, none⟩ (.slice u1 x.b.length u2)) w.heap.size TBy (.slice u1 x.b.length u2) x.b := ownB_setM (hu.mono hE.size) hO2 _ _
      have hold : ∀ (i : Nat) (y : MsgD × Sl3), i < j → m[i]? = some y → OwnB (w2.setCell ⟨g, j * 4 + 3, none⟩ (.slice u1 x.b.length u2)) w.heap.size TBy (slV y.2) y.1.b := fun i y hi hy => ownB_setM ((HM.out.2.2.2 i y hi hy).ext h2) hO2 _ _
      have HF := Lib.hid (And.intro hS (And.intro hE' (And.intro hnw hold)))
      have hjm : j < m.length := by have := HM.out.2.1; omega
      clear hS hE' hnw hold hO hO2 hu c3 f3 hxb h2
      go_wp2_with fail
      go_roundw
      case rel =>
        refine ⟨j + 1, m.set j (x, (u1, x.b.length, u2)), by omega, by go_num, ?_, HF.out.1, fun i hi => ?_, fun i y hi hy => ?_, HF.out.2.1⟩
        · rw [List.map_set, ← HM.out.1]
          apply List.ext_getElem?
          intro k
          rw [List.getElem?_set]
          split
          · rename_i hk; subst hk
            rw [List.length_map, if_pos hjm, List.getElem?_map, HX.out.2]; rfl
          · rfl
        · rw [List.getElem?_set_ne (by omega)]; exact HM.out.2.2.1 i (by omega)
        · rw [List.getElem?_set] at hy
          split at hy
          · rename_i hk; subst hk
            cases hy
            exact HF.out.2.2.1
          · exact HF.out.2.2.2 i y (by omega) hy
      case measure => simp [intOf]; omega
    · have hjl : j = l.length := by omega
      subst hjl
      clear hs hsame
      go_wp2_with fail
      go_ret
      refine ⟨_, m, rfl, hO, HM.out.1, fun x hx => ?_, hE⟩
      obtain ⟨i, hi⟩ := List.getElem?_of_mem hx
      exact HM.out.2.2.2 i x (by have := (List.getElem?_eq_some_iff.1 hi).1; have := HM.out.2.1; omega) hi
end Go.Proofs.Ytjhhcfadeankfaa.VMsg
