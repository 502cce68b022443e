/- vesperslaw05: bytes, alive. -/
import Derived.Test.YtfjjgceagpcfkaaVFrmE
namespace Go.Proofs.Ytfjjgceagpcfkaa.VSta
open Go.RowKit Go.VBase Go.VRg Go.VSeq Go.VOct VOct VCst Go.Proofs.Ytfjjgceagpcfkaa.VCrc _root_.Go.VCrc VMsg

set_option maxRecDepth 100000 in
set_option maxHeartbeats 2000000 in
theorem bytes_calls (f : FrmD) (sx : Sl3) (w : World) (hx : Bys w (slV sx) f.b) (hv0 : 0 ≤ f.v) (hv : f.v < 65536) :
    Calls Try.prog 26 #[.agg (frmC f (slV sx))] w (MadeB w TB ((encF f).getD [])) := by
  have x0 := Ext.alloc w (.cells (frmC f (slV sx)) TFrm)
  have kE := frmEncode_calls f sx _ (hx.ext x0) hv0 hv
  unfold EncFPost at kE
  generalize encF f = x at *
  obtain ⟨z, hz⟩ : ∃ z : Int, (if x.isSome then 0 else 50) = z := ⟨_, rfl⟩
  rw [hz] at kE
  clear hx hv0 hv hz
  obtain ⟨sa, sn, sc⟩ := sx
  unfold frmC slV at *
  simp only at *
  go_enter Try.func26, Try.ntmps26
  go_wp2_with fail
  refine kE.mono ?_
  rintro e w1 ⟨u, rfl, hu, h1, -⟩
  have x1 := x0.trans h1
  have hs := x0.size
  clear kE x0 h1
  go_wp2_with fail
  go_ret
  exact ⟨u, rfl, hu.mono hs, x1⟩

def fC : FrmD := ⟨4, 0, 5, 0, 0, []⟩
def fN : FrmD := ⟨1, 0, 0, 0, 0, [97, 98]⟩
theorem fC_enc : ((encF fC).getD []).length = 5 ∧ ((encF fC).getD []).take 2 = [4, 5] := by
  have hc : chkF fC = true := by decide
  have e : encF fC = some (frmBy fC) := by unfold encF; exact if_pos hc
  rw [e]
  refine ⟨(frm_len hc).trans (by decide), ?_⟩
  show (frmBy fC).take 2 = [4, 5]
  unfold frmBy
  have hl : (frontF fC).length = 2 := by decide
  rw [← hl, List.take_left]
  decide
theorem fN_enc : ((encF fN).getD []).length = 8 ∧ ((encF fN).getD []).take 5 = [1, 0, 2, 97, 98] := by
  have hc : chkF fN = true := by decide
  have e : encF fN = some (frmBy fN) := by unfold encF; exact if_pos hc
  rw [e]
  refine ⟨(frm_len hc).trans (by decide), ?_⟩
  show (frmBy fN).take 5 = [1, 0, 2, 97, 98]
  unfold frmBy
  have hl : (frontF fN).length = 5 := by decide
  rw [← hl, List.take_left]
  decide

set_option maxRecDepth 100000 in
set_option maxHeartbeats 4000000 in
theorem alive_calls (w : World) : Calls Try.prog 10 #[] w fun e w' => e = .returned (.bool true) ∧ Ext w w' := by
  have ks := fun (W : World) (v : Value) (l : List UInt8) (h : Bys W v l) => run_string_bys (P := Try.prog) Try.underlying26 Try.underlying5 Try.underlying9 h
  have kc := fun (w : World) (C : Array Value) (n c : Nat) => Lib.run_convert_bytes_const (P := Try.prog) w 26 5 C n c Try.underlying26 Try.underlying5
  have k1 := bytes_calls fC (none, 0, 0) w (Bys.nil w) (by decide) (by decide)
  have k2 := fun (W : World) (b : Nat) h => bytes_calls fN (some ⟨b, 0, none⟩, 2, 2) W h (by decide) (by decide)
  obtain ⟨e1, e2⟩ := fC_enc
  obtain ⟨e3, e4⟩ := fN_enc
  generalize (encF fC).getD [] = C at *
  generalize (encF fN).getD [] = N at *
  unfold frmC slV fC at k1
  unfold frmC slV at k2
  have hNb : fN = ⟨1, 0, 0, 0, 0, [97, 98]⟩ := rfl
  rw [hNb] at k2
  simp only at k1 k2
  have HE := Lib.hid (And.intro e1 (And.intro e2 (And.intro e3 e4)))
  clear e1 e2 e3 e4 hNb
  go_enter Try.func10, Try.ntmps10
  go_wp2_with fail
  refine k1.mono ?_
  rintro e w1 ⟨u, rfl, hu, h1⟩
  have hub := hu.bys (by rw [HE.out.1]; decide)
  obtain ⟨a, cap, hsl⟩ := hu.slice
  rw [HE.out.1] at hsl
  subst hsl
  clear k1 hu
  have hB : Bys (w1.alloc (.cells #[.int .u8 97, .int .u8 98] 5 (2, 3))) (.slice (some ⟨w1.heap.size, 0, none⟩) 2 2) [97, 98] := bys_new [97, 98] rfl rfl rfl (by simp [maxLen])
  have x1 := h1.thenAlloc (.cells #[.int .u8 97, .int .u8 98] 5 (2, 3))
  have k3 := k2 _ _ hB
  clear k2 h1
  have hub1 := hub.ext (Ext.alloc w1 (.cells #[.int .u8 97, .int .u8 98] 5 (2, 3)))
  clear hub
  go_wp2_with fail
  refine k3.mono ?_
  rintro e w2 ⟨v, rfl, hv, h2⟩
  have hvb := hv.bys (by rw [HE.out.2.2.1]; decide)
  obtain ⟨b, cab, hsl⟩ := hv.slice
  rw [HE.out.2.2.1] at hsl
  subst hsl
  have x2 := x1.trans h2
  have q1 := ks w2 _ _ ((hub1.ext h2).take (i := 2) (by rw [HE.out.1]; decide))
  have q2 := ks w2 _ _ (hvb.take (i := 5) (by rw [HE.out.2.2.1]; decide))
  rw [HE.out.2.1, show strB [4, 5] = (⟨#[4, 5]⟩ : ByteArray) from rfl] at q1
  rw [HE.out.2.2.2, show strB [1, 0, 2, 97, 98] = (⟨#[1, 0, 2, 97, 98]⟩ : ByteArray) from rfl] at q2
  have hc1 : 5 ≤ cap := by obtain ⟨a', c', h, hc, _⟩ := hub1; rw [HE.out.1] at hc h; simp only [Value.slice.injEq] at h; omega
  have hc2 : 8 ≤ cab := by obtain ⟨a', c', h, hc, _⟩ := hvb; rw [HE.out.2.2.1] at hc h; simp only [Value.slice.injEq] at h; omega
  clear k3 ks kc hub1 hvb hv hB x1 h2
  go_wp2_with fail
  go_ret
  exact ⟨rfl, x2⟩
end Go.Proofs.Ytfjjgceagpcfkaa.VSta
