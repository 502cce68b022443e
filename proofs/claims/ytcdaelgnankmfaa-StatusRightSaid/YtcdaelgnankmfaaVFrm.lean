/- Frames: what they are in memory; whether two are the same. -/
import Derived.Test.YtcdaelgnankmfaaVMsgSame
namespace Go.Proofs.Ytcdaelgnankmfaa.VSta
open Go.RowKit Go.VBase Go.VRg Go.VEq VCst VMsg

abbrev TFrm : TypeId := 28
/-- A frame: its kind, its C-state, its data. -/
structure FrmD where
  k : Int
  r : Int
  s : Int
  m : Int
  v : Int
  b : List UInt8
def frmC (f : FrmD) (u : Value) : Array Value := #[.int .i64 f.k, .int .i64 f.r, .int .i64 f.s, .int .i64 f.m, .int .u16 f.v, u]
def sameF (x y : FrmD) : Bool := (x.k == y.k) && ((x.r == y.r) && ((x.s == y.s) && ((x.m == y.m) && (x.v == y.v)))) && (x.b == y.b)

set_option maxHeartbeats 2000000 in
theorem frameSame_calls (x y : FrmD) (sx sy : Sl3) (w : World) (hx : Bys w (slV sx) x.b) (hy : Bys w (slV sy) y.b) : Calls Try.prog 26 #[.agg (frmC x (slV sx)), .agg (frmC y (slV sy))] w fun e w' => e = .returned (.bool (sameF x y)) ∧ Ext w w' := by
  obtain ⟨sa, sn, sc⟩ := sx
  obtain ⟨ta, tn, tc⟩ := sy
  unfold frmC slV
  simp only
  go_enter Try.func26, Try.ntmps26
  have kE := fun W h1 h2 => bytesEqual_calls (.slice sa sn sc) (.slice ta tn tc) x.b y.b W h1 h2
  unfold slV at hx hy
  simp only at hx hy
  have hE := Lib.hid (show ∀ o o', Ext w ((w.alloc o).alloc o') from fun o o' => (Ext.alloc w o).thenAlloc o')
  go_wp2_with fail
  all_goals
    first
      | (refine (kE _ (hx.ext (hE.out _ _)) (hy.ext (hE.out _ _))).mono ?_
         rintro e w1 ⟨rfl, rfl⟩
         go_wp2_with fail
         go_ret
         exact ⟨by simp_all [sameF], hE.out _ _⟩)
      | (go_ret
         exact ⟨by simp_all [sameF], hE.out _ _⟩)

set_option maxHeartbeats 4000000 in
theorem refFrameSame_calls (x y : FrmD) (sx sy : Sl3) (w : World) (hx : Bys w (slV sx) x.b) (hy : Bys w (slV sy) y.b) : Calls Try.prog 24 #[.agg (frmC x (slV sx)), .agg (frmC y (slV sy))] w fun e w' => e = .returned (.bool (sameF x y)) ∧ Ext w w' := by
  have hE := Lib.hid (show ∀ o o', Ext w ((w.alloc o).alloc o') from fun o o' => (Ext.alloc w o).thenAlloc o')
  have k1 := fun o o' => run_string_bys (P := Try.prog) Try.underlying26 Try.underlying5 Try.underlying9 (hx.ext (hE.out o o'))
  have k2 := fun o o' => run_string_bys (P := Try.prog) Try.underlying26 Try.underlying5 Try.underlying9 (hy.ext (hE.out o o'))
  have hb : ((strB x.b).toList == (strB y.b).toList) = (x.b == y.b) := by rw [strB_toList, strB_toList]
  have hs : sameF x y = ((x.k == y.k) && ((x.r == y.r) && ((x.s == y.s) && ((x.m == y.m) && (x.v == y.v)))) && ((strB x.b).toList == (strB y.b).toList)) := by rw [hb]; rfl
  rw [hs]
  clear hb hs
  obtain ⟨sa, sn, sc⟩ := sx
  obtain ⟨ta, tn, tc⟩ := sy
  unfold frmC
  unfold slV at *
  simp only at *
  generalize strB x.b = s1 at *
  generalize strB y.b = s2 at *
  clear hx hy
  go_enter Try.func24, Try.ntmps24
  go_wp2_with fail
  all_goals
    go_ret
    exact ⟨by simp_all, hE.out _ _⟩
end Go.Proofs.Ytcdaelgnankmfaa.VSta
