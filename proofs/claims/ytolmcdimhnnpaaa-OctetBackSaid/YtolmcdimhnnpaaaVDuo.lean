/- An In, the reference's In beside it, and a row of bytes that is neither's. -/
import Derived.Test.YtolmcdimhnnpaaaVRefIn
import Derived.Test.YtolmcdimhnnpaaaVTrio
namespace Go.Proofs.Ytolmcdimhnnpaaa.VOct
open Go.RowKit Go.VBase Go.VOct Go.VRg

/-- What the In in block B reads lies not in block g. -/
def Sep (W : World) (B : Nat) (st : Option (List UInt8)) (g : Nat) : Prop := ∀ u l, W.heap[B]? = some (.cells #[u, .bool true] TIn) → st = some l → l ≠ [] → Clear u g none

def TakePost2 (w : World) (B : Nat) (x : List UInt8 × Option (List UInt8)) (e : Ending) (w' : World) : Prop :=
  ∃ u, e = .returned u ∧ OwnB w' w.heap.size TB u x.1 ∧ InAt w' TIn B x.2 ∧ TouchO B none w w' ∧ ∀ g, u.ownBlock = some g → Sep w' B x.2 g

set_option maxHeartbeats 400000 in
theorem Take_calls2 (B : Nat) (st : Option (List UInt8)) (n : Int) (w : World) (h : InAt w TIn B st) (h0 : -9223372036854775808 ≤ n) (h1 : n ≤ 9223372036854775807) (hl : (stAll st).length ≤ 140737488355328) :
    Calls Try.prog 23 #[.pointer (some ⟨B, 0, none⟩), .int .i64 n] w (TakePost2 w B (inTake st n)) := by
  have hlen := inTake_len st n
  have HX := Lib.hid (next_calls B st n w h h0 h1)
  obtain ⟨x, hx⟩ : ∃ x, inTake st n = x := ⟨_, rfl⟩
  rw [hx] at HX hlen ⊢
  clear hx h
  go_enter Try.func23, Try.ntmps23
  go_wp2_with fail
  refine HX.out.mono ?_
  rintro e w1 ⟨u, rfl, hb, _, hin, ht⟩
  have hb' := hb
  obtain ⟨a, cap, rfl, _⟩ := hb'
  clear HX
  go_wp2_with fail
  refine (Clone_calls _ x.1 _ hb (by omega)).mono ?_
  rintro e w2 ⟨u, rfl, ho, hx⟩
  have hge := fun g hg => (World.ownsRow.lt ho g hg).1
  obtain ⟨a', cap', rfl⟩ := ho.slice
  have HG := Lib.hid hge
  clear hge
  go_wp2_with fail
  go_ret
  refine ⟨_, rfl, ho.mono ht.size, hin.ext hx, ht.same (TouchO.of_ext hx), fun g hg v l hv hst hne => ?_⟩
  have hgg := HG.out g hg
  rw [hst] at hin
  obtain ⟨v1, h1, h2, h3⟩ := hin
  have e := (hx.block h1).symm.trans hv
  simp at e
  obtain rfl := e
  exact bys_clear h2 hgg hne

def FromPost2 (w : World) (l : List UInt8) (e : Ending) (w' : World) : Prop := ∃ B, e = .returned (.pointer (some ⟨B, 0, none⟩)) ∧ w.heap.size ≤ B ∧ InAt w' TIn B (some l) ∧ Ext w w' ∧ ∀ g, g < w.heap.size → Sep w' B (some l) g

set_option maxHeartbeats 400000 in
theorem From_calls2 (v : Value) (l : List UInt8) (w : World) (hv : Bys w v l) (hl : l.length ≤ 140737488355328) :
    Calls Try.prog 20 #[v] w (FromPost2 w l) := by
  have hv' := hv
  obtain ⟨a, cap, rfl, _⟩ := hv'
  go_enter Try.func20, Try.ntmps20
  go_wp2_with fail
  refine (Clone_calls _ l _ hv hl).mono ?_
  rintro e w1 ⟨u, rfl, ho, hx⟩
  have hbys := ho.bys (by unfold maxLen; omega)
  have hhead := fun a len cap h => OwnB.head ho (a := a) (len := len) (cap := cap) h
  obtain ⟨a', cap', rfl⟩ := ho.slice
  have HH := Lib.hid hhead
  clear hhead
  go_wp2_with fail
  go_ret
  refine ⟨w1.heap.size, rfl, hx.size, ⟨_, heap_alloc_new w1 _, hbys.alloc _, fun a len cap h => ?_⟩, hx.thenAlloc _, fun g hg v m hv hst hne a len cap e => ?_⟩
  · have := HH.out a len cap h
    omega
  · have hv2 := (heap_alloc_new w1 (.cells #[.slice a' l.length cap', .bool true] TIn)).symm.trans hv
    simp at hv2
    rw [← hv2] at e
    have := HH.out a len cap e
    exact ⟨by omega, by simp⟩

structure Duo (w0 W : World) (Bx : Nat) (sx : Option (List UInt8)) (Br : Nat) (K : Option Nat) (sr : Option (List UInt8)) (v : Value) (l : List UInt8) : Prop where
  x : InAt W TIn Bx sx
  r : RInAt W Br K sr
  o : OwnB W w0.heap.size TB v l
  ext : Ext w0 W
  gx : w0.heap.size ≤ Bx
  gr : w0.heap.size ≤ Br
  ne : Bx ≠ Br
  kx : K ≠ some Bx
  kr : K ≠ some Br
  kl : ∀ k, K = some k → k < W.heap.size
  ox : v.ownBlock ≠ some Bx
  or_ : v.ownBlock ≠ some Br
  ok : v.ownBlock = none ∨ v.ownBlock ≠ K
  oc : ∀ g, v.ownBlock = some g → Sep W Bx sx g

/-- The reference's box is no row of bytes. -/
theorem sep_box {W : World} {Bx Br : Nat} {K : Option Nat} {sx sr : Option (List UInt8)} (hx : InAt W TIn Bx sx) (hr : RInAt W Br K sr) : ∀ v l, W.heap[Bx]? = some (.cells #[v, .bool true] TIn) → sx = some l → l ≠ [] → Clear v Br none := by
  intro v l hv hst hne a len cap e
  refine ⟨fun e2 => ?_, by simp⟩
  subst hst
  obtain ⟨v1, h1, ⟨a1, cap1, rfl, _, _, h4⟩, _⟩ := hx
  have e3 := h1.symm.trans hv
  simp at e3
  subst e3
  obtain ⟨b, off, rfl, h5⟩ := h4 hne
  cases e
  simp only at e2
  subst e2
  obtain ⟨c, hc⟩ : ∃ c, l[0]? = some c := by
    cases l with
    | nil => exact absurd rfl hne
    | cons c l => exact ⟨c, rfl⟩
  have h6 := h5 0 c hc
  have key : ∀ (cs : Array Value) (t : TypeId), W.heap[b]? = some (.cells cs t) → cs[off + 0]? = some (.int .u8 (c.toNat : Int)) := fun cs t hb => by
    unfold World.cell? at h6
    rw [hb] at h6
    simpa using h6
  have no : ∀ (p : Value) (q : Bool), (#[p, .bool q] : Array Value)[off + 0]? = some (.int .u8 (c.toNat : Int)) → (∃ a n k, p = .slice a n k) → False := fun p q h hp => by
    obtain ⟨a, n, k, rfl⟩ := hp
    match off, h with
    | 0, h => simp at h
    | 1, h => simp at h
    | n + 2, h => simp at h
  cases sr with
  | none => exact no _ _ (key _ _ hr) ⟨_, _, _, rfl⟩
  | some m =>
    obtain ⟨u, hu, ⟨a2, cap2, rfl, _⟩, _⟩ := hr
    exact no _ _ (key _ _ hu) ⟨_, _, _, rfl⟩

theorem Duo.later {w0 W W' : World} {Bx Br : Nat} {sx sr : Option (List UInt8)} {K : Option Nat} {v : Value} {l : List UInt8} (h : Duo w0 W Bx sx Br K sr v l) (e : Ext W W') : Duo w0 W' Bx sx Br K sr v l :=
  { h with x := h.x.ext e, r := h.r.ext e, o := h.o.ext e, ext := h.ext.trans e, kl := fun k hk => Nat.lt_of_lt_of_le (h.kl k hk) e.size, oc := fun g hg u m hu hst hne => h.oc g hg u m ((Below.block e _ h.x.lt).symm.trans hu) hst hne }
/-- A turn of the In; the row is dropped. -/
theorem Duo.turnX {w0 W W' : World} {Bx Br : Nat} {sx sr sx' : Option (List UInt8)} {K : Option Nat} {v : Value} {l : List UInt8} (h : Duo w0 W Bx sx Br K sr v l) (hi : InAt W' TIn Bx sx') (ht : TouchO Bx none W W') : Duo w0 W' Bx sx' Br K sr (.slice none 0 0) [] :=
  ⟨hi, h.r.touch ht (fun e => h.ne e.symm) h.kx, OwnB.nil _ _ _, h.ext.below.trans (ht.below h.ext.size h.gx (fun g e => by cases e)), h.gx, h.gr, h.ne, h.kx, h.kr, fun k hk => Nat.lt_of_lt_of_le (h.kl k hk) ht.size, by simp [Value.ownBlock], by simp [Value.ownBlock], .inl rfl, fun g hg => by simp [Value.ownBlock] at hg⟩
theorem Duo.take {w0 W W' : World} {Bx Br : Nat} {sx sr : Option (List UInt8)} {K : Option Nat} {v u : Value} {l : List UInt8} {x : List UInt8 × Option (List UInt8)} (h : Duo w0 W Bx sx Br K sr v l) (hu : OwnB W' W.heap.size TB u x.1) (hi : InAt W' TIn Bx x.2) (ht : TouchO Bx none W W') (hs : ∀ g, u.ownBlock = some g → Sep W' Bx x.2 g) :
    Duo w0 W' Bx x.2 Br K sr u x.1 := by
  have hge := fun g hg => (World.ownsRow.lt hu g hg).1
  have n1 := h.x.lt
  have n2 := h.r.lt
  refine { h.turnX hi ht with o := hu.mono h.ext.size, ox := fun e => ?_, or_ := fun e => ?_, ok := ?_, oc := hs }
  · have := hge _ e; omega
  · have := hge _ e; omega
  · cases e : u.ownBlock with
    | none => exact .inl rfl
    | some g =>
      right; intro e2
      have := hge g e
      have := h.kl g e2.symm
      omega
/-- A turn of the reference's. -/
theorem Duo.turnR {w0 W W' : World} {Bx Br : Nat} {sx sr sr' : Option (List UInt8)} {K : Option Nat} {v : Value} {l : List UInt8} (h : Duo w0 W Bx sx Br K sr v l) (hi : RInAt W' Br K sr') (ht : TouchO Br none W W') : Duo w0 W' Bx sx Br K sr' v l := by
  have hlt := h.x.lt
  exact { h with x := inAt_touch ht h.x h.ne (sep_box h.x h.r), r := hi, o := own_touch ht h.o h.or_ (by cases v.ownBlock <;> simp), ext := h.ext.below.trans (ht.below h.ext.size h.gr (fun g e => by cases e)), kl := fun k hk => Nat.lt_of_lt_of_le (h.kl k hk) ht.size, oc := fun g hg u m hu hst hne => h.oc g hg u m ((ht.block _ hlt h.ne (by simp)).symm.trans hu) hst hne }
theorem Duo.bump {w0 W : World} {Bx Br : Nat} {sx sr : Option (List UInt8)} {K : Option Nat} {l : List UInt8} {g n cap : Nat} (h : Duo w0 W Bx sx Br K sr (.slice (some ⟨g, 0, none⟩) n cap) l) (i : Nat) (hi : i < l.length) (c : UInt8) :
    Duo w0 (W.setCell ⟨g, i, none⟩ (.int .u8 (c.toNat : Int))) Bx sx Br K sr (.slice (some ⟨g, 0, none⟩) n cap) (l.set i c) := by
  have ht : TouchO g none W (W.setCell ⟨g, i, none⟩ (.int .u8 (c.toNat : Int))) := TouchO.of_setCell W i _
  have hg := ownB_blk h.o g rfl
  have hlt := h.x.lt
  have e1 : Bx ≠ g := fun e => h.ox (by rw [e]; rfl)
  have e2 : Br ≠ g := fun e => h.or_ (by rw [e]; rfl)
  have e3 : K ≠ some g := fun e => by
    rcases h.ok with h1 | h1
    · cases h1
    · exact h1 e.symm
  have hs := h.oc g rfl
  exact { h with x := inAt_touch ht h.x e1 (fun u m hu hst hne => hs u m hu hst hne), r := h.r.touch ht e2 e3, o := h.o.set i hi c, ext := Below.setCell h.ext hg.1 _, kl := fun k hk => Nat.lt_of_lt_of_le (h.kl k hk) ht.size, oc := fun g' hg' u m hu hst hne => h.oc g' hg' u m ((ht.block _ hlt e1 (by simp)).symm.trans hu) hst hne }
/-- The law's start: bytes of one's own, an In of them, the reference's In of others alike. -/
theorem Duo.start {w0 W1 W2 W3 : World} {Bx : Nat} {v u : Value} {l : List UInt8} (x0 : Ext w0 W1) (hv : OwnB W1 w0.heap.size TB v l) (x1 : Ext W1 W2) (hB : W1.heap.size ≤ Bx) (hi : InAt W2 TIn Bx (some l)) (hs : ∀ g, g < W1.heap.size → Sep W2 Bx (some l) g) (x2 : Ext W2 W3) (hu : OwnB W3 W2.heap.size TB u l) (hl : l.length ≤ 140737488355328) :
    Duo w0 (W3.alloc (.cells #[u, .bool false] TRI)) Bx (some l) W3.heap.size u.ownBlock (some l) v l := by
  have y := x2.thenAlloc (.cells #[u, .bool false] TRI)
  have hlt := hi.lt
  have hvl := ownB_blk hv
  have hul := ownB_blk hu
  have s1 := x1.size
  have s2 := x2.size
  have s0 := x0.size
  refine ⟨hi.ext y, ⟨u, heap_alloc_new W3 _, (hu.bys (by unfold maxLen; omega)).alloc _, fun a len cap e => by rw [e]; rfl, fun e => ?_⟩, (hv.ext x1).ext y, (x0.trans x1).trans y, by omega, by omega, by omega, fun e => ?_, fun e => ?_, fun k hk => ?_, fun e => ?_, fun e => ?_, ?_, fun g hg p m hp hst hne => ?_⟩
  · have := hul _ e; omega
  · have := hul _ e; omega
  · have := hul _ e; omega
  · have := hul _ hk; simp only [World.size_alloc]; omega
  · have := hvl _ e; omega
  · have := hvl _ e; omega
  · cases e : v.ownBlock with
    | none => exact .inl rfl
    | some g =>
      right; intro e2
      have := hvl g e
      have := hul g e2.symm
      omega
  · refine hs g (hvl g hg).2 p m ?_ hst hne
    rw [← Below.block y _ hlt]; exact hp
end Go.Proofs.Ytolmcdimhnnpaaa.VOct
