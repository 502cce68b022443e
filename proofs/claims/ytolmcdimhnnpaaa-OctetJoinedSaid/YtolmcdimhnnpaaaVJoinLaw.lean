/- OctetJoined: the walk. -/
import Derived.Test.YtolmcdimhnnpaaaVJoinPlain
import Derived.Test.YtolmcdimhnnpaaaVAlive01
namespace Go.Proofs.Ytolmcdimhnnpaaa.VOct
open Go.RowKit Go.VBase Go.VOct Go.VRg

/-- A block that is none of the Outs' and none of their rows. -/
def Free (L : List OutS) (q : Nat) : Prop := ∀ x ∈ L, x.b ≠ q ∧ x.r ≠ some q
theorem Outs.free_new {w0 W : World} {L : List OutS} {K : List (Value × List UInt8)} (h : Outs w0 W L K) : Free L W.heap.size := fun x hx => by
  have := h.lt hx
  exact ⟨by omega, fun e => by have := this.2 _ e; omega⟩
theorem Outs.step {w0 W W' : World} {L M : List OutS} {K : List (Value × List UInt8)} {B : Nat} {r : Option Nat} {st st' : Option (List UInt8)} {e : Ending} (h : Outs w0 W (L ++ ⟨B, r, st⟩ :: M) K) {q : Nat} {o : Obj} (hq : W.heap[q]? = some o) (hf : Free (L ++ ⟨B, r, st⟩ :: M) q)
    (hp : WritePost W B r st' e W') : (∃ v, e = .returned v) ∧ ∃ r', Outs w0 W' (L ++ ⟨B, r', st'⟩ :: M) K ∧ W'.heap[q]? = some o ∧ Free (L ++ ⟨B, r', st'⟩ :: M) q := by
  obtain ⟨hv, r', ho, ht, hn⟩ := hp
  have hql := (Array.getElem?_eq_some_iff.1 hq).1
  have hB := hf ⟨B, r, st⟩ (by simp)
  refine ⟨hv, r', h.turn0 ho ht hn, (ht.block q hql (fun e => hB.1 e.symm) (fun e => hB.2 e.symm)).trans hq, fun x hx => ?_⟩
  rcases List.mem_append.1 hx with hx | hx
  · exact hf x (by simp [hx])
  · rcases List.mem_cons.1 hx with rfl | hx
    · refine ⟨hB.1, fun e => ?_⟩
      rcases hn q e with h1 | h1
      · exact hB.2 h1
      · omega
    · exact hf x (by simp [hx])

set_option maxRecDepth 100000 in
set_option maxHeartbeats 4000000 in
theorem Join_any (va vb : Value) (la lb : List OpD) (w : World) (ha : OpsR w va la) (hb : OpsR w vb lb) :
    Calls Try.prog 5 #[va, vb] w fun e w' => e = .returned (.bool true) ∧ Ext w w' := by
  have hva := ha
  have hvb := hb
  obtain ⟨aa, capa, rfl, hcapa, hcma, hopa⟩ := ha
  obtain ⟨ab, capb, rfl, hcapb, hcmb, hopb⟩ := hb
  go_enter Try.func5, Try.ntmps5
  go_wp2_with fail
  refine (alive_calls _).mono ?_
  rintro e w1 ⟨rfl, h1⟩
  go_wp2_with fail
  refine (great_calls _ la w1 (hva.ext h1)).mono ?_
  rintro e w' ⟨rfl, b1, rfl, hg1⟩
  cases b1 with
  | true =>
    go_wp2_with fail
    go_ret
    exact ⟨rfl, h1⟩
  | false =>
  obtain ⟨ga1, ga2⟩ := hg1 rfl
  clear hg1
  go_wp2_with fail
  refine (great_calls _ lb w1 (hvb.ext h1)).mono ?_
  rintro e w' ⟨rfl, b2, rfl, hg2⟩
  cases b2 with
  | true =>
    go_wp2_with fail
    go_ret
    exact ⟨rfl, h1⟩
  | false =>
  obtain ⟨gb1, gb2⟩ := hg2 rfl
  clear hg2
  go_wp2_with fail
  have HO := (Outs.nil h1).make.make.make
  simp only [List.nil_append, List.cons_append, World.size_alloc] at HO
  generalize ((w1.alloc (.cells #[.slice none 0 0, .bool false] TOut)).alloc (.cells #[.slice none 0 0, .bool false] TOut)).alloc (.cells #[.slice none 0 0, .bool false] TOut) = w2 at *
  obtain ⟨bx, hbx⟩ : ∃ b, w1.heap.size = b := ⟨_, rfl⟩
  obtain ⟨by_, hby⟩ : ∃ b, bx + 1 = b := ⟨_, rfl⟩
  obtain ⟨bz, hbz⟩ : ∃ b, by_ + 1 = b := ⟨_, rfl⟩
  rw [hbx, hby, hbz] at HO ⊢
  clear hbx hby hbz h1
  go_loopw [10, 28] (fun _ i wr => ∃ (j : Nat) (r s : Option Nat), j ≤ la.length ∧ i = .int .i64 (j : Int) ∧ Outs w wr [⟨bx, r, runOps (some []) (la.take j)⟩, ⟨by_, none, some []⟩, ⟨bz, s, runOps (some []) (la.take j)⟩] []) (fun _ i _ => la.length - (intOf i).toNat)
  case atStart => exact ⟨0, none, none, Nat.zero_le _, rfl, HO⟩
  case round =>
    obtain ⟨j, r, s, hj, rfl, hO⟩ := hrel
    by_cases hlt : j < la.length
    · obtain ⟨o, ho⟩ : ∃ o, la[j]? = some o := ⟨_, List.getElem?_eq_getElem hlt⟩
      obtain ⟨_, _, hv64, hbl, b, off, u, rfl, d0, d1, d2, d3, hu⟩ := hopa j o ho
      have e0 := hO.ext.cell d0
      have e1 := hO.ext.cell d1
      have e2 := hO.ext.cell d2
      have e3 := hO.ext.cell d3
      have hjw : (j : Int) < (la.length : Int) := by omega
      have HX := Lib.hid ho
      have hu0 := hu
      obtain ⟨au, capu, rfl, _⟩ := hu
      have HX' := HX.out
      have hto := total_take HX'
      have htl := total_take_le la (j + 1)
      have hln := runOps_len (some []) (la.take j)
      rw [List.length_take, show (stAll (some ([] : List UInt8))).length = 0 from rfl] at hln
      have hlen : (stAll (runOps (some []) (la.take j))).length ≤ 20800 ∧ o.b.length ≤ 20000 := by omega
      have hlen1 := hlen.1
      have hlen2 := hlen.2
      clear d0 d1 d2 d3 ho hopa hopb HO hva hvb hlen HX' hto htl hln
      go_wp2_with fail
      obtain ⟨cs, hcs⟩ : ∃ cs : Array Value, cs = #[.int .i64 o.kind, .int .i64 o.n, .int .u64 (o.v : Int), .slice au o.b.length capu] := ⟨_, rfl⟩
      have hrow : (wr.alloc (.cells #[.int .i64 o.kind, .int .i64 o.n, .int .u64 (o.v : Int), .slice au o.b.length capu] 33)).heap[wr.heap.size]? = some (.cells #[.int .i64 o.kind, .int .i64 o.n, .int .u64 (o.v : Int), .slice au o.b.length capu] 33) := heap_alloc_new wr _
      have hfree := hO.free_new
      have hOb := hO.later (Ext.alloc wr (.cells #[.int .i64 o.kind, .int .i64 o.n, .int .u64 (o.v : Int), .slice au o.b.length capu] 33))
      generalize wr.alloc (.cells #[.int .i64 o.kind, .int .i64 o.n, .int .u64 (o.v : Int), .slice au o.b.length capu] 33) = wb at *
      generalize wr.heap.size = q at *
      refine (write_calls bx r (runOps (some []) (la.take j)) o _ _ (hOb.at_ ⟨bx, r, runOps (some []) (la.take j)⟩ (by simp)) (hu0.ext hOb.ext) hv64 (by omega) (by omega)).mono ?_
      rintro e w3 hW
      rw [← runOps_snoc _ HX.out] at hW
      obtain ⟨⟨v, rfl⟩, r', hO3, hrow3, hfree3⟩ := Outs.step (L := []) hOb hrow hfree hW
      have k0 : w3.cell? ⟨q, 0, none⟩ = some (.int .i64 o.kind) := cell_of_row w3 _ 0 _ _ _ hrow3
      have k1 : w3.cell? ⟨q, 1, none⟩ = some (.int .i64 o.n) := cell_of_row w3 _ 1 _ _ _ hrow3
      have k2 : w3.cell? ⟨q, 2, none⟩ = some (.int .u64 (o.v : Int)) := cell_of_row w3 _ 2 _ _ _ hrow3
      have k3 : w3.cell? ⟨q, 3, none⟩ = some (.slice au o.b.length capu) := cell_of_row w3 _ 3 _ _ _ hrow3
      clear hW hrow hfree hOb hO e0 e1 e2 e3
      have HR := Lib.hid hrow3
      clear hrow3
      go_wp2_with fail
      refine (write_calls bz s (runOps (some []) (la.take j)) o _ _ (hO3.at_ ⟨bz, s, runOps (some []) (la.take j)⟩ (by simp)) (hu0.ext hO3.ext) hv64 (by omega) (by omega)).mono ?_
      rintro e w4 hW
      rw [← runOps_snoc _ HX.out] at hW
      obtain ⟨⟨v, rfl⟩, s', hO4, _, _⟩ := Outs.step (L := [_, _]) hO3 HR.out hfree3 hW
      clear hW hO3 k0 k1 k2 k3 hfree3 HR
      go_wp2_with fail
      go_roundw
      case rel => exact ⟨j + 1, r', s', by omega, by go_num, hO4⟩
      case measure => simp [intOf]; omega
    · have hjl : j = la.length := by omega
      subst hjl
      rw [List.take_length] at hO
      obtain ⟨X, hX⟩ : ∃ X, runOps (some []) la = X := ⟨_, rfl⟩
      have hXl : (stAll X).length ≤ 20800 := by
        have := runOps_len (some []) la
        rw [hX, show (stAll (some ([] : List UInt8))).length = 0 from rfl] at this
        omega
      rw [hX] at hO
      clear hopa HO hva hX
      go_wp2_with fail
      go_loopw [12, 39] (fun _ i wr => ∃ (j : Nat) (t s : Option Nat), j ≤ lb.length ∧ i = .int .i64 (j : Int) ∧ Outs w wr [⟨bx, r, X⟩, ⟨by_, t, runOps (some []) (lb.take j)⟩, ⟨bz, s, runOps X (lb.take j)⟩] []) (fun _ i _ => lb.length - (intOf i).toNat)
      case atStart => exact ⟨0, none, s, Nat.zero_le _, rfl, hO⟩
      case round =>
        clear hO
        obtain ⟨j, t, s, hj, rfl, hO⟩ := hrel
        by_cases hlt : j < lb.length
        · obtain ⟨o, ho⟩ : ∃ o, lb[j]? = some o := ⟨_, List.getElem?_eq_getElem hlt⟩
          obtain ⟨_, _, hv64, hbl, b, off, u, rfl, d0, d1, d2, d3, hu⟩ := hopb j o ho
          have e0 := hO.ext.cell d0
          have e1 := hO.ext.cell d1
          have e2 := hO.ext.cell d2
          have e3 := hO.ext.cell d3
          have hjw : (j : Int) < (lb.length : Int) := by omega
          have HX := Lib.hid ho
          have hu0 := hu
          obtain ⟨au, capu, rfl, _⟩ := hu
          have HX' := HX.out
          have hto := total_take HX'
          have htl := total_take_le lb (j + 1)
          have hln := runOps_len (some []) (lb.take j)
          rw [List.length_take, show (stAll (some ([] : List UInt8))).length = 0 from rfl] at hln
          have hlen : (stAll (runOps (some []) (lb.take j))).length ≤ 20800 ∧ o.b.length ≤ 20000 := by omega
          have hlz := runOps_len X (lb.take j)
          rw [List.length_take] at hlz
          have hlen3 : (stAll (runOps X (lb.take j))).length ≤ 41600 := by omega
          have hlen1 := hlen.1
          have hlen2 := hlen.2
          clear d0 d1 d2 d3 ho hopb hvb hlen HX' hto htl hln hlz
          go_wp2_with fail
          obtain ⟨cs, hcs⟩ : ∃ cs : Array Value, cs = #[.int .i64 o.kind, .int .i64 o.n, .int .u64 (o.v : Int), .slice au o.b.length capu] := ⟨_, rfl⟩
          have hrow : (wr.alloc (.cells #[.int .i64 o.kind, .int .i64 o.n, .int .u64 (o.v : Int), .slice au o.b.length capu] 33)).heap[wr.heap.size]? = some (.cells #[.int .i64 o.kind, .int .i64 o.n, .int .u64 (o.v : Int), .slice au o.b.length capu] 33) := heap_alloc_new wr _
          have hfree := hO.free_new
          have hOb := hO.later (Ext.alloc wr (.cells #[.int .i64 o.kind, .int .i64 o.n, .int .u64 (o.v : Int), .slice au o.b.length capu] 33))
          generalize wr.alloc (.cells #[.int .i64 o.kind, .int .i64 o.n, .int .u64 (o.v : Int), .slice au o.b.length capu] 33) = wb at *
          generalize wr.heap.size = q at *
          refine (write_calls by_ t (runOps (some []) (lb.take j)) o _ _ (hOb.at_ ⟨by_, t, runOps (some []) (lb.take j)⟩ (by simp)) (hu0.ext hOb.ext) hv64 (by omega) (by omega)).mono ?_
          rintro e w3 hW
          rw [← runOps_snoc _ HX.out] at hW
          obtain ⟨⟨v, rfl⟩, t', hO3, hrow3, hfree3⟩ := Outs.step (L := [_]) hOb hrow hfree hW
          have k0 : w3.cell? ⟨q, 0, none⟩ = some (.int .i64 o.kind) := cell_of_row w3 _ 0 _ _ _ hrow3
          have k1 : w3.cell? ⟨q, 1, none⟩ = some (.int .i64 o.n) := cell_of_row w3 _ 1 _ _ _ hrow3
          have k2 : w3.cell? ⟨q, 2, none⟩ = some (.int .u64 (o.v : Int)) := cell_of_row w3 _ 2 _ _ _ hrow3
          have k3 : w3.cell? ⟨q, 3, none⟩ = some (.slice au o.b.length capu) := cell_of_row w3 _ 3 _ _ _ hrow3
          clear hW hrow hfree hOb hO e0 e1 e2 e3
          have HR := Lib.hid hrow3
          clear hrow3
          go_wp2_with fail
          refine (write_calls bz s (runOps X (lb.take j)) o _ _ (hO3.at_ ⟨bz, s, runOps X (lb.take j)⟩ (by simp)) (hu0.ext hO3.ext) hv64 (by omega) (by omega)).mono ?_
          rintro e w4 hW
          rw [← runOps_snoc _ HX.out] at hW
          obtain ⟨⟨v, rfl⟩, s', hO4, _, _⟩ := Outs.step (L := [_, _]) hO3 HR.out hfree3 hW
          clear hW hO3 k0 k1 k2 k3 hfree3 HR
          go_wp2_with fail
          go_roundw
          case rel => exact ⟨j + 1, t', s', by omega, by go_num, hO4⟩
          case measure => simp [intOf]; omega
        · have hjl : j = lb.length := by omega
          subst hjl
          rw [List.take_length] at hO
          obtain ⟨Y, hY⟩ : ∃ Y, runOps (some []) lb = Y := ⟨_, rfl⟩
          have hYl : (stAll Y).length ≤ 20800 := by
            have := runOps_len (some []) lb
            rw [hY, show (stAll (some ([] : List UInt8))).length = 0 from rfl] at this
            omega
          have hZ : runOps X lb = match X with | none => none | some p => Y.map (p ++ ·) := by
            cases X with
            | none => exact runOps_none lb
            | some p =>
              have := runOps_some p lb []
              rw [List.append_nil, hY] at this
              exact this
          rw [hY, hZ] at hO
          clear hopb hvb hY hZ hj hlt
          go_wp2_with fail
          have hJ := hO.make
          simp only [List.cons_append, List.nil_append] at hJ
          generalize wr.alloc (.cells #[.slice none 0 0, .bool false] TOut) = wj at *
          generalize wr.heap.size = bj at *
          clear hO
          refine (All_calls bx r X _ (hJ.at_ ⟨bx, r, X⟩ (by simp)) (by omega)).mono ?_
          rintro e w3 ⟨v3, rfl, hv3, hx3⟩
          have hb3 := hv3.bys (by unfold maxLen; omega)
          replace hJ := hJ.later hx3
          go_wp2_with fail
          refine (Tail_calls bj none (some []) v3 (stAll X) w3 (hJ.at_ ⟨bj, none, some []⟩ (by simp)) hb3 (by simp [stAll] at hXl ⊢; omega)).mono ?_
          rintro e w4 hP
          rw [show stTail (some []) (stAll X) = some (stAll X) from rfl] at hP
          obtain ⟨rfl, rj, hJ4⟩ := Outs.turn (L := [_, _, _]) hJ hP
          clear hP hJ
          go_wp2_with fail
          refine (All_calls by_ t Y _ (hJ4.at_ ⟨by_, t, Y⟩ (by simp)) (by omega)).mono ?_
          rintro e w5 ⟨v5, rfl, hv5, hx5⟩
          have hb5 := hv5.bys (by unfold maxLen; omega)
          replace hJ := hJ4.later hx5
          go_wp2_with fail
          refine (Tail_calls bj rj (some (stAll X)) v5 (stAll Y) w5 (hJ.at_ ⟨bj, rj, some (stAll X)⟩ (by simp)) hb5 (by simp [stAll] at hXl hYl ⊢; omega)).mono ?_
          rintro e w6 hP
          rw [show stTail (some (stAll X)) (stAll Y) = some (stAll X ++ stAll Y) from rfl] at hP
          obtain ⟨rfl, rj', hJ6⟩ := Outs.turn (L := [_, _, _]) hJ hP
          clear hP hJ hJ4 hv3 hv5 hb3 hb5 hx3 hx5
          go_wp2_with fail
          refine (Spoilt_calls bx r X _ (hJ6.at_ ⟨bx, r, X⟩ (by simp))).mono ?_
          rintro e w' ⟨rfl, rfl⟩
          cases X with
          | none =>
            rw [show (none : Option (List UInt8)).isNone = true from rfl]
            go_wp2_with fail
            refine (Spoilt_calls bz s none _ (hJ6.at_ ⟨bz, s, none⟩ (by simp))).mono ?_
            rintro e w' ⟨rfl, rfl⟩
            rw [show (none : Option (List UInt8)).isNone = true from rfl]
            go_wp2_with fail
            refine (Len_calls bz s none _ (hJ6.at_ ⟨bz, s, none⟩ (by simp))).mono ?_
            rintro e w' ⟨rfl, rfl⟩
            rw [show (((stAll (none : Option (List UInt8))).length : Nat) : Int) = 0 from rfl]
            go_wp2_with fail
            go_ret
            exact ⟨rfl, hJ6.ext⟩
          | some p =>
          rw [show (some p).isNone = false from rfl]
          go_wp2_with fail
          refine (Spoilt_calls by_ t Y _ (hJ6.at_ ⟨by_, t, Y⟩ (by simp))).mono ?_
          rintro e w' ⟨rfl, rfl⟩
          cases Y with
          | none =>
            rw [show (none : Option (List UInt8)).isNone = true from rfl]
            go_wp2_with fail
            refine (Spoilt_calls bz s none _ (hJ6.at_ ⟨bz, s, none⟩ (by simp))).mono ?_
            rintro e w' ⟨rfl, rfl⟩
            rw [show (none : Option (List UInt8)).isNone = true from rfl]
            go_wp2_with fail
            refine (Len_calls bz s none _ (hJ6.at_ ⟨bz, s, none⟩ (by simp))).mono ?_
            rintro e w' ⟨rfl, rfl⟩
            rw [show (((stAll (none : Option (List UInt8))).length : Nat) : Int) = 0 from rfl]
            go_wp2_with fail
            go_ret
            exact ⟨rfl, hJ6.ext⟩
          | some q =>
          rw [show (some q).isNone = false from rfl]
          go_wp2_with fail
          have ks := fun (W : World) (v : Value) (l : List UInt8) (h : Bys W v l) => run_string_bys (P := Try.prog) Try.underlying24 Try.underlying5 Try.underlying9 h
          have hpl : p.length ≤ 20800 := hXl
          have hql : q.length ≤ 20800 := hYl
          obtain ⟨z, hz⟩ : ∃ z, p ++ q = z := ⟨_, rfl⟩
          have hzl : z.length = p.length + q.length := by rw [← hz]; simp
          have hJ7 : Outs w w6 [⟨bx, r, some p⟩, ⟨by_, t, some q⟩, ⟨bz, s, some z⟩, ⟨bj, rj', some z⟩] [] := by rw [← hz]; exact hJ6
          clear hJ6 hO hz
          obtain ⟨np, hnp⟩ : ∃ n, p.length = n := ⟨_, rfl⟩
          obtain ⟨nq, hnq⟩ : ∃ n, q.length = n := ⟨_, rfl⟩
          obtain ⟨nz, hzn⟩ : ∃ n, z.length = n := ⟨_, rfl⟩
          have hadd : IntKind.i64.wrap ((np : Int) + (nq : Int)) = (nz : Int) := by rw [IntKind.wrap_i64]; omega
          have hzl2 : z.length ≤ 41600 := by omega
          refine wp_region_rg Ext [(2, .known (.bool false)), (6, .unk (fun v W => Bys W v z) (fun _ _ _ e h => h.ext e)), (7, .known (.string (strB z))), (8, .unk (fun v W => Bys W v z) (fun _ _ _ e h => h.ext e)), (9, .known (.string (strB z))),
            (13, .known (.int .i64 (nz : Int))), (14, .known (.int .i64 (np : Int))), (15, .known (.int .i64 (nq : Int)))] (by kernel_rfl) (by kernel_rfl) (by kernel_rfl) Ext.refl (fun _ _ _ => Ext.trans) ?_
          intro σ
          simp only
          repeat (refine rg_pure (x := ?_) rfl (by rfl) (fun W hW => ?_) ?_; rotate_left; (· go_simp; with_reducible rfl); simp only [Nat.reduceAdd, Act.put, List.setIfInBounds_toArray, List.set_cons_zero, List.set_cons_succ])
          refine rg_known rfl (by rfl) (fun W hW hF => ?_) ?_
          · go_simp
            refine (Spoilt_calls bz s (some z) W ((hJ7.later (Ext.of_drew hW)).at_ ⟨bz, s, some z⟩ (by simp))).mono ?_
            rintro e W' ⟨rfl, rfl⟩
            exact ⟨_, rfl, Ext.refl _, rfl⟩
          simp only [Nat.reduceAdd, Act.put, List.setIfInBounds_toArray, List.set_cons_zero, List.set_cons_succ]
          repeat (refine rg_pure (x := ?_) rfl (by rfl) (fun W hW => ?_) ?_; rotate_left; (· go_simp; with_reducible rfl); simp only [Nat.reduceAdd, Act.put, List.setIfInBounds_toArray, List.set_cons_zero, List.set_cons_succ])
          refine rg_unk rfl (by rfl) (fun W hW hF => ?_) ?_
          · go_simp
            refine (All_calls bj rj' (some z) W ((hJ7.later (Ext.of_drew hW)).at_ ⟨bj, rj', some z⟩ (by simp)) (by simp only [stAll, Option.getD_some]; omega)).mono ?_
            rintro e W' ⟨u, rfl, hu, hx⟩
            exact ⟨_, rfl, hx, hu.bys (by simp only [stAll, Option.getD_some, maxLen]; omega)⟩
          simp only [Nat.reduceAdd, Act.put, List.setIfInBounds_toArray, List.set_cons_zero, List.set_cons_succ]
          refine rg_known rfl (by rfl) (fun W hW hF => ?_) ?_
          · have k1 := ks W _ z (hF 6 _ _ rfl (by kernel_rfl))
            go_simp
            exact ⟨Ext.refl _, rfl⟩
          simp only [Nat.reduceAdd, Act.put, List.setIfInBounds_toArray, List.set_cons_zero, List.set_cons_succ]
          refine rg_unk rfl (by rfl) (fun W hW hF => ?_) ?_
          · go_simp
            refine (All_calls bz s (some z) W ((hJ7.later (Ext.of_drew hW)).at_ ⟨bz, s, some z⟩ (by simp)) (by simp only [stAll, Option.getD_some]; omega)).mono ?_
            rintro e W' ⟨u, rfl, hu, hx⟩
            exact ⟨_, rfl, hx, hu.bys (by simp only [stAll, Option.getD_some, maxLen]; omega)⟩
          simp only [Nat.reduceAdd, Act.put, List.setIfInBounds_toArray, List.set_cons_zero, List.set_cons_succ]
          refine rg_known rfl (by rfl) (fun W hW hF => ?_) ?_
          · have k1 := ks W _ z (hF 8 _ _ rfl (by kernel_rfl))
            go_simp
            exact ⟨Ext.refl _, rfl⟩
          simp only [Nat.reduceAdd, Act.put, List.setIfInBounds_toArray, List.set_cons_zero, List.set_cons_succ]
          repeat (refine rg_pure (x := ?_) rfl (by rfl) (fun W hW => ?_) ?_; rotate_left; (· go_simp; with_reducible rfl); simp only [Nat.reduceAdd, Act.put, List.setIfInBounds_toArray, List.set_cons_zero, List.set_cons_succ])
          refine rg_known rfl (by rfl) (fun W hW hF => ?_) ?_
          · go_simp
            refine (Len_calls bz s (some z) W ((hJ7.later (Ext.of_drew hW)).at_ ⟨bz, s, some z⟩ (by simp))).mono ?_
            rintro e W' ⟨rfl, rfl⟩
            exact ⟨_, rfl, Ext.refl _, by rw [show (stAll (some z)).length = z.length from rfl, hzn]⟩
          simp only [Nat.reduceAdd, Act.put, List.setIfInBounds_toArray, List.set_cons_zero, List.set_cons_succ]
          refine rg_known rfl (by rfl) (fun W hW hF => ?_) ?_
          · go_simp
            refine (Len_calls bx r (some p) W ((hJ7.later (Ext.of_drew hW)).at_ ⟨bx, r, some p⟩ (by simp))).mono ?_
            rintro e W' ⟨rfl, rfl⟩
            exact ⟨_, rfl, Ext.refl _, by rw [show (stAll (some p)).length = p.length from rfl, hnp]⟩
          simp only [Nat.reduceAdd, Act.put, List.setIfInBounds_toArray, List.set_cons_zero, List.set_cons_succ]
          refine rg_known rfl (by rfl) (fun W hW hF => ?_) ?_
          · go_simp
            refine (Len_calls by_ t (some q) W ((hJ7.later (Ext.of_drew hW)).at_ ⟨by_, t, some q⟩ (by simp))).mono ?_
            rintro e W' ⟨rfl, rfl⟩
            exact ⟨_, rfl, Ext.refl _, by rw [show (stAll (some q)).length = q.length from rfl, hnq]⟩
          simp only [Nat.reduceAdd, Act.put, List.setIfInBounds_toArray, List.set_cons_zero, List.set_cons_succ]
          repeat (refine rg_pure (x := ?_) rfl (by rfl) (fun W hW => ?_) ?_; rotate_left; (· go_simp; with_reducible rfl); simp only [Nat.reduceAdd, Act.put, List.setIfInBounds_toArray, List.set_cons_zero, List.set_cons_succ])
          refine rg_done fun W hW hF => ?_
          have hE := (hJ7.later (Ext.of_drew hW)).ext
          clear hF
          go_wp2_with fail
          go_ret
          exact ⟨rfl, hE⟩
end Go.Proofs.Ytolmcdimhnnpaaa.VOct
