/- stamp: the map of those that occurred: what it holds, read and written. -/
import Derived.Test.YtjhhcfadeankfaaVStm1
import Derived.Maps.OwnOps
import Derived.DeepKeys4
import Derived.WideKeyEntry
namespace Go.Proofs.Ytjhhcfadeankfaa.VMsg
open Go.RowKit Go.VBase Go.VRg Go.VEq VCst Go.VPlan VPlan
open Go.Maps (Keyed)
open Go.WideElems (findIdx_arr modify_last)

abbrev TKey : TypeId := 56
abbrev TMap : TypeId := 83
theorem keyLaw : Keyed Try.prog TKey := Keyed.of_law (deep_law_laid (m := 3) (by kernel_rfl) (by decide) (of_decide_eq_true (by kernel_rfl)) (by kernel_rfl) (by kernel_rfl))
theorem key_reads (m : MsgD) (h : Wfm m) : ∃ kl, keyOf Try.prog TKey (keyV m) = some kl := by
  obtain ⟨h1, h2, h3⟩ := h
  have hu := Try.underlying56
  have h64 := Try.underlying2
  have hin := Try.underlying3
  obtain ⟨n, hn⟩ : ∃ n, Try.prog.types.size = n + 1 := ⟨Try.prog.types.size - 1, by kernel_rfl⟩
  have hkt : Try.prog.keyType 56 = true := by kernel_rfl
  have c2 : Try.prog.cellsOf 2 = 1 := by kernel_rfl
  have c3 : Try.prog.cellsOf 3 = 1 := by kernel_rfl
  have c5 : Try.prog.cellsOf 56 = 3 := by kernel_rfl
  have hf : (Value.agg #[.int .i64 m.st, .int .i64 m.se, .int .i64 m.nu]).formed Try.prog 56 = true := by
    unfold Value.formed; simp only [hu]; rw [c5]; rfl
  have hl : (Try.prog.keyLits (n + 1 + 1) 56 [.int .i64 m.st, .int .i64 m.se, .int .i64 m.nu]).isSome = true := by
    unfold Program.keyLits
    simp only [hu]
    rw [c5]
    simp [List.mapM_cons, List.mapM_nil, Program.keyLits, h64, hin, c2, c3, h1, h2, h3]
  obtain ⟨ls, hls⟩ := Option.isSome_iff_exists.1 hl
  refine ⟨.string (keyBytes ls), ?_⟩
  unfold keyOf keyV
  simp only [hu]
  rw [if_pos (by rw [hkt, hf]; rfl), hn]
  show Option.map _ (Try.prog.keyLits (n + 1 + 1) 56 [.int .i64 m.st, .int .i64 m.se, .int .i64 m.nu]) = _
  rw [hls]; rfl
theorem keyV_inj {a b : MsgD} (h : keyV a = keyV b) : cmpM a b = 0 := by
  unfold keyV at h
  simp only [Value.agg.injEq, Array.mk.injEq, List.cons.injEq, Value.int.injEq, true_and, and_true] at h
  exact cmpM_zero.2 h
theorem keyV_of {a b : MsgD} (h : cmpM a b = 0) : keyV a = keyV b := by
  obtain ⟨h1, h2, h3⟩ := cmpM_zero.1 h
  unfold keyV; rw [h1, h2, h3]

/-- The entries for these keys, in the order in which they came, each of which occurred once. -/
def entF (m : MsgD) (i : Nat) : MapEntry := ⟨keyV m, .int .i64 1, i⟩
def entL (ks : List MsgD) : List MapEntry := ks.mapIdx fun i m => entF m i
def MapI (W : World) (B : Nat) (ks : List MsgD) : Prop := W.heap[B]? = some (.map (entL ks).toArray ks.length)
theorem entL_len (ks : List MsgD) : (entL ks).length = ks.length := by unfold entL; simp
theorem entL_get {ks : List MsgD} {i : Nat} {m : MsgD} (h : ks[i]? = some m) : (entL ks)[i]? = some (entF m i) := by unfold entL; rw [List.getElem?_mapIdx, h]; rfl
theorem entL_snoc (ks : List MsgD) (m : MsgD) : entL (ks ++ [m]) = entL ks ++ [entF m ks.length] := by unfold entL; rw [List.mapIdx_append]; simp
theorem entL_mem {ks : List MsgD} {e : MapEntry} (h : e ∈ entL ks) : ∃ (i : Nat) (m : MsgD), ks[i]? = some m ∧ e = entF m i := by
  obtain ⟨i, hi⟩ := List.getElem?_of_mem h
  unfold entL at hi
  rw [List.getElem?_mapIdx, Option.map_eq_some_iff] at hi
  obtain ⟨m, h1, h2⟩ := hi
  exact ⟨i, m, h1, h2.symm⟩
theorem entL_keys {ks : List MsgD} (hw : ∀ m ∈ ks, Wfm m) : ∀ e ∈ entL ks, ∃ l, keyOf Try.prog TKey e.key = some l := fun e he => by
  obtain ⟨i, m, h1, rfl⟩ := entL_mem he
  exact key_reads m (hw m (List.mem_of_getElem? h1))
theorem zeroI (w : World) : (zeroValue 3).run Try.prog w = .ok (.int .i64 0) w := by kernel_rfl

/-- The look-up finds none. -/
theorem find_none {ks : List MsgD} (hw : ∀ m ∈ ks, Wfm m) {x : MsgD} (hx : Wfm x) (hne : ∀ m ∈ ks, cmpM m x ≠ 0) (w : World) : (Instr.findKey TKey (keyV x) (entL ks)).run Try.prog w = .ok none w := by
  obtain ⟨lx, hlx⟩ := key_reads x hx
  rcases keyLaw.find w hlx (entL ks) (entL_keys hw) with ⟨h, _⟩ | ⟨j, e, h, hj, he⟩
  · exact h
  · obtain ⟨i, m, h1, rfl⟩ := entL_mem (List.mem_of_getElem? hj)
    exact absurd (keyV_inj he) (hne m (List.mem_of_getElem? h1))
/-- It finds one. -/
theorem find_some {ks : List MsgD} (hw : ∀ m ∈ ks, Wfm m) {x : MsgD} (hx : Wfm x) (hex : ∃ m ∈ ks, cmpM m x = 0) (w : World) : ∃ j, (Instr.findKey TKey (keyV x) (entL ks)).run Try.prog w = .ok (some (j, .int .i64 1)) w ∧ (entL ks)[j]? = some ⟨keyV x, .int .i64 1, j⟩ := by
  obtain ⟨lx, hlx⟩ := key_reads x hx
  rcases keyLaw.find w hlx (entL ks) (entL_keys hw) with ⟨_, h⟩ | ⟨j, e, h, hj, he⟩
  · obtain ⟨m, hm, hc⟩ := hex
    obtain ⟨i, hi⟩ := List.getElem?_of_mem hm
    exact absurd (keyV_of hc) (h _ (List.mem_of_getElem? (entL_get hi)))
  · have hj' := hj
    unfold entL at hj'
    rw [List.getElem?_mapIdx, Option.map_eq_some_iff] at hj'
    obtain ⟨m, h1, rfl⟩ := hj'
    refine ⟨j, h, ?_⟩
    rw [hj]
    unfold entF at he ⊢
    simp only at he
    rw [he]
theorem check_key {x : MsgD} (hx : Wfm x) (em : Bool) (w : World) : (Instr.checkKey em 10000 TKey (keyV x)).run Try.prog w = .ok () w := by
  obtain ⟨lx, hlx⟩ := key_reads x hx
  exact keyLaw.check w em hlx

open Go.ChangeMaps (setBlock heap_setBlock_same heap_setBlock_other)
section
variable {W : World} {B : Nat} {ks : List MsgD} {x : MsgD}
theorem look_none (hm : MapI W B ks) (hw : ∀ m ∈ ks, Wfm m) (hx : Wfm x) (hne : ∀ m ∈ ks, cmpM m x ≠ 0) : (Instr.lookup TMap (.map (some B)) (keyV x) false).run Try.prog W = .ok (.int .i64 0) W := by
  have hf := find_none hw hx hne W
  have hc := fun em => check_key hx em W
  have hz := zeroI W
  simp [Instr.lookup, run_underlying Try.underlying83, MapKept.run_getObj_map hm, hc, hf, hz, Result.andThen]
theorem look_some (hm : MapI W B ks) (hw : ∀ m ∈ ks, Wfm m) (hx : Wfm x) (hex : ∃ m ∈ ks, cmpM m x = 0) : (Instr.lookup TMap (.map (some B)) (keyV x) false).run Try.prog W = .ok (.int .i64 1) W := by
  obtain ⟨j, hf, hj⟩ := find_some hw hx hex W
  have hc := fun em => check_key hx em W
  simp [Instr.lookup, run_underlying Try.underlying83, MapKept.run_getObj_map hm, hc, hf, Result.andThen]
theorem entry_none (hm : MapI W B ks) (hw : ∀ m ∈ ks, Wfm m) (hx : Wfm x) (hne : ∀ m ∈ ks, cmpM m x ≠ 0) : (Instr.mapEntry TMap (.map (some B)) (keyV x)).run Try.prog W = .ok (.tuple #[.int .i64 0, .int .i64 (ks.length : Int)]) (setBlock W B (.map ((entL ks).toArray.push ⟨keyV x, .int .i64 0, ks.length⟩) (ks.length + 1))) := by
  have hf := find_none hw hx hne W
  have hc := fun em => check_key hx em W
  have hz := zeroI W
  simp [Instr.mapEntry, run_underlying Try.underlying83, MapKept.run_getObj_map hm, hc, hf, hz, MapKept.run_setObj_map _ hm, Result.andThen, setBlock, goInt]
theorem entry_some (hm : MapI W B ks) (hw : ∀ m ∈ ks, Wfm m) (hx : Wfm x) (hex : ∃ m ∈ ks, cmpM m x = 0) : ∃ j : Nat, (entL ks)[j]? = some (⟨keyV x, .int .i64 1, j⟩ : MapEntry) ∧ (Instr.mapEntry TMap (.map (some B)) (keyV x)).run Try.prog W = .ok (.tuple #[.int .i64 1, .int .i64 (j : Int)]) (setBlock W B (.map (entL ks).toArray ks.length)) ∧
    (Instr.findKey TKey (keyV x) (entL ks)).run Try.prog W = .ok (some (j, .int .i64 1)) W := by
  obtain ⟨j, hf, hj⟩ := find_some hw hx hex W
  have hc := fun em => check_key hx em W
  refine ⟨j, hj, ?_, hf⟩
  have hs : ((entL ks).modify j fun e => { e with key := keyV x }) = entL ks := by
    rw [Go.ChangeMaps.modify_eq_set _ _ _ _ hj]
    exact Go.WideElems.set_self _ _ _ hj
  obtain ⟨lx, hlx⟩ := key_reads x hx
  have hst := keyLaw.stays W hlx
  have hj2 : (entL ks).toArray[j]? = some ⟨keyV x, .int .i64 1, j⟩ := by simpa using hj
  simp [Instr.mapEntry, run_underlying Try.underlying83, MapKept.run_getObj_map hm, hc, hf, hj, hst, hs, MapKept.run_setObj_map _ hm, Result.andThen, setBlock, goInt]
theorem entL_born (ks : List MsgD) : ((entL ks).map (·.born)).Nodup := by
  have : (entL ks).map (·.born) = List.range ks.length := by
    apply List.ext_getElem?
    intro i
    rw [List.getElem?_map]
    unfold entL
    rw [List.getElem?_mapIdx]
    cases h : ks[i]? with
    | none =>
      have := List.getElem?_eq_none_iff.1 h
      simp; omega
    | some m =>
      have := (List.getElem?_eq_some_iff.1 h).1
      simp [entF, List.getElem?_range this]
  rw [this]; exact List.nodup_range
theorem store_none {W2 : World} (h2 : W2.heap[B]? = some (.map ((entL ks).toArray.push ⟨keyV x, .int .i64 0, ks.length⟩) (ks.length + 1))) :
    (Instr.entryStore TMap (.map (some B)) (.int .i64 (ks.length : Int)) (.int .i64 1)).run Try.prog W2 = .ok () (setBlock W2 B (.map (entL (ks ++ [x])).toArray (ks ++ [x]).length)) := by
  have hidx : ((entL ks).toArray.push ⟨keyV x, .int .i64 0, ks.length⟩).findIdx? (fun e => ((e.born : Nat) : Int) == ((ks.length : Nat) : Int)) = some ks.length := by
    rw [findIdx_arr]
    have := Go.WideElems.findIdx_born (l := ((entL ks).toArray.push ⟨keyV x, .int .i64 0, ks.length⟩).toList) (j := ks.length) (e0 := ⟨keyV x, .int .i64 0, ks.length⟩) (by
      simp only [Array.toList_push, List.map_append, List.map_cons, List.map_nil]
      refine List.nodup_append.2 ⟨entL_born ks, by simp, fun a ha c hc e1 => ?_⟩
      simp only [List.mem_singleton] at hc
      obtain ⟨y, hy, rfl⟩ := List.mem_map.1 ha
      obtain ⟨i, m, h1, rfl⟩ := entL_mem hy
      have := (List.getElem?_eq_some_iff.1 h1).1
      unfold entF at e1
      simp only at e1
      omega) (by
      simp only [Array.toList_push]
      rw [List.getElem?_append_right (by rw [entL_len]; exact Nat.le_refl _), entL_len]; simp)
    exact this
  have hmod : ((entL ks).toArray.push ⟨keyV x, .int .i64 0, ks.length⟩).modify ks.length (fun e => { e with val := .int .i64 1 }) = (entL (ks ++ [x])).toArray := by
    apply Array.ext'
    rw [Array.toList_modify, Array.toList_push]
    have h3 := modify_last (fun e : MapEntry => { e with val := .int .i64 1 }) ⟨keyV x, .int .i64 0, ks.length⟩ (entL ks)
    rw [entL_len] at h3
    rw [h3, entL_snoc]; rfl
  have hlen : (ks ++ [x]).length = ks.length + 1 := by simp
  rw [hlen]
  generalize (entL (ks ++ [x])).toArray = A2 at *
  generalize (entL ks).toArray.push ⟨keyV x, .int .i64 0, ks.length⟩ = A1 at *
  simp [Instr.entryStore, MapKept.run_getObj_map h2, asInt, asIntOf, hidx, hmod, MapKept.run_setObj_map _ h2, Result.andThen, setBlock]
theorem store_some {W2 : World} {j : Nat} (h2 : W2.heap[B]? = some (.map (entL ks).toArray ks.length)) (hj : (entL ks)[j]? = some ⟨keyV x, .int .i64 1, j⟩) :
    (Instr.entryStore TMap (.map (some B)) (.int .i64 (j : Int)) (.int .i64 2)).run Try.prog W2 = .ok () (setBlock W2 B (.map ((entL ks).toArray.modify j fun e => { e with val := .int .i64 2 }) ks.length)) := by
  have hidx : (entL ks).toArray.findIdx? (fun e => ((e.born : Nat) : Int) == ((j : Nat) : Int)) = some j := by
    rw [findIdx_arr]
    exact Go.WideElems.findIdx_born (entL_born ks) hj
  simp [Instr.entryStore, MapKept.run_getObj_map h2, asInt, asIntOf, hidx, MapKept.run_setObj_map _ h2, Result.andThen, setBlock]
theorem look_two {W3 : World} {j : Nat} (h3 : W3.heap[B]? = some (.map ((entL ks).toArray.modify j fun e => { e with val := .int .i64 2 }) ks.length)) (hw : ∀ m ∈ ks, Wfm m) (hx : Wfm x) (hj : (entL ks)[j]? = some ⟨keyV x, .int .i64 1, j⟩) (hd : ks.Pairwise fun a b => cmpM a b ≠ 0) :
    (Instr.lookup TMap (.map (some B)) (keyV x) false).run Try.prog W3 = .ok (.int .i64 2) W3 := by
  obtain ⟨lx, hlx⟩ := key_reads x hx
  have hc := fun em => check_key hx em W3
  have hl : ((entL ks).toArray.modify j fun e => { e with val := .int .i64 2 }).toList = (entL ks).set j ⟨keyV x, .int .i64 2, j⟩ := by
    rw [Array.toList_modify, Go.ChangeMaps.modify_eq_set _ _ _ _ (by simpa using hj)]
  have hjl : j < (entL ks).length := (List.getElem?_eq_some_iff.1 hj).1
  have hkey : ∀ (i : Nat) (e : MapEntry), ((entL ks).set j ⟨keyV x, .int .i64 2, j⟩)[i]? = some e → ∃ m, ks[i]? = some m ∧ e.key = keyV m ∧ (i ≠ j → e = entF m i) := by
    intro i e hi
    rw [List.getElem?_set] at hi
    unfold entL at hj hi
    rw [List.getElem?_mapIdx, Option.map_eq_some_iff] at hj
    obtain ⟨m, h1, h2⟩ := hj
    split at hi
    · rename_i hij
      subst hij
      split at hi
      · cases hi
        refine ⟨m, h1, ?_, fun h => absurd rfl h⟩
        have := congrArg MapEntry.key h2
        exact this.symm
      · cases hi
    · rw [List.getElem?_mapIdx, Option.map_eq_some_iff] at hi
      obtain ⟨m', h1', h2'⟩ := hi
      exact ⟨m', h1', by rw [← h2']; rfl, fun _ => h2'.symm⟩
  rcases keyLaw.find W3 hlx ((entL ks).set j ⟨keyV x, .int .i64 2, j⟩) (fun e he => by
    obtain ⟨i, hi⟩ := List.getElem?_of_mem he
    obtain ⟨m, h1, h2, _⟩ := hkey i e hi
    rw [h2]; exact key_reads m (hw m (List.mem_of_getElem? h1))) with ⟨_, h⟩ | ⟨i, e, h, hi, he⟩
  · have : (⟨keyV x, .int .i64 2, j⟩ : MapEntry) ∈ (entL ks).set j ⟨keyV x, .int .i64 2, j⟩ := List.mem_of_getElem? (i := j) (by rw [List.getElem?_set_self hjl])
    exact absurd rfl (h _ this)
  · have hij : i = j := by
      obtain ⟨m, h1, h2, h4⟩ := hkey i e hi
      by_cases hij : i = j
      · exact hij
      · exfalso
        obtain ⟨m', h1', h2', _⟩ := hkey j ⟨keyV x, .int .i64 2, j⟩ (by rw [List.getElem?_set_self hjl])
        have e1 : keyV m = keyV m' := by rw [← h2, he]; exact h2'
        have i1 := (List.getElem?_eq_some_iff.1 h1)
        have i2 := (List.getElem?_eq_some_iff.1 h1')
        rw [List.pairwise_iff_getElem] at hd
        rcases Nat.lt_or_gt_of_ne hij with hlt | hlt
        · have := hd i j i1.1 i2.1 hlt
          rw [i1.2, i2.2] at this
          exact this (keyV_inj e1)
        · have := hd j i i2.1 i1.1 hlt
          rw [i1.2, i2.2] at this
          exact this (keyV_inj e1.symm)
    subst hij
    rw [List.getElem?_set_self hjl] at hi
    cases hi
    have hl2 := hl
    generalize ((entL ks).toArray.modify i fun e => { e with val := .int .i64 2 }) = A1 at *
    rw [← hl2] at h
    simp [Instr.lookup, run_underlying Try.underlying83, MapKept.run_getObj_map h3, hc, h, Result.andThen]
end

/-- Where an entry stands that has the key, among keys that differ. -/
theorem find_at {es : List MapEntry} {x : MsgD} (hx : Wfm x) (hk : ∀ e ∈ es, ∃ m, e.key = keyV m ∧ Wfm m) (hd : ∀ (i i' : Nat) (e e' : MapEntry), es[i]? = some e → es[i']? = some e' → e.key = e'.key → i = i')
    {j : Nat} {e : MapEntry} (hj : es[j]? = some e) (he : e.key = keyV x) (W : World) : (Instr.findKey TKey (keyV x) es).run Try.prog W = .ok (some (j, e.val)) W := by
  obtain ⟨lx, hlx⟩ := key_reads x hx
  rcases keyLaw.find W hlx es (fun e he => by obtain ⟨m, h1, h2⟩ := hk e he; rw [h1]; exact key_reads m h2) with ⟨_, h⟩ | ⟨i, e', h, hi, he'⟩
  · exact absurd he (h e (List.mem_of_getElem? hj))
  · have hij := hd i j e' e hi hj (he'.trans he.symm)
    subst hij
    rw [hi] at hj
    cases hj
    exact h
theorem pushL_get {ks : List MsgD} {x : MsgD} {i : Nat} {e : MapEntry} (h : (entL ks ++ [(⟨keyV x, .int .i64 0, ks.length⟩ : MapEntry)])[i]? = some e) : (∃ m, ks[i]? = some m ∧ e = entF m i) ∨ (i = ks.length ∧ e = ⟨keyV x, .int .i64 0, ks.length⟩) := by
  rw [List.getElem?_append] at h
  split at h
  · left
    unfold entL at h
    rw [List.getElem?_mapIdx, Option.map_eq_some_iff] at h
    obtain ⟨m, h1, h2⟩ := h
    exact ⟨m, h1, h2.symm⟩
  · rename_i hl
    rw [entL_len] at hl h
    right
    have h0 : i - ks.length = 0 := by
      rcases Nat.eq_zero_or_pos (i - ks.length) with h0 | h0
      · exact h0
      · rw [List.getElem?_eq_none (by simp; omega)] at h; cases h
    rw [h0] at h
    simp at h
    exact ⟨by omega, h.symm⟩
theorem find_push {ks : List MsgD} {x : MsgD} (hw : ∀ m ∈ ks, Wfm m) (hx : Wfm x) (hne : ∀ m ∈ ks, cmpM m x ≠ 0) (hp : ks.Pairwise fun a b => cmpM a b ≠ 0) (W : World) :
    (Instr.findKey TKey (keyV x) (entL ks ++ [⟨keyV x, .int .i64 0, ks.length⟩])).run Try.prog W = .ok (some (ks.length, .int .i64 0)) W := by
  refine find_at hx (fun e he => ?_) (fun i i' e e' h1 h2 hk => ?_) (j := ks.length) (e := ⟨keyV x, .int .i64 0, ks.length⟩) (by rw [List.getElem?_append_right (by rw [entL_len]; exact Nat.le_refl _), entL_len]; simp) rfl W
  · obtain ⟨i, hi⟩ := List.getElem?_of_mem he
    rcases pushL_get hi with ⟨m, h1, rfl⟩ | ⟨_, rfl⟩
    · exact ⟨m, rfl, hw m (List.mem_of_getElem? h1)⟩
    · exact ⟨x, rfl, hx⟩
  · rw [List.pairwise_iff_getElem] at hp
    rcases pushL_get h1 with ⟨m, a1, rfl⟩ | ⟨a1, rfl⟩
    · rcases pushL_get h2 with ⟨m', b1, rfl⟩ | ⟨b1, rfl⟩
      · have i1 := List.getElem?_eq_some_iff.1 a1
        have i2 := List.getElem?_eq_some_iff.1 b1
        rcases Nat.lt_trichotomy i i' with hlt | hlt | hlt
        · have := hp i i' i1.1 i2.1 hlt
          rw [i1.2, i2.2] at this
          exact absurd (keyV_inj hk) this
        · exact hlt
        · have := hp i' i i2.1 i1.1 hlt
          rw [i1.2, i2.2] at this
          exact absurd (keyV_inj hk.symm) this
      · exact absurd (keyV_inj hk) (hne m (List.mem_of_getElem? a1))
    · rcases pushL_get h2 with ⟨m', b1, rfl⟩ | ⟨b1, rfl⟩
      · exact absurd (keyV_inj hk.symm) (hne m' (List.mem_of_getElem? b1))
      · omega
theorem look_push {W : World} {B : Nat} {ks : List MsgD} {x : MsgD} (h : W.heap[B]? = some (.map ((entL ks).toArray.push ⟨keyV x, .int .i64 0, ks.length⟩) (ks.length + 1))) (hw : ∀ m ∈ ks, Wfm m) (hx : Wfm x) (hne : ∀ m ∈ ks, cmpM m x ≠ 0) (hp : ks.Pairwise fun a b => cmpM a b ≠ 0) :
    (Instr.lookup TMap (.map (some B)) (keyV x) false).run Try.prog W = .ok (.int .i64 0) W := by
  have hf := find_push hw hx hne hp W
  have hc := fun em => check_key hx em W
  simp [Instr.lookup, run_underlying Try.underlying83, MapKept.run_getObj_map h, hc, hf, Result.andThen]
theorem entry_push {W : World} {B : Nat} {ks : List MsgD} {x : MsgD} (h : W.heap[B]? = some (.map ((entL ks).toArray.push ⟨keyV x, .int .i64 0, ks.length⟩) (ks.length + 1))) (hw : ∀ m ∈ ks, Wfm m) (hx : Wfm x) (hne : ∀ m ∈ ks, cmpM m x ≠ 0) (hp : ks.Pairwise fun a b => cmpM a b ≠ 0) :
    (Instr.mapEntry TMap (.map (some B)) (keyV x)).run Try.prog W = .ok (.tuple #[.int .i64 0, .int .i64 (ks.length : Int)]) (setBlock W B (.map ((entL ks).toArray.push ⟨keyV x, .int .i64 0, ks.length⟩) (ks.length + 1))) := by
  have hf := find_push hw hx hne hp W
  have hc := fun em => check_key hx em W
  obtain ⟨A, hA⟩ : ∃ A, A = (entL ks).toArray.push ⟨keyV x, .int .i64 0, ks.length⟩ := ⟨_, rfl⟩
  have hl : A.toList = entL ks ++ [⟨keyV x, .int .i64 0, ks.length⟩] := by rw [hA]; simp
  have hj : A.toList[ks.length]? = some (⟨keyV x, .int .i64 0, ks.length⟩ : MapEntry) := by
    rw [hl, List.getElem?_append_right (by rw [entL_len]; exact Nat.le_refl _), entL_len]; simp
  have hj2 : A[ks.length]? = some (⟨keyV x, .int .i64 0, ks.length⟩ : MapEntry) := by simpa using hj
  have hs : (A.modify ks.length fun e => { e with key := keyV x }) = A := by
    apply Array.ext'
    rw [Array.toList_modify, Go.ChangeMaps.modify_eq_set _ _ _ _ hj]
    exact Go.WideElems.set_self _ _ _ hj
  obtain ⟨lx, hlx⟩ := key_reads x hx
  have hst := keyLaw.stays W hlx
  rw [← hl] at hf
  rw [← hA] at h ⊢
  clear hA hl hj
  simp [Instr.mapEntry, run_underlying Try.underlying83, MapKept.run_getObj_map h, hc, hf, hj2, hst, hs, MapKept.run_setObj_map _ h, Result.andThen, setBlock, goInt]
end Go.Proofs.Ytjhhcfadeankfaa.VMsg
