/- Maps whose entries are known one by one, in the order in which they were made: numbers under keys. Nothing of the program stands here. -/
import Derived.Test.YtimhejjdgncdaaaRow
import Derived.MapKept
import Derived.WideKeyRuns
import Derived.WideKeyEntry
namespace Go.Proofs.Ytimhejjdgncdaaa
open Go.RowKit
set_option linter.unusedVariables false
set_option linter.unusedSimpArgs false

section
variable {K : Type} [DecidableEq K]
/-- The entries: the one at place b was the b-th. -/
def ents (kv : K → Value) : Nat → List (K × Int) → List MapEntry
  | _, [] => []
  | b, (k, v) :: r => ⟨kv k, .int .i64 v, b⟩ :: ents kv (b + 1) r
def findIn (k : K) : Nat → List (K × Int) → Option (Nat × Int)
  | _, [] => none
  | i, (k', v) :: r => if k = k' then some (i, v) else findIn k (i + 1) r
def valIn (k : K) (l : List (K × Int)) : Int := ((findIn k 0 l).map (·.2)).getD 0
def hasIn (k : K) (l : List (K × Int)) : Bool := (findIn k 0 l).isSome
/-- The list behind 'm[k] = v'. -/
def putIn (k : K) (v : Int) : List (K × Int) → List (K × Int)
  | [] => [(k, v)]
  | (k', v') :: r => if k = k' then (k', v) :: r else (k', v') :: putIn k v r
def objIn (kv : K → Value) (l : List (K × Int)) : Obj := .map (ents kv 0 l).toArray l.length
/-- The keys' own law: they are checked, and found. -/
structure KeysOk (P : Program) (kt : TypeId) (kv : K → Value) : Prop where
  chk : ∀ (e : Bool) (k : K) (w : World), (Instr.checkKey e 10000 kt (kv k)).run P w = .ok () w
  find : ∀ (k : K) (b : Nat) (l : List (K × Int)) (w : World), (Instr.findKey kt (kv k) (ents kv b l)).run P w = .ok ((findIn k 0 l).map fun x => (x.1, .int .i64 x.2)) w
  bits : ∀ (k : K), Instr.sameBits 10000 (kv k) (kv k) = true

theorem ents_length {K : Type} (kv : K → Value) : ∀ (l : List (K × Int)) (b : Nat), (ents kv b l).length = l.length
  | [], _ => rfl
  | (_, _) :: r, b => by simp [ents, ents_length kv r (b + 1)]
theorem ents_get {K : Type} (kv : K → Value) : ∀ (l : List (K × Int)) (b i : Nat), (ents kv b l)[i]? = l[i]?.map fun x => ⟨kv x.1, .int .i64 x.2, b + i⟩
  | [], _, _ => by simp [ents]
  | (k, v) :: r, b, 0 => by simp [ents]
  | (k, v) :: r, b, i + 1 => by simp [ents, ents_get kv r (b + 1) i, Nat.add_assoc, Nat.add_comm 1 i]
theorem ents_push {K : Type} (kv : K → Value) (k : K) (v : Int) : ∀ (l : List (K × Int)) (b : Nat), ents kv b (l ++ [(k, v)]) = ents kv b l ++ [⟨kv k, .int .i64 v, b + l.length⟩]
  | [], b => by simp [ents]
  | (_, _) :: r, b => by simp [ents, ents_push kv k v r (b + 1), Nat.add_assoc, Nat.add_comm 1]
theorem ents_set {K : Type} (kv : K → Value) (l : List (K × Int)) (b i : Nat) (k : K) (v u : Int) (h : l[i]? = some (k, u)) : (ents kv b l).set i ⟨kv k, .int .i64 v, b + i⟩ = ents kv b (l.set i (k, v)) := by
  apply List.ext_getElem?
  intro j
  rw [List.getElem?_set, ents_get, ents_get, List.getElem?_set, ents_length]
  by_cases hij : i = j
  · subst hij
    have := (List.getElem?_eq_some_iff.1 h).1
    simp [this]
  · simp [hij]
theorem findIn_spec (k : K) (u : Int) : ∀ (l : List (K × Int)) (i j : Nat) (v : Int), findIn k i l = some (j, v) → ∃ n, j = i + n ∧ l[n]? = some (k, v) ∧ putIn k u l = l.set n (k, u)
  | [], _, _, _, h => by cases h
  | (k', v') :: r, i, j, v, h => by
    unfold findIn at h
    by_cases hk : k = k'
    · rw [if_pos hk] at h
      cases h
      subst hk
      exact ⟨0, rfl, rfl, by simp [putIn]⟩
    · rw [if_neg hk] at h
      obtain ⟨n, e1, e2, e3⟩ := findIn_spec k u r (i + 1) j v h
      exact ⟨n + 1, by omega, e2, by simp [putIn, hk, e3]⟩
theorem findIn_none (k : K) (u : Int) : ∀ (l : List (K × Int)) (i : Nat), findIn k i l = none → putIn k u l = l ++ [(k, u)]
  | [], _, _ => rfl
  | (k', v') :: r, i, h => by
    unfold findIn at h
    by_cases hk : k = k'
    · rw [if_pos hk] at h; cases h
    · rw [if_neg hk] at h
      simp [putIn, hk, findIn_none k u r (i + 1) h]
theorem findIn_at (k : K) : ∀ (l : List (K × Int)) (i : Nat), findIn k i l = (findIn k 0 l).map fun x => (x.1 + i, x.2)
  | [], _ => rfl
  | (k', v') :: r, i => by
    unfold findIn
    by_cases hk : k = k'
    · simp [hk]
    · rw [if_neg hk, if_neg hk, findIn_at k r (i + 1), findIn_at k r (0 + 1)]
      cases findIn k 0 r <;> simp <;> omega
theorem findIn_put (k k2 : K) (u : Int) : ∀ (l : List (K × Int)), valIn k (putIn k2 u l) = (if k = k2 then u else valIn k l) ∧ hasIn k (putIn k2 u l) = (if k = k2 then true else hasIn k l)
  | [] => by
    by_cases hk : k = k2 <;> simp [putIn, valIn, hasIn, findIn, hk]
  | (k', v') :: r => by
    obtain ⟨h1, h2⟩ := findIn_put k k2 u r
    have hv : ∀ (l : List (K × Int)) a b, valIn k ((a, b) :: l) = if k = a then b else valIn k l := fun l a b => by
      by_cases hk : k = a
      · simp [valIn, findIn, hk]
      · simp only [valIn, findIn, if_neg hk]; rw [findIn_at k l (0 + 1)]; cases findIn k 0 l <;> rfl
    have hh : ∀ (l : List (K × Int)) a b, hasIn k ((a, b) :: l) = if k = a then true else hasIn k l := fun l a b => by
      by_cases hk : k = a
      · simp [hasIn, findIn, hk]
      · simp only [hasIn, findIn, if_neg hk]; rw [findIn_at k l (0 + 1)]; cases findIn k 0 l <;> rfl
    by_cases e : k2 = k'
    · subst e
      rw [show putIn k2 u ((k2, v') :: r) = (k2, u) :: r from by simp [putIn], hv, hh, hv, hh]
      by_cases hk : k = k2 <;> simp [hk]
    · rw [show putIn k2 u ((k', v') :: r) = (k', v') :: putIn k2 u r from by simp [putIn, e], hv, hh, hv, hh, h1, h2]
      by_cases hk : k = k'
      · have hn : ¬ k = k2 := fun h => e (h.symm.trans hk); simp only [if_pos hk, if_neg hn, and_self]
      · simp [hk]
theorem find_born_l {K : Type} (kv : K → Value) : ∀ (l : List (K × Int)) (b i : Nat), i < l.length → (ents kv b l).findIdx? (fun e => (e.born : Int) == ((b + i : Nat) : Int)) = some i
  | [], _, i, h => by simp at h
  | (k, v) :: r, b, 0, _ => by simp [ents, List.findIdx?_cons]
  | (k, v) :: r, b, i + 1, h => by
    have h1 := find_born_l kv r (b + 1) i (by simpa using h)
    have h0 : ((b : Int) == ((b + (i + 1) : Nat) : Int)) = false := by simp; omega
    rw [ents, List.findIdx?_cons]
    simp only [h0]
    rw [show b + (i + 1) = b + 1 + i by omega, h1]
    rfl
theorem find_born {K : Type} (kv : K → Value) (l : List (K × Int)) (i : Nat) (h : i < l.length) : (ents kv 0 l).toArray.findIdx? (fun e => (e.born : Int) == ((i : Nat) : Int)) = some i := by
  have := find_born_l kv l 0 i h
  rw [Nat.zero_add] at this
  simpa using this
theorem mod_ent {K : Type} (kv : K → Value) (l : List (K × Int)) (i : Nat) (k : K) (v u : Int) (h : l[i]? = some (k, u)) : ((ents kv 0 l).toArray.modify i fun e => { e with val := .int .i64 v }) = (ents kv 0 (l.set i (k, v))).toArray := by
  rw [← ents_set kv l 0 i k v u h]
  apply Array.ext'
  simp only [Array.toList_modify]
  apply List.ext_getElem?
  intro j
  rw [List.getElem?_modify, List.getElem?_set, ents_get, ents_length]
  by_cases hij : i = j
  · subst hij
    obtain ⟨hl, he⟩ := List.getElem?_eq_some_iff.1 h
    simp [hl, he]
  · simp [hij]
theorem mod_key {K : Type} (kv : K → Value) (l : List (K × Int)) (i : Nat) (k : K) (u : Int) (h : l[i]? = some (k, u)) : ((ents kv 0 l).toArray.modify i fun e => { e with key := kv k }) = (ents kv 0 l).toArray := by
  apply Array.ext'
  simp only [Array.toList_modify]
  apply List.ext_getElem?
  intro j
  rw [List.getElem?_modify, ents_get]
  by_cases hij : i = j
  · subst hij; simp [h]
  · simp [hij]
/-- Object g becomes another. -/
def mapTo (w : World) (g : Nat) (o : Obj) : World := { w with heap := w.heap.setIfInBounds g o }
theorem Holds.mapTo_here {w : World} {g : Nat} {o : Obj} (h : Holds w g o) (o' : Obj) : Holds (mapTo w g o') g o' := by
  unfold Holds mapTo
  simp [blkLt h]
theorem Holds.mapTo_far {w : World} {g k : Nat} {o : Obj} (h : Holds w k o) (hk : k ≠ g) (o' : Obj) : Holds (mapTo w g o') k o := by
  unfold Holds mapTo
  simp only
  rw [Array.getElem?_setIfInBounds_ne (fun e => hk e.symm)]
  exact h
theorem mapTo_mapTo (w : World) (g : Nat) (a b : Obj) : mapTo (mapTo w g a) g b = mapTo w g b := by simp [mapTo]
theorem But.mapTo_ {w w1 : World} {p : Nat → Prop} (h : But p w w1) (g : Nat) (o : Obj) (hg : p g) : But p w (mapTo w1 g o) :=
  ⟨h.os, h.tape, h.output, by simpa [mapTo] using h.size, fun k hk hn => by
    rw [← h.block k hk hn]
    simp only [mapTo]
    exact Array.getElem?_setIfInBounds_ne (fun (e : g = k) => hn (by rw [← e]; exact hg))⟩
section
variable {P : Program} {mt kt et : TypeId} {kv : K → Value} {w : World} {g : Nat} {l : List (K × Int)}
theorem run_lookup (hm : P.underlying mt = some (.map kt et)) (hz : ∀ w : World, (zeroValue et).run P w = .ok (.int .i64 0) w) (Q : KeysOk P kt kv) (h : Holds w g (objIn kv l)) (k : K) (ok : Bool) :
    (Instr.lookup mt (.map (some g)) (kv k) ok).run P w = .ok (if ok then .tuple #[.int .i64 (valIn k l), .bool (hasIn k l)] else .int .i64 (valIn k l)) w := by
  have hb : w.heap[g]? = some (.map (ents kv 0 l).toArray l.length) := h
  unfold Instr.lookup valIn hasIn
  simp only [Sem.run_bind, run_underlying hm, Result.andThen_ok, MapKept.run_getObj_map hb, Sem.run_pure, Q.chk, Q.find]
  cases findIn k 0 l with
  | none => cases ok <;> simp [hz]
  | some x => cases ok <;> simp
theorem run_mapEntry (hm : P.underlying mt = some (.map kt et)) (hz : ∀ w : World, (zeroValue et).run P w = .ok (.int .i64 0) w) (Q : KeysOk P kt kv) (h : Holds w g (objIn kv l)) (k : K) :
    ∃ i : Nat, (Instr.mapEntry mt (.map (some g)) (kv k)).run P w = .ok (.tuple #[.int .i64 (valIn k l), .int .i64 i]) (mapTo w g (objIn kv (putIn k (valIn k l) l))) ∧
      ∀ (W : World) (v : Int), Holds W g (objIn kv (putIn k (valIn k l) l)) → (Instr.entryStore mt (.map (some g)) (.int .i64 i) (.int .i64 v)).run P W = .ok () (mapTo W g (objIn kv (putIn k v l))) := by
  have hb : w.heap[g]? = some (.map (ents kv 0 l).toArray l.length) := h
  cases hf : findIn k 0 l with
  | none =>
    have hv : valIn k l = 0 := by simp [valIn, hf]
    have hp : ∀ u, putIn k u l = l ++ [(k, u)] := fun u => findIn_none k u l 0 hf
    refine ⟨l.length, ?_, fun W v hW => ?_⟩
    · unfold Instr.mapEntry
      simp only [Sem.run_bind, run_underlying hm, Result.andThen_ok, MapKept.run_getObj_map hb, Q.chk, Q.find, hf, Option.map_none, hz, MapKept.run_setObj_map _ hb, Sem.run_pure, hv, hp]
      simp [mapTo, objIn, ents_push, goInt]
    · have hb' : W.heap[g]? = some (.map (ents kv 0 (l ++ [(k, valIn k l)])).toArray (l ++ [(k, valIn k l)]).length) := by rw [← hp]; exact hW
      unfold Instr.entryStore
      have hfi : (ents kv 0 (l ++ [(k, valIn k l)])).toArray.findIdx? (fun e => (e.born : Int) == ((l.length : Nat) : Int)) = some l.length := find_born kv _ l.length (by simp)
      simp only [Sem.run_bind, Result.andThen_ok, MapKept.run_getObj_map hb', asInt, asIntOf, Sem.run_pure, Result.andThen_ok, hfi, MapKept.run_setObj_map _ hb', hp]
      simp only [mapTo, objIn]
      rw [mod_ent kv _ _ k v (valIn k l) (by simp)]
      simp
  | some x =>
    obtain ⟨i, u⟩ := x
    obtain ⟨n, e1, e2, _⟩ := findIn_spec k u l 0 i u hf
    have hp : ∀ u', putIn k u' l = l.set i (k, u') := fun u' => by obtain ⟨n', f1, _, f3⟩ := findIn_spec k u' l 0 i u hf; rw [f3, show i = n' by omega]
    have e2' : l[i]? = some (k, u) := by rw [show i = n by omega]; exact e2
    have hv : valIn k l = u := by simp [valIn, hf]
    have hself : putIn k (valIn k l) l = l := by rw [hp, hv]; exact WideElems.set_self l i _ e2'
    have hil : i < l.length := (List.getElem?_eq_some_iff.1 e2').1
    have hkey : ((ents kv 0 l).toArray[i]?).map (·.key) = some (kv k) := by simp [ents_get, e2']
    have hborn : ((ents kv 0 l).toArray[i]?).map (·.born) = some i := by simp [ents_get, e2']
    refine ⟨i, ?_, fun W v hW => ?_⟩
    · unfold Instr.mapEntry
      simp only [Sem.run_bind, run_underlying hm, Result.andThen_ok, MapKept.run_getObj_map hb, Q.chk, Q.find, hf, Option.map_some, hkey, hborn, Option.getD_some, Instr.keyThatStays, Q.bits, if_true, MapKept.run_setObj_map _ hb, Sem.run_pure, hv, hself]
      simp only [mapTo, objIn, goInt]
      rw [show ((ents kv 0 l).toArray.modify i fun e => { e with key := kv k }) = (ents kv 0 l).toArray from mod_key kv l i k u e2', hp, WideElems.set_self l i _ e2']
      simp [ents_get, e2']
    · rw [hself] at hW
      have hb' : W.heap[g]? = some (.map (ents kv 0 l).toArray l.length) := hW
      unfold Instr.entryStore
      have hfi : (ents kv 0 l).toArray.findIdx? (fun e => (e.born : Int) == ((i : Nat) : Int)) = some i := find_born kv l i hil
      simp only [Sem.run_bind, Result.andThen_ok, MapKept.run_getObj_map hb', asInt, asIntOf, Sem.run_pure, Result.andThen_ok, hfi, MapKept.run_setObj_map _ hb', hp]
      simp only [mapTo, objIn]
      rw [mod_ent kv _ _ k v u e2']
      simp
theorem run_mapUpdate (hm : P.underlying mt = some (.map kt et)) (Q : KeysOk P kt kv) (h : Holds w g (objIn kv l)) (k : K) (v : Int) (hn : hasIn k l = false) :
    (Instr.mapUpdate mt (.map (some g)) (kv k) (.int .i64 v)).run P w = .ok () (mapTo w g (objIn kv (putIn k v l))) := by
  have hb : w.heap[g]? = some (.map (ents kv 0 l).toArray l.length) := h
  have hf : findIn k 0 l = none := by simpa [hasIn] using hn
  unfold Instr.mapUpdate
  simp only [Sem.run_bind, run_underlying hm, Result.andThen_ok, MapKept.run_getObj_map hb, Q.chk, Q.find, hf, Option.map_none, MapKept.run_setObj_map _ hb, findIn_none k v l 0 hf]
  simp [mapTo, objIn, ents_push]
end
end
end Go.Proofs.Ytimhejjdgncdaaa
