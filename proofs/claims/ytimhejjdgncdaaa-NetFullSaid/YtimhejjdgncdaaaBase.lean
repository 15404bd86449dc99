/- Small words on memory that all texts of this seat use: cells that are read, what a call keeps. Nothing of the program stands here. -/
import Derived.WalkKit
import Derived.WalkSpells
import Derived.WalkLawsBesides
import Derived.RowKit3
import Derived.Lib.AppendStr
import Derived.Laws.BytesArg
import Derived.Maps.AppendAt
namespace Go.Proofs.Ytimhejjdgncdaaa
open Go.RowKit
set_option linter.unusedVariables false
set_option linter.unusedSimpArgs false

/-- The cells of bytes. -/
def u8s (l : List UInt8) : List Value := l.map fun b => Value.int .u8 (b.toNat : Int)
theorem u8s_length (l : List UInt8) : (u8s l).length = l.length := by simp [u8s]
theorem u8s_append (l m : List UInt8) : u8s (l ++ m) = u8s l ++ u8s m := by simp [u8s]
theorem u8s_one (l : List UInt8) : ∀ v ∈ u8s l, v.oneCell' = true := by
  intro v hv; simp only [u8s, List.mem_map] at hv; obtain ⟨b, _, rfl⟩ := hv; rfl


/-- The cells cs stand one behind the other from A on, in one block of elements of type e. -/
def CellsAt (w : World) (e : TypeId) (A : Option Addr) (cs : List Value) : Prop :=
  cs ≠ [] → ∃ g off cur fr, A = some ⟨g, off, none⟩ ∧ w.heap[g]? = some (.cells cur e fr) ∧ ∀ j u, cs[j]? = some u → cur[off + j]? = some u

theorem blkLt {w : World} {g : Nat} {o : Obj} (h : w.heap[g]? = some o) : g < w.heap.size := (Array.getElem?_eq_some_iff.1 h).1
theorem addP (g o j : Nat) : (⟨g, o, none⟩ : Addr).add j = ⟨g, o + j, none⟩ := by unfold Addr.add; split <;> simp_all
theorem cellOf {w : World} {g : Nat} {c : Array Value} {t : TypeId} {fr : Nat × Nat} (h : w.heap[g]? = some (.cells c t fr)) (i : Nat) : w.cell? ⟨g, i, none⟩ = c[i]? := by simp [World.cell?, h]
theorem frozenOf {w : World} {g : Nat} {c : Array Value} {t : TypeId} (h : w.heap[g]? = some (.cells c t (0, 0))) (i : Nat) : w.frozen? ⟨g, i, none⟩ = false := by simp [World.frozen?, h]

theorem blkSet {w : World} {g : Nat} {t : TypeId} {cs : Array Value} (h : w.heap[g]? = some (.cells cs t (0, 0))) (i : Nat) (u : Value) : (w.setCell ⟨g, i, none⟩ u).heap[g]? = some (.cells (cs.setIfInBounds i u) t (0, 0)) := by
  simp [World.setCell, Array.getElem?_modify, h]
theorem blkAlloc {w : World} {g : Nat} {o : Obj} (h : w.heap[g]? = some o) (o' : Obj) : (w.alloc o').heap[g]? = some o := (Below.heap_alloc w o' g (blkLt h)).trans h
theorem blkFar {w : World} {g : Nat} {o : Obj} (h : w.heap[g]? = some o) {a : Addr} (hg : g ≠ a.block) (u : Value) : (w.setCell a u).heap[g]? = some o := (Below.heap_setCell w a u g hg).trans h

theorem alloc_drewN (w : World) (n : Nat) (o : Obj) : (w.drewN n).alloc o = (w.alloc o).drewN n := rfl
theorem setCell_drewN (w : World) (n : Nat) (a : Addr) (v : Value) : (w.drewN n).setCell a v = (w.setCell a v).drewN n := rfl
theorem setRow_drewN (w : World) (n : Nat) (g : Nat) (cs : Array Value) : (w.drewN n).setRow g cs = (w.setRow g cs).drewN n := rfl
theorem size_setRow (w : World) (g : Nat) (cs : Array Value) : (w.setRow g cs).heap.size = w.heap.size := by simp [World.setRow]
theorem blkRow {w : World} {g : Nat} {t : TypeId} {fr : Nat × Nat} {cs : Array Value} (h : w.heap[g]? = some (.cells cs t fr)) (ds : Array Value) : (w.setRow g ds).heap[g]? = some (.cells ds t fr) := by
  simp [World.setRow, Array.getElem?_modify, h]
theorem blkRowFar {w : World} {g k : Nat} {o : Obj} (h : w.heap[k]? = some o) (hk : k ≠ g) (ds : Array Value) : (w.setRow g ds).heap[k]? = some o := by
  simp only [World.setRow, Array.getElem?_modify]; rw [if_neg (fun e => hk e.symm)]; exact h
theorem cell_setRow {w : World} {g i : Nat} (k : Nat) (ds : Array Value) (hk : ¬ k = g) : (w.setRow g ds).cell? ⟨k, i, none⟩ = w.cell? ⟨k, i, none⟩ := by
  simp [World.cell?, World.setRow, Array.getElem?_modify, if_neg (fun e : g = k => hk e.symm)]
theorem frozen_setRow {w : World} {g i : Nat} (k : Nat) (ds : Array Value) (hk : ¬ k = g) : (w.setRow g ds).frozen? ⟨k, i, none⟩ = w.frozen? ⟨k, i, none⟩ := by
  simp [World.frozen?, World.setRow, Array.getElem?_modify, if_neg (fun e : g = k => hk e.symm)]

theorem world_ext : ∀ {a b : World}, a.heap = b.heap → a.tape = b.tape → a.drawn = b.drawn → a.os = b.os → a.output = b.output → a = b := by
  rintro ⟨⟩ ⟨⟩; simp_all
theorem alloc_setRow (w : World) (c d : Array Value) (t : TypeId) (fr : Nat × Nat) : (w.alloc (.cells c t fr)).setRow w.heap.size d = w.alloc (.cells d t fr) := by
  refine world_ext ?_ rfl rfl rfl rfl
  simp only [World.setRow, World.alloc]
  apply Array.ext
  · simp
  · intro i h1 h2
    rw [Array.getElem_modify]
    simp only [Array.getElem_push]
    by_cases hi : i = w.heap.size
    · subst hi; simp
    · have : i < w.heap.size := by simp at h2; omega
      rw [if_neg (fun e => hi e.symm), dif_pos this, dif_pos this]

/-- What a call leaves: all but block p is as it was; the streams too. -/
structure But (p : Nat → Prop) (w w' : World) : Prop where
  os : w'.os = w.os
  tape : w'.tape = w.tape
  output : w'.output = w.output
  size : w.heap.size ≤ w'.heap.size
  block : ∀ k, k < w.heap.size → ¬ p k → w'.heap[k]? = w.heap[k]?
section
variable {p q : Nat → Prop} {w w1 w2 : World}
theorem But.refl (p : Nat → Prop) (w : World) : But p w w := ⟨rfl, rfl, rfl, Nat.le_refl _, fun _ _ _ => rfl⟩
theorem But.trans (h : But p w w1) (k : But p w1 w2) : But p w w2 :=
  ⟨k.os.trans h.os, k.tape.trans h.tape, k.output.trans h.output, Nat.le_trans h.size k.size, fun i hi hn => (k.block i (Nat.lt_of_lt_of_le hi h.size) hn).trans (h.block i hi hn)⟩
/-- Two steps; what the second may write is what the first may, or new. -/
theorem But.then_ (h : But p w w1) (k : But q w1 w2) (hq : ∀ i, q i → p i ∨ w.heap.size ≤ i) : But p w w2 :=
  ⟨k.os.trans h.os, k.tape.trans h.tape, k.output.trans h.output, Nat.le_trans h.size k.size, fun i hi hn =>
    (k.block i (Nat.lt_of_lt_of_le hi h.size) (fun hk => (hq i hk).elim hn (fun h3 => by omega))).trans (h.block i hi hn)⟩
theorem But.mono (h : But p w w1) (hq : ∀ i, p i → q i) : But q w w1 := ⟨h.os, h.tape, h.output, h.size, fun i hi hn => h.block i hi (fun k => hn (hq i k))⟩
theorem But.alloc (h : But p w w1) (o : Obj) : But p w (w1.alloc o) :=
  h.then_ (q := fun _ => False) ⟨rfl, rfl, rfl, by simp, fun k hk _ => Below.heap_alloc _ _ _ hk⟩ (fun _ h => h.elim)
theorem But.drew (h : But p w w1) : But p w w1.drew := ⟨h.os, h.tape, h.output, h.size, h.block⟩
theorem But.drewN (h : But p w w1) (n : Nat) : But p w (w1.drewN n) := ⟨h.os, h.tape, h.output, h.size, h.block⟩
theorem But.setCell (h : But p w w1) {a : Addr} (ha : p a.block ∨ w.heap.size ≤ a.block) (u : Value) : But p w (w1.setCell a u) :=
  h.then_ (q := fun k => k = a.block) ⟨rfl, rfl, rfl, by simp [World.setCell], fun k _ hn => Below.heap_setCell _ _ _ _ hn⟩ (fun _ hk => by rw [hk]; exact ha)
theorem But.setRow (h : But p w w1) {g : Nat} (hg : p g ∨ w.heap.size ≤ g) (cs : Array Value) : But p w (w1.setRow g cs) :=
  h.then_ (q := fun k => k = g) ⟨rfl, rfl, rfl, by simp [World.setRow], fun k _ hn => by simp only [World.setRow, Array.getElem?_modify]; rw [if_neg (fun e => hn e.symm)]⟩ (fun _ hk => by rw [hk]; exact hg)
theorem But.of_below {B : Nat} (h : Below B w w1) : But (fun k => B ≤ k) w w1 := ⟨h.os, h.tape, h.output, h.size, fun k _ hn => h.block k (by omega)⟩
theorem But.below (h : But p w w1) {B : Nat} (hB : ∀ k, p k → B ≤ k) (hs : B ≤ w.heap.size) : Below B w w1 :=
  ⟨h.os, h.tape, h.output, h.size, fun k hk => h.block k (by omega) (fun hp => by have := hB k hp; omega)⟩
theorem But.none_below (h : But (fun _ => False) w w1) : Below w.heap.size w w1 := h.below (fun _ h => h.elim) (Nat.le_refl _)
theorem But.blk (h : But p w w1) {g : Nat} {o : Obj} (hg : w.heap[g]? = some o) (hn : ¬ p g) : w1.heap[g]? = some o := (h.block g (blkLt hg) hn).trans hg
theorem CellsAt.but {e : TypeId} {A : Option Addr} {cs : List Value} (h : CellsAt w e A cs) (k : But p w w1) (hp : ∀ g, p g → ∀ cur fr, w.heap[g]? ≠ some (.cells cur e fr)) : CellsAt w1 e A cs := by
  intro hn
  obtain ⟨g, off, cur, fr, hA, hg, hc⟩ := h hn
  exact ⟨g, off, cur, fr, hA, k.blk hg (fun hpg => hp g hpg cur fr hg), hc⟩
end
theorem CellsAt.below {w w1 : World} {e : TypeId} {A : Option Addr} {cs : List Value} (h : CellsAt w e A cs) (k : Below w.heap.size w w1) : CellsAt w1 e A cs :=
  h.but (p := fun _ => False) ⟨k.os, k.tape, k.output, k.size, fun i hi _ => k.block i hi⟩ (fun _ h => h.elim)
theorem CellsAt.nil (w : World) (e : TypeId) (A : Option Addr) : CellsAt w e A [] := fun h => absurd rfl h
theorem CellsAt.take {w : World} {e : TypeId} {A : Option Addr} {cs : List Value} (h : CellsAt w e A cs) (n : Nat) : CellsAt w e A (cs.take n) := by
  intro hn
  obtain ⟨g, off, cur, fr, hA, hg, hc⟩ := h (fun e => hn (by simp [e]))
  refine ⟨g, off, cur, fr, hA, hg, fun j u hj => hc j u ?_⟩
  rw [List.getElem?_take] at hj
  split at hj
  · exact hj
  · cases hj
theorem CellsAt.new (w : World) (e : TypeId) (cs : Array Value) : CellsAt (w.alloc (.cells cs e)) e (some ⟨w.heap.size, 0, none⟩) cs.toList := fun _ =>
  ⟨w.heap.size, 0, cs, (0, 0), rfl, heap_alloc_new w _, fun j u hj => by simpa using hj⟩
theorem CellsAt.cell {w : World} {e : TypeId} {a : Addr} {cs : List Value} (h : CellsAt w e (some a) cs) : ∀ j u, cs[j]? = some u → w.cell? (a.add j) = some u := by
  intro j u hj
  obtain ⟨g, off, cur, fr, hA, hg, hc⟩ := h (fun e => by rw [e] at hj; simp at hj)
  injection hA with hA
  subst hA
  rw [addP, cellOf hg]
  exact hc j u hj
theorem CellsAt.none_nil {w : World} {e : TypeId} {cs : List Value} (h : CellsAt w e none cs) : cs = [] := by
  by_cases hn : cs = []
  · exact hn
  · obtain ⟨g, off, cur, fr, hA, _⟩ := h hn
    cases hA
/-- The cells are read. -/
theorem run_first {P : Program} {w : World} {e : TypeId} {A : Option Addr} {cs : List Value} (h : CellsAt w e A cs) (n len cap : Nat) (hn : cs.length = n) :
    (Builtin.firstCells 1 n (.slice A len cap)).run P w = .ok cs.toArray w := by
  cases A with
  | none => obtain rfl := h.none_nil; simp [Builtin.firstCells]
  | some a =>
    have := run_loadCells_list (P := P) w a cs h.cell
    simp [Builtin.firstCells, ← hn, this]
/-- A cell of another block is as it was. -/
theorem But.keeps {p : Nat} {w w1 : World} (h : But (· = p) w w1) {g o : Nat} {v : Value} (hc : w.cell? ⟨g, o, none⟩ = some v) (hn : ¬ g = p) : w1.cell? ⟨g, o, none⟩ = some v := by
  rw [← hc]; exact World.cell?_of_block (h.block g (World.block_lt_of_cell? w _ hc) hn)
/-- Bytes that are read make a string. -/
theorem run_str {P : Program} {w : World} {src e dst : TypeId} (hs : P.underlying src = some (.slice e)) (he : P.underlying e = some (.int .u8)) (hd : P.underlying dst = some .string)
    {e' : TypeId} {A : Option Addr} {l : List UInt8} (h : CellsAt w e' A (u8s l)) (n cap : Nat) (hn : l.length = n) : (convert src dst (.slice A n cap)).run P w = .ok (.string ⟨l.toArray⟩) w := by
  subst hn
  have hx : strOfNums (l.map fun b => (b.toNat : Int)) = ⟨l.toArray⟩ := by
    have : (strOfNums (l.map fun b => (b.toNat : Int))).data.toList = l := by
      rw [strOfNums_data, List.map_map]
      conv => rhs; rw [← List.map_id l]
      apply List.map_congr_left
      intro b _
      simp
    cases hq : strOfNums (l.map fun b => (b.toNat : Int)) with
    | mk da => rw [hq] at this; simp at this; subst this; rfl
  by_cases hl : l = []
  · subst hl
    cases A with
    | none => exact run_convert_bytes_nil w src e hs he 0 cap dst hd
    | some a =>
      have hl : (loadCells a 0).run P w = .ok #[] w := by simpa using run_loadCells_list (P := P) w a [] (by simp)
      simp [convert, run_underlying hs, run_underlying hd, run_underlying he, hl, Conv.bytesToString, Sem.run_bind]
      rfl
  · obtain ⟨g, off, cur, fr, rfl, hg, hc⟩ := h (by simpa [u8s] using hl)
    rw [← hx]
    refine run_convert_bytes_arg w src e hs he g off l.length cap (l.map fun b => (b.toNat : Int)) (by simp) (fun i hi => ?_) dst hd
    rw [cellOf hg]
    refine hc i _ ?_
    simp [u8s, List.getElem?_eq_getElem hi, List.getD_eq_getElem?_getD]
/-- Copying into a row that is one block: from a slice, or a string. -/
theorem run_copy_at {P : Program} (w : World) (dT sT ty elem : TypeId) (g o dLen dCap : Nat) (A : Option Addr) (sLen sCap : Nat) (cur : Array Value) (t e' : TypeId) (cs : List Value)
    (hu : P.underlying dT = some (.slice elem)) (hs : (P.info? elem).map (·.size) = some 1)
    (hg : w.heap[g]? = some (.cells cur t (0, 0))) (hn : cs.length = sLen) (hd : sLen ≤ dLen)
    (hsrc : CellsAt w e' A cs) (hfit : o + cs.length ≤ cur.size) (h1 : ∀ v ∈ cs, v.oneCell' = true) :
    (Builtin.copy_ #[dT, sT] ty #[.slice (some ⟨g, o, none⟩) dLen dCap, .slice A sLen sCap]).run P w =
      .ok (goInt sLen) (w.setRow g (cur.toList.take o ++ cs ++ cur.toList.drop (o + cs.length)).toArray) := by
  have hst := run_storeCells_at P g o t cs 0 cur w hg (by simpa using hfit) h1
  have hf := run_first (P := P) hsrc sLen sLen sCap hn
  have hm : Nat.min sLen dLen = sLen := Nat.min_eq_left hd
  cases hq : P.info? elem with
  | none => simp [hq] at hs
  | some i =>
    have hi : i.size = 1 := by simpa [hq] using hs
    simp [Builtin.copy_, run_underlying hu, Builtin.lenOf, sizeOf, typeInfo, hq, hi, hf, hst, hm]
theorem run_copy_str {P : Program} (w : World) (dT sT ty elem : TypeId) (g o dLen dCap : Nat) (s : ByteArray) (cur : Array Value) (t : TypeId)
    (hu : P.underlying dT = some (.slice elem)) (hs : (P.info? elem).map (·.size) = some 1)
    (hg : w.heap[g]? = some (.cells cur t (0, 0))) (hd : s.size ≤ dLen) (hfit : o + s.size ≤ cur.size) :
    (Builtin.copy_ #[dT, sT] ty #[.slice (some ⟨g, o, none⟩) dLen dCap, .string s]).run P w =
      .ok (goInt s.size) (w.setRow g (cur.toList.take o ++ u8s s.data.toList ++ cur.toList.drop (o + s.size)).toArray) := by
  have hl : (u8s s.data.toList).length = s.size := by rw [u8s_length, Array.length_toList]; rfl
  have hst := run_storeCells_at P g o t (u8s s.data.toList) 0 cur w hg (by simpa [hl] using hfit) (u8s_one _)
  have hf := Lib.run_firstCells_string (P := P) w 1 s
  rw [show Lib.strCells s = u8s s.data.toList from rfl] at hf
  have hm : Nat.min s.size dLen = s.size := Nat.min_eq_left hd
  cases hq : P.info? elem with
  | none => simp [hq] at hs
  | some i =>
    have hi : i.size = 1 := by simpa [hq] using hs
    simp [Builtin.copy_, sizeOf, run_underlying hu, typeInfo, hq, hi, hf, hst, hm, hl, Builtin.lenOf]
/-- Cells that came in: whatever their block is. -/
def Sees (w : World) (A : Option Addr) (cs : List Value) : Prop := ∃ e, CellsAt w e A cs
theorem Sees.but {w w1 : World} {A : Option Addr} {cs : List Value} (h : Sees w A cs) (k : But (fun _ => False) w w1) : Sees w1 A cs := by
  obtain ⟨e, h⟩ := h
  exact ⟨e, h.but k (fun _ h => h.elim)⟩
theorem Sees.at {w : World} {A : Option Addr} {cs : List Value} (h : Sees w A cs) (i : Nat) (hi : i < cs.length) : ∃ g off, A = some ⟨g, off, none⟩ ∧ g < w.heap.size ∧ ∀ j u, cs[j]? = some u → w.cell? ⟨g, off + j, none⟩ = some u := by
  obtain ⟨e, h⟩ := h
  obtain ⟨g, off, cur, fr, hA, hg, hc⟩ := h (fun e => by rw [e] at hi; simp at hi)
  exact ⟨g, off, hA, blkLt hg, fun j u hj => by rw [cellOf hg]; exact hc j u hj⟩
theorem sees_of_cells {w : World} {a : Addr} {cs : List Value} (h : ∀ j u, cs[j]? = some u → w.cell? (a.add j) = some u) : Sees w (some a) cs := by
  by_cases hn : cs = []
  · subst hn; exact ⟨0, CellsAt.nil _ _ _⟩
  · have h0 : ∃ u, cs[0]? = some u := by cases cs with | nil => exact absurd rfl hn | cons u r => exact ⟨u, rfl⟩
    obtain ⟨u0, h0⟩ := h0
    have c0 := h 0 u0 h0
    have e0 : a.add 0 = a := by simp [Addr.add]
    rw [e0] at c0
    obtain ⟨b, o, sp⟩ := a
    simp only [World.cell?] at c0
    cases hb : w.heap[b]? with
    | none => rw [hb] at c0; cases c0
    | some ob =>
      rw [hb] at c0
      cases ob with
      | cells cur e fr =>
        cases sp with
        | some q => simp at c0
        | none =>
          refine ⟨e, fun _ => ⟨b, o, cur, fr, rfl, hb, fun j u hj => ?_⟩⟩
          have := h j u hj
          rw [addP, cellOf hb] at this
          exact this
      | _ => simp at c0
/-- append(v, src...): v a row of the call's own, src whatever is read (nil, too). -/
theorem run_append_src {P : Program} (w : World) (base : Nat) (t ty e : TypeId) (z : Value) (size bytes : Nat) (ht : P.underlying t = some (.slice e)) (hinfo : (P.info? e).map (fun i => (i.zero, i.size, i.bytes)) = some (some z, size, bytes))
    (hzs : z.cells.size = size) (hsz : 0 < size) (v : Value) (n : Nat) (xs : List Value) (hown : w.ownsRow base e size v n xs) (A : Option Addr) (m c : Nat) (news : List Value) (hl : news.length = m * size) (e' : TypeId) (hsrc : CellsAt w e' A news) (h1 : ∀ u ∈ news, u.oneCell' = true)
    (h63 : n + m ≤ maxLen) (hbytes : (n + m) * bytes ≤ 140737488355328) (hbase : base ≤ w.heap.size) :
    ∃ v' w', (Builtin.append_ #[t, t] ty #[v, .slice A m c]).run P w = .ok v' w' ∧ w'.ownsRow base e size v' (n + m) (xs ++ news) ∧ w.grownBy w' v.ownBlock ∧ (v'.ownBlock = v.ownBlock ∨ v'.ownBlock = some w.heap.size) := by
  obtain ⟨i0, hi, hzz⟩ := Option.map_eq_some_iff.1 hinfo
  simp only [Prod.mk.injEq] at hzz
  obtain ⟨hz0, hz1, hz2⟩ := hzz
  cases A with
  | some ad =>
    obtain ⟨v1, w1, hr, h2, h3, _, h5⟩ := run_append_own_at (P := P) w base t ty e i0 z size bytes ht hi hz0 hz1 hz2 hzs hsz v n xs hown ad m c news hl hsrc.cell h1 h63 hbytes hbase
    exact ⟨v1, w1, hr, h2, h3, h5⟩
  | none =>
    have hn := hsrc.none_nil
    subst hn
    have hm : m = 0 := by
      rcases Nat.eq_zero_or_pos m with h | h
      · exact h
      · have := Nat.mul_pos h hsz; simp at hl; omega
    subst hm
    refine ⟨v, w, ?_, by simpa using hown, World.grownBy.refl w _, .inl rfl⟩
    rcases hown.2 with ⟨rfl, hn⟩ | ⟨g, cap, cur, rfl, _, _, hnc, _⟩
    · simp [Builtin.append_, run_underlying ht, sizeOf, typeInfo, hi, Builtin.lenOf, Builtin.firstCells]
    · simp [Builtin.append_, run_underlying ht, sizeOf, typeInfo, hi, Builtin.lenOf, Builtin.firstCells, hnc, storeCells]
/-- What is owned is read. -/
theorem own_cells {w : World} {base n size : Nat} {e : TypeId} {v : Value} {xs : List Value} (h : w.ownsRow base e size v n xs) : ∃ A c, v = .slice A n c ∧ n ≤ c ∧ CellsAt w e A xs := by
  obtain ⟨hl, h2⟩ := h
  rcases h2 with ⟨rfl, hn⟩ | ⟨g, cap, cur, rfl, _, hh, hnc, _, hc, ht⟩
  · subst hn
    have : xs = [] := by simpa using hl
    subst this
    exact ⟨none, 0, rfl, Nat.le_refl _, CellsAt.nil _ _ _⟩
  · refine ⟨_, cap, rfl, hnc, fun _ => ⟨g, 0, cur, (0, 0), rfl, hh, fun j u hj => ?_⟩⟩
    rw [← ht, List.getElem?_take] at hj
    split at hj
    · simpa using hj
    · cases hj
theorem own_nil0 (W : World) (base : Nat) (e : TypeId) (size : Nat) : W.ownsRow base e size (.slice none 0 0) 0 [] := ⟨by simp, .inl ⟨rfl, rfl⟩⟩
theorem But.of_grown {w w1 : World} {row : Option Nat} (h : w.grownBy w1 row) : But (fun k => row = some k) w w1 := ⟨h.os, h.tape, h.output, h.size, fun i hi hn => h.block i hi (fun e => hn e.symm)⟩
/-- The walk's step at a builtin whose run is known. -/
theorem wpList_append {P : Program} {ops : Array Oper} {rest : List Oper} {o : Oper} {a : Act} {Q : Exit → Act → World → Prop} {W : World} (hgd : o.guard = none) (s x : Operand) (t1 t2 : TypeId)
    (ho : o.op = .call { callee := .builtin .append, args := #[s, x], argTypes := #[t1, t2] }) (v1 v2 : Value) (hs : a.eval s = v1) (hx : a.eval x = v2) (r : Value) (W' : World)
    (hr : (Builtin.append_ #[t1, t2] o.type #[v1, v2]).run P W = .ok r W') (h : wpList P ops Q rest (a.put o.dst r) W') : wpList P ops Q (o :: rest) a W := by
  refine wpList_plain hgd fun K hK => ?_
  unfold Oper.wp execOp
  simp only [ho, resolve, invoke, builtin, Sem.run_bind, Sem.run_pure, Result.andThen_ok, List.map_toArray, List.map_cons, List.map_nil, hs, hx, hr]
  exact hK _ _ h
/-- The walk's step at a copy whose run is known. -/
theorem wpList_copy {P : Program} {ops : Array Oper} {rest : List Oper} {o : Oper} {a : Act} {Q : Exit → Act → World → Prop} {W : World} (hgd : o.guard = none) (s x : Operand) (t1 t2 : TypeId)
    (ho : o.op = .call { callee := .builtin .copy, args := #[s, x], argTypes := #[t1, t2] }) (v1 v2 : Value) (hs : a.eval s = v1) (hx : a.eval x = v2) (r : Value) (W' : World)
    (hr : (Builtin.copy_ #[t1, t2] o.type #[v1, v2]).run P W = .ok r W') (h : wpList P ops Q rest (a.put o.dst r) W') : wpList P ops Q (o :: rest) a W := by
  refine wpList_plain hgd fun K hK => ?_
  unfold Oper.wp execOp
  simp only [ho, resolve, invoke, builtin, Sem.run_bind, Sem.run_pure, Result.andThen_ok, List.map_toArray, List.map_cons, List.map_nil, hs, hx, hr]
  exact hK _ _ h
end Go.Proofs.Ytimhejjdgncdaaa
