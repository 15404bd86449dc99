/- Values that all layers hand about: transactions, members, texts, records; and where they lie. -/
import Derived.Test.YtimhejjdgncdaaaProg
import Derived.Test.YtimhejjdgncdaaaOpen
import Derived.Lib.Hide
namespace Go.Proofs.Ytimhejjdgncdaaa
open Go.RowKit
set_option linter.unusedVariables false
set_option linter.unusedSimpArgs false

/-- A transaction's name. -/
structure TxnV where
  c : Int
  e : Int
  s : Int
  deriving DecidableEq
/-- A member. -/
structure MemV where
  org : Int
  dig : ByteArray
  deriving DecidableEq
def RepMem (m : MemV) (cs : List Value) : Prop := cs = [.int .i64 m.org, .string m.dig] ∧ (-9223372036854775808 ≤ m.org ∧ m.org ≤ 9223372036854775807) ∧ m.dig.size ≤ maxLen
/-- A slice of members. -/
structure SlV where
  A : Option Addr
  n : Nat
  c : Nat
def SlV.val (s : SlV) : Value := .slice s.A s.n s.c
def MemsAt (w : World) (s : SlV) (ms : List MemV) : Prop := ms.length = s.n ∧ s.n ≤ s.c ∧ s.c ≤ 9223372036854775807 ∧ RowAt w s.A 2 RepMem ms
/-- A slice of texts. -/
def StrsAt (w : World) (s : SlV) (ss : List ByteArray) : Prop := ss.length = s.n ∧ s.n ≤ s.c ∧ s.c ≤ 9223372036854775807 ∧ RowAt w s.A 1 RepStr ss
/-- A record; its members, its tags. -/
structure RecV where
  kind : Int
  epoch : Int
  t : TxnV
  yes : Bool
  aud : Int
  msl : SlV
  tsl : SlV
  body : ByteArray
  ms : List MemV
  tags : List ByteArray
def RecV.cells (r : RecV) : List Value := [.int .u8 r.kind, .int .i64 r.epoch, .int .i64 r.t.c, .int .i64 r.t.e, .int .i64 r.t.s, .bool r.yes, .int .i64 r.aud, .slice r.msl.A r.msl.n r.msl.c, .slice r.tsl.A r.tsl.n r.tsl.c, .string r.body]
def RecV.arr (r : RecV) : Array Value := r.cells.toArray
def RecV.val (r : RecV) : Value := .agg r.arr
def RecOk (w : World) (r : RecV) : Prop := MemsAt w r.msl r.ms ∧ StrsAt w r.tsl r.tags ∧ r.body.size ≤ maxLen ∧ (0 ≤ r.kind ∧ r.kind ≤ 255) ∧ (-9223372036854775808 ≤ r.epoch ∧ r.epoch ≤ 9223372036854775807) ∧ (-9223372036854775808 ≤ r.t.c ∧ r.t.c ≤ 9223372036854775807) ∧ (-9223372036854775808 ≤ r.t.e ∧ r.t.e ≤ 9223372036854775807) ∧ (-9223372036854775808 ≤ r.t.s ∧ r.t.s ≤ 9223372036854775807) ∧ (-9223372036854775808 ≤ r.aud ∧ r.aud ≤ 9223372036854775807)
theorem RowAt.but {α : Type} {w w1 : World} {A : Option Addr} {sz : Nat} {R : α → List Value → Prop} {l : List α} (h : RowAt w A sz R l) (k : But (fun _ => False) w w1) : RowAt w1 A sz R l := by
  obtain ⟨cs, h1, h2, h3⟩ := h
  exact ⟨cs, h1, h2.but k, h3⟩
theorem MemsAt.but {w w1 : World} {s : SlV} {ms : List MemV} (h : MemsAt w s ms) (k : But (fun _ => False) w w1) : MemsAt w1 s ms := ⟨h.1, h.2.1, h.2.2.1, h.2.2.2.but k⟩
theorem StrsAt.but {w w1 : World} {s : SlV} {ss : List ByteArray} (h : StrsAt w s ss) (k : But (fun _ => False) w w1) : StrsAt w1 s ss := ⟨h.1, h.2.1, h.2.2.1, h.2.2.2.but k⟩
theorem RecOk.but {w w1 : World} {r : RecV} (h : RecOk w r) (k : But (fun _ => False) w w1) : RecOk w1 r := ⟨h.1.but k, h.2.1.but k, h.2.2⟩
/-- Element by element: where it begins, and its cells. -/
theorem RowAt.elem {α : Type} {w : World} {A : Option Addr} {sz : Nat} {R : α → List Value → Prop} {l : List α} (h : RowAt w A sz R l) (h0 : 0 < sz) (i : Nat) (x : α) (hi : l[i]? = some x) :
    ∃ g off c, A = some ⟨g, off, none⟩ ∧ g < w.heap.size ∧ R x c ∧ c.length = sz ∧ ∀ j u, c[j]? = some u → w.cell? ⟨g, off + i * sz + j, none⟩ = some u := by
  obtain ⟨cs, hl, hs, hR⟩ := h
  have hil : i < l.length := (List.getElem?_eq_some_iff.1 hi).1
  have h1 : i * sz + sz ≤ cs.length := by rw [hl, ← Nat.succ_mul]; exact Nat.mul_le_mul_right _ hil
  obtain ⟨g, off, hA, hg, hc⟩ := hs.at (i * sz) (by omega)
  refine ⟨g, off, _, hA, hg, hR i x hi, by rw [List.length_take, List.length_drop]; omega, fun j u hj => (by rw [Nat.add_assoc]; exact hc _ u (by
    rw [List.getElem?_take] at hj
    split at hj
    · rw [List.getElem?_drop] at hj; exact hj
    · cases hj))⟩
theorem RowAt.take {α : Type} {w : World} {A : Option Addr} {sz : Nat} {R : α → List Value → Prop} {l : List α} (h : RowAt w A sz R l) (n : Nat) (hn : n ≤ l.length) : RowAt w A sz R (l.take n) := by
  obtain ⟨cs, hl, ⟨e, hs⟩, hR⟩ := h
  refine ⟨cs.take (n * sz), ?_, ⟨e, hs.take _⟩, fun i x hi => ?_⟩
  · rw [List.length_take, List.length_take, hl, Nat.min_eq_left hn, Nat.min_eq_left (Nat.mul_le_mul_right _ hn)]
  · rw [List.getElem?_take] at hi
    split at hi
    · rename_i hlt
      have := hR i x hi
      rw [List.drop_take, List.take_take, Nat.min_eq_left]
      · exact this
      · have : i * sz + sz ≤ n * sz := by rw [← Nat.succ_mul]; exact Nat.mul_le_mul_right _ hlt
        omega
    · cases hi
theorem MemsAt.get {w : World} {s : SlV} {ms : List MemV} (h : MemsAt w s ms) (k : Nat) (hk : k < ms.length) : ∃ g off, s.A = some ⟨g, off, none⟩ ∧ g < w.heap.size ∧ w.cell? ⟨g, off + k * 2, none⟩ = some (.int .i64 ms[k].org) ∧ w.cell? ⟨g, off + k * 2 + 1, none⟩ = some (.string ms[k].dig) ∧
    (-9223372036854775808 ≤ ms[k].org ∧ ms[k].org ≤ 9223372036854775807) ∧ ms[k].dig.size ≤ maxLen := by
  obtain ⟨g, off, c, hA, hg, ⟨rfl, h1, h2⟩, _, hc⟩ := h.2.2.2.elem (by decide) k ms[k] (List.getElem?_eq_getElem hk)
  exact ⟨g, off, hA, hg, hc 0 _ rfl, hc 1 _ rfl, h1, h2⟩

theorem StrsAt.get {w : World} {s : SlV} {ss : List ByteArray} (h : StrsAt w s ss) (k : Nat) (hk : k < ss.length) : ∃ g off, s.A = some ⟨g, off, none⟩ ∧ g < w.heap.size ∧ w.cell? ⟨g, off + k, none⟩ = some (.string ss[k]) ∧ ss[k].size ≤ maxLen := by
  obtain ⟨g, off, c, hA, hg, ⟨rfl, h1⟩, _, hc⟩ := h.2.2.2.elem (by decide) k ss[k] (List.getElem?_eq_getElem hk)
  have h0 := hc 0 _ rfl
  rw [Nat.mul_one, Nat.add_zero] at h0
  exact ⟨g, off, hA, hg, h0, h1⟩
theorem txn_eq (t u : TxnV) : decide (t = u) = (decide (t.c = u.c) && decide (t.e = u.e) && decide (t.s = u.s)) := by
  rw [Bool.eq_iff_iff]; obtain ⟨a, b, c⟩ := t; obtain ⟨d, e, f⟩ := u; simp [and_assoc]
end Go.Proofs.Ytimhejjdgncdaaa
