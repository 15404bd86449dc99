/- What a history is: its events as values, and where they lie. -/
import Derived.Test.YtmaihiajgjijhaaProg
import Derived.Test.YtmaihiajgjijhaaOpen
import Derived.Lib.Hide
namespace Go.Proofs.Ytmaihiajgjijhaa
open Go.RowKit
set_option linter.unusedVariables false
set_option linter.unusedSimpArgs false

/-- A transaction's name. -/
structure TxnV where
  c : Int
  e : Int
  s : Int
  deriving DecidableEq
/-- A member. -/
structure MemV where
  org : Int
  dig : ByteArray
  deriving DecidableEq
def RepMem (m : MemV) (cs : List Value) : Prop := cs = [.int .i64 m.org, .string m.dig] ∧ (-9223372036854775808 ≤ m.org ∧ m.org ≤ 9223372036854775807) ∧ m.dig.size ≤ maxLen
/-- A slice of members. -/
structure SlV where
  A : Option Addr
  n : Nat
  c : Nat
def SlV.val (s : SlV) : Value := .slice s.A s.n s.c
def MemsAt (w : World) (s : SlV) (ms : List MemV) : Prop := ms.length = s.n ∧ s.n ≤ s.c ∧ s.c ≤ 9223372036854775807 ∧ RowAt w s.A 2 RepMem ms
/-- A record. -/
structure RecV where
  kind : Int
  epoch : Int
  t : TxnV
  yes : Bool
  aud : Int
  msl : SlV
  tags : SlV
  body : ByteArray
  ms : List MemV
def RecV.cells (r : RecV) : List Value := [.int .u8 r.kind, .int .i64 r.epoch, .int .i64 r.t.c, .int .i64 r.t.e, .int .i64 r.t.s, .bool r.yes, .int .i64 r.aud, .slice r.msl.A r.msl.n r.msl.c, .slice r.tags.A r.tags.n r.tags.c, .string r.body]
/-- A receipt. -/
structure RcpV where
  t : TxnV
  aud : Int
  msl : SlV
  tags : SlV
  ms : List MemV
/-- An event. -/
structure EvV where
  kind : Int
  act : Int
  org : Int
  t : TxnV
  rec_ : RecV
  rcp : RcpV
def EvV.cells (x : EvV) : List Value := [.int .u8 x.kind, .int .i64 x.act, .int .i64 x.org, .int .i64 x.t.c, .int .i64 x.t.e, .int .i64 x.t.s,
  .int .u8 x.rec_.kind, .int .i64 x.rec_.epoch, .int .i64 x.rec_.t.c, .int .i64 x.rec_.t.e, .int .i64 x.rec_.t.s, .bool x.rec_.yes, .int .i64 x.rec_.aud, .slice x.rec_.msl.A x.rec_.msl.n x.rec_.msl.c, .slice x.rec_.tags.A x.rec_.tags.n x.rec_.tags.c, .string x.rec_.body,
  .int .i64 x.rcp.t.c, .int .i64 x.rcp.t.e, .int .i64 x.rcp.t.s, .int .i64 x.rcp.aud, .slice x.rcp.msl.A x.rcp.msl.n x.rcp.msl.c, .slice x.rcp.tags.A x.rcp.tags.n x.rcp.tags.c]
/-- Its lists can be read. -/
def EvOk (w : World) (x : EvV) : Prop := MemsAt w x.rec_.msl x.rec_.ms ∧ MemsAt w x.rcp.msl x.rcp.ms
/-- A history at A. -/
def HistAt (w : World) (A : Option Addr) (l : List EvV) : Prop := RowAt w A 22 (fun x cs => cs = x.cells) l ∧ ∀ x ∈ l, EvOk w x

theorem RowAt.but {α : Type} {w w1 : World} {A : Option Addr} {sz : Nat} {R : α → List Value → Prop} {l : List α} (h : RowAt w A sz R l) (k : But (fun _ => False) w w1) : RowAt w1 A sz R l := by
  obtain ⟨cs, h1, h2, h3⟩ := h
  exact ⟨cs, h1, h2.but k, h3⟩
theorem MemsAt.but {w w1 : World} {s : SlV} {ms : List MemV} (h : MemsAt w s ms) (k : But (fun _ => False) w w1) : MemsAt w1 s ms := ⟨h.1, h.2.1, h.2.2.1, h.2.2.2.but k⟩
theorem EvOk.but {w w1 : World} {x : EvV} (h : EvOk w x) (k : But (fun _ => False) w w1) : EvOk w1 x := ⟨h.1.but k, h.2.but k⟩
theorem HistAt.but {w w1 : World} {A : Option Addr} {l : List EvV} (h : HistAt w A l) (k : But (fun _ => False) w w1) : HistAt w1 A l := ⟨h.1.but k, fun x hx => (h.2 x hx).but k⟩
/-- Element by element: where it begins, and its cells. -/
theorem RowAt.elem {α : Type} {w : World} {A : Option Addr} {sz : Nat} {R : α → List Value → Prop} {l : List α} (h : RowAt w A sz R l) (h0 : 0 < sz) (i : Nat) (x : α) (hi : l[i]? = some x) :
    ∃ g off c, A = some ⟨g, off, none⟩ ∧ g < w.heap.size ∧ R x c ∧ c.length = sz ∧ ∀ j u, c[j]? = some u → w.cell? ⟨g, off + i * sz + j, none⟩ = some u := by
  obtain ⟨cs, hl, hs, hR⟩ := h
  have hil : i < l.length := (List.getElem?_eq_some_iff.1 hi).1
  have h1 : i * sz + sz ≤ cs.length := by rw [hl, ← Nat.succ_mul]; exact Nat.mul_le_mul_right _ hil
  obtain ⟨g, off, hA, hg, hc⟩ := hs.at (i * sz) (by omega)
  refine ⟨g, off, _, hA, hg, hR i x hi, by rw [List.length_take, List.length_drop]; omega, fun j u hj => (by rw [Nat.add_assoc]; exact hc _ u (by
    rw [List.getElem?_take] at hj
    split at hj
    · rw [List.getElem?_drop] at hj; exact hj
    · cases hj))⟩
theorem RowAt.take {α : Type} {w : World} {A : Option Addr} {sz : Nat} {R : α → List Value → Prop} {l : List α} (h : RowAt w A sz R l) (n : Nat) (hn : n ≤ l.length) : RowAt w A sz R (l.take n) := by
  obtain ⟨cs, hl, ⟨e, hs⟩, hR⟩ := h
  refine ⟨cs.take (n * sz), ?_, ⟨e, hs.take _⟩, fun i x hi => ?_⟩
  · rw [List.length_take, List.length_take, hl, Nat.min_eq_left hn, Nat.min_eq_left (Nat.mul_le_mul_right _ hn)]
  · rw [List.getElem?_take] at hi
    split at hi
    · rename_i hlt
      have := hR i x hi
      rw [List.drop_take, List.take_take, Nat.min_eq_left]
      · exact this
      · have : i * sz + sz ≤ n * sz := by rw [← Nat.succ_mul]; exact Nat.mul_le_mul_right _ hlt
        omega
    · cases hi
theorem HistAt.take {w : World} {A : Option Addr} {l : List EvV} (h : HistAt w A l) (n : Nat) (hn : n ≤ l.length) : HistAt w A (l.take n) := ⟨h.1.take n hn, fun x hx => h.2 x (List.mem_of_mem_take hx)⟩
end Go.Proofs.Ytmaihiajgjijhaa
