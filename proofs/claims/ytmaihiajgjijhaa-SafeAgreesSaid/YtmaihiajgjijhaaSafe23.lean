/- A history that comes in, opened: events, records, receipts, transactions, members. -/
import Derived.Test.YtmaihiajgjijhaaSafe22
namespace Go.Proofs.Ytmaihiajgjijhaa
open Go.RowKit Go.Shelf Go.Deep
open Go.ChangeShapes Go.WideShapes Go.ChangeAt
set_option linter.unusedVariables false
set_option linter.unusedSimpArgs false

theorem i64_of_wf {n : Int} (h : (Lit.int .i64 n).wf = true) : -9223372036854775808 ≤ n ∧ n ≤ 9223372036854775807 := bounds_i64 h
theorem u8_of_wf {n : Int} (h : (Lit.int .u8 n).wf = true) : 0 ≤ n ∧ n ≤ 255 := bounds_u8 h
theorem cells_of_u8 : Try.prog.cellsOf 5 = 1 := by kernel_rfl
theorem cells_of_int : Try.prog.cellsOf 3 = 1 := by kernel_rfl
theorem cells_of_str : Try.prog.cellsOf 9 = 1 := by kernel_rfl
theorem cells_of_bool : Try.prog.cellsOf 4 = 1 := by kernel_rfl
theorem cells_of_txn : Try.prog.cellsOf 24 = 3 := by kernel_rfl
theorem cells_of_mem : Try.prog.cellsOf 42 = 2 := by kernel_rfl
theorem cells_of_rec : Try.prog.cellsOf 36 = 10 := by kernel_rfl
theorem cells_of_rcp : Try.prog.cellsOf 38 = 6 := by kernel_rfl
theorem cells_of_ev : Try.prog.cellsOf 40 = 22 := by kernel_rfl
theorem cells_of_mems : Try.prog.cellsOf 33 = 1 := by kernel_rfl
theorem cells_of_tags : Try.prog.cellsOf 34 = 1 := by kernel_rfl
section
variable {H : Type} {enc : TypeId × Value → H} {w : World} {base : Nat} {spare : Nat → Bool} {held : Bool} {n : Nat} {cs : List Value} {x : DataW H × List MemPlace}
theorem rd_slice {P : Program} {t e : TypeId} (ht : P.underlying t = some (.slice e)) (h : DataW.trod enc P w base spare held n t cs = some x) : ∃ A len cap, cs = [.slice A len cap] := by
  rcases open_slice ht h with ⟨h0, _⟩ | ⟨a, len', cap', m, nn, D, Pl, h0, _⟩
  · exact ⟨none, 0, 0, h0⟩
  · exact ⟨_, _, _, h0⟩
theorem list6 {cs : List Value} (h : cs.length = 6) : ∃ a b c d e f, cs = [a, b, c, d, e, f] := by
  match cs, h with
  | [a, b, c, d, e, f], _ => exact ⟨a, b, c, d, e, f, rfl⟩
theorem list10 {cs : List Value} (h : cs.length = 10) : ∃ a b c d e f g i j k, cs = [a, b, c, d, e, f, g, i, j, k] := by
  match cs, h with
  | [a, b, c, d, e, f, g, i, j, k], _ => exact ⟨a, b, c, d, e, f, g, i, j, k, rfl⟩
theorem openTxn (h : DataW.trod enc Try.prog w base spare held n 24 cs = some x) : ∃ t : TxnV, cs = [.int .i64 t.c, .int .i64 t.e, .int .i64 t.s] ∧ (-9223372036854775808 ≤ t.c ∧ t.c ≤ 9223372036854775807) ∧ (-9223372036854775808 ≤ t.e ∧ t.e ≤ 9223372036854775807) ∧ (-9223372036854775808 ≤ t.s ∧ t.s ≤ 9223372036854775807) := by
  obtain ⟨hl, hf⟩ := rd_fields Try.underlying24 h
  rw [cells_of_txn] at hl
  obtain ⟨a, b, c, rfl⟩ := list3 hl
  obtain ⟨_, _, h0⟩ := hf 0 _ rfl
  obtain ⟨_, _, h1⟩ := hf 1 _ rfl
  obtain ⟨_, _, h2⟩ := hf 2 _ rfl
  simp only [cells_of_int, List.drop_zero, List.take_succ_cons, List.take_zero, List.drop_succ_cons] at h0 h1 h2
  obtain ⟨m0, e0, w0⟩ := rd_int Try.underlying3 h0
  obtain ⟨m1, e1, w1⟩ := rd_int Try.underlying3 h1
  obtain ⟨m2, e2, w2⟩ := rd_int Try.underlying3 h2
  simp only [List.cons.injEq, and_true] at e0 e1 e2
  subst e0 e1 e2
  exact ⟨⟨m0, m1, m2⟩, rfl, i64_of_wf w0, i64_of_wf w1, i64_of_wf w2⟩
theorem openMem (h : DataW.trod enc Try.prog w base spare held n 42 cs = some x) : ∃ m, RepMem m cs := by
  obtain ⟨hl, hf⟩ := rd_fields Try.underlying42 h
  rw [cells_of_mem] at hl
  obtain ⟨a, b, rfl⟩ := list2 hl
  obtain ⟨_, _, h0⟩ := hf 0 _ rfl
  obtain ⟨_, _, h1⟩ := hf 1 _ rfl
  simp only [cells_of_int, cells_of_str, List.drop_zero, List.take_succ_cons, List.take_zero, List.drop_succ_cons] at h0 h1
  obtain ⟨m0, e0, w0⟩ := rd_int Try.underlying3 h0
  obtain ⟨m1, e1, w1⟩ := rd_str Try.underlying9 h1
  simp only [List.cons.injEq, and_true] at e0 e1
  subst e0 e1
  exact ⟨⟨m0, m1⟩, rfl, i64_of_wf w0, w1⟩
theorem openMems (h : DataW.trod enc Try.prog w base spare held n 33 cs = some x) : ∃ (s : SlV) (ms : List MemV), cs = [.slice s.A s.n s.c] ∧ MemsAt w s ms := by
  obtain ⟨A, len, cap, rfl⟩ := rd_slice Try.underlying33 h
  obtain ⟨l, h1, h2, h3, h4⟩ := rd_row Try.underlying33 cells_of_mem (by decide) RepMem (fun _ _ _ hx => openMem hx) h
  have : maxLen ≤ 9223372036854775807 := by decide
  exact ⟨⟨A, len, cap⟩, l, rfl, h1, h2, Nat.le_trans h3 this, h4⟩
theorem openRec (h : DataW.trod enc Try.prog w base spare held n 36 cs = some x) : ∃ r : RecV, cs = r.cells ∧ MemsAt w r.msl r.ms := by
  obtain ⟨hl, hf⟩ := rd_fields Try.underlying36 h
  rw [cells_of_rec] at hl
  obtain ⟨a, b, c, d, e, f, g, i, j, k, rfl⟩ := list10 hl
  obtain ⟨_, _, h0⟩ := hf 0 _ rfl
  obtain ⟨_, _, h1⟩ := hf 1 _ rfl
  obtain ⟨_, _, h2⟩ := hf 2 _ rfl
  obtain ⟨_, _, h3⟩ := hf 3 _ rfl
  obtain ⟨_, _, h4⟩ := hf 4 _ rfl
  obtain ⟨_, _, h5⟩ := hf 5 _ rfl
  obtain ⟨_, _, h6⟩ := hf 6 _ rfl
  obtain ⟨_, _, h7⟩ := hf 7 _ rfl
  simp only [cells_of_int, cells_of_str, cells_of_u8, cells_of_bool, cells_of_txn, cells_of_mems, cells_of_tags, List.drop_zero, List.take_succ_cons, List.take_zero, List.drop_succ_cons] at h0 h1 h2 h3 h4 h5 h6 h7
  obtain ⟨m0, e0, w0⟩ := rd_int Try.underlying5 h0
  obtain ⟨m1, e1, w1⟩ := rd_int Try.underlying3 h1
  obtain ⟨t2, e2, _⟩ := openTxn h2
  obtain ⟨m3, e3⟩ := rd_bool Try.underlying4 h3
  obtain ⟨m4, e4, w4⟩ := rd_int Try.underlying3 h4
  obtain ⟨s5, ms, e5, w5⟩ := openMems h5
  obtain ⟨A6, n6, c6, e6⟩ := rd_slice Try.underlying34 h6
  obtain ⟨m7, e7, w7⟩ := rd_str Try.underlying9 h7
  simp only [List.cons.injEq, and_true] at e0 e1 e2 e3 e4 e5 e6 e7
  obtain ⟨e20, e21, e22⟩ := e2
  subst e0 e1 e20 e21 e22 e3 e4 e5 e6 e7
  exact ⟨⟨m0, m1, t2, m3, m4, s5, ⟨A6, n6, c6⟩, m7, ms⟩, rfl, w5⟩
theorem openRcp (h : DataW.trod enc Try.prog w base spare held n 38 cs = some x) : ∃ r : RcpV, cs = [.int .i64 r.t.c, .int .i64 r.t.e, .int .i64 r.t.s, .int .i64 r.aud, .slice r.msl.A r.msl.n r.msl.c, .slice r.tags.A r.tags.n r.tags.c] ∧ MemsAt w r.msl r.ms := by
  obtain ⟨hl, hf⟩ := rd_fields Try.underlying38 h
  rw [cells_of_rcp] at hl
  obtain ⟨a, b, c, d, e, f, rfl⟩ := list6 hl
  obtain ⟨_, _, h0⟩ := hf 0 _ rfl
  obtain ⟨_, _, h1⟩ := hf 1 _ rfl
  obtain ⟨_, _, h2⟩ := hf 2 _ rfl
  obtain ⟨_, _, h3⟩ := hf 3 _ rfl
  simp only [cells_of_int, cells_of_txn, cells_of_mems, cells_of_tags, List.drop_zero, List.take_succ_cons, List.take_zero, List.drop_succ_cons] at h0 h1 h2 h3
  obtain ⟨t0, e0, _⟩ := openTxn h0
  obtain ⟨m1, e1, w1⟩ := rd_int Try.underlying3 h1
  obtain ⟨s2, ms, e2, w2⟩ := openMems h2
  obtain ⟨A3, n3, c3, e3⟩ := rd_slice Try.underlying34 h3
  simp only [List.cons.injEq, and_true] at e0 e1 e2 e3
  obtain ⟨e00, e01, e02⟩ := e0
  subst e00 e01 e02 e1 e2 e3
  exact ⟨⟨t0, m1, s2, ⟨A3, n3, c3⟩, ms⟩, rfl, w2⟩
/-- An event that can be read. -/
def RepEv (w : World) (x : EvV) (cs : List Value) : Prop := cs = x.cells ∧ EvOk w x
theorem openEv (h : DataW.trod enc Try.prog w base spare held n 40 cs = some x) : ∃ y, RepEv w y cs := by
  obtain ⟨hl, hf⟩ := rd_fields Try.underlying40 h
  rw [cells_of_ev] at hl
  obtain ⟨_, _, h0⟩ := hf 0 _ rfl
  obtain ⟨_, _, h1⟩ := hf 1 _ rfl
  obtain ⟨_, _, h2⟩ := hf 2 _ rfl
  obtain ⟨_, _, h3⟩ := hf 3 _ rfl
  obtain ⟨_, _, h4⟩ := hf 4 _ rfl
  obtain ⟨_, _, h5⟩ := hf 5 _ rfl
  simp only [cells_of_int, cells_of_u8, cells_of_txn, cells_of_rec, cells_of_rcp] at h0 h1 h2 h3 h4 h5
  obtain ⟨m0, e0, w0⟩ := rd_int Try.underlying5 h0
  obtain ⟨m1, e1, w1⟩ := rd_int Try.underlying3 h1
  obtain ⟨m2, e2, w2⟩ := rd_int Try.underlying3 h2
  obtain ⟨t3, e3, _⟩ := openTxn h3
  obtain ⟨r4, e4, w4⟩ := openRec h4
  obtain ⟨r5, e5, w5⟩ := openRcp h5
  refine ⟨⟨m0, m1, m2, t3, r4, r5⟩, ?_, w4, w5⟩
  have key : cs = cs.take 1 ++ ((cs.drop 1).take 1 ++ ((cs.drop 2).take 1 ++ ((cs.drop 3).take 3 ++ ((cs.drop 6).take 10 ++ (cs.drop 16).take 6)))) := by
    match cs, hl with
    | [_, _, _, _, _, _, _, _, _, _, _, _, _, _, _, _, _, _, _, _, _, _], _ => rfl
  rw [key]
  rw [List.drop_zero] at e0
  rw [e0, e1, e2, e3, e4, e5]
  rfl
end
theorem hist_of_row {w : World} {A : Option Addr} {l : List EvV} (h : RowAt w A 22 (RepEv w) l) : HistAt w A l := by
  obtain ⟨cs, h1, h2, h3⟩ := h
  refine ⟨⟨cs, h1, h2, fun i x hi => (h3 i x hi).1⟩, fun x hx => ?_⟩
  obtain ⟨i, hi⟩ := List.getElem?_of_mem hx
  exact (h3 i x hi).2
/-- A transaction's cells. -/
def RepTxn (t : TxnV) (cs : List Value) : Prop := cs = [.int .i64 t.c, .int .i64 t.e, .int .i64 t.s] ∧ (-9223372036854775808 ≤ t.c ∧ t.c ≤ 9223372036854775807) ∧ (-9223372036854775808 ≤ t.e ∧ t.e ≤ 9223372036854775807) ∧ (-9223372036854775808 ≤ t.s ∧ t.s ≤ 9223372036854775807)
/-- As the row hands it over. -/
theorem SafeAgrees_row (W : World) (bad : Int) (hb : (Lit.int .u8 bad).wf = true) (A : Option Addr) (len cap : Nat) (l : List EvV) (hlen : l.length = len) (hlc : len ≤ cap) (hc : cap ≤ maxLen) (hl : RowAt W A 22 (RepEv W) l) (cs : Array Value) (t : TxnV) (ht : RepTxn t cs.toList) (cut : Int) (hu : (Lit.int .u8 cut).wf = true) :
    Calls Try.prog 3 #[.int .u8 bad, .slice A len cap, .agg cs, .int .u8 cut] W fun e w' => e = .returned (.bool true) ∧ But (fun _ => False) W w' := by
  have : maxLen ≤ 9223372036854775807 := by decide
  obtain ⟨rfl⟩ : cs = #[.int .i64 t.c, .int .i64 t.e, .int .i64 t.s] := by cases cs; simpa using ht.1
  exact SafeAgrees_any bad (u8_of_wf hb).1 (u8_of_wf hb).2 (hist_of_row hl) hlen hlc (by omega) t ht.2.1 cut (u8_of_wf hu).1 (u8_of_wf hu).2
end Go.Proofs.Ytmaihiajgjijhaa
