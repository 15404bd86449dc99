/- Posts that come in, opened; NetStays as the row hands it over. -/
import Derived.Test.YtimhejjdgncdaaaNet13
namespace Go.Proofs.Ytimhejjdgncdaaa
open Go.RowKit Go.Shelf Go.Deep
open Go.ChangeShapes Go.WideShapes Go.ChangeAt
set_option linter.unusedVariables false
set_option linter.unusedSimpArgs false

theorem i64_of_wf {n : Int} (h : (Lit.int .i64 n).wf = true) : -9223372036854775808 ≤ n ∧ n ≤ 9223372036854775807 := bounds_i64 h
theorem cells_of_int : Try.prog.cellsOf 3 = 1 := by kernel_rfl
theorem cells_of_str : Try.prog.cellsOf 9 = 1 := by kernel_rfl
theorem cells_of_post : Try.prog.cellsOf 23 = 3 := by kernel_rfl
section
variable {H : Type} {enc : TypeId × Value → H} {w : World} {base : Nat} {spare : Nat → Bool} {held : Bool} {n : Nat} {cs : List Value} {x : DataW H × List MemPlace}
theorem openPost (h : DataW.trod enc Try.prog w base spare held n 23 cs = some x) : ∃ p, RepPost p cs := by
  obtain ⟨hl, hf⟩ := rd_fields Try.underlying23 h
  rw [cells_of_post] at hl
  obtain ⟨a, b, c, rfl⟩ := list3 hl
  obtain ⟨_, _, h0⟩ := hf 0 _ rfl
  obtain ⟨_, _, h1⟩ := hf 1 _ rfl
  obtain ⟨_, _, h2⟩ := hf 2 _ rfl
  simp only [cells_of_int, cells_of_str, List.drop_zero, List.take_succ_cons, List.take_zero, List.drop_succ_cons] at h0 h1 h2
  obtain ⟨m0, e0, w0⟩ := rd_int Try.underlying3 h0
  obtain ⟨m1, e1, w1⟩ := rd_int Try.underlying3 h1
  obtain ⟨m2, e2, w2⟩ := rd_str Try.underlying9 h2
  simp only [List.cons.injEq, and_true] at e0 e1 e2
  subst e0 e1 e2
  exact ⟨⟨m0, m1, m2⟩, rfl, i64_of_wf w0, i64_of_wf w1, w2⟩
end
theorem NetStays_row (W : World) (A : Option Addr) (len cap : Nat) (l : List PostV) (hlen : l.length = len) (hlc : len ≤ cap) (hc : cap ≤ maxLen) (hl : RowAt W A 3 RepPost l) :
    Calls Try.prog 4 #[.slice A len cap] W fun e w' => e = .returned (.bool true) ∧ But (fun _ => False) W w' := by
  have : maxLen ≤ 9223372036854775807 := by decide
  exact NetStays_any (PostsIn.of_row hl) hlen hlc (by omega)
end Go.Proofs.Ytimhejjdgncdaaa
