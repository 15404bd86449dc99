/- Stores into a block that is known whole: the block's cells behind them. Nothing of the program stands here. -/
import Derived.Test.YtimhejjdgncdaaaWide2
namespace Go.Proofs.Ytimhejjdgncdaaa
open Go.RowKit
set_option linter.unusedVariables false
set_option linter.unusedSimpArgs false

theorem set_row {w : World} {g : Nat} {cs : Array Value} {t : TypeId} {fr : Nat × Nat} (h : Holds w g (.cells cs t fr)) (i : Nat) (v : Value) : w.setCell ⟨g, i, none⟩ v = w.setRow g (cs.setIfInBounds i v) := by
  refine world_ext ?_ rfl rfl rfl rfl
  simp only [World.setCell, World.setRow]
  apply Array.ext
  · simp
  · intro j h1 h2
    rw [Array.getElem_modify, Array.getElem_modify]
    by_cases hj : g = j
    · subst hj
      have : w.heap[g]'(by simpa using h1) = .cells cs t fr := by
        have := (Array.getElem?_eq_some_iff.1 (show w.heap[g]? = _ from h)).2
        exact this
      simp [this]
    · simp [hj]
theorem row_row (w : World) (g : Nat) (a b : Array Value) : (w.setRow g a).setRow g b = w.setRow g b := by
  refine world_ext ?_ rfl rfl rfl rfl
  simp only [World.setRow]
  apply Array.ext
  · simp
  · intro j h1 h2
    rw [Array.getElem_modify, Array.getElem_modify, Array.getElem_modify]
    by_cases hj : g = j
    · subst hj
      simp only [if_true]
      generalize w.heap[g]'(by simpa using h1) = o
      cases o <;> rfl
    · simp [hj]
/-- A part of the block is stored. -/
theorem store_part {P : Program} {w : World} {g : Nat} {cs : Array Value} {t : TypeId} (h : Holds w g (.cells cs t (0, 0))) (o : Nat) (vs : List Value) (ty : TypeId) (hfit : o + vs.length ≤ cs.size) (hi : (P.info? ty).map (·.size) = some vs.length) (v : Value) (hv : v.cells = vs.toArray) (h1 : ∀ u ∈ vs, u.oneCell' = true) :
    (Instr.storeAt ty (.pointer (some ⟨g, o, none⟩)) v).run P w = .ok () (w.setRow g (cs.toList.take o ++ vs ++ cs.toList.drop (o + vs.length)).toArray) := by
  have hst := run_storeCells_at P g o t vs 0 cs w h (by simpa using hfit) h1
  simp only [Instr.storeAt, Instr.sureAddr, Sem.run_bind, Sem.run_pure, Result.andThen_ok]
  unfold storeVar
  cases hq : P.info? ty with
  | none => simp [hq] at hi
  | some x =>
    have hx : x.size = vs.length := by simpa [hq] using hi
    simp [sizeOf, typeInfo, hq, hx, hv, hst]
end Go.Proofs.Ytimhejjdgncdaaa
