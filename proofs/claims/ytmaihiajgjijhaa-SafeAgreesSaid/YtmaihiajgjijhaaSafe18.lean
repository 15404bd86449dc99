/- The chapter's examples of safe histories. -/
import Derived.Test.YtmaihiajgjijhaaSafe17
import Derived.Test.YtmaihiajgjijhaaWide2
import Derived.Deep.DeepCutAuto
namespace Go.Proofs.Ytmaihiajgjijhaa
open Go.RowKit Go.Shelf
set_option linter.unusedVariables false
set_option linter.unusedSimpArgs false
attribute [local go_sem] alloc_drewN setCell_drewN

/-- An event is read there. -/
def LoadsAs (g o : Nat) (x : EvV) (w : World) : Prop := (Instr.loadAt 40 (.pointer (some ⟨g, o, none⟩))).run Try.prog w = .ok x.val w
theorem loads_block {w : World} {g : Nat} {l : List EvV} {t : TypeId} {fr : Nat × Nat} (h : Holds w g (.cells (evsCells l).toArray t fr)) (i : Nat) (x : EvV) (hi : l[i]? = some x) : LoadsAs g (i * 22) x w := by
  refine run_loadAt_mid w g (i * 22) 40 x.cells _ (fun j u hj => ?_) Try.underlying40 rfl (EvV.infoE x)
  obtain ⟨h1, h2⟩ := flat_at (sz := 22) (l.map EvV.cells) (fun c hc => by obtain ⟨x, _, rfl⟩ := List.mem_map.1 hc; rfl)
  have h3 := h2 i x.cells (by rw [List.getElem?_map, hi]; rfl)
  rw [cellOf h]
  have h4 : j < 22 := (List.getElem?_eq_some_iff.1 hj).1
  rw [← h3, List.getElem?_take, if_pos h4, List.getElem?_drop] at hj
  simpa [evsCells] using hj
theorem loads_obj {w : World} {g : Nat} {x : EvV} (h : Holds w g x.obj) : LoadsAs g 0 x w := run_loadAt_mid w g 0 40 x.cells _ (fun j u h' => by rw [Nat.zero_add]; exact obj_cell h j u h') Try.underlying40 rfl (EvV.infoE x)
theorem ld_ev0 {ops : Array Oper} {Q : Exit → Act → World → Prop} {rest : List Oper} {d : Option Tmp} {y : Operand} {ty : TypeId} {pos : String} {after : Array Edge} {gd : Option (Nat × Bool)} {a : Act} {w : World} (g o : Nat) (x : EvV) (hc : LoadsAs g o x w)
    (hx : Region.wanted ⟨d, .load 40 y, ty, pos, after, gd⟩ (yielded ops a.tmps) = true ∧ a.eval y = .pointer (some ⟨g, o, none⟩)) (h : wpList Try.prog ops Q rest (a.put d x.val) w) :
    wpList Try.prog ops Q (⟨d, .load 40 y, ty, pos, after, gd⟩ :: rest) a w :=
  wpList_value hx.1 (exec_load hx.2 hc) h
theorem st_ev0 {ops : Array Oper} {Q : Exit → Act → World → Prop} {rest : List Oper} {d : Option Tmp} {y z : Operand} {ty : TypeId} {pos : String} {after : Array Edge} {gd : Option (Nat × Bool)} {a : Act} {w : World} (w0 : World) (x : EvV)
    (hx : w = w0.alloc ev0 ∧ Region.wanted ⟨d, .store 40 y z, ty, pos, after, gd⟩ (yielded ops a.tmps) = true ∧ a.eval y = .pointer (some ⟨w0.heap.size, 0, none⟩) ∧ a.eval z = x.val) (h : wpList Try.prog ops Q rest (a.put d undef) (w0.alloc x.obj)) :
    wpList Try.prog ops Q (⟨d, .store 40 y z, ty, pos, after, gd⟩ :: rest) a w := by
  obtain ⟨rfl, h1, h2, h3⟩ := hx
  exact wpList_skip h1 (exec_store h2 h3 (st_box w0 x)) h
theorem build4 (a b c d : EvV) (w : World) : (Instr.buildSlice 22 4 #[(0, a.val), (1, b.val), (2, c.val), (3, d.val)]).run Try.prog w = .ok (.slice (some ⟨w.heap.size, 0, none⟩) 4 4) (w.alloc (.cells (evsCells [a, b, c, d]).toArray 40)) := by kernel_rfl
theorem build5 (a b c d e : EvV) (w : World) : (Instr.buildSlice 22 5 #[(0, a.val), (1, b.val), (2, c.val), (3, d.val), (4, e.val)]).run Try.prog w = .ok (.slice (some ⟨w.heap.size, 0, none⟩) 5 5) (w.alloc (.cells (evsCells [a, b, c, d, e]).toArray 40)) := by kernel_rfl
theorem exec_build {P : Program} {d : Option Tmp} {t : TypeId} {n : Nat} {ps : Array (Nat × Operand)} {vs : Array (Nat × Value)} {ty : TypeId} {pos : String} {after : Array Edge} {gd : Option (Nat × Bool)} {a : Act} {v : Value} {w w' : World}
    (hx : ps.map (fun x => (x.1, a.eval x.2)) = vs) (h : (Instr.buildSlice t n vs).run P w = .ok v w') : (execOp a.eval ⟨d, .buildSlice t n ps, ty, pos, after, gd⟩).run P w = .ok (.value v) w' := by
  have hx' : ps.map (fun (i, x) => (i, a.eval x)) = vs := hx
  simp only [execOp, hx', Sem.run_bind, h, Result.andThen, Sem.run_pure]
end Go.Proofs.Ytmaihiajgjijhaa
