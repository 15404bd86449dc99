/- Steps of a region that draws its order, taken one by one by their run equations. Nothing of the program stands here. -/
import Derived.Test.YtimhejjdgncdaaaWide
import Derived.Deep.RegionHeld3
namespace Go.Proofs.Ytimhejjdgncdaaa
open Go.RowKit
set_option linter.unusedVariables false
set_option linter.unusedSimpArgs false

section
variable {P : Program} {ops : Array Oper} {Q : Exit → Act → World → Prop} {md : Region.Mode} {S : World → Prop}
/-- 'wpAnyH_take', the operation laid out. -/
theorem anyH_take {i : Nat} {oi : Oper} {v : Value} {fuel : Nat} {listed : Array Bool} {a : Act} {w : World} (hi : ops.toList[i]? = some oi)
    (hs : Region.noSelect ops = true) (hf : Region.free md ops listed i = true) (hr : (Region.ready md ops listed).contains i = true)
    (hQ : ∀ c a w, Q (.panic c) (a.put oi.dst v) w → Q (.panic c) a w) (hy : YieldsIf P ops S oi v a) (hS : S w)
    (h : wpAnyH P md ops Q S fuel (listed.setIfInBounds i true) (a.put oi.dst v) w) : wpAnyH P md ops Q S (fuel + 1) listed a w := wpAnyH_take (by simpa using hi) hs hf hr hQ hy hS h
theorem anyH_cons {fuel : Nat} {listed : Array Bool} {a : Act} {w : World} {i : Nat} {o : Oper} {rs : List Nat} (ho : ops.toList[i]? = some o)
    (h : ∀ K' : Act → World → Prop, Shut (∀ a w, S w → (S w → wpAnyH P md ops Q S fuel (listed.setIfInBounds i true) a w) → K' a w) → if Region.wanted o (yielded ops a.tmps) = true then Oper.wp P o a w K' Q else K' (a.put o.dst undef) w)
    (hs : AllReadyH P md ops Q S fuel listed a w rs) : AllReadyH P md ops Q S fuel listed a w (i :: rs) := AllReadyH.cons (by simpa using ho) h hs
end
/-- An operation that is carried out, its run known. -/
theorem ready_value {P : Program} {ops : Array Oper} {o : Oper} {a : Act} {w : World} {K : Act → World → Prop} {Q : Exit → Act → World → Prop} {v : Value} {w' : World} (hw : Region.wanted o (yielded ops a.tmps) = true)
    (h : (execOp a.eval o).run P w = .ok (.value v) w') (k : K (a.put o.dst v) w') : if Region.wanted o (yielded ops a.tmps) = true then Oper.wp P o a w K Q else K (a.put o.dst undef) w := by
  rw [if_pos hw]
  unfold Oper.wp
  rw [h]
  exact k
theorem ready_skip {P : Program} {ops : Array Oper} {o : Oper} {a : Act} {w : World} {K : Act → World → Prop} {Q : Exit → Act → World → Prop} {w' : World} (hw : Region.wanted o (yielded ops a.tmps) = true)
    (h : (execOp a.eval o).run P w = .ok .skip w') (k : K (a.put o.dst undef) w') : if Region.wanted o (yielded ops a.tmps) = true then Oper.wp P o a w K Q else K (a.put o.dst undef) w := by
  rw [if_pos hw]
  unfold Oper.wp
  rw [h]
  exact k
/-- A call that is carried out. -/
theorem ready_call {P : Program} {ops : Array Oper} {o : Oper} {a : Act} {w : World} {K : Act → World → Prop} {Q : Exit → Act → World → Prop} {f : FuncId} {args : Array Value} {R : Value → World → Prop} (hw : Region.wanted o (yielded ops a.tmps) = true)
    (h : (execOp a.eval o).run P w = .ok (.enter f args) w) (hc : Calls P f args w fun e w' => ∃ v, e = .returned v ∧ R v w') (k : ∀ v w', R v w' → K (a.put o.dst v) w') : if Region.wanted o (yielded ops a.tmps) = true then Oper.wp P o a w K Q else K (a.put o.dst undef) w := by
  rw [if_pos hw]
  unfold Oper.wp
  rw [h]
  refine hc.mono ?_
  rintro e w' ⟨v, rfl, hR⟩
  exact k v w' hR
theorem exec_load {P : Program} {d : Option Tmp} {t : TypeId} {x : Operand} {ty : TypeId} {pos : String} {after : Array Edge} {gd : Option (Nat × Bool)} {a : Act} {p v : Value} {w : World}
    (hx : a.eval x = p) (h : (Instr.loadAt t p).run P w = .ok v w) : (execOp a.eval ⟨d, .load t x, ty, pos, after, gd⟩).run P w = .ok (.value v) w := by simp only [execOp, hx, Sem.run_bind, h, Result.andThen, Sem.run_pure]
theorem exec_store {P : Program} {d : Option Tmp} {t : TypeId} {x y : Operand} {ty : TypeId} {pos : String} {after : Array Edge} {gd : Option (Nat × Bool)} {a : Act} {p v : Value} {w w' : World}
    (hx : a.eval x = p) (hy : a.eval y = v) (h : (Instr.storeAt t p v).run P w = .ok () w') : (execOp a.eval ⟨d, .store t x y, ty, pos, after, gd⟩).run P w = .ok .skip w' := by simp only [execOp, hx, hy, Sem.run_bind, h, Result.andThen, Sem.run_pure]
/-- A store of a whole struct into the block that is its own. -/
theorem store_row {P : Program} (w : World) (g : Nat) (t t' : TypeId) (cur cs : Array Value) (hg : Holds w g (.cells cur t' (0, 0))) (hi : (P.info? t).map (·.size) = some cs.size) (hz : cur.size = cs.size) (h1 : cs.all (·.oneCell') = true) :
    (Instr.storeAt t (.pointer (some ⟨g, 0, none⟩)) (.agg cs)).run P w = .ok () (w.setRow g cs) := by
  have hrun := run_storeVar_row (P := P) w g t' t cur cs hg hi hz h1
  simp only [Instr.storeAt, Instr.sureAddr, Sem.run_bind, Sem.run_pure, Result.andThen_ok]
  exact hrun
theorem Holds.cl {w : World} {g : Nat} {cs : Array Value} {t : TypeId} {fr : Nat × Nat} (h : Holds w g (.cells cs t fr)) (j : Nat) : w.cell? ⟨g, j, none⟩ = cs[j]? := cellOf h j
theorem Holds.setRow {W : World} {g : Nat} {cs ds : Array Value} {t : TypeId} {fr : Nat × Nat} (h : Holds W g (.cells cs t fr)) : Holds (W.setRow g ds) g (.cells ds t fr) := blkRow h ds
theorem Holds.setRow_far {W : World} {g k : Nat} {o : Obj} (h : Holds W k o) (hk : k ≠ g) (ds : Array Value) : Holds (W.setRow g ds) k o := blkRowFar h hk ds
/-- At a plain region's list: an operation whose run is known. -/
theorem wpList_value {P : Program} {ops : Array Oper} {Q : Exit → Act → World → Prop} {rest : List Oper} {o : Oper} {a : Act} {w w' : World} {v : Value} (hw : Region.wanted o (yielded ops a.tmps) = true)
    (h : (execOp a.eval o).run P w = .ok (.value v) w') (k : wpList P ops Q rest (a.put o.dst v) w') : wpList P ops Q (o :: rest) a w :=
  wpList_step fun K hK => ready_value hw h (hK _ _ k)
theorem wpList_skip {P : Program} {ops : Array Oper} {Q : Exit → Act → World → Prop} {rest : List Oper} {o : Oper} {a : Act} {w w' : World} (hw : Region.wanted o (yielded ops a.tmps) = true)
    (h : (execOp a.eval o).run P w = .ok .skip w') (k : wpList P ops Q rest (a.put o.dst undef) w') : wpList P ops Q (o :: rest) a w :=
  wpList_step fun K hK => ready_skip hw h (hK _ _ k)
theorem op_u {P : Program} {s : Sem Unit} {W W' : World} (h : s.run P W = .ok () W') : Sem.run P (do s; pure Next.skip) W = .ok .skip W' := by simp only [Sem.run_bind, h, Result.andThen, Sem.run_pure]
theorem op_v {P : Program} {s : Sem Value} {v : Value} {W W' : World} (h : s.run P W = .ok v W') : Sem.run P (do pure (Next.value (← s))) W = .ok (.value v) W' := by simp only [Sem.run_bind, h, Result.andThen, Sem.run_pure]
end Go.Proofs.Ytimhejjdgncdaaa
