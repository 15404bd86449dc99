/- A net: the world while Put appends. -/
import Derived.Test.YtimhejjdgncdaaaNet2
namespace Go.Proofs.Ytimhejjdgncdaaa
open Go.RowKit
set_option linter.unusedVariables false
set_option linter.unusedSimpArgs false

def PostV.obj (p : PostV) : Obj := .cells p.arr 23
def litI (t : Int) : Obj := .cells #[.int .i64 t] 3
/-- The rows vp, vt, grown by now; what else stands, each in a block that is neither row's. -/
structure M12 (w : World) (mine : Nat → Prop) (vp0 vt0 vp vt : Value) (ps : List PostV) (ts : List Int) (L : List (Nat × Obj)) (W : World) : Prop where
  but : But mine w W
  own1 : W.ownsRow 0 23 3 vp ps.length (cellsOf ps)
  own2 : W.ownsRow 0 3 1 vt ts.length (intsOf ts)
  fr1 : ∀ k, vp.ownBlock = some k → vp0.ownBlock = some k ∨ w.heap.size ≤ k
  fr2 : ∀ k, vt.ownBlock = some k → vt0.ownBlock = some k ∨ w.heap.size ≤ k
  hold : ∀ x ∈ L, Holds W x.1 x.2 ∧ vp.ownBlock ≠ some x.1 ∧ vt.ownBlock ≠ some x.1
section
variable {w W : World} {mine : Nat → Prop} {vp0 vt0 vp vt : Value} {ps : List PostV} {ts : List Int} {L : List (Nat × Obj)}
theorem M12.alloc (h : M12 w mine vp0 vt0 vp vt ps ts L W) (o : Obj) : M12 w mine vp0 vt0 vp vt ps ts ((W.heap.size, o) :: L) (W.alloc o) where
  but := h.but.alloc o
  own1 := h.own1.alloc o
  own2 := h.own2.alloc o
  fr1 := h.fr1
  fr2 := h.fr2
  hold x hx := by
    rcases List.mem_cons.1 hx with rfl | hx
    · exact ⟨Holds.new W o, fun e => by have := (h.own1.lt _ e).2; simp at this, fun e => by have := (h.own2.lt _ e).2; simp at this⟩
    · obtain ⟨h1, h2, h3⟩ := h.hold x hx
      exact ⟨h1.alloc o, h2, h3⟩
theorem rows_ne (h : M12 w mine vp0 vt0 vp vt ps ts L W) : vp.ownBlock = none ∨ vp.ownBlock ≠ vt.ownBlock := by
  rcases h.own1.2 with ⟨e, _⟩ | ⟨g, cap, cur, e, _, hb, _⟩
  · left; rw [e]; rfl
  · right
    rcases h.own2.2 with ⟨e', _⟩ | ⟨g', cap', cur', e', _, hb', _⟩
    · rw [e, e']; intro x; cases x
    · rw [e, e']
      intro x
      have : g = g' := by simpa [Value.ownBlock] using x
      rw [this, hb'] at hb
      cases hb
theorem M12.app1 (h : M12 w mine vp0 vt0 vp vt ps ts L W) (hm : ∀ k, vp0.ownBlock = some k → mine k) (p : PostV) (k : Nat) (hk : (k, p.obj) ∈ L) (hn : ps.length ≤ 4096) (c : Nat) :
    ∃ v' W', (Builtin.append_ #[35, 35] 35 #[vp, .slice (some ⟨k, 0, none⟩) 1 c]).run Try.prog W = .ok v' W' ∧ M12 w mine vp0 vt0 v' vt (ps ++ [p]) ts L W' := by
  have hp := (h.hold _ hk).1
  have hx : CellsAt W 23 (some ⟨k, 0, none⟩) p.cells := fun _ => ⟨k, 0, p.arr, (0, 0), rfl, hp, fun j u hj => by simpa [PostV.arr] using hj⟩
  obtain ⟨v', W', hr, h1, h2, h3⟩ := run_append_src (P := Try.prog) W 0 35 35 23 (.agg #[.int .i64 0, .int .i64 0, .string ⟨#[]⟩]) 3 32 Try.underlying35 (by kernel_rfl) rfl (by decide)
    vp ps.length _ h.own1 (some ⟨k, 0, none⟩) 1 c p.cells rfl _ hx (by intro u hu; exact cellsOf_one [p] u (by simpa [cellsOf] using hu)) (by unfold maxLen; omega) (by omega) (Nat.zero_le _)
  have nev : vt.ownBlock = none ∨ vt.ownBlock ≠ vp.ownBlock := by
    cases hv : vt.ownBlock with
    | none => exact .inl rfl
    | some j => right; intro e; rcases rows_ne h with x | x
                · rw [x] at e; cases e
                · exact x (by rw [hv]; exact e.symm)
  refine ⟨v', W', hr, ?_⟩
  exact {
    but := h.but.then_ (But.of_grown h2) (fun i hi => (h.fr1 i hi).imp (hm i) id)
    own1 := by
      rw [show cellsOf (ps ++ [p]) = cellsOf ps ++ p.cells by simp [cellsOf], List.length_append]; exact h1
    own2 := h.own2.kept h2 nev
    fr1 := fun j hj => by
      rcases h3 with e | e
      · rw [e] at hj; exact h.fr1 j hj
      · rw [e] at hj; cases hj; exact .inr h.but.size
    fr2 := h.fr2
    hold := fun x hx => by
      obtain ⟨a1, a2, a3⟩ := h.hold x hx
      refine ⟨a1.but (But.of_grown h2) a2, ?_, a3⟩
      rcases h3 with e | e
      · rw [e]; exact a2
      · rw [e]; intro y; have y := Option.some.inj y; have := a1.lt; omega }
theorem M12.app2 (h : M12 w mine vp0 vt0 vp vt ps ts L W) (hm : ∀ k, vt0.ownBlock = some k → mine k) (t : Int) (k : Nat) (hk : (k, litI t) ∈ L) (hn : ts.length ≤ 4096) (c : Nat) :
    ∃ v' W', (Builtin.append_ #[41, 41] 41 #[vt, .slice (some ⟨k, 0, none⟩) 1 c]).run Try.prog W = .ok v' W' ∧ M12 w mine vp0 vt0 vp v' ps (ts ++ [t]) L W' := by
  have hp := (h.hold _ hk).1
  have hx : CellsAt W 3 (some ⟨k, 0, none⟩) [.int .i64 t] := fun _ => ⟨k, 0, #[.int .i64 t], (0, 0), rfl, hp, fun j u hj => by simpa using hj⟩
  obtain ⟨v', W', hr, h1, h2, h3⟩ := run_append_src (P := Try.prog) W 0 41 41 3 (.int .i64 0) 1 8 Try.underlying41 (by kernel_rfl) rfl (by decide)
    vt ts.length _ h.own2 (some ⟨k, 0, none⟩) 1 c [.int .i64 t] rfl _ hx (by intro u hu; simp at hu; subst hu; rfl) (by unfold maxLen; omega) (by omega) (Nat.zero_le _)
  refine ⟨v', W', hr, ?_⟩
  exact {
    but := h.but.then_ (But.of_grown h2) (fun i hi => (h.fr2 i hi).imp (hm i) id)
    own1 := h.own1.kept h2 (rows_ne h)
    own2 := by
      rw [show intsOf (ts ++ [t]) = intsOf ts ++ [.int .i64 t] by simp [intsOf], List.length_append]; exact h1
    fr1 := h.fr1
    fr2 := fun j hj => by
      rcases h3 with e | e
      · rw [e] at hj; exact h.fr2 j hj
      · rw [e] at hj; cases hj; exact .inr h.but.size
    hold := fun x hx => by
      obtain ⟨a1, a2, a3⟩ := h.hold x hx
      refine ⟨a1.but (But.of_grown h2) a3, a2, ?_⟩
      rcases h3 with e | e
      · rw [e]; exact a3
      · rw [e]; intro y; have y := Option.some.inj y; have := a1.lt; omega }
end
theorem exec_append {P : Program} {o : Oper} {a : Act} {W W' : World} {s x : Operand} {t1 t2 : TypeId} {v1 v2 r : Value} (ho : o.op = .call { callee := .builtin .append, args := #[s, x], argTypes := #[t1, t2] }) (hs : a.eval s = v1) (hx : a.eval x = v2)
    (hr : (Builtin.append_ #[t1, t2] o.type #[v1, v2]).run P W = .ok r W') : (execOp a.eval o).run P W = .ok (.value r) W' := by
  unfold execOp
  simp only [ho, resolve, invoke, builtin, Sem.run_bind, Sem.run_pure, Result.andThen_ok, List.map_toArray, List.map_cons, List.map_nil, hs, hx, hr]
end Go.Proofs.Ytimhejjdgncdaaa
