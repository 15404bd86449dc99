/- Loads and stores of structs of many cells, as one step each: within a fence and without. Nothing of the program stands here. -/
import Derived.Deep.MidRow
import Derived.RangeFuncBox
import Derived.RangeFuncNested
import Derived.Test.YtimhejjdgncdaaaBase
import Derived.OwnWalkIn
import Derived.TacticsInMore
import Derived.RegionTactic
import Derived.OrdersHeld
namespace Go.Proofs.Ytimhejjdgncdaaa
open Go.RowKit
set_option linter.unusedVariables false
set_option linter.unusedSimpArgs false

theorem ownFrom_but {β : Type} {B : Nat} {q : Nat → Prop} {w0 : World} (hB : w0.heap.size ≤ B) : OwnFrom B (fun (_ : β) W => But q w0 W) := fun _ X Y row hs hg hr =>
  hs.then_ (q := fun k => row = some k) ⟨hg.os, hg.tape, hg.output, hg.size, fun k hk hn => hg.block k hk (fun e => hn e.symm)⟩ (fun i hi => .inr (Nat.le_trans hB (hr i hi).1))
theorem But.cell {p : Nat → Prop} {w w1 : World} (h : But p w w1) {g o : Nat} {v : Value} (hc : w.cell? ⟨g, o, none⟩ = some v) (hn : ¬ p g) : w1.cell? ⟨g, o, none⟩ = some v := by
  have hg : g < w.heap.size := by
    rcases Nat.lt_or_ge g w.heap.size with h | h
    · exact h
    · exfalso
      have : w.heap[g]? = none := by simp; omega
      simp [World.cell?, this] at hc
  exact (World.cell?_of_block (w := w) (h.block g hg hn)).trans hc
theorem But.none {p : Nat → Prop} {w W0 W : World} (hb : But (fun _ => False) w W0) (h : But p W0 W) (hp : ∀ k, p k → w.heap.size ≤ k) : But (fun _ => False) w W := hb.then_ h (fun i hi => .inr (hp i hi))
theorem But.keepsFrom {p : Nat → Prop} {W W1 : World} (h : But p W W1) {B : Nat} (hp : ∀ k, p k → k < B) : KeepsFrom B W W1 := ⟨h.size, fun k o hB hk _ => (h.block k (blkLt hk) (fun hpk => by have := hp k hpk; omega)).trans hk⟩
/-- The block g holds o. -/
def Holds (W : World) (g : Nat) (o : Obj) : Prop := W.heap[g]? = some o
theorem Holds.own {β : Type} (g : Nat) {cs : Array Value} {t : TypeId} {fr : Nat × Nat} (f : β → Prop) : Own (fun s W => f s ∧ Holds W g (.cells cs t fr)) := fun s X Y row hs hg hr =>
  ⟨hs.1, (hg.block g (blkLt hs.2) (fun e => by obtain ⟨o, h1, h2⟩ := hr g e.symm; rw [show X.heap[g]? = _ from hs.2] at h1; cases h1; cases h2)).trans hs.2⟩
theorem But.putObj {p : Nat → Prop} {w W : World} (h : But p w W) {l : Nat} (o : Obj) (hl : w.heap.size ≤ l) : But p w (W.putObj l o) :=
  h.then_ (q := fun k => k = l) ⟨rfl, rfl, rfl, by simp, fun k hk hn => World.putObj_heap_other hn⟩ (fun i hi => .inr (by omega))
theorem Holds.box {W : World} {g : Nat} {t : TypeId} {v : Value} (h : Holds W g (.cells #[v] t (0, 0))) : W.cell? ⟨g, 0, none⟩ = some v ∧ W.frozen? ⟨g, 0, none⟩ = false := by
  simp [World.cell?, World.frozen?, show W.heap[g]? = _ from h]
theorem Holds.but {W W1 : World} {g : Nat} {o : Obj} {p : Nat → Prop} (h : Holds W g o) (k : But p W W1) (hg : ¬ p g) : Holds W1 g o := k.blk h hg
theorem Holds.new (W : World) (o : Obj) : Holds (W.alloc o) W.heap.size o := World.alloc_heap_new W o
theorem Holds.alloc {W : World} {g : Nat} {o : Obj} (h : Holds W g o) (o' : Obj) : Holds (W.alloc o') g o := blkAlloc h o'
theorem Holds.set {W : World} {g : Nat} {t : TypeId} {v : Value} (h : Holds W g (.cells #[v] t (0, 0))) (u : Value) : Holds (W.setCell ⟨g, 0, none⟩ u) g (.cells #[u] t (0, 0)) := blkSet h 0 u
theorem Holds.set_far {W : World} {g : Nat} {o : Obj} (h : Holds W g o) (k : Nat) (hk : g ≠ k) (u : Value) : Holds (W.setCell ⟨k, 0, none⟩ u) g o := blkFar h hk u
theorem Holds.lt {W : World} {g : Nat} {o : Obj} (h : Holds W g o) : g < W.heap.size := blkLt h
theorem Holds.n20 (w : World) (a b : Obj) : Holds ((w.alloc a).alloc b) w.heap.size a := (Holds.new w a).alloc b
theorem Holds.n21 (w : World) (a b : Obj) : Holds ((w.alloc a).alloc b) (w.heap.size + 1) b := by have := Holds.new (w.alloc a) b; rwa [World.size_alloc] at this
theorem Holds.n30 (w : World) (a b c : Obj) : Holds (((w.alloc a).alloc b).alloc c) w.heap.size a := (Holds.n20 w a b).alloc c
theorem Holds.n31 (w : World) (a b c : Obj) : Holds (((w.alloc a).alloc b).alloc c) (w.heap.size + 1) b := (Holds.n21 w a b).alloc c
theorem Holds.n32 (w : World) (a b c : Obj) : Holds (((w.alloc a).alloc b).alloc c) (w.heap.size + 1 + 1) c := by have := Holds.n21 (w.alloc a) b c; rwa [World.size_alloc] at this
/-- What a loop's variable holds, in a block of its own. -/
theorem ownFrom_held {B : Nat} (f : Nat → Prop) (o : Obj) (ho : o.isCells = true) : OwnFrom B (fun (_ : Unit) W => ∃ g, f g ∧ Holds W g o) := fun _ X Y row hs hg hr => by
  obtain ⟨g, hf, hh⟩ := hs
  refine ⟨g, hf, (hg.block g (blkLt hh) (fun e => ?_)).trans hh⟩
  obtain ⟨_, o', h1, h2⟩ := hr g e.symm
  rw [show X.heap[g]? = _ from hh] at h1
  cases h1; rw [ho] at h2; cases h2
theorem run_loadVar_one {P : Program} (w : World) (g : Nat) (ty : TypeId) (v : Value) (d : TypeDesc) (hc : w.cell? ⟨g, 0, none⟩ = some v) (hu : P.underlying ty = some d) (hd : d.isRow = false) : (loadVar ty ⟨g, 0, none⟩).run P w = .ok v w := by
  have hagg : (isAgg ty).run P w = .ok false w := by
    unfold isAgg
    rw [Sem.run_bind, run_underlying hu w]
    cases d <;> simp_all [TypeDesc.isRow]
  simp [loadVar, Sem.run_bind, hagg, hc]
theorem results_cell1 {P : Program} {fn : Func} {p : Tmp} {ty : TypeId} (h : fn.results = #[.cell p ty]) (tmps : Array Value) (w : World) (g : Nat) (v : Value) (d : TypeDesc)
    (hp : tmps.getD p undef = .pointer (some ⟨g, 0, none⟩)) (hc : w.cell? ⟨g, 0, none⟩ = some v) (hu : P.underlying ty = some d) (hd : d.isRow = false) :
    (results fn tmps).run P w = .ok v w := by
  have hp' : tmps[p]?.getD undef = .pointer (some ⟨g, 0, none⟩) := by simpa using hp
  simp [results, h, hp', asAddr, run_loadVar_one w g ty v d hc hu hd]
theorem results_cell2 {P : Program} {fn : Func} {p q : Tmp} {ty tz : TypeId} (h : fn.results = #[.cell p ty, .cell q tz]) (tmps : Array Value) (w : World) (g k : Nat) (u v : Value) (d e : TypeDesc)
    (hp : tmps.getD p undef = .pointer (some ⟨g, 0, none⟩)) (hc : w.cell? ⟨g, 0, none⟩ = some u) (hu : P.underlying ty = some d) (hd : d.isRow = false)
    (hq : tmps.getD q undef = .pointer (some ⟨k, 0, none⟩)) (hc' : w.cell? ⟨k, 0, none⟩ = some v) (hu' : P.underlying tz = some e) (hd' : e.isRow = false) :
    (results fn tmps).run P w = .ok (.tuple #[u, v]) w := by
  have hp' : tmps[p]?.getD undef = .pointer (some ⟨g, 0, none⟩) := by simpa using hp
  have hq' : tmps[q]?.getD undef = .pointer (some ⟨k, 0, none⟩) := by simpa using hq
  simp [results, h, hp', hq', asAddr, run_loadVar_one w g ty u d hc hu hd, run_loadVar_one w k tz v e hc' hu' hd']
theorem cell_putObj {W : World} {D : Nat} (o : Obj) {g : Nat} (j : Nat) (hg : g ≠ D) : (W.putObj D o).cell? ⟨g, j, none⟩ = W.cell? ⟨g, j, none⟩ := World.cell?_of_block (w := W) (World.putObj_heap_other hg)
theorem wpListIn_load_row {F : Fence} {n : Nat} {P : Program} {ops : Array Oper} {Q : Exit → Act → World → Prop} {rest : List Oper} {d : Option Tmp} {t : TypeId} {x : Operand} {ty : TypeId} {pos : String} {after : Array Edge} {gd : Option (Nat × Bool)} {a : Act} {w : World}
    (b o : Nat) (cs : List Value) (de : TypeDesc) (hw : Region.wanted ⟨d, .load t x, ty, pos, after, gd⟩ (yielded ops a.tmps) = true) (hx : a.eval x = .pointer (some ⟨b, o, none⟩)) (hc : w.rangeAt b o cs)
    (hu : P.underlying t = some de) (hd : de.isRow = true) (hi : (P.info? t).map (·.size) = some cs.length) (h : wpListIn F n P ops Q rest (a.put d (.agg cs.toArray)) w) :
    wpListIn F n P ops Q (⟨d, .load t x, ty, pos, after, gd⟩ :: rest) a w := by
  refine wpListIn_step fun K hK => ?_
  rw [if_pos hw]
  refine ⟨fun f hf => by simp [Oper.about] at hf, ?_⟩
  rw [Oper.semAt_plain F _ _ (by intro c hc'; cases hc')]
  simp only [execOp, hx]
  simp only [Sem.run_bind, run_loadAt_mid w b o t cs de hc hu hd hi, Result.andThen, Sem.run_pure]
  exact hK _ _ h
theorem wpListIn_store_row {F : Fence} {n : Nat} {P : Program} {ops : Array Oper} {Q : Exit → Act → World → Prop} {rest : List Oper} {d : Option Tmp} {t : TypeId} {x y : Operand} {ty : TypeId} {pos : String} {after : Array Edge} {gd : Option (Nat × Bool)} {a : Act} {w w' : World}
    (b o : Nat) (cs : Array Value) (hw : Region.wanted ⟨d, .store t x y, ty, pos, after, gd⟩ (yielded ops a.tmps) = true) (hx : a.eval x = .pointer (some ⟨b, o, none⟩)) (hy : a.eval y = .agg cs) (hr : (Instr.storeAt t (.pointer (some ⟨b, o, none⟩)) (.agg cs)).run P w = .ok () w')
    (h : wpListIn F n P ops Q rest (a.put d undef) w') :
    wpListIn F n P ops Q (⟨d, .store t x y, ty, pos, after, gd⟩ :: rest) a w := by
  refine wpListIn_step fun K hK => ?_
  rw [if_pos hw]
  refine ⟨fun f hf => by simp [Oper.about] at hf, ?_⟩
  rw [Oper.semAt_plain F _ _ (by intro c hc'; cases hc')]
  simp only [execOp, hx, hy]
  simp only [Sem.run_bind, hr, Result.andThen, Sem.run_pure]
  exact hK _ _ h
/-- A store into a box just laid fills it. -/
theorem store_new {P : Program} (w : World) (t : TypeId) (z cs : List Value) (hz : z.length = cs.length) (hi : (P.info? t).map (·.size) = some cs.length) (h1 : cs.all (·.oneCell') = true) :
    (Instr.storeAt t (.pointer (some ⟨w.heap.size, 0, none⟩)) (.agg cs.toArray)).run P (w.alloc (.cells z.toArray t)) = .ok () (w.alloc (.cells cs.toArray t)) := by
  have hrun := run_storeVar_row (P := P) (w.alloc (.cells z.toArray t)) w.heap.size t t z.toArray cs.toArray (World.alloc_heap_new w _) (by simpa using hi) (by simp [hz]) (by simpa using h1)
  simp only [Instr.storeAt, Instr.sureAddr, Sem.run_bind, Sem.run_pure, Result.andThen_ok]
  rw [hrun, alloc_setRow]
/-- A load whose run is known in every world that meets S may be taken first. -/
theorem yieldsIf_load_run {P : Program} {ops : Array Oper} {S : World → Prop} {d : Option Tmp} {t : TypeId} {x : Operand} {ty : TypeId} {pos : String} {after : Array Edge} {gd : Option (Nat × Bool)} {a : Act} {p v : Value}
    (hw : Region.wanted ⟨d, .load t x, ty, pos, after, gd⟩ (yielded ops a.tmps) = true) (hx : a.eval x = p) (h : ∀ w, S w → (Instr.loadAt t p).run P w = .ok v w) : YieldsIf P ops S ⟨d, .load t x, ty, pos, after, gd⟩ v a :=
  Or.inl ⟨hw, fun w hS => by simp only [execOp, hx, Sem.run_bind, h w hS, Result.andThen, Sem.run_pure]⟩
end Go.Proofs.Ytimhejjdgncdaaa
