/- The two iterators: the events of a kind; the records of a kind of a transaction. -/
import Derived.RangeFuncNested
import Derived.RangeFuncBound
import Derived.RangeFuncCalls
import Derived.RangeFuncLeaves
import Derived.Shelf.Abstract
import Derived.Shelf.RegionOpen
import Derived.OwnWalkIn
import Derived.TacticsInMore
import Derived.LoopNIn
import Derived.LoopIn
import Derived.Test.YtmaihiajgjijhaaRange
import Derived.Test.YtmaihiajgjijhaaSafe1
namespace Go.Proofs.Ytmaihiajgjijhaa
open Go.RowKit Go.Shelf
set_option linter.unusedVariables false
set_option linter.unusedSimpArgs false
attribute [local go_sem] Oper.semAt_some
set_option maxHeartbeats 400000

def TxnV.val (t : TxnV) : Value := .agg #[.int .i64 t.c, .int .i64 t.e, .int .i64 t.s]
def RecV.val (r : RecV) : Value := .agg #[.int .u8 r.kind, .int .i64 r.epoch, .int .i64 r.t.c, .int .i64 r.t.e, .int .i64 r.t.s, .bool r.yes, .int .i64 r.aud, .slice r.msl.A r.msl.n r.msl.c, .slice r.tags.A r.tags.n r.tags.c, .string r.body]
def EvV.val (x : EvV) : Value := .agg #[.int .u8 x.kind, .int .i64 x.act, .int .i64 x.org, .int .i64 x.t.c, .int .i64 x.t.e, .int .i64 x.t.s, .int .u8 x.rec_.kind, .int .i64 x.rec_.epoch, .int .i64 x.rec_.t.c, .int .i64 x.rec_.t.e, .int .i64 x.rec_.t.s, .bool x.rec_.yes, .int .i64 x.rec_.aud, .slice x.rec_.msl.A x.rec_.msl.n x.rec_.msl.c, .slice x.rec_.tags.A x.rec_.tags.n x.rec_.tags.c, .string x.rec_.body, .int .i64 x.rcp.t.c, .int .i64 x.rcp.t.e, .int .i64 x.rcp.t.s, .int .i64 x.rcp.aud, .slice x.rcp.msl.A x.rcp.msl.n x.rcp.msl.c, .slice x.rcp.tags.A x.rcp.tags.n x.rcp.tags.c]

/-- The events lie in blocks that q does not name. -/
def EvsAt (q : Nat → Prop) (w : World) (A : Option Addr) (l : List EvV) : Prop := ∀ (i : Nat) (x : EvV), l[i]? = some x → ∃ g off, A = some ⟨g, off, none⟩ ∧ ¬ q g ∧ w.rangeAt g (off + i * 22) x.cells
theorem EvsAt.but {q p : Nat → Prop} {w w1 : World} {A : Option Addr} {l : List EvV} (h : EvsAt q w A l) (k : But p w w1) (hp : ∀ i, p i → q i) : EvsAt q w1 A l := fun i x hi => by
  obtain ⟨g, off, hA, hg, hc⟩ := h i x hi
  exact ⟨g, off, hA, hg, fun j u hj => k.cell (hc j u hj) (fun f => hg (hp _ f))⟩
theorem EvsAt.mono {q p : Nat → Prop} {w : World} {A : Option Addr} {l : List EvV} (h : EvsAt q w A l) (hp : ∀ i, p i → q i) : EvsAt p w A l := fun i x hi => by
  obtain ⟨g, off, hA, hg, hc⟩ := h i x hi
  exact ⟨g, off, hA, fun f => hg (hp _ f), hc⟩
theorem HistAt.evs {w : World} {A : Option Addr} {l : List EvV} (h : HistAt w A l) {q : Nat → Prop} (hq : ∀ i, q i → w.heap.size ≤ i) : EvsAt q w A l := fun i x hi => by
  obtain ⟨g, off, c, hA, hg, rfl, _, hc⟩ := h.1.elem (by decide) i x hi
  exact ⟨g, off, hA, fun f => by have := hq _ f; omega, hc⟩
/-- An event in a box of its own. -/
def EvV.obj (x : EvV) : Obj := .cells #[.int .u8 x.kind, .int .i64 x.act, .int .i64 x.org, .int .i64 x.t.c, .int .i64 x.t.e, .int .i64 x.t.s, .int .u8 x.rec_.kind, .int .i64 x.rec_.epoch, .int .i64 x.rec_.t.c, .int .i64 x.rec_.t.e, .int .i64 x.rec_.t.s, .bool x.rec_.yes, .int .i64 x.rec_.aud, .slice x.rec_.msl.A x.rec_.msl.n x.rec_.msl.c, .slice x.rec_.tags.A x.rec_.tags.n x.rec_.tags.c, .string x.rec_.body, .int .i64 x.rcp.t.c, .int .i64 x.rcp.t.e, .int .i64 x.rcp.t.s, .int .i64 x.rcp.aud, .slice x.rcp.msl.A x.rcp.msl.n x.rcp.msl.c, .slice x.rcp.tags.A x.rcp.tags.n x.rcp.tags.c] 40
/-- The empty event in a box. -/
def ev0 : Obj := .cells #[.int .u8 0, .int .i64 0, .int .i64 0, .int .i64 0, .int .i64 0, .int .i64 0, .int .u8 0, .int .i64 0, .int .i64 0, .int .i64 0, .int .i64 0, .bool false, .int .i64 0, .slice none 0 0, .slice none 0 0, .string ByteArray.empty, .int .i64 0, .int .i64 0, .int .i64 0, .int .i64 0, .slice none 0 0, .slice none 0 0] 40
theorem EvV.one (x : EvV) : x.cells.toArray.all (·.oneCell') = true := by simp [EvV.cells, Value.oneCell']
theorem EvV.infoE (x : EvV) : (Try.prog.info? 40).map (·.size) = some x.cells.length := (by kernel_rfl : (Try.prog.info? 40).map (·.size) = some 22)
theorem box_cell (w : World) (x : EvV) (j : Nat) (u : Value) (h : x.cells[j]? = some u) : (w.alloc x.obj).cell? ⟨w.heap.size, j, none⟩ = some u := by
  unfold EvV.obj
  rw [cellOf (World.alloc_heap_new w _) j, ← h]; simp [EvV.cells]
theorem box_range (w : World) (x : EvV) : (w.alloc x.obj).rangeAt w.heap.size 0 x.cells := fun j u h => by rw [Nat.zero_add]; exact box_cell w x j u h
theorem obj_cell {w : World} {g : Nat} {x : EvV} (h : Holds w g x.obj) (j : Nat) (u : Value) (hj : x.cells[j]? = some u) : w.cell? ⟨g, j, none⟩ = some u := by
  rw [cellOf (show w.heap[g]? = some (.cells _ _ _) from h) j, ← hj]; simp [EvV.cells]
theorem cells_cell {w : World} {g : Nat} {cs : Array Value} {t : TypeId} {fr : Nat × Nat} (h : Holds w g (.cells cs t fr)) (j : Nat) : w.cell? ⟨g, j, none⟩ = cs[j]? := cellOf h j
theorem cellLt {w : World} {g o : Nat} {v : Value} (hc : w.cell? ⟨g, o, none⟩ = some v) : g < w.heap.size := by
  rcases Nat.lt_or_ge g w.heap.size with h | h
  · exact h
  · exfalso
    have : w.heap[g]? = none := by simp; omega
    simp [World.cell?, this] at hc
theorem st_box (w : World) (x : EvV) : (Instr.storeAt 40 (.pointer (some ⟨w.heap.size, 0, none⟩)) x.val).run Try.prog (w.alloc ev0) = .ok () (w.alloc x.obj) :=
  store_new w _ _ x.cells rfl (EvV.infoE x) (by have := EvV.one x; simpa using this)
theorem ld_ev {F : Fence} {n : Nat} {ops : Array Oper} {Q : Exit → Act → World → Prop} {rest : List Oper} {d : Option Tmp} {y : Operand} {ty : TypeId} {pos : String} {after : Array Edge} {gd : Option (Nat × Bool)} {a : Act} {w : World} (g o : Nat) (x : EvV) (hc : w.rangeAt g o x.cells)
    (hx : Region.wanted ⟨d, .load 40 y, ty, pos, after, gd⟩ (yielded ops a.tmps) = true ∧ a.eval y = .pointer (some ⟨g, o, none⟩)) (h : wpListIn F n Try.prog ops Q rest (a.put d x.val) w) :
    wpListIn F n Try.prog ops Q (⟨d, .load 40 y, ty, pos, after, gd⟩ :: rest) a w :=
  wpListIn_load_row g o x.cells _ hx.1 hx.2 hc Try.underlying40 rfl (EvV.infoE x) h
theorem st_ev {F : Fence} {n : Nat} {ops : Array Oper} {Q : Exit → Act → World → Prop} {rest : List Oper} {d : Option Tmp} {y z : Operand} {ty : TypeId} {pos : String} {after : Array Edge} {gd : Option (Nat × Bool)} {a : Act} {w : World} (w0 : World) (x : EvV)
    (hx : w = w0.alloc ev0 ∧ Region.wanted ⟨d, .store 40 y z, ty, pos, after, gd⟩ (yielded ops a.tmps) = true ∧ a.eval y = .pointer (some ⟨w0.heap.size, 0, none⟩) ∧ a.eval z = x.val) (h : wpListIn F n Try.prog ops Q rest (a.put d undef) (w0.alloc x.obj)) :
    wpListIn F n Try.prog ops Q (⟨d, .store 40 y z, ty, pos, after, gd⟩ :: rest) a w := by
  obtain ⟨rfl, h1, h2, h3⟩ := hx
  exact wpListIn_store_row w0.heap.size 0 x.cells.toArray h1 h2 h3 (st_box w0 x) h
theorem hmakeFunc : ∀ (fn : Fn) (first cap : Array Value) (w : World), (Instr.makeFunc fn first cap).run Try.prog w = .ok (.func fn first cap) w := fun _ _ _ _ => rfl
theorem of_any (A : Option Addr) (n c : Nat) (k : Int) (w : World) : Calls Try.prog 19 #[.slice A n c, .int .u8 k] w fun e w' => e = .returned (.func (.func 28) #[] #[.pointer (some ⟨w.heap.size, 0, none⟩), .pointer (some ⟨w.heap.size + 1, 0, none⟩)]) ∧ w' = (w.alloc (.cells #[.slice A n c] 22)).alloc (.cells #[.int .u8 k] 5) := by
  have hmf := hmakeFunc
  go_enter Try.func19, Try.ntmps19
  go_wp2
  go_ret
  exact ⟨rfl, rfl⟩

theorem of_any' (A : Option Addr) (n c : Nat) (k : Int) (w : World) : Calls Try.prog 19 #[.slice A n c, .int .u8 k] w fun e w' => ∃ B1 B2, e = .returned (.func (.func 28) #[] #[.pointer (some ⟨B1, 0, none⟩), .pointer (some ⟨B2, 0, none⟩)]) ∧
    But (fun _ => False) w w' ∧ w.heap.size ≤ B1 ∧ w.heap.size ≤ B2 ∧ Holds w' B1 (.cells #[.slice A n c] 22) ∧ Holds w' B2 (.cells #[.int .u8 k] 5) :=
  (of_any A n c k w).mono fun e w' ⟨h1, h2⟩ => by
    subst h1 h2
    exact ⟨_, _, rfl, ((But.refl _ w).alloc _).alloc _, Nat.le_refl _, Nat.le_succ _, Holds.n20 w _ _, Holds.n21 w _ _⟩
set_option maxRecDepth 100000 in
set_option maxHeartbeats 2000000 in
theorem of1_in (n : Nat) (hn : 1 ≤ n) (bq : Nat → Prop) (l B1 B2 : Nat) (A : Option Addr) (len cap : Nat) (k : Int) {p : EvV → Prop} (L : List (Subtype p)) (hlen : L.length = len) (hc1 : cap ≤ 9223372036854775807) (hlc : len ≤ cap) (J Jx : List (Subtype p) → World → Prop) (W : World)
    (hY : ∀ pre x W1, J pre W1 → pre.length < len → YieldAt Fence.wide (n - 1) Try.prog l #[x.1.val] W1 fun e W' =>
      (e = .returned (.bool true) ∧ J (pre ++ [x]) W' ∧ But bq W1 W') ∨ (e = .returned (.bool false) ∧ Jx (pre ++ [x]) W' ∧ But bq W1 W'))
    (hJ : OwnFrom W.heap.size J) (hb1 : ¬ bq B1) (hb2 : ¬ bq B2) (h1 : W.cell? ⟨B1, 0, none⟩ = some (.slice A len cap)) (h2 : W.cell? ⟨B2, 0, none⟩ = some (.int .u8 k)) (hE : EvsAt bq W A (L.map Subtype.val)) (h0 : J [] W) :
    CallsIn Fence.wide n Try.prog 28 #[.func (.yield l) #[] #[], .pointer (some ⟨B1, 0, none⟩), .pointer (some ⟨B2, 0, none⟩)] W fun e W' => (∃ v, e = .returned v) ∧
      ((∃ ys, ys = L.filter (fun x => x.1.kind == k) ∧ J ys W') ∨ (∃ pre, pre <+: L.filter (fun x => x.1.kind == k) ∧ Jx pre W')) := by
  have HE := Lib.hid hE
  have HL := Lib.hid hlen
  clear hE hlen
  refine callsIn_of_wp Try.func28 rfl trivial ?_ rfl
  simp only [Try.ntmps28, List.size_toArray, List.length_cons, List.length_nil, Nat.reduceAdd, Nat.reduceSub, Array.replicate_succ, Array.replicate_zero, List.push_toArray, List.append_toArray, List.nil_append, List.cons_append]
  gi_wp2
  gi_loopw [8] (fun i wr => ∃ q : Nat, q ≤ len ∧ i = .int .i64 q ∧ J ((L.take q).filter (fun x => x.1.kind == k)) wr ∧ But bq W wr)
    (fun i _ => len - (intOf i).toNat)
  case atStart => exact ⟨0, Nat.zero_le _, rfl, h0, But.refl _ _⟩
  case round =>
    obtain ⟨q, hq, rfl, hJs, hnx⟩ := hrel
    have hb1' := hnx.cell h1 hb1
    have hb2' := hnx.cell h2 hb2
    by_cases hlt : q < len
    · have hqL : q < L.length := by rw [HL.out]; exact hlt
      have hstep : L.take (q + 1) = L.take q ++ [L[q]] := List.take_succ_eq_append_getElem hqL
      obtain ⟨g, off, rfl, hg, hc⟩ := (HE.out.but hnx (fun _ h => h)) q L[q].1 (by rw [List.getElem?_map, List.getElem?_eq_getElem hqL]; rfl)
      have HS := Lib.hid hstep
      clear hstep
      generalize L[q] = x at *
      obtain ⟨x, hx⟩ := x
      simp only at *
      have hc := Lib.hid (show wr.rangeAt g (off + q * 22) x.cells from hc)
      have hbb : B2 < wr.heap.size := Nat.lt_of_lt_of_le (cellLt h2) hnx.size
      have hbc := box_cell wr x 0 _ rfl
      have hbn : But bq W (wr.alloc x.obj) := hnx.alloc _
      have HB := Lib.hid hbn
      clear hbn
      by_cases hkk : x.kind = k
      · have hf : (L.take (q + 1)).filter (fun x => x.1.kind == k) = (L.take q).filter (fun x => x.1.kind == k) ++ [⟨x, hx⟩] := by rw [HS.out, List.filter_append]; simp [hkk]
        have HF := Lib.hid hf
        clear hf
        have g1 : (x.kind == k) = true := by simpa using hkk
        have hlen' : ((L.take q).filter (fun x => x.1.kind == k)).length < len := Nat.lt_of_le_of_lt (List.length_filter_le _ _) (by rw [List.length_take]; omega)
        obtain ⟨fn, tmps, assign, body, hy, hR⟩ := hY _ ⟨x, hx⟩ (wr.alloc x.obj) (hJ _ _ _ none hJs (World.grownBy_alloc _ _ none) (fun r e => by cases e)) hlen'
        dsimp only at hy hR
        clear hkk
        gi_wp2_with (first
          | ((with_reducible refine ld_ev g (off + q * 22) x hc.out ?_ ?_); (exact ⟨rfl, rfl⟩))
          | ((with_reducible refine ld_ev wr.heap.size 0 x (box_range wr x) ?_ ?_); (exact ⟨rfl, rfl⟩))
          | ((with_reducible refine st_ev wr x ?_ ?_); (exact ⟨rfl, rfl, rfl, rfl⟩)))
        refine hR.mono ?_
        rintro e W3 (⟨rfl, hJ3, hk3⟩ | ⟨rfl, hJx3, hb3⟩)
        · gi_wp2
          go_roundw
          case rel => exact ⟨q + 1, by omega, rfl, by rw [HF.out]; exact hJ3, HB.out.trans hk3⟩
          case measure => simp [intOf]; omega
        · gi_wp2
          refine bodyPost_ret (results_none rfl _ _ _) rfl ?_
          refine ⟨⟨_, rfl⟩, .inr ⟨_, ?_, hJx3⟩⟩
          rw [← HF.out]
          exact (List.take_prefix _ _).filter _
      · have g1 : (x.kind == k) = false := by simpa using hkk
        have hf : (L.take (q + 1)).filter (fun x => x.1.kind == k) = (L.take q).filter (fun x => x.1.kind == k) := by rw [HS.out, List.filter_append]; simp [hkk]
        have HF := Lib.hid hf
        clear hf
        have hJ4 := Lib.hid (hJ _ _ _ none hJs (World.grownBy_alloc wr x.obj none) (fun r e => by cases e))
        clear hkk
        gi_wp2_with (first
          | ((with_reducible refine ld_ev g (off + q * 22) x hc.out ?_ ?_); (exact ⟨rfl, rfl⟩))
          | ((with_reducible refine st_ev wr x ?_ ?_); (exact ⟨rfl, rfl, rfl, rfl⟩)))
        refine ⟨fun _ h => (by cases h), ?_⟩
        gi_wp2
        go_roundw
        case rel => exact ⟨q + 1, by omega, rfl, by rw [HF.out]; exact hJ4.out, HB.out⟩
        case measure => simp [intOf]; omega
    · obtain rfl : q = len := by omega
      have HQ := Lib.hid (show L.take q = L from List.take_of_length_le (by rw [HL.out]; exact Nat.le_refl _))
      gi_wp2
      go_end0
      exact ⟨⟨_, rfl⟩, .inl ⟨_, rfl, by have := HQ.out; rw [this] at hJs; exact hJs⟩⟩
/-- What 'of' hands back keeps the contract. -/
theorem of_stops (n : Nat) (hn : 1 ≤ n) (bq : Nat → Prop) (B1 B2 : Nat) (A : Option Addr) (len cap : Nat) (k : Int) {p : EvV → Prop} (L : List (Subtype p)) (hlen : L.length = len) (hc1 : cap ≤ 9223372036854775807) (hlc : len ≤ cap) (w : World)
    (hb1 : ¬ bq B1) (hb2 : ¬ bq B2) (h1 : w.cell? ⟨B1, 0, none⟩ = some (.slice A len cap)) (h2 : w.cell? ⟨B2, 0, none⟩ = some (.int .u8 k)) (hE : EvsAt bq w A (L.map Subtype.val)) :
    SeqO n Try.prog 28 #[.pointer (some ⟨B1, 0, none⟩), .pointer (some ⟨B2, 0, none⟩)] (fun x : Subtype p => #[x.1.val]) bq (fun _ => True) (fun ys => ys = L.filter (fun x => x.1.kind == k)) (fun pre => pre <+: L.filter (fun x => x.1.kind == k)) len w := fun l J Jx W hW hqs hJ hJx hY h0 => by
  have hB : But (fun k => w.heap.size ≤ k) w W := But.of_below hW
  have l1 := cellLt h1
  have l2 := cellLt h2
  refine of1_in n hn bq l B1 B2 A len cap k L hlen hc1 hlc J Jx W hY hJ hb1 hb2 (hB.cell h1 (by omega)) (hB.cell h2 (by omega)) (fun i x hi => ?_) h0
  obtain ⟨g, off, hA, hg, hc⟩ := hE i x hi
  exact ⟨g, off, hA, hg, fun j u hj => hB.cell (hc j u hj) (by have := cellLt (hc j u hj); omega)⟩
end Go.Proofs.Ytmaihiajgjijhaa
