/- The records of a kind of a transaction: an iterator over an iterator. -/
import Derived.Test.YtmaihiajgjijhaaSafe3
namespace Go.Proofs.Ytmaihiajgjijhaa
open Go.RowKit Go.Shelf
set_option linter.unusedVariables false
set_option linter.unusedSimpArgs false
attribute [local go_sem] Oper.semAt_some

def RecV.cells' (r : RecV) : List Value := r.cells
theorem RecV.infoE (r : RecV) : (Try.prog.info? 36).map (·.size) = some r.cells.length := (by kernel_rfl : (Try.prog.info? 36).map (·.size) = some 10)
theorem RecV.one (r : RecV) : r.cells.all (·.oneCell') = true := by simp [RecV.cells, Value.oneCell']
def RecV.obj (r : RecV) : Obj := .cells r.cells.toArray 36
def rec0 : Obj := .cells #[.int .u8 0, .int .i64 0, .int .i64 0, .int .i64 0, .int .i64 0, .bool false, .int .i64 0, .slice none 0 0, .slice none 0 0, .string ByteArray.empty] 36
theorem st_rbox (w : World) (r : RecV) : (Instr.storeAt 36 (.pointer (some ⟨w.heap.size, 0, none⟩)) r.val).run Try.prog (w.alloc rec0) = .ok () (w.alloc r.obj) :=
  store_new w _ [.int .u8 0, .int .i64 0, .int .i64 0, .int .i64 0, .int .i64 0, .bool false, .int .i64 0, .slice none 0 0, .slice none 0 0, .string ByteArray.empty] r.cells rfl (RecV.infoE r) (RecV.one r)
theorem ld_rec {F : Fence} {n : Nat} {ops : Array Oper} {Q : Exit → Act → World → Prop} {rest : List Oper} {d : Option Tmp} {y : Operand} {ty : TypeId} {pos : String} {after : Array Edge} {gd : Option (Nat × Bool)} {a : Act} {w : World} (g o : Nat) (x : RecV) (hc : w.rangeAt g o x.cells)
    (hx : Region.wanted ⟨d, .load 36 y, ty, pos, after, gd⟩ (yielded ops a.tmps) = true ∧ a.eval y = .pointer (some ⟨g, o, none⟩)) (h : wpListIn F n Try.prog ops Q rest (a.put d x.val) w) :
    wpListIn F n Try.prog ops Q (⟨d, .load 36 y, ty, pos, after, gd⟩ :: rest) a w :=
  wpListIn_load_row g o x.cells _ hx.1 hx.2 hc Try.underlying36 rfl (RecV.infoE x) h
theorem st_rec {F : Fence} {n : Nat} {ops : Array Oper} {Q : Exit → Act → World → Prop} {rest : List Oper} {d : Option Tmp} {y z : Operand} {ty : TypeId} {pos : String} {after : Array Edge} {gd : Option (Nat × Bool)} {a : Act} {w : World} (w0 : World) (x : RecV)
    (hx : w = w0.alloc rec0 ∧ Region.wanted ⟨d, .store 36 y z, ty, pos, after, gd⟩ (yielded ops a.tmps) = true ∧ a.eval y = .pointer (some ⟨w0.heap.size, 0, none⟩) ∧ a.eval z = x.val) (h : wpListIn F n Try.prog ops Q rest (a.put d undef) (w0.alloc x.obj)) :
    wpListIn F n Try.prog ops Q (⟨d, .store 36 y z, ty, pos, after, gd⟩ :: rest) a w := by
  obtain ⟨rfl, h1, h2, h3⟩ := hx
  exact wpListIn_store_row w0.heap.size 0 x.cells.toArray h1 h2 h3 (st_rbox w0 x) h
theorem rec_range {w : World} {g : Nat} {x : EvV} (h : Holds w g x.obj) : w.rangeAt g 6 x.rec_.cells := fun j u hj => by
  refine obj_cell h (6 + j) u ?_
  rw [← hj]
  have : j < 10 := by have := (List.getElem?_eq_some_iff.1 hj).1; simpa [RecV.cells] using this
  have : j = 0 ∨ j = 1 ∨ j = 2 ∨ j = 3 ∨ j = 4 ∨ j = 5 ∨ j = 6 ∨ j = 7 ∨ j = 8 ∨ j = 9 := by omega
  rcases this with rfl | rfl | rfl | rfl | rfl | rfl | rfl | rfl | rfl | rfl <;> rfl
theorem rbox_cell {w : World} {g : Nat} {x : RecV} (h : Holds w g x.obj) (j : Nat) (u : Value) (hj : x.cells[j]? = some u) : w.cell? ⟨g, j, none⟩ = some u := by
  rw [cellOf (show w.heap[g]? = some (.cells _ _ _) from h) j, ← hj]; simp

def TxnV.obj (t : TxnV) : Obj := .cells #[.int .i64 t.c, .int .i64 t.e, .int .i64 t.s] 24
theorem logs_any (A : Option Addr) (n c : Nat) (k : Int) (t : TxnV) (w : World) : Calls Try.prog 26 #[.slice A n c, .int .u8 k, t.val] w fun e w' => ∃ B1 B2 B3, e = .returned (.func (.func 33) #[] #[.pointer (some ⟨B1, 0, none⟩), .pointer (some ⟨B2, 0, none⟩), .pointer (some ⟨B3, 0, none⟩)]) ∧
    But (fun _ => False) w w' ∧ w.heap.size ≤ B1 ∧ w.heap.size ≤ B2 ∧ w.heap.size ≤ B3 ∧ Holds w' B1 (.cells #[.slice A n c] 22) ∧ Holds w' B2 (.cells #[.int .u8 k] 5) ∧ Holds w' B3 t.obj := by
  have hmf := hmakeFunc
  have HR : ∃ B1 B2 B3, (Ending.returned (.func (.func 33) #[] #[.pointer (some ⟨w.heap.size, 0, none⟩), .pointer (some ⟨w.heap.size + 1, 0, none⟩), .pointer (some ⟨w.heap.size + 1 + 1, 0, none⟩)])) = .returned (.func (.func 33) #[] #[.pointer (some ⟨B1, 0, none⟩), .pointer (some ⟨B2, 0, none⟩), .pointer (some ⟨B3, 0, none⟩)]) ∧
    But (fun _ => False) w (((w.alloc (.cells #[.slice A n c] 22)).alloc (.cells #[.int .u8 k] 5)).alloc t.obj) ∧ w.heap.size ≤ B1 ∧ w.heap.size ≤ B2 ∧ w.heap.size ≤ B3 ∧ Holds (((w.alloc (.cells #[.slice A n c] 22)).alloc (.cells #[.int .u8 k] 5)).alloc t.obj) B1 (.cells #[.slice A n c] 22) ∧ Holds (((w.alloc (.cells #[.slice A n c] 22)).alloc (.cells #[.int .u8 k] 5)).alloc t.obj) B2 (.cells #[.int .u8 k] 5) ∧ Holds (((w.alloc (.cells #[.slice A n c] 22)).alloc (.cells #[.int .u8 k] 5)).alloc t.obj) B3 t.obj :=
    ⟨_, _, _, rfl, (((But.refl _ w).alloc _).alloc _).alloc _, Nat.le_refl _, Nat.le_succ _, by omega, Holds.n30 w _ _ _, Holds.n31 w _ _ _, Holds.n32 w _ _ _⟩
  have HRI := Lib.hid HR
  clear HR
  unfold TxnV.val
  go_enter Try.func26, Try.ntmps26
  go_wp2
  go_ret
  exact HRI.out

theorem round_any {m m' l2 : Nat} {P : Program} {l : Nat} {f : FuncId} {tmps : Array Value} {assign body : Code} {w : World} {R : Ending → World → Prop} (h : RoundIn Fence.wide m P l f tmps assign body w R) : RoundIn (Fence.wide.inRound l2) m' P l f tmps assign body w R := ⟨trivial, fun c cs _ => h.2 c cs (fun d hd => by cases hd)⟩
def logB (k : Int) (t : TxnV) (x : EvV) : Bool := (x.rec_.kind == k) && ((x.rec_.t.c == t.c) && ((x.rec_.t.e == t.e) && (x.rec_.t.s == t.s)))

set_option maxRecDepth 100000 in
set_option maxHeartbeats 4000000 in
theorem logs1_in (n : Nat) (hn : 4 ≤ n) (bq : Nat → Prop) (l B1 B2 B3 : Nat) (A : Option Addr) (len cap : Nat) (k : Int) (t : TxnV) {p : EvV → Prop} (L : List (Subtype p)) (hlen : L.length = len) (hc1 : cap ≤ 9223372036854775807) (hlc : len ≤ cap) (J Jx : List (Subtype p) → World → Prop) (W : World)
    (hY : ∀ pre x W1, J pre W1 → pre.length < len → YieldAt Fence.wide (n - 1) Try.prog l #[.int .i64 x.1.org, x.1.rec_.val] W1 fun e W' =>
      (e = .returned (.bool true) ∧ J (pre ++ [x]) W' ∧ But bq W1 W') ∨ (e = .returned (.bool false) ∧ Jx (pre ++ [x]) W' ∧ But bq W1 W'))
    (hbq : ∀ k, bq k → k < W.heap.size) (hJ : OwnFrom W.heap.size J) (hJx : OwnFrom W.heap.size Jx) (hb1 : ¬ bq B1) (hb2 : ¬ bq B2) (hb3 : ¬ bq B3)
    (h1 : Holds W B1 (.cells #[.slice A len cap] 22)) (h2 : Holds W B2 (.cells #[.int .u8 k] 5)) (h3 : Holds W B3 t.obj) (hE : EvsAt bq W A (L.map Subtype.val)) (h0 : J [] W) :
    CallsIn Fence.wide n Try.prog 33 #[.func (.yield l) #[] #[], .pointer (some ⟨B1, 0, none⟩), .pointer (some ⟨B2, 0, none⟩), .pointer (some ⟨B3, 0, none⟩)] W fun e W' => (∃ v, e = .returned v) ∧
      ((∃ ys, ys = (L.filter (fun x => x.1.kind == 2)).filter (fun x => logB k t x.1) ∧ J ys W') ∨ (∃ pre, pre <+: (L.filter (fun x => x.1.kind == 2)).filter (fun x => logB k t x.1) ∧ Jx pre W')) := by
  have hh4 := Holds.new W (.cells #[.func (.yield l) #[] #[]] 70)
  have k1' := h1.box
  refine callsIn_of_wp_marks Try.func33 rfl trivial ?_ rfl
  simp only [Try.ntmps33, List.size_toArray, List.length_cons, List.length_nil, Nat.reduceAdd, Nat.reduceSub, Array.replicate_succ, Array.replicate_zero, List.push_toArray, List.append_toArray, List.nil_append, List.cons_append]
  have hl1 := h1.lt
  gi_wp2_with (refine ⟨trivial, fun _ => by omega, ?_⟩; gi_at_call 19; refine (callsIn_wide.2 (of_any' _ _ _ _ _)).mono ?_; rintro e W0 ⟨C1, C2, rfl, b0, g1, g2, k1, k2⟩)
  have bW : But (fun _ => False) W W0 := ((But.refl _ W).alloc _).trans b0
  replace hh4 := hh4.but b0 (fun f => f)
  simp only [World.size_alloc] at g1 g2
  have q1 : ¬ (bq C1 ∨ C1 = W0.heap.size ∨ C1 = W0.heap.size + 1) := by rintro (h | h | h) <;> first | (have := hbq _ h; omega) | (have := k1.lt; omega)
  have q2 : ¬ (bq C2 ∨ C2 = W0.heap.size ∨ C2 = W0.heap.size + 1) := by rintro (h | h | h) <;> first | (have := hbq _ h; omega) | (have := k2.lt; omega)
  have hE0 : EvsAt (fun k => bq k ∨ k = W0.heap.size ∨ k = W0.heap.size + 1) W0 A (L.map Subtype.val) := fun i x hi => by
    obtain ⟨g, off, hA, hg, hc⟩ := hE i x hi
    have hgl : g < W.heap.size := cellLt (hc 0 _ rfl)
    exact ⟨g, off, hA, by rintro (h | h | h) <;> first | exact hg h | (have := bW.size; omega), fun j u hj => bW.cell (hc j u hj) (fun f => f)⟩
  have hS := of_stops (n - 1) (by omega) (fun k => bq k ∨ k = W0.heap.size ∨ k = W0.heap.size + 1) C1 C2 A len cap 2 L hlen hc1 hlc W0 q1 q2 k1.box.1 k2.box.1 hE0
  have hl2 := Lib.hid h2
  have hl3 := Lib.hid h3
  have n4 : ¬ bq W.heap.size := fun h => by have := hbq _ h; omega
  refine range_kept (by omega) (gf := 28) (lb := #[.pointer (some ⟨C1, 0, none⟩), .pointer (some ⟨C2, 0, none⟩)]) rfl (enters_of Try.func28 (by kernel_rfl) rfl) (fun k hk => by have := hbq k hk; have := bW.size; omega) (fun _ _ => trivial) hS (fun _ => rfl)
    (fun pre W' => J (pre.filter (fun x => logB k t x.1)) W' ∧ But bq W0 W')
    (fun c pre W' => c = .ret ∧ Jx (pre.filter (fun x => logB k t x.1)) W')
    (OwnFrom.and (fun s X Y row hs hg hr => OwnFrom.more hJ bW.size _ X Y row hs hg hr) (ownFrom_but (Nat.le_refl _))) (fun c s X Y row hs hg hr => ⟨hs.1, OwnFrom.more hJx bW.size _ X Y row hs.2 hg hr⟩)
    ⟨hJ _ _ _ none h0 ⟨bW.os, bW.tape, bW.output, bW.size, fun k hk _ => bW.block k hk (fun f => f)⟩ (fun r e => by cases e), But.refl _ _⟩ ?round ?done ?stop
  case round =>
    rintro l2 pre x Wr ⟨hJ1, hk1⟩ hlt
    gi_wp2_with (((with_reducible refine st_ev Wr x.1 ?_ ?_); (exact ⟨rfl, rfl, rfl, rfl⟩)))
    refine ⟨(But.refl _ _).alloc _, ?_⟩
    rintro W2 hb2 hcells ⟨hJ2, hk2⟩
    have hx := hcells _ _ rfl (Holds.new Wr x.1.obj)
    revert hx
    generalize Wr.heap.size = g
    intro hx
    clear hb2 hcells
    have hkk := ((hl2.out.but bW (fun f => f)).but hk2 hb2).box.1
    have a0 := (hl3.out.but bW (fun f => f)).but hk2 hb3
    have t0 := cells_cell a0 0
    have t1 := cells_cell a0 1
    have t2 := cells_cell a0 2
    have y0 := (hh4.but hk2 n4).box.1
    have c2 := obj_cell hx 2 _ rfl
    have c6 := obj_cell hx 6 _ rfl
    have c8 := obj_cell hx 8 _ rfl
    have c9 := obj_cell hx 9 _ rfl
    have c10 := obj_cell hx 10 _ rfl
    have HX := Lib.hid hx
    have HK := Lib.hid hk2
    have HJ := Lib.hid hJ2
    clear hx a0 hk1 hJ1
    by_cases e0 : x.1.rec_.kind = k
    · have f0 : (x.1.rec_.kind == k) = true := by simpa using e0
      by_cases e1 : x.1.rec_.t.c = t.c
      · have f1 : (x.1.rec_.t.c == t.c) = true := by simpa using e1
        by_cases e2 : x.1.rec_.t.e = t.e
        · have f2 : (x.1.rec_.t.e == t.e) = true := by simpa using e2
          by_cases e3 : x.1.rec_.t.s = t.s
          · have f3 : (x.1.rec_.t.s == t.s) = true := by simpa using e3
            have hb : logB k t x.1 = true := by unfold logB; rw [f0, f1, f2, f3]; rfl
            have hpe : (pre ++ [x]).filter (fun x => logB k t x.1) = pre.filter (fun x => logB k t x.1) ++ [x] := by rw [List.filter_append]; simp [hb]
            have HP := Lib.hid hpe
            clear hpe hb e0 e1 e2 e3
            obtain ⟨fn, tmps, assign, body, hy, hR⟩ := hY _ x W2 hJ2 (Nat.lt_of_le_of_lt (List.length_filter_le _ _) hlt.1)
            gi_wp2_with (((with_reducible refine ld_rec g 6 x.1.rec_ (rec_range HX.out) ?_ ?_); (exact ⟨rfl, rfl⟩)))
            refine ⟨fun _ => by omega, ?_⟩
            refine (round_any hR).mono ?_
            rintro e W3 (⟨rfl, hJ3, hb3⟩ | ⟨rfl, hJx3, hb3⟩)
            · gi_wp2
              exact ⟨hb3, by rw [HP.out]; exact hJ3, HK.out.trans hb3⟩
            · gi_wp2
              exact ⟨hb3, rfl, by rw [HP.out]; exact hJx3⟩
          · have f3 : (x.1.rec_.t.s == t.s) = false := by simpa using e3
            have hb : logB k t x.1 = false := by unfold logB; rw [f0, f1, f2, f3]; simp
            have hpe : (pre ++ [x]).filter (fun x => logB k t x.1) = pre.filter (fun x => logB k t x.1) := by rw [List.filter_append]; simp [hb]
            have HP := Lib.hid hpe
            clear hpe hb e0 e1 e2 e3
            gi_wp2
            refine ⟨fun _ h => (by cases h), ?_⟩
            gi_wp2
            exact ⟨But.refl _ _, by rw [HP.out]; exact HJ.out, HK.out⟩
        · have f2 : (x.1.rec_.t.e == t.e) = false := by simpa using e2
          have hb : logB k t x.1 = false := by unfold logB; rw [f0, f1, f2]; simp
          have hpe : (pre ++ [x]).filter (fun x => logB k t x.1) = pre.filter (fun x => logB k t x.1) := by rw [List.filter_append]; simp [hb]
          have HP := Lib.hid hpe
          clear hpe hb e0 e1 e2
          gi_wp2
          refine ⟨fun _ h => (by cases h), ?_⟩
          gi_wp2
          exact ⟨But.refl _ _, by rw [HP.out]; exact HJ.out, HK.out⟩
      · have f1 : (x.1.rec_.t.c == t.c) = false := by simpa using e1
        have hb : logB k t x.1 = false := by unfold logB; rw [f0, f1]; simp
        have hpe : (pre ++ [x]).filter (fun x => logB k t x.1) = pre.filter (fun x => logB k t x.1) := by rw [List.filter_append]; simp [hb]
        have HP := Lib.hid hpe
        clear hpe hb e0 e1
        gi_wp2
        refine ⟨fun _ h => (by cases h), ?_⟩
        gi_wp2
        exact ⟨But.refl _ _, by rw [HP.out]; exact HJ.out, HK.out⟩
    · have f0 : (x.1.rec_.kind == k) = false := by simpa using e0
      have hb : logB k t x.1 = false := by unfold logB; rw [f0]; simp
      have hpe : (pre ++ [x]).filter (fun x => logB k t x.1) = pre.filter (fun x => logB k t x.1) := by rw [List.filter_append]; simp [hb]
      have HP := Lib.hid hpe
      clear hpe hb e0
      gi_wp2
      refine ⟨fun _ h => (by cases h), ?_⟩
      gi_wp2
      exact ⟨But.refl _ _, by rw [HP.out]; exact HJ.out, HK.out⟩
  case done =>
    rintro D xs W' hD rfl ⟨hj, hk⟩ hK
    gi_wp2
    refine ⟨by simp, .inl ⟨_, _, rfl, run_takeDeferred hK, ?_⟩⟩
    exact ⟨_, results_none rfl _ _ _, ⟨_, rfl⟩, .inl ⟨_, rfl, OwnFrom.putObj hJ _ hj (Nat.le_trans bW.size hD) hK rfl⟩⟩
  case stop =>
    rintro D c pre W' hD hpre ⟨rfl, hj⟩ hK
    gi_wp2
    refine ⟨by simp, .inl ⟨_, _, rfl, run_takeDeferred hK, ?_⟩⟩
    exact ⟨_, results_none rfl _ _ _, ⟨_, rfl⟩, .inr ⟨_, hpre.filter _, OwnFrom.putObj hJx _ hj (Nat.le_trans bW.size hD) hK rfl⟩⟩
/-- What 'logs' hands back keeps the contract. -/
theorem logs_stops (n : Nat) (hn : 4 ≤ n) (bq : Nat → Prop) (B1 B2 B3 : Nat) (A : Option Addr) (len cap : Nat) (k : Int) (t : TxnV) {p : EvV → Prop} (L : List (Subtype p)) (hlen : L.length = len) (hc1 : cap ≤ 9223372036854775807) (hlc : len ≤ cap) (w : World)
    (hb1 : ¬ bq B1) (hb2 : ¬ bq B2) (hb3 : ¬ bq B3) (h1 : Holds w B1 (.cells #[.slice A len cap] 22)) (h2 : Holds w B2 (.cells #[.int .u8 k] 5)) (h3 : Holds w B3 t.obj) (hE : EvsAt bq w A (L.map Subtype.val)) :
    SeqO n Try.prog 33 #[.pointer (some ⟨B1, 0, none⟩), .pointer (some ⟨B2, 0, none⟩), .pointer (some ⟨B3, 0, none⟩)] (fun x : Subtype p => #[.int .i64 x.1.org, x.1.rec_.val]) bq (fun W => ∀ k, bq k → k < W.heap.size) (fun ys => ys = (L.filter (fun x => x.1.kind == 2)).filter (fun x => logB k t x.1)) (fun pre => pre <+: (L.filter (fun x => x.1.kind == 2)).filter (fun x => logB k t x.1)) len w := fun l J Jx W hW hqs hJ hJx hY h0 => by
  have hB : But (fun k => w.heap.size ≤ k) w W := But.of_below hW
  have l1 := h1.lt
  have l2 := h2.lt
  have l3 := h3.lt
  refine logs1_in n hn bq l B1 B2 B3 A len cap k t L hlen hc1 hlc J Jx W hY hqs hJ hJx hb1 hb2 hb3 (h1.but hB (by omega)) (h2.but hB (by omega)) (h3.but hB (by omega)) (fun i x hi => ?_) h0
  obtain ⟨g, off, hA, hg, hc⟩ := hE i x hi
  exact ⟨g, off, hA, hg, fun j u hj => hB.cell (hc j u hj) (by have := cellLt (hc j u hj); omega)⟩
end Go.Proofs.Ytmaihiajgjijhaa
