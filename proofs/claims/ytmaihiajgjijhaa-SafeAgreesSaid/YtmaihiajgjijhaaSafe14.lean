/- What was begun. -/
import Derived.Test.YtmaihiajgjijhaaSafe13
import Derived.Maps.AppendAt
namespace Go.Proofs.Ytmaihiajgjijhaa
open Go.RowKit Go.Shelf
set_option linter.unusedVariables false
set_option linter.unusedSimpArgs false
attribute [local go_sem] Oper.semAt_some ev_obj

def begunL (l : List EvV) : List TxnV := (l.filter (fun x => x.kind == 1)).map (·.t)
def txnCells (ts : List TxnV) : List Value := ts.flatMap fun t => [.int .i64 t.c, .int .i64 t.e, .int .i64 t.s]
theorem txnCells_length (ts : List TxnV) : (txnCells ts).length = ts.length * 3 := by
  unfold txnCells
  induction ts with
  | nil => rfl
  | cons t ts ih => rw [List.flatMap_cons, List.length_append, ih]; simp; omega
theorem txnCells_at (ts : List TxnV) : ∀ (i : Nat) (t : TxnV), ts[i]? = some t → ((txnCells ts).drop (i * 3)).take 3 = [.int .i64 t.c, .int .i64 t.e, .int .i64 t.s] := by
  unfold txnCells
  induction ts with
  | nil => intro i t h; cases h
  | cons u ts ih =>
    intro i t h
    rw [List.flatMap_cons]
    cases i with
    | zero => cases h; rfl
    | succ i =>
      rw [show (i + 1) * 3 = 3 + i * 3 by omega, ← List.drop_drop]
      exact ih i t h
theorem txnCells_snoc (ts : List TxnV) (t : TxnV) : txnCells (ts ++ [t]) = txnCells ts ++ [.int .i64 t.c, .int .i64 t.e, .int .i64 t.s] := by simp [txnCells]
theorem TxnsAt.of_owns {W : World} {base : Nat} {v : Value} {ts : List TxnV} (h : W.ownsRow base 24 3 v ts.length (txnCells ts)) : ∃ A n c, v = .slice A n c ∧ TxnsAt W A n c ts := by
  obtain ⟨h1, h2⟩ := h
  rcases h2 with ⟨rfl, h0⟩ | ⟨g, cap, cur, rfl, hg, hh, hn, hc, hs, ht⟩
  · refine ⟨none, 0, 0, rfl, h0, Nat.le_refl _, by omega, txnCells ts, by rw [txnCells_length], ⟨24, fun hne => ?_⟩, fun i x hi => txnCells_at ts i x hi⟩
    exfalso; apply hne
    apply List.eq_nil_of_length_eq_zero
    rw [txnCells_length, h0]
  · refine ⟨some ⟨g, 0, none⟩, ts.length, cap, rfl, rfl, hn, by have : maxLen ≤ 9223372036854775807 := by decide
                                                                omega, txnCells ts, by rw [txnCells_length], ⟨24, fun hne => ⟨g, 0, cur, (0, 0), rfl, hh, fun j u hj => ?_⟩⟩, fun i x hi => txnCells_at ts i x hi⟩
    rw [← ht, List.getElem?_take] at hj
    split at hj
    · rw [Nat.zero_add]; simpa using hj
    · cases hj
/-- So far. -/
def BegAt {p : EvV → Prop} (B0 base : Nat) (pre : List (Subtype p)) (W : World) : Prop := ∃ v, Holds W B0 (.cells #[v] 47) ∧ W.ownsRow base 24 3 v (pre.map (·.1.t)).length (txnCells (pre.map (·.1.t)))
theorem BegAt.own {p : EvV → Prop} {B0 base B : Nat} (h : B0 < B) : OwnFrom B (BegAt (p := p) B0 base) := fun s X Y row hs hg hr => by
  obtain ⟨v, k1, k2⟩ := hs
  refine ⟨v, (ownFrom_lies (fun _ : Unit => True) _ (fun _ => _) h () X Y row ⟨trivial, k1⟩ hg hr).2, ?_⟩
  refine k2.kept hg ?_
  cases hv : v.ownBlock with
  | none => exact .inl rfl
  | some g =>
    refine .inr (fun e => ?_)
    obtain ⟨_, o, ho, hc⟩ := hr g e.symm
    rcases k2.2 with ⟨rfl, _⟩ | ⟨g', cap, cur, rfl, _, hh, _⟩
    · cases hv
    · cases hv
      rw [hh] at ho; cases ho; cases hc
/-- What 'Begun' hands back. -/
def BegunIs (w : World) (ts : List TxnV) (e : Ending) (w' : World) : Prop := ∃ A n c, e = .returned (.slice A n c) ∧ TxnsAt w' A n c ts ∧ But (fun _ => False) w w'

theorem infoTxn : (Try.prog.info? 24).map (fun i => (i.zero, i.size, i.bytes)) = some (some (.agg #[.int .i64 0, .int .i64 0, .int .i64 0]), 3, 24) := by kernel_rfl
set_option maxRecDepth 100000 in
set_option maxHeartbeats 2000000 in
theorem Begun_any {w : World} {A : Option Addr} {len cap : Nat} {l : List EvV} (hl : HistAt w A l) (hlen : l.length = len) (hlc : len ≤ cap) (hc : cap ≤ 9223372036854775807) (hshort : len ≤ 1000) :
    Calls Try.prog 11 #[.slice A len cap] w (BegunIs w (begunL l)) := by
  have hbeg : ((evL w l hl.2).filter (fun x => x.1.kind == 1)).map (·.1.t) = begunL l := by
    unfold begunL
    conv => rhs; rw [← evL_val w l hl.2]
    rw [List.filter_map, List.map_map]; rfl
  have HBEG := Lib.hid hbeg
  have hlenL := evL_length w l hl.2
  have hE := hl.evs (q := fun k => w.heap.size ≤ k) (fun _ h => h)
  rw [← evL_val w l hl.2] at hE
  generalize evL w l hl.2 = L at HBEG hlenL hE
  rw [hlen] at hlenL
  clear hl hlen hbeg
  obtain ⟨i0, hi, hz0, hz1, hz2⟩ := info_parts infoTxn
  refine (callsIn_wide (n := 8)).1 ?_
  refine callsIn_of_wp_marks Try.func11 rfl trivial ?_ rfl
  simp only [Try.ntmps11, List.size_toArray, List.length_cons, List.length_nil, Nat.reduceAdd, Nat.reduceSub, Array.replicate_succ, Array.replicate_zero, List.push_toArray, List.append_toArray, List.nil_append, List.cons_append]
  have hh0 := Holds.new w (.cells #[.slice none 0 0] 47)
  have hbb : But (fun _ => False) w (w.alloc (.cells #[.slice none 0 0] 47)) := (But.refl _ w).alloc _
  gi_wp2_with (refine ⟨trivial, ?_⟩; gi_at_call 19; refine (callsIn_wide.2 (of_any' _ _ _ _ _)).mono ?_; rintro e W0 ⟨B1, B2, rfl, b0, g1, g2, k1, k2⟩)
  replace hh0 := hh0.but b0 (fun f => f)
  have hb0 := hbb.trans b0
  clear b0 hbb
  simp only [World.size_alloc] at g1 g2
  have hE0 := hE.but hb0 (fun _ f => f.elim)
  have l1 := k1.lt
  have l2 := k2.lt
  have l0 := hh0.lt
  have hq : ∀ k, (k = w.heap.size ∨ W0.heap.size + 2 ≤ k) → k ≠ W0.heap.size ∧ k ≠ W0.heap.size + 1 := fun k h => by omega
  have n1 : ¬ (B1 = w.heap.size ∨ W0.heap.size + 2 ≤ B1) := by omega
  have n2 : ¬ (B2 = w.heap.size ∨ W0.heap.size + 2 ≤ B2) := by omega
  have hS := of_stops 7 (by omega) (fun k => (k = w.heap.size ∨ W0.heap.size + 2 ≤ k) ∨ k = W0.heap.size ∨ k = W0.heap.size + 1) B1 B2 A len cap 1 L hlenL hc hlc W0 (not_two (q := fun k => k = w.heap.size ∨ W0.heap.size + 2 ≤ k) l1 n1) (not_two (q := fun k => k = w.heap.size ∨ W0.heap.size + 2 ≤ k) l2 n2) k1.box.1 k2.box.1 (hE0.mono (fun i h => by show w.heap.size ≤ i; rcases h with (h | h) | h | h <;> omega))
  refine range_kept (by omega) (gf := 28) (lb := #[.pointer (some ⟨B1, 0, none⟩), .pointer (some ⟨B2, 0, none⟩)]) rfl (enters_of Try.func28 (by kernel_rfl) rfl) hq (fun _ _ => trivial) hS (fun _ => rfl)
    (fun pre W => (BegAt w.heap.size (W0.heap.size + 2) pre W ∧ But (fun k => k = w.heap.size) W0 W))
    (fun c pre W => False)
    (OwnFrom.and (BegAt.own l0) (ownFrom_but (Nat.le_refl _))) (fun c s X Y row hs _ _ => hs)
    ⟨⟨_, hh0, World.ownsRow_nil _ _ _ _⟩, But.refl _ _⟩ ?round ?done ?stop
  case round =>
    rintro l2 pre x Wr ⟨hp, hk⟩ hlt
    gi_wp2_with (((with_reducible refine st_ev Wr x.1 ?_ ?_); (exact ⟨rfl, rfl, rfl, rfl⟩)))
    refine ⟨(But.refl _ _).alloc _, ?_⟩
    rintro W2 hb2 hcells ⟨⟨v, hv, hrow⟩, hk2⟩
    have hx := hcells _ _ rfl (Holds.new Wr x.1.obj)
    have hbig : W0.heap.size + 2 ≤ Wr.heap.size := hlt.2
    have hb3 : But (fun k => k = w.heap.size) W0 W2 := hk2
    have hbig2 : W0.heap.size + 2 ≤ W2.heap.size := by have := hb2.size; simp at this; omega
    revert hx
    generalize Wr.heap.size = g
    intro hx
    clear hb2 hcells
    have c3 := obj_cell hx 3 _ rfl
    have c4 := obj_cell hx 4 _ rfl
    have c5 := obj_cell hx 5 _ rfl
    have kb := hv.box
    have hlv := hv.lt
    have hvb : some w.heap.size ≠ v.ownBlock := fun e => by have := (hrow.lt _ e.symm).1; omega
    have hpre : pre.length < len := hlt.1
    have HR := hrow.alloc (.cells #[.int .i64 x.1.t.c, .int .i64 x.1.t.e, .int .i64 x.1.t.s] 24)
    have HV := Lib.hid (hv.alloc (.cells #[.int .i64 x.1.t.c, .int .i64 x.1.t.e, .int .i64 x.1.t.s] 24))
    have HN := Holds.new W2 (.cells #[.int .i64 x.1.t.c, .int .i64 x.1.t.e, .int .i64 x.1.t.s] 24)
    have HK := Lib.hid hb3
    have hml : (pre.map (·.1.t)).length = pre.length := List.length_map _
    rw [hml] at HR
    have hc3 : ∀ j u, [Value.int .i64 x.1.t.c, .int .i64 x.1.t.e, .int .i64 x.1.t.s][j]? = some u → (W2.alloc (.cells #[.int .i64 x.1.t.c, .int .i64 x.1.t.e, .int .i64 x.1.t.s] 24)).cell? ((⟨W2.heap.size, 0, none⟩ : Addr).add j) = some u := fun j u hj => by
      rw [addP, Nat.zero_add, cellOf (show _ = some (Obj.cells _ _ _) from HN)]; simpa using hj
    have HC3 := Lib.hid hc3
    have HHR := Lib.hid HR
    have HMX := Lib.hid (show (1001 : Nat) ≤ maxLen from by decide)
    clear hrow hk hk2 hb3 hp HR hc3 HN hv
    gi_wp2_with (gi_at_builtin; refine wpListIn_append_own _ rfl _ _ 47 rfl (W0.heap.size + 2) 24 i0 (.agg #[.int .i64 0, .int .i64 0, .int .i64 0]) 3 24 Try.underlying47 hi hz0 hz1 hz2 rfl (by decide) _ _ _ rfl HHR.out ⟨W2.heap.size, 0, none⟩ 1 1 [.int .i64 x.1.t.c, .int .i64 x.1.t.e, .int .i64 x.1.t.s] rfl rfl HC3.out (by simp [Value.oneCell']) (by have := HMX.out; omega) (by omega) (by simp; omega) ?_; intro v' w1 hown' hgrow _; obtain ⟨g', cap', rfl⟩ := ownsRow_succ hown'; have kv := (show Holds w1 w.heap.size _ from (hgrow.block _ HV.out.lt hvb).trans HV.out); have kb9 := kv.box)
    have hg' := hown'.lt g' rfl
    have bb : But (fun k => k = w.heap.size ∨ W0.heap.size + 2 ≤ k) W2 w1 := ((But.refl (fun k => k = w.heap.size ∨ W0.heap.size + 2 ≤ k) W2).alloc _).then_ (But.of_grown hgrow) (fun i hi => .inl (.inr (HHR.out.lt i hi).1))
    have bb2 : But (fun k => k = w.heap.size ∨ W0.heap.size + 2 ≤ k) W2 (w1.setCell ⟨w.heap.size, 0, none⟩ (.slice (some ⟨g', 0, none⟩) (pre.length + 1) cap')) := bb.setCell (a := ⟨w.heap.size, 0, none⟩) (.inl (.inl rfl)) _
    refine ⟨bb2, ⟨_, kv.set _, ?_⟩, HK.out.then_ bb2 (fun i hi => by rcases hi with h | h; exact .inl h; exact .inr (by omega))⟩
    have := ownsRow_setCell_other hown' (a := ⟨w.heap.size, 0, none⟩) (by simp [Value.ownBlock]; omega) (.slice (some ⟨g', 0, none⟩) (pre.length + 1) cap')
    rw [List.map_append, List.map_cons, List.map_nil, txnCells_snoc, List.length_append, hml]
    exact this
  case done =>
    rintro D xs W hD rfl ⟨⟨v, hv, hrow⟩, hk⟩ hK
    obtain ⟨A', n', c', rfl, hT⟩ := TxnsAt.of_owns hrow
    have kb := hv.box
    have HB := Lib.hid (hb0.none hk (fun k e => by omega))
    have HRW := Lib.hid hrow
    have HV := Lib.hid hv
    have HK := Lib.hid hK
    clear hrow hv hK hk hT
    gi_wp2
    have hKD := blkFar (a := ⟨w.heap.size, 0, none⟩) HK.out (show D ≠ w.heap.size by omega) (.slice A' n' c')
    refine ⟨by simp, .inl ⟨_, _, rfl, run_takeDeferred hKD, ?_⟩⟩
    have r2 := ownsRow_putObj (ownsRow_setCell_other HRW.out (a := ⟨w.heap.size, 0, none⟩) (fun e => by have := (HRW.out.lt w.heap.size e).1; omega) (.slice A' n' c')) (.deferred none) hKD rfl
    refine ⟨_, results_cell1 rfl _ _ w.heap.size _ _ rfl ((cell_putObj _ 0 (by omega)).trans (HV.out.set _).box.1) Try.underlying47 rfl, ?_⟩
    obtain ⟨A2, n2, c2, he, hT⟩ := TxnsAt.of_owns r2
    exact ⟨A2, n2, c2, by rw [he], by rw [← HBEG.out]; exact hT, (HB.out.setCell (a := ⟨w.heap.size, 0, none⟩) (.inr (Nat.le_refl _)) _).putObj _ (by omega)⟩
  case stop =>
    rintro D c pre W hD hpre hf hK
    exact hf.elim
end Go.Proofs.Ytmaihiajgjijhaa
