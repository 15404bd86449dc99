/- What ranges over the events of a kind: begun. -/
import Derived.Test.YtmaihiajgjijhaaSafe2
namespace Go.Proofs.Ytmaihiajgjijhaa
open Go.RowKit Go.Shelf
set_option linter.unusedVariables false
set_option linter.unusedSimpArgs false
attribute [local go_sem] Oper.semAt_some

/-- The events that can be read, as the loops see them. -/
def evL (w : World) (l : List EvV) (h : ∀ x ∈ l, EvOk w x) : List {x : EvV // EvOk w x} := l.pmap Subtype.mk h
theorem evL_val (w : World) (l : List EvV) (h : ∀ x ∈ l, EvOk w x) : (evL w l h).map Subtype.val = l := by
  unfold evL; rw [List.map_pmap]; simp
theorem evL_length (w : World) (l : List EvV) (h : ∀ x ∈ l, EvOk w x) : (evL w l h).length = l.length := by simp [evL]
theorem evL_any (w : World) (l : List EvV) (h : ∀ x ∈ l, EvOk w x) (p q : EvV → Bool) : ((evL w l h).filter (fun x => p x.1)).any (fun x => q x.1) = (l.filter p).any q := by
  conv => rhs; rw [← evL_val w l h]
  rw [List.filter_map, List.any_map]; rfl

def sameB (t t' : TxnV) (aud aud' : Int) (m m' : List MemV) : Bool := decide (t = t') && decide (aud = aud') && decide (m = m')
def begunB (l : List EvV) (t : TxnV) (aud : Int) (m : List MemV) : Bool := (l.filter (fun x => x.kind == 1)).any fun x => sameB t x.t aud x.rcp.aud m x.rcp.ms

set_option maxRecDepth 100000 in
set_option maxHeartbeats 2000000 in
theorem begun_any {w : World} (t : TxnV) (aud : Int) {s : SlV} {m : List MemV} (h : MemsAt w s m) {A : Option Addr} {len cap : Nat} {l : List EvV} (hl : HistAt w A l) (hlen : l.length = len) (hlc : len ≤ cap) (hc : cap ≤ 9223372036854775807) :
    Calls Try.prog 24 #[lstVal t aud s, .slice A len cap] w fun e w' => e = .returned (.bool (begunB l t aud m)) ∧ But (fun _ => False) w w' := by
  have hany := Lib.hid (evL_any w l hl.2 (fun x => x.kind == 1) (fun x => sameB t x.t aud x.rcp.aud m x.rcp.ms))
  have hlenL := evL_length w l hl.2
  have hE := hl.evs (q := fun k => w.heap.size ≤ k) (fun _ h => h)
  rw [← evL_val w l hl.2] at hE
  generalize evL w l hl.2 = L at hany hlenL hE
  have HH := Lib.hid h
  rw [hlen] at hlenL
  clear h hl hlen
  unfold lstVal
  refine (callsIn_wide (n := 5)).1 ?_
  refine callsIn_of_wp_marks Try.func24 rfl trivial ?_ rfl
  simp only [Try.ntmps24, List.size_toArray, List.length_cons, List.length_nil, Nat.reduceAdd, Nat.reduceSub, Array.replicate_succ, Array.replicate_zero, List.push_toArray, List.append_toArray, List.nil_append, List.cons_append]
  have hh0 := Holds.n20 w (.cells #[.int .i64 t.c, .int .i64 t.e, .int .i64 t.s, .int .i64 aud, .slice s.A s.n s.c] 56) (.cells #[.bool false] 4)
  have hh1 := Holds.n21 w (.cells #[.int .i64 t.c, .int .i64 t.e, .int .i64 t.s, .int .i64 aud, .slice s.A s.n s.c] 56) (.cells #[.bool false] 4)
  have hbb : But (fun _ => False) w ((w.alloc (.cells #[.int .i64 t.c, .int .i64 t.e, .int .i64 t.s, .int .i64 aud, .slice s.A s.n s.c] 56)).alloc (.cells #[.bool false] 4)) := ((But.refl _ w).alloc _).alloc _
  gi_wp2_with (refine ⟨trivial, ?_⟩; gi_at_call 19; refine (callsIn_wide.2 (of_any' _ _ _ _ _)).mono ?_; rintro e W0 ⟨B1, B2, rfl, b0, g1, g2, k1, k2⟩)
  replace hh0 := hh0.but b0 (fun f => f)
  replace hh1 := hh1.but b0 (fun f => f)
  have hb0 := hbb.trans b0
  clear b0 hbb
  simp only [World.size_alloc] at g1 g2
  have hE0 := hE.but hb0 (fun _ f => f.elim)
  have hS := of_stops 4 (by omega) (fun k => k = w.heap.size + 1 ∨ k = W0.heap.size ∨ k = W0.heap.size + 1) B1 B2 A len cap 1 L hlenL hc hlc W0 (not_two (q := fun k => k = w.heap.size + 1) k1.lt (by omega)) (not_two (q := fun k => k = w.heap.size + 1) k2.lt (by omega)) k1.box.1 k2.box.1 (hE0.mono (fun i h => by have := hb0.size; show w.heap.size ≤ i; rcases h with h | h | h <;> omega))
  refine range_kept (by omega) (gf := 28) (lb := #[.pointer (some ⟨B1, 0, none⟩), .pointer (some ⟨B2, 0, none⟩)]) rfl (enters_of Try.func28 (by kernel_rfl) rfl) (fun k hk => by have := hh1.lt; omega) (fun _ _ => trivial) hS (fun _ => rfl)
    (fun pre W => (pre.any fun x => sameB t x.1.t aud x.1.rcp.aud m x.1.rcp.ms) = false ∧ But (fun _ => False) W0 W)
    (fun c pre W => ((c = .ret ∧ (pre.any fun x => sameB t x.1.t aud x.1.rcp.aud m x.1.rcp.ms) = true) ∧ Holds W (w.heap.size + 1) (.cells #[.bool true] 4)) ∧ But (fun k => k = w.heap.size + 1) W0 W)
    (OwnFrom.and (ownFrom_pure _ _) (ownFrom_but (Nat.le_refl _))) (fun c => OwnFrom.and (ownFrom_lies _ _ _ hh1.lt) (ownFrom_but (Nat.le_refl _)))
    ⟨rfl, But.refl _ _⟩ ?round ?done ?stop
  case round =>
    rintro l pre x W ⟨hp, hk⟩ hlt
    gi_wp2_with (((with_reducible refine st_ev W x.1 ?_ ?_); (exact ⟨rfl, rfl, rfl, rfl⟩)))
    refine ⟨(But.refl _ _).alloc _, ?_⟩
    rintro W2 hb2 hcells ⟨_, hk2⟩
    have hx := hcells _ _ rfl (Holds.new W x.1.obj)
    revert hx
    generalize W.heap.size = g
    intro hx
    clear hb2 hcells
    have hW := hb0.trans hk2
    have C : Calls Try.prog 29 #[lstVal t aud s, lstVal x.1.t x.1.rcp.aud x.1.rcp.msl] W2 fun e w' => e = .returned (.bool (sameB t x.1.t aud x.1.rcp.aud m x.1.rcp.ms)) ∧ But (fun _ => False) W2 w' := same_any t x.1.t aud x.1.rcp.aud (HH.out.but hW) (x.2.2.but hW)
    have a0 := hh0.but hk2 (fun f => f)
    have l0 := cells_cell a0 0
    have l1 := cells_cell a0 1
    have l2 := cells_cell a0 2
    have l3 := cells_cell a0 3
    have l4 := cells_cell a0 4
    have c3 := obj_cell hx 3 _ rfl
    have c4 := obj_cell hx 4 _ rfl
    have c5 := obj_cell hx 5 _ rfl
    have c19 := obj_cell hx 19 _ rfl
    have c20 := obj_cell hx 20 _ rfl
    have HX := Lib.hid hx
    have HK := Lib.hid hk2
    have H1 := Lib.hid (hh1.but hk2 (fun f => f))
    have hpe : (pre ++ [x]).any (fun x => sameB t x.1.t aud x.1.rcp.aud m x.1.rcp.ms) = sameB t x.1.t aud x.1.rcp.aud m x.1.rcp.ms := by rw [List.any_append, hp]; simp
    have HP := Lib.hid hpe
    have HC := Lib.hid C
    clear hpe C hx hk2 hk hp a0
    generalize hq : sameB t x.1.t aud x.1.rcp.aud m x.1.rcp.ms = q at HP HC
    clear hq
    unfold lstVal at HC
    cases q with
    | true =>
      gi_wp2_with (refine ⟨trivial, ?_⟩; gi_at_call 29; refine (CallsIn.inRound l (callsIn_wide.2 HC.out)).mono ?_; rintro e w1 ⟨rfl, b1⟩; have k4 := (H1.out.but b1 (fun f => f)).box)
      have b2 : But (fun k => k = w.heap.size + 1) W2 (w1.setCell ⟨w.heap.size + 1, 0, none⟩ (.bool true)) := (b1.mono (q := fun k => k = w.heap.size + 1) (fun _ h => h.elim)).setCell (a := ⟨w.heap.size + 1, 0, none⟩) (.inl rfl) _
      exact ⟨b2, ⟨⟨rfl, HP.out⟩, (H1.out.but b1 (fun f => f)).set _⟩, (HK.out.mono (fun _ f => f.elim)).trans b2⟩
    | false =>
      gi_wp2_with (refine ⟨trivial, ?_⟩; gi_at_call 29; refine (CallsIn.inRound l (callsIn_wide.2 HC.out)).mono ?_; rintro e w1 ⟨rfl, b1⟩)
      exact ⟨b1.mono (fun _ f => f.elim), HP.out, HK.out.trans b1⟩
  case done =>
    rintro D xs W hD rfl ⟨hp, hk⟩ hK
    have h4 := hh1.but hk (fun f => f)
    have k4 := h4.box
    have HW := Lib.hid (hb0.trans hk)
    have HP := Lib.hid hp
    have HK := Lib.hid hK
    have H4 := Lib.hid h4
    clear hp hK h4 hk
    gi_wp2
    have hlt : w.heap.size + 1 < D := by have := hh1.lt; omega
    refine ⟨by simp, .inl ⟨_, _, rfl, run_takeDeferred (blkFar HK.out (show D ≠ w.heap.size + 1 by omega) _), ?_⟩⟩
    have hq := hany.out.symm.trans HP.out
    unfold begunB
    rw [hq]
    exact ⟨_, results_cell1 rfl _ _ (w.heap.size + 1) _ _ rfl ((cell_putObj _ 0 (by omega)).trans (H4.out.set _).box.1) Try.underlying4 rfl, rfl, (HW.out.setCell (a := ⟨w.heap.size + 1, 0, none⟩) (.inr (Nat.le_succ _)) _).putObj _ (by omega)⟩
  case stop =>
    rintro D c pre W hD hpre ⟨⟨⟨rfl, hp⟩, hh⟩, hk⟩ hK
    have hW : But (fun _ => False) w W := hb0.none hk (fun k hk' => by omega)
    have hq : begunB l t aud m = true := by
      unfold begunB
      rw [← hany.out]
      obtain ⟨x, hx, hs⟩ := List.any_eq_true.1 hp
      exact List.any_eq_true.2 ⟨x, hpre.subset hx, hs⟩
    have hlt : w.heap.size + 1 < D := by have := hh1.lt; omega
    gi_wp2
    refine ⟨by simp, .inl ⟨_, _, rfl, run_takeDeferred hK, ?_⟩⟩
    rw [hq]
    exact ⟨_, results_cell1 rfl _ _ (w.heap.size + 1) _ _ rfl ((cell_putObj _ 0 (by omega)).trans hh.box.1) Try.underlying4 rfl, rfl, hW.putObj _ (by omega)⟩
end Go.Proofs.Ytmaihiajgjijhaa
