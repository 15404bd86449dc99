/- What came of a transaction. -/
import Derived.Test.YtmaihiajgjijhaaSafe10
namespace Go.Proofs.Ytmaihiajgjijhaa
open Go.RowKit Go.Shelf
set_option linter.unusedVariables false
set_option linter.unusedSimpArgs false
attribute [local go_sem] Oper.semAt_some ev_obj

def eqTB (a b : TxnV) : Bool := (a.c == b.c) && ((a.e == b.e) && (a.s == b.s))
theorem eqTB_iff (a b : TxnV) : eqTB a b = true ↔ a = b := by
  obtain ⟨a1, a2, a3⟩ := a; obtain ⟨b1, b2, b3⟩ := b; simp [eqTB]
def outB (t : TxnV) (x : EvV) : Bool := eqTB x.rec_.t t && ((x.rec_.kind == 3) || (x.rec_.kind == 4))
def outcomeOf (l : List EvV) (t : TxnV) : Option EvV := (l.filter (fun x => x.kind == 2)).find? (outB t)
def outCommit (l : List EvV) (t : TxnV) : Bool := match outcomeOf l t with | some x => x.rec_.yes | none => false
/-- The first such one. -/
def FirstIs {α : Type} (p : α → Bool) (o : Option α) (l : List α) : Prop := l.find? p = o
theorem FirstIs.out {α : Type} {p : α → Bool} {o : Option α} {l : List α} (h : FirstIs p o l) : l.find? p = o := h
theorem evL_find (w : World) (l : List EvV) (h : ∀ x ∈ l, EvOk w x) (p q : EvV → Bool) : (((evL w l h).filter (fun x => p x.1)).find? (fun x => q x.1)).map Subtype.val = (l.filter p).find? q := by
  conv => rhs; rw [← evL_val w l h]
  rw [List.filter_map, List.find?_map]; rfl

/-- The loop was left at the first such one; the two results lie in their boxes. -/
def OutLeft (w : World) (t : TxnV) (b1 b2 : Nat) (c : Code) (pre : List {y : EvV // EvOk w y}) (W : World) : Prop :=
  ∃ y : {y : EvV // EvOk w y}, ((c = .ret ∧ FirstIs (fun y : {y : EvV // EvOk w y} => outB t y.1) (some y) pre) ∧ Holds W b1 (.cells #[.bool y.1.rec_.yes] 4)) ∧ Holds W b2 (.cells #[.bool true] 4)
theorem OutLeft.own {w : World} {t : TxnV} {b1 b2 B : Nat} (h1 : b1 < B) (h2 : b2 < B) (c : Code) : OwnFrom B (OutLeft w t b1 b2 c) := fun s X Y row hs hg hr => by
  obtain ⟨y, ⟨hy, k1⟩, k2⟩ := hs
  exact ⟨y, ⟨hy, (ownFrom_lies (fun _ : Unit => True) _ (fun _ => _) h1 () X Y row ⟨trivial, k1⟩ hg hr).2⟩, (ownFrom_lies (fun _ : Unit => True) _ (fun _ => _) h2 () X Y row ⟨trivial, k2⟩ hg hr).2⟩
set_option maxRecDepth 100000 in
set_option maxHeartbeats 4000000 in
theorem Outcome_any {w : World} (t : TxnV) {A : Option Addr} {len cap : Nat} {l : List EvV} (hl : HistAt w A l) (hlen : l.length = len) (hlc : len ≤ cap) (hc : cap ≤ 9223372036854775807) :
    Calls Try.prog 7 #[.slice A len cap, t.val] w fun e w' => e = .returned (.tuple #[.bool (outCommit l t), .bool (outcomeOf l t).isSome]) ∧ But (fun _ => False) w w' := by
  have hfind := Lib.hid (evL_find w l hl.2 (fun x => x.kind == 2) (outB t))
  have hlenL := evL_length w l hl.2
  have hE := hl.evs (q := fun k => w.heap.size ≤ k) (fun _ h => h)
  rw [← evL_val w l hl.2] at hE
  generalize evL w l hl.2 = L at hfind hlenL hE
  rw [hlen] at hlenL
  clear hl hlen
  unfold TxnV.val
  refine (callsIn_wide (n := 8)).1 ?_
  refine callsIn_of_wp_marks Try.func7 rfl trivial ?_ rfl
  simp only [Try.ntmps7, List.size_toArray, List.length_cons, List.length_nil, Nat.reduceAdd, Nat.reduceSub, Array.replicate_succ, Array.replicate_zero, List.push_toArray, List.append_toArray, List.nil_append, List.cons_append]
  have hh0 := Holds.n30 w t.obj (.cells #[.bool false] 4) (.cells #[.bool false] 4)
  have hh1 := Holds.n31 w t.obj (.cells #[.bool false] 4) (.cells #[.bool false] 4)
  have hh2 := Holds.n32 w t.obj (.cells #[.bool false] 4) (.cells #[.bool false] 4)
  have hbb : But (fun _ => False) w (((w.alloc t.obj).alloc (.cells #[.bool false] 4)).alloc (.cells #[.bool false] 4)) := (((But.refl _ w).alloc _).alloc _).alloc _
  unfold TxnV.obj at hh0 hh1 hh2 hbb
  gi_wp2_with (refine ⟨trivial, ?_⟩; gi_at_call 19; refine (callsIn_wide.2 (of_any' _ _ _ _ _)).mono ?_; rintro e W0 ⟨B1, B2, rfl, b0, g1, g2, k1, k2⟩)
  replace hh0 := hh0.but b0 (fun f => f)
  replace hh1 := hh1.but b0 (fun f => f)
  replace hh2 := hh2.but b0 (fun f => f)
  have hb0 := hbb.trans b0
  clear b0 hbb
  simp only [World.size_alloc] at g1 g2
  have hE0 := hE.but hb0 (fun _ f => f.elim)
  have n1 : ¬ (B1 = w.heap.size + 1 ∨ B1 = w.heap.size + 1 + 1) := by omega
  have n2 : ¬ (B2 = w.heap.size + 1 ∨ B2 = w.heap.size + 1 + 1) := by omega
  have hS := of_stops 7 (by omega) (fun k => (k = w.heap.size + 1 ∨ k = w.heap.size + 1 + 1) ∨ k = W0.heap.size ∨ k = W0.heap.size + 1) B1 B2 A len cap 2 L hlenL hc hlc W0 (not_two (q := fun k => k = w.heap.size + 1 ∨ k = w.heap.size + 1 + 1) k1.lt n1) (not_two (q := fun k => k = w.heap.size + 1 ∨ k = w.heap.size + 1 + 1) k2.lt n2) k1.box.1 k2.box.1 (hE0.mono (fun i h => by have := hb0.size; show w.heap.size ≤ i; rcases h with (h | h) | h | h <;> omega))
  refine range_kept (by omega) (gf := 28) (lb := #[.pointer (some ⟨B1, 0, none⟩), .pointer (some ⟨B2, 0, none⟩)]) rfl (enters_of Try.func28 (by kernel_rfl) rfl) (fun k hk => by have := hh2.lt; omega) (fun _ _ => trivial) hS (fun _ => rfl)
    (fun pre W => FirstIs (fun y : {y : EvV // EvOk w y} => outB t y.1) none pre ∧ But (fun _ => False) W0 W)
    (fun c pre W => OutLeft w t (w.heap.size + 1) (w.heap.size + 1 + 1) c pre W ∧ But (fun k => k = w.heap.size + 1 ∨ k = w.heap.size + 1 + 1) W0 W)
    (OwnFrom.and (ownFrom_pure _ _) (ownFrom_but (Nat.le_refl _)))
    (fun c => OwnFrom.and (OutLeft.own hh1.lt hh2.lt c) (ownFrom_but (Nat.le_refl _)))
    ⟨rfl, But.refl _ _⟩ ?round ?done ?stop
  case round =>
    rintro l2 pre y Wr ⟨hp, hk⟩ hlt
    gi_wp2_with (((with_reducible refine st_ev Wr y.1 ?_ ?_); (exact ⟨rfl, rfl, rfl, rfl⟩)))
    refine ⟨(But.refl _ _).alloc _, ?_⟩
    rintro W2 hb2 hcells ⟨_, hk2⟩
    have hy := hcells _ _ rfl (Holds.new Wr y.1.obj)
    revert hy
    generalize Wr.heap.size = g
    intro hy
    clear hb2 hcells
    have a0 := (hh0.but hk2 (fun f => f)).alloc y.1.rec_.obj
    have t0 := cells_cell a0 0
    have t1 := cells_cell a0 1
    have t2 := cells_cell a0 2
    have r0 := rbox_cell (Holds.new W2 y.1.rec_.obj) 0 _ rfl
    have r2 := rbox_cell (Holds.new W2 y.1.rec_.obj) 2 _ rfl
    have r3 := rbox_cell (Holds.new W2 y.1.rec_.obj) 3 _ rfl
    have r4 := rbox_cell (Holds.new W2 y.1.rec_.obj) 4 _ rfl
    have r5 := rbox_cell (Holds.new W2 y.1.rec_.obj) 5 _ rfl
    have h1' := hh1.but hk2 (fun f => f)
    have h2' := hh2.but hk2 (fun f => f)
    have k1' := h1'.box
    have k2' := h2'.box
    have hne : w.heap.size + 1 < W2.heap.size := (hh1.but hk2 (fun f => f)).lt
    have hne2 : w.heap.size + 1 + 1 < W2.heap.size := (hh2.but hk2 (fun f => f)).lt
    have k3' := (show Holds (W2.setCell ⟨w.heap.size + 1, 0, none⟩ (.bool y.1.rec_.yes)) (w.heap.size + 1 + 1) _ from blkFar h2' (show w.heap.size + 1 + 1 ≠ w.heap.size + 1 by omega) _).box
    have HK := Lib.hid hk2
    have H1 := Lib.hid h1'
    have H2 := Lib.hid h2'
    have HY := Lib.hid hy
    have hpe : ∀ b, outB t y.1 = b → FirstIs (fun y : {y : EvV // EvOk w y} => outB t y.1) (if b then some y else none) (pre ++ [y]) := fun b hb => by
      unfold FirstIs; rw [List.find?_append, hp.out]; cases b <;> simp [List.find?, hb]
    have HP := Lib.hid hpe
    have hr5 := Lib.hid r5
    clear hpe hy hk2 hk hp a0 h1' h2'
    by_cases e0 : y.1.rec_.t.c = t.c
    · have f0 : (y.1.rec_.t.c == t.c) = true := by simpa using e0
      clear e0
      by_cases e1 : y.1.rec_.t.e = t.e
      · have f1 : (y.1.rec_.t.e == t.e) = true := by simpa using e1
        clear e1
        by_cases e2 : y.1.rec_.t.s = t.s
        · have f2 : (y.1.rec_.t.s == t.s) = true := by simpa using e2
          clear e2
          by_cases e3 : y.1.rec_.kind = 3
          · have f3 : (y.1.rec_.kind == 3) = true := by simpa using e3
            clear e3
            have hv : outB t y.1 = true := by unfold outB eqTB; simp [f0, f1, f2, f3]
            have HV := Lib.hid (HP.out _ hv)
            clear hv
            gi_wp2_with (first | ((with_reducible refine ld_rec g 6 y.1.rec_ (rec_range HY.out) ?_ ?_); (exact ⟨rfl, rfl⟩)) | ((with_reducible refine st_rec W2 y.1.rec_ ?_ ?_); (exact ⟨rfl, rfl, rfl, rfl⟩)))
            have b2 : But (fun k => k = w.heap.size + 1 ∨ k = w.heap.size + 1 + 1) W2 (((W2.setCell ⟨w.heap.size + 1, 0, none⟩ (.bool y.1.rec_.yes)).setCell ⟨w.heap.size + 1 + 1, 0, none⟩ (.bool true)).alloc y.1.rec_.obj) := (((But.refl (fun k => k = w.heap.size + 1 ∨ k = w.heap.size + 1 + 1) W2).setCell (a := ⟨w.heap.size + 1, 0, none⟩) (.inl (.inl rfl)) _).setCell (a := ⟨w.heap.size + 1 + 1, 0, none⟩) (.inl (.inr rfl)) _).alloc _
            exact ⟨b2, ⟨y, ⟨⟨rfl, HV.out⟩, Holds.alloc (blkFar (H1.out.set _) (show w.heap.size + 1 ≠ w.heap.size + 1 + 1 by omega) _) _⟩, ((show Holds _ _ _ from blkFar H2.out (show w.heap.size + 1 + 1 ≠ w.heap.size + 1 by omega) _).set _).alloc _⟩, (HK.out.mono (fun _ f => f.elim)).trans b2⟩
          · have f3 : (y.1.rec_.kind == 3) = false := by simpa using e3
            clear e3
            by_cases e4 : y.1.rec_.kind = 4
            · have f4 : (y.1.rec_.kind == 4) = true := by simpa using e4
              clear e4
              have hv : outB t y.1 = true := by unfold outB eqTB; simp [f0, f1, f2, f3, f4]
              have HV := Lib.hid (HP.out _ hv)
              clear hv
              gi_wp2_with (first | ((with_reducible refine ld_rec g 6 y.1.rec_ (rec_range HY.out) ?_ ?_); (exact ⟨rfl, rfl⟩)) | ((with_reducible refine st_rec W2 y.1.rec_ ?_ ?_); (exact ⟨rfl, rfl, rfl, rfl⟩)))
              have b2 : But (fun k => k = w.heap.size + 1 ∨ k = w.heap.size + 1 + 1) W2 (((W2.setCell ⟨w.heap.size + 1, 0, none⟩ (.bool y.1.rec_.yes)).setCell ⟨w.heap.size + 1 + 1, 0, none⟩ (.bool true)).alloc y.1.rec_.obj) := (((But.refl (fun k => k = w.heap.size + 1 ∨ k = w.heap.size + 1 + 1) W2).setCell (a := ⟨w.heap.size + 1, 0, none⟩) (.inl (.inl rfl)) _).setCell (a := ⟨w.heap.size + 1 + 1, 0, none⟩) (.inl (.inr rfl)) _).alloc _
              exact ⟨b2, ⟨y, ⟨⟨rfl, HV.out⟩, Holds.alloc (blkFar (H1.out.set _) (show w.heap.size + 1 ≠ w.heap.size + 1 + 1 by omega) _) _⟩, ((show Holds _ _ _ from blkFar H2.out (show w.heap.size + 1 + 1 ≠ w.heap.size + 1 by omega) _).set _).alloc _⟩, (HK.out.mono (fun _ f => f.elim)).trans b2⟩
            · have f4 : (y.1.rec_.kind == 4) = false := by simpa using e4
              clear e4
              have hv : outB t y.1 = false := by unfold outB eqTB; simp [f0, f1, f2, f3, f4]
              have HV := Lib.hid (HP.out _ hv)
              clear hv
              gi_wp2_with (first | ((with_reducible refine ld_rec g 6 y.1.rec_ (rec_range HY.out) ?_ ?_); (exact ⟨rfl, rfl⟩)) | ((with_reducible refine st_rec W2 y.1.rec_ ?_ ?_); (exact ⟨rfl, rfl, rfl, rfl⟩)))
              exact ⟨(But.refl _ _).alloc _, HV.out, HK.out.alloc _⟩
        · have f2 : (y.1.rec_.t.s == t.s) = false := by simpa using e2
          clear e2
          have hv : outB t y.1 = false := by unfold outB eqTB; simp [f0, f1, f2]
          have HV := Lib.hid (HP.out _ hv)
          clear hv
          gi_wp2_with (first | ((with_reducible refine ld_rec g 6 y.1.rec_ (rec_range HY.out) ?_ ?_); (exact ⟨rfl, rfl⟩)) | ((with_reducible refine st_rec W2 y.1.rec_ ?_ ?_); (exact ⟨rfl, rfl, rfl, rfl⟩)))
          exact ⟨(But.refl _ _).alloc _, HV.out, HK.out.alloc _⟩
      · have f1 : (y.1.rec_.t.e == t.e) = false := by simpa using e1
        clear e1
        have hv : outB t y.1 = false := by unfold outB eqTB; simp [f0, f1]
        have HV := Lib.hid (HP.out _ hv)
        clear hv
        gi_wp2_with (first | ((with_reducible refine ld_rec g 6 y.1.rec_ (rec_range HY.out) ?_ ?_); (exact ⟨rfl, rfl⟩)) | ((with_reducible refine st_rec W2 y.1.rec_ ?_ ?_); (exact ⟨rfl, rfl, rfl, rfl⟩)))
        exact ⟨(But.refl _ _).alloc _, HV.out, HK.out.alloc _⟩
    · have f0 : (y.1.rec_.t.c == t.c) = false := by simpa using e0
      clear e0
      have hv : outB t y.1 = false := by unfold outB eqTB; simp [f0]
      have HV := Lib.hid (HP.out _ hv)
      clear hv
      gi_wp2_with (first | ((with_reducible refine ld_rec g 6 y.1.rec_ (rec_range HY.out) ?_ ?_); (exact ⟨rfl, rfl⟩)) | ((with_reducible refine st_rec W2 y.1.rec_ ?_ ?_); (exact ⟨rfl, rfl, rfl, rfl⟩)))
      exact ⟨(But.refl _ _).alloc _, HV.out, HK.out.alloc _⟩
  case done =>
    rintro D xs W hD rfl ⟨hp, hk⟩ hK
    have h4 := hh1.but hk (fun f => f)
    have h5 := hh2.but hk (fun f => f)
    have k4 := h4.box
    have k5 := h5.box
    have k6 := (show Holds (W.setCell ⟨w.heap.size + 1, 0, none⟩ (.bool false)) (w.heap.size + 1 + 1) _ from blkFar h5 (show w.heap.size + 1 + 1 ≠ w.heap.size + 1 by omega) _).box
    have HW := Lib.hid (hb0.trans hk)
    have hq := hfind.out.symm.trans (congrArg _ hp.out)
    have HO := Lib.hid (show outcomeOf l t = none from hq)
    have HK := Lib.hid hK
    have H4 := Lib.hid h4
    have H5 := Lib.hid h5
    clear hp hK h4 h5 hk hq
    gi_wp2
    have hlt : w.heap.size + 1 + 1 < D := by have := hh2.lt; omega
    refine ⟨by simp, .inl ⟨_, _, rfl, run_takeDeferred (blkFar (blkFar HK.out (show D ≠ w.heap.size + 1 by omega) _) (show D ≠ w.heap.size + 1 + 1 by omega) _), ?_⟩⟩
    rw [show outCommit l t = false from by unfold outCommit; rw [HO.out], HO.out]
    exact ⟨_, results_cell2 rfl _ _ (w.heap.size + 1) (w.heap.size + 1 + 1) _ _ _ _ rfl ((cell_putObj _ 0 (by omega)).trans (show Holds _ _ _ from blkFar (H4.out.set _) (show w.heap.size + 1 ≠ w.heap.size + 1 + 1 by omega) _).box.1) Try.underlying4 rfl rfl ((cell_putObj _ 0 (by omega)).trans ((show Holds _ _ _ from blkFar H5.out (show w.heap.size + 1 + 1 ≠ w.heap.size + 1 by omega) _).set _).box.1) Try.underlying4 rfl, rfl, ((HW.out.setCell (a := ⟨w.heap.size + 1, 0, none⟩) (.inr (Nat.le_succ _)) _).setCell (a := ⟨w.heap.size + 1 + 1, 0, none⟩) (.inr (by show w.heap.size ≤ w.heap.size + 1 + 1; omega)) _).putObj _ (by omega)⟩
  case stop =>
    rintro D c pre W hD hpre ⟨⟨y, ⟨⟨rfl, hp⟩, hh⟩, hh'⟩, hk⟩ hK
    have hW : But (fun _ => False) w W := hb0.none hk (fun k hk' => by omega)
    have hq : outcomeOf l t = some y.1 := by
      unfold outcomeOf
      rw [← hfind.out]
      obtain ⟨r, hr⟩ := hpre
      rw [← hr, List.find?_append, hp.out]; rfl
    have hlt : w.heap.size + 1 + 1 < D := by have := hh2.lt; omega
    have HO := Lib.hid hq
    clear hq hp
    gi_wp2
    refine ⟨by simp, .inl ⟨_, _, rfl, run_takeDeferred hK, ?_⟩⟩
    rw [show outCommit l t = y.1.rec_.yes from by unfold outCommit; rw [HO.out], HO.out]
    exact ⟨_, results_cell2 rfl _ _ (w.heap.size + 1) (w.heap.size + 1 + 1) _ _ _ _ rfl ((cell_putObj _ 0 (by omega)).trans hh.box.1) Try.underlying4 rfl rfl ((cell_putObj _ 0 (by omega)).trans hh'.box.1) Try.underlying4 rfl, rfl, hW.putObj _ (by omega)⟩
end Go.Proofs.Ytmaihiajgjijhaa
