/- What may be wrong with an epoch. -/
import Derived.Test.YtmaihiajgjijhaaSafe7
namespace Go.Proofs.Ytmaihiajgjijhaa
open Go.RowKit Go.Shelf
set_option linter.unusedVariables false
set_option linter.unusedSimpArgs false
attribute [local go_sem] Oper.semAt_some ev_obj

def upB (x y : EvV) : Bool := (y.org == x.org) && decide (x.t.e ≤ y.t.e)
def upsE (l : List EvV) (x : EvV) : Int := if x.kind = 4 then (if (l.filter (fun y => y.kind == 4)).any (upB x) then 341 else 0) else 0

set_option maxRecDepth 100000 in
set_option maxHeartbeats 4000000 in
theorem ups_any {w : World} (bad : Int) {A : Option Addr} {len cap : Nat} {l : List EvV} (hl : HistAt w A l) (hlen : l.length = len) (hlc : len ≤ cap) (hc : cap ≤ 9223372036854775807) (x : EvV) :
    Calls Try.prog 14 #[.int .u8 bad, .slice A len cap, x.val] w fun e w' => e = .returned (.int .i64 (upsE l x)) ∧ But (fun _ => False) w w' := by
  have hany := Lib.hid (evL_any w l hl.2 (fun y => y.kind == 4) (upB x))
  have hlenL := evL_length w l hl.2
  have hE := hl.evs (q := fun k => w.heap.size ≤ k) (fun _ h => h)
  rw [← evL_val w l hl.2] at hE
  generalize evL w l hl.2 = L at hany hlenL hE
  rw [hlen] at hlenL
  clear hl hlen
  rw [ev_val]
  have hh0 := Holds.n20 w x.obj (.cells #[.int .i64 0] 27)
  have hh1 := Holds.n21 w x.obj (.cells #[.int .i64 0] 27)
  have hbb : But (fun _ => False) w ((w.alloc x.obj).alloc (.cells #[.int .i64 0] 27)) := ((But.refl _ w).alloc _).alloc _
  have x0 := obj_cell hh0 0 _ rfl
  have k0 := hh1.box
  have HB0 := Lib.hid hbb
  have HH1 := Lib.hid hh1
  by_cases hk4 : x.kind = 4
  · have hv : upsE l x = (if (l.filter (fun y => y.kind == 4)).any (upB x) then 341 else 0) := by unfold upsE; rw [if_pos hk4]
    have HU := Lib.hid hv
    clear hv
    refine (callsIn_wide (n := 8)).1 ?_
    refine callsIn_of_wp_marks Try.func14 rfl trivial ?_ rfl
    simp only [Try.ntmps14, List.size_toArray, List.length_cons, List.length_nil, Nat.reduceAdd, Nat.reduceSub, Array.replicate_succ, Array.replicate_zero, List.push_toArray, List.append_toArray, List.nil_append, List.cons_append]
    gi_wp2_with (refine ⟨trivial, ?_⟩; gi_at_call 19; refine (callsIn_wide.2 (of_any' _ _ _ _ _)).mono ?_; rintro e W0 ⟨B1, B2, rfl, b0, g1, g2, k1, k2⟩)
    replace hh0 := hh0.but b0 (fun f => f)
    replace hh1 := hh1.but b0 (fun f => f)
    have hb0 := hbb.trans b0
    clear b0 hbb x0 k0
    simp only [World.size_alloc] at g1 g2
    have hE0 := hE.but hb0 (fun _ f => f.elim)
    have hS := of_stops 7 (by omega) (fun k => k = w.heap.size + 1 ∨ k = W0.heap.size ∨ k = W0.heap.size + 1) B1 B2 A len cap 4 L hlenL hc hlc W0 (not_two (q := fun k => k = w.heap.size + 1) k1.lt (by omega)) (not_two (q := fun k => k = w.heap.size + 1) k2.lt (by omega)) k1.box.1 k2.box.1 (hE0.mono (fun i h => by have := hb0.size; show w.heap.size ≤ i; rcases h with h | h | h <;> omega))
    refine range_kept (by omega) (gf := 28) (lb := #[.pointer (some ⟨B1, 0, none⟩), .pointer (some ⟨B2, 0, none⟩)]) rfl (enters_of Try.func28 (by kernel_rfl) rfl) (fun k hk => by have := hh1.lt; omega) (fun _ _ => trivial) hS (fun _ => rfl)
      (fun pre W => AnyIs (fun y : {y : EvV // EvOk w y} => upB x y.1) false pre ∧ But (fun _ => False) W0 W)
      (fun c pre W => ((c = .ret ∧ AnyIs (fun y : {y : EvV // EvOk w y} => upB x y.1) true pre) ∧ Holds W (w.heap.size + 1) (.cells #[.int .i64 341] 27)) ∧ But (fun k => k = w.heap.size + 1) W0 W)
      (OwnFrom.and (ownFrom_pure _ _) (ownFrom_but (Nat.le_refl _))) (fun c => OwnFrom.and (ownFrom_lies _ _ _ hh1.lt) (ownFrom_but (Nat.le_refl _)))
      ⟨rfl, But.refl _ _⟩ ?round ?done ?stop
    case round =>
      rintro l2 pre y Wr ⟨hp, hk⟩ hlt
      gi_wp2_with (((with_reducible refine st_ev Wr y.1 ?_ ?_); (exact ⟨rfl, rfl, rfl, rfl⟩)))
      refine ⟨(But.refl _ _).alloc _, ?_⟩
      rintro W2 hb2 hcells ⟨_, hk2⟩
      have hy := hcells _ _ rfl (Holds.new Wr y.1.obj)
      revert hy
      generalize Wr.heap.size = g
      intro hy
      clear hb2 hcells
      have hW := hb0.trans hk2
      have a0 := hh0.but hk2 (fun f => f)
      have x2 := obj_cell a0 2 _ rfl
      have x4 := obj_cell a0 4 _ rfl
      have c2 := obj_cell hy 2 _ rfl
      have c4 := obj_cell hy 4 _ rfl
      have h1' := hh1.but hk2 (fun f => f)
      have k0 := h1'.box
      have HK := Lib.hid hk2
      have H1 := Lib.hid h1'
      have hpe : (pre ++ [y]).any (fun y => upB x y.1) = upB x y.1 := by rw [List.any_append, hp.out]; simp
      have HP := Lib.hid hpe
      clear hpe hy hk2 hk hp a0 h1'
      by_cases e0 : y.1.org = x.org
      · have f0 : (y.1.org == x.org) = true := by simpa using e0
        by_cases e1 : x.t.e ≤ y.1.t.e
        · have hv : upB x y.1 = true := by unfold upB; rw [f0]; simp [e1]
          have HV := Lib.hid hv
          clear hv e0
          gi_wp2
          have b2 : But (fun k => k = w.heap.size + 1) W2 (W2.setCell ⟨w.heap.size + 1, 0, none⟩ (.int .i64 341)) := (But.refl (fun k => k = w.heap.size + 1) _).setCell (a := ⟨w.heap.size + 1, 0, none⟩) (.inl rfl) _
          exact ⟨b2, ⟨⟨rfl, HP.out.trans HV.out⟩, H1.out.set _⟩, (HK.out.mono (fun _ f => f.elim)).trans b2⟩
        · have hv : upB x y.1 = false := by unfold upB; rw [f0]; simp; omega
          have HV := Lib.hid hv
          clear hv e0
          gi_wp2
          exact ⟨But.refl _ _, HP.out.trans HV.out, HK.out⟩
      · have f0 : (y.1.org == x.org) = false := by simpa using e0
        have hv : upB x y.1 = false := by unfold upB; rw [f0]; simp
        have HV := Lib.hid hv
        clear hv e0
        gi_wp2
        exact ⟨But.refl _ _, HP.out.trans HV.out, HK.out⟩
    case done =>
      rintro D xs W hD rfl ⟨hp, hk⟩ hK
      have h4 := hh1.but hk (fun f => f)
      have k4 := h4.box
      have HW := Lib.hid (hb0.trans hk)
      have HP := Lib.hid hp
      have HK := Lib.hid hK
      have H4 := Lib.hid h4
      clear hp hK h4 hk
      gi_wp2
      have hlt : w.heap.size + 1 < D := by have := hh1.lt; omega
      refine ⟨by simp, .inl ⟨_, _, rfl, run_takeDeferred (blkFar HK.out (show D ≠ w.heap.size + 1 by omega) _), ?_⟩⟩
      have hq := hany.out.symm.trans HP.out.out
      rw [show upsE l x = 0 from by rw [HU.out, hq]; rfl]
      exact ⟨_, results_cell1 rfl _ _ (w.heap.size + 1) _ _ rfl ((cell_putObj _ 0 (by omega)).trans (H4.out.set _).box.1) Try.underlying27 rfl, rfl, (HW.out.setCell (a := ⟨w.heap.size + 1, 0, none⟩) (.inr (Nat.le_succ _)) _).putObj _ (by omega)⟩
    case stop =>
      rintro D c pre W hD hpre ⟨⟨⟨rfl, hp⟩, hh⟩, hk⟩ hK
      have hW : But (fun _ => False) w W := hb0.none hk (fun k hk' => by omega)
      have hq : (l.filter (fun y => y.kind == 4)).any (upB x) = true := by
        rw [← hany.out]
        obtain ⟨y, hy, hs⟩ := List.any_eq_true.1 hp.out
        exact List.any_eq_true.2 ⟨y, hpre.subset hy, hs⟩
      have hlt : w.heap.size + 1 < D := by have := hh1.lt; omega
      gi_wp2
      refine ⟨by simp, .inl ⟨_, _, rfl, run_takeDeferred hK, ?_⟩⟩
      rw [show upsE l x = 341 from by rw [HU.out, hq]; rfl]
      exact ⟨_, results_cell1 rfl _ _ (w.heap.size + 1) _ _ rfl ((cell_putObj _ 0 (by omega)).trans hh.box.1) Try.underlying27 rfl, rfl, hW.putObj _ (by omega)⟩
  · have hv : upsE l x = 0 := by unfold upsE; rw [if_neg hk4]
    have HU := Lib.hid hv
    clear hbb hv
    go_enter Try.func14, Try.ntmps14
    go_wp2
    refine bodyPost_ret (results_cell1 rfl _ _ (w.heap.size + 1) _ _ rfl HH1.out.box.1 Try.underlying27 rfl) rfl ?_
    exact ⟨by rw [HU.out], HB0.out⟩
end Go.Proofs.Ytmaihiajgjijhaa
