/- What may be wrong with a beginning. -/
import Derived.Test.YtmaihiajgjijhaaSafe14
import Derived.BigRegionIn
import Derived.Deep.RegionHeld3
namespace Go.Proofs.Ytmaihiajgjijhaa
open Go.RowKit Go.Shelf
set_option linter.unusedVariables false
set_option linter.unusedSimpArgs false
attribute [local go_sem] Oper.semAt_some ev_obj

def upStep (x : EvV) (s : Bool × Int) (y : EvV) : Bool × Int := if (y.org == x.org) = true then (true, y.t.e) else s
def upOf (l : List EvV) (x : EvV) : Bool × Int := (l.filter (fun y => y.kind == 4)).foldl (upStep x) (false, 0)
def beginsE (l : List EvV) (x : EvV) : Int := if x.kind = 1 then (if (upOf l x).1 = true ∧ x.t.c = x.org ∧ x.t.e = (upOf l x).2 ∧ x.t ∉ begunL l then 0 else 340) else 0
/-- The two boxes hold what was found so far. -/
def UpAt {p : EvV → Prop} (x : EvV) (b1 b2 : Nat) (pre : List (Subtype p)) (W : World) : Prop := ∃ u e, (u, e) = (pre.map Subtype.val).foldl (upStep x) (false, 0) ∧ Holds W b1 (.cells #[.bool u] 4) ∧ Holds W b2 (.cells #[.int .i64 e] 3)
theorem UpAt.own {p : EvV → Prop} {x : EvV} {b1 b2 B : Nat} (h1 : b1 < B) (h2 : b2 < B) : OwnFrom B (UpAt (p := p) x b1 b2) := fun s X Y row hs hg hr => by
  obtain ⟨u, e, hu, k1, k2⟩ := hs
  exact ⟨u, e, hu, (ownFrom_lies (fun _ : Unit => True) _ (fun _ => _) h1 () X Y row ⟨trivial, k1⟩ hg hr).2, (ownFrom_lies (fun _ : Unit => True) _ (fun _ => _) h2 () X Y row ⟨trivial, k2⟩ hg hr).2⟩

set_option maxRecDepth 100000 in
set_option maxHeartbeats 2000000 in
theorem begins_any {w : World} (bad : Int) {A : Option Addr} {len cap : Nat} {l : List EvV} (hl : HistAt w A l) (hlen : l.length = len) (hlc : len ≤ cap) (hc : cap ≤ 9223372036854775807) (hshort : len ≤ 1000) (x : EvV) :
    Calls Try.prog 13 #[.int .u8 bad, .slice A len cap, x.val] w fun e w' => e = .returned (.int .i64 (beginsE l x)) ∧ But (fun _ => False) w w' := by
  have hup : (((evL w l hl.2).filter (fun y => y.1.kind == 4)).map Subtype.val).foldl (upStep x) (false, 0) = upOf l x := by
    unfold upOf
    conv => rhs; rw [← evL_val w l hl.2]
    rw [List.filter_map]; rfl
  have HUP := Lib.hid hup
  have hlenL := evL_length w l hl.2
  have hE := hl.evs (q := fun k => w.heap.size ≤ k) (fun _ h => h)
  rw [← evL_val w l hl.2] at hE
  generalize evL w l hl.2 = L at HUP hlenL hE
  rw [hlen] at hlenL
  have CB : ∀ w2 : World, But (fun _ => False) w w2 → Calls Try.prog 11 #[.slice A len cap] w2 (BegunIs w2 (begunL l)) := fun w2 b => Begun_any (hl.but b) hlen hlc hc hshort
  have CBI := Lib.hid CB
  clear hl hlen hup CB
  rw [ev_val]
  have hh0 := Holds.n30 w x.obj (.cells #[.bool false] 4) (.cells #[.int .i64 0] 3)
  have hh1 := Holds.n31 w x.obj (.cells #[.bool false] 4) (.cells #[.int .i64 0] 3)
  have hh2 := Holds.n32 w x.obj (.cells #[.bool false] 4) (.cells #[.int .i64 0] 3)
  have hbb : But (fun _ => False) w (((w.alloc x.obj).alloc (.cells #[.bool false] 4)).alloc (.cells #[.int .i64 0] 3)) := (((But.refl _ w).alloc _).alloc _).alloc _
  have x0 := obj_cell (Holds.new w x.obj) 0 _ rfl
  have HB0 := Lib.hid ((But.refl (fun _ => False) w).alloc x.obj)
  by_cases h1 : x.kind = 1
  · refine (callsIn_wide (n := 8)).1 ?_
    refine callsIn_of_wp_marks Try.func13 rfl trivial ?_ rfl
    simp only [Try.ntmps13, List.size_toArray, List.length_cons, List.length_nil, Nat.reduceAdd, Nat.reduceSub, Array.replicate_succ, Array.replicate_zero, List.push_toArray, List.append_toArray, List.nil_append, List.cons_append]
    gi_wp2_with (refine ⟨trivial, ?_⟩; gi_at_call 19; refine (callsIn_wide.2 (of_any' _ _ _ _ _)).mono ?_; rintro e W0 ⟨B1, B2, rfl, b0, g1, g2, k1, k2⟩)
    replace hh0 := hh0.but b0 (fun f => f)
    replace hh1 := hh1.but b0 (fun f => f)
    replace hh2 := hh2.but b0 (fun f => f)
    have hb0 := hbb.trans b0
    clear b0 hbb x0
    simp only [World.size_alloc] at g1 g2
    have hE0 := hE.but hb0 (fun _ f => f.elim)
    have n1 : ¬ (B1 = w.heap.size + 1 ∨ B1 = w.heap.size + 1 + 1) := by omega
    have n2 : ¬ (B2 = w.heap.size + 1 ∨ B2 = w.heap.size + 1 + 1) := by omega
    have hS := of_stops 7 (by omega) (fun k => (k = w.heap.size + 1 ∨ k = w.heap.size + 1 + 1) ∨ k = W0.heap.size ∨ k = W0.heap.size + 1) B1 B2 A len cap 4 L hlenL hc hlc W0 (not_two (q := fun k => k = w.heap.size + 1 ∨ k = w.heap.size + 1 + 1) k1.lt n1) (not_two (q := fun k => k = w.heap.size + 1 ∨ k = w.heap.size + 1 + 1) k2.lt n2) k1.box.1 k2.box.1 (hE0.mono (fun i h => by have := hb0.size; show w.heap.size ≤ i; rcases h with (h | h) | h | h <;> omega))
    refine range_kept (by omega) (gf := 28) (lb := #[.pointer (some ⟨B1, 0, none⟩), .pointer (some ⟨B2, 0, none⟩)]) rfl (enters_of Try.func28 (by kernel_rfl) rfl) (fun k hk => by have := hh2.lt; omega) (fun _ _ => trivial) hS (fun _ => rfl)
      (fun pre W => UpAt x (w.heap.size + 1) (w.heap.size + 1 + 1) pre W ∧ But (fun k => k = w.heap.size + 1 ∨ k = w.heap.size + 1 + 1) W0 W)
      (fun c pre W => False)
      (OwnFrom.and (UpAt.own hh1.lt hh2.lt) (ownFrom_but (Nat.le_refl _))) (fun c s X Y row hs _ _ => hs)
      ⟨⟨_, _, rfl, hh1, hh2⟩, But.refl _ _⟩ ?round ?done ?stop
    case stop =>
      rintro D c pre W hD hpre hf hK
      exact hf.elim
    case round =>
      rintro l2 pre y Wr ⟨hp, hk⟩ hlt
      gi_wp2_with (((with_reducible refine st_ev Wr y.1 ?_ ?_); (exact ⟨rfl, rfl, rfl, rfl⟩)))
      refine ⟨(But.refl _ _).alloc _, ?_⟩
      rintro W2 hb2 hcells ⟨⟨u, ep, hu, hb1, hbe⟩, hk2⟩
      have hy := hcells _ _ rfl (Holds.new Wr y.1.obj)
      have hgl : w.heap.size + 1 + 1 < Wr.heap.size := by have := hh2.lt; have := hlt.2; omega
      revert hy hgl
      generalize Wr.heap.size = g
      intro hy hgl
      clear hb2 hcells
      have a0 := hh0.but hk2 (by omega)
      have x2 := obj_cell a0 2 _ rfl
      have c2 := obj_cell hy 2 _ rfl
      have c4 := obj_cell hy 4 _ rfl
      have kb1 := hb1.box
      have kb2 := hbe.box
      have kb3 := (hbe.set_far (w.heap.size + 1) (by omega) (.bool true)).box
      have c4' := obj_cell (hy.set_far (w.heap.size + 1) (by omega) (.bool true)) 4 _ rfl
      have hup2 : ∀ s, (y.1.org == x.org) = true → s = (true, y.1.t.e) → s = ((pre ++ [y]).map Subtype.val).foldl (upStep x) (false, 0) := fun s h hs => by rw [hs, List.map_append, List.foldl_append]; simp [upStep, h]
      have hup3 : (y.1.org == x.org) = false → (u, ep) = ((pre ++ [y]).map Subtype.val).foldl (upStep x) (false, 0) := fun h => by rw [List.map_append, List.foldl_append, ← hu]; simp [upStep, h]
      have HU2 := Lib.hid hup2
      have HU3 := Lib.hid hup3
      have HK := Lib.hid hk2
      have H1 := Lib.hid hb1
      have H2 := Lib.hid hbe
      clear hup2 hup3 hu hk2 hk hp a0 hb1 hbe hy
      by_cases e0 : y.1.org = x.org
      · have f0 : (y.1.org == x.org) = true := by simpa using e0
        have HV := Lib.hid (HU2.out _ f0 rfl)
        clear e0
        have b2 := Lib.hid (show But (fun k => k = w.heap.size + 1 ∨ k = w.heap.size + 1 + 1) W2 (((W2.setCell ⟨w.heap.size + 1, 0, none⟩ (.bool true)).setCell ⟨w.heap.size + 1 + 1, 0, none⟩ (.int .i64 y.1.t.e)).drew) from (((But.refl (fun k => k = w.heap.size + 1 ∨ k = w.heap.size + 1 + 1) W2).setCell (a := ⟨w.heap.size + 1, 0, none⟩) (.inl (.inl rfl)) _).setCell (a := ⟨w.heap.size + 1 + 1, 0, none⟩) (.inl (.inr rfl)) _).drew)
        have r1 := Lib.hid (show Holds (((W2.setCell ⟨w.heap.size + 1, 0, none⟩ (.bool true)).setCell ⟨w.heap.size + 1 + 1, 0, none⟩ (.int .i64 y.1.t.e)).drew) (w.heap.size + 1) (.cells #[.bool true] 4) from (H1.out.set _).set_far (w.heap.size + 1 + 1) (by omega) _)
        have r2 := Lib.hid (show Holds (((W2.setCell ⟨w.heap.size + 1, 0, none⟩ (.bool true)).setCell ⟨w.heap.size + 1 + 1, 0, none⟩ (.int .i64 y.1.t.e)).drew) (w.heap.size + 1 + 1) (.cells #[.int .i64 y.1.t.e] 3) from (H2.out.set_far (w.heap.size + 1) (by omega) _).set _)
        gi_wp2
        gi_region
        all_goals exact ⟨b2.out, ⟨_, _, HV.out, r1.out, r2.out⟩, HK.out.trans b2.out⟩
      · have f0 : (y.1.org == x.org) = false := by simpa using e0
        have HV := Lib.hid (HU3.out f0)
        clear e0
        gi_wp2
        exact ⟨But.refl _ _, ⟨_, _, HV.out, H1.out, H2.out⟩, HK.out⟩
    case done =>
      rintro D xs W hD rfl ⟨⟨u, ep, hu, hb1, hbe⟩, hk⟩ hK
      have hup : upOf l x = (u, ep) := by rw [← HUP.out]; exact hu.symm
      have a0 := hh0.but hk (by omega)
      have x2 := obj_cell a0 2 _ rfl
      have x3 := obj_cell a0 3 _ rfl
      have x4 := obj_cell a0 4 _ rfl
      have x5 := obj_cell a0 5 _ rfl
      have kb1 := hb1.box.1
      have kb2 := hbe.box.1
      have hW := hb0.none hk (fun k e => by omega)
      have HUPP := Lib.hid hup
      have HW := Lib.hid hW
      have HK := Lib.hid hK
      have lD : D < W.heap.size := blkLt hK
      have lw : w.heap.size < D := by have := hb0.size; have := hh0.lt; omega
      clear hup hb1 hbe hk hK hu a0 hW
      have hend : ∀ (W3 : World) (v : Int) (tmps : Array Value), But (fun _ => False) W W3 → beginsE l x = v → tmps.getD 6 undef = .int .i64 v → LeavesInM Fence.wide 8 Try.prog Try.f13 tmps (fun e w' => e = .returned (.int .i64 (beginsE l x)) ∧ But (fun _ => False) w w') [{ target := .collected D, args := #[] }] .returning W3 := fun W3 v tmps hb hv ht => by
        refine ⟨by simp, .inl ⟨_, _, rfl, run_takeDeferred (hb.blk HK.out (fun f => f)), ?_⟩⟩
        exact ⟨_, results_tmp rfl _ _ _, by rw [hv, ht], (HW.out.trans hb).putObj _ (by omega)⟩
      have HEND := Lib.hid hend
      clear hend
      cases u with
      | false =>
        have hv := Lib.hid (show beginsE l x = 340 from by unfold beginsE; rw [if_pos h1, HUPP.out]; simp)
        gi_wp2
        refine wpIn_wide.2 ?_
        go_region
        all_goals (gi_wp2; exact HEND.out _ _ _ ((But.refl _ W).drew) hv.out rfl)
      | true =>
        by_cases e1 : x.t.c = x.org
        · have f1 : (x.t.c == x.org) = true := by simpa using e1
          have g1 : (x.t.c != x.org) = false := by simp [e1]
          have E1 := Lib.hid e1
          clear e1
          by_cases e2 : x.t.e = ep
          · have f2 : (x.t.e == ep) = true := by simpa using e2
            have g2 : (x.t.e != ep) = false := by simp [e2]
            have E2 := Lib.hid e2
            clear e2
            by_cases e3 : x.t ∈ begunL l
            · have hv := Lib.hid (show beginsE l x = 340 from by unfold beginsE; rw [if_pos h1, HUPP.out]; simp [e3])
              have CC : ∀ (w2 : World) (A2 : Option Addr) (n2 c2 : Nat), TxnsAt w2 A2 n2 c2 (begunL l) → Calls Try.prog 22 #[.slice A2 n2 c2, x.t.val] w2 fun e w' => e = .returned (.bool true) ∧ But (fun _ => False) w2 w' := fun w2 A2 n2 c2 h => by
                have := Contains_txn x.t h
                rw [show decide (x.t ∈ begunL l) = true from by simp [e3]] at this
                exact this
              have CCI := Lib.hid CC
              clear CC e3
              gi_wp2
              refine wpIn_wide.2 ?_
              go_region_held3 (fun w' => w'.cell? ⟨w.heap.size, 3, none⟩ = some (.int .i64 x.t.c) ∧ w'.cell? ⟨w.heap.size, 4, none⟩ = some (.int .i64 x.t.e) ∧ w'.cell? ⟨w.heap.size, 5, none⟩ = some (.int .i64 x.t.s) ∧ w'.cell? ⟨w.heap.size, 2, none⟩ = some (.int .i64 x.org) ∧ w'.cell? ⟨w.heap.size + 1, 0, none⟩ = some (.bool true) ∧ w'.cell? ⟨w.heap.size + 1 + 1, 0, none⟩ = some (.int .i64 ep)) (first | (refine ⟨?_, ?_, ?_, ?_, ?_, ?_⟩ <;> assumption)) (first
                | (go_at_call 11; refine (CBI.out W.drew HW.out.drew).mono ?_; rintro e w2 ⟨A2, n2, c2, rfl, hT, b2⟩; have y3 := But.cell b2 x3 (fun f => f); have y4 := But.cell b2 x4 (fun f => f); have y5 := But.cell b2 x5 (fun f => f); have y2 := But.cell b2 x2 (fun f => f); have yb1 := But.cell b2 kb1 (fun f => f); have yb2 := But.cell b2 kb2 (fun f => f))
                | (go_at_call 22; refine (CCI.out _ _ _ _ hT).mono ?_; rintro e w3 ⟨rfl, b3⟩; have z3 := But.cell b3 y3 (fun f => f); have z4 := But.cell b3 y4 (fun f => f); have z5 := But.cell b3 y5 (fun f => f); have z2 := But.cell b3 y2 (fun f => f); have zb1 := But.cell b3 yb1 (fun f => f); have zb2 := But.cell b3 yb2 (fun f => f)))
              all_goals (gi_wp2; exact HEND.out _ _ _ ((((But.refl (fun _ => False) W).drew).trans b2).trans b3) hv.out rfl)
            · have hv := Lib.hid (show beginsE l x = 0 from by unfold beginsE; rw [if_pos h1, HUPP.out]; simp [e3, E1.out, E2.out])
              have CC : ∀ (w2 : World) (A2 : Option Addr) (n2 c2 : Nat), TxnsAt w2 A2 n2 c2 (begunL l) → Calls Try.prog 22 #[.slice A2 n2 c2, x.t.val] w2 fun e w' => e = .returned (.bool false) ∧ But (fun _ => False) w2 w' := fun w2 A2 n2 c2 h => by
                have := Contains_txn x.t h
                rw [show decide (x.t ∈ begunL l) = false from by simp [e3]] at this
                exact this
              have CCI := Lib.hid CC
              clear CC e3
              gi_wp2
              refine wpIn_wide.2 ?_
              go_region_held3 (fun w' => w'.cell? ⟨w.heap.size, 3, none⟩ = some (.int .i64 x.t.c) ∧ w'.cell? ⟨w.heap.size, 4, none⟩ = some (.int .i64 x.t.e) ∧ w'.cell? ⟨w.heap.size, 5, none⟩ = some (.int .i64 x.t.s) ∧ w'.cell? ⟨w.heap.size, 2, none⟩ = some (.int .i64 x.org) ∧ w'.cell? ⟨w.heap.size + 1, 0, none⟩ = some (.bool true) ∧ w'.cell? ⟨w.heap.size + 1 + 1, 0, none⟩ = some (.int .i64 ep)) (first | (refine ⟨?_, ?_, ?_, ?_, ?_, ?_⟩ <;> assumption)) (first
                | (go_at_call 11; refine (CBI.out W.drew HW.out.drew).mono ?_; rintro e w2 ⟨A2, n2, c2, rfl, hT, b2⟩; have y3 := But.cell b2 x3 (fun f => f); have y4 := But.cell b2 x4 (fun f => f); have y5 := But.cell b2 x5 (fun f => f); have y2 := But.cell b2 x2 (fun f => f); have yb1 := But.cell b2 kb1 (fun f => f); have yb2 := But.cell b2 kb2 (fun f => f))
                | (go_at_call 22; refine (CCI.out _ _ _ _ hT).mono ?_; rintro e w3 ⟨rfl, b3⟩; have z3 := But.cell b3 y3 (fun f => f); have z4 := But.cell b3 y4 (fun f => f); have z5 := But.cell b3 y5 (fun f => f); have z2 := But.cell b3 y2 (fun f => f); have zb1 := But.cell b3 yb1 (fun f => f); have zb2 := But.cell b3 yb2 (fun f => f)))
              all_goals (gi_wp2; exact HEND.out _ _ _ ((((But.refl (fun _ => False) W).drew).trans b2).trans b3) hv.out rfl)
          · have f2 : (x.t.e == ep) = false := by simpa using e2
            have g2 : (x.t.e != ep) = true := by simp [e2]
            have hv := Lib.hid (show beginsE l x = 340 from by unfold beginsE; rw [if_pos h1, HUPP.out]; simp [e2])
            clear e2
            gi_wp2
            refine wpIn_wide.2 ?_
            go_region
            all_goals (gi_wp2; exact HEND.out _ _ _ ((But.refl _ W).drew) hv.out rfl)
        · have f1 : (x.t.c == x.org) = false := by simpa using e1
          have g1 : (x.t.c != x.org) = true := by simp [e1]
          have hv := Lib.hid (show beginsE l x = 340 from by unfold beginsE; rw [if_pos h1, HUPP.out]; simp [e1])
          clear e1
          gi_wp2
          refine wpIn_wide.2 ?_
          go_region
          all_goals (gi_wp2; exact HEND.out _ _ _ ((But.refl _ W).drew) hv.out rfl)
  · have hv := Lib.hid (show beginsE l x = 0 from by unfold beginsE; rw [if_neg h1])
    clear hbb hh0 hh1 hh2
    go_enter Try.func13, Try.ntmps13
    go_wp2
    go_ret
    exact ⟨by rw [hv.out]; rfl, HB0.out⟩
end Go.Proofs.Ytmaihiajgjijhaa
