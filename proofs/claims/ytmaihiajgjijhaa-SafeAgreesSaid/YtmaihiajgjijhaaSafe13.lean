/- What may be wrong with what is learnt. -/
import Derived.Test.YtmaihiajgjijhaaSafe12
import Derived.Deep.RegionWith
import Derived.Deep.RegionHeld3
import Derived.WalkMore
import Derived.Deep.DeepCutAuto
namespace Go.Proofs.Ytmaihiajgjijhaa
open Go.RowKit Go.Shelf
set_option linter.unusedVariables false
set_option linter.unusedSimpArgs false
attribute [local go_sem] Oper.semAt_some ev_obj

def knownB (x y : EvV) : Bool := (y.org == x.rec_.t.c) && (y.rec_.yes == x.rec_.yes)
def saidB (x y : EvV) : Bool := (y.org == x.org) && y.rec_.yes
def learnsE (bad : Int) (l : List EvV) (x : EvV) : Int :=
  if x.kind = 2 ∧ x.rec_.kind = 4 then
    (if (!(honestB bad x.rec_.t.c) || (logsOf l 3 x.rec_.t).any (knownB x)) = false then 343 else if (!x.rec_.yes || (logsOf l 2 x.rec_.t).any (saidB x)) = false then 344 else 0)
  else 0

/-- Behind the declarations: the transaction's box, the verdict's box. -/
def LearnsAt (w : World) (x : EvV) (b : Bool) (s7 s8 : Value) (wx : World) : Prop := ∃ p q : Nat, s7 = .pointer (some ⟨p, 0, none⟩) ∧ s8 = .pointer (some ⟨q, 0, none⟩) ∧ But (fun _ => False) w wx ∧ w.heap.size ≤ p ∧ w.heap.size < q ∧ p ≠ q ∧ Holds wx w.heap.size x.obj ∧ Holds wx p x.rec_.t.obj ∧ Holds wx q (.cells #[.bool b] 4)
theorem LearnsAt.one (w : World) (x : EvV) (b : Bool) : LearnsAt w x b (.pointer (some ⟨w.heap.size + 1, 0, none⟩)) (.pointer (some ⟨w.heap.size + 1 + 1, 0, none⟩)) (((w.alloc x.obj).alloc x.rec_.t.obj).alloc (.cells #[.bool b] 4)).drew :=
  ⟨_, _, rfl, rfl, ((((But.refl _ w).alloc _).alloc _).alloc _).drew, Nat.le_succ _, by omega, by omega, Holds.n30 w _ _ _, Holds.n31 w _ _ _, Holds.n32 w _ _ _⟩
theorem LearnsAt.two (w : World) (x : EvV) (b : Bool) : LearnsAt w x b (.pointer (some ⟨w.heap.size + 1 + 1, 0, none⟩)) (.pointer (some ⟨w.heap.size + 1, 0, none⟩)) (((w.alloc x.obj).alloc (.cells #[.bool b] 4)).alloc x.rec_.t.obj).drew :=
  ⟨_, _, rfl, rfl, ((((But.refl _ w).alloc _).alloc _).alloc _).drew, by omega, Nat.lt_succ_self _, by omega, Holds.n30 w _ _ _, Holds.n32 w _ _ _, Holds.n31 w _ _ _⟩
/-- The verdict so far lies in its box. -/
def SaidAt {p : EvV → Prop} (x : EvV) (q : Nat) (pre : List (Subtype p)) (W : World) : Prop := ∃ b, b = (!x.rec_.yes || pre.any (fun y => saidB x y.1)) ∧ Holds W q (.cells #[.bool b] 4)
theorem SaidAt.own {p : EvV → Prop} {x : EvV} {q B : Nat} (h : q < B) : OwnFrom B (SaidAt (p := p) x q) := fun s X Y row hs hg hr => by
  obtain ⟨b, hb, k⟩ := hs
  exact ⟨b, hb, (ownFrom_lies (fun _ : Unit => True) _ (fun _ => _) h () X Y row ⟨trivial, k⟩ hg hr).2⟩
theorem evL_any3 {p : EvV → Prop} (L : List (Subtype p)) (l : List EvV) (f : EvV → Bool) (h : L.map Subtype.val = l) : L.any (fun y => f y.1) = l.any f := by
  rw [← h, List.any_map]; rfl
set_option maxRecDepth 100000 in
set_option maxHeartbeats 2000000 in
theorem learns_any {w : World} (bad : Int) (hb0 : 0 ≤ bad) (hb1 : bad ≤ 255) {A : Option Addr} {len cap : Nat} {l : List EvV} (hl : HistAt w A l) (hlen : l.length = len) (hlc : len ≤ cap) (hc : cap ≤ 9223372036854775807) (x : EvV) (ho : EvOk w x) :
    Calls Try.prog 17 #[.int .u8 bad, .slice A len cap, x.val] w fun e w' => e = .returned (.int .i64 (learnsE bad l x)) ∧ But (fun _ => False) w w' := by
  have hbb : But (fun _ => False) w (w.alloc x.obj) := (But.refl _ w).alloc _
  have hh0 := Holds.new w x.obj
  have x0 := obj_cell hh0 0 _ rfl
  have x6 := obj_cell hh0 6 _ rfl
  have x8 := obj_cell hh0 8 _ rfl
  have x9 := obj_cell hh0 9 _ rfl
  have x10 := obj_cell hh0 10 _ rfl
  have HB0 := Lib.hid hbb
  have HH0 := Lib.hid hh0
  have CH := Lib.hid (honest_any bad x.rec_.t.c hb0 hb1)
  rw [ev_val]
  by_cases h1 : x.kind = 2
  · by_cases h2 : x.rec_.kind = 4
    · have hlogs3 := Lib.hid (evL_logs w l hl.2 3 x.rec_.t)
      have hlogs2 := Lib.hid (evL_logs w l hl.2 2 x.rec_.t)
      have hlenL := evL_length w l hl.2
      have hE := hl.evs (q := fun k => w.heap.size ≤ k) (fun _ h => h)
      rw [← evL_val w l hl.2] at hE
      generalize evL w l hl.2 = L at hlogs3 hlogs2 hlenL hE
      rw [hlen] at hlenL
      clear hl hlen ho hb0 hb1
      refine (callsIn_wide (n := 8)).1 ?_
      refine callsIn_of_wp_marks Try.func17 rfl trivial ?_ rfl
      refine wpIn_wide.2 ?_
      simp only [Try.ntmps17, List.size_toArray, List.length_cons, List.length_nil, Nat.reduceAdd, Nat.reduceSub, Array.replicate_succ, Array.replicate_zero, List.push_toArray, List.append_toArray, List.nil_append, List.cons_append]
      go_wp2
      go_step3
      go_upto_region 3 with fail
      have nx8 := World.new_ne _ _ x8
      have nx9 := World.new_ne _ _ x9
      have nx10 := World.new_ne _ _ x10
      go_cut [7, 8] from 13 to 31 (fun s7 s8 wx => LearnsAt w x (!honestB bad x.rec_.t.c) s7 s8 wx)
      case first =>
        go_region_held3 (fun w' => w'.cell? ⟨w.heap.size, 8, none⟩ = some (.int .i64 x.rec_.t.c) ∧ w'.cell? ⟨w.heap.size, 9, none⟩ = some (.int .i64 x.rec_.t.e) ∧ w'.cell? ⟨w.heap.size, 10, none⟩ = some (.int .i64 x.rec_.t.s)) (go_keep) (first | (go_at_call 21; refine (CH.out _).mono ?_; rintro e w1 ⟨rfl, rfl⟩))
        all_goals (go_wp2_with fail; go_meet; first | exact LearnsAt.one w x _ | exact LearnsAt.two w x _)
      case rest =>
        obtain ⟨p, q, rfl, rfl, hb1, hp1, hq1, hpq, k0, kp, kq⟩ := hcut
        have t0 := cells_cell kp 0
        have t1 := cells_cell kp 1
        have t2 := cells_cell kp 2
        clear nx8 nx9 nx10 x0 x6 x8 x9 x10 hbb hh0
        go_wp2
        go_step3
        go_wp2_with (go_at_call 26; refine (logs_any _ _ _ _ x.rec_.t _).mono ?_; rintro e W0 ⟨B1, B2, B3, rfl, b0, g1, g2, g3, k1, k2, k3⟩)
        replace k0 := k0.but b0 (fun f => f)
        replace kp := kp.but b0 (fun f => f)
        have lq : q < wc.heap.size := kq.lt
        replace kq := kq.but b0 (fun f => f)
        have hb0 := hb1.trans b0
        clear t0 t1 t2 hb1 b0
        have hE0 := hE.but hb0 (fun _ f => f.elim)
        have hS := logs_stops 7 (by omega) (fun k => k = q ∨ k = W0.heap.size ∨ k = W0.heap.size + 1) B1 B2 B3 A len cap 3 x.rec_.t L hlenL hc hlc W0 (not_two (q := fun k => k = q) k1.lt (by omega)) (not_two (q := fun k => k = q) k2.lt (by omega)) (not_two (q := fun k => k = q) k3.lt (by omega)) k1 k2 k3 (hE0.mono (fun i h => by have := hb0.size; show w.heap.size ≤ i; rcases h with h | h | h <;> omega))
        refine (wpIn_wide (n := 8)).1 ?_
        refine range_kept (by omega) (gf := 33) (lb := #[.pointer (some ⟨B1, 0, none⟩), .pointer (some ⟨B2, 0, none⟩), .pointer (some ⟨B3, 0, none⟩)]) rfl (enters_of Try.func33 (by kernel_rfl) rfl) (fun k hk => by have := kq.lt; omega) (fun V hV k hk => by have := kq.lt; rcases hk with h | h | h <;> omega) hS (fun _ => rfl)
          (fun pre W => AnyIs (fun y : {y : EvV // EvOk w y} => knownB x y.1) false pre ∧ But (fun _ => False) W0 W)
          (fun c pre W => ((c = .exit 0 ∧ AnyIs (fun y : {y : EvV // EvOk w y} => knownB x y.1) true pre) ∧ Holds W q (.cells #[.bool true] 4)) ∧ But (fun k => k = q) W0 W)
          (OwnFrom.and (ownFrom_pure _ _) (ownFrom_but (Nat.le_refl _))) (fun c => OwnFrom.and (ownFrom_lies _ _ _ kq.lt) (ownFrom_but (Nat.le_refl _)))
          ⟨rfl, But.refl _ _⟩ ?round ?done ?stop
        case round =>
          rintro l2 pre y Wr ⟨hp, hk⟩ hlt
          gi_wp2_with (((with_reducible refine st_rec Wr y.1.rec_ ?_ ?_); (exact ⟨rfl, rfl, rfl, rfl⟩)))
          refine ⟨(But.refl _ _).alloc _, ?_⟩
          rintro W2 hb2 hcells ⟨_, hk2⟩
          have hy := hcells _ _ rfl (Holds.new Wr y.1.rec_.obj)
          revert hy
          generalize Wr.heap.size = g
          intro hy
          clear hb2 hcells
          have c5 := rbox_cell hy 5 _ rfl
          have x11 := obj_cell (k0.but hk2 (fun f => f)) 11 _ rfl
          have t0 := cells_cell (kp.but hk2 (fun f => f)) 0
          have kq' := kq.but hk2 (fun f => f)
          have kb := kq'.box
          have HK := Lib.hid hk2
          have H1 := Lib.hid kq'
          have hpe : (pre ++ [y]).any (fun y => knownB x y.1) = knownB x y.1 := by rw [List.any_append, hp.out]; simp
          have HP := Lib.hid hpe
          clear hpe hy hk2 hk hp kq'
          by_cases e0 : y.1.org = x.rec_.t.c
          · have f0 : (y.1.org == x.rec_.t.c) = true := by simpa using e0
            by_cases e1 : y.1.rec_.yes = x.rec_.yes
            · have f1 : (y.1.rec_.yes == x.rec_.yes) = true := by simpa using e1
              have hv : knownB x y.1 = true := by unfold knownB; rw [f0, f1]; rfl
              have HV := Lib.hid hv
              clear hv e0 e1
              gi_wp2
              have b2 : But (fun k => k = q) W2 (W2.setCell ⟨q, 0, none⟩ (.bool true)) := (But.refl (fun k => k = q) _).setCell (a := ⟨q, 0, none⟩) (.inl rfl) _
              exact ⟨b2, ⟨⟨rfl, HP.out.trans HV.out⟩, H1.out.set _⟩, (HK.out.mono (fun _ f => f.elim)).trans b2⟩
            · have f1 : (y.1.rec_.yes == x.rec_.yes) = false := by simpa using e1
              have hv : knownB x y.1 = false := by unfold knownB; rw [f0, f1]; rfl
              have HV := Lib.hid hv
              clear hv e0 e1
              gi_wp2
              exact ⟨But.refl _ _, HP.out.trans HV.out, HK.out⟩
          · have f0 : (y.1.org == x.rec_.t.c) = false := by simpa using e0
            have hv : knownB x y.1 = false := by unfold knownB; rw [f0]; rfl
            have HV := Lib.hid hv
            clear hv e0
            gi_wp2
            exact ⟨But.refl _ _, HP.out.trans HV.out, HK.out⟩
        case done =>
          rintro D xs W hD rfl ⟨hp, hk⟩ hK
          have hkn : (logsOf l 3 x.rec_.t).any (knownB x) = false := by rw [← evL_any3 _ _ (knownB x) hlogs3.out]; exact hp
          cases hh : honestB bad x.rec_.t.c with
          | true =>
            have hv := Lib.hid (show learnsE bad l x = 343 from by unfold learnsE; simp [h1, h2, hh, hkn])
            rw [hh] at kq
            have h4 := kq.but hk (fun f => f)
            have kb := h4.box
            have HW := Lib.hid (hb0.trans hk)
            have HK := Lib.hid hK
            clear hp hK h4 hk hkn hh
            gi_wp2
            go_wp2
            rw [Exit.noGoto_ret]
            refine ⟨by simp, .inl ⟨_, _, rfl, run_takeDeferred HK.out, ?_⟩⟩
            exact ⟨_, results_tmp rfl _ _ _, by rw [hv.out]; rfl, HW.out.putObj _ (by have := hb0.size; omega)⟩
          | false =>
            rw [hh] at kq
            have h4 : Holds W q (.cells #[.bool true] 4) := kq.but hk (fun f => f)
            have hv0 := Lib.hid (show learnsE bad l x = if (!x.rec_.yes || (logsOf l 2 x.rec_.t).any (saidB x)) = false then 344 else 0 from by unfold learnsE; simp [h1, h2, hh])
            replace hk := hk.mono (q := fun k => k = q) (fun _ f => f.elim)
            clear hp hkn hh
            have a0 := k0.but hk (by omega)
            have ap := kp.but hk hpq
            have kb := h4.box
            have x11 := obj_cell a0 11 _ rfl
            have t0 := cells_cell ap 0
            have t1 := cells_cell ap 1
            have t2 := cells_cell ap 2
            have x11' := obj_cell (a0.set_far q (by omega) (.bool (!x.rec_.yes))) 11 _ rfl
            have t0' := cells_cell (ap.set_far q hpq (.bool (!x.rec_.yes))) 0
            have t1' := cells_cell (ap.set_far q hpq (.bool (!x.rec_.yes))) 1
            have t2' := cells_cell (ap.set_far q hpq (.bool (!x.rec_.yes))) 2
            have HA0 := Lib.hid (a0.set_far q (by omega) (.bool (!x.rec_.yes)))
            have HQ0 := Lib.hid (h4.set (.bool (!x.rec_.yes)))
            have lD : D < W.heap.size := blkLt hK
            have hqD : D ≠ q := by have := kq.lt; omega
            have HD0 := Lib.hid (show Holds (W.setCell ⟨q, 0, none⟩ (.bool (!x.rec_.yes))) D _ from blkFar hK hqD _)
            have hW0 := hb0.none hk (fun k e => by omega)
            have HB5 := Lib.hid ((hW0.mono (q := fun k => k = q) (fun _ f => f.elim)).setCell (a := ⟨q, 0, none⟩) (.inl rfl) (.bool (!x.rec_.yes)))
            clear a0 ap h4 hK hk hW0
            gi_wp2
            go_wp2_with (go_at_call 26; refine (logs_any _ _ _ _ x.rec_.t _).mono ?_; rintro e W5 ⟨C1, C2, C3, rfl, b5, i1, i2, i3, j1, j2, j3⟩)
            have HA := Lib.hid (HA0.out.but b5 (fun f => f))
            have HQ := HQ0.out.but b5 (fun f => f)
            have HD := Lib.hid (HD0.out.but b5 (fun f => f))
            have hB5 := HB5.out.trans (b5.mono (fun _ f => f.elim))
            have hwq : w.heap.size < W.heap.size := by have := hb0.size; omega
            have lset : (W.setCell ⟨q, 0, none⟩ (.bool (!x.rec_.yes))).heap.size = W.heap.size := by simp [World.setCell]
            rw [lset] at i1 i2 i3
            have lW : W.heap.size ≤ W5.heap.size := by have := b5.size; rw [lset] at this; exact this
            have hqW : q < W5.heap.size := HQ.lt
            have hE5 : EvsAt (fun k => k = q ∨ k = W5.heap.size ∨ k = W5.heap.size + 1) W5 A (L.map Subtype.val) := (hE.but hB5 (fun i e => by show w.heap.size ≤ i; omega)).mono (fun i h => by show w.heap.size ≤ i; rcases h with h | h | h <;> omega)
            have hS5 := logs_stops 7 (by omega) (fun k => k = q ∨ k = W5.heap.size ∨ k = W5.heap.size + 1) C1 C2 C3 A len cap 2 x.rec_.t L hlenL hc hlc W5 (not_two (q := fun k => k = q) j1.lt (by have := kq.lt; omega)) (not_two (q := fun k => k = q) j2.lt (by have := kq.lt; omega)) (not_two (q := fun k => k = q) j3.lt (by have := kq.lt; omega)) j1 j2 j3 hE5
            refine (wpIn_wide (n := 8)).1 ?_
            refine range_kept (by omega) (gf := 33) (lb := #[.pointer (some ⟨C1, 0, none⟩), .pointer (some ⟨C2, 0, none⟩), .pointer (some ⟨C3, 0, none⟩)]) rfl (enters_of Try.func33 (by kernel_rfl) rfl) (fun k hk => by omega) (fun V hV k hk => by rcases hk with h | h | h <;> omega) hS5 (fun _ => rfl)
              (fun pre W' => SaidAt x q pre W' ∧ But (fun k => k = q) W5 W')
              (fun c pre W' => False)
              (OwnFrom.and (SaidAt.own hqW) (ownFrom_but (Nat.le_refl _))) (fun c s X Y row hs _ _ => hs)
              ⟨⟨_, by simp, HQ⟩, But.refl _ _⟩ ?round2 ?done2 ?stop2
            case round2 =>
              rintro l2 pre y Wr ⟨hp, hk⟩ hlt
              gi_wp2_with (((with_reducible refine st_rec Wr y.1.rec_ ?_ ?_); (exact ⟨rfl, rfl, rfl, rfl⟩)))
              refine ⟨(But.refl _ _).alloc _, ?_⟩
              rintro W2 hb2 hcells ⟨⟨b, hb, hbq⟩, hk2⟩
              have hy := hcells _ _ rfl (Holds.new Wr y.1.rec_.obj)
              revert hy
              generalize Wr.heap.size = g
              intro hy
              clear hb2 hcells
              have c5 := rbox_cell hy 5 _ rfl
              have x2 := obj_cell (HA.out.but hk2 (by omega)) 2 _ rfl
              have kb := hbq.box
              have HK := Lib.hid hk2
              have H1 := Lib.hid hbq
              have hpe : ∀ v, (b || saidB x y.1) = v → v = (!x.rec_.yes || (pre ++ [y]).any (fun y => saidB x y.1)) := fun v hv => by rw [← hv, hb, List.any_append]; simp [Bool.or_assoc]
              have HP := Lib.hid hpe
              clear hpe hy hk2 hk hp hb hbq
              have hst : ∀ v, But (fun k => k = q) W2 (W2.setCell ⟨q, 0, none⟩ (.bool v)) := fun v => (But.refl (fun k => k = q) _).setCell (a := ⟨q, 0, none⟩) (.inl rfl) _
              have HST := Lib.hid hst
              clear hst
              cases b with
              | true =>
                have HV := Lib.hid (HP.out true (by simp))
                gi_wp2
                exact ⟨HST.out _, ⟨_, HV.out, H1.out.set _⟩, HK.out.trans (HST.out _)⟩
              | false =>
                by_cases e0 : y.1.org = x.org
                · have f0 : (y.1.org == x.org) = true := by simpa using e0
                  have HV := Lib.hid (HP.out y.1.rec_.yes (by unfold saidB; rw [f0]; simp))
                  clear e0
                  gi_wp2
                  exact ⟨HST.out _, ⟨_, HV.out, H1.out.set _⟩, HK.out.trans (HST.out _)⟩
                · have f0 : (y.1.org == x.org) = false := by simpa using e0
                  have HV := Lib.hid (HP.out false (by unfold saidB; rw [f0]; simp))
                  clear e0
                  gi_wp2
                  exact ⟨HST.out _, ⟨_, HV.out, H1.out.set _⟩, HK.out.trans (HST.out _)⟩
            case stop2 =>
              rintro D2 c pre W' hD2 hpre hf hK2
              exact hf.elim
            case done2 =>
              rintro D2 xs W' hD2 rfl ⟨⟨b, hb, hbq⟩, hk⟩ hK2
              have hb' : (!x.rec_.yes || (logsOf l 2 x.rec_.t).any (saidB x)) = b := by rw [hb, ← evL_any3 _ _ (saidB x) hlogs2.out]
              have kb := hbq.box
              have HK2 := Lib.hid hK2
              have HDD := Lib.hid (HD.out.but hk (by omega))
              have HBB := Lib.hid (hB5.trans hk)
              have hDD : D2 ≠ D := by omega
              have hwD : w.heap.size ≤ D := by have := hb0.size; omega
              have HV := Lib.hid (show learnsE bad l x = if b = false then 344 else 0 from by rw [hv0.out, hb'])
              clear hb hb' hbq hK2 hk
              have hend : ∀ (v : Int) (tmps : Array Value), learnsE bad l x = v → tmps.getD 6 undef = .int .i64 v → LeavesInM Fence.wide 8 Try.prog Try.f17 tmps (fun e w' => e = .returned (.int .i64 (learnsE bad l x)) ∧ But (fun _ => False) w w') [{ target := .collected D2, args := #[] }, { target := .collected D, args := #[] }] .returning W' := fun v tmps hv ht => by
                refine ⟨by simp, .inl ⟨_, _, rfl, run_takeDeferred HK2.out, ?_⟩⟩
                refine ⟨by simp, .inl ⟨_, _, rfl, run_takeDeferred ((World.putObj_heap_other (fun e => hDD e.symm)).trans HDD.out), ?_⟩⟩
                exact ⟨_, results_tmp rfl _ _ _, by rw [hv, ht], (((But.refl (fun _ => False) w).then_ HBB.out (fun i e => .inr (by omega))).putObj _ (by omega)).putObj _ (by omega)⟩
              have HEND := Lib.hid hend
              clear hend
              cases b with
              | true =>
                gi_wp2
                go_wp2
                rw [Exit.noGoto_ret]
                exact HEND.out 0 _ HV.out rfl
              | false =>
                gi_wp2
                go_wp2
                rw [Exit.noGoto_ret]
                exact HEND.out 344 _ HV.out rfl
        case stop =>
          rintro D c pre W hD hpre ⟨⟨⟨rfl, hp⟩, h4⟩, hk⟩ hK
          have hkn : (logsOf l 3 x.rec_.t).any (knownB x) = true := by
            rw [← evL_any3 _ _ (knownB x) hlogs3.out]
            obtain ⟨z, hz, hs⟩ := List.any_eq_true.1 hp.out
            exact List.any_eq_true.2 ⟨z, hpre.subset hz, hs⟩
          have hv0 := Lib.hid (show learnsE bad l x = if (!x.rec_.yes || (logsOf l 2 x.rec_.t).any (saidB x)) = false then 344 else 0 from by unfold learnsE; simp [h1, h2, hkn])
          clear hp hkn
          have a0 := k0.but hk (by omega)
          have ap := kp.but hk hpq
          have kb := h4.box
          have x11 := obj_cell a0 11 _ rfl
          have t0 := cells_cell ap 0
          have t1 := cells_cell ap 1
          have t2 := cells_cell ap 2
          have x11' := obj_cell (a0.set_far q (by omega) (.bool (!x.rec_.yes))) 11 _ rfl
          have t0' := cells_cell (ap.set_far q hpq (.bool (!x.rec_.yes))) 0
          have t1' := cells_cell (ap.set_far q hpq (.bool (!x.rec_.yes))) 1
          have t2' := cells_cell (ap.set_far q hpq (.bool (!x.rec_.yes))) 2
          have HA0 := Lib.hid (a0.set_far q (by omega) (.bool (!x.rec_.yes)))
          have HQ0 := Lib.hid (h4.set (.bool (!x.rec_.yes)))
          have lD : D < W.heap.size := blkLt hK
          have hqD : D ≠ q := by have := kq.lt; omega
          have HD0 := Lib.hid (show Holds (W.setCell ⟨q, 0, none⟩ (.bool (!x.rec_.yes))) D _ from blkFar hK hqD _)
          have hW0 := hb0.none hk (fun k e => by omega)
          have HB5 := Lib.hid ((hW0.mono (q := fun k => k = q) (fun _ f => f.elim)).setCell (a := ⟨q, 0, none⟩) (.inl rfl) (.bool (!x.rec_.yes)))
          clear a0 ap h4 hK hk hW0
          gi_wp2
          go_wp2_with (go_at_call 26; refine (logs_any _ _ _ _ x.rec_.t _).mono ?_; rintro e W5 ⟨C1, C2, C3, rfl, b5, i1, i2, i3, j1, j2, j3⟩)
          have HA := Lib.hid (HA0.out.but b5 (fun f => f))
          have HQ := HQ0.out.but b5 (fun f => f)
          have HD := Lib.hid (HD0.out.but b5 (fun f => f))
          have hB5 := HB5.out.trans (b5.mono (fun _ f => f.elim))
          have hwq : w.heap.size < W.heap.size := by have := hb0.size; omega
          have lset : (W.setCell ⟨q, 0, none⟩ (.bool (!x.rec_.yes))).heap.size = W.heap.size := by simp [World.setCell]
          rw [lset] at i1 i2 i3
          have lW : W.heap.size ≤ W5.heap.size := by have := b5.size; rw [lset] at this; exact this
          have hqW : q < W5.heap.size := HQ.lt
          have hE5 : EvsAt (fun k => k = q ∨ k = W5.heap.size ∨ k = W5.heap.size + 1) W5 A (L.map Subtype.val) := (hE.but hB5 (fun i e => by show w.heap.size ≤ i; omega)).mono (fun i h => by show w.heap.size ≤ i; rcases h with h | h | h <;> omega)
          have hS5 := logs_stops 7 (by omega) (fun k => k = q ∨ k = W5.heap.size ∨ k = W5.heap.size + 1) C1 C2 C3 A len cap 2 x.rec_.t L hlenL hc hlc W5 (not_two (q := fun k => k = q) j1.lt (by have := kq.lt; omega)) (not_two (q := fun k => k = q) j2.lt (by have := kq.lt; omega)) (not_two (q := fun k => k = q) j3.lt (by have := kq.lt; omega)) j1 j2 j3 hE5
          refine (wpIn_wide (n := 8)).1 ?_
          refine range_kept (by omega) (gf := 33) (lb := #[.pointer (some ⟨C1, 0, none⟩), .pointer (some ⟨C2, 0, none⟩), .pointer (some ⟨C3, 0, none⟩)]) rfl (enters_of Try.func33 (by kernel_rfl) rfl) (fun k hk => by omega) (fun V hV k hk => by rcases hk with h | h | h <;> omega) hS5 (fun _ => rfl)
            (fun pre W' => SaidAt x q pre W' ∧ But (fun k => k = q) W5 W')
            (fun c pre W' => False)
            (OwnFrom.and (SaidAt.own hqW) (ownFrom_but (Nat.le_refl _))) (fun c s X Y row hs _ _ => hs)
            ⟨⟨_, by simp, HQ⟩, But.refl _ _⟩ ?round2 ?done2 ?stop2
          case round2 =>
            rintro l2 pre y Wr ⟨hp, hk⟩ hlt
            gi_wp2_with (((with_reducible refine st_rec Wr y.1.rec_ ?_ ?_); (exact ⟨rfl, rfl, rfl, rfl⟩)))
            refine ⟨(But.refl _ _).alloc _, ?_⟩
            rintro W2 hb2 hcells ⟨⟨b, hb, hbq⟩, hk2⟩
            have hy := hcells _ _ rfl (Holds.new Wr y.1.rec_.obj)
            revert hy
            generalize Wr.heap.size = g
            intro hy
            clear hb2 hcells
            have c5 := rbox_cell hy 5 _ rfl
            have x2 := obj_cell (HA.out.but hk2 (by omega)) 2 _ rfl
            have kb := hbq.box
            have HK := Lib.hid hk2
            have H1 := Lib.hid hbq
            have hpe : ∀ v, (b || saidB x y.1) = v → v = (!x.rec_.yes || (pre ++ [y]).any (fun y => saidB x y.1)) := fun v hv => by rw [← hv, hb, List.any_append]; simp [Bool.or_assoc]
            have HP := Lib.hid hpe
            clear hpe hy hk2 hk hp hb hbq
            have hst : ∀ v, But (fun k => k = q) W2 (W2.setCell ⟨q, 0, none⟩ (.bool v)) := fun v => (But.refl (fun k => k = q) _).setCell (a := ⟨q, 0, none⟩) (.inl rfl) _
            have HST := Lib.hid hst
            clear hst
            cases b with
            | true =>
              have HV := Lib.hid (HP.out true (by simp))
              gi_wp2
              exact ⟨HST.out _, ⟨_, HV.out, H1.out.set _⟩, HK.out.trans (HST.out _)⟩
            | false =>
              by_cases e0 : y.1.org = x.org
              · have f0 : (y.1.org == x.org) = true := by simpa using e0
                have HV := Lib.hid (HP.out y.1.rec_.yes (by unfold saidB; rw [f0]; simp))
                clear e0
                gi_wp2
                exact ⟨HST.out _, ⟨_, HV.out, H1.out.set _⟩, HK.out.trans (HST.out _)⟩
              · have f0 : (y.1.org == x.org) = false := by simpa using e0
                have HV := Lib.hid (HP.out false (by unfold saidB; rw [f0]; simp))
                clear e0
                gi_wp2
                exact ⟨HST.out _, ⟨_, HV.out, H1.out.set _⟩, HK.out.trans (HST.out _)⟩
          case stop2 =>
            rintro D2 c pre W' hD2 hpre hf hK2
            exact hf.elim
          case done2 =>
            rintro D2 xs W' hD2 rfl ⟨⟨b, hb, hbq⟩, hk⟩ hK2
            have hb' : (!x.rec_.yes || (logsOf l 2 x.rec_.t).any (saidB x)) = b := by rw [hb, ← evL_any3 _ _ (saidB x) hlogs2.out]
            have kb := hbq.box
            have HK2 := Lib.hid hK2
            have HDD := Lib.hid (HD.out.but hk (by omega))
            have HBB := Lib.hid (hB5.trans hk)
            have hDD : D2 ≠ D := by omega
            have hwD : w.heap.size ≤ D := by have := hb0.size; omega
            have HV := Lib.hid (show learnsE bad l x = if b = false then 344 else 0 from by rw [hv0.out, hb'])
            clear hb hb' hbq hK2 hk
            have hend : ∀ (v : Int) (tmps : Array Value), learnsE bad l x = v → tmps.getD 6 undef = .int .i64 v → LeavesInM Fence.wide 8 Try.prog Try.f17 tmps (fun e w' => e = .returned (.int .i64 (learnsE bad l x)) ∧ But (fun _ => False) w w') [{ target := .collected D2, args := #[] }, { target := .collected D, args := #[] }] .returning W' := fun v tmps hv ht => by
              refine ⟨by simp, .inl ⟨_, _, rfl, run_takeDeferred HK2.out, ?_⟩⟩
              refine ⟨by simp, .inl ⟨_, _, rfl, run_takeDeferred ((World.putObj_heap_other (fun e => hDD e.symm)).trans HDD.out), ?_⟩⟩
              exact ⟨_, results_tmp rfl _ _ _, by rw [hv, ht], (((But.refl (fun _ => False) w).then_ HBB.out (fun i e => .inr (by omega))).putObj _ (by omega)).putObj _ (by omega)⟩
            have HEND := Lib.hid hend
            clear hend
            cases b with
            | true =>
              gi_wp2
              go_wp2
              rw [Exit.noGoto_ret]
              exact HEND.out 0 _ HV.out rfl
            | false =>
              gi_wp2
              go_wp2
              rw [Exit.noGoto_ret]
              exact HEND.out 344 _ HV.out rfl
    · have hv := Lib.hid (show learnsE bad l x = 0 from by unfold learnsE; simp [h2])
      clear hbb hh0
      go_enter Try.func17, Try.ntmps17
      go_wp2
      go_step3
      go_wp2
      rw [Exit.noGoto_ret]
      go_ret
      exact ⟨by rw [hv.out]; rfl, HB0.out⟩
  · have hv := Lib.hid (show learnsE bad l x = 0 from by unfold learnsE; simp [h1])
    clear hbb hh0
    go_enter Try.func17, Try.ntmps17
    go_wp2
    go_step3
    go_wp2
    rw [Exit.noGoto_ret]
    go_ret
    exact ⟨by rw [hv.out]; rfl, HB0.out⟩
end Go.Proofs.Ytmaihiajgjijhaa
