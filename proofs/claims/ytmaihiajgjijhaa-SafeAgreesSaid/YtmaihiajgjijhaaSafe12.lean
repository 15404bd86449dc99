/- What may be wrong with a decision. -/
import Derived.Test.YtmaihiajgjijhaaSafe11
namespace Go.Proofs.Ytmaihiajgjijhaa
open Go.RowKit Go.Shelf
set_option linter.unusedVariables false
set_option linter.unusedSimpArgs false
attribute [local go_sem] Oper.semAt_some ev_obj

theorem st_rec' {F : Fence} {n : Nat} {ops : Array Oper} {Q : Exit → Act → World → Prop} {rest : List Oper} {d : Option Tmp} {y z : Operand} {ty : TypeId} {pos : String} {after : Array Edge} {gd : Option (Nat × Bool)} {a : Act} {w : World} (w0 : World) (g : Nat) (hg : g = w0.heap.size) (x : RecV)
    (hx : w = w0.alloc rec0 ∧ Region.wanted ⟨d, .store 36 y z, ty, pos, after, gd⟩ (yielded ops a.tmps) = true ∧ a.eval y = .pointer (some ⟨g, 0, none⟩) ∧ a.eval z = x.val) (h : wpListIn F n Try.prog ops Q rest (a.put d undef) (w0.alloc x.obj)) :
    wpListIn F n Try.prog ops Q (⟨d, .store 36 y z, ty, pos, after, gd⟩ :: rest) a w := by
  subst hg
  exact st_rec w0 x hx h
def logsOf (l : List EvV) (k : Int) (t : TxnV) : List EvV := (l.filter (fun x => x.kind == 2)).filter (fun x => logB k t x)
def decidesE (bad : Int) (l : List EvV) (x : EvV) : Int :=
  if x.kind = 2 ∧ x.rec_.kind = 3 then
    (if (logsOf l 3 x.rec_.t).isEmpty = false then 343 else if x.rec_.t.c ≠ x.org then 343 else if x.rec_.yes = true ∧ begunB l x.rec_.t x.rec_.aud x.rec_.ms = false then 342 else if x.rec_.yes = true ∧ allB bad l x.rec_.t x.rec_.aud x.rec_.ms = false then 344 else 0)
  else 0
theorem evL_logs (w : World) (l : List EvV) (h : ∀ x ∈ l, EvOk w x) (k : Int) (t : TxnV) : (((evL w l h).filter (fun x => x.1.kind == 2)).filter (fun x => logB k t x.1)).map Subtype.val = logsOf l k t := by
  unfold logsOf
  conv => rhs; rw [← evL_val w l h]
  rw [List.filter_map, List.filter_map]; rfl
theorem cells_all {w : World} {g : Nat} {cs : Array Value} {t : TypeId} {fr : Nat × Nat} (h : Holds w g (.cells cs t fr)) : w.cell? ⟨g, 0, none⟩ = cs[0]? ∧ w.cell? ⟨g, 1, none⟩ = cs[1]? ∧ w.cell? ⟨g, 2, none⟩ = cs[2]? ∧ w.cell? ⟨g, 3, none⟩ = cs[3]? ∧ w.cell? ⟨g, 4, none⟩ = cs[4]? := ⟨cellOf h 0, cellOf h 1, cellOf h 2, cellOf h 3, cellOf h 4⟩
def EmptyIs {α : Type} (b : Bool) (l : List α) : Prop := l.isEmpty = b

set_option maxRecDepth 100000 in
set_option maxHeartbeats 1000000 in
theorem decides_any {w : World} (bad : Int) (hb0 : 0 ≤ bad) (hb1 : bad ≤ 255) {A : Option Addr} {len cap : Nat} {l : List EvV} (hl : HistAt w A l) (hlen : l.length = len) (hlc : len ≤ cap) (hc : cap ≤ 9223372036854775807) (x : EvV) (ho : EvOk w x) :
    Calls Try.prog 16 #[.int .u8 bad, .slice A len cap, x.val] w fun e w' => e = .returned (.int .i64 (decidesE bad l x)) ∧ But (fun _ => False) w w' := by
  have hbb : But (fun _ => False) w ((w.alloc x.obj).alloc (.cells #[.int .i64 0] 27)) := ((But.refl _ w).alloc _).alloc _
  have hh0 := Holds.n20 w x.obj (.cells #[.int .i64 0] 27)
  have hh1 := Holds.n21 w x.obj (.cells #[.int .i64 0] 27)
  have x0 := obj_cell hh0 0 _ rfl
  have x6 := obj_cell hh0 6 _ rfl
  have k0 := hh1.box
  have HB0 := Lib.hid hbb
  have HH1 := Lib.hid hh1
  have HH0 := Lib.hid hh0
  rw [ev_val]
  by_cases h1 : x.kind = 2
  · by_cases h2 : x.rec_.kind = 3
    · have hlogs := Lib.hid (evL_logs w l hl.2 3 x.rec_.t)
      have hlenL := evL_length w l hl.2
      have hE := hl.evs (q := fun k => w.heap.size ≤ k) (fun _ h => h)
      rw [← evL_val w l hl.2] at hE
      generalize evL w l hl.2 = L at hlogs hlenL hE
      rw [hlen] at hlenL
      have CB : ∀ w2 : World, But (fun _ => False) w w2 → Calls Try.prog 24 #[lstVal x.rec_.t x.rec_.aud x.rec_.msl, .slice A len cap] w2 fun e w' => e = .returned (.bool (begunB l x.rec_.t x.rec_.aud x.rec_.ms)) ∧ But (fun _ => False) w2 w' := fun w2 b => begun_any x.rec_.t x.rec_.aud (ho.1.but b) (hl.but b) hlen hlc hc
      have CA : ∀ w2 : World, But (fun _ => False) w w2 → Calls Try.prog 27 #[lstVal x.rec_.t x.rec_.aud x.rec_.msl, .int .u8 bad, .slice A len cap] w2 fun e w' => e = .returned (.bool (allB bad l x.rec_.t x.rec_.aud x.rec_.ms)) ∧ But (fun _ => False) w2 w' := fun w2 b => all_any bad hb0 hb1 x.rec_.t x.rec_.aud (ho.1.but b) (hl.but b) hlen hlc hc
      unfold lstVal at CB CA
      have CBI := Lib.hid CB
      have CAI := Lib.hid CA
      clear hl hlen ho CB CA hb0 hb1
      have hr0 := hh0.alloc x.rec_.obj
      have hr1 := hh1.alloc x.rec_.obj
      have hr2 : Holds (((w.alloc x.obj).alloc (.cells #[.int .i64 0] 27)).alloc x.rec_.obj) (w.heap.size + 1 + 1) x.rec_.obj := Holds.n32 w _ _ _
      have hbb2 := hbb.alloc x.rec_.obj
      have y2 := rbox_cell hr2 2 _ rfl
      have y3 := rbox_cell hr2 3 _ rfl
      have y4 := rbox_cell hr2 4 _ rfl
      refine (callsIn_wide (n := 8)).1 ?_
      refine callsIn_of_wp_marks Try.func16 rfl trivial ?_ rfl
      simp only [Try.ntmps16, List.size_toArray, List.length_cons, List.length_nil, Nat.reduceAdd, Nat.reduceSub, Array.replicate_succ, Array.replicate_zero, List.push_toArray, List.append_toArray, List.nil_append, List.cons_append]
      gi_wp2_with (first | ((with_reducible refine ld_rec w.heap.size 6 x.rec_ (rec_range HH0.out) ?_ ?_); (exact ⟨rfl, rfl⟩)) | ((with_reducible refine st_rec' ((w.alloc x.obj).alloc (.cells #[.int .i64 0] 27)) (w.heap.size + 1 + 1) ?_ x.rec_ ?_ ?_); (simp only [World.size_alloc]); (exact ⟨rfl, rfl, rfl, rfl⟩)) | (refine ⟨trivial, ?_⟩; gi_at_call 26; refine (callsIn_wide.2 (logs_any _ _ _ _ x.rec_.t _)).mono ?_; rintro e W0 ⟨B1, B2, B3, rfl, b0, g1, g2, g3, k1, k2, k3⟩))
      replace hr0 := hr0.but b0 (fun f => f)
      replace hr1 := hr1.but b0 (fun f => f)
      replace hr2 := hr2.but b0 (fun f => f)
      have hb0 := hbb2.trans b0
      clear b0 hbb hbb2 x0 x6 k0 y2 y3 y4 hh0 hh1
      simp only [World.size_alloc] at g1 g2 g3
      have hE0 := hE.but hb0 (fun _ f => f.elim)
      have hS := logs_stops 7 (by omega) (fun k => k = w.heap.size + 1 ∨ k = W0.heap.size ∨ k = W0.heap.size + 1) B1 B2 B3 A len cap 3 x.rec_.t L hlenL hc hlc W0 (not_two (q := fun k => k = w.heap.size + 1) k1.lt (by omega)) (not_two (q := fun k => k = w.heap.size + 1) k2.lt (by omega)) (not_two (q := fun k => k = w.heap.size + 1) k3.lt (by omega)) k1 k2 k3 (hE0.mono (fun i h => by have := hb0.size; show w.heap.size ≤ i; rcases h with h | h | h <;> omega))
      refine range_kept (by omega) (gf := 33) (lb := #[.pointer (some ⟨B1, 0, none⟩), .pointer (some ⟨B2, 0, none⟩), .pointer (some ⟨B3, 0, none⟩)]) rfl (enters_of Try.func33 (by kernel_rfl) rfl) (fun k hk => by have := hr1.lt; omega) (fun V hV k hk => by have := hr1.lt; rcases hk with h | h | h <;> omega) hS (fun _ => rfl)
        (fun pre W => EmptyIs true pre ∧ But (fun _ => False) W0 W)
        (fun c pre W => ((c = .ret ∧ EmptyIs false pre) ∧ Holds W (w.heap.size + 1) (.cells #[.int .i64 343] 27)) ∧ But (fun k => k = w.heap.size + 1) W0 W)
        (OwnFrom.and (ownFrom_pure _ _) (ownFrom_but (Nat.le_refl _))) (fun c => OwnFrom.and (ownFrom_lies _ _ _ hr1.lt) (ownFrom_but (Nat.le_refl _)))
        ⟨rfl, But.refl _ _⟩ ?round ?done ?stop
      case round =>
        rintro l2 pre y Wr ⟨hp, hk⟩ hlt
        gi_wp2
        refine ⟨But.refl _ _, ?_⟩
        rintro W2 hb2 hcells ⟨_, hk2⟩
        have h1' := hr1.but hk2 (fun f => f)
        have k0 := h1'.box
        have HK := Lib.hid hk2
        have H1 := Lib.hid h1'
        have HP := Lib.hid (show EmptyIs false (pre ++ [y]) from by unfold EmptyIs; simp)
        clear hb2 hcells hk2 hk hp h1'
        gi_wp2
        have b2 : But (fun k => k = w.heap.size + 1) W2 (W2.setCell ⟨w.heap.size + 1, 0, none⟩ (.int .i64 343)) := (But.refl (fun k => k = w.heap.size + 1) _).setCell (a := ⟨w.heap.size + 1, 0, none⟩) (.inl rfl) _
        exact ⟨b2, ⟨⟨rfl, HP.out⟩, H1.out.set _⟩, (HK.out.mono (fun _ f => f.elim)).trans b2⟩
      case stop =>
        rintro D c pre W hD hpre ⟨⟨⟨rfl, hp⟩, hh⟩, hk⟩ hK
        have hW : But (fun _ => False) w W := hb0.none hk (fun k hk' => by omega)
        have hv : decidesE bad l x = 343 := by
          have : (logsOf l 3 x.rec_.t).isEmpty = false := by
            rw [← hlogs.out]
            obtain ⟨r, hr⟩ := hpre
            rw [← hr]
            cases pre with
            | nil => cases hp
            | cons a b => rfl
          unfold decidesE
          simp [h1, h2, this]
        have hlt : w.heap.size + 1 < D := by have := hr1.lt; omega
        have HV := Lib.hid hv
        clear hv hp
        gi_wp2
        refine ⟨by simp, .inl ⟨_, _, rfl, run_takeDeferred hK, ?_⟩⟩
        exact ⟨_, results_cell1 rfl _ _ (w.heap.size + 1) _ _ rfl ((cell_putObj _ 0 (by omega)).trans hh.box.1) Try.underlying27 rfl, by rw [HV.out], hW.putObj _ (by omega)⟩
      case done =>
        rintro D xs W hD rfl ⟨hp, hk⟩ hK
        have hne : (logsOf l 3 x.rec_.t).isEmpty = true := by
          rw [← hlogs.out]
          have : (List.filter (fun y : {y // EvOk w y} => logB 3 x.rec_.t y.1) (L.filter (fun y => y.1.kind == 2))).isEmpty = true := hp
          rw [List.isEmpty_map]; exact this
        have h1' := hr1.but hk (fun f => f)
        have a0 := hr0.but hk (fun f => f)
        have a2 := hr2.but hk (fun f => f)
        have k0 := h1'.box
        have x2 := obj_cell a0 2 _ rfl
        have r2 := rbox_cell a2 2 _ rfl
        have r3 := rbox_cell a2 3 _ rfl
        have r4 := rbox_cell a2 4 _ rfl
        have r5 := rbox_cell a2 5 _ rfl
        have r6 := rbox_cell a2 6 _ rfl
        have r7 := rbox_cell a2 7 _ rfl
        have l0 := a0.lt
        have l1 := h1'.lt
        have l2 := a2.lt
        have hWW := hb0.trans hk
        have HW := Lib.hid hWW
        have HK := Lib.hid hK
        have H1 := Lib.hid h1'
        have HN := Lib.hid hne
        have CBW := Lib.hid (CBI.out _ (hWW.alloc (.cells #[.int .i64 x.rec_.t.c, .int .i64 x.rec_.t.e, .int .i64 x.rec_.t.s, .int .i64 x.rec_.aud, .slice x.rec_.msl.A x.rec_.msl.n x.rec_.msl.c] 56)))
        have hlt : w.heap.size + 1 < D := by have := hr1.lt; omega
        have hlD : D < W.heap.size := blkLt hK
        have HBX := Lib.hid (Holds.new W (.cells #[.int .i64 x.rec_.t.c, .int .i64 x.rec_.t.e, .int .i64 x.rec_.t.s, .int .i64 x.rec_.aud, .slice x.rec_.msl.A x.rec_.msl.n x.rec_.msl.c] 56))
        -- the end of each way out, the errno stored
        have hend : ∀ (W3 : World) (v : Int), But (fun _ => False) W W3 → decidesE bad l x = v → ∀ tmps : Array Value, tmps.getD 6 undef = .pointer (some ⟨w.heap.size + 1, 0, none⟩) →
            LeavesInM Fence.wide 8 Try.prog Try.f16 tmps (fun e w' => e = .returned (.int .i64 (decidesE bad l x)) ∧ But (fun _ => False) w w') [{ target := .collected D, args := #[] }] .returning (W3.setCell ⟨w.heap.size + 1, 0, none⟩ (.int .i64 v)) := fun W3 v hb3 hv tmps ht => by
          refine ⟨by simp, .inl ⟨_, _, rfl, run_takeDeferred (blkFar (hb3.blk HK.out (fun f => f)) (show D ≠ w.heap.size + 1 by omega) _), ?_⟩⟩
          exact ⟨_, results_cell1 rfl _ _ (w.heap.size + 1) _ _ ht ((cell_putObj _ 0 (by omega)).trans ((H1.out.but hb3 (fun f => f)).set _).box.1) Try.underlying27 rfl, by rw [hv], ((HW.out.trans hb3).setCell (a := ⟨w.heap.size + 1, 0, none⟩) (.inr (Nat.le_succ _)) _).putObj _ (by omega)⟩
        have HEND := Lib.hid hend
        clear hk hp hK h1' a0 a2 hWW hne hend
        by_cases e1 : x.rec_.t.c = x.org
        · have f1 : (x.rec_.t.c == x.org) = true := by simpa using e1
          have f2 : (x.rec_.t.c != x.org) = false := by simp [e1]
          have E1 := Lib.hid e1
          clear e1
          by_cases e2 : x.rec_.yes = true
          · cases e3 : begunB l x.rec_.t x.rec_.aud x.rec_.ms with
            | false =>
              have hv := Lib.hid (show decidesE bad l x = 342 from by unfold decidesE; simp [h1, h2, HN.out, E1.out, e2, e3])
              rw [e3] at CBW
              clear e3
              gi_wp2_with (first | (refine ⟨trivial, ?_⟩; gi_at_call 24; refine (callsIn_wide.2 CBW.out).mono ?_; rintro e w2 ⟨rfl, b1⟩; have HX2 := cells_all (HBX.out.but b1 (fun f => f)); have k9 := ((H1.out.alloc _).but b1 (fun f => f)).box; have r59 := (But.cell (((But.refl (fun _ => False) W).alloc _).trans b1) r5 (fun f => f))) | fail)
              exact HEND.out _ _ (((But.refl (fun _ => False) W).alloc _).trans b1) hv.out _ rfl
            | true =>
              rw [e3] at CBW
              cases e4 : allB bad l x.rec_.t x.rec_.aud x.rec_.ms with
              | false =>
                have hv := Lib.hid (show decidesE bad l x = 344 from by unfold decidesE; simp [h1, h2, HN.out, E1.out, e2, e3, e4])
                simp only [e4] at CAI
                clear e3 e4
                gi_wp2_with (first | (refine ⟨trivial, ?_⟩; gi_at_call 24; refine (callsIn_wide.2 CBW.out).mono ?_; rintro e w2 ⟨rfl, b1⟩; have HX2 := cells_all (HBX.out.but b1 (fun f => f)); have k9 := ((H1.out.alloc _).but b1 (fun f => f)).box; have r59 := (But.cell (((But.refl (fun _ => False) W).alloc _).trans b1) r5 (fun f => f))) | (refine ⟨trivial, ?_⟩; gi_at_call 27; refine (callsIn_wide.2 (CAI.out w2 ((HW.out.alloc _).trans b1))).mono ?_; rintro e w3 ⟨rfl, b3⟩; have k10 := (((H1.out.alloc _).but b1 (fun f => f)).but b3 (fun f => f)).box) | fail)
                exact HEND.out _ _ ((((But.refl (fun _ => False) W).alloc _).trans b1).trans b3) hv.out _ rfl
              | true =>
                have hv := Lib.hid (show decidesE bad l x = 0 from by unfold decidesE; simp [h1, h2, HN.out, E1.out, e2, e3, e4])
                simp only [e4] at CAI
                clear e3 e4
                gi_wp2_with (first | (refine ⟨trivial, ?_⟩; gi_at_call 24; refine (callsIn_wide.2 CBW.out).mono ?_; rintro e w2 ⟨rfl, b1⟩; have HX2 := cells_all (HBX.out.but b1 (fun f => f)); have k9 := ((H1.out.alloc _).but b1 (fun f => f)).box; have r59 := (But.cell (((But.refl (fun _ => False) W).alloc _).trans b1) r5 (fun f => f))) | (refine ⟨trivial, ?_⟩; gi_at_call 27; refine (callsIn_wide.2 (CAI.out w2 ((HW.out.alloc _).trans b1))).mono ?_; rintro e w3 ⟨rfl, b3⟩; have k10 := (((H1.out.alloc _).but b1 (fun f => f)).but b3 (fun f => f)).box) | fail)
                exact HEND.out _ _ ((((But.refl (fun _ => False) W).alloc _).trans b1).trans b3) hv.out _ rfl
          · have e2' : x.rec_.yes = false := by simpa using e2
            have hv := Lib.hid (show decidesE bad l x = 0 from by unfold decidesE; simp [h1, h2, HN.out, E1.out, e2'])
            clear e2
            gi_wp2
            refine ⟨trivial, ?_⟩
            gi_wp2
            refine ⟨trivial, ?_⟩
            gi_wp2
            have hee := fun tmps ht => HEND.out (W.alloc (.cells #[.int .i64 x.rec_.t.c, .int .i64 x.rec_.t.e, .int .i64 x.rec_.t.s, .int .i64 x.rec_.aud, .slice x.rec_.msl.A x.rec_.msl.n x.rec_.msl.c] 56)) _ ((But.refl (fun _ => False) W).alloc _) hv.out tmps ht
            rw [World.setCell_alloc_past _ _ _ _ l1] at hee
            exact hee _ rfl
        · have hv := Lib.hid (show decidesE bad l x = 343 from by unfold decidesE; simp [h1, h2, HN.out, e1])
          have f1 : (x.rec_.t.c == x.org) = false := by simpa using e1
          have f2 : (x.rec_.t.c != x.org) = true := by simp [e1]
          clear e1
          gi_wp2
          have hee := fun tmps ht => HEND.out (W.alloc (.cells #[.int .i64 x.rec_.t.c, .int .i64 x.rec_.t.e, .int .i64 x.rec_.t.s, .int .i64 x.rec_.aud, .slice x.rec_.msl.A x.rec_.msl.n x.rec_.msl.c] 56)) _ ((But.refl (fun _ => False) W).alloc _) hv.out tmps ht
          rw [World.setCell_alloc_past _ _ _ _ l1] at hee
          exact hee _ rfl
    · have hv := Lib.hid (show decidesE bad l x = 0 from by unfold decidesE; simp [h2])
      clear hbb hh0 hh1
      go_enter Try.func16, Try.ntmps16
      go_wp2
      refine bodyPost_ret (results_cell1 rfl _ _ (w.heap.size + 1) _ _ rfl HH1.out.box.1 Try.underlying27 rfl) rfl ?_
      exact ⟨by rw [hv.out], HB0.out⟩
  · have hv := Lib.hid (show decidesE bad l x = 0 from by unfold decidesE; simp [h1])
    clear hbb hh0 hh1
    go_enter Try.func16, Try.ntmps16
    go_wp2
    refine bodyPost_ret (results_cell1 rfl _ _ (w.heap.size + 1) _ _ rfl HH1.out.box.1 Try.underlying27 rfl) rfl ?_
    exact ⟨by rw [hv.out], HB0.out⟩
end Go.Proofs.Ytmaihiajgjijhaa
