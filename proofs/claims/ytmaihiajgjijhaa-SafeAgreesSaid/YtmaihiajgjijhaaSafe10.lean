/- What may be wrong with a vote, with a receipt. -/
import Derived.Test.YtmaihiajgjijhaaSafe9
namespace Go.Proofs.Ytmaihiajgjijhaa
open Go.RowKit
set_option linter.unusedVariables false
set_option linter.unusedSimpArgs false
attribute [local go_sem] alloc_drewN setCell_drewN ev_obj

def mineB (x : EvV) (ms : List MemV) : Bool := ms.any fun m => m.org == x.org
def votesE (bad : Int) (l : List EvV) (x : EvV) : Int := if x.kind = 2 ∧ x.rec_.kind = 2 ∧ honestB bad x.rec_.t.c = true then (if begunB l x.rec_.t x.rec_.aud x.rec_.ms = true ∧ mineB x x.rec_.ms = true then 0 else 342) else 0
def showsE (bad : Int) (l : List EvV) (x : EvV) : Int := if x.kind = 5 ∧ allB bad l x.rcp.t x.rcp.aud x.rcp.ms = false then 345 else 0

set_option maxRecDepth 100000 in
set_option maxHeartbeats 4000000 in
theorem votes_any {w : World} (bad : Int) (hb0 : 0 ≤ bad) (hb1 : bad ≤ 255) {A : Option Addr} {len cap : Nat} {l : List EvV} (hl : HistAt w A l) (hlen : l.length = len) (hlc : len ≤ cap) (hc : cap ≤ 9223372036854775807) (x : EvV) (ho : EvOk w x) :
    Calls Try.prog 15 #[.int .u8 bad, .slice A len cap, x.val] w fun e w' => e = .returned (.int .i64 (votesE bad l x)) ∧ But (fun _ => False) w w' := by
  have hmf := hmakeFunc
  have hb : But (fun _ => False) w (w.alloc x.obj) := (But.refl _ w).alloc _
  have H := Holds.new w x.obj
  have c0 := obj_cell H 0 _ rfl
  have c2 := obj_cell H 2 _ rfl
  have c6 := obj_cell H 6 _ rfl
  have c8 := obj_cell H 8 _ rfl
  have c9 := obj_cell H 9 _ rfl
  have c10 := obj_cell H 10 _ rfl
  have c12 := obj_cell H 12 _ rfl
  have c13 := obj_cell H 13 _ rfl
  have CH := Lib.hid (honest_any bad x.rec_.t.c hb0 hb1)
  have CB := Lib.hid (begun_any x.rec_.t x.rec_.aud (ho.1.but hb) (hl.but hb) hlen hlc hc)
  have CM : ∀ w2 : World, But (fun _ => False) (w.alloc x.obj) w2 → Calls Try.prog 25 #[.slice x.rec_.msl.A x.rec_.msl.n x.rec_.msl.c, .func (.func 23) #[] #[.pointer (some ⟨w.heap.size, 0, none⟩)]] w2 fun e w' => e = .returned (.bool (mineB x x.rec_.ms)) ∧ But (fun _ => False) w2 w' := fun w2 b => ContainsFunc_mine (H.but b (fun f => f)) ((ho.1.but hb).but b)
  have CMI := Lib.hid CM
  have HB := Lib.hid hb
  have HH := Lib.hid H
  clear hb H CM hl hlen hlc hc ho
  have hres : ∀ (v : Int) (w1 : World), votesE bad l x = v → But (fun _ => False) (w.alloc x.obj) w1 → ∀ (q : Value), q = .int .i64 v → (Ending.returned q = .returned (.int .i64 (votesE bad l x)) ∧ But (fun _ => False) w w1) := fun v w1 h b q hq => ⟨by rw [h, hq], HB.out.trans b⟩
  have HR := Lib.hid hres
  clear hres
  rw [ev_val]
  unfold lstVal at CB
  by_cases h1 : x.kind = 2
  · skip
    by_cases h2 : x.rec_.kind = 2
    · skip
      by_cases h3 : honestB bad x.rec_.t.c = true
      · skip
        cases h4 : begunB l x.rec_.t x.rec_.aud x.rec_.ms with
        | false =>
          have hv := Lib.hid (show votesE bad l x = 342 from by unfold votesE; simp [h1, h2, h3, h4])
          rw [h4] at CB
          clear h4
          go_enter Try.func15, Try.ntmps15
          go_wp2_with (first | (go_at_call 21; refine (CH.out _).mono ?_; rintro e w1 ⟨rfl, rfl⟩) | (go_at_call 24; refine CB.out.mono ?_; rintro e w2 ⟨rfl, b1⟩; have d13 := obj_cell (HH.out.but b1 (fun f => f)) 13 _ rfl) | fail)
          go_ret
          exact HR.out _ _ hv.out b1 _ rfl
        | true =>
          cases h5 : mineB x x.rec_.ms with
          | false =>
            have hv := Lib.hid (show votesE bad l x = 342 from by unfold votesE; simp [h1, h2, h3, h4, h5])
            rw [h4] at CB
            simp only [h5] at CMI
            clear h4 h5
            go_enter Try.func15, Try.ntmps15
            go_wp2_with (first | (go_at_call 21; refine (CH.out _).mono ?_; rintro e w1 ⟨rfl, rfl⟩) | (go_at_call 24; refine CB.out.mono ?_; rintro e w2 ⟨rfl, b1⟩; have d13 := obj_cell (HH.out.but b1 (fun f => f)) 13 _ rfl) | (go_at_call 25; refine (CMI.out _ b1).mono ?_; rintro e w3 ⟨rfl, b2⟩) | fail)
            go_ret
            exact HR.out _ _ hv.out (b1.trans b2) _ rfl
          | true =>
            have hv := Lib.hid (show votesE bad l x = 0 from by unfold votesE; simp [h1, h2, h3, h4, h5])
            rw [h4] at CB
            simp only [h5] at CMI
            clear h4 h5
            go_enter Try.func15, Try.ntmps15
            go_wp2_with (first | (go_at_call 21; refine (CH.out _).mono ?_; rintro e w1 ⟨rfl, rfl⟩) | (go_at_call 24; refine CB.out.mono ?_; rintro e w2 ⟨rfl, b1⟩; have d13 := obj_cell (HH.out.but b1 (fun f => f)) 13 _ rfl) | (go_at_call 25; refine (CMI.out _ b1).mono ?_; rintro e w3 ⟨rfl, b2⟩) | fail)
            go_ret
            exact HR.out _ _ hv.out (b1.trans b2) _ rfl
      · have hv := Lib.hid (show votesE bad l x = 0 from by unfold votesE; simp [h1, h2, h3])
        go_enter Try.func15, Try.ntmps15
        go_wp2_with (first | (go_at_call 21; refine (CH.out _).mono ?_; rintro e w1 ⟨rfl, rfl⟩) | fail)
        go_ret
        exact HR.out _ _ hv.out (But.refl _ _) _ rfl
    · have hv := Lib.hid (show votesE bad l x = 0 from by unfold votesE; simp [h1, h2])
      go_enter Try.func15, Try.ntmps15
      go_wp2_with (first | (go_at_call 21; refine (CH.out _).mono ?_; rintro e w1 ⟨rfl, rfl⟩) | fail)
      go_ret
      exact HR.out _ _ hv.out (But.refl _ _) _ rfl
  · have hv := Lib.hid (show votesE bad l x = 0 from by unfold votesE; simp [h1])
    go_enter Try.func15, Try.ntmps15
    go_wp2_with (first | (go_at_call 21; refine (CH.out _).mono ?_; rintro e w1 ⟨rfl, rfl⟩) | fail)
    go_ret
    exact HR.out _ _ hv.out (But.refl _ _) _ rfl

set_option maxRecDepth 100000 in
set_option maxHeartbeats 4000000 in
theorem shows_any {w : World} (bad : Int) (hb0 : 0 ≤ bad) (hb1 : bad ≤ 255) {A : Option Addr} {len cap : Nat} {l : List EvV} (hl : HistAt w A l) (hlen : l.length = len) (hlc : len ≤ cap) (hc : cap ≤ 9223372036854775807) (x : EvV) (ho : EvOk w x) :
    Calls Try.prog 18 #[.int .u8 bad, .slice A len cap, x.val] w fun e w' => e = .returned (.int .i64 (showsE bad l x)) ∧ But (fun _ => False) w w' := by
  have hb : But (fun _ => False) w (w.alloc x.obj) := (But.refl _ w).alloc _
  have H := Holds.new w x.obj
  have c0 := obj_cell H 0 _ rfl
  have c16 := obj_cell H 16 _ rfl
  have c17 := obj_cell H 17 _ rfl
  have c18 := obj_cell H 18 _ rfl
  have c19 := obj_cell H 19 _ rfl
  have c20 := obj_cell H 20 _ rfl
  have CA := Lib.hid (all_any bad hb0 hb1 x.rcp.t x.rcp.aud (ho.2.but hb) (hl.but hb) hlen hlc hc)
  have HB := Lib.hid hb
  clear hb H hl hlen hlc hc ho
  have hres : ∀ (v : Int) (w1 : World), showsE bad l x = v → But (fun _ => False) (w.alloc x.obj) w1 → ∀ (q : Value), q = .int .i64 v → (Ending.returned q = .returned (.int .i64 (showsE bad l x)) ∧ But (fun _ => False) w w1) := fun v w1 h b q hq => ⟨by rw [h, hq], HB.out.trans b⟩
  have HR := Lib.hid hres
  clear hres
  rw [ev_val]
  unfold lstVal at CA
  by_cases h1 : x.kind = 5
  · cases h2 : allB bad l x.rcp.t x.rcp.aud x.rcp.ms with
    | true =>
      have hv := Lib.hid (show showsE bad l x = 0 from by unfold showsE; simp [h1, h2])
      rw [h2] at CA
      clear h2
      go_enter Try.func18, Try.ntmps18
      go_wp2_with (go_at_call 27; refine CA.out.mono ?_; rintro e w2 ⟨rfl, b1⟩)
      go_ret
      exact HR.out _ _ hv.out b1 _ rfl
    | false =>
      have hv := Lib.hid (show showsE bad l x = 345 from by unfold showsE; simp [h1, h2])
      rw [h2] at CA
      clear h2
      go_enter Try.func18, Try.ntmps18
      go_wp2_with (go_at_call 27; refine CA.out.mono ?_; rintro e w2 ⟨rfl, b1⟩)
      go_ret
      exact HR.out _ _ hv.out b1 _ rfl
  · have hv := Lib.hid (show showsE bad l x = 0 from by unfold showsE; simp [h1])
    go_enter Try.func18, Try.ntmps18
    go_wp2_with fail
    go_ret
    exact HR.out _ _ hv.out (But.refl _ _) _ rfl
end Go.Proofs.Ytmaihiajgjijhaa
