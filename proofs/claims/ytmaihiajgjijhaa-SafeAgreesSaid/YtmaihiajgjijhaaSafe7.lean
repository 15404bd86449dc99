/- What may be wrong with an event: its shape; a receipt. -/
import Derived.Test.YtmaihiajgjijhaaSafe6
namespace Go.Proofs.Ytmaihiajgjijhaa
open Go.RowKit Go.Shelf
set_option linter.unusedVariables false
set_option linter.unusedSimpArgs false
def EvV.arr (x : EvV) : Array Value := x.cells.toArray
theorem ev_val (x : EvV) : x.val = .agg x.arr := rfl
theorem ev_obj (x : EvV) : Obj.cells x.arr 40 = x.obj := rfl
attribute [local go_sem] alloc_drewN setCell_drewN ev_obj

def shapeE (bad : Int) (x : EvV) : Int := if x.kind < 1 ∨ 5 < x.kind ∨ honestB bad x.org = false then 2 else if x.kind = 2 ∧ (x.rec_.kind < 1 ∨ 4 < x.rec_.kind) then 2 else if x.kind = 5 ∧ x.rcp.aud ≠ x.org then 2 else 0

set_option maxHeartbeats 2000000 in
theorem shape_any (w : World) (bad : Int) (hb0 : 0 ≤ bad) (hb1 : bad ≤ 255) (A : Option Addr) (n c : Nat) (x : EvV) : Calls Try.prog 12 #[.int .u8 bad, .slice A n c, x.val] w fun e w' => e = .returned (.int .i64 (shapeE bad x)) ∧ But (fun _ => False) w w' := by
  have hb : But (fun _ => False) w (w.alloc x.obj) := (But.refl _ w).alloc _
  have H := Holds.new w x.obj
  have c0 := obj_cell H 0 _ rfl
  have c2 := obj_cell H 2 _ rfl
  have c6 := obj_cell H 6 _ rfl
  have c19 := obj_cell H 19 _ rfl
  have CH := Lib.hid (honest_any bad x.org hb0 hb1)
  have HB := Lib.hid hb
  clear hb H
  have hres : ∀ (v : Int), shapeE bad x = v → ∀ (q : Value), q = .int .i64 v → (Ending.returned q = .returned (.int .i64 (shapeE bad x)) ∧ But (fun _ => False) w (w.alloc x.obj)) := fun v h q hq => ⟨by rw [h, hq], HB.out⟩
  have HR := Lib.hid hres
  clear hres
  rw [ev_val]
  by_cases h1 : x.kind < 1
  · have hv := Lib.hid (show shapeE bad x = 2 from by unfold shapeE; simp [h1])
    go_enter Try.func12, Try.ntmps12
    go_wp2_with (first | (go_at_call 21; refine (CH.out _).mono ?_; rintro e w1 ⟨rfl, rfl⟩) | fail)
    go_ret
    exact HR.out _ hv.out _ rfl
  · by_cases h2 : 5 < x.kind
    · have hv := Lib.hid (show shapeE bad x = 2 from by unfold shapeE; simp [h1, h2])
      go_enter Try.func12, Try.ntmps12
      go_wp2_with (first | (go_at_call 21; refine (CH.out _).mono ?_; rintro e w1 ⟨rfl, rfl⟩) | fail)
      go_ret
      exact HR.out _ hv.out _ rfl
    · by_cases h3 : honestB bad x.org = false
      · have hv := Lib.hid (show shapeE bad x = 2 from by unfold shapeE; simp [h1, h2, h3])
        go_enter Try.func12, Try.ntmps12
        go_wp2_with (first | (go_at_call 21; refine (CH.out _).mono ?_; rintro e w1 ⟨rfl, rfl⟩) | fail)
        go_ret
        exact HR.out _ hv.out _ rfl
      · by_cases h4 : x.kind = 2
        · by_cases h5 : x.rec_.kind < 1
          · have hv := Lib.hid (show shapeE bad x = 2 from by unfold shapeE; simp [h1, h2, h3, h4, h5])
            go_enter Try.func12, Try.ntmps12
            go_wp2_with (first | (go_at_call 21; refine (CH.out _).mono ?_; rintro e w1 ⟨rfl, rfl⟩) | fail)
            go_ret
            exact HR.out _ hv.out _ rfl
          · by_cases h6 : 4 < x.rec_.kind
            · have hv := Lib.hid (show shapeE bad x = 2 from by unfold shapeE; simp [h1, h2, h3, h4, h5, h6])
              go_enter Try.func12, Try.ntmps12
              go_wp2_with (first | (go_at_call 21; refine (CH.out _).mono ?_; rintro e w1 ⟨rfl, rfl⟩) | fail)
              go_ret
              exact HR.out _ hv.out _ rfl
            · have hv := Lib.hid (show shapeE bad x = 0 from by unfold shapeE; simp [h1, h2, h3, h4, h5, h6])
              go_enter Try.func12, Try.ntmps12
              go_wp2_with (first | (go_at_call 21; refine (CH.out _).mono ?_; rintro e w1 ⟨rfl, rfl⟩) | fail)
              go_ret
              exact HR.out _ hv.out _ rfl
        · by_cases h7 : x.kind = 5
          · by_cases h8 : x.rcp.aud = x.org
            · have hv := Lib.hid (show shapeE bad x = 0 from by unfold shapeE; simp [h1, h2, h3, h4, h7, h8])
              go_enter Try.func12, Try.ntmps12
              go_wp2_with (first | (go_at_call 21; refine (CH.out _).mono ?_; rintro e w1 ⟨rfl, rfl⟩) | fail)
              go_ret
              exact HR.out _ hv.out _ rfl
            · have hv := Lib.hid (show shapeE bad x = 2 from by unfold shapeE; simp [h1, h2, h3, h4, h7, h8])
              go_enter Try.func12, Try.ntmps12
              go_wp2_with (first | (go_at_call 21; refine (CH.out _).mono ?_; rintro e w1 ⟨rfl, rfl⟩) | fail)
              go_ret
              exact HR.out _ hv.out _ rfl
          · have hv := Lib.hid (show shapeE bad x = 0 from by unfold shapeE; simp [h1, h2, h3, h4, h7])
            go_enter Try.func12, Try.ntmps12
            go_wp2_with (first | (go_at_call 21; refine (CH.out _).mono ?_; rintro e w1 ⟨rfl, rfl⟩) | fail)
            go_ret
            exact HR.out _ hv.out _ rfl
end Go.Proofs.Ytmaihiajgjijhaa
