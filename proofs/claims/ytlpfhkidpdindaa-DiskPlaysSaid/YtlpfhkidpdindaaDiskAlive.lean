/- The chapter's example of the disk, and what no disk answers. -/
import Derived.Test.YtlpfhkidpdindaaDisk4
namespace Go.Proofs.Ytlpfhkidpdindaa
open Go.RowKit
set_option linter.unusedVariables false
set_option linter.unusedSimpArgs false
attribute [local go_sem] alloc_drewN setCell_drewN

theorem alive14_any (w : World) : Calls Try.prog 7 #[] w fun e w' => e = .returned (.bool true) ∧ But (fun _ => False) w w' := by
  go_enter Try.func7, Try.ntmps7
  go_wp2_with fail
  refine (New_yes 4 w (by omega) (by omega)).mono ?_
  rintro e w1 ⟨p, rfl, h1, hp, b1⟩
  have c2 := Append_any h1 ⟨#[97, 98, 99]⟩ (by decide)
  rw [show DS.append _ _ = (0, (⟨[97, 98, 99], 0, false, false, 0, 4⟩ : DS)) from rfl] at c2
  have C2 := Lib.hid c2
  clear c2 h1
  go_wp2_with fail
  refine C2.out.mono ?_
  rintro e w2 ⟨rfl, h2, b2⟩
  have c3 := Append_any h2 ⟨#[100, 101]⟩ (by decide)
  rw [show DS.append _ _ = (4, (⟨[97, 98, 99], 0, false, false, 0, 4⟩ : DS)) from rfl] at c3
  have C3 := Lib.hid c3
  clear c3 C2 h2
  go_wp2_with fail
  refine C3.out.mono ?_
  rintro e w3 ⟨rfl, h3, b3⟩
  have c4 := Sync_any h3
  rw [show DS.sync _ = (0, (⟨[97, 98, 99], 3, false, false, 0, 4⟩ : DS)) from rfl] at c4
  have C4 := Lib.hid c4
  clear c4 C3 h3
  go_wp2_with fail
  refine C4.out.mono ?_
  rintro e w4 ⟨rfl, h4, b4⟩
  have c5 := Append_any h4 ⟨#[100]⟩ (by decide)
  rw [show DS.append _ _ = (0, (⟨[97, 98, 99, 100], 3, false, false, 0, 4⟩ : DS)) from rfl] at c5
  have C5 := Lib.hid c5
  clear c5 C4 h4
  go_wp2_with fail
  refine C5.out.mono ?_
  rintro e w5 ⟨rfl, h5, b5⟩
  have c6 := Crash_any h5 0 (by omega) (by omega)
  rw [show DS.crash 0 _ = (⟨[97, 98, 99], 3, false, false, 0, 4⟩ : DS) from rfl] at c6
  have C6 := Lib.hid c6
  clear c6 C5 h5
  go_wp2_with fail
  refine C6.out.mono ?_
  rintro e w6 ⟨rfl, h6, b6⟩
  have C7 := Lib.hid (Bytes_any h6)
  have C8 := Lib.hid (Room_any h6)
  clear C6 h6
  go_wp2_with fail
  refine C7.out.mono ?_
  rintro e w7 ⟨rfl, rfl⟩
  go_wp2_with fail
  refine C8.out.mono ?_
  rintro e w7 ⟨rfl, n, rfl⟩
  go_wp2
  go_ret
  refine ⟨rfl, (But.drewN ?_ _)⟩
  have hb := ((((b2.trans b3).trans b4).trans b5).trans b6)
  exact b1.then_ hb (fun i hi => .inr (by omega))

set_option maxHeartbeats 1000000 in
theorem nothing14_any (w : World) : Calls Try.prog 22 #[] w fun e w' => e = .returned (.bool true) ∧ But (fun _ => False) w w' := by
  have hmf := hmakeFunc
  go_enter Try.func22, Try.ntmps22
  go_wp2
  go_end0
  go_wp2
  refine bodyPost_ret (results_none rfl _ _ _) rfl ?_
  go_wp2
  go_ret
  exact ⟨rfl, by repeat (first | exact But.refl _ _ | apply But.alloc | apply But.drewN | apply But.drew)⟩
end Go.Proofs.Ytlpfhkidpdindaa
