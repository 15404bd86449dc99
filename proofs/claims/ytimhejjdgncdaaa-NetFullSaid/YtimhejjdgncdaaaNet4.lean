/- A net: Put, where the post is refused. -/
import Derived.Test.YtimhejjdgncdaaaNet3
namespace Go.Proofs.Ytimhejjdgncdaaa
open Go.RowKit
set_option linter.unusedVariables false
set_option linter.unusedSimpArgs false

section
set_option maxHeartbeats 4000000
theorem Put_bad {w : World} {g : Nat} {B : NetB} {s : NetV} (h : NetAt w g B s) (p : PostV) (hp : PostOk p) (ho : okP p = false) :
    Calls Try.prog 8 #[.pointer (some ⟨g, 0, none⟩), p.val] w fun e w' => e = .returned (.tuple #[.int .i64 0, .int .i64 2]) ∧ But (fun _ => False) w w' := by
  have O1 : ∀ w, _ := fun w => org_any p.fr w hp.1
  have O2 : ∀ w, _ := fun w => org_any p.to w hp.2.1
  have T := fun w => termCheck_any p.env w hp.2.2
  have b0 := Holds.new w p.obj
  have bb := Lib.hid ((But.refl (fun _ => False) w).alloc p.obj)
  have hoe : Obj.cells #[Value.int .i64 p.fr, .int .i64 p.to, .string p.env] 23 = p.obj := rfl
  have q0 : (w.alloc p.obj).cell? ⟨w.heap.size, 0, none⟩ = some (.int .i64 p.fr) := b0.cl 0
  have q1 : (w.alloc p.obj).cell? ⟨w.heap.size, 1, none⟩ = some (.int .i64 p.to) := b0.cl 1
  have q2 : (w.alloc p.obj).cell? ⟨w.heap.size, 2, none⟩ = some (.string p.env) := b0.cl 2
  clear h hp b0
  unfold PostV.val PostV.arr PostV.cells
  by_cases k1 : 0 ≤ p.fr ∧ p.fr < 8
  · rw [decide_eq_true k1] at O1
    by_cases k2 : 0 ≤ p.to ∧ p.to < 8
    · rw [decide_eq_true k2] at O2
      by_cases k3 : p.fr = p.to
      · have e3 : (p.fr == p.to) = true := by simpa using k3
        clear k1 k2 k3 ho
        go_enter Try.func8, Try.ntmps8
        go_wp2_with (first
          | (go_at_call_of 20 (Value.int .i64 p.fr); refine (O1 _).mono ?_; rintro _ _ ⟨rfl, rfl⟩)
          | (go_at_call_of 20 (Value.int .i64 p.to); refine (O2 _).mono ?_; rintro _ _ ⟨rfl, rfl⟩))
        go_ret2
        exact ⟨rfl, bb.out⟩
      · have e3 : (p.fr == p.to) = false := by simpa using k3
        have k4 : (termE (bys p.env) != 0) = true := by
          unfold okP at ho
          rw [decide_eq_true k1, decide_eq_true k2, decide_eq_false k3] at ho
          simpa using ho
        clear k1 k2 k3 ho
        go_enter Try.func8, Try.ntmps8
        go_wp2_with (first
          | (go_at_call_of 20 (Value.int .i64 p.fr); refine (O1 _).mono ?_; rintro _ _ ⟨rfl, rfl⟩)
          | (go_at_call_of 20 (Value.int .i64 p.to); refine (O2 _).mono ?_; rintro _ _ ⟨rfl, rfl⟩)
          | (go_at_call 21; refine (T _).mono ?_; rintro _ w1 ⟨rfl, b1⟩; have B1 := Lib.hid (bb.out.trans b1); clear b1))
        go_ret2
        exact ⟨rfl, B1.out⟩
    · rw [decide_eq_false k2] at O2
      clear k1 k2 ho
      go_enter Try.func8, Try.ntmps8
      go_wp2_with (first
        | (go_at_call_of 20 (Value.int .i64 p.fr); refine (O1 _).mono ?_; rintro _ _ ⟨rfl, rfl⟩)
        | (go_at_call_of 20 (Value.int .i64 p.to); refine (O2 _).mono ?_; rintro _ _ ⟨rfl, rfl⟩))
      all_goals try go_ret2
      all_goals exact ⟨rfl, bb.out⟩
  · rw [decide_eq_false k1] at O1
    clear k1 ho
    go_enter Try.func8, Try.ntmps8
    go_wp2_with (first
      | (go_at_call_of 20 (Value.int .i64 p.fr); refine (O1 _).mono ?_; rintro _ _ ⟨rfl, rfl⟩)
      | (go_at_call_of 20 (Value.int .i64 p.to); refine (O2 _).mono ?_; rintro _ _ ⟨rfl, rfl⟩))
    all_goals try go_ret2
    all_goals exact ⟨rfl, bb.out⟩
theorem Put_full {w : World} {g : Nat} {B : NetB} {s : NetV} (h : NetAt w g B s) (p : PostV) (hp : PostOk p) (ho : okP p = true) (hl : s.ps.length = 4096) :
    Calls Try.prog 8 #[.pointer (some ⟨g, 0, none⟩), p.val] w fun e w' => e = .returned (.tuple #[.int .i64 0, .int .i64 4]) ∧ But (fun _ => False) w w' := by
  have hk : (0 ≤ p.fr ∧ p.fr < 8) ∧ (0 ≤ p.to ∧ p.to < 8) ∧ p.fr ≠ p.to ∧ termE (bys p.env) = 0 := by
    unfold okP at ho; simpa [and_assoc] using ho
  obtain ⟨k1, k2, k3, k4⟩ := hk
  have O1 : ∀ w, _ := fun w => org_any p.fr w hp.1
  have O2 : ∀ w, _ := fun w => org_any p.to w hp.2.1
  have T := fun w => termCheck_any p.env w hp.2.2
  rw [decide_eq_true k1] at O1
  rw [decide_eq_true k2] at O2
  rw [k4] at T
  have e3 : (p.fr == p.to) = false := by simpa using k3
  have H := Lib.hid h
  have b0 := Holds.new w p.obj
  have bb := Lib.hid ((But.refl (fun _ => False) w).alloc p.obj)
  have hoe : Obj.cells #[Value.int .i64 p.fr, .int .i64 p.to, .string p.env] 23 = p.obj := rfl
  have q0 : (w.alloc p.obj).cell? ⟨w.heap.size, 0, none⟩ = some (.int .i64 p.fr) := b0.cl 0
  have q1 : (w.alloc p.obj).cell? ⟨w.heap.size, 1, none⟩ = some (.int .i64 p.to) := b0.cl 1
  have q2 : (w.alloc p.obj).cell? ⟨w.heap.size, 2, none⟩ = some (.string p.env) := b0.cl 2
  clear h hp k1 k2 k3 k4 ho b0
  unfold PostV.val PostV.arr PostV.cells
  go_enter Try.func8, Try.ntmps8
  go_wp2_with (first
    | (go_at_call_of 20 (Value.int .i64 p.fr); refine (O1 _).mono ?_; rintro _ _ ⟨rfl, rfl⟩)
    | (go_at_call_of 20 (Value.int .i64 p.to); refine (O2 _).mono ?_; rintro _ _ ⟨rfl, rfl⟩)
    | (go_at_call 21; refine (T _).mono ?_; rintro _ w1 ⟨rfl, b1⟩; have H1 := Lib.hid (H.out.but (bb.out.trans b1) (fun _ _ f => f)); have BB := Lib.hid (bb.out.trans b1); obtain ⟨A, c, ev, i1, i2⟩ := row_val H1.out.ps; have c0 : w1.cell? ⟨g, 0, none⟩ = some B.vp := H1.out.cell 0 _ rfl; rw [ev, hl] at c0; clear ev b1 i1 i2))
  go_ret2
  exact ⟨rfl, BB.out⟩
end
end Go.Proofs.Ytimhejjdgncdaaa
