/- The law's own small functions: alive, heavy. -/
import Derived.Test.YtimhejjdgncdaaaNet9
import Derived.Deep.DeepCutAuto
namespace Go.Proofs.Ytimhejjdgncdaaa
open Go.RowKit
set_option linter.unusedVariables false
set_option linter.unusedSimpArgs false
attribute [local go_sem] alloc_drewN setCell_drewN

def pA : PostV := ⟨0, 1, ⟨#[100, 1, 120]⟩⟩
def pB : PostV := ⟨1, 1, ⟨#[100, 1, 120]⟩⟩
theorem pA_ok : PostOk pA := ⟨by decide, by decide, by decide⟩
theorem pB_ok : PostOk pB := ⟨by decide, by decide, by decide⟩
theorem okP_A : okP pA = true := by rfl
theorem okP_B : okP pB = false := by rfl
theorem ones_of {w : World} {base n : Nat} {e : TypeId} {v : Value} {xs : List Value} (h : w.ownsRow base e 1 v n xs) : ∃ A c, v = .slice A n c ∧ n ≤ c ∧ c ≤ 9223372036854775807 ∧ OnesAt w A xs ∧ (∀ k, v.ownBlock = some k → base ≤ k ∧ k < w.heap.size) := by
  have hlt := h.lt
  obtain ⟨A, c, e1, h1, h2⟩ := row_val h
  refine ⟨A, c, e1, h1, h2, fun i x hi => ?_, hlt⟩
  have hil : i < xs.length := (List.getElem?_eq_some_iff.1 hi).1
  rcases h.2 with ⟨_, hn⟩ | ⟨g, cap, cur, ev, _, hb, _⟩
  · have := h.1; omega
  · rw [ev] at e1 h
    cases e1
    exact ⟨g, rfl, by rw [h.cellAt i (by have := h.1; omega)]; exact hi⟩
theorem OnesAt.but {w w1 : World} {p : Nat → Prop} {A : Option Addr} {l : List Value} (h : OnesAt w A l) (k : But p w w1) (hp : ∀ g, A = some ⟨g, 0, none⟩ → ¬ p g) : OnesAt w1 A l := fun i x hi => by
  obtain ⟨g, e, c⟩ := h i x hi
  exact ⟨g, e, k.cell c (hp g e)⟩
theorem OnesAt.lit (w : World) (cs : List Value) (t : TypeId) : OnesAt (w.alloc (.cells cs.toArray t)) (some ⟨w.heap.size, 0, none⟩) cs := fun i x hi => ⟨w.heap.size, rfl, by
  rw [(Holds.new w (.cells cs.toArray t)).cl i]; simpa using hi⟩
theorem sameI_01 {w : World} {A : Option Addr} {c : Nat} (h : OnesAt w A (natsOf [0, 1])) (h1 : [0, 1].length ≤ c) (h2 : c ≤ 9223372036854775807) :
    Calls Try.prog 18 #[.slice A [0, 1].length c, .slice (some ⟨w.heap.size, 0, none⟩) 2 2] (w.alloc (.cells #[.int .i64 0, .int .i64 1] 3)) fun e w' => e = .returned (.bool true) ∧ But (fun _ => False) w w' := by
  have hal : But (fun _ => False) w (w.alloc (.cells #[.int .i64 0, .int .i64 1] 3)) := (But.refl _ w).alloc _
  refine (SameI_any (m1 := [0, 1]) (m2 := [0, 1]) (h.but hal (fun _ _ f => f)) (OnesAt.lit w _ _) rfl rfl h1 (Nat.le_refl _) h2 (by decide)).mono ?_
  rintro e w' ⟨rfl, n, rfl⟩
  exact ⟨by simp, hal.drewN n⟩
theorem sameS_A {w : World} {A : Option Addr} {c : Nat} (h : OnesAt w A (strsOf ((net0.next pA).next pA).ps [0])) (h1 : [0].length ≤ c) (h2 : c ≤ 9223372036854775807) :
    Calls Try.prog 19 #[.slice A [0].length c, .slice (some ⟨w.heap.size, 0, none⟩) 1 1] (w.alloc (.cells #[.string ⟨#[100, 1, 120]⟩] 9)) fun e w' => e = .returned (.bool true) ∧ But (fun _ => False) w w' := by
  have hal : But (fun _ => False) w (w.alloc (.cells #[.string ⟨#[100, 1, 120]⟩] 9)) := (But.refl _ w).alloc _
  refine (SameS_any (m1 := [⟨#[100, 1, 120]⟩]) (m2 := [⟨#[100, 1, 120]⟩]) (h.but hal (fun _ _ f => f)) (OnesAt.lit w _ _) rfl rfl h1 (Nat.le_refl _) h2 (by decide)).mono ?_
  rintro e w' ⟨rfl, n, rfl⟩
  exact ⟨by simp, hal.drewN n⟩
def sA : NetV := (net0.next pA).next pA
set_option maxHeartbeats 4000000 in
theorem alive30_any (w : World) : Calls Try.prog 6 #[] w fun e w' => e = .returned (.bool true) ∧ But (fun _ => False) w w' := by
  have hmk : ∀ W : World, Obj.cells #[Value.int .i64 0, .int .i64 1, .string ⟨#[100, 1, 120]⟩] 23 = pA.obj := fun _ => rfl
  go_enter Try.func6, Try.ntmps6
  go_wp2_with (first
    | (go_at_call 7; refine (New_any w).mono ?_; rintro e w1 ⟨g, B, rfl, hN, hb, hfr⟩; have C1 := Put_ok (w := w1.alloc pA.obj) (hN.but ((But.refl (fun _ => False) w1).alloc pA.obj) (fun _ _ f => f)) pA pA_ok okP_A (by decide); rw [show ((net0.ps.length : Nat) : Int) = 0 from rfl] at C1; have HN := Lib.hid hN; have HB := Lib.hid hb; have HFR := Lib.hid hfr; have hx := hmk w1; have p0 : (w1.alloc pA.obj).cell? ⟨w1.heap.size, 0, none⟩ = some (.int .i64 0) := (Holds.new w1 pA.obj).cl 0; have p1 : (w1.alloc pA.obj).cell? ⟨w1.heap.size, 1, none⟩ = some (.int .i64 1) := (Holds.new w1 pA.obj).cl 1; have p2 : (w1.alloc pA.obj).cell? ⟨w1.heap.size, 2, none⟩ = some (.string ⟨#[100, 1, 120]⟩) := (Holds.new w1 pA.obj).cl 2; clear hN hb hfr)
    | (go_at_call 8; refine C1.mono ?_; rintro e w2 ⟨rfl, B2, h2, b2, f2⟩; have C2 := Put_ok h2 pA pA_ok okP_A (by decide); rw [show (((net0.next pA).ps.length : Nat) : Int) = 1 from rfl] at C2; have hbx := (Holds.new w1 pA.obj).but b2 (fun m => by have := HN.out.lt _ m; omega);
        have q0 : w2.cell? ⟨w1.heap.size, 0, none⟩ = some (.int .i64 0) := hbx.cl 0; have q1 : w2.cell? ⟨w1.heap.size, 1, none⟩ = some (.int .i64 1) := hbx.cl 1; have q2 : w2.cell? ⟨w1.heap.size, 2, none⟩ = some (.string ⟨#[100, 1, 120]⟩) := hbx.cl 2; have H2 := Lib.hid h2; have HB2 := Lib.hid b2; have HF2 := Lib.hid f2; clear C1 hbx h2 b2 f2)
    | (go_at_call 8; refine C2.mono ?_; rintro e w3 ⟨rfl, B3, h3, b3, f3⟩; have C3 := Put_bad h3 pB pB_ok okP_B; have H3 := Lib.hid h3; have HB3 := Lib.hid b3; have HF3 := Lib.hid f3; clear C2 h3 b3 f3)
    | (go_at_call 8; refine C3.mono ?_; rintro e w4 ⟨rfl, b4⟩; have h4 := H3.out.but b4 (fun _ _ f => f); have C4 := Times_any h4 1 (by decide); rw [show ((net0.next pA).next pA).time 1 = 2 from rfl] at C4; have H4 := Lib.hid h4; have HB4 := Lib.hid b4; clear C3 h4 b4)
    | (go_at_call 10; refine C4.mono ?_; rintro e w5 ⟨rfl, b5⟩; have h5 := H4.out.but b5 (fun _ _ f => f); have C5 := To_any h5 1; rw [show nums (fun _ p => p.to == 1) ((net0.next pA).next pA).ps ((net0.next pA).next pA).ps.length = [0, 1] from rfl] at C5; have H5 := Lib.hid h5; have HB5 := Lib.hid b5; clear C4 h5 b5)
    | (go_at_call 16; refine C5.mono ?_; rintro e w6 ⟨v, rfl, hv, b6⟩; have h6 := H5.out.but b6 (fun _ _ f => f); obtain ⟨A6, c6, rfl, l6, m6, o6, _⟩ := ones_of hv; have C6 := sameI_01 o6 l6 m6; have H6 := Lib.hid h6; have HB6 := Lib.hid b6; clear C5 h6 b6 hv o6 l6 m6)
    | (go_at_call 18; refine C6.mono ?_; rintro e w7 ⟨rfl, b7⟩; have h7 := H6.out.but b7 (fun _ _ f => f); have C7 := Seen_any h7; rw [show nums (fun k p => valIn p.env ((net0.next pA).next pA).fst == k) ((net0.next pA).next pA).ps ((net0.next pA).next pA).ps.length = [0] from rfl] at C7; have H7 := Lib.hid h7; have HB7 := Lib.hid b7; clear C6 h7 b7)
    | (go_at_call 11; refine C7.mono ?_; rintro e w8 ⟨v, rfl, hv, b8⟩; obtain ⟨A8, c8, rfl, l8, m8, o8, _⟩ := ones_of hv; have C8 := sameS_A o8 l8 m8; have HB8 := Lib.hid b8; clear C7 b8 hv o8 l8 m8)
    | (go_at_call 19; refine C8.mono ?_; rintro e w9 ⟨rfl, b9⟩; have HB9 := Lib.hid b9; clear C8 b9))
  go_ret
  refine ⟨rfl, ?_⟩
  have k1 : But (fun _ => False) w (w1.alloc pA.obj) := HB.out.alloc _
  have k2 : But (fun _ => False) w w2 := k1.then_ HB2.out (fun i hi => .inr (HFR.out i hi))
  have k3 : But (fun _ => False) w w3 := k2.then_ HB3.out (fun i hi => .inr (by
    rcases HF2.out i hi with h | h
    · exact HFR.out i h
    · have := k1.size; omega))
  exact (((((((k3.trans HB4.out).trans HB5.out).trans HB6.out).trans HB7.out).trans HB8.out).trans HB9.out))
end Go.Proofs.Ytimhejjdgncdaaa
