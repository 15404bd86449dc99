/- Two rows: whether they are the same (posts, texts, numbers). -/
import Derived.Test.YtimhejjdgncdaaaNet8
import Derived.Deep.QuietTactic
import Derived.BigQuiet
import Derived.RegionTactic
namespace Go.Proofs.Ytimhejjdgncdaaa
open Go.RowKit
set_option linter.unusedVariables false
set_option linter.unusedSimpArgs false
attribute [local go_sem] alloc_drewN setCell_drewN

/-- The elements of a row, by their one cell. -/
def OnesAt (w : World) (A : Option Addr) (l : List Value) : Prop := ∀ (i : Nat) (x : Value), l[i]? = some x → ∃ g, A = some ⟨g, 0, none⟩ ∧ w.cell? ⟨g, i, none⟩ = some x
set_option maxHeartbeats 2000000 in
theorem SameP_any {w : World} {A1 A2 : Option Addr} {n1 n2 cc1 cc2 : Nat} {m1 m2 : List PostV} (h1 : PostsAt (fun _ => False) w A1 m1) (h2 : PostsAt (fun _ => False) w A2 m2) (l1 : m1.length = n1) (l2 : m2.length = n2) (b1 : n1 ≤ cc1) (b2 : n2 ≤ cc2) (c1 : cc1 ≤ 9223372036854775807) (c2 : cc2 ≤ 9223372036854775807) :
    Calls Try.prog 14 #[.slice A1 n1 cc1, .slice A2 n2 cc2] w fun e w' => e = .returned (.bool (decide (m1 = m2))) ∧ ∃ n, w' = w.drewN n := by
  have H1 := Lib.hid h1
  have H2 := Lib.hid h2
  have HL1 := Lib.hid l1
  have HL2 := Lib.hid l2
  clear h1 h2 l1 l2
  by_cases hl : n1 = n2
  · subst hl
    have HF : ∀ k n : Nat, k ≤ n1 → m1.take k = m2.take k → ∃ k' n' : Nat, k' ≤ n1 ∧ Value.int .i64 (k : Int) = .int .i64 k' ∧ m1.take k' = m2.take k' ∧ w.drewN n = w.drewN n' := fun k n a b => ⟨k, n, a, rfl, b, rfl⟩
    have HFI := Lib.hid HF
    clear HF
    have g0 : ((n1 : Int) != (n1 : Int)) = false := by simp
    go_enter Try.func14, Try.ntmps14
    go_wp2_with fail
    go_loopw [5] (fun i wr => ∃ k n : Nat, k ≤ n1 ∧ i = .int .i64 k ∧ m1.take k = m2.take k ∧ wr = w.drewN n) (fun i _ => n1 - (intOf i).toNat)
    case atStart => exact ⟨0, 0, Nat.zero_le _, rfl, rfl, rfl⟩
    case round =>
      obtain ⟨k, n, hk, rfl, hq, rfl⟩ := hrel
      have HQ := Lib.hid hq
      clear hq
      by_cases hlt : k < n1
      · have hk1 : k < m1.length := by have := HL1.out; omega
        have hk2 : k < m2.length := by have := HL2.out; omega
        obtain ⟨g, e1, _, c0, c1, c2⟩ := H1.out k m1[k] (List.getElem?_eq_getElem hk1)
        obtain ⟨g', e2, _, d0, d1, d2⟩ := H2.out k m2[k] (List.getElem?_eq_getElem hk2)
        subst e1 e2
        have hstep : m1[k] = m2[k] → m1.take (k + 1) = m2.take (k + 1) := fun h => by
          rw [List.take_succ_eq_append_getElem hk1, List.take_succ_eq_append_getElem hk2, HQ.out, h]
        have hne : m1[k] ≠ m2[k] → ¬ m1 = m2 := fun h he => h (by subst he; rfl)
        have HS := Lib.hid hstep
        have HN := Lib.hid hne
        clear hstep hne
        generalize m1[k] = x at c0 c1 c2 HS HN
        generalize m2[k] = y at d0 d1 d2 HS HN
        obtain ⟨x1, x2, x3⟩ := x
        obtain ⟨y1, y2, y3⟩ := y
        simp only at c0 d0 c1 d1 c2 d2
        by_cases e5 : x1 = y1
        · subst e5
          by_cases e6 : x2 = y2
          · subst e6
            by_cases e7 : x3 = y3
            · subst e7
              go_wp2
              go_quiet (fail)
              go_wp2
              go_roundw
              case rel => exact HFI.out (k + 1) _ (by omega) (HS.out trivial)
              case measure => simp [intOf]; omega
            · have g2 : (x3.toList == y3.toList) = false := by rw [← beq_toListBytes]; exact Bool.eq_false_iff.2 fun e => e7 ((MapKept.bytes_beq _ _).1 e)
              have g3 : (x3 == y3) = false := Bool.eq_false_iff.2 fun e => e7 ((MapKept.bytes_beq _ _).1 e)
              have HE := Lib.hid e7
              clear e7
              go_wp2
              go_quiet (fail)
              go_wp2
              go_ret
              exact ⟨by rw [show decide (m1 = m2) = false from by simpa using HN.out (by intro h; exact HE.out (by injection h))]; rfl, _, World.drewN_drewN _ _ _⟩
          · have g2 : (x2 == y2) = false := by simpa using e6
            have HE := Lib.hid e6
            clear e6
            go_wp2
            go_quiet (fail)
            go_wp2
            go_ret
            exact ⟨by rw [show decide (m1 = m2) = false from by simpa using HN.out (by intro h; exact HE.out (by injection h))]; rfl, _, World.drewN_drewN _ _ _⟩
        · have g2 : (x1 == y1) = false := by simpa using e5
          have HE := Lib.hid e5
          clear e5
          go_wp2
          go_quiet (fail)
          go_wp2
          go_ret
          exact ⟨by rw [show decide (m1 = m2) = false from by simpa using HN.out (by intro h; exact HE.out (by injection h))]; rfl, _, World.drewN_drewN _ _ _⟩
      · obtain rfl : k = n1 := by omega
        go_wp2
        go_ret
        refine ⟨?_, _, rfl⟩
        have := HQ.out
        rw [List.take_of_length_le (by rw [HL1.out]; exact Nat.le_refl _), List.take_of_length_le (by rw [HL2.out]; exact Nat.le_refl _)] at this
        rw [show decide (m1 = m2) = true from by simpa using this]
        rfl
  · have hne : decide (m1 = m2) = false := by
      rw [decide_eq_false_iff_not]
      intro h; subst h; exact hl (by have := HL1.out; have := HL2.out; omega)
    have g1 : ((n1 : Int) == (n2 : Int)) = false := by simp; omega
    have g2 : ((n1 : Int) != (n2 : Int)) = true := by simp; omega
    rw [hne]
    clear hne hl
    go_enter Try.func14, Try.ntmps14
    go_wp2
    go_ret
    exact ⟨rfl, 0, rfl⟩
set_option maxHeartbeats 2000000 in
theorem SameS_any {w : World} {A1 A2 : Option Addr} {n1 n2 cc1 cc2 : Nat} {m1 m2 : List ByteArray} (h1 : OnesAt w A1 (m1.map Value.string)) (h2 : OnesAt w A2 (m2.map Value.string)) (l1 : m1.length = n1) (l2 : m2.length = n2) (b1 : n1 ≤ cc1) (b2 : n2 ≤ cc2) (c1 : cc1 ≤ 9223372036854775807) (c2 : cc2 ≤ 9223372036854775807) :
    Calls Try.prog 19 #[.slice A1 n1 cc1, .slice A2 n2 cc2] w fun e w' => e = .returned (.bool (decide (m1 = m2))) ∧ ∃ n, w' = w.drewN n := by
  have H1 := Lib.hid h1
  have H2 := Lib.hid h2
  have HL1 := Lib.hid l1
  have HL2 := Lib.hid l2
  clear h1 h2 l1 l2
  by_cases hl : n1 = n2
  · subst hl
    have HF : ∀ k n : Nat, k ≤ n1 → m1.take k = m2.take k → ∃ k' n' : Nat, k' ≤ n1 ∧ Value.int .i64 (k : Int) = .int .i64 k' ∧ m1.take k' = m2.take k' ∧ w.drewN n = w.drewN n' := fun k n a b => ⟨k, n, a, rfl, b, rfl⟩
    have HFI := Lib.hid HF
    clear HF
    have g0 : ((n1 : Int) != (n1 : Int)) = false := by simp
    go_enter Try.func19, Try.ntmps19
    go_wp2_with fail
    go_loopw [5] (fun i wr => ∃ k n : Nat, k ≤ n1 ∧ i = .int .i64 k ∧ m1.take k = m2.take k ∧ wr = w.drewN n) (fun i _ => n1 - (intOf i).toNat)
    case atStart => exact ⟨0, 0, Nat.zero_le _, rfl, rfl, rfl⟩
    case round =>
      obtain ⟨k, n, hk, rfl, hq, rfl⟩ := hrel
      have HQ := Lib.hid hq
      clear hq
      by_cases hlt : k < n1
      · have hk1 : k < m1.length := by have := HL1.out; omega
        have hk2 : k < m2.length := by have := HL2.out; omega
        obtain ⟨g, e1, c0⟩ := H1.out k (.string m1[k]) (by simp [List.getElem?_eq_getElem hk1])
        obtain ⟨g', e2, d0⟩ := H2.out k (.string m2[k]) (by simp [List.getElem?_eq_getElem hk2])
        subst e1 e2
        have hstep : m1[k] = m2[k] → m1.take (k + 1) = m2.take (k + 1) := fun h => by
          rw [List.take_succ_eq_append_getElem hk1, List.take_succ_eq_append_getElem hk2, HQ.out, h]
        have hne : m1[k] ≠ m2[k] → ¬ m1 = m2 := fun h he => h (by subst he; rfl)
        have HS := Lib.hid hstep
        have HN := Lib.hid hne
        clear hstep hne
        generalize m1[k] = x at c0 HS HN
        generalize m2[k] = y at d0 HS HN
        by_cases e5 : x = y
        · subst e5
          go_wp2
          go_quiet (fail)
          go_wp2
          go_roundw
          case rel => exact HFI.out (k + 1) _ (by omega) (HS.out trivial)
          case measure => simp [intOf]; omega
        · have g2 : (x.toList == y.toList) = false := by rw [← beq_toListBytes]; exact Bool.eq_false_iff.2 fun e => e5 ((MapKept.bytes_beq _ _).1 e)
          have g3 : (x == y) = false := Bool.eq_false_iff.2 fun e => e5 ((MapKept.bytes_beq _ _).1 e)
          have HE := Lib.hid e5
          clear e5
          go_wp2
          go_quiet (fail)
          go_wp2
          go_ret
          exact ⟨by rw [show decide (m1 = m2) = false from by simpa using HN.out (HE.out)]; rfl, _, World.drewN_drewN _ _ _⟩
      · obtain rfl : k = n1 := by omega
        go_wp2
        go_ret
        refine ⟨?_, _, rfl⟩
        have := HQ.out
        rw [List.take_of_length_le (by rw [HL1.out]; exact Nat.le_refl _), List.take_of_length_le (by rw [HL2.out]; exact Nat.le_refl _)] at this
        rw [show decide (m1 = m2) = true from by simpa using this]
        rfl
  · have hne : decide (m1 = m2) = false := by
      rw [decide_eq_false_iff_not]
      intro h; subst h; exact hl (by have := HL1.out; have := HL2.out; omega)
    have g1 : ((n1 : Int) == (n2 : Int)) = false := by simp; omega
    have g2 : ((n1 : Int) != (n2 : Int)) = true := by simp; omega
    rw [hne]
    clear hne hl
    go_enter Try.func19, Try.ntmps19
    go_wp2
    go_ret
    exact ⟨rfl, 0, rfl⟩
set_option maxHeartbeats 2000000 in
theorem SameI_any {w : World} {A1 A2 : Option Addr} {n1 n2 cc1 cc2 : Nat} {m1 m2 : List Int} (h1 : OnesAt w A1 (m1.map (Value.int .i64))) (h2 : OnesAt w A2 (m2.map (Value.int .i64))) (l1 : m1.length = n1) (l2 : m2.length = n2) (b1 : n1 ≤ cc1) (b2 : n2 ≤ cc2) (c1 : cc1 ≤ 9223372036854775807) (c2 : cc2 ≤ 9223372036854775807) :
    Calls Try.prog 18 #[.slice A1 n1 cc1, .slice A2 n2 cc2] w fun e w' => e = .returned (.bool (decide (m1 = m2))) ∧ ∃ n, w' = w.drewN n := by
  have H1 := Lib.hid h1
  have H2 := Lib.hid h2
  have HL1 := Lib.hid l1
  have HL2 := Lib.hid l2
  clear h1 h2 l1 l2
  by_cases hl : n1 = n2
  · subst hl
    have HF : ∀ k n : Nat, k ≤ n1 → m1.take k = m2.take k → ∃ k' n' : Nat, k' ≤ n1 ∧ Value.int .i64 (k : Int) = .int .i64 k' ∧ m1.take k' = m2.take k' ∧ w.drewN n = w.drewN n' := fun k n a b => ⟨k, n, a, rfl, b, rfl⟩
    have HFI := Lib.hid HF
    clear HF
    have g0 : ((n1 : Int) != (n1 : Int)) = false := by simp
    go_enter Try.func18, Try.ntmps18
    go_wp2_with fail
    go_loopw [5] (fun i wr => ∃ k n : Nat, k ≤ n1 ∧ i = .int .i64 k ∧ m1.take k = m2.take k ∧ wr = w.drewN n) (fun i _ => n1 - (intOf i).toNat)
    case atStart => exact ⟨0, 0, Nat.zero_le _, rfl, rfl, rfl⟩
    case round =>
      obtain ⟨k, n, hk, rfl, hq, rfl⟩ := hrel
      have HQ := Lib.hid hq
      clear hq
      by_cases hlt : k < n1
      · have hk1 : k < m1.length := by have := HL1.out; omega
        have hk2 : k < m2.length := by have := HL2.out; omega
        obtain ⟨g, e1, c0⟩ := H1.out k (.int .i64 m1[k]) (by simp [List.getElem?_eq_getElem hk1])
        obtain ⟨g', e2, d0⟩ := H2.out k (.int .i64 m2[k]) (by simp [List.getElem?_eq_getElem hk2])
        subst e1 e2
        have hstep : m1[k] = m2[k] → m1.take (k + 1) = m2.take (k + 1) := fun h => by
          rw [List.take_succ_eq_append_getElem hk1, List.take_succ_eq_append_getElem hk2, HQ.out, h]
        have hne : m1[k] ≠ m2[k] → ¬ m1 = m2 := fun h he => h (by subst he; rfl)
        have HS := Lib.hid hstep
        have HN := Lib.hid hne
        clear hstep hne
        generalize m1[k] = x at c0 HS HN
        generalize m2[k] = y at d0 HS HN
        by_cases e5 : x = y
        · subst e5
          go_wp2
          go_quiet (fail)
          go_wp2
          go_roundw
          case rel => exact HFI.out (k + 1) _ (by omega) (HS.out trivial)
          case measure => simp [intOf]; omega
        · have g2 : (x == y) = false := by simpa using e5
          have HE := Lib.hid e5
          clear e5
          go_wp2
          go_quiet (fail)
          go_wp2
          go_ret
          exact ⟨by rw [show decide (m1 = m2) = false from by simpa using HN.out (HE.out)]; rfl, _, World.drewN_drewN _ _ _⟩
      · obtain rfl : k = n1 := by omega
        go_wp2
        go_ret
        refine ⟨?_, _, rfl⟩
        have := HQ.out
        rw [List.take_of_length_le (by rw [HL1.out]; exact Nat.le_refl _), List.take_of_length_le (by rw [HL2.out]; exact Nat.le_refl _)] at this
        rw [show decide (m1 = m2) = true from by simpa using this]
        rfl
  · have hne : decide (m1 = m2) = false := by
      rw [decide_eq_false_iff_not]
      intro h; subst h; exact hl (by have := HL1.out; have := HL2.out; omega)
    have g1 : ((n1 : Int) == (n2 : Int)) = false := by simp; omega
    have g2 : ((n1 : Int) != (n2 : Int)) = true := by simp; omega
    rw [hne]
    clear hne hl
    go_enter Try.func18, Try.ntmps18
    go_wp2
    go_ret
    exact ⟨rfl, 0, rfl⟩
end Go.Proofs.Ytimhejjdgncdaaa
