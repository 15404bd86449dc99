/- Small callees of the history's looks: lists of members, organisations, sets. -/
import Derived.Test.YtmaihiajgjijhaaSafe0
import Derived.Deep.QuietTactic
import Derived.BigQuiet
import Derived.RegionTactic
namespace Go.Proofs.Ytmaihiajgjijhaa
open Go.RowKit
set_option linter.unusedVariables false
set_option linter.unusedSimpArgs false
attribute [local go_sem] alloc_drewN setCell_drewN

theorem MemsAt.get {w : World} {s : SlV} {ms : List MemV} (h : MemsAt w s ms) (k : Nat) (hk : k < ms.length) : ∃ g off, s.A = some ⟨g, off, none⟩ ∧ g < w.heap.size ∧ w.cell? ⟨g, off + k * 2, none⟩ = some (.int .i64 ms[k].org) ∧ w.cell? ⟨g, off + k * 2 + 1, none⟩ = some (.string ms[k].dig) ∧
    (-9223372036854775808 ≤ ms[k].org ∧ ms[k].org ≤ 9223372036854775807) ∧ ms[k].dig.size ≤ maxLen := by
  obtain ⟨g, off, c, hA, hg, ⟨rfl, h1, h2⟩, _, hc⟩ := h.2.2.2.elem (by decide) k ms[k] (List.getElem?_eq_getElem hk)
  exact ⟨g, off, hA, hg, hc 0 _ rfl, hc 1 _ rfl, h1, h2⟩

set_option maxHeartbeats 1000000 in
theorem Equal_mems {w : World} {s1 s2 : SlV} {m1 m2 : List MemV} (h1 : MemsAt w s1 m1) (h2 : MemsAt w s2 m2) :
    Calls Try.prog 34 #[.slice s1.A s1.n s1.c, .slice s2.A s2.n s2.c] w fun e w' => e = .returned (.bool (decide (m1 = m2))) ∧ ∃ n, w' = w.drewN n := by
  obtain ⟨A1, n1, cc1⟩ := s1
  obtain ⟨A2, n2, cc2⟩ := s2
  have l1 : m1.length = n1 := h1.1
  have l2 : m2.length = n2 := h2.1
  have b1 : n1 ≤ cc1 := h1.2.1
  have b2 : n2 ≤ cc2 := h2.2.1
  have c1 : cc1 ≤ 9223372036854775807 := h1.2.2.1
  have c2 : cc2 ≤ 9223372036854775807 := h2.2.2.1
  have H1 := Lib.hid h1
  have H2 := Lib.hid h2
  have HL1 := Lib.hid l1
  have HL2 := Lib.hid l2
  clear h1 h2 l1 l2
  simp only
  by_cases hl : n1 = n2
  · subst hl
    have HF : ∀ k n : Nat, k ≤ n1 → m1.take k = m2.take k → ∃ k' n' : Nat, k' ≤ n1 ∧ Value.int .i64 (k : Int) = .int .i64 k' ∧ m1.take k' = m2.take k' ∧ w.drewN n = w.drewN n' := fun k n a b => ⟨k, n, a, rfl, b, rfl⟩
    have HFI := Lib.hid HF
    clear HF
    go_enter Try.func34, Try.ntmps34
    go_wp2_with fail
    go_loopw [13] (fun i wr => ∃ k n : Nat, k ≤ n1 ∧ i = .int .i64 k ∧ m1.take k = m2.take k ∧ wr = w.drewN n) (fun i _ => n1 - (intOf i).toNat)
    case atStart => exact ⟨0, 0, Nat.zero_le _, rfl, rfl, rfl⟩
    case round =>
      obtain ⟨k, n, hk, rfl, hq, rfl⟩ := hrel
      have HQ := Lib.hid hq
      clear hq
      by_cases hlt : k < n1
      · have hk1 : k < m1.length := by have := HL1.out; omega
        have hk2 : k < m2.length := by have := HL2.out; omega
        obtain ⟨g, off, e1, hg, c0, c1', ⟨o1, o2⟩, z1⟩ := H1.out.get k hk1
        obtain ⟨g', off', e2, hg', d0, d1, ⟨p1, p2⟩, z2⟩ := H2.out.get k hk2
        simp only at e1 e2
        subst e1 e2
        have hstep : m1[k] = m2[k] → m1.take (k + 1) = m2.take (k + 1) := fun h => by
          rw [List.take_succ_eq_append_getElem hk1, List.take_succ_eq_append_getElem hk2, HQ.out, h]
        have hne : m1[k] ≠ m2[k] → ¬ m1 = m2 := fun h he => h (by subst he; rfl)
        have HS := Lib.hid hstep
        have HN := Lib.hid hne
        clear hstep hne
        generalize m1[k] = x at c0 c1' o1 o2 z1 HS HN
        generalize m2[k] = y at d0 d1 p1 p2 z2 HS HN
        obtain ⟨x1, x2⟩ := x
        obtain ⟨y1, y2⟩ := y
        simp only at c0 c1' d0 d1 o1 o2 p1 p2
        by_cases e1 : x1 = y1
        · subst e1
          by_cases e2 : x2 = y2
          · subst e2
            go_wp2
            go_quiet (fail)
            go_wp2
            go_roundw
            case rel => exact HFI.out (k + 1) _ (by omega) (HS.out trivial)
            case measure => simp [intOf]; omega
          · have g2 : (x2.toList == y2.toList) = false := by
              rw [beq_eq_false_iff_ne, ByteArray.toList_eq, ByteArray.toList_eq]
              intro h; exact e2 (WideShapes.bytes_inj h)
            have HE := Lib.hid e2
            clear e2
            go_wp2
            go_quiet (fail)
            go_wp2
            go_ret
            exact ⟨by rw [show decide (m1 = m2) = false from by simpa using HN.out (by intro h; exact HE.out (by injection h))]; rfl, _, World.drewN_drewN _ _ _⟩
        · have g2 : (x1 == y1) = false := by simpa using e1
          have HE := Lib.hid e1
          clear e1
          go_wp2
          go_quiet (fail)
          go_wp2
          go_ret
          exact ⟨by rw [show decide (m1 = m2) = false from by simpa using HN.out (by intro h; exact HE.out (by injection h))]; rfl, _, World.drewN_drewN _ _ _⟩
      · obtain rfl : k = n1 := by omega
        go_wp2
        go_ret
        refine ⟨?_, _, rfl⟩
        have := HQ.out
        rw [List.take_of_length_le (by rw [HL1.out]; exact Nat.le_refl _), List.take_of_length_le (by rw [HL2.out]; exact Nat.le_refl _)] at this
        rw [show decide (m1 = m2) = true from by simpa using this]
        rfl
  · have hne : decide (m1 = m2) = false := by
      rw [decide_eq_false_iff_not]
      intro h; subst h; exact hl (by have := HL1.out; have := HL2.out; omega)
    have g1 : ((n1 : Int) == (n2 : Int)) = false := by simp; omega
    have g2 : ((n1 : Int) != (n2 : Int)) = true := by simp; omega
    rw [hne]
    clear hne hl
    go_enter Try.func34, Try.ntmps34
    go_wp2
    go_ret
    exact ⟨rfl, 0, rfl⟩

/-- A list: what was asked, and of whom: as a value. -/
def lstVal (t : TxnV) (aud : Int) (s : SlV) : Value := .agg #[.int .i64 t.c, .int .i64 t.e, .int .i64 t.s, .int .i64 aud, .slice s.A s.n s.c]
theorem txn_eq (t u : TxnV) : decide (t = u) = (decide (t.c = u.c) && decide (t.e = u.e) && decide (t.s = u.s)) := by
  rw [Bool.eq_iff_iff]; obtain ⟨a, b, c⟩ := t; obtain ⟨d, e, f⟩ := u; simp [and_assoc]
theorem same_any {w : World} (t t' : TxnV) (aud aud' : Int) {s s' : SlV} {m m' : List MemV} (h : MemsAt w s m) (h' : MemsAt w s' m') :
    Calls Try.prog 29 #[lstVal t aud s, lstVal t' aud' s'] w fun e w' => e = .returned (.bool (decide (t = t') && decide (aud = aud') && decide (m = m'))) ∧ But (fun _ => False) w w' := by
  have hb : But (fun _ => False) w ((w.alloc (.cells #[.int .i64 t.c, .int .i64 t.e, .int .i64 t.s, .int .i64 aud, .slice s.A s.n s.c] 56)).alloc (.cells #[.int .i64 t'.c, .int .i64 t'.e, .int .i64 t'.s, .int .i64 aud', .slice s'.A s'.n s'.c] 56)) := ((But.refl _ w).alloc _).alloc _
  have C := Lib.hid (Equal_mems (h.but hb) (h'.but hb))
  clear h h'
  rw [txn_eq]
  obtain ⟨tc, te, ts⟩ := t
  obtain ⟨uc, ue, us⟩ := t'
  unfold lstVal
  simp only at C hb ⊢
  generalize decide (m = m') = q at C
  by_cases h1 : tc = uc
  · subst h1
    by_cases h2 : te = ue
    · subst h2
      by_cases h3 : ts = us
      · subst h3
        by_cases h4 : aud = aud'
        · subst h4
          simp only [decide_true, Bool.true_and]
          go_enter Try.func29, Try.ntmps29
          go_wp2_with (go_at_call 34; refine C.out.mono ?_; rintro e w1 ⟨rfl, n, rfl⟩)
          go_ret
          exact ⟨rfl, hb.drewN _⟩
        · have g : (aud == aud') = false := by simpa using h4
          rw [show decide (aud = aud') = false from by simpa using h4]
          simp only [Bool.and_false, Bool.false_and]
          clear h4
          go_enter Try.func29, Try.ntmps29
          go_wp2
          go_ret
          exact ⟨rfl, hb⟩
      · have g : (ts == us) = false := by simpa using h3
        rw [show decide (ts = us) = false from by simpa using h3]
        simp only [Bool.and_false, Bool.false_and]
        clear h3
        go_enter Try.func29, Try.ntmps29
        go_wp2
        go_ret
        exact ⟨rfl, hb⟩
    · have g : (te == ue) = false := by simpa using h2
      rw [show decide (te = ue) = false from by simpa using h2]
      simp only [Bool.and_false, Bool.false_and]
      clear h2
      go_enter Try.func29, Try.ntmps29
      go_wp2
      go_ret
      exact ⟨rfl, hb⟩
  · have g : (tc == uc) = false := by simpa using h1
    rw [show decide (tc = uc) = false from by simpa using h1]
    simp only [Bool.and_false, Bool.false_and]
    clear h1
    go_enter Try.func29, Try.ntmps29
    go_wp2
    go_ret
    exact ⟨rfl, hb⟩
theorem bits_fin : ∀ b : Fin 256, ∀ k : Fin 8, (bits .and .u8 (b.val : Int) ((2 ^ k.val : Nat) : Int) != 0) = decide ((b.val : Int) / 2 ^ k.val % 2 = 1) := by decide +kernel
theorem bits_pow (bad : Int) (k : Nat) (hb0 : 0 ≤ bad) (hb1 : bad ≤ 255) (hk : k < 8) : (bits .and .u8 bad ((2 ^ k : Nat) : Int) != 0) = decide (bad / 2 ^ k % 2 = 1) := by
  obtain ⟨b, rfl⟩ := Int.eq_ofNat_of_zero_le hb0
  exact bits_fin ⟨b, by omega⟩ ⟨k, hk⟩
theorem In_any (bad k : Int) (hb0 : 0 ≤ bad) (hb1 : bad ≤ 255) (w : World) : Calls Try.prog 30 #[.int .u8 bad, .int .i64 k] w fun e w' => e = .returned (.bool (decide (0 ≤ k ∧ k < 8) && decide (bad / 2 ^ k.toNat % 2 = 1))) ∧ w' = w := by
  by_cases h0 : 0 ≤ k
  · by_cases h1 : k < 8
    · obtain ⟨n, rfl⟩ := Int.eq_ofNat_of_zero_le h0
      have hn : n < 8 := by omega
      rw [show (decide (0 ≤ (n : Int) ∧ (n : Int) < 8) && decide (bad / 2 ^ (n : Int).toNat % 2 = 1)) = (bits .and .u8 bad ((2 ^ n : Nat) : Int) != 0) from by rw [bits_pow bad n hb0 hb1 hn]; simp; intro _; omega]
      have : n = 0 ∨ n = 1 ∨ n = 2 ∨ n = 3 ∨ n = 4 ∨ n = 5 ∨ n = 6 ∨ n = 7 := by omega
      rcases this with rfl | rfl | rfl | rfl | rfl | rfl | rfl | rfl
      all_goals
        go_enter Try.func30, Try.ntmps30
        go_wp2
        go_ret
        exact ⟨rfl, rfl⟩
    · rw [show decide (0 ≤ k ∧ k < 8) = false from by simp; omega]
      go_enter Try.func30, Try.ntmps30
      go_wp2
      go_ret
      exact ⟨rfl, rfl⟩
  · rw [show decide (0 ≤ k ∧ k < 8) = false from by simp; omega]
    go_enter Try.func30, Try.ntmps30
    go_wp2
    go_ret
    exact ⟨rfl, rfl⟩
def honestB (bad k : Int) : Bool := decide (0 ≤ k ∧ k < 8) && !(decide (bad / 2 ^ k.toNat % 2 = 1))
theorem honest_any (bad k : Int) (hb0 : 0 ≤ bad) (hb1 : bad ≤ 255) (w : World) : Calls Try.prog 21 #[.int .u8 bad, .int .i64 k] w fun e w' => e = .returned (.bool (honestB bad k)) ∧ w' = w := by
  have C := Lib.hid (In_any bad k hb0 hb1 w)
  by_cases h0 : 0 ≤ k
  · by_cases h1 : k < 8
    · rw [show honestB bad k = !(decide (0 ≤ k ∧ k < 8) && decide (bad / 2 ^ k.toNat % 2 = 1)) from by simp [honestB, h0, h1]]
      generalize (decide (0 ≤ k ∧ k < 8) && decide (bad / 2 ^ k.toNat % 2 = 1)) = b at C
      go_enter Try.func21, Try.ntmps21
      go_wp2_with (go_at_call 30; refine C.out.mono ?_; rintro e w' ⟨rfl, rfl⟩)
      go_ret
      exact ⟨rfl, rfl⟩
    · rw [show honestB bad k = false from by simp [honestB, h1]]
      go_enter Try.func21, Try.ntmps21
      go_wp2
      go_ret
      exact ⟨rfl, rfl⟩
  · rw [show honestB bad k = false from by simp [honestB, h0]]
    go_enter Try.func21, Try.ntmps21
    go_wp2
    go_ret
    exact ⟨rfl, rfl⟩
end Go.Proofs.Ytmaihiajgjijhaa
