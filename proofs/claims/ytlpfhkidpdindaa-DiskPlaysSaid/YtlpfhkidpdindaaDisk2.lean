/- The disk of the program: Append, Cut and Sync, by the functions that they hand to the fuse; Copy. -/
import Derived.Test.YtlpfhkidpdindaaDisk
namespace Go.Proofs.Ytlpfhkidpdindaa
open Go.RowKit
set_option linter.unusedVariables false
set_option linter.unusedSimpArgs false

theorem DiskAt.row {w : World} {p : Nat} {d : DS} (h : DiskAt w p d) {A : Option Addr} {n c : Nat} (c0 : w.cell? ⟨p, 0, none⟩ = some (.slice A n c)) :
    w.heap[p]? = some (.cells #[.slice A d.bytes.length c, .int .i64 d.synced, .bool d.armed, .bool d.down, .int .i64 d.left, .int .i64 d.room] 53 (0, 0)) ∧ d.bytes.length ≤ c ∧ CellsAt w 5 A (u8s d.bytes) ∧ d.Ok := by
  obtain ⟨A', c', h1, h2, h3, hk⟩ := h
  rw [cellOf h1 0] at c0
  simp at c0
  obtain ⟨rfl, _, rfl⟩ := c0
  exact ⟨h1, h2, h3, hk⟩

theorem sync1 {w : World} {p : Nat} {d : DS} (h : DiskAt w p d) (bd : Nat) (hb : w.cell? ⟨bd, 0, none⟩ = some (.pointer (some ⟨p, 0, none⟩))) :
    Calls Try.prog 28 #[.pointer (some ⟨bd, 0, none⟩)] w fun e w' => e = .returned (.int .i64 0) ∧ DiskAt w' p { d with synced := d.bytes.length } ∧ But (· = p) w w' := by
  have hD := Lib.hid h
  obtain ⟨A, c, c0, h2, h3, c1, c2, c3, c4, c5, ⟨f0, f1, f2, f3, f4⟩, hk⟩ := h.open
  clear h c2 c3 c4 c5 f0 f2 f3 f4 h2 h3 hk
  go_enter Try.func28, Try.ntmps28
  go_wp2
  go_region
  all_goals go_wp2
  all_goals go_ret
  all_goals
    have hne := hD.out.ne
    obtain ⟨A, c, h1, h2, h3, hk⟩ := hD.out
    refine ⟨rfl, ⟨A, c, ?_, h2, h3.but ((But.refl (· = p) w).setCell (.inl rfl) _).drew (by rintro g rfl; exact hne), ⟨Nat.le_refl _, hk.le, hk.rm, hk.lf⟩⟩, ((But.refl (· = p) w).setCell (.inl rfl) _).drew⟩
    show (w.setCell ⟨p, 1, none⟩ _).heap[p]? = _
    rw [blkSet h1 1 _]
    simp

set_option maxHeartbeats 2000000 in
theorem cut1 {w : World} {p : Nat} {d : DS} (h : DiskAt w p d) (n : Int) (bn bd : Nat) (hx1 : ¬ bn = p) (hx2 : ¬ bd = p) (hbn : w.cell? ⟨bn, 0, none⟩ = some (.int .i64 n)) (hb : w.cell? ⟨bd, 0, none⟩ = some (.pointer (some ⟨p, 0, none⟩))) :
    Calls Try.prog 35 #[.pointer (some ⟨bn, 0, none⟩), .pointer (some ⟨bd, 0, none⟩)] w fun e w' =>
      e = .returned (.int .i64 (if n < 0 ∨ (d.bytes.length : Int) < n then 2 else 0)) ∧ DiskAt w' p (if n < 0 ∨ (d.bytes.length : Int) < n then d else { d with bytes := d.bytes.take n.toNat, synced := n.toNat }) ∧ But (· = p) w w' := by
  have hD := Lib.hid h
  obtain ⟨A, c, c0, h2, h3, c1, c2, c3, c4, c5, ⟨f0, f1, f2, f3, f4⟩, hk⟩ := h.open
  clear h c2 c3 c4 c5 f2 f3 f4 h3 hk
  by_cases hn : n < 0
  · rw [if_pos (.inl hn), if_pos (.inl hn)]
    have g1 : decide (n < 0) = true := by simpa using hn
    go_enter Try.func35, Try.ntmps35
    go_wp2
    go_quiet (fail)
    go_wp2
    go_ret
    exact ⟨rfl, hD.out, (But.refl _ _).drewN _⟩
  have g1 : decide (n < 0) = false := by simpa using hn
  by_cases hm : (d.bytes.length : Int) < n
  · rw [if_pos (.inr hm), if_pos (.inr hm)]
    have g2 : decide ((d.bytes.length : Int) < n) = true := by simpa using hm
    go_enter Try.func35, Try.ntmps35
    go_wp2
    go_quiet (fail)
    go_wp2
    go_ret
    exact ⟨rfl, hD.out, (But.refl _ _).drewN _⟩
  · rw [if_neg (by omega), if_neg (by omega)]
    obtain ⟨n, rfl⟩ := Int.eq_ofNat_of_zero_le (show 0 ≤ n by omega)
    have g2 : decide ((d.bytes.length : Int) < n) = false := by simpa using hm
    have l1 : n ≤ d.bytes.length := by omega
    have l2 : n ≤ c := by omega
    have l3 : d.bytes.length ≤ 1048576 := by have := hD.out; obtain ⟨_, _, _, _, _, hk⟩ := this; have := hk.le; have := hk.rm; omega
    go_enter Try.func35, Try.ntmps35
    go_wp2
    go_quiet (fail)
    go_wp2
    go_region
    all_goals go_wp2
    all_goals go_ret
    all_goals
      have hne := hD.out.ne
      obtain ⟨h1, _, h3, hk⟩ := hD.out.row c0
      have q1 := hk.le
      have hB : But (· = p) w (((w.setCell ⟨p, 0, none⟩ (.slice A n n)).setCell ⟨p, 1, none⟩ (.int .i64 n)).drewN (nq + 1)) := (((But.refl (· = p) w).setCell (.inl rfl) _).setCell (.inl rfl) _).drewN _
      refine ⟨rfl, ⟨A, n, ?_, by simp; omega, ?_, ⟨by simp; omega, by simp; omega, hk.rm, hk.lf⟩⟩, hB⟩
      · show (((w.setCell ⟨p, 0, none⟩ (.slice A n n)).setCell ⟨p, 1, none⟩ (.int .i64 n))).heap[p]? = _
        rw [blkSet (blkSet h1 0 _) 1 _]
        simp [Nat.min_eq_left l1]
      · have := (h3.but hB (by rintro g rfl; exact hne)).take n
        rwa [show (u8s d.bytes).take n = u8s (d.bytes.take n) from by simp [u8s, List.map_take]] at this
end Go.Proofs.Ytlpfhkidpdindaa
