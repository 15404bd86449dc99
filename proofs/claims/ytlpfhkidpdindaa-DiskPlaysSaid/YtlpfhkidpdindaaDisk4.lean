/- The disk of the program: Append, Cut, Sync whole; Copy; and what no disk answers. -/
import Derived.Test.YtlpfhkidpdindaaDisk3
namespace Go.Proofs.Ytlpfhkidpdindaa
open Go.RowKit
set_option linter.unusedVariables false
set_option linter.unusedSimpArgs false
attribute [local go_sem] alloc_drewN setCell_drewN

theorem keepAlloc {w : World} {p : Nat} {d : DS} (h : DiskAt w p d) (o : Obj) : DiskAt (w.alloc o) p d := h.but ((But.refl (fun _ => False) w).alloc o) (fun h => h) (fun _ h => h.elim)
theorem hmakeFunc : ∀ (fn : Fn) (first cap : Array Value) (w : World), (Instr.makeFunc fn first cap).run Try.prog w = .ok (.func fn first cap) w := fun _ _ _ _ => rfl

theorem Append_any {w : World} {p : Nat} {d : DS} (h : DiskAt w p d) (s : ByteArray) (hs : s.size ≤ 140737488351232) :
    Calls Try.prog 12 #[.pointer (some ⟨p, 0, none⟩), .string s] w fun e w' => e = .returned (.int .i64 (d.append s.data.toList).1) ∧ DiskAt w' p (d.append s.data.toList).2 ∧ But (· = p) w w' := by
  have hmf := hmakeFunc
  have hp := h.lt
  have hl : s.data.toList.length = s.size := by rw [Array.length_toList]; rfl
  have h2 := keepAlloc (keepAlloc h (.cells #[.pointer (some ⟨p, 0, none⟩)] 24)) (.cells #[.string s] 9)
  have hb : But (· = p) w ((w.alloc (.cells #[.pointer (some ⟨p, 0, none⟩)] 24)).alloc (.cells #[.string s] 9)) := ((But.refl _ w).alloc _).alloc _
  cases hst : d.stops with
  | true =>
    have e1 : d.append s.data.toList = (140, d.fell) := by simp [DS.append, hst]
    rw [e1]
    have H2 := Lib.hid h2
    clear h h2
    go_enter Try.func12, Try.ntmps12
    go_wp2_with fail
    refine (write_stops H2.out hst _).mono ?_
    rintro e w1 ⟨rfl, hD1, hB1⟩
    have H3 := Lib.hid hD1
    clear hD1
    go_wp2
    go_ret
    exact ⟨rfl, H3.out, hb.trans hB1⟩
  | false =>
    by_cases hc : d.room - d.bytes.length < s.size
    · have e1 : d.append s.data.toList = (4, d) := by simp [DS.append, hst, hc, hl]
      rw [e1]
      have H2 := Lib.hid h2
      clear h h2
      go_enter Try.func12, Try.ntmps12
      go_wp2_with fail
      refine (write_does H2.out hst 27 _ (fun _ _ => by kernel_rfl) 4 d rfl rfl ?_).mono ?_
      · refine (append1 H2.out s hs (w.heap.size + 1) w.heap.size (by omega) (by omega) (by simp) (by simp)).mono ?_
        rintro e w1 ⟨rfl, hD1, hB1⟩
        rw [if_pos hc] at hD1
        exact ⟨by rw [if_pos hc], hD1, hB1⟩
      rintro e w1 ⟨rfl, hD1, hB1⟩
      have H3 := Lib.hid hD1
      clear hD1
      go_wp2
      go_ret
      exact ⟨rfl, H3.out, hb.trans hB1⟩
    · have e1 : d.append s.data.toList = (0, DS.did { d with bytes := d.bytes ++ s.data.toList }) := by simp [DS.append, hst, hc, hl]
      rw [e1]
      have H2 := Lib.hid h2
      clear h h2
      go_enter Try.func12, Try.ntmps12
      go_wp2_with fail
      refine (write_does H2.out hst 27 _ (fun _ _ => by kernel_rfl) 0 { d with bytes := d.bytes ++ s.data.toList } rfl rfl ?_).mono ?_
      · refine (append1 H2.out s hs (w.heap.size + 1) w.heap.size (by omega) (by omega) (by simp) (by simp)).mono ?_
        rintro e w1 ⟨rfl, hD1, hB1⟩
        rw [if_neg hc] at hD1
        exact ⟨by rw [if_neg hc], hD1, hB1⟩
      rintro e w1 ⟨rfl, hD1, hB1⟩
      have H3 := Lib.hid hD1
      clear hD1
      go_wp2
      go_ret
      exact ⟨rfl, H3.out, hb.trans hB1⟩

theorem Sync_any {w : World} {p : Nat} {d : DS} (h : DiskAt w p d) :
    Calls Try.prog 14 #[.pointer (some ⟨p, 0, none⟩)] w fun e w' => e = .returned (.int .i64 d.sync.1) ∧ DiskAt w' p d.sync.2 ∧ But (· = p) w w' := by
  have hmf := hmakeFunc
  have hp := h.lt
  have h2 := keepAlloc h (.cells #[.pointer (some ⟨p, 0, none⟩)] 24)
  have hb : But (· = p) w (w.alloc (.cells #[.pointer (some ⟨p, 0, none⟩)] 24)) := (But.refl _ w).alloc _
  cases hst : d.stops with
  | true =>
    have e1 : d.sync = (140, d.fell) := by simp [DS.sync, hst]
    rw [e1]
    have H2 := Lib.hid h2
    clear h h2
    go_enter Try.func14, Try.ntmps14
    go_wp2_with fail
    refine (write_stops H2.out hst _).mono ?_
    rintro e w1 ⟨rfl, hD1, hB1⟩
    have H3 := Lib.hid hD1
    clear hD1
    go_wp2
    go_ret
    exact ⟨rfl, H3.out, hb.trans hB1⟩
  | false =>
    have e1 : d.sync = (0, DS.did { d with synced := d.bytes.length }) := by simp [DS.sync, hst]
    rw [e1]
    have H2 := Lib.hid h2
    clear h h2
    go_enter Try.func14, Try.ntmps14
    go_wp2_with fail
    refine (write_does H2.out hst 28 _ (fun _ _ => by kernel_rfl) 0 { d with synced := d.bytes.length } rfl rfl ?_).mono ?_
    · refine (sync1 H2.out w.heap.size (by simp)).mono ?_
      rintro e w1 ⟨rfl, hD1, hB1⟩
      exact ⟨rfl, hD1, hB1⟩
    rintro e w1 ⟨rfl, hD1, hB1⟩
    have H3 := Lib.hid hD1
    clear hD1
    go_wp2
    go_ret
    exact ⟨rfl, H3.out, hb.trans hB1⟩

theorem Cut_any {w : World} {p : Nat} {d : DS} (h : DiskAt w p d) (n : Int) :
    Calls Try.prog 29 #[.pointer (some ⟨p, 0, none⟩), .int .i64 n] w fun e w' => e = .returned (.int .i64 (d.cut n).1) ∧ DiskAt w' p (d.cut n).2 ∧ But (· = p) w w' := by
  have hmf := hmakeFunc
  have hp := h.lt
  have h2 := keepAlloc (keepAlloc h (.cells #[.pointer (some ⟨p, 0, none⟩)] 24)) (.cells #[.int .i64 n] 3)
  have hb : But (· = p) w ((w.alloc (.cells #[.pointer (some ⟨p, 0, none⟩)] 24)).alloc (.cells #[.int .i64 n] 3)) := ((But.refl _ w).alloc _).alloc _
  cases hst : d.stops with
  | true =>
    have e1 : d.cut n = (140, d.fell) := by simp [DS.cut, hst]
    rw [e1]
    have H2 := Lib.hid h2
    clear h h2
    go_enter Try.func29, Try.ntmps29
    go_wp2_with fail
    refine (write_stops H2.out hst _).mono ?_
    rintro e w1 ⟨rfl, hD1, hB1⟩
    have H3 := Lib.hid hD1
    clear hD1
    go_wp2
    go_ret
    exact ⟨rfl, H3.out, hb.trans hB1⟩
  | false =>
    by_cases hc : n < 0 ∨ (d.bytes.length : Int) < n
    · have e1 : d.cut n = (2, d) := by simp [DS.cut, hst, hc]
      rw [e1]
      have H2 := Lib.hid h2
      clear h h2
      go_enter Try.func29, Try.ntmps29
      go_wp2_with fail
      refine (write_does H2.out hst 35 _ (fun _ _ => by kernel_rfl) 2 d rfl rfl ?_).mono ?_
      · refine (cut1 H2.out n (w.heap.size + 1) w.heap.size (by omega) (by omega) (by simp) (by simp)).mono ?_
        rintro e w1 ⟨rfl, hD1, hB1⟩
        rw [if_pos hc] at hD1
        exact ⟨by rw [if_pos hc], hD1, hB1⟩
      rintro e w1 ⟨rfl, hD1, hB1⟩
      have H3 := Lib.hid hD1
      clear hD1
      go_wp2
      go_ret
      exact ⟨rfl, H3.out, hb.trans hB1⟩
    · have e1 : d.cut n = (0, DS.did { d with bytes := d.bytes.take n.toNat, synced := n.toNat }) := by simp [DS.cut, hst, hc]
      rw [e1]
      have H2 := Lib.hid h2
      clear h h2
      go_enter Try.func29, Try.ntmps29
      go_wp2_with fail
      refine (write_does H2.out hst 35 _ (fun _ _ => by kernel_rfl) 0 { d with bytes := d.bytes.take n.toNat, synced := n.toNat } rfl rfl ?_).mono ?_
      · refine (cut1 H2.out n (w.heap.size + 1) w.heap.size (by omega) (by omega) (by simp) (by simp)).mono ?_
        rintro e w1 ⟨rfl, hD1, hB1⟩
        rw [if_neg hc] at hD1
        exact ⟨by rw [if_neg hc], hD1, hB1⟩
      rintro e w1 ⟨rfl, hD1, hB1⟩
      have H3 := Lib.hid hD1
      clear hD1
      go_wp2
      go_ret
      exact ⟨rfl, H3.out, hb.trans hB1⟩

theorem Copy_any {w : World} {p : Nat} {d : DS} (h : DiskAt w p d) :
    Calls Try.prog 20 #[.pointer (some ⟨p, 0, none⟩)] w fun e w' => ∃ q, e = .returned (.pointer (some ⟨q, 0, none⟩)) ∧ DiskAt w' q d ∧ w.heap.size ≤ q ∧ But (fun _ => False) w w' := by
  have hD := Lib.hid h
  have hp := h.lt
  obtain ⟨A, c, c0, h2, h3, c1, c2, c3, c4, c5, ⟨f0, f1, f2, f3, f4⟩, hk⟩ := h.open
  clear h h2 h3 hk
  go_enter Try.func20, Try.ntmps20
  have hW := Lib.hid (keepAlloc hD.out (.cells #[.slice A d.bytes.length c, .int .i64 d.synced, .bool d.armed, .bool d.down, .int .i64 d.left, .int .i64 d.room] 53))
  have hR := run_append_src (P := Try.prog) (w.alloc (.cells #[.slice A d.bytes.length c, .int .i64 d.synced, .bool d.armed, .bool d.down, .int .i64 d.left, .int .i64 d.room] 53)) w.heap.size 47 47 5 (.int .u8 0) 1 1 Try.underlying47 info8 rfl (by decide) (.slice none 0 0) 0 [] (own_nil0 _ _ _ _) A d.bytes.length c (u8s d.bytes) (by simp [u8s]) 5
    ((hD.out.row c0).2.2.1.but ((But.refl (fun _ => False) w).alloc _) (fun _ h => h.elim)) (u8s_one _) (by have := hD.out; obtain ⟨_, _, _, _, _, hk⟩ := this; have := hk.le; have := hk.rm; simp only [maxLen]; omega) (by have := hD.out; obtain ⟨_, _, _, _, _, hk⟩ := this; have := hk.le; have := hk.rm; omega) (by simp)
  obtain ⟨v1, w1, hr, hown, hg, hat⟩ := hR
  obtain ⟨A1, cc, rfl, hle, hcs⟩ := own_cells hown
  have hB := (But.of_grown hg).mono (q := fun _ => False) (by intro k hk; cases hk)
  have hblk := hB.blk (heap_alloc_new w _) (fun h => h)
  have x0 : w1.cell? ⟨w.heap.size, 0, none⟩ = some (.slice A d.bytes.length c) := cellOf hblk 0
  have g0 := frozenOf hblk 0
  have HB := Lib.hid hB
  have HC := Lib.hid hcs
  have HK := Lib.hid hblk
  clear hg hown hat hB hcs hblk
  go_wp2_with (at_builtin; go_must (refine wpList_append rfl _ _ _ _ rfl _ _ rfl rfl _ _ hr ?_))
  go_ret
  have hk := hD.out
  obtain ⟨_, _, _, _, _, hk⟩ := hk
  refine ⟨w.heap.size, rfl, ⟨A1, cc, ?_, by simpa using hle, ?_, hk⟩, Nat.le_refl _, ?_⟩
  · rw [blkSet HK.out 0 _]
    simp
  · have := HC.out
    simp only [List.nil_append] at this
    exact this.but ((But.refl (· = w.heap.size) w1).setCell (.inl rfl) _) (by rintro g rfl cur fr he; rw [HK.out] at he; injection he with he; injection he with _ ht; cases ht)
  · exact ((((But.refl (fun _ => False) w).alloc _).trans HB.out).then_ ((But.refl (· = w.heap.size) w1).setCell (.inl rfl) _) (fun i hi => .inr (by omega)))
end Go.Proofs.Ytlpfhkidpdindaa
