/- The disk of the program: Append. -/
import Derived.Test.YtlpfhkidpdindaaDisk2
import Derived.Deep.OwnRows
import Derived.Laws.MakeOwn
namespace Go.Proofs.Ytlpfhkidpdindaa
open Go.RowKit
set_option linter.unusedVariables false
set_option linter.unusedSimpArgs false
attribute [local go_sem] alloc_drewN setCell_drewN setRow_drewN cell_setRow frozen_setRow size_setRow

theorem info8 : (Try.prog.info? 5).map (fun i => (i.zero, i.size, i.bytes)) = some (some (.int .u8 0), 1, 1) := by kernel_rfl
theorem info8s : (Try.prog.info? 5).map (·.size) = some 1 := by kernel_rfl

set_option maxHeartbeats 2000000 in
theorem append1 {w : World} {p : Nat} {d : DS} (h : DiskAt w p d) (s : ByteArray) (hs : s.size ≤ 140737488351232) (bs bd : Nat) (hx1 : ¬ bs = p) (hx2 : ¬ bd = p) (hbn : w.cell? ⟨bs, 0, none⟩ = some (.string s)) (hb : w.cell? ⟨bd, 0, none⟩ = some (.pointer (some ⟨p, 0, none⟩))) :
    Calls Try.prog 27 #[.pointer (some ⟨bs, 0, none⟩), .pointer (some ⟨bd, 0, none⟩)] w fun e w' =>
      e = .returned (.int .i64 (if d.room - d.bytes.length < s.size then 4 else 0)) ∧ DiskAt w' p (if d.room - d.bytes.length < s.size then d else { d with bytes := d.bytes ++ s.data.toList }) ∧ But (· = p) w w' := by
  have hD := Lib.hid h
  have q1 : bs < w.heap.size := World.block_lt_of_cell? w _ hbn
  have q2 : bd < w.heap.size := World.block_lt_of_cell? w _ hb
  have q3 := h.lt
  obtain ⟨A, c, c0, h2, h3, c1, c2, c3, c4, c5, ⟨f0, f1, f2, f3, f4⟩, hk⟩ := h.open
  have l1 := hk.le
  have l2 := hk.rm
  clear h c1 c2 c3 c4 f1 f2 f3 f4 h3 hk
  by_cases hn : d.room - d.bytes.length < s.size
  · rw [if_pos hn, if_pos hn]
    go_enter Try.func27, Try.ntmps27
    go_wp2
    go_quiet (fail)
    go_wp2
    go_ret
    exact ⟨rfl, hD.out, (But.refl _ _).drewN _⟩
  · rw [if_neg hn, if_neg hn]
    have hmk : ∀ W : World, (Instr.makeSlice 47 (.int .i64 ((d.bytes.length : Int) + (s.size : Int))) (.int .i64 ((d.bytes.length : Int) + (s.size : Int)))).run Try.prog W =
        .ok (.slice (some ⟨W.heap.size, 0, none⟩) (d.bytes.length + s.size) (d.bytes.length + s.size)) (W.alloc (.cells (madeCells #[.int .u8 0] (d.bytes.length + s.size)) 5)) := fun W => by
      have := run_make_row' (P := Try.prog) 47 5 (.int .u8 0) 1 Try.underlying47 info8 rfl .i64 .i64 (d.bytes.length + s.size) (by omega) (by omega) W
      rwa [show ((d.bytes.length + s.size : Nat) : Int) = (d.bytes.length : Int) + (s.size : Int) from by omega] at this
    have hcA : ∀ o m, CellsAt ((w.alloc o).drewN m) 5 A (u8s d.bytes) := fun o m => (hD.out.row c0).2.2.1.but (((But.refl (fun _ => False) w).alloc o).drewN m) (fun _ h => h.elim)
    have hcp1 : ∀ m, (Builtin.copy_ #[47, 47] 3 #[.slice (some ⟨w.heap.size, 0, none⟩) (d.bytes.length + s.size) (d.bytes.length + s.size), .slice A d.bytes.length c]).run Try.prog ((w.alloc (.cells (madeCells #[.int .u8 0] (d.bytes.length + s.size)) 5)).drewN m) =
        .ok (.int .i64 d.bytes.length) ((w.alloc (.cells (u8s d.bytes ++ (madeCells #[.int .u8 0] (d.bytes.length + s.size)).toList.drop d.bytes.length).toArray 5)).drewN m) := fun m => by
      have := run_copy_at (P := Try.prog) ((w.alloc (.cells (madeCells #[.int .u8 0] (d.bytes.length + s.size)) 5)).drewN m) 47 47 3 5 w.heap.size 0 (d.bytes.length + s.size) (d.bytes.length + s.size) A d.bytes.length c
        (madeCells #[.int .u8 0] (d.bytes.length + s.size)) 5 5 (u8s d.bytes) Try.underlying47 info8s (heap_alloc_new w _) (by simp [u8s]) (by omega) (hcA _ _) (by simp [u8s, size_madeCells]) (u8s_one _)
      rw [this, setRow_drewN, alloc_setRow]
      simp [goInt, u8s_length]
    have hcp2 : ∀ m, 0 < s.size → (Builtin.copy_ #[47, 9] 3 #[.slice (some ⟨w.heap.size, d.bytes.length, none⟩) s.size s.size, .string s]).run Try.prog ((w.alloc (.cells (u8s d.bytes ++ (madeCells #[.int .u8 0] (d.bytes.length + s.size)).toList.drop d.bytes.length).toArray 5)).drewN m) =
        .ok (.int .i64 s.size) ((w.alloc (.cells (u8s (d.bytes ++ s.data.toList)).toArray 5)).drewN m) := fun m _ => by
      have := run_copy_str (P := Try.prog) ((w.alloc (.cells (u8s d.bytes ++ (madeCells #[.int .u8 0] (d.bytes.length + s.size)).toList.drop d.bytes.length).toArray 5)).drewN m) 47 9 3 5 w.heap.size d.bytes.length s.size s.size s
        (u8s d.bytes ++ (madeCells #[.int .u8 0] (d.bytes.length + s.size)).toList.drop d.bytes.length).toArray 5 Try.underlying47 info8s (heap_alloc_new w _) (Nat.le_refl _) (by simp [u8s, size_madeCells])
      rw [this, setRow_drewN, alloc_setRow]
      have hl : (u8s d.bytes).length = d.bytes.length := u8s_length _
      have hx : (madeCells #[.int .u8 0] (d.bytes.length + s.size)).size = d.bytes.length + s.size := size_madeCells _ _
      have e2 : List.drop (d.bytes.length + s.size) (u8s d.bytes ++ (madeCells #[.int .u8 0] (d.bytes.length + s.size)).toList.drop d.bytes.length) = [] := by
        apply List.drop_of_length_le
        rw [List.length_append, List.length_drop, hl, Array.length_toList, hx]
        omega
      have e1 : List.take d.bytes.length (u8s d.bytes ++ (madeCells #[.int .u8 0] (d.bytes.length + s.size)).toList.drop d.bytes.length) = u8s d.bytes := by
        rw [← hl, List.take_left]
      simp only [goInt, e1, e2, List.append_nil, u8s_append]
    have hfin : ∀ m, DiskAt (((w.setCell ⟨p, 0, none⟩ (.slice (some ⟨w.heap.size, 0, none⟩) (d.bytes.length + s.size) (d.bytes.length + s.size))).alloc (.cells (u8s (d.bytes ++ s.data.toList)).toArray 5)).drewN m) p { d with bytes := d.bytes ++ s.data.toList } ∧
        But (· = p) w (((w.setCell ⟨p, 0, none⟩ (.slice (some ⟨w.heap.size, 0, none⟩) (d.bytes.length + s.size) (d.bytes.length + s.size))).alloc (.cells (u8s (d.bytes ++ s.data.toList)).toArray 5)).drewN m) := fun m => by
      obtain ⟨h1, _, h3, hk⟩ := hD.out.row c0
      have hl : s.data.toList.length = s.size := by rw [Array.length_toList]; rfl
      have hz : (w.setCell ⟨p, 0, none⟩ (.slice (some ⟨w.heap.size, 0, none⟩) (d.bytes.length + s.size) (d.bytes.length + s.size))).heap.size = w.heap.size := by simp [World.setCell]
      refine ⟨⟨some ⟨w.heap.size, 0, none⟩, d.bytes.length + s.size, ?_, ?_, ?_, ⟨?_, ?_, hk.rm, hk.lf⟩⟩, (((But.refl (· = p) w).setCell (.inl rfl) _).alloc _).drewN _⟩
      · refine blkAlloc ?_ _
        rw [blkSet h1 0 _]
        simp [hl]
      · simp [hl]
      · have := CellsAt.new (w.setCell ⟨p, 0, none⟩ (.slice (some ⟨w.heap.size, 0, none⟩) (d.bytes.length + s.size) (d.bytes.length + s.size))) 5 (u8s (d.bytes ++ s.data.toList)).toArray
        rw [hz] at this
        exact this
      · have := hk.sy; simp; omega
      · simp [hl]; omega
    have Hfin := Lib.hid hfin
    clear hfin
    by_cases hs0 : s = ByteArray.empty
    · subst hs0
      have ez : (ByteArray.empty).size = 0 := rfl
      have e9 : (ByteArray.empty).data.toList = [] := rfl
      have e0 : List.drop d.bytes.length (madeCells #[Value.int .u8 0] d.bytes.length).toList = [] := List.drop_of_length_le (by rw [Array.length_toList, size_madeCells]; exact Nat.le_refl _)
      simp only [ez, Nat.add_zero, Int.natCast_zero, Int.add_zero, e0, List.append_nil] at hmk hcp1
      have Hfin2 : ∀ m, Hid _ := fun m => Lib.hid (Hfin.out m)
      simp only [ez, e9, Nat.add_zero, List.append_nil] at Hfin2
      rw [e9, List.append_nil]
      have hcp3 : ∀ m W, (Builtin.copy_ #[47, 9] 3 #[.slice (some ⟨w.heap.size, 0, none⟩) 0 0, .string ByteArray.empty]).run Try.prog (World.drewN W m) = .ok (.int .i64 0) (W.drewN m) := fun m W => by
        have hq := info8s
        cases hi : Try.prog.info? 5 with
        | none => rw [hi] at hq; cases hq
        | some i =>
          rw [hi] at hq
          simp at hq
          simp [Builtin.copy_, run_underlying Try.underlying47, Builtin.lenOf, sizeOf, typeInfo, hi, hq, Builtin.firstCells, storeCells, goInt]
      go_enter Try.func27, Try.ntmps27
      go_wp2
      go_quiet (fail)
      go_wp2
      go_region
      all_goals go_wp2
      all_goals go_region
      all_goals go_wp2
      all_goals go_ret
      all_goals exact ⟨rfl, (Hfin2 _).out⟩
    · have hs1 : 0 < s.size := by
        rcases Nat.eq_zero_or_pos s.size with h0 | h0
        · exact absurd (by cases s with | mk da => simp [ByteArray.size] at h0; subst h0; rfl) hs0
        · exact h0
      go_enter Try.func27, Try.ntmps27
      go_wp2
      go_quiet (fail)
      go_wp2
      go_region
      all_goals go_wp2
      all_goals go_region
      all_goals go_wp2
      all_goals go_ret
      all_goals exact ⟨rfl, Hfin.out _⟩
end Go.Proofs.Ytlpfhkidpdindaa
