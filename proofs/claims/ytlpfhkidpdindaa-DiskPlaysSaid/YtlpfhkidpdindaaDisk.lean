/- The disk of the program: what each of its methods does to its bytes, its fuse and its room. -/
import Derived.Test.YtlpfhkidpdindaaProg
import Derived.Test.YtlpfhkidpdindaaBase
import Derived.Deep.QuietTactic
import Derived.BigQuiet
import Derived.RegionTactic
import Derived.ChangeAlike
import Derived.Lib.Hide
namespace Go.Proofs.Ytlpfhkidpdindaa
open Go.RowKit
set_option linter.unusedVariables false
set_option linter.unusedSimpArgs false

/-- A disk. -/
structure DS where
  bytes : List UInt8
  synced : Nat
  armed : Bool
  down : Bool
  left : Nat
  room : Nat

structure DS.Ok (d : DS) : Prop where
  sy : d.synced ≤ d.bytes.length
  le : d.bytes.length ≤ d.room
  rm : d.room ≤ 1048576
  lf : d.left ≤ 9223372036854775807

/-- It stands at block p. -/
def DiskAt (w : World) (p : Nat) (d : DS) : Prop :=
  ∃ A c, w.heap[p]? = some (.cells #[.slice A d.bytes.length c, .int .i64 d.synced, .bool d.armed, .bool d.down, .int .i64 d.left, .int .i64 d.room] 53 (0, 0)) ∧
    d.bytes.length ≤ c ∧ CellsAt w 5 A (u8s d.bytes) ∧ d.Ok

theorem DiskAt.lt {w : World} {p : Nat} {d : DS} (h : DiskAt w p d) : p < w.heap.size := by obtain ⟨A, c, h, _⟩ := h; exact blkLt h
theorem DiskAt.ne {w : World} {p : Nat} {d : DS} (h : DiskAt w p d) : ∀ cur fr, w.heap[p]? ≠ some (.cells cur 5 fr) := by
  obtain ⟨A, c, h, _⟩ := h
  intro cur fr he
  rw [h] at he
  injection he with he
  injection he with _ ht
  cases ht
theorem DiskAt.but {w w1 : World} {q : Nat} {d : DS} {p : Nat → Prop} (h : DiskAt w q d) (k : But p w w1) (hq : ¬ p q) (hp : ∀ g, p g → ∀ cur fr, w.heap[g]? ≠ some (.cells cur 5 fr)) : DiskAt w1 q d := by
  obtain ⟨A, c, h1, h2, h3, h4⟩ := h
  exact ⟨A, c, k.blk h1 hq, h2, h3.but k hp, h4⟩

/-! ### What only reads -/
theorem Synced_any {w : World} {p : Nat} {d : DS} (h : DiskAt w p d) :
    Calls Try.prog 11 #[.pointer (some ⟨p, 0, none⟩)] w fun e w' => e = .returned (.int .i64 d.synced) ∧ w' = w := by
  obtain ⟨A, c, h1, _⟩ := h
  have h1c : w.cell? ⟨p, 1, none⟩ = some (.int .i64 d.synced) := cellOf h1 1
  clear h1
  go_enter Try.func11, Try.ntmps11
  go_wp2
  go_ret
  exact ⟨rfl, rfl⟩
theorem Down_any {w : World} {p : Nat} {d : DS} (h : DiskAt w p d) :
    Calls Try.prog 13 #[.pointer (some ⟨p, 0, none⟩)] w fun e w' => e = .returned (.bool d.down) ∧ w' = w := by
  obtain ⟨A, c, h1, _⟩ := h
  have h1c : w.cell? ⟨p, 3, none⟩ = some (.bool d.down) := cellOf h1 3
  clear h1
  go_enter Try.func13, Try.ntmps13
  go_wp2
  go_ret
  exact ⟨rfl, rfl⟩
theorem Len_any {w : World} {p : Nat} {d : DS} (h : DiskAt w p d) :
    Calls Try.prog 17 #[.pointer (some ⟨p, 0, none⟩)] w fun e w' => e = .returned (.int .i64 d.bytes.length) ∧ w' = w := by
  obtain ⟨A, c, h1, _⟩ := h
  have h1c : w.cell? ⟨p, 0, none⟩ = some (.slice A d.bytes.length c) := cellOf h1 0
  clear h1
  go_enter Try.func17, Try.ntmps17
  go_wp2
  go_ret
  exact ⟨rfl, rfl⟩
theorem Room_any {w : World} {p : Nat} {d : DS} (h : DiskAt w p d) : Calls Try.prog 25 #[.pointer (some ⟨p, 0, none⟩)] w fun e w' => e = .returned (.int .i64 (d.room - d.bytes.length)) ∧ ∃ n, w' = w.drewN n := by
  obtain ⟨A, c, h1, _, _, hk⟩ := h
  have h1c : w.cell? ⟨p, 0, none⟩ = some (.slice A d.bytes.length c) := cellOf h1 0
  have h1d : w.cell? ⟨p, 5, none⟩ = some (.int .i64 d.room) := cellOf h1 5
  have l1 := hk.le
  have l2 := hk.rm
  clear h1 hk
  go_enter Try.func25, Try.ntmps25
  go_wp2
  go_quiet (fail)
  go_wp2
  go_ret
  exact ⟨rfl, _, rfl⟩

/-! ### Arm, Crash -/
def DS.arm (n : Int) (d : DS) : DS := { d with armed := true, left := (max n 0).toNat }
theorem Arm_any {w : World} {p : Nat} {d : DS} (h : DiskAt w p d) (n : Int) (hn : n ≤ 9223372036854775807) (hn' : -9223372036854775808 ≤ n) :
    Calls Try.prog 9 #[.pointer (some ⟨p, 0, none⟩), .int .i64 n] w fun e w' => e = .returned (.tuple #[]) ∧ DiskAt w' p (d.arm n) ∧ But (· = p) w w' := by
  obtain ⟨A, c, h1, h2, h3, hk⟩ := h
  have c2 : w.cell? ⟨p, 2, none⟩ = some (.bool d.armed) := cellOf h1 2
  have c4 : w.cell? ⟨p, 4, none⟩ = some (.int .i64 d.left) := cellOf h1 4
  have f2 := frozenOf h1 2
  have f4 := frozenOf h1 4
  go_enter Try.func9, Try.ntmps9
  go_wp2
  all_goals
    go_end0
    refine ⟨rfl, ⟨A, c, ?_, h2, h3.but ((((But.refl (· = p) w).setCell (.inl rfl) _).setCell (.inl rfl) _)) (by rintro g rfl; exact DiskAt.ne ⟨A, c, h1, h2, h3, hk⟩), ⟨hk.sy, hk.le, hk.rm, ?_⟩⟩, (((But.refl (· = p) w).setCell (.inl rfl) _).setCell (.inl rfl) _)⟩
    · rw [blkSet (blkSet h1 2 _) 4 _]
      simp [DS.arm]
      omega
    · simp only [DS.arm]; omega

def DS.crash (keep : Int) (d : DS) : DS :=
  let k := (max keep 0).toNat
  let n := if k < d.bytes.length - d.synced then d.synced + k else d.bytes.length
  { bytes := d.bytes.take n, synced := n, armed := false, down := false, left := 0, room := d.room }
theorem crash_fin {w : World} {p : Nat} {d : DS} (h : DiskAt w p d) (n : Int) (A : Option Addr) (c : Nat)
    (h1 : w.heap[p]? = some (.cells #[.slice A d.bytes.length c, .int .i64 d.synced, .bool d.armed, .bool d.down, .int .i64 d.left, .int .i64 d.room] 53 (0, 0))) (h3 : CellsAt w 5 A (u8s d.bytes))
    (a1 a2 : Nat) (M : Int) (e1 : a1 = (d.crash n).synced) (e2 : a2 = (d.crash n).synced) (e3 : M = (d.crash n).synced) :
    let w' := ((((w.setCell ⟨p, 0, none⟩ (.slice A a1 a2)).setCell ⟨p, 1, none⟩ (.int .i64 M)).setCell ⟨p, 2, none⟩ (.bool false)).setCell ⟨p, 3, none⟩ (.bool false)).setCell ⟨p, 4, none⟩ (.int .i64 0)
    DiskAt w' p (d.crash n) ∧ But (· = p) w w' := by
  have hne := h.ne
  obtain ⟨_, _, _, _, _, hk⟩ := h
  have l1 := hk.sy
  have l2 := hk.le
  subst e1 e2 e3
  have hb : But (· = p) w (((((w.setCell ⟨p, 0, none⟩ (.slice A (d.crash n).synced (d.crash n).synced)).setCell ⟨p, 1, none⟩ (.int .i64 ((d.crash n).synced : Nat))).setCell ⟨p, 2, none⟩ (.bool false)).setCell ⟨p, 3, none⟩ (.bool false)).setCell ⟨p, 4, none⟩ (.int .i64 0)) :=
    ((((((But.refl (· = p) w).setCell (.inl rfl) _).setCell (.inl rfl) _).setCell (.inl rfl) _).setCell (.inl rfl) _).setCell (.inl rfl) _)
  have hle : (d.crash n).synced ≤ d.bytes.length := by simp only [DS.crash]; split <;> omega
  have hlen : (d.crash n).bytes.length = (d.crash n).synced := by
    show (d.bytes.take (d.crash n).synced).length = _
    rw [List.length_take]; omega
  refine ⟨⟨A, (d.crash n).synced, ?_, by omega, ?_, ⟨by omega, ?_, hk.rm, by simp [DS.crash]⟩⟩, hb⟩
  · rw [blkSet (blkSet (blkSet (blkSet (blkSet h1 0 _) 1 _) 2 _) 3 _) 4 _, hlen]
    simp [DS.crash]
  · show CellsAt _ _ _ (u8s (d.bytes.take (d.crash n).synced))
    have := (h3.but hb (by rintro g rfl; exact hne)).take (d.crash n).synced
    rwa [show (u8s d.bytes).take (d.crash n).synced = u8s (d.bytes.take (d.crash n).synced) from by simp [u8s, List.map_take]] at this
  · show _ ≤ d.room
    omega
theorem Crash_any {w : World} {p : Nat} {d : DS} (h : DiskAt w p d) (n : Int) (hn : n ≤ 9223372036854775807) (hn' : -9223372036854775808 ≤ n) :
    Calls Try.prog 15 #[.pointer (some ⟨p, 0, none⟩), .int .i64 n] w fun e w' => e = .returned (.tuple #[]) ∧ DiskAt w' p (d.crash n) ∧ But (· = p) w w' := by
  obtain ⟨A, c, h1, h2, h3, hk⟩ := h
  have l1 := hk.sy
  have l2 := hk.le
  have l3 := hk.rm
  have c0 : w.cell? ⟨p, 0, none⟩ = some (.slice A d.bytes.length c) := cellOf h1 0
  have c1 : w.cell? ⟨p, 1, none⟩ = some (.int .i64 d.synced) := cellOf h1 1
  have c2 : w.cell? ⟨p, 2, none⟩ = some (.bool d.armed) := cellOf h1 2
  have c3 : w.cell? ⟨p, 3, none⟩ = some (.bool d.down) := cellOf h1 3
  have c4 : w.cell? ⟨p, 4, none⟩ = some (.int .i64 d.left) := cellOf h1 4
  have f0 := frozenOf h1 0
  have f1 := frozenOf h1 1
  have f2 := frozenOf h1 2
  have f3 := frozenOf h1 3
  have f4 := frozenOf h1 4
  go_enter Try.func15, Try.ntmps15
  go_wp2
  all_goals
    go_end0
    refine ⟨rfl, crash_fin ⟨A, c, h1, h2, h3, hk⟩ n A c h1 h3 _ _ _ ?_ ?_ ?_⟩
    all_goals (simp only [DS.crash]; split <;> omega)

/-! ### Bytes, New -/
theorem Bytes_any {w : World} {p : Nat} {d : DS} (h : DiskAt w p d) :
    Calls Try.prog 10 #[.pointer (some ⟨p, 0, none⟩)] w fun e w' => e = .returned (.string ⟨d.bytes.toArray⟩) ∧ w' = w := by
  obtain ⟨A, c, h1, h2, h3, hk⟩ := h
  have c0 : w.cell? ⟨p, 0, none⟩ = some (.slice A d.bytes.length c) := cellOf h1 0
  have hs := run_str (P := Try.prog) (w := w) Try.underlying47 Try.underlying5 Try.underlying9 h3 d.bytes.length c rfl
  clear h1
  go_enter Try.func10, Try.ntmps10
  go_wp2
  go_ret
  exact ⟨rfl, rfl⟩
def DS.new (room : Nat) : DS := { bytes := [], synced := 0, armed := false, down := false, left := 0, room := room }
theorem New_no (room : Int) (w : World) (h : room < 0 ∨ 1048576 < room) :
    Calls Try.prog 8 #[.int .i64 room] w fun e w' => e = .returned (.tuple #[.pointer none, .int .i64 2]) ∧ But (fun _ => False) w w' := by
  by_cases h0 : room < 0
  · go_enter Try.func8, Try.ntmps8
    go_wp2
    go_ret2
    exact ⟨rfl, But.refl _ _⟩
  · have h1 : 1048576 < room := by omega
    go_enter Try.func8, Try.ntmps8
    go_wp2
    go_ret2
    exact ⟨rfl, But.refl _ _⟩
theorem New_yes (room : Int) (w : World) (h0 : 0 ≤ room) (h1 : room ≤ 1048576) :
    Calls Try.prog 8 #[.int .i64 room] w fun e w' => ∃ p, e = .returned (.tuple #[.pointer (some ⟨p, 0, none⟩), .int .i64 0]) ∧ DiskAt w' p (DS.new room.toNat) ∧ w.heap.size ≤ p ∧ But (fun _ => False) w w' := by
  go_enter Try.func8, Try.ntmps8
  go_wp2
  go_ret2
  refine ⟨w.heap.size, rfl, ⟨none, 0, ?_, by simp [DS.new], CellsAt.nil _ _ _, ⟨by simp [DS.new], by simp [DS.new], ?_, by simp [DS.new]⟩⟩, Nat.le_refl _, (But.refl _ _).alloc _⟩
  · rw [heap_alloc_new]
    simp [DS.new, Int.toNat_of_nonneg h0]
  · simp [DS.new]; omega

/-! ### What goes through the fuse: Append, Cut, Sync -/
/-- Does a write stop? -/
def DS.stops (d : DS) : Bool := d.armed && d.left == 0
def DS.fell (d : DS) : DS := { d with down := true }
def DS.did (d : DS) : DS := { d with left := if d.armed then d.left - 1 else d.left }
def DS.append (s : List UInt8) (d : DS) : Int × DS :=
  if d.stops then (140, d.fell) else if d.room - d.bytes.length < s.length then (4, d) else (0, DS.did { d with bytes := d.bytes ++ s })
def DS.cut (n : Int) (d : DS) : Int × DS :=
  if d.stops then (140, d.fell) else if n < 0 ∨ (d.bytes.length : Int) < n then (2, d) else (0, DS.did { d with bytes := d.bytes.take n.toNat, synced := n.toNat })
def DS.sync (d : DS) : Int × DS :=
  if d.stops then (140, d.fell) else (0, DS.did { d with synced := d.bytes.length })

theorem fell_fin {w w1 : World} {p : Nat} {d : DS} (h : DiskAt w1 p d) (hb : But (· = p) w w1) : DiskAt (w1.setCell ⟨p, 3, none⟩ (.bool true)) p d.fell ∧ But (· = p) w (w1.setCell ⟨p, 3, none⟩ (.bool true)) := by
  have hne := h.ne
  obtain ⟨A, c, h1, h2, h3, hk⟩ := h
  refine ⟨⟨A, c, ?_, h2, h3.but ((But.refl (· = p) w1).setCell (.inl rfl) _) (by rintro g rfl; exact hne), ⟨hk.sy, hk.le, hk.rm, hk.lf⟩⟩, hb.setCell (.inl rfl) _⟩
  rw [blkSet h1 3 _]
  simp [DS.fell]

/-- What a disk's cells hold, one by one. -/
theorem DiskAt.open {w : World} {p : Nat} {d : DS} (h : DiskAt w p d) : ∃ A c, w.cell? ⟨p, 0, none⟩ = some (.slice A d.bytes.length c) ∧ d.bytes.length ≤ c ∧ CellsAt w 5 A (u8s d.bytes) ∧
    w.cell? ⟨p, 1, none⟩ = some (.int .i64 d.synced) ∧ w.cell? ⟨p, 2, none⟩ = some (.bool d.armed) ∧ w.cell? ⟨p, 3, none⟩ = some (.bool d.down) ∧ w.cell? ⟨p, 4, none⟩ = some (.int .i64 d.left) ∧ w.cell? ⟨p, 5, none⟩ = some (.int .i64 d.room) ∧
    (w.frozen? ⟨p, 0, none⟩ = false ∧ w.frozen? ⟨p, 1, none⟩ = false ∧ w.frozen? ⟨p, 2, none⟩ = false ∧ w.frozen? ⟨p, 3, none⟩ = false ∧ w.frozen? ⟨p, 4, none⟩ = false) ∧ d.Ok := by
  obtain ⟨A, c, h1, h2, h3, hk⟩ := h
  exact ⟨A, c, cellOf h1 0, h2, h3, cellOf h1 1, cellOf h1 2, cellOf h1 3, cellOf h1 4, cellOf h1 5, ⟨frozenOf h1 0, frozenOf h1 1, frozenOf h1 2, frozenOf h1 3, frozenOf h1 4⟩, hk⟩
theorem DiskAt.drewN {w : World} {p : Nat} {d : DS} (h : DiskAt w p d) (n : Nat) : DiskAt (w.drewN n) p d := h
theorem left_fin {w w1 : World} {p : Nat} {d : DS} (h : DiskAt w1 p d) (hb : But (· = p) w w1) (har : d.armed = true) (hl : d.left ≠ 0) (M : Int) (hM : M = d.left - 1) : DiskAt (w1.setCell ⟨p, 4, none⟩ (.int .i64 M)) p d.did ∧ But (· = p) w (w1.setCell ⟨p, 4, none⟩ (.int .i64 M)) := by
  have hne := h.ne
  obtain ⟨A, c, h1, h2, h3, hk⟩ := h
  have := hk.lf
  refine ⟨⟨A, c, ?_, h2, h3.but ((But.refl (· = p) w1).setCell (.inl rfl) _) (by rintro g rfl; exact hne), ⟨hk.sy, hk.le, hk.rm, by simp [DS.did, har]; omega⟩⟩, hb.setCell (.inl rfl) _⟩
  rw [blkSet h1 4 _]
  simp [DS.did, har]
  omega

theorem did_un (d : DS) (h : d.armed = false) : d.did = d := by cases d; simp_all [DS.did]
/-- The fuse has gone: nothing is done. -/
theorem write_stops {w : World} {p : Nat} {d : DS} (h : DiskAt w p d) (hs : d.stops = true) (v : Value) :
    Calls Try.prog 26 #[.pointer (some ⟨p, 0, none⟩), v] w fun e w' => e = .returned (.int .i64 140) ∧ DiskAt w' p d.fell ∧ But (· = p) w w' := by
  have hD := Lib.hid (fell_fin h (But.refl _ w))
  obtain ⟨A, c, c0, h2, h3, c1, c2, c3, c4, c5, ⟨f0, f1, f2, f3, f4⟩, hk⟩ := h.open
  simp only [DS.stops, Bool.and_eq_true, beq_iff_eq] at hs
  rw [hs.1] at c2
  rw [hs.2] at c4
  clear h hs c0 c1 c5 h2 h3 hk
  go_enter Try.func26, Try.ntmps26
  go_wp2
  go_ret
  exact ⟨rfl, hD.out⟩
/-- It has not: what is done is done, and counted. -/
theorem write_does {w : World} {p : Nat} {d : DS} (h : DiskAt w p d) (hs : d.stops = false) (k : Nat) (lb : Array Value) (eg : ∀ args W, (callFunc k args).run Try.prog W = .ok (.enter k args) W) (r : Int) (d1 : DS) (ha : d1.armed = d.armed) (hl : d1.left = d.left)
    (hdo : Calls Try.prog k lb w fun e w1 => e = .returned (.int .i64 r) ∧ DiskAt w1 p d1 ∧ But (· = p) w w1) :
    Calls Try.prog 26 #[.pointer (some ⟨p, 0, none⟩), .func (.func k) #[] lb] w fun e w' => e = .returned (.int .i64 r) ∧ DiskAt w' p (if r = 0 then d1.did else d1) ∧ But (· = p) w w' := by
  obtain ⟨A, c, c0, h2, h3, c1, c2, c3, c4, c5, ⟨f0, f1, f2, f3, f4⟩, hk⟩ := h.open
  have hdo0 := Lib.hid hdo
  clear hdo h c0 c1 c5 h2 h3 hk
  cases har : d.armed with
  | false =>
    rw [har] at c2
    rw [did_un d1 (ha.trans har), ite_self]
    by_cases hr : r = 0
    · subst hr
      go_enter Try.func26, Try.ntmps26
      go_wp2_with fail
      refine hdo0.out.mono ?_
      rintro e w1 ⟨rfl, hD1, hB1⟩
      have g2 : w1.cell? ⟨p, 2, none⟩ = some (.bool false) := by obtain ⟨_, _, _, _, _, _, g2, _⟩ := hD1.open; rw [g2, ha, har]
      have HD1 := Lib.hid hD1
      clear hD1
      go_wp2
      go_ret
      exact ⟨rfl, HD1.out, hB1⟩
    · have er : (r == 0) = false := by simp [hr]
      go_enter Try.func26, Try.ntmps26
      go_wp2_with fail
      refine hdo0.out.mono ?_
      rintro e w1 ⟨rfl, hD1, hB1⟩
      have g2 : w1.cell? ⟨p, 2, none⟩ = some (.bool false) := by obtain ⟨_, _, _, _, _, _, g2, _⟩ := hD1.open; rw [g2, ha, har]
      have HD1 := Lib.hid hD1
      clear hD1
      go_wp2
      go_ret
      exact ⟨rfl, HD1.out, hB1⟩
  | true =>
    rw [har] at c2
    have hl0 : d.left ≠ 0 := by intro h0; simp [DS.stops, har, h0] at hs
    have e4 : ((d.left : Int) == 0) = false := by simp [hl0]
    by_cases hr : r = 0
    · subst hr
      rw [if_pos rfl]
      go_enter Try.func26, Try.ntmps26
      go_wp2_with fail
      refine hdo0.out.mono ?_
      rintro e w1 ⟨rfl, hD1, hB1⟩
      obtain ⟨_, _, _, _, _, _, g2, _, g4, _, ⟨_, _, _, _, q4⟩, hk1⟩ := hD1.open
      rw [ha, har] at g2
      have b1 := hk1.lf
      have ha1 := ha.trans har
      have hl1 : d1.left ≠ 0 := by rw [hl]; exact hl0
      have hfin := fun M hM => Lib.hid (left_fin hD1 hB1 ha1 hl1 M hM)
      clear hD1 hk1
      go_wp2
      go_ret
      exact ⟨rfl, (hfin _ (by omega)).out⟩
    · have er : (r == 0) = false := by simp [hr]
      rw [if_neg hr]
      go_enter Try.func26, Try.ntmps26
      go_wp2_with fail
      refine hdo0.out.mono ?_
      rintro e w1 ⟨rfl, hD1, hB1⟩
      have HD1 := Lib.hid hD1
      clear hD1
      go_wp2
      go_ret
      exact ⟨rfl, HD1.out, hB1⟩
end Go.Proofs.Ytlpfhkidpdindaa
