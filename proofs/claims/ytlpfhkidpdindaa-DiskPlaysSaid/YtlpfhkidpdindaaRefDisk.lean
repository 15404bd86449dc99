/- The reference's disk: what each of its methods does. -/
import Derived.Test.YtlpfhkidpdindaaProg
import Derived.Test.YtlpfhkidpdindaaBase
import Derived.Deep.QuietTactic
import Derived.BigQuiet
import Derived.RegionTactic
import Derived.BigRegion
import Derived.Lib.Hide
import Derived.Lib.Strings
namespace Go.Proofs.Ytlpfhkidpdindaa
open Go.RowKit
set_option linter.unusedVariables false
set_option linter.unusedSimpArgs false
attribute [local go_sem] alloc_drewN setCell_drewN

/-- A disk of the document's. -/
structure RS where
  most : Nat
  left : Int
  good : ByteArray
  loose : ByteArray
  down : Bool
structure RS.Ok (r : RS) : Prop where
  le : r.good.size + r.loose.size ≤ r.most
  mo : r.most ≤ 1048576
  l0 : -1 ≤ r.left
  l1 : r.left ≤ 9223372036854775807
def RefAt (w : World) (p : Nat) (r : RS) : Prop :=
  w.heap[p]? = some (.cells #[.int .i64 r.most, .int .i64 r.left, .string r.good, .string r.loose, .bool r.down] 57 (0, 0)) ∧ r.Ok
theorem RefAt.lt {w : World} {p : Nat} {r : RS} (h : RefAt w p r) : p < w.heap.size := blkLt h.1
theorem RefAt.but {w w1 : World} {q : Nat} {r : RS} {p : Nat → Prop} (h : RefAt w q r) (k : But p w w1) (hq : ¬ p q) : RefAt w1 q r := ⟨k.blk h.1 hq, h.2⟩
theorem RefAt.open {w : World} {p : Nat} {r : RS} (h : RefAt w p r) : w.cell? ⟨p, 0, none⟩ = some (.int .i64 r.most) ∧ w.cell? ⟨p, 1, none⟩ = some (.int .i64 r.left) ∧ w.cell? ⟨p, 2, none⟩ = some (.string r.good) ∧ w.cell? ⟨p, 3, none⟩ = some (.string r.loose) ∧ w.cell? ⟨p, 4, none⟩ = some (.bool r.down) ∧
    (w.frozen? ⟨p, 0, none⟩ = false ∧ w.frozen? ⟨p, 1, none⟩ = false ∧ w.frozen? ⟨p, 2, none⟩ = false ∧ w.frozen? ⟨p, 3, none⟩ = false ∧ w.frozen? ⟨p, 4, none⟩ = false) :=
  ⟨cellOf h.1 0, cellOf h.1 1, cellOf h.1 2, cellOf h.1 3, cellOf h.1 4, frozenOf h.1 0, frozenOf h.1 1, frozenOf h.1 2, frozenOf h.1 3, frozenOf h.1 4⟩

def RS.stop (r : RS) : RS := { r with down := r.down || decide (r.left = 0) }
def RS.did (r : RS) : RS := { r with left := if 0 < r.left then r.left - 1 else r.left }

theorem RefAt.store4 {w : World} {p : Nat} {r : RS} (h : RefAt w p r) (b : Bool) : RefAt (w.setCell ⟨p, 4, none⟩ (.bool b)) p { r with down := b } := by
  refine ⟨?_, h.2.le, h.2.mo, h.2.l0, h.2.l1⟩
  rw [blkSet h.1 4 _]; simp
theorem RefAt.store1 {w : World} {p : Nat} {r : RS} (h : RefAt w p r) (n : Int) (h0 : -1 ≤ n) (h1 : n ≤ 9223372036854775807) : RefAt (w.setCell ⟨p, 1, none⟩ (.int .i64 n)) p { r with left := n } := by
  refine ⟨?_, h.2.le, h.2.mo, h0, h1⟩
  rw [blkSet h.1 1 _]; simp
theorem RefAt.store3 {w : World} {p : Nat} {r : RS} (h : RefAt w p r) (s : ByteArray) (hs : r.good.size + s.size ≤ r.most) : RefAt (w.setCell ⟨p, 3, none⟩ (.string s)) p { r with loose := s } := by
  refine ⟨?_, hs, h.2.mo, h.2.l0, h.2.l1⟩
  rw [blkSet h.1 3 _]; simp
theorem RefAt.two {w : World} {p : Nat} {r : RS} (h : RefAt w p r) (g l : ByteArray) (hs : g.size + l.size ≤ r.most) : RefAt ((w.setCell ⟨p, 2, none⟩ (.string g)).setCell ⟨p, 3, none⟩ (.string l)).drew p { r with good := g, loose := l } := by
  refine ⟨?_, hs, h.2.mo, h.2.l0, h.2.l1⟩
  show ((w.setCell ⟨p, 2, none⟩ (.string g)).setCell ⟨p, 3, none⟩ (.string l)).heap[p]? = _
  rw [blkSet (blkSet h.1 2 _) 3 _]; simp
theorem But.store {w w1 : World} {p : Nat} (h : But (· = p) w w1) (i : Nat) (v : Value) : But (· = p) w (w1.setCell ⟨p, i, none⟩ v) := h.setCell (.inl rfl) _

theorem stops_any {w : World} {p : Nat} {r : RS} (h : RefAt w p r) :
    Calls Try.prog 36 #[.pointer (some ⟨p, 0, none⟩)] w fun e w' => e = .returned (.bool (decide (r.left = 0))) ∧ RefAt w' p r.stop ∧ But (· = p) w w' := by
  obtain ⟨c0, c1, c2, c3, c4, f0, f1, f2, f3, f4⟩ := h.open
  have H := Lib.hid (fun b => h.store4 b)
  clear h c0 c2 c3 f0 f1 f2 f3
  cases hd : r.down with
  | true =>
    rw [hd] at c4
    by_cases hl : r.left = 0
    · have e1 : (r.left == 0) = true := by simp [hl]
      rw [show r.stop = { r with down := true } from by simp [RS.stop, hd], show decide (r.left = 0) = true from by simp [hl]]
      clear hl
      go_enter Try.func36, Try.ntmps36
      go_wp2
      go_ret
      exact ⟨rfl, H.out true, (But.refl _ _).store _ _⟩
    · have e1 : (r.left == 0) = false := by simp [hl]
      rw [show r.stop = { r with down := true } from by simp [RS.stop, hd], show decide (r.left = 0) = false from by simp [hl]]
      go_enter Try.func36, Try.ntmps36
      go_wp2
      go_ret
      exact ⟨rfl, H.out true, (But.refl _ _).store _ _⟩
  | false =>
    rw [hd] at c4
    by_cases hl : r.left = 0
    · have e1 : (r.left == 0) = true := by simp [hl]
      rw [show r.stop = { r with down := true } from by simp [RS.stop, hd, hl], show decide (r.left = 0) = true from by simp [hl]]
      clear hl
      go_enter Try.func36, Try.ntmps36
      go_wp2
      go_ret
      exact ⟨rfl, H.out true, (But.refl _ _).store _ _⟩
    · have e1 : (r.left == 0) = false := by simp [hl]
      rw [show r.stop = { r with down := false } from by simp [RS.stop, hd, hl], show decide (r.left = 0) = false from by simp [hl]]
      go_enter Try.func36, Try.ntmps36
      go_wp2
      go_ret
      exact ⟨rfl, H.out false, (But.refl _ _).store _ _⟩

theorem done_any {w : World} {p : Nat} {r : RS} (h : RefAt w p r) :
    Calls Try.prog 37 #[.pointer (some ⟨p, 0, none⟩)] w fun e w' => e = .returned (.int .i64 0) ∧ RefAt w' p r.did ∧ But (· = p) w w' := by
  obtain ⟨c0, c1, c2, c3, c4, f0, f1, f2, f3, f4⟩ := h.open
  have l0 := h.2.l0
  have l1 := h.2.l1
  have H := Lib.hid (fun n h0 h1 => h.store1 n h0 h1)
  have H0 := Lib.hid h
  clear h c0 c2 c3 c4 f0 f2 f3 f4
  by_cases hl : 0 < r.left
  · rw [show r.did = { r with left := r.left - 1 } from by simp [RS.did, hl]]
    go_enter Try.func37, Try.ntmps37
    go_wp2
    go_ret
    exact ⟨rfl, H.out _ (by omega) (by omega), (But.refl _ _).store _ _⟩
  · rw [show r.did = r from by simp [RS.did, hl]]
    go_enter Try.func37, Try.ntmps37
    go_wp2
    go_ret
    exact ⟨rfl, H0.out, But.refl _ _⟩

/-! ### What the document's disk becomes -/
def RS.append (s : ByteArray) (r : RS) : Int × RS :=
  if r.left = 0 then (140, r.stop) else if (r.most : Int) - r.good.size - r.loose.size < s.size then (4, r.stop) else (0, RS.did { r.stop with loose := r.loose ++ s })
def RS.cut (n : Int) (r : RS) : Int × RS :=
  if r.left = 0 then (140, r.stop) else if n < 0 ∨ ((r.good ++ r.loose).size : Int) < n then (2, r.stop) else (0, RS.did { r.stop with good := (r.good ++ r.loose).extract 0 n.toNat, loose := ⟨#[]⟩ })
def RS.sync (r : RS) : Int × RS :=
  if r.left = 0 then (140, r.stop) else (0, RS.did { r.stop with good := r.good ++ r.loose, loose := ⟨#[]⟩ })
def RS.arm (n : Int) (r : RS) : RS := { r with left := max n 0 }
def RS.crash (keep : Int) (r : RS) : RS := { r with good := r.good ++ r.loose.extract 0 (min (max keep 0) r.loose.size).toNat, loose := ⟨#[]⟩, left := -1, down := false }

theorem RefAt.drewN {w : World} {p : Nat} {r : RS} (h : RefAt w p r) (n : Nat) : RefAt (w.drewN n) p r := h
theorem ext_data : ∀ {a b : ByteArray}, a.data.toList = b.data.toList → a = b := by
  rintro ⟨⟨a⟩⟩ ⟨⟨b⟩⟩ h; simp at h; simp [h]
theorem data_append (s t : ByteArray) : (s ++ t).data.toList = s.data.toList ++ t.data.toList := by simp [ByteArray.data_append]
theorem sizeAppend (s t : ByteArray) : (s ++ t).size = s.size + t.size := ByteArray.size_append

theorem RefAppend_any {w : World} {p : Nat} {r : RS} (h : RefAt w p r) (s : ByteArray) (hs : s.size ≤ 140737488351232) :
    Calls Try.prog 30 #[.pointer (some ⟨p, 0, none⟩), .string s] w fun e w' => e = .returned (.int .i64 (r.append s).1) ∧ RefAt w' p (r.append s).2 ∧ But (· = p) w w' := by
  have C := Lib.hid (stops_any h)
  have hk := h.2
  by_cases hl : r.left = 0
  · rw [show r.append s = (140, r.stop) from by simp [RS.append, hl]]
    rw [show decide (r.left = 0) = true from by simp [hl]] at C
    clear h hk
    go_enter Try.func30, Try.ntmps30
    go_wp2_with fail
    refine C.out.mono ?_
    rintro e w1 ⟨rfl, h1, b1⟩
    have H1 := Lib.hid h1
    clear h1 C
    go_wp2
    go_ret
    exact ⟨rfl, H1.out, b1⟩
  rw [show decide (r.left = 0) = false from by simp [hl]] at C
  have k1 := hk.le
  have k2 := hk.mo
  by_cases hf : (r.most : Int) - r.good.size - r.loose.size < s.size
  · rw [show r.append s = (4, r.stop) from by simp [RS.append, hl, hf]]
    clear h hk
    go_enter Try.func30, Try.ntmps30
    go_wp2_with fail
    refine C.out.mono ?_
    rintro e w1 ⟨rfl, h1, b1⟩
    obtain ⟨c0, c1, c2, c3, c4, _⟩ := h1.open
    simp only [RS.stop] at c0 c2 c3
    have H1 := Lib.hid h1
    clear h1 C c1 c4
    go_wp2
    go_quiet (fail)
    go_wp2
    go_ret
    exact ⟨rfl, H1.out, b1.drewN _⟩
  · rw [show r.append s = (0, RS.did { r.stop with loose := r.loose ++ s }) from by simp [RS.append, hl, hf]]
    clear h hk
    go_enter Try.func30, Try.ntmps30
    go_wp2_with fail
    refine C.out.mono ?_
    rintro e w1 ⟨rfl, h1, b1⟩
    obtain ⟨c0, c1, c2, c3, c4, _, _, _, f3, _⟩ := h1.open
    simp only [RS.stop] at c0 c2 c3
    have H1 := Lib.hid h1
    have B1 := Lib.hid b1
    clear h1 C c1 c4 b1
    go_wp2
    go_quiet (fail)
    go_wp2_with fail
    have H2 := Lib.hid (H1.out.store3 (r.loose ++ s) (by rw [sizeAppend]; simp only [RS.stop]; omega))
    refine (done_any (H2.out.drewN _)).mono ?_
    rintro e w2 ⟨rfl, h2, b2⟩
    have H3 := Lib.hid h2
    clear h2
    go_wp2
    go_ret
    exact ⟨rfl, H3.out, ((B1.out.store _ _).drewN _).trans b2⟩

theorem RefSync_any {w : World} {p : Nat} {r : RS} (h : RefAt w p r) :
    Calls Try.prog 31 #[.pointer (some ⟨p, 0, none⟩)] w fun e w' => e = .returned (.int .i64 r.sync.1) ∧ RefAt w' p r.sync.2 ∧ But (· = p) w w' := by
  have C := Lib.hid (stops_any h)
  have hk := h.2
  by_cases hl : r.left = 0
  · rw [show r.sync = (140, r.stop) from by simp [RS.sync, hl]]
    rw [show decide (r.left = 0) = true from by simp [hl]] at C
    clear h hk
    go_enter Try.func31, Try.ntmps31
    go_wp2_with fail
    refine C.out.mono ?_
    rintro e w1 ⟨rfl, h1, b1⟩
    have H1 := Lib.hid h1
    clear h1 C
    go_wp2
    go_ret
    exact ⟨rfl, H1.out, b1⟩
  rw [show decide (r.left = 0) = false from by simp [hl]] at C
  have k1 := hk.le
  have k2 := hk.mo
  rw [show r.sync = (0, RS.did { r.stop with good := r.good ++ r.loose, loose := ⟨#[]⟩ }) from by simp [RS.sync, hl]]
  clear h hk
  go_enter Try.func31, Try.ntmps31
  go_wp2_with fail
  refine C.out.mono ?_
  rintro e w1 ⟨rfl, h1, b1⟩
  obtain ⟨c0, c1, c2, c3, c4, _, _, f2, f3, _⟩ := h1.open
  simp only [RS.stop] at c0 c2 c3
  have H1 := Lib.hid h1
  have B1 := Lib.hid b1
  clear h1 C c1 c4 b1
  go_wp2
  go_region
  all_goals go_wp2_with fail
  all_goals
    refine (done_any (RefAt.two H1.out (r.good ++ r.loose) (⟨#[]⟩ : ByteArray) (by rw [sizeAppend]; show r.good.size + r.loose.size + 0 ≤ _; simp only [RS.stop]; omega))).mono ?_
    rintro e w2 ⟨rfl, h2, b2⟩
    have H3 := Lib.hid h2
    clear h2
    go_wp2
    go_ret
    exact ⟨rfl, H3.out, (((B1.out.store _ _).store _ _).drew).trans b2⟩

theorem RefCut_any {w : World} {p : Nat} {r : RS} (h : RefAt w p r) (n : Int) :
    Calls Try.prog 32 #[.pointer (some ⟨p, 0, none⟩), .int .i64 n] w fun e w' => e = .returned (.int .i64 (r.cut n).1) ∧ RefAt w' p (r.cut n).2 ∧ But (· = p) w w' := by
  have C := Lib.hid (stops_any h)
  have hk := h.2
  by_cases hl : r.left = 0
  · rw [show r.cut n = (140, r.stop) from by simp [RS.cut, hl]]
    rw [show decide (r.left = 0) = true from by simp [hl]] at C
    clear h hk
    go_enter Try.func32, Try.ntmps32
    go_wp2_with fail
    refine C.out.mono ?_
    rintro e w1 ⟨rfl, h1, b1⟩
    have H1 := Lib.hid h1
    clear h1 C
    go_wp2
    go_ret
    exact ⟨rfl, H1.out, b1⟩
  rw [show decide (r.left = 0) = false from by simp [hl]] at C
  have k1 := hk.le
  have k2 := hk.mo
  have ez : (r.good ++ r.loose).size = r.good.size + r.loose.size := sizeAppend _ _
  by_cases hf : n < 0 ∨ ((r.good ++ r.loose).size : Int) < n
  · rw [show r.cut n = (2, r.stop) from by simp only [RS.cut, if_neg hl, if_pos hf]]
    clear h hk
    go_enter Try.func32, Try.ntmps32
    go_wp2_with fail
    refine C.out.mono ?_
    rintro e w1 ⟨rfl, h1, b1⟩
    obtain ⟨c0, c1, c2, c3, c4, _⟩ := h1.open
    simp only [RS.stop] at c0 c2 c3
    have H1 := Lib.hid h1
    clear h1 C c1 c4
    rw [ez] at hf
    clear ez
    go_wp2
    go_quiet (fail)
    go_wp2
    all_goals go_ret
    all_goals exact ⟨rfl, H1.out, b1.drewN _⟩
  · rw [show r.cut n = (0, RS.did { r.stop with good := (r.good ++ r.loose).extract 0 n.toNat, loose := ⟨#[]⟩ }) from by simp only [RS.cut, if_neg hl, if_neg hf]]
    obtain ⟨n, rfl⟩ := Int.eq_ofNat_of_zero_le (show 0 ≤ n by omega)
    have hn : n ≤ r.good.size + r.loose.size := by omega
    clear h hk
    go_enter Try.func32, Try.ntmps32
    go_wp2_with fail
    refine C.out.mono ?_
    rintro e w1 ⟨rfl, h1, b1⟩
    obtain ⟨c0, c1, c2, c3, c4, _, _, f2, f3, _⟩ := h1.open
    simp only [RS.stop] at c0 c2 c3
    have H1 := Lib.hid h1
    have B1 := Lib.hid b1
    have EZ := Lib.hid ez
    clear h1 C c1 c4 b1 hf ez
    go_wp2
    go_quiet (fail)
    go_wp2_with fail
    have H2 := RefAt.two H1.out ((r.good ++ r.loose).extract 0 n) (⟨#[]⟩ : ByteArray) (by
      have := EZ.out
      show ((r.good ++ r.loose).extract 0 n).size + 0 ≤ r.most
      rw [ByteArray.size_extract]; omega)
    refine (done_any (show RefAt (((w1.setCell ⟨p, 2, none⟩ (.string ((r.good ++ r.loose).extract 0 n))).setCell ⟨p, 3, none⟩ (.string ⟨#[]⟩)).drewN nq) p _ from H2)).mono ?_
    rintro e w2 ⟨rfl, h2, b2⟩
    have H3 := Lib.hid h2
    clear h2
    go_wp2
    go_ret
    exact ⟨rfl, H3.out, (((B1.out.store _ _).store _ _).drewN _).trans b2⟩

theorem RefArm_any {w : World} {p : Nat} {r : RS} (h : RefAt w p r) (n : Int) (hn : n ≤ 9223372036854775807) (hn' : -9223372036854775808 ≤ n) :
    Calls Try.prog 33 #[.pointer (some ⟨p, 0, none⟩), .int .i64 n] w fun e w' => e = .returned (.tuple #[]) ∧ RefAt w' p (r.arm n) ∧ But (· = p) w w' := by
  obtain ⟨c0, c1, c2, c3, c4, f0, f1, f2, f3, f4⟩ := h.open
  have H := Lib.hid (fun n h0 h1 => h.store1 n h0 h1)
  clear h c0 c2 c3 c4 f0 f2 f3 f4
  by_cases h0 : 0 ≤ n
  · rw [show r.arm n = { r with left := n } from by simp [RS.arm, Int.max_eq_left h0]]
    go_enter Try.func33, Try.ntmps33
    go_wp2
    go_end0
    exact ⟨rfl, H.out _ (by omega) hn, (But.refl _ _).store _ _⟩
  · rw [show r.arm n = { r with left := 0 } from by simp [RS.arm, Int.max_eq_right (show n ≤ 0 by omega)]]
    go_enter Try.func33, Try.ntmps33
    go_wp2
    go_end0
    exact ⟨rfl, H.out _ (by omega) (by omega), (But.refl _ _).store _ _⟩

theorem RefCrash_any {w : World} {p : Nat} {r : RS} (h : RefAt w p r) (n : Int) (hn : n ≤ 9223372036854775807) (hn' : -9223372036854775808 ≤ n) :
    Calls Try.prog 34 #[.pointer (some ⟨p, 0, none⟩), .int .i64 n] w fun e w' => e = .returned (.tuple #[]) ∧ RefAt w' p (r.crash n) ∧ But (· = p) w w' := by
  obtain ⟨c0, c1, c2, c3, c4, f0, f1, f2, f3, f4⟩ := h.open
  have k1 := h.2.le
  have k2 := h.2.mo
  have H := Lib.hid h
  clear h c0 f0
  obtain ⟨m, hm⟩ : ∃ m : Nat, min (max n 0) (r.loose.size : Int) = m := ⟨(min (max n 0) (r.loose.size : Int)).toNat, by omega⟩
  have hml : m ≤ r.loose.size := by omega
  have hfin : ∀ s : ByteArray, s = r.good ++ r.loose.extract 0 m → RefAt ((((w.setCell ⟨p, 2, none⟩ (.string s)).setCell ⟨p, 3, none⟩ (.string ⟨#[]⟩)).setCell ⟨p, 1, none⟩ (.int .i64 (-1))).setCell ⟨p, 4, none⟩ (.bool false)).drew p (r.crash n) := by
    rintro s rfl
    have hr : r.crash n = { r with good := r.good ++ r.loose.extract 0 m, loose := ⟨#[]⟩, left := -1, down := false } := by
      simp only [RS.crash]
      rw [show (min (max n 0) (r.loose.size : Int)).toNat = m from by omega]
    rw [hr]
    refine ⟨?_, ?_, k2, by simp, by simp⟩
    · show ((((w.setCell ⟨p, 2, none⟩ _).setCell ⟨p, 3, none⟩ _).setCell ⟨p, 1, none⟩ _).setCell ⟨p, 4, none⟩ _).heap[p]? = _
      rw [blkSet (blkSet (blkSet (blkSet H.out.1 2 _) 3 _) 1 _) 4 _]
      simp
    · show (r.good ++ r.loose.extract 0 m).size + 0 ≤ r.most
      rw [sizeAppend, ByteArray.size_extract]; omega
  have HF := Lib.hid hfin
  clear hfin
  go_enter Try.func34, Try.ntmps34
  by_cases h0 : n < 0
  · go_wp2
    go_region
    all_goals go_wp2
    all_goals go_end0
    all_goals exact ⟨rfl, HF.out _ (by
      have hz : m = 0 := by omega
      subst hz
      apply ext_data
      simp [Lib.extract_data, data_append]), (((((But.refl _ _).store _ _).store _ _).store _ _).store _ _).drew⟩
  · go_wp2
    go_region
    all_goals go_wp2
    all_goals go_end0
    all_goals exact ⟨rfl, HF.out _ (by
      first
        | (have hz : m = n.toNat := by omega
           rw [hz])
        | (have hz : m = r.loose.size := by omega
           subst hz
           apply ext_data
           rw [data_append, data_append, Lib.extract_data, List.drop_zero, Nat.sub_zero, List.take_of_length_le (by rw [Array.length_toList]; exact Nat.le_refl _)])), (((((But.refl _ _).store _ _).store _ _).store _ _).store _ _).drew⟩

theorem RefNew_no (room : Int) (w : World) (h : room < 0 ∨ 1048576 < room) :
    Calls Try.prog 21 #[.int .i64 room] w fun e w' => e = .returned (.pointer none) ∧ But (fun _ => False) w w' := by
  by_cases h0 : room < 0
  · go_enter Try.func21, Try.ntmps21
    go_wp2
    go_ret
    exact ⟨rfl, But.refl _ _⟩
  · have h1 : 1048576 < room := by omega
    go_enter Try.func21, Try.ntmps21
    go_wp2
    go_ret
    exact ⟨rfl, But.refl _ _⟩
def RS.new (room : Nat) : RS := { most := room, left := -1, good := ByteArray.empty, loose := ByteArray.empty, down := false }
theorem RefNew_yes (room : Int) (w : World) (h0 : 0 ≤ room) (h1 : room ≤ 1048576) :
    Calls Try.prog 21 #[.int .i64 room] w fun e w' => ∃ p, e = .returned (.pointer (some ⟨p, 0, none⟩)) ∧ RefAt w' p (RS.new room.toNat) ∧ w.heap.size ≤ p ∧ But (fun _ => False) w w' := by
  go_enter Try.func21, Try.ntmps21
  go_wp2
  go_ret
  refine ⟨w.heap.size, rfl, ⟨?_, ⟨by simp [RS.new], by simp [RS.new]; omega, by simp [RS.new], by simp [RS.new]⟩⟩, Nat.le_refl _, (But.refl _ _).alloc _⟩
  rw [heap_alloc_new]
  simp [RS.new, Int.toNat_of_nonneg h0]
  rfl
end Go.Proofs.Ytlpfhkidpdindaa
