/- The steps of the disk's statements: which script is heavy, what a step does, whether a text begins with another one. -/
import Derived.Test.YtlpfhkidpdindaaDiskAlive
import Derived.Test.YtlpfhkidpdindaaOpen
import Derived.Lib.Strings
namespace Go.Proofs.Ytlpfhkidpdindaa
open Go.RowKit
set_option linter.unusedVariables false
set_option linter.unusedSimpArgs false
attribute [local go_sem] alloc_drewN setCell_drewN

/-- A step of a script. -/
structure StepV where
  op : Int
  n : Int
  s : ByteArray
def RepStep (x : StepV) (cs : List Value) : Prop := cs = [.int .u8 x.op, .int .i64 x.n, .string x.s] ∧ (0 ≤ x.op ∧ x.op ≤ 255) ∧ (-9223372036854775808 ≤ x.n ∧ x.n ≤ 9223372036854775807) ∧ x.s.size ≤ maxLen
theorem cellsStep : Try.prog.cellsOf 37 = 3 := by kernel_rfl
theorem cellsU8 : Try.prog.cellsOf 5 = 1 := by kernel_rfl
theorem cellsInt : Try.prog.cellsOf 3 = 1 := by kernel_rfl
theorem cellsStr : Try.prog.cellsOf 9 = 1 := by kernel_rfl
theorem openStep {H : Type} {enc : TypeId × Value → H} {w : World} {base : Nat} {spare : Nat → Bool} {held : Bool} {n : Nat} {cs : List Value} {x : DataW H × List MemPlace}
    (h : DataW.trod enc Try.prog w base spare held n 37 cs = some x) : ∃ y, RepStep y cs := by
  obtain ⟨hl, hf⟩ := rd_fields Try.underlying37 h
  rw [cellsStep] at hl
  obtain ⟨a, b, c, rfl⟩ := list3 hl
  obtain ⟨_, _, h0⟩ := hf 0 _ rfl
  obtain ⟨_, _, h1⟩ := hf 1 _ rfl
  obtain ⟨_, _, h2⟩ := hf 2 _ rfl
  simp only [cellsU8, cellsInt, cellsStr, List.drop_zero, List.take_succ_cons, List.take_zero, List.drop_succ_cons] at h0 h1 h2
  obtain ⟨m0, e0, w0⟩ := rd_int Try.underlying5 h0
  obtain ⟨m1, e1, w1⟩ := rd_int Try.underlying3 h1
  obtain ⟨m2, e2, w2⟩ := rd_str Try.underlying9 h2
  simp only [List.cons.injEq, and_true] at e0 e1 e2
  subst e0 e1 e2
  exact ⟨⟨m0, m1, m2⟩, rfl, bounds_u8 w0, bounds_i64 w1, w2⟩

theorem Begins_any (s t : ByteArray) (w : World) : Calls Try.prog 19 #[.string s, .string t] w fun e w' => e = .returned (.bool (decide (t.data.toList <+: s.data.toList))) ∧ w' = w := by
  have hl : s.data.toList.length = s.size := by rw [Array.length_toList]; rfl
  have ht : t.data.toList.length = t.size := by rw [Array.length_toList]; rfl
  by_cases h : t.size ≤ s.size
  · have hr : (decide (t.data.toList <+: s.data.toList)) = (s.data.toList.take t.size == t.data.toList) := by
      rw [Bool.eq_iff_iff]
      simp only [decide_eq_true_eq, beq_iff_eq, List.prefix_iff_eq_take, ht]
      exact eq_comm
    rw [hr]
    clear hr hl ht
    go_enter Try.func19, Try.ntmps19
    go_wp2
    go_ret
    refine ⟨?_, rfl⟩
    show Ending.returned (.bool ((s.extract 0 t.size).toList == t.toList)) = _
    rw [ByteArray.toList_eq, ByteArray.toList_eq, Lib.extract_data]
    simp
  · have hr : (decide (t.data.toList <+: s.data.toList)) = false := by
      rw [decide_eq_false_iff_not]
      intro hp
      have := hp.length_le
      omega
    rw [hr]
    clear hr hl ht
    go_enter Try.func19, Try.ntmps19
    go_wp2
    go_ret
    exact ⟨rfl, rfl⟩

/-- What a step does. -/
def DS.does (x : StepV) (d : DS) : Int × DS :=
  if x.op = 0 then d.append x.s.data.toList else if x.op = 1 then d.sync else if x.op = 2 then d.cut x.n else if x.op = 3 then (0, d.arm x.n) else if x.op = 4 then (0, d.crash x.n) else (0, d)
set_option maxHeartbeats 1000000 in
theorem does_any {w : World} {p : Nat} {d : DS} (h : DiskAt w p d) (x : StepV) (hn : -9223372036854775808 ≤ x.n ∧ x.n ≤ 9223372036854775807) (hs : x.s.size ≤ 140737488351232) :
    Calls Try.prog 18 #[.pointer (some ⟨p, 0, none⟩), .agg #[.int .u8 x.op, .int .i64 x.n, .string x.s]] w fun e w' => e = .returned (.int .i64 (d.does x).1) ∧ DiskAt w' p (d.does x).2 ∧ But (· = p) w w' := by
  have h2 := keepAlloc h (.cells #[.int .u8 x.op, .int .i64 x.n, .string x.s] 37)
  have hb : But (· = p) w (w.alloc (.cells #[.int .u8 x.op, .int .i64 x.n, .string x.s] 37)) := (But.refl _ w).alloc _
  have hp := h.lt
  clear h
  obtain ⟨op, n, s⟩ := x
  simp only at hn hs h2 hb ⊢
  obtain ⟨n0, n1⟩ := hn
  by_cases e0 : op = 0
  · subst e0
    rw [show d.does ⟨0, n, s⟩ = d.append s.data.toList from rfl]
    have C := Lib.hid (Append_any h2 s hs)
    clear h2
    go_enter Try.func18, Try.ntmps18
    go_wp2_with (go_at_call 12; go_must (refine C.out.mono ?_; rintro e w' ⟨rfl, h3, b3⟩))
    go_ret
    exact ⟨rfl, by assumption, hb.trans (by assumption)⟩
  have g0 : (op == 0) = false := by simp [e0]
  by_cases e1 : op = 1
  · subst e1
    rw [show d.does ⟨1, n, s⟩ = d.sync from rfl]
    have C := Lib.hid (Sync_any h2)
    clear h2
    go_enter Try.func18, Try.ntmps18
    go_wp2_with (go_at_call 14; go_must (refine C.out.mono ?_; rintro e w' ⟨rfl, h3, b3⟩))
    go_ret
    exact ⟨rfl, by assumption, hb.trans (by assumption)⟩
  have g1 : (op == 1) = false := by simp [e1]
  by_cases e2 : op = 2
  · subst e2
    rw [show d.does ⟨2, n, s⟩ = d.cut n from rfl]
    have C := Lib.hid (Cut_any h2 n)
    clear h2
    go_enter Try.func18, Try.ntmps18
    go_wp2_with (go_at_call 29; go_must (refine C.out.mono ?_; rintro e w' ⟨rfl, h3, b3⟩))
    go_ret
    exact ⟨rfl, by assumption, hb.trans (by assumption)⟩
  have g2 : (op == 2) = false := by simp [e2]
  by_cases e3 : op = 3
  · subst e3
    rw [show d.does ⟨3, n, s⟩ = ((0 : Int), d.arm n) from rfl]
    have C := Lib.hid (Arm_any h2 n n1 n0)
    clear h2
    go_enter Try.func18, Try.ntmps18
    go_wp2_with (go_at_call 9; go_must (refine C.out.mono ?_; rintro e w' ⟨rfl, h3, b3⟩))
    go_ret
    exact ⟨rfl, by assumption, hb.trans (by assumption)⟩
  have g3 : (op == 3) = false := by simp [e3]
  by_cases e4 : op = 4
  · subst e4
    rw [show d.does ⟨4, n, s⟩ = ((0 : Int), d.crash n) from rfl]
    have C := Lib.hid (Crash_any h2 n n1 n0)
    clear h2
    go_enter Try.func18, Try.ntmps18
    go_wp2_with (go_at_call 15; go_must (refine C.out.mono ?_; rintro e w' ⟨rfl, h3, b3⟩))
    go_ret
    exact ⟨rfl, by assumption, hb.trans (by assumption)⟩
  have g4 : (op == 4) = false := by simp [e4]
  rw [show d.does ⟨op, n, s⟩ = ((0 : Int), d) from by simp [DS.does, e0, e1, e2, e3, e4]]
  have C := Lib.hid h2
  clear h2 e0 e1 e2 e3 e4
  go_enter Try.func18, Try.ntmps18
  go_wp2
  go_ret
  exact ⟨rfl, C.out, hb⟩
/-- A script of which a statement tells: not heavy. -/
def Fit (l : List StepV) : Prop := l.length ≤ 200 ∧ ∀ x ∈ l, x.s.size ≤ 256
/-- What a look whether something is too much answers: false only where it fits. -/
def HeavyPost (p : Prop) (w : World) (e : Ending) (w' : World) : Prop := ∃ b : Bool, e = .returned (.bool b) ∧ (b = false → p) ∧ w' = w
/-- Reading field by field. -/
theorem RowAt.three {α : Type} {w : World} {A : Option Addr} {R : α → List Value → Prop} {l : List α} (h : RowAt w A 3 R l) (i : Nat) (x : α) (hi : l[i]? = some x) :
    ∃ g off c, A = some ⟨g, off, none⟩ ∧ g < w.heap.size ∧ R x c ∧ c.length = 3 ∧ ∀ j u, c[j]? = some u → w.cell? ⟨g, off + i * 3 + j, none⟩ = some u := by
  obtain ⟨cs, hl, hs, hR⟩ := h
  have hil : i < l.length := (List.getElem?_eq_some_iff.1 hi).1
  obtain ⟨g, off, hA, hg, hc⟩ := hs.at (i * 3) (by omega)
  refine ⟨g, off, _, hA, hg, hR i x hi, by rw [List.length_take, List.length_drop]; omega, fun j u hj => (by rw [Nat.add_assoc]; exact hc _ u (by
    rw [List.getElem?_take] at hj
    split at hj
    · rw [List.getElem?_drop] at hj; exact hj
    · cases hj))⟩
set_option maxHeartbeats 1000000 in
theorem heavy14_any {w : World} {A : Option Addr} {len cap : Nat} {l : List StepV} (hl : l.length = len) (hle : len ≤ cap) (hcap : cap ≤ maxLen) (h : RowAt w A 3 RepStep l) :
    Calls Try.prog 16 #[.slice A len cap] w fun e w' => HeavyPost (Fit l) w e w' := by
  simp only [maxLen] at hcap
  by_cases hlong : 200 < len
  · clear h
    go_enter Try.func16, Try.ntmps16
    go_wp2
    go_ret
    exact ⟨true, rfl, fun h => (by cases h), rfl⟩
  have HS := Lib.hid h
  clear h
  go_enter Try.func16, Try.ntmps16
  go_wp2_with fail
  go_loop [3] (fun i => ∃ k : Nat, k ≤ len ∧ i = .int .i64 k ∧ ∀ j x, j < k → l[j]? = some x → x.s.size ≤ 256) (fun i => len - (intOf i).toNat)
  case atStart => exact ⟨0, Nat.zero_le _, rfl, fun j x hj => absurd hj (by omega)⟩
  case round =>
    obtain ⟨k, hk, rfl, hq⟩ := hrel
    have HQ := Lib.hid hq
    clear hq
    by_cases hlt : k < len
    · have hlk : l[k]? = some l[k] := List.getElem?_eq_getElem (by omega)
      obtain ⟨g, off, c, rfl, hg, ⟨rfl, _, _, hsz⟩, _, hc⟩ := HS.out.three k _ hlk
      have c2 : w.cell? ⟨g, off + k * 3 + 2, none⟩ = some (.string l[k].s) := hc 2 _ rfl
      clear hc hg
      generalize hx : l[k] = x at c2 hlk hsz
      have HX := Lib.hid hlk
      clear hlk hx
      simp only [maxLen] at hsz
      by_cases hbig : 256 < x.s.size
      · go_wp2
        go_ret
        exact ⟨true, rfl, fun h => (by cases h), rfl⟩
      · go_wp2
        go_round
        case rel => exact ⟨k + 1, by omega, by go_num, fun j y hj hy => by
          rcases Nat.lt_or_ge j k with h | h
          · exact HQ.out j y h hy
          · obtain rfl : j = k := by omega
            rw [HX.out] at hy; injection hy with hy; subst hy; omega⟩
        case measure => simp [intOf]; omega
    · obtain rfl : k = len := by omega
      go_wp2
      go_ret
      exact ⟨false, rfl, fun _ => ⟨by omega, fun x hx => by
        obtain ⟨j, hj⟩ := List.getElem?_of_mem hx
        exact HQ.out j x (by have := (List.getElem?_eq_some_iff.1 hj).1; omega) hj⟩, rfl⟩
end Go.Proofs.Ytlpfhkidpdindaa
