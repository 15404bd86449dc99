/- Whether a list of transactions holds one; whether a list of members names an organisation. -/
import Derived.Test.YtmaihiajgjijhaaSafe8
namespace Go.Proofs.Ytmaihiajgjijhaa
open Go.RowKit
set_option linter.unusedVariables false
set_option linter.unusedSimpArgs false
attribute [local go_sem] alloc_drewN setCell_drewN

def TxnsAt (w : World) (A : Option Addr) (n c : Nat) (ts : List TxnV) : Prop := ts.length = n ∧ n ≤ c ∧ c ≤ 9223372036854775807 ∧ RowAt w A 3 (fun t cs => cs = [.int .i64 t.c, .int .i64 t.e, .int .i64 t.s]) ts
theorem TxnsAt.but {w w1 : World} {A : Option Addr} {n c : Nat} {ts : List TxnV} (h : TxnsAt w A n c ts) (k : But (fun _ => False) w w1) : TxnsAt w1 A n c ts := ⟨h.1, h.2.1, h.2.2.1, h.2.2.2.but k⟩
theorem TxnsAt.get {w : World} {A : Option Addr} {n c : Nat} {ts : List TxnV} (h : TxnsAt w A n c ts) (k : Nat) (hk : k < ts.length) : ∃ g off, A = some ⟨g, off, none⟩ ∧ g < w.heap.size ∧ w.cell? ⟨g, off + k * 3, none⟩ = some (.int .i64 ts[k].c) ∧ w.cell? ⟨g, off + k * 3 + 1, none⟩ = some (.int .i64 ts[k].e) ∧ w.cell? ⟨g, off + k * 3 + 2, none⟩ = some (.int .i64 ts[k].s) := by
  obtain ⟨g, off, cs, hA, hg, rfl, _, hc⟩ := h.2.2.2.elem (by decide) k ts[k] (List.getElem?_eq_getElem hk)
  exact ⟨g, off, hA, hg, hc 0 _ rfl, hc 1 _ rfl, hc 2 _ rfl⟩
/-- The first place. -/
def IndexIs (w : World) (b : Bool) (e : Ending) (w' : World) : Prop := ∃ v : Int, e = .returned (.int .i64 v) ∧ decide (0 ≤ v) = b ∧ But (fun _ => False) w w'

set_option maxRecDepth 100000 in
set_option maxHeartbeats 2000000 in
theorem Index_txn {w : World} {A : Option Addr} {n c : Nat} {ts : List TxnV} (t : TxnV) (h : TxnsAt w A n c ts) :
    Calls Try.prog 31 #[.slice A n c, t.val] w (IndexIs w (decide (t ∈ ts))) := by
  have hl : ts.length = n := h.1
  have hnc : n ≤ c := h.2.1
  have hc : c ≤ 9223372036854775807 := h.2.2.1
  have hb0 : But (fun _ => False) w (w.alloc t.obj) := (But.refl _ w).alloc _
  have H1 := Lib.hid (h.but hb0)
  have HB := Lib.hid hb0
  have HH := Lib.hid (Holds.new w t.obj)
  have HF : ∀ k m : Nat, k ≤ n → t ∉ ts.take k → ∃ k' m' : Nat, k' ≤ n ∧ Value.int .i64 (k : Int) = .int .i64 k' ∧ t ∉ ts.take k' ∧ (w.alloc t.obj).drewN m = (w.alloc t.obj).drewN m' := fun k m a b => ⟨k, m, a, rfl, b, rfl⟩
  have HFI := Lib.hid HF
  have HL := Lib.hid hl
  have hyes : ∀ (k : Nat) (hk : k < ts.length) (m : Nat), ts[k] = t → IndexIs w (decide (t ∈ ts)) (.returned (.int .i64 (k : Int))) ((w.alloc t.obj).drewN m) := fun k hk m he =>
    ⟨k, rfl, by rw [show decide (t ∈ ts) = true from by rw [decide_eq_true_eq, ← he]; exact List.getElem_mem hk]; simp, HB.out.drewN m⟩
  have hno : ∀ m : Nat, t ∉ ts → IndexIs w (decide (t ∈ ts)) (.returned (.int .i64 (-1))) ((w.alloc t.obj).drewN m) := fun m he =>
    ⟨-1, rfl, by simp [he], HB.out.drewN m⟩
  have HY := Lib.hid hyes
  have HNO := Lib.hid hno
  clear HF h hl hb0 hyes hno
  unfold TxnV.val
  obtain ⟨tc, te, tss⟩ := t
  unfold TxnV.obj at HFI HY HNO H1 HH
  simp only at HFI HY HNO H1 HH ⊢
  go_enter Try.func31, Try.ntmps31
  go_wp2_with fail
  go_loopw [8] (fun i wr => ∃ k m : Nat, k ≤ n ∧ i = .int .i64 k ∧ (⟨tc, te, tss⟩ : TxnV) ∉ ts.take k ∧ wr = (w.alloc (.cells #[.int .i64 tc, .int .i64 te, .int .i64 tss] 24)).drewN m) (fun i _ => n - (intOf i).toNat)
  case atStart => exact ⟨0, 0, Nat.zero_le _, rfl, by simp, rfl⟩
  case round =>
    obtain ⟨k, m, hk, rfl, hq, rfl⟩ := hrel
    have HQ := Lib.hid hq
    clear hq
    by_cases hlt : k < n
    · have hk1 : k < ts.length := by have := HL.out; omega
      obtain ⟨g, off, e1, hg, c0, c1, c2⟩ := H1.out.get k hk1
      have b0 := cells_cell HH.out 0
      have b1 := cells_cell HH.out 1
      have b2 := cells_cell HH.out 2
      subst e1
      have hstep : ts[k] ≠ ⟨tc, te, tss⟩ → (⟨tc, te, tss⟩ : TxnV) ∉ ts.take (k + 1) := fun hne hm => by
        rw [List.take_succ_eq_append_getElem hk1, List.mem_append, List.mem_singleton] at hm
        rcases hm with hm | hm
        · exact HQ.out hm
        · exact hne hm.symm
      have hyk := fun m => HY.out k hk1 m
      have HS := Lib.hid hstep
      have HYK := Lib.hid hyk
      clear hstep hyk
      generalize ts[k] = y at *
      obtain ⟨yc, ye, ys⟩ := y
      simp only at c0 c1 c2
      by_cases e1 : tc = yc
      · subst e1
        by_cases e2 : te = ye
        · subst e2
          by_cases e3 : tss = ys
          · subst e3
            go_wp2
            go_quiet (fail)
            go_wp2
            go_ret
            rw [World.drewN_drewN]
            exact HYK.out _ trivial
          · have g3 : (tss == ys) = false := by simpa using e3
            have HE := Lib.hid e3
            clear e3
            go_wp2
            go_quiet (fail)
            go_wp2
            go_roundw
            case rel => exact HFI.out (k + 1) _ (by omega) (HS.out (by intro h; injection h with _ _ h3; exact HE.out h3.symm))
            case measure => simp [intOf]; omega
        · have g2 : (te == ye) = false := by simpa using e2
          have HE := Lib.hid e2
          clear e2
          go_wp2
          go_quiet (fail)
          go_wp2
          go_roundw
          case rel => exact HFI.out (k + 1) _ (by omega) (HS.out (by intro h; injection h with _ h3 _; exact HE.out h3.symm))
          case measure => simp [intOf]; omega
      · have g1 : (tc == yc) = false := by simpa using e1
        have HE := Lib.hid e1
        clear e1
        go_wp2
        go_quiet (fail)
        go_wp2
        go_roundw
        case rel => exact HFI.out (k + 1) _ (by omega) (HS.out (by intro h; injection h with h3 _ _; exact HE.out h3.symm))
        case measure => simp [intOf]; omega
    · obtain rfl : k = n := by omega
      go_wp2
      go_ret
      refine HNO.out _ ?_
      have := HQ.out
      rw [List.take_of_length_le (by rw [HL.out]; exact Nat.le_refl _)] at this
      exact this
theorem Contains_txn {w : World} {A : Option Addr} {n c : Nat} {ts : List TxnV} (t : TxnV) (h : TxnsAt w A n c ts) :
    Calls Try.prog 22 #[.slice A n c, t.val] w fun e w' => e = .returned (.bool (decide (t ∈ ts))) ∧ But (fun _ => False) w w' := by
  have hb0 : But (fun _ => False) w (w.alloc t.obj) := (But.refl _ w).alloc _
  have C := Lib.hid (Index_txn t (h.but hb0))
  have HH := Holds.new w t.obj
  have HB := Lib.hid hb0
  clear h hb0
  have b0 := cells_cell HH 0
  have b1 := cells_cell HH 1
  have b2 := cells_cell HH 2
  generalize decide (t ∈ ts) = q at C
  clear HH
  unfold TxnV.val at C ⊢
  unfold TxnV.obj at C b0 b1 b2 HB
  go_enter Try.func22, Try.ntmps22
  go_wp2_with (go_at_call 31; refine C.out.mono ?_; rintro e w1 ⟨v, rfl, rfl, b1⟩)
  go_ret
  exact ⟨rfl, HB.out.trans b1⟩

theorem mine1 {w : World} {B : Nat} {x : EvV} (m : MemV) (h : Holds w B x.obj) : Calls Try.prog 23 #[.agg #[.int .i64 m.org, .string m.dig], .pointer (some ⟨B, 0, none⟩)] w fun e w' => e = .returned (.bool (m.org == x.org)) ∧ But (fun _ => False) w w' := by
  have hb0 : But (fun _ => False) w (w.alloc (.cells #[.int .i64 m.org, .string m.dig] 42)) := (But.refl _ w).alloc _
  have hx := obj_cell h 2 _ rfl
  have HB := Lib.hid hb0
  have hl := h.lt
  clear h hb0
  go_enter Try.func23, Try.ntmps23
  go_wp2
  go_ret
  exact ⟨rfl, HB.out⟩
set_option maxRecDepth 100000 in
set_option maxHeartbeats 2000000 in
theorem IndexFunc_mine {w : World} {B : Nat} {x : EvV} (hx : Holds w B x.obj) {s : SlV} {ms : List MemV} (h : MemsAt w s ms) :
    Calls Try.prog 32 #[.slice s.A s.n s.c, .func (.func 23) #[] #[.pointer (some ⟨B, 0, none⟩)]] w (IndexIs w (ms.any fun m => m.org == x.org)) := by
  obtain ⟨A, n, c⟩ := s
  have hl : ms.length = n := h.1
  have hnc : n ≤ c := h.2.1
  have hc : c ≤ 9223372036854775807 := h.2.2.1
  simp only
  have H1 := Lib.hid h
  have HX := Lib.hid hx
  have HL := Lib.hid hl
  have hyes : ∀ (k : Nat) (hk : k < ms.length) (w1 : World), (ms[k].org == x.org) = true → But (fun _ => False) w w1 → IndexIs w (ms.any fun m => m.org == x.org) (.returned (.int .i64 (k : Int))) w1 := fun k hk w1 he hb =>
    ⟨k, rfl, by rw [show (ms.any fun m => m.org == x.org) = true from List.any_eq_true.2 ⟨_, List.getElem_mem hk, he⟩]; simp, hb⟩
  have hno : ∀ w1 : World, (ms.any fun m => m.org == x.org) = false → But (fun _ => False) w w1 → IndexIs w (ms.any fun m => m.org == x.org) (.returned (.int .i64 (-1))) w1 := fun w1 he hb =>
    ⟨-1, rfl, by rw [he]; simp, hb⟩
  have HY := Lib.hid hyes
  have HNO := Lib.hid hno
  clear h hl hyes hno hx
  go_enter Try.func32, Try.ntmps32
  go_wp2_with fail
  go_loopw [8] (fun i wr => ∃ k : Nat, k ≤ n ∧ i = .int .i64 k ∧ AnyIs (fun m : MemV => m.org == x.org) false (ms.take k) ∧ But (fun _ => False) w wr) (fun i _ => n - (intOf i).toNat)
  case atStart => exact ⟨0, Nat.zero_le _, rfl, rfl, But.refl _ _⟩
  case round =>
    obtain ⟨k, hk, rfl, hq, hb⟩ := hrel
    have HQ := Lib.hid hq
    have HB := Lib.hid hb
    clear hq
    by_cases hlt : k < n
    · have hk1 : k < ms.length := by have := HL.out; omega
      obtain ⟨g, off, e1, hg, c0, c1, ⟨o1, o2⟩, z1⟩ := (H1.out.but hb).get k hk1
      simp only at e1
      subst e1
      have hstep : (ms[k].org == x.org) = false → AnyIs (fun m : MemV => m.org == x.org) false (ms.take (k + 1)) := fun he => by
        unfold AnyIs
        rw [List.take_succ_eq_append_getElem hk1, List.any_append, HQ.out.out]; simp [he]
      have C := Lib.hid (mine1 ms[k] (HX.out.but hb (fun f => f)))
      have HS := Lib.hid hstep
      have HYK := Lib.hid (HY.out k hk1)
      clear hstep hb
      generalize ms[k] = y at *
      obtain ⟨yo, yd⟩ := y
      simp only at c0 c1 o1 o2 z1 C HS HYK
      cases hq : (yo == x.org) with
      | true =>
        rw [hq] at C
        have HYY := Lib.hid (fun w1 h => HYK.out w1 hq h)
        clear hq
        go_wp2_with (go_at_call 23; refine C.out.mono ?_; rintro e w1 ⟨rfl, b1⟩)
        go_ret
        exact HYY.out _ (HB.out.trans b1)
      | false =>
        rw [hq] at C
        have HSS := Lib.hid (HS.out hq)
        clear hq
        go_wp2_with (go_at_call 23; refine C.out.mono ?_; rintro e w1 ⟨rfl, b1⟩)
        go_roundw
        case rel => exact ⟨k + 1, by omega, rfl, HSS.out, HB.out.trans b1⟩
        case measure => simp [intOf]; omega
    · obtain rfl : k = n := by omega
      clear hb
      go_wp2
      go_ret
      refine HNO.out _ ?_ HB.out
      have := HQ.out.out
      rw [List.take_of_length_le (by rw [HL.out]; exact Nat.le_refl _)] at this
      exact this
theorem ContainsFunc_mine {w : World} {B : Nat} {x : EvV} (hx : Holds w B x.obj) {s : SlV} {ms : List MemV} (h : MemsAt w s ms) :
    Calls Try.prog 25 #[.slice s.A s.n s.c, .func (.func 23) #[] #[.pointer (some ⟨B, 0, none⟩)]] w fun e w' => e = .returned (.bool (ms.any fun m => m.org == x.org)) ∧ But (fun _ => False) w w' := by
  have C := Lib.hid (IndexFunc_mine hx h)
  clear h hx
  generalize (ms.any fun m => m.org == x.org) = q at C
  go_enter Try.func25, Try.ntmps25
  go_wp2_with (go_at_call 32; refine C.out.mono ?_; rintro e w1 ⟨v, rfl, rfl, b1⟩)
  go_ret
  exact ⟨rfl, b1⟩
end Go.Proofs.Ytmaihiajgjijhaa
