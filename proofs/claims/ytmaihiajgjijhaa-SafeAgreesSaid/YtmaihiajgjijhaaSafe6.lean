/- All honest members of a list have voted; Voted; whether a list names one. -/
import Derived.Test.YtmaihiajgjijhaaSafe5
namespace Go.Proofs.Ytmaihiajgjijhaa
open Go.RowKit Go.Shelf
set_option linter.unusedVariables false
set_option linter.unusedSimpArgs false
attribute [local go_sem] alloc_drewN setCell_drewN

def allP (bad : Int) (l : List EvV) (t : TxnV) (aud : Int) (ms : List MemV) (m : MemV) : Bool := !(honestB bad m.org) || votedB l m.org t aud ms
def allB (bad : Int) (l : List EvV) (t : TxnV) (aud : Int) (ms : List MemV) : Bool := ms.all (allP bad l t aud ms)

set_option maxRecDepth 100000 in
set_option maxHeartbeats 4000000 in
theorem all_any {w : World} (bad : Int) (hb0 : 0 ≤ bad) (hb1 : bad ≤ 255) (t : TxnV) (aud : Int) {s : SlV} {m : List MemV} (h : MemsAt w s m) {A : Option Addr} {len cap : Nat} {l : List EvV} (hl : HistAt w A l) (hlen : l.length = len) (hlc : len ≤ cap) (hc : cap ≤ 9223372036854775807) :
    Calls Try.prog 27 #[lstVal t aud s, .int .u8 bad, .slice A len cap] w fun e w' => e = .returned (.bool (allB bad l t aud m)) ∧ But (fun _ => False) w w' := by
  have HV : ∀ (w1 : World) (org : Int), But (fun _ => False) w w1 → Calls Try.prog 20 #[lstVal t aud s, .slice A len cap, .int .i64 org] w1 fun e w' => e = .returned (.bool (votedB l org t aud m)) ∧ But (fun _ => False) w1 w' := fun w1 org b => voted_any org t aud (h.but b) (hl.but b) hlen hlc hc
  have HVI := Lib.hid HV
  have H1 := Lib.hid h
  have hn : m.length = s.n := h.1
  have hsc : s.n ≤ s.c := h.2.1
  have hcm : s.c ≤ 9223372036854775807 := h.2.2.1
  have HF : ∀ k : Nat, ∀ wr : World, k ≤ s.n → (m.take k).all (allP bad l t aud m) = true → But (fun _ => False) w wr → ∃ k' : Nat, k' ≤ s.n ∧ Value.int .i64 (k : Int) = .int .i64 k' ∧ (m.take k').all (allP bad l t aud m) = true ∧ But (fun _ => False) w wr := fun k wr a b c => ⟨k, a, rfl, b, c⟩
  have HFI := Lib.hid HF
  have HN := Lib.hid hn
  have hB0 := Lib.hid hb0
  have hB1 := Lib.hid hb1
  have hbb : But (fun _ => False) w (w.alloc (lstObj t aud s)) := (But.refl _ w).alloc _
  have hh0 := Holds.new w (lstObj t aud s)
  clear HF h HV hl hlen hlc hc hn hb0 hb1
  have HW0 := Lib.hid hbb
  have HH0 := Lib.hid hh0
  clear hbb hh0
  have hK : ∀ wr : World, But (fun _ => False) (w.alloc (lstObj t aud s)) wr → But (fun _ => False) w wr := fun wr b => HW0.out.trans b
  have HK := Lib.hid hK
  clear hK
  unfold lstVal
  unfold lstObj at HK HW0 HH0
  go_enter Try.func27, Try.ntmps27
  go_wp2_with fail
  go_loopw [12] (fun i wr => ∃ k : Nat, k ≤ s.n ∧ i = .int .i64 k ∧ (m.take k).all (allP bad l t aud m) = true ∧ But (fun _ => False) (w.alloc (.cells #[.int .i64 t.c, .int .i64 t.e, .int .i64 t.s, .int .i64 aud, .slice s.A s.n s.c] 56)) wr) (fun i _ => s.n - (intOf i).toNat)
  case atStart => exact ⟨0, Nat.zero_le _, rfl, rfl, But.refl _ _⟩
  case round =>
    obtain ⟨k, hk, rfl, hq, hbk⟩ := hrel
    have HQ := Lib.hid hq
    have HB := Lib.hid hbk
    clear hq
    by_cases hlt : k < s.n
    · have hk1 : k < m.length := by have := HN.out; omega
      obtain ⟨g, off, e1, hg, c0, c1, ⟨o1, o2⟩, z1⟩ := (H1.out.but (HK.out wr hbk)).get k hk1
      have hstep : m.take (k + 1) = m.take k ++ [m[k]] := List.take_succ_eq_append_getElem hk1
      have hstep2 : (m.take (k + 1)).all (allP bad l t aud m) = allP bad l t aud m m[k] := by rw [hstep, List.all_append, HQ.out]; simp
      have HS := Lib.hid hstep2
      have hmem := Lib.hid (List.getElem_mem hk1)
      clear hstep hstep2
      generalize m[k] = x at *
      obtain ⟨x1, x2⟩ := x
      simp only at c0 c1 o1 o2 z1
      obtain ⟨sA, sn, sc⟩ := s
      simp only at *
      subst e1
      have a0 := HH0.out.but hbk (fun f => f)
      have l0 := cells_cell a0 0
      have l1 := cells_cell a0 1
      have l2' := cells_cell a0 2
      have l3 := cells_cell a0 3
      have l4 := cells_cell a0 4
      have hgl : w.heap.size < wr.heap.size := by have := hbk.size; simp at this; omega
      have hgw : g < wr.heap.size := hg
      have CH := Lib.hid (honest_any bad x1 hB0.out hB1.out)
      clear a0 hbk
      by_cases e2 : honestB bad x1 = true
      · have CV : Calls Try.prog 20 #[.agg #[.int .i64 t.c, .int .i64 t.e, .int .i64 t.s, .int .i64 aud, .slice (some ⟨g, off, none⟩) sn sc], .slice A len cap, .int .i64 x1] (wr.alloc (.cells #[.int .i64 x1, .string x2] 42)) fun e w' => e = .returned (.bool (votedB l x1 t aud m)) ∧ But (fun _ => False) (wr.alloc (.cells #[.int .i64 x1, .string x2] 42)) w' := HVI.out _ x1 ((HK.out wr HB.out).alloc _)
        have hv : allP bad l t aud m ⟨x1, x2⟩ = votedB l x1 t aud m := by unfold allP; rw [e2]; simp
        generalize votedB l x1 t aud m = q at CV hv
        have CVI := Lib.hid CV
        have HVV := Lib.hid hv
        have HBB := Lib.hid (HB.out.alloc (.cells #[.int .i64 x1, .string x2] 42))
        clear CV hv
        cases q with
        | true =>
          go_wp2_with (first | (go_at_call 21; refine (CH.out _).mono ?_; rintro e w1 ⟨rfl, rfl⟩) | (go_at_call 20; refine CVI.out.mono ?_; rintro e w1 ⟨rfl, b1⟩) | fail)
          go_roundw
          case rel => exact ⟨k + 1, by omega, rfl, HS.out.trans HVV.out, HBB.out.trans b1⟩
          case measure => simp [intOf]; omega
        | false =>
          go_wp2_with (first | (go_at_call 21; refine (CH.out _).mono ?_; rintro e w1 ⟨rfl, rfl⟩) | (go_at_call 20; refine CVI.out.mono ?_; rintro e w1 ⟨rfl, b1⟩) | fail)
          go_ret
          have ha : allB bad l t aud m = false := by
            unfold allB
            rw [List.all_eq_false]
            exact ⟨_, hmem.out, by rw [HVV.out]; simp⟩
          exact ⟨by rw [ha]; rfl, HK.out _ (HBB.out.trans b1)⟩
      · have e2' : honestB bad x1 = false := by simpa using e2
        have hv : allP bad l t aud m ⟨x1, x2⟩ = true := by unfold allP; rw [e2']; simp
        have HVV := Lib.hid hv
        have HBB := Lib.hid (HB.out.alloc (.cells #[.int .i64 x1, .string x2] 42))
        clear hv e2
        go_wp2_with (first | (go_at_call 21; refine (CH.out _).mono ?_; rintro e w1 ⟨rfl, rfl⟩) | fail)
        go_roundw
        case rel => exact ⟨k + 1, by omega, rfl, HS.out.trans HVV.out, HBB.out⟩
        case measure => simp [intOf]; omega
    · obtain rfl : k = s.n := by omega
      have ha : allB bad l t aud m = true := by
        have := HQ.out
        rw [List.take_of_length_le (by rw [HN.out]; exact Nat.le_refl _)] at this
        exact this
      have HA := Lib.hid ha
      clear ha
      go_wp2
      go_ret
      exact ⟨by rw [HA.out]; rfl, HK.out _ HB.out⟩

theorem Voted_any {w : World} (org : Int) (t : TxnV) (aud : Int) {s : SlV} {m : List MemV} (h : MemsAt w s m) {A : Option Addr} {len cap : Nat} {l : List EvV} (hl : HistAt w A l) (hlen : l.length = len) (hlc : len ≤ cap) (hc : cap ≤ 9223372036854775807) :
    Calls Try.prog 8 #[.slice A len cap, .int .i64 org, t.val, .int .i64 aud, .slice s.A s.n s.c] w fun e w' => e = .returned (.bool (votedB l org t aud m)) ∧ But (fun _ => False) w w' := by
  have hb : But (fun _ => False) w (w.alloc (.cells #[.int .i64 t.c, .int .i64 t.e, .int .i64 t.s] 24)) := (But.refl _ w).alloc _
  have C := Lib.hid (voted_any org t aud (h.but hb) (hl.but hb) hlen hlc hc)
  clear h hl hlen hlc hc
  unfold lstVal at C
  unfold TxnV.val
  generalize votedB l org t aud m = q at C
  go_enter Try.func8, Try.ntmps8
  go_wp2_with (go_at_call 20; refine C.out.mono ?_; rintro e w1 ⟨rfl, b1⟩)
  go_ret
  exact ⟨rfl, hb.trans b1⟩
end Go.Proofs.Ytmaihiajgjijhaa
