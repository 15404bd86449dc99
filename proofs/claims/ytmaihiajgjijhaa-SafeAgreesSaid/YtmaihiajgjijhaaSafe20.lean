/- What a statement of histories lets go. -/
import Derived.Test.YtmaihiajgjijhaaSafe19
namespace Go.Proofs.Ytmaihiajgjijhaa
open Go.RowKit Go.Shelf
set_option linter.unusedVariables false
set_option linter.unusedSimpArgs false
attribute [local go_sem] alloc_drewN setCell_drewN

def long12 (ms : List MemV) : Bool := decide (20 < ms.length) || ms.any (fun m => decide (20000 < m.dig.size))
theorem long12_snoc (ms : List MemV) (k : Nat) (hk : k < ms.length) (h : (ms.take k).any (fun m => decide (20000 < m.dig.size)) = false) : (ms.take (k + 1)).any (fun m => decide (20000 < m.dig.size)) = decide (20000 < ms[k].dig.size) := by
  rw [List.take_succ_eq_append_getElem hk, List.any_append, h]; simp
theorem any_take_true {α : Type} (p : α → Bool) (l : List α) (k : Nat) (h : (l.take k).any p = true) : l.any p = true := by
  rw [List.any_eq_true] at h ⊢
  obtain ⟨x, hx, hp⟩ := h
  exact ⟨x, List.mem_of_mem_take hx, hp⟩
set_option maxHeartbeats 1000000 in
theorem Long12_any {w : World} {s : SlV} {ms : List MemV} (h : MemsAt w s ms) : Calls Try.prog 9 #[.slice s.A s.n s.c] w fun e w' => e = .returned (.bool (long12 ms)) ∧ w' = w := by
  obtain ⟨A, n, c⟩ := s
  have l1 : ms.length = n := h.1
  have b1 : n ≤ c := h.2.1
  have c1 : c ≤ 9223372036854775807 := h.2.2.1
  have H1 := Lib.hid h
  have HL := Lib.hid l1
  clear h l1
  simp only
  by_cases h20 : 20 < n
  · have hv := Lib.hid (show long12 ms = true from by unfold long12; simp [HL.out, h20])
    go_enter Try.func9, Try.ntmps9
    go_wp2
    go_ret
    exact ⟨by rw [hv.out]; rfl, rfl⟩
  · have hn : decide (20 < ms.length) = false := by simp [HL.out]; omega
    have HN := Lib.hid hn
    clear hn
    go_enter Try.func9, Try.ntmps9
    go_wp2
    go_loop [3] (fun i => ∃ k : Nat, k ≤ n ∧ i = .int .i64 k ∧ AnyIs (fun m : MemV => decide (20000 < m.dig.size)) false (ms.take k)) (fun i => n - (intOf i).toNat)
    case atStart => exact ⟨0, Nat.zero_le _, rfl, by simp [AnyIs]⟩
    case round =>
      obtain ⟨k, hk, rfl, hq⟩ := hrel
      have HQ := Lib.hid hq
      clear hq
      by_cases hlt : k < n
      · have hk1 : k < ms.length := by rw [HL.out]; exact hlt
        obtain ⟨g, off, e1, hg, c0, c1', o1, z1⟩ := H1.out.get k hk1
        simp only at e1
        subst e1
        have HS := Lib.hid (long12_snoc ms k hk1 HQ.out)
        generalize ms[k] = x at *
        obtain ⟨x1, x2⟩ := x
        simp only at c0 c1' o1 z1 HS
        unfold maxLen at z1
        by_cases hx : 20000 < x2.size
        · have hv := Lib.hid (show long12 ms = true from by unfold long12; rw [any_take_true _ ms (k + 1) (by rw [HS.out]; simpa using hx)]; simp)
          go_wp2
          go_ret
          exact ⟨by rw [hv.out]; rfl, rfl⟩
        · go_wp2
          go_round
          case rel => exact ⟨k + 1, by omega, by go_num, by show _ = _; rw [HS.out]; simpa using hx⟩
          case measure => simp [intOf]; omega
      · obtain rfl : k = n := by omega
        have hv := Lib.hid (show long12 ms = false from by
          have := HQ.out.out
          rw [List.take_of_length_le (by rw [HL.out]; exact Nat.le_refl _)] at this
          unfold long12; rw [this, HN.out]; rfl)
        go_wp2
        go_ret
        exact ⟨by rw [hv.out]; rfl, rfl⟩
def longEv (x : EvV) : Bool := long12 x.rec_.ms || long12 x.rcp.ms
def long34 (l : List EvV) : Bool := decide (100 < l.length) || l.any longEv
theorem long34_snoc (l : List EvV) (k : Nat) (hk : k < l.length) (h : (l.take k).any longEv = false) : (l.take (k + 1)).any longEv = longEv l[k] := by
  rw [List.take_succ_eq_append_getElem hk, List.any_append, h]; simp
set_option maxHeartbeats 1000000 in
theorem Long34_any {w : World} {A : Option Addr} {len cap : Nat} {l : List EvV} (hl : HistAt w A l) (hlen : l.length = len) (hlc : len ≤ cap) (hc : cap ≤ 9223372036854775807) : Calls Try.prog 4 #[.slice A len cap] w fun e w' => e = .returned (.bool (long34 l)) ∧ w' = w := by
  have HE := Lib.hid (hl.evs (q := fun k => w.heap.size ≤ k) (fun _ h => h))
  have HH := Lib.hid hl
  have HL := Lib.hid hlen
  clear hl hlen
  by_cases h20 : 100 < len
  · have hv := Lib.hid (show long34 l = true from by unfold long34; simp [HL.out, h20])
    go_enter Try.func4, Try.ntmps4
    go_wp2
    go_ret
    exact ⟨by rw [hv.out]; rfl, rfl⟩
  · have hn : decide (100 < l.length) = false := by simp [HL.out]; omega
    have HN := Lib.hid hn
    clear hn
    go_enter Try.func4, Try.ntmps4
    go_wp2
    go_loop [3] (fun i => ∃ k : Nat, k ≤ len ∧ i = .int .i64 k ∧ AnyIs longEv false (l.take k)) (fun i => len - (intOf i).toNat)
    case atStart => exact ⟨0, Nat.zero_le _, rfl, by simp [AnyIs]⟩
    case round =>
      obtain ⟨k, hk, rfl, hq⟩ := hrel
      have HQ := Lib.hid hq
      clear hq
      by_cases hlt : k < len
      · have hk1 : k < l.length := by rw [HL.out]; exact hlt
        obtain ⟨g, off, rfl, hg, hcx⟩ := HE.out k l[k] (List.getElem?_eq_getElem hk1)
        have hox : EvOk w l[k] := HH.out.2 _ (List.getElem_mem hk1)
        have HS := Lib.hid (long34_snoc l k hk1 HQ.out)
        generalize l[k] = x at *
        have c13 : w.cell? ⟨g, off + k * 22 + 13, none⟩ = some (.slice x.rec_.msl.A x.rec_.msl.n x.rec_.msl.c) := hcx 13 _ rfl
        have c20 : w.cell? ⟨g, off + k * 22 + 20, none⟩ = some (.slice x.rcp.msl.A x.rcp.msl.n x.rcp.msl.c) := hcx 20 _ rfl
        have C1 := Lib.hid (Long12_any hox.1)
        have C2 := Lib.hid (Long12_any hox.2)
        clear hcx hox
        have he : longEv x = (long12 x.rec_.ms || long12 x.rcp.ms) := rfl
        have HEX := Lib.hid he
        clear he
        generalize long12 x.rec_.ms = a at C1 HEX
        generalize long12 x.rcp.ms = b at C2 HEX
        cases a with
        | true =>
          have hv := Lib.hid (show long34 l = true from by unfold long34; rw [any_take_true _ l (k + 1) (by rw [HS.out, HEX.out]; rfl)]; simp)
          go_wp2_with fail
          refine C1.out.mono ?_
          rintro e w1 ⟨rfl, rfl⟩
          go_wp2
          go_ret
          exact ⟨by rw [hv.out]; rfl, rfl⟩
        | false =>
          go_wp2_with fail
          refine C1.out.mono ?_
          rintro e w1 ⟨rfl, rfl⟩
          go_wp2_with fail
          refine C2.out.mono ?_
          rintro e w2 ⟨rfl, rfl⟩
          cases b with
          | true =>
            have hv := Lib.hid (show long34 l = true from by unfold long34; rw [any_take_true _ l (k + 1) (by rw [HS.out, HEX.out]; rfl)]; simp)
            go_wp2
            go_ret
            exact ⟨by rw [hv.out]; rfl, rfl⟩
          | false =>
            go_wp2
            go_round
            case rel => exact ⟨k + 1, by omega, by go_num, by show _ = _; rw [HS.out, HEX.out]; rfl⟩
            case measure => simp [intOf]; omega
      · obtain rfl : k = len := by omega
        have hv := Lib.hid (show long34 l = false from by
          have := HQ.out.out
          rw [List.take_of_length_le (by rw [HL.out]; exact Nat.le_refl _)] at this
          unfold long34; rw [this, HN.out]; rfl)
        go_wp2
        go_ret
        exact ⟨by rw [hv.out]; rfl, rfl⟩
end Go.Proofs.Ytmaihiajgjijhaa
