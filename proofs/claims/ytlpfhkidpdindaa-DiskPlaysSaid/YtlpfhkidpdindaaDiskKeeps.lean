/- The law DiskKeeps, walked. -/
import Derived.Test.YtlpfhkidpdindaaDiskStep
namespace Go.Proofs.Ytlpfhkidpdindaa
open Go.RowKit
set_option linter.unusedVariables false
set_option linter.unusedSimpArgs false
attribute [local go_sem] alloc_drewN setCell_drewN

/-! ### The plain law -/
theorem did_bytes (d : DS) : d.did.bytes = d.bytes ∧ d.did.synced = d.synced := ⟨rfl, rfl⟩
theorem does_keeps (d : DS) (hk : d.Ok) (x : StepV) (hx : x.op ≠ 2) : d.bytes.take d.synced <+: (d.does x).2.bytes ∧ d.synced ≤ (d.does x).2.synced ∧
    (x.op = 4 → (d.does x).2.bytes <+: d.bytes ∧ (d.does x).2.synced = (d.does x).2.bytes.length) ∧ (x.op ≠ 4 → d.bytes <+: (d.does x).2.bytes) := by
  have h1 := hk.sy
  have ht : d.bytes.take d.synced <+: d.bytes := List.take_prefix _ _
  have hc : ∀ n, d.bytes.take d.synced <+: (d.crash n).bytes ∧ d.synced ≤ (d.crash n).synced ∧ (d.crash n).bytes <+: d.bytes ∧ (d.crash n).synced = (d.crash n).bytes.length := by
    intro n
    have e : (d.crash n).bytes = d.bytes.take (d.crash n).synced := rfl
    have hle : d.synced ≤ (d.crash n).synced ∧ (d.crash n).synced ≤ d.bytes.length := by simp only [DS.crash]; split <;> omega
    refine ⟨?_, hle.1, by rw [e]; exact List.take_prefix _ _, by rw [e, List.length_take]; omega⟩
    rw [e]
    exact (List.take_prefix_take_left hle.1)
  have ha : ∀ s, d.bytes <+: (d.append s).2.bytes ∧ d.synced ≤ (d.append s).2.synced := by
    intro s
    simp only [DS.append]
    split
    · exact ⟨List.prefix_refl _, Nat.le_refl _⟩
    · split
      · exact ⟨List.prefix_refl _, Nat.le_refl _⟩
      · exact ⟨List.prefix_append _ _, Nat.le_refl _⟩
  have hs : d.bytes <+: d.sync.2.bytes ∧ d.synced ≤ d.sync.2.synced := by
    simp only [DS.sync]
    split
    · exact ⟨List.prefix_refl _, Nat.le_refl _⟩
    · exact ⟨List.prefix_refl _, h1⟩
  by_cases e0 : x.op = 0
  · rw [show d.does x = d.append x.s.data.toList from by simp [DS.does, e0]]
    exact ⟨ht.trans (ha _).1, (ha _).2, fun h => by omega, fun _ => (ha _).1⟩
  by_cases e1 : x.op = 1
  · rw [show d.does x = d.sync from by simp [DS.does, e1]]
    exact ⟨ht.trans hs.1, hs.2, fun h => by omega, fun _ => hs.1⟩
  by_cases e3 : x.op = 3
  · rw [show d.does x = (0, d.arm x.n) from by simp [DS.does, e3]]
    exact ⟨ht, Nat.le_refl _, fun h => by omega, fun _ => List.prefix_refl _⟩
  by_cases e4 : x.op = 4
  · rw [show d.does x = (0, d.crash x.n) from by simp [DS.does, e4]]
    exact ⟨(hc _).1, (hc _).2.1, fun _ => (hc _).2.2, fun h => absurd e4 h⟩
  · rw [show d.does x = (0, d) from by simp [DS.does, e0, e1, hx, e3, e4]]
    exact ⟨ht, Nat.le_refl _, fun h => absurd h e4, fun _ => List.prefix_refl _⟩

/-! ### The walk -/
theorem Begins_yes (s t : ByteArray) (w : World) (h : t.data.toList <+: s.data.toList) : Calls Try.prog 19 #[.string s, .string t] w fun e w' => e = .returned (.bool true) ∧ w' = w := by
  have := Begins_any s t w
  rwa [show decide (t.data.toList <+: s.data.toList) = true from by simpa using h] at this
set_option maxHeartbeats 2000000 in
set_option maxRecDepth 100000 in
theorem keeps14_walk (w : World) (room : Int) (hr : (Lit.int .i64 room).wf = true) (a : Option Addr) (len cap : Nat) (l : List StepV) (hl : l.length = len) (hle : len ≤ cap) (hcap : cap ≤ maxLen) (hs : RowAt w a 3 RepStep l) :
    Calls Try.prog 4 #[.int .i64 room, .slice a len cap] w fun e w' => e = .returned (.bool true) ∧ But (fun _ => False) w w' := by
  obtain ⟨hr0, hr1⟩ := bounds_i64 hr
  have CH := Lib.hid (heavy14_any hl hle hcap hs)
  have HS := Lib.hid hs
  simp only [maxLen] at hcap
  clear hs hr
  go_enter Try.func4, Try.ntmps4
  go_wp2_with fail
  refine CH.out.mono ?_
  rintro e w' ⟨b, rfl, hfit, rfl⟩
  clear CH
  cases b with
  | true =>
    go_wp2_with (go_at_call 7; refine (alive14_any _).mono ?_; rintro e w' ⟨rfl, hb⟩)
    go_ret
    exact ⟨rfl, by assumption⟩
  | false =>
    have HF := Lib.hid (hfit rfl)
    clear hfit
    by_cases hroom : 0 ≤ room ∧ room ≤ 1048576
    · obtain ⟨r0, r1⟩ := hroom
      go_wp2_with (go_at_call 8; refine (New_yes room _ r0 r1).mono ?_; rintro e w1 ⟨p, rfl, h1, hp, b1⟩)
      have B1 := Lib.hid b1
      have H1 := Lib.hid h1
      clear b1 h1
      go_loopw [7] (fun i wr => ∃ (k : Nat) (d : DS), k ≤ len ∧ i = .int .i64 k ∧ DiskAt wr p d ∧ But (fun _ => False) w' wr) (fun i _ => len - (intOf i).toNat)
      case atStart => exact ⟨0, _, Nat.zero_le _, rfl, H1.out, B1.out⟩
      case round =>
        obtain ⟨k, d, hk, rfl, hD, hB⟩ := hrel
        by_cases hlt : k < len
        · have hlk : l[k]? = some l[k] := List.getElem?_eq_getElem (by omega)
          obtain ⟨g, off, c, rfl, hg, ⟨rfl, ⟨o0, o1⟩, hn, hsz⟩, _, hc⟩ := HS.out.three k _ hlk
          have hcr : ∀ j u, [Value.int .u8 l[k].op, .int .i64 l[k].n, .string l[k].s][j]? = some u → wr.cell? ⟨g, off + k * 3 + j, none⟩ = some u := fun j u hj => by
            rw [← hc j u hj]; exact World.cell?_of_block (hB.block g hg (fun h => h))
          have c0 := hcr 0 _ rfl
          have c1 := hcr 1 _ rfl
          have c2 := hcr 2 _ rfl
          have hz : l[k].s.size ≤ 140737488351232 := by have := HF.out.2 l[k] (List.getElem_mem _); omega
          clear hc hcr hsz
          generalize hx : l[k] = x at c0 c1 c2 hz o0 o1 hn
          clear hlk hx
          simp only [Nat.add_zero] at c0
          have hfin : ∀ (w3 : World) (d3 : DS), DiskAt w3 p d3 → But (fun _ => False) w' w3 → ∃ (k' : Nat) (d : DS), k' ≤ len ∧ Value.int .i64 ((k : Int) + 1) = .int .i64 k' ∧ DiskAt w3 p d ∧ But (fun _ => False) w' w3 := fun w3 d3 a1 a2 => ⟨k + 1, d3, by omega, by go_num, a1, a2⟩
          have HFI := Lib.hid hfin
          clear hfin
          have HB := Lib.hid hB
          clear hB
          by_cases h2 : x.op = 2
          · have g2 : (x.op == 2) = true := by simp [h2]
            have HD := Lib.hid hD
            clear hD
            go_wp2
            go_roundw
            case rel => exact HFI.out _ d HD.out HB.out
            case measure => simp [intOf]; omega
          have g2 : (x.op == 2) = false := by simp [h2]
          have hk := hD
          obtain ⟨_, _, _, _, _, hk⟩ := hk
          have PL := Lib.hid (does_keeps d hk x h2)
          have q1 := hk.sy
          have q2 := hk.le
          have q3 := hk.rm
          clear hk
          have CD := Lib.hid (does_any hD x hn hz)
          go_wp2_with (first | (go_at_call 10; refine (Bytes_any hD).mono ?_; rintro e w' ⟨rfl, rfl⟩) | (go_at_call 11; refine (Synced_any hD).mono ?_; rintro e w' ⟨rfl, rfl⟩) | (go_at_call 17; refine (Len_any hD).mono ?_; rintro e w' ⟨rfl, rfl⟩))
          refine CD.out.mono ?_
          rintro e w2 ⟨rfl, hD2, hB2⟩
          obtain ⟨pl1, pl2, pl3, pl4⟩ := PL.out
          clear CD PL hD
          generalize (d.does x).2 = d2 at hD2 pl1 pl2 pl3 pl4
          have P3 := Lib.hid pl3
          have P4 := Lib.hid pl4
          have P1 := Lib.hid pl1
          have c0' : w2.cell? ⟨g, off + k * 3, none⟩ = some (.int .u8 x.op) := by rw [← c0]; exact World.cell?_of_block (hB2.block g (Nat.lt_of_lt_of_le hg HB.out.size) (by omega))
          have HB2 := Lib.hid hB2
          clear pl3 pl4 pl1 hB2
          go_wp2_with fail
          go_quiet (first | (go_at_call 10; exact Calls.quiet_of_same (Bytes_any (hD2.drewN _))) | (go_at_call 11; exact Calls.quiet_of_same (Synced_any (hD2.drewN _))) | (go_at_call 19; refine Calls.quiet_of_same (Begins_yes _ _ _ ?_); rw [Lib.extract_data]; exact P1.out))
          have hD3 := hD2.drewN nq
          clear hD2
          by_cases h4 : x.op = 4
          · have g4 : (x.op == 4) = true := by simp [h4]
            have g4' : (x.op != 4) = false := by simp [h4]
            obtain ⟨pp1, pp2⟩ := P3.out h4
            have P5 := Lib.hid pp1
            clear P3 P4 pp1 h4
            go_wp2_with (first | (go_at_call 10; refine (Bytes_any hD3).mono ?_; rintro e w' ⟨rfl, rfl⟩) | (go_at_call 11; refine (Synced_any hD3).mono ?_; rintro e w' ⟨rfl, rfl⟩) | (go_at_call 17; refine (Len_any hD3).mono ?_; rintro e w' ⟨rfl, rfl⟩) | (go_at_call 19; refine (Begins_yes _ _ _ P5.out).mono ?_; rintro e w' ⟨rfl, rfl⟩))
            go_roundw
            case rel => exact HFI.out _ d2 hD3 ((HB.out.then_ HB2.out (fun i hi => .inr (by omega))).drewN _)
            case measure => simp [intOf]; omega
          · have g4 : (x.op == 4) = false := by simp [h4]
            have g4' : (x.op != 4) = true := by simp [h4]
            have P5 := Lib.hid (P4.out h4)
            clear P3 P4 h4
            go_wp2_with (first | (go_at_call 10; refine (Bytes_any hD3).mono ?_; rintro e w' ⟨rfl, rfl⟩) | (go_at_call 11; refine (Synced_any hD3).mono ?_; rintro e w' ⟨rfl, rfl⟩) | (go_at_call 17; refine (Len_any hD3).mono ?_; rintro e w' ⟨rfl, rfl⟩) | (go_at_call 19; refine (Begins_yes _ _ _ P5.out).mono ?_; rintro e w' ⟨rfl, rfl⟩))
            go_roundw
            case rel => exact HFI.out _ d2 hD3 ((HB.out.then_ HB2.out (fun i hi => .inr (by omega))).drewN _)
            case measure => simp [intOf]; omega
        · go_wp2_with (go_at_call 7; refine (alive14_any _).mono ?_; rintro e w' ⟨rfl, hb⟩)
          go_ret
          exact ⟨rfl, hB.trans (by assumption)⟩
    · go_wp2_with (first | (go_at_call 8; refine (New_no room _ (by omega)).mono ?_; rintro e w1 ⟨rfl, b1⟩) | (go_at_call 7; refine (alive14_any _).mono ?_; rintro e w' ⟨rfl, hb⟩))
      go_ret
      exact ⟨rfl, But.trans (by assumption) (by assumption)⟩
end Go.Proofs.Ytlpfhkidpdindaa
