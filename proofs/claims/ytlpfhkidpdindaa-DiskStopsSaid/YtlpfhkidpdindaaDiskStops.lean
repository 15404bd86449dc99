/- The law DiskStops, walked. -/
import Derived.Test.YtlpfhkidpdindaaDiskAlive
import Derived.Test.YtlpfhkidpdindaaOpen
namespace Go.Proofs.Ytlpfhkidpdindaa
open Go.RowKit
set_option linter.unusedVariables false
set_option linter.unusedSimpArgs false
attribute [local go_sem] alloc_drewN setCell_drewN

set_option maxHeartbeats 2000000 in
set_option maxRecDepth 100000 in
theorem stops_walk (w : World) (room : Int) (hr : (Lit.int .i64 room).wf = true) (a : Option Addr) (len cap : Nat) (ss : List ByteArray) (hl : ss.length = len) (hle : len ≤ cap) (hlen : cap ≤ maxLen) (hs0 : RowAt w a 1 RepStr ss) (n : Int) (hn : (Lit.int .u8 n).wf = true) (keep : Int) (hk : (Lit.int .i64 keep).wf = true) :
    Calls Try.prog 3 #[.int .i64 room, .slice a len cap, .int .u8 n, .int .i64 keep] w fun e w' => e = .returned (.bool true) ∧ But (fun _ => False) w w' := by
  obtain ⟨hr0, hr1⟩ := bounds_i64 hr
  obtain ⟨hn0, hn1⟩ := bounds_u8 hn
  obtain ⟨hk0, hk1⟩ := bounds_i64 hk
  obtain ⟨hs, _⟩ := rowStr hs0
  simp only [maxLen] at hlen
  clear hs0 hr hn hk
  by_cases hlong : 60 < len
  · go_enter Try.func3, Try.ntmps3
    go_wp2_with (go_at_call 7; refine (alive14_any _).mono ?_; rintro e w' ⟨rfl, hb⟩)
    go_ret
    exact ⟨rfl, by assumption⟩
  have HS := Lib.hid hs
  clear hs
  go_enter Try.func3, Try.ntmps3
  go_wp2_with fail
  go_loop [9] (fun i => ∃ k : Nat, k ≤ len ∧ i = .int .i64 k ∧ ∀ j, j < k → (ss.getD j ByteArray.empty).size ≤ 256) (fun i => len - (intOf i).toNat)
  case atStart => exact ⟨0, Nat.zero_le _, rfl, fun j hj => absurd hj (by omega)⟩
  case round =>
    obtain ⟨k, hk, rfl, hq⟩ := hrel
    have HQ := Lib.hid hq
    clear hq
    by_cases hlt : k < len
    · obtain ⟨g, off, rfl, hg, hc⟩ := HS.out.at k (by simp; omega)
      have hck : w.cell? ⟨g, off + k, none⟩ = some (.string (ss.getD k ByteArray.empty)) := hc k _ (by simp [List.getD_eq_getElem?_getD, List.getElem?_eq_getElem (show k < ss.length by omega)])
      clear hc
      generalize hsk : ss.getD k ByteArray.empty = sk at hck
      have HSK := Lib.hid hsk
      clear hsk
      by_cases hbig : 256 < sk.size
      · go_wp2_with (go_at_call 7; refine (alive14_any _).mono ?_; rintro e w' ⟨rfl, hb⟩)
        go_ret
        exact ⟨rfl, by assumption⟩
      · go_wp2
        go_round
        case rel => exact ⟨k + 1, by omega, by go_num, fun j hj => by
          rcases Nat.lt_or_ge j k with h | h
          · exact HQ.out j h
          · obtain rfl : j = k := by omega
            rw [HSK.out]; omega⟩
        case measure => simp [intOf]; omega
    · obtain rfl : k = len := by omega
      by_cases hroom : 0 ≤ room ∧ room ≤ 1048576
      · obtain ⟨r0, r1⟩ := hroom
        go_wp2_with (go_at_call 8; refine (New_yes room _ r0 r1).mono ?_; rintro e w1 ⟨p, rfl, h1, hp, b1⟩)
        refine (Arm_any h1 n (by omega) (by omega)).mono ?_
        rintro e w2 ⟨rfl, h2, b2⟩
        have HQ2 := HQ
        clear HQ h1
        have e2 : (DS.new room.toNat).arm n = { DS.new room.toNat with armed := true, left := n.toNat } := by simp [DS.arm, Int.max_eq_left hn0]
        rw [e2] at h2
        have B0 := Lib.hid (b1.then_ b2 (fun i hi => .inr (by omega)))
        clear e2 b1 b2
        have H2 := Lib.hid h2
        clear h2
        go_wp2_with fail
        go_loopw [12, 13] (fun dn i wr => ∃ (k q : Nat) (d : DS), k ≤ ss.length ∧ i = .int .i64 k ∧ dn = .int .i64 q ∧ (q : Int) ≤ n ∧ d.armed = true ∧ (d.left : Int) = n - q ∧ DiskAt wr p d ∧ But (fun _ => False) w wr) (fun _ i _ => ss.length - (intOf i).toNat)
        case atStart => exact ⟨0, 0, _, Nat.zero_le _, rfl, rfl, hn0, rfl, by simp; omega, H2.out, B0.out⟩
        case round =>
          obtain ⟨k, q, d, hk, rfl, rfl, hqn, har, hlf, hD, hB⟩ := hrel
          by_cases hlt : k < ss.length
          · obtain ⟨g, off, rfl, hg, hc⟩ := HS.out.at k (by simp; omega)
            have hck0 : w.cell? ⟨g, off + k, none⟩ = some (.string (ss.getD k ByteArray.empty)) := hc k _ (by simp [List.getD_eq_getElem?_getD, List.getElem?_eq_getElem hlt])
            have hck : wr.cell? ⟨g, off + k, none⟩ = some (.string (ss.getD k ByteArray.empty)) := by
              rw [← hck0]; exact World.cell?_of_block (hB.block g hg (fun h => h))
            clear hc hck0
            have hsz : (ss.getD k ByteArray.empty).size ≤ 140737488351232 := by have := HQ2.out k (by omega); omega
            generalize hsk : ss.getD k ByteArray.empty = sk at hck hsz
            clear hsk HQ2
            have hnn : ∀ j : Nat, ¬ (j < 0) := fun j => by omega
            have hfin : ∀ (w3 : World) (d3 : DS) (q3 : Nat), (q3 : Int) ≤ n → d3.armed = true → (d3.left : Int) = n - q3 → DiskAt w3 p d3 → But (fun _ => False) w w3 → ∃ (k' q : Nat) (d : DS), k' ≤ ss.length ∧ Value.int .i64 ((k : Int) + 1) = .int .i64 k' ∧ Value.int .i64 q3 = .int .i64 q ∧ (q : Int) ≤ n ∧ d.armed = true ∧ (d.left : Int) = n - q ∧ DiskAt w3 p d ∧ But (fun _ => False) w w3 := fun w3 d3 q3 a1 a2 a3 a4 a5 => ⟨k + 1, q3, d3, by omega, by go_num, rfl, a1, a2, a3, a4, a5⟩
            have HF := Lib.hid hfin
            clear hfin
            have hp2 : w.heap.size ≤ p := hp
            have HB := Lib.hid hB
            clear hB
            by_cases hst : d.left = 0
            · have hqn2 : ¬ (q : Int) < n := by omega
              have e1 : d.append sk.data.toList = (140, ⟨d.bytes, d.synced, d.armed, true, d.left, d.room⟩) := by simp [DS.append, DS.stops, har, hst, DS.fell]
              have c1 := Append_any hD sk hsz
              rw [e1] at c1
              have C1 := Lib.hid c1
              clear c1 e1
              go_wp2_with (first | (go_at_call 10; refine (Bytes_any hD).mono ?_; rintro e w' ⟨rfl, rfl⟩) | (go_at_call 11; refine (Synced_any hD).mono ?_; rintro e w' ⟨rfl, rfl⟩))
              refine C1.out.mono ?_
              rintro e w2 ⟨rfl, hD2, hB2⟩
              have e3 : DS.sync ⟨d.bytes, d.synced, d.armed, true, d.left, d.room⟩ = (140, ⟨d.bytes, d.synced, d.armed, true, d.left, d.room⟩) := by simp [DS.sync, DS.stops, DS.fell, har, hst]
              have c3 := Sync_any hD2
              rw [e3] at c3
              have C3 := Lib.hid c3
              clear c3 e3 C1
              go_wp2_with (first | (go_at_call 10; refine (Bytes_any hD2).mono ?_; rintro e w' ⟨rfl, rfl⟩) | (go_at_call 13; refine (Down_any hD2).mono ?_; rintro e w' ⟨rfl, rfl⟩) | (go_at_call 11; refine (Synced_any hD2).mono ?_; rintro e w' ⟨rfl, rfl⟩))
              refine C3.out.mono ?_
              rintro e w3 ⟨rfl, hD3, hB3⟩
              clear C3
              have HD3 := Lib.hid hD3
              clear hD hD2 hD3
              go_wp2
              go_roundw
              case rel => exact HF.out w3 ⟨d.bytes, d.synced, d.armed, true, d.left, d.room⟩ q hqn har hlf HD3.out (HB.out.then_ (hB2.trans hB3) (fun i hi => .inr (by omega)))
              case measure => simp [intOf]; omega
            · have hqn2 : (q : Int) < n := by omega
              have hs0 : d.stops = false := by simp [DS.stops, har, hst]
              by_cases hfull : d.room - d.bytes.length < sk.data.toList.length
              · have e1 : d.append sk.data.toList = (4, d) := by simp only [DS.append, hs0, if_pos hfull]; rfl
                have c1 := Append_any hD sk hsz
                rw [e1] at c1
                have C1 := Lib.hid c1
                clear c1 e1 hfull
                go_wp2_with (first | (go_at_call 10; refine (Bytes_any hD).mono ?_; rintro e w' ⟨rfl, rfl⟩) | (go_at_call 11; refine (Synced_any hD).mono ?_; rintro e w' ⟨rfl, rfl⟩))
                refine C1.out.mono ?_
                rintro e w2 ⟨rfl, hD2, hB2⟩
                have HD2 := Lib.hid hD2
                clear hD hD2 C1
                go_wp2
                go_roundw
                case rel => exact HF.out w2 d q hqn har hlf HD2.out (HB.out.then_ hB2 (fun i hi => .inr (by omega)))
                case measure => simp [intOf]; omega
              · have e1 : d.append sk.data.toList = (0, ⟨d.bytes ++ sk.data.toList, d.synced, d.armed, d.down, d.left - 1, d.room⟩) := by simp only [DS.append, hs0, if_neg hfull, DS.did, har]; rfl
                have c1 := Append_any hD sk hsz
                rw [e1] at c1
                have C1 := Lib.hid c1
                clear c1 e1 hfull
                have hq3 : q + 1 ≤ 255 := by omega
                go_wp2_with (first | (go_at_call 10; refine (Bytes_any hD).mono ?_; rintro e w' ⟨rfl, rfl⟩) | (go_at_call 11; refine (Synced_any hD).mono ?_; rintro e w' ⟨rfl, rfl⟩))
                refine C1.out.mono ?_
                rintro e w2 ⟨rfl, hD2, hB2⟩
                clear hD C1
                by_cases hst2 : d.left - 1 = 0
                · have hqn3 : ¬ ((q : Int) + 1 < n) := by omega
                  have c3 := Sync_any hD2
                  rw [show DS.sync ⟨d.bytes ++ sk.data.toList, d.synced, d.armed, d.down, d.left - 1, d.room⟩ = (140, ⟨d.bytes ++ sk.data.toList, d.synced, d.armed, true, d.left - 1, d.room⟩) from by simp [DS.sync, DS.stops, DS.fell, har, hst2]] at c3
                  have C3 := Lib.hid c3
                  clear c3 hD2
                  go_wp2_with fail
                  refine C3.out.mono ?_
                  rintro e w3 ⟨rfl, hD3, hB3⟩
                  have HD3 := Lib.hid hD3
                  clear hD3 C3
                  go_wp2
                  go_roundw
                  case rel => exact HF.out w3 ⟨d.bytes ++ sk.data.toList, d.synced, d.armed, true, d.left - 1, d.room⟩ (q + 1) (by omega) har (by simp; omega) HD3.out (HB.out.then_ (hB2.trans hB3) (fun i hi => .inr (by omega)))
                  case measure => simp [intOf]; omega
                · have hqn3 : ((q : Int) + 1 < n) := by omega
                  have c3 := Sync_any hD2
                  rw [show DS.sync ⟨d.bytes ++ sk.data.toList, d.synced, d.armed, d.down, d.left - 1, d.room⟩ = (0, ⟨d.bytes ++ sk.data.toList, (d.bytes ++ sk.data.toList).length, d.armed, d.down, d.left - 1 - 1, d.room⟩) from by simp [DS.sync, DS.stops, DS.did, har, hst2]] at c3
                  have C3 := Lib.hid c3
                  clear c3 hD2
                  go_wp2_with fail
                  refine C3.out.mono ?_
                  rintro e w3 ⟨rfl, hD3, hB3⟩
                  have HD3 := Lib.hid hD3
                  clear hD3 C3
                  go_wp2
                  go_roundw
                  case rel => exact HF.out w3 ⟨d.bytes ++ sk.data.toList, (d.bytes ++ sk.data.toList).length, d.armed, d.down, d.left - 1 - 1, d.room⟩ (q + 1 + 1) (by omega) har (by simp; omega) HD3.out (HB.out.then_ (hB2.trans hB3) (fun i hi => .inr (by omega)))
                  case measure => simp [intOf]; omega
          · have C1 := Lib.hid (Crash_any hD keep hk1 hk0)
            have HB := Lib.hid hB
            clear hD hB
            go_wp2_with fail
            refine C1.out.mono ?_
            rintro e w3 ⟨rfl, h3, b3⟩
            clear C1
            have C2 := Lib.hid (Down_any h3)
            have c3 := Sync_any h3
            rw [show (d.crash keep).sync = (0, ⟨(d.crash keep).bytes, (d.crash keep).bytes.length, false, false, 0, d.room⟩) from rfl] at c3
            have C3 := Lib.hid c3
            clear c3 h3
            go_wp2_with fail
            refine C2.out.mono ?_
            rintro e w4 ⟨rfl, rfl⟩
            have hdn : (d.crash keep).down = false := rfl
            go_wp2_with fail
            refine C3.out.mono ?_
            rintro e w4 ⟨rfl, h4, b4⟩
            have c4 := Append_any h4 ⟨#[]⟩ (by decide)
            rw [show DS.append (⟨#[]⟩ : ByteArray).data.toList ⟨(d.crash keep).bytes, (d.crash keep).bytes.length, false, false, 0, d.room⟩ = (0, ⟨(d.crash keep).bytes ++ [], (d.crash keep).bytes.length, false, false, 0, d.room⟩) from by simp [DS.append, DS.stops, DS.did]] at c4
            have C4 := Lib.hid c4
            clear c4 h4 C3 C2
            go_wp2_with fail
            refine C4.out.mono ?_
            rintro e w5 ⟨rfl, h5, b5⟩
            clear C4
            have HB5 := Lib.hid b5
            have HB4 := Lib.hid b4
            have HB3 := Lib.hid b3
            clear h5 b3 b4 b5
            go_wp2_with fail
            refine (alive14_any _).mono ?_
            rintro e w6 ⟨rfl, b6⟩
            have HB6 := Lib.hid b6
            clear b6
            go_wp2
            go_ret
            exact ⟨rfl, (HB.out.then_ ((HB3.out.trans HB4.out).trans HB5.out) (fun i hi => .inr (by omega))).trans HB6.out⟩
      · go_wp2_with (first | (go_at_call 8; refine (New_no room _ (by omega)).mono ?_; rintro e w1 ⟨rfl, b1⟩) | (go_at_call 7; refine (alive14_any _).mono ?_; rintro e w' ⟨rfl, hb⟩))
        go_ret
        exact ⟨rfl, But.trans (by assumption) (by assumption)⟩
end Go.Proofs.Ytlpfhkidpdindaa
