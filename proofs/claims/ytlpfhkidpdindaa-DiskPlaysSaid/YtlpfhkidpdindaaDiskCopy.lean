/- The law DiskCopy, walked. -/
import Derived.Test.YtlpfhkidpdindaaDiskKeeps
import Derived.Deep.RegionHeld3
namespace Go.Proofs.Ytlpfhkidpdindaa
open Go.RowKit
set_option linter.unusedVariables false
set_option linter.unusedSimpArgs false
attribute [local go_sem] alloc_drewN setCell_drewN

theorem DiskAt.other {w w1 : World} {p q : Nat} {d e : DS} (h : DiskAt w q d) (hp : DiskAt w p e) (k : But (· = p) w w1) (hq : q ≠ p) : DiskAt w1 q d := h.but k hq (by rintro g rfl; exact hp.ne)
/-- A step's cells in a row that came in. -/
theorem stepCells {w wr : World} {a : Option Addr} {l : List StepV} (hs : RowAt w a 3 RepStep l) (hB : But (fun _ => False) w wr) (k : Nat) (hk : k < l.length) :
    ∃ g off, a = some ⟨g, off, none⟩ ∧ g < w.heap.size ∧ wr.cell? ⟨g, off + k * 3, none⟩ = some (.int .u8 l[k].op) ∧ wr.cell? ⟨g, off + k * 3 + 1, none⟩ = some (.int .i64 l[k].n) ∧ wr.cell? ⟨g, off + k * 3 + 2, none⟩ = some (.string l[k].s) ∧
      (0 ≤ l[k].op ∧ l[k].op ≤ 255) ∧ (-9223372036854775808 ≤ l[k].n ∧ l[k].n ≤ 9223372036854775807) := by
  have hlk : l[k]? = some l[k] := List.getElem?_eq_getElem hk
  obtain ⟨g, off, c, rfl, hg, ⟨rfl, ho, hn, hsz⟩, _, hc⟩ := hs.three k _ hlk
  have hcr : ∀ j u, [Value.int .u8 l[k].op, .int .i64 l[k].n, .string l[k].s][j]? = some u → wr.cell? ⟨g, off + k * 3 + j, none⟩ = some u := fun j u hj => by
    rw [← hc j u hj]; exact World.cell?_of_block (hB.block g hg (fun h => h))
  exact ⟨g, off, rfl, hg, hcr 0 _ rfl, hcr 1 _ rfl, hcr 2 _ rfl, ho, hn⟩

set_option maxHeartbeats 2000000 in
set_option maxRecDepth 100000 in
theorem copy14_walk (w : World) (room : Int) (hr : (Lit.int .i64 room).wf = true) (a : Option Addr) (len cap : Nat) (l : List StepV) (hl : l.length = len) (hle : len ≤ cap) (hcap : cap ≤ maxLen) (hs : RowAt w a 3 RepStep l)
    (a1 : Option Addr) (len1 cap1 : Nat) (l1 : List StepV) (hl1 : l1.length = len1) (hle1 : len1 ≤ cap1) (hcap1 : cap1 ≤ maxLen) (hs1 : RowAt w a1 3 RepStep l1)
    (a2 : Option Addr) (len2 cap2 : Nat) (l2 : List StepV) (hl2 : l2.length = len2) (hle2 : len2 ≤ cap2) (hcap2 : cap2 ≤ maxLen) (hs2 : RowAt w a2 3 RepStep l2) :
    Calls Try.prog 5 #[.int .i64 room, .slice a len cap, .slice a1 len1 cap1, .slice a2 len2 cap2] w fun e w' => e = .returned (.bool true) ∧ But (fun _ => False) w w' := by
  obtain ⟨hr0, hr1⟩ := bounds_i64 hr
  have CH := Lib.hid (heavy14_any hl hle hcap hs)
  have CH1 := Lib.hid (heavy14_any hl1 hle1 hcap1 hs1)
  have CH2 := Lib.hid (heavy14_any hl2 hle2 hcap2 hs2)
  have HS := Lib.hid hs
  have HS1 := Lib.hid hs1
  have HS2 := Lib.hid hs2
  simp only [maxLen] at hcap hcap1 hcap2
  clear hs hr hs1 hs2
  go_enter Try.func5, Try.ntmps5
  go_wp2_with fail
  refine CH.out.mono ?_
  rintro e w' ⟨b, rfl, hfit, rfl⟩
  clear CH
  cases b with
  | true =>
    go_wp2_with (go_at_call 7; refine (alive14_any _).mono ?_; rintro e w' ⟨rfl, hb⟩)
    go_ret
    exact ⟨rfl, by assumption⟩
  | false =>
  have HF := Lib.hid (hfit rfl)
  clear hfit
  go_wp2_with fail
  refine CH1.out.mono ?_
  rintro e w' ⟨b, rfl, hfit, rfl⟩
  clear CH1
  cases b with
  | true =>
    go_wp2_with (go_at_call 7; refine (alive14_any _).mono ?_; rintro e w' ⟨rfl, hb⟩)
    go_ret
    exact ⟨rfl, by assumption⟩
  | false =>
  have HF1 := Lib.hid (hfit rfl)
  clear hfit
  go_wp2_with fail
  refine CH2.out.mono ?_
  rintro e w ⟨b, rfl, hfit, rfl⟩
  clear CH2
  cases b with
  | true =>
    go_wp2_with (go_at_call 7; refine (alive14_any _).mono ?_; rintro e w' ⟨rfl, hb⟩)
    go_ret
    exact ⟨rfl, by assumption⟩
  | false =>
  have HF2 := Lib.hid (hfit rfl)
  clear hfit
  by_cases hroom : 0 ≤ room ∧ room ≤ 1048576
  · obtain ⟨r0, r1⟩ := hroom
    go_wp2_with fail
    refine (New_yes room _ r0 r1).mono ?_
    rintro e w1 ⟨p, rfl, h1, hp, b1⟩
    have H1 := Lib.hid h1
    have B1 := Lib.hid b1
    clear h1 b1
    go_wp2_with fail
    refine (New_yes room _ r0 r1).mono ?_
    rintro e w2 ⟨q, rfl, h2, hq, b2⟩
    have hpq : p < q := Nat.lt_of_lt_of_le H1.out.lt hq
    have hpq2 : p ≠ q := by omega
    have hqw : w.heap.size ≤ q := by omega
    have H1' := Lib.hid (H1.out.but b2 (fun h => h) (fun _ h => h.elim))
    have H2 := Lib.hid h2
    have B2 := Lib.hid (B1.out.trans b2)
    clear h2 b2 H1 B1
    subst hl
    go_wp2_with fail
    go_loopw [13] (fun i wr => ∃ (k : Nat) (d : DS), k ≤ l.length ∧ i = .int .i64 k ∧ DiskAt wr p d ∧ DiskAt wr q d ∧ But (fun _ => False) w wr) (fun i _ => l.length - (intOf i).toNat)
    case atStart => exact ⟨0, _, Nat.zero_le _, rfl, H1'.out, H2.out, B2.out⟩
    case round =>
        obtain ⟨k, d, hk, rfl, hP, hQ, hB⟩ := hrel
        by_cases hlt : k < l.length
        · obtain ⟨g, off, rfl, hg, c0, c1, c2, ⟨o0, o1⟩, hn⟩ := stepCells HS.out hB k hlt
          have hz : l[k].s.size ≤ 140737488351232 := by have := HF.out.2 l[k] (List.getElem_mem _); omega
          generalize hx : l[k] = x at c0 c1 c2 hz o0 o1 hn
          clear hx
          have hp3 := hP.lt
          have hq3 := hQ.lt
          have hg2 : g < wr.heap.size := Nat.lt_of_lt_of_le hg hB.size
          have HFI : Hid _ := Lib.hid (fun (w3 : World) (d3 : DS) (a1 : DiskAt w3 p d3) (a2 : DiskAt w3 q d3) (a3 : But (fun _ => False) w w3) => (show ∃ (k' : Nat) (d : DS), k' ≤ l.length ∧ Value.int .i64 ((k : Int) + 1) = .int .i64 k' ∧ DiskAt w3 p d ∧ DiskAt w3 q d ∧ But (fun _ => False) w w3 from ⟨k + 1, d3, by omega, by go_num, a1, a2, a3⟩))
          have HB := Lib.hid (show But (fun _ => False) w wr.drew from hB.drew)
          have HP := Lib.hid (show DiskAt wr.drew p d from hP)
          have HQ := Lib.hid (show DiskAt wr.drew q d from hQ)
          clear hB hP hQ
          go_wp2_with fail
          go_region_held3 (fun w' => w'.cell? ⟨g, off + k * 3, none⟩ = some (.int .u8 x.op) ∧ w'.cell? ⟨g, off + k * 3 + 1, none⟩ = some (.int .i64 x.n) ∧ w'.cell? ⟨g, off + k * 3 + 2, none⟩ = some (.string x.s)) (first | (refine ⟨?_, ?_, ?_⟩ <;> assumption)) (first
            | (go_at_call_of 18 (Value.pointer (some ⟨p, 0, none⟩)); refine (does_any HP.out x hn hz).mono ?_; rintro e w2 ⟨rfl, hP2, hB2⟩; have hQ2 := HQ.out.other HP.out hB2 (Ne.symm hpq2); have c0' := hB2.keeps c0 (by omega); have c1' := hB2.keeps c1 (by omega); have c2' := hB2.keeps c2 (by omega))
            | (go_at_call_of 18 (Value.pointer (some ⟨q, 0, none⟩)); refine (does_any (by assumption) x hn hz).mono ?_; rintro e w3 ⟨rfl, hQ3, hB3⟩; have hP3 := DiskAt.other hP2 hQ2 hB3 hpq2; have c0'' := hB3.keeps c0' (by omega); have c1'' := hB3.keeps c1' (by omega); have c2'' := hB3.keeps c2' (by omega)))
          have HP3 := Lib.hid hP3
          have HQ3 := Lib.hid hQ3
          have HB3 := Lib.hid ((HB.out.then_ hB2 (fun i hi => .inr (by omega))).then_ hB3 (fun i hi => .inr (by omega)))
          clear hP3 hQ3 hB2 hB3 hP2 hQ2 c0' c1' c2' c0'' c1'' c2'' c0 c1 c2
          go_wp2
          go_roundw
          case rel => exact HFI.out _ _ HP3.out HQ3.out HB3.out
          case measure => simp [intOf]; omega
        · obtain rfl : k = l.length := by omega
          have HP := Lib.hid hP
          have HQ := Lib.hid hQ
          have HB := Lib.hid hB
          clear hP hQ hB
          go_wp2_with fail
          refine (Copy_any HP.out).mono ?_
          rintro e w3 ⟨r, rfl, h3, hr, b3⟩
          have HP3 := Lib.hid (HP.out.but b3 (fun h => h) (fun _ h => h.elim))
          have HQ3 := Lib.hid (HQ.out.but b3 (fun h => h) (fun _ h => h.elim))
          have HB3 := Lib.hid (HB.out.trans b3)
          have H3 := Lib.hid h3
          have hrp : p ≠ r := by have := HP.out.lt; omega
          have hrq : q ≠ r := by have := HQ.out.lt; omega
          have hrw : w.heap.size ≤ r := Nat.le_trans HB.out.size hr
          clear HP HQ HB h3 b3
          subst hl1
          go_wp2_with fail
          go_loopw [15] (fun i wr => ∃ (k : Nat) (e : DS), k ≤ l1.length ∧ i = .int .i64 k ∧ DiskAt wr p d ∧ DiskAt wr q d ∧ DiskAt wr r e ∧ But (fun _ => False) w wr) (fun i _ => l1.length - (intOf i).toNat)
          case atStart => exact ⟨0, _, Nat.zero_le _, rfl, HP3.out, HQ3.out, H3.out, HB3.out⟩
          case round =>
            obtain ⟨k, e, hk, rfl, hP, hQ, hR, hB⟩ := hrel
            by_cases hlt : k < l1.length
            · obtain ⟨g, off, rfl, hg, c0, c1, c2, ⟨o0, o1⟩, hn⟩ := stepCells HS1.out hB k hlt
              have hz : l1[k].s.size ≤ 140737488351232 := by have := HF1.out.2 l1[k] (List.getElem_mem _); omega
              generalize hx : l1[k] = x at c0 c1 c2 hz o0 o1 hn
              clear hx
              have HFI : Hid _ := Lib.hid (fun (w3 : World) (d3 : DS) (a0 : DiskAt w3 p d) (a1 : DiskAt w3 q d) (a2 : DiskAt w3 r d3) (a3 : But (fun _ => False) w w3) => (show ∃ (k' : Nat) (e : DS), k' ≤ l1.length ∧ Value.int .i64 ((k : Int) + 1) = .int .i64 k' ∧ DiskAt w3 p d ∧ DiskAt w3 q d ∧ DiskAt w3 r e ∧ But (fun _ => False) w w3 from ⟨k + 1, d3, by omega, by go_num, a0, a1, a2, a3⟩))
              have C := Lib.hid (does_any hR x hn hz)
              have HP := Lib.hid hP
              have HQ := Lib.hid hQ
              have HR := Lib.hid hR
              have HB := Lib.hid hB
              clear hP hQ hR hB
              go_wp2_with fail
              refine C.out.mono ?_
              rintro e' w4 ⟨rfl, h4, b4⟩
              have HP4 := Lib.hid (HP.out.other HR.out b4 hrp)
              have HQ4 := Lib.hid (HQ.out.other HR.out b4 hrq)
              have HB4 := Lib.hid (HB.out.then_ b4 (fun i hi => .inr (by omega)))
              have HR4 := Lib.hid h4
              clear h4 b4 C
              go_wp2
              go_roundw
              case rel => exact HFI.out _ _ HP4.out HQ4.out HR4.out HB4.out
              case measure => simp [intOf]; omega
            · obtain rfl : k = l1.length := by omega
              have HP := Lib.hid hP
              have HQ := Lib.hid hQ
              have HB := Lib.hid hB
              clear hP hQ hB hR
              subst hl2
              go_wp2_with fail
              go_loopw [16] (fun i wr => ∃ (k : Nat) (d : DS), k ≤ l2.length ∧ i = .int .i64 k ∧ DiskAt wr p d ∧ DiskAt wr q d ∧ But (fun _ => False) w wr) (fun i _ => l2.length - (intOf i).toNat)
              case atStart => exact ⟨0, _, Nat.zero_le _, rfl, HP.out, HQ.out, HB.out⟩
              case round =>
                obtain ⟨k, d, hk, rfl, hP, hQ, hB⟩ := hrel
                by_cases hlt : k < l2.length
                · obtain ⟨g, off, rfl, hg, c0, c1, c2, ⟨o0, o1⟩, hn⟩ := stepCells HS2.out hB k hlt
                  have hz : l2[k].s.size ≤ 140737488351232 := by have := HF2.out.2 l2[k] (List.getElem_mem _); omega
                  generalize hx : l2[k] = x at c0 c1 c2 hz o0 o1 hn
                  clear hx
                  have hp3 := hP.lt
                  have hq3 := hQ.lt
                  have hg2 : g < wr.heap.size := Nat.lt_of_lt_of_le hg hB.size
                  have HFI : Hid _ := Lib.hid (fun (w3 : World) (d3 : DS) (a1 : DiskAt w3 p d3) (a2 : DiskAt w3 q d3) (a3 : But (fun _ => False) w w3) => (show ∃ (k' : Nat) (d : DS), k' ≤ l2.length ∧ Value.int .i64 ((k : Int) + 1) = .int .i64 k' ∧ DiskAt w3 p d ∧ DiskAt w3 q d ∧ But (fun _ => False) w w3 from ⟨k + 1, d3, by omega, by go_num, a1, a2, a3⟩))
                  have HB := Lib.hid (show But (fun _ => False) w wr.drew from hB.drew)
                  have HP := Lib.hid (show DiskAt wr.drew p d from hP)
                  have HQ := Lib.hid (show DiskAt wr.drew q d from hQ)
                  clear hB hP hQ
                  go_wp2_with fail
                  go_region_held3 (fun w' => w'.cell? ⟨g, off + k * 3, none⟩ = some (.int .u8 x.op) ∧ w'.cell? ⟨g, off + k * 3 + 1, none⟩ = some (.int .i64 x.n) ∧ w'.cell? ⟨g, off + k * 3 + 2, none⟩ = some (.string x.s)) (first | (refine ⟨?_, ?_, ?_⟩ <;> assumption)) (first
                    | (go_at_call_of 18 (Value.pointer (some ⟨p, 0, none⟩)); refine (does_any HP.out x hn hz).mono ?_; rintro e w2 ⟨rfl, hP2, hB2⟩; have hQ2 := HQ.out.other HP.out hB2 (Ne.symm hpq2); have c0' := hB2.keeps c0 (by omega); have c1' := hB2.keeps c1 (by omega); have c2' := hB2.keeps c2 (by omega))
                    | (go_at_call_of 18 (Value.pointer (some ⟨q, 0, none⟩)); refine (does_any (by assumption) x hn hz).mono ?_; rintro e w3 ⟨rfl, hQ3, hB3⟩; have hP3 := DiskAt.other hP2 hQ2 hB3 hpq2; have c0'' := hB3.keeps c0' (by omega); have c1'' := hB3.keeps c1' (by omega); have c2'' := hB3.keeps c2' (by omega)))
                  have HP3 := Lib.hid hP3
                  have HQ3 := Lib.hid hQ3
                  have HB3 := Lib.hid ((HB.out.then_ hB2 (fun i hi => .inr (by omega))).then_ hB3 (fun i hi => .inr (by omega)))
                  clear hP3 hQ3 hB2 hB3 hP2 hQ2 c0' c1' c2' c0'' c1'' c2'' c0 c1 c2
                  go_wp2
                  go_roundw
                  case rel => exact HFI.out _ _ HP3.out HQ3.out HB3.out
                  case measure => simp [intOf]; omega
                · obtain rfl : k = l2.length := by omega
                  have HP := Lib.hid hP
                  have HQ := Lib.hid hQ
                  have HB := Lib.hid hB
                  clear hP hQ hB
                  go_wp2_with fail
                  refine (Copy_any HQ.out).mono ?_
                  rintro e w3 ⟨s, rfl, h3, hr, b3⟩
                  have hsp : p ≠ s := by have := HP.out.lt; omega
                  have hsq : q ≠ s := by have := HQ.out.lt; omega
                  have hsw : w.heap.size ≤ s := Nat.le_trans HB.out.size hr
                  have hP3 := (HP.out.but b3 (fun h => h) (fun _ h => h.elim))
                  have hQ3 := (HQ.out.but b3 (fun h => h) (fun _ h => h.elim))
                  have HB3 := Lib.hid (HB.out.trans b3)
                  clear HP HQ HB b3
                  go_wp2_with (first
                    | (go_at_call_of 10 (Value.pointer (some ⟨s, 0, none⟩)); refine (Bytes_any h3).mono ?_; rintro e w' ⟨rfl, rfl⟩)
                    | (go_at_call_of 10 (Value.pointer (some ⟨p, 0, none⟩)); refine (Bytes_any hP3).mono ?_; rintro e w' ⟨rfl, rfl⟩)
                    | (go_at_call_of 11 (Value.pointer (some ⟨s, 0, none⟩)); refine (Synced_any h3).mono ?_; rintro e w' ⟨rfl, rfl⟩)
                    | (go_at_call_of 11 (Value.pointer (some ⟨p, 0, none⟩)); refine (Synced_any hP3).mono ?_; rintro e w' ⟨rfl, rfl⟩)
                    | (go_at_call_of 13 (Value.pointer (some ⟨s, 0, none⟩)); refine (Down_any h3).mono ?_; rintro e w' ⟨rfl, rfl⟩)
                    | (go_at_call_of 13 (Value.pointer (some ⟨p, 0, none⟩)); refine (Down_any hP3).mono ?_; rintro e w' ⟨rfl, rfl⟩))
                  refine (Sync_any h3).mono ?_
                  rintro e w4 ⟨rfl, h4, b4⟩
                  have HP4 := Lib.hid (hP3.other h3 b4 hsp)
                  have HQ4 := Lib.hid (hQ3.other h3 b4 hsq)
                  have HB4 := Lib.hid (HB3.out.then_ b4 (fun i hi => .inr (by omega)))
                  clear h4 b4 HB3 hP3 hQ3 h3
                  go_wp2_with fail
                  refine (Sync_any HP4.out).mono ?_
                  rintro e w5 ⟨rfl, h5, b5⟩
                  have HP5 := Lib.hid h5
                  have HQ5 := Lib.hid (HQ4.out.other HP4.out b5 (by omega))
                  have HB5 := Lib.hid (HB4.out.then_ b5 (fun i hi => .inr (by omega)))
                  have hby : d.sync.2.bytes = d.bytes := by simp only [DS.sync]; split <;> rfl
                  clear h5 b5 HB4 HP4 HQ4
                  go_wp2_with fail
                  refine (Bytes_any HP5.out).mono ?_
                  rintro e w' ⟨rfl, rfl⟩
                  go_wp2_with fail
                  refine (Bytes_any HQ5.out).mono ?_
                  rintro e w' ⟨rfl, rfl⟩
                  go_wp2_with (go_at_call 7; refine (alive14_any _).mono ?_; rintro e w' ⟨rfl, hb⟩)
                  go_ret
                  exact ⟨rfl, HB5.out.trans (by assumption)⟩
  · go_wp2_with fail
    refine (New_no room _ (by omega)).mono ?_
    rintro e w1 ⟨rfl, b1⟩
    have HB1 := Lib.hid b1
    clear b1
    go_wp2_with fail
    refine (New_no room _ (by omega)).mono ?_
    rintro e w2 ⟨rfl, b2⟩
    have HB2 := Lib.hid b2
    clear b2
    go_wp2_with fail
    refine (alive14_any _).mono ?_
    rintro e w3 ⟨rfl, b3⟩
    have HB3 := Lib.hid b3
    clear b3
    go_wp2
    go_ret
    exact ⟨rfl, (HB1.out.trans HB2.out).trans HB3.out⟩
end Go.Proofs.Ytlpfhkidpdindaa
