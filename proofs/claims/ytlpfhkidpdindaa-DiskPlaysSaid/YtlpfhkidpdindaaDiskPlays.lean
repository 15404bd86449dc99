/- The law DiskPlays: the plain law (the program's disk is the document's), and the walk. -/
import Derived.Test.YtlpfhkidpdindaaDiskCopy
import Derived.Test.YtlpfhkidpdindaaRefDisk
import Derived.Deep.RegionHeld3
namespace Go.Proofs.Ytlpfhkidpdindaa
open Go.RowKit
set_option linter.unusedVariables false
set_option linter.unusedSimpArgs false
attribute [local go_sem] alloc_drewN setCell_drewN

/-! ### The plain law -/
structure Rel (d : DS) (r : RS) : Prop where
  bytes : d.bytes = r.good.data.toList ++ r.loose.data.toList
  synced : d.synced = r.good.size
  down : d.down = r.down
  room : d.room = r.most
  left : r.left = if d.armed then (d.left : Int) else -1
theorem Rel.len {d : DS} {r : RS} (h : Rel d r) : d.bytes.length = r.good.size + r.loose.size := by
  rw [h.bytes, List.length_append, Array.length_toList, Array.length_toList]; rfl
theorem Rel.stops {d : DS} {r : RS} (h : Rel d r) : d.stops = decide (r.left = 0) := by
  rw [h.left]
  cases ha : d.armed
  · simp [DS.stops, ha]
  · rw [Bool.eq_iff_iff]; simp [DS.stops, ha]
def RS.does (x : StepV) (r : RS) : Int × RS :=
  if x.op = 0 then r.append x.s else if x.op = 1 then r.sync else if x.op = 2 then r.cut x.n else if x.op = 3 then (0, r.arm x.n) else if x.op = 4 then (0, r.crash x.n) else (0, r)
theorem rel_new (n : Nat) : Rel (DS.new n) (RS.new n) := ⟨rfl, rfl, rfl, rfl, rfl⟩
theorem rel_fell {d : DS} {r : RS} (h : Rel d r) (hl : r.left = 0) : Rel d.fell r.stop := ⟨h.bytes, h.synced, by simp [DS.fell, RS.stop, hl], h.room, h.left⟩
theorem rel_stop {d : DS} {r : RS} (h : Rel d r) (hl : r.left ≠ 0) : Rel d r.stop := ⟨h.bytes, h.synced, by simp [RS.stop, hl, h.down], h.room, h.left⟩
theorem rel_did {d : DS} {r : RS} (h : Rel d r) (hl : r.left ≠ 0) : Rel d.did r.did := by
  refine ⟨h.bytes, h.synced, h.down, h.room, ?_⟩
  have h1 := h.left
  show (if 0 < r.left then r.left - 1 else r.left) = if d.armed then ((if d.armed then d.left - 1 else d.left : Nat) : Int) else -1
  by_cases ha : d.armed = true
  · rw [if_pos ha] at h1 ⊢; rw [if_pos ha]; split <;> omega
  · rw [if_neg ha] at h1 ⊢; split <;> omega
theorem rel_does {d : DS} {r : RS} (h : Rel d r) (hk : d.Ok) (x : StepV) : (d.does x).1 = (r.does x).1 ∧ Rel (d.does x).2 (r.does x).2 := by
  have hs := h.stops
  have hl := h.len
  have hsl : x.s.data.toList.length = x.s.size := by rw [Array.length_toList]; rfl
  have k1 := hk.le
  simp only [DS.does, RS.does]
  by_cases e0 : x.op = 0
  · rw [if_pos e0, if_pos e0]
    simp only [DS.append, RS.append, hs]
    by_cases hz : r.left = 0
    · simp only [hz, decide_true, if_true]; exact ⟨trivial, rel_fell h hz⟩
    · simp only [hz, decide_false, if_false, Bool.false_eq_true]
      have hr := h.room
      by_cases hf : (r.most : Int) - r.good.size - r.loose.size < x.s.size
      · rw [if_pos (by omega), if_pos hf]; exact ⟨rfl, rel_stop h hz⟩
      · rw [if_neg (by omega), if_neg hf]
        refine ⟨rfl, rel_did ⟨?_, h.synced, by simp [RS.stop, hz, h.down], h.room, h.left⟩ hz⟩
        show d.bytes ++ x.s.data.toList = r.good.data.toList ++ (r.loose ++ x.s).data.toList
        rw [data_append, h.bytes, List.append_assoc]
  rw [if_neg e0, if_neg e0]
  by_cases e1 : x.op = 1
  · rw [if_pos e1, if_pos e1]
    simp only [DS.sync, RS.sync, hs]
    by_cases hz : r.left = 0
    · simp only [hz, decide_true, if_true]; exact ⟨trivial, rel_fell h hz⟩
    · simp only [hz, decide_false, if_false, Bool.false_eq_true]
      refine ⟨trivial, rel_did ⟨?_, ?_, by simp [RS.stop, hz, h.down], h.room, h.left⟩ hz⟩
      · show d.bytes = (r.good ++ r.loose).data.toList ++ []
        rw [data_append, h.bytes, List.append_nil]
      · show d.bytes.length = (r.good ++ r.loose).size
        rw [sizeAppend, hl]
  rw [if_neg e1, if_neg e1]
  by_cases e2 : x.op = 2
  · rw [if_pos e2, if_pos e2]
    simp only [DS.cut, RS.cut, hs, sizeAppend]
    by_cases hz : r.left = 0
    · simp only [hz, decide_true, if_true]; exact ⟨trivial, rel_fell h hz⟩
    · simp only [hz, decide_false, if_false, Bool.false_eq_true]
      by_cases hf : x.n < 0 ∨ (d.bytes.length : Int) < x.n
      · rw [if_pos hf, if_pos (by omega)]; exact ⟨rfl, rel_stop h hz⟩
      · rw [if_neg hf, if_neg (by omega)]
        refine ⟨rfl, rel_did ⟨?_, ?_, by simp [RS.stop, hz, h.down], h.room, h.left⟩ hz⟩
        · show d.bytes.take x.n.toNat = ((r.good ++ r.loose).extract 0 x.n.toNat).data.toList ++ []
          rw [Lib.extract_data, data_append, h.bytes, List.append_nil, List.drop_zero, Nat.sub_zero]
        · show x.n.toNat = ((r.good ++ r.loose).extract 0 x.n.toNat).size
          rw [ByteArray.size_extract, sizeAppend]; omega
  rw [if_neg e2, if_neg e2]
  by_cases e3 : x.op = 3
  · rw [if_pos e3, if_pos e3]
    refine ⟨rfl, ⟨h.bytes, h.synced, h.down, h.room, ?_⟩⟩
    simp only [RS.arm, DS.arm, if_true]
    omega
  rw [if_neg e3, if_neg e3]
  by_cases e4 : x.op = 4
  · rw [if_pos e4, if_pos e4]
    refine ⟨rfl, ?_⟩
    have hy := hk.sy
    have q1 := h.synced
    have hn : (d.crash x.n).synced = r.good.size + (min (max x.n 0) (r.loose.size : Int)).toNat := by
      simp only [DS.crash]; split <;> omega
    refine ⟨?_, ?_, rfl, h.room, rfl⟩
    · show d.bytes.take (d.crash x.n).synced = (r.good ++ r.loose.extract 0 _).data.toList ++ []
      rw [hn, h.bytes, data_append, Lib.extract_data, List.append_nil, List.drop_zero, Nat.sub_zero]
      have hg : r.good.data.toList.length = r.good.size := by rw [Array.length_toList]; rfl
      rw [← hg, List.take_length_add_append]
    · show (d.crash x.n).synced = (r.good ++ r.loose.extract 0 _).size
      rw [hn, sizeAppend, ByteArray.size_extract]; omega
  rw [if_neg e4, if_neg e4]
  exact ⟨rfl, h⟩

/-! ### The walk -/
set_option maxHeartbeats 1000000 in
theorem would_any {w : World} {p : Nat} {r : RS} (h : RefAt w p r) (x : StepV) (hn : -9223372036854775808 ≤ x.n ∧ x.n ≤ 9223372036854775807) (hs : x.s.size ≤ 140737488351232) :
    Calls Try.prog 23 #[.pointer (some ⟨p, 0, none⟩), .agg #[.int .u8 x.op, .int .i64 x.n, .string x.s]] w fun e w' => e = .returned (.int .i64 (r.does x).1) ∧ RefAt w' p (r.does x).2 ∧ But (· = p) w w' := by
  have hb : But (· = p) w (w.alloc (.cells #[.int .u8 x.op, .int .i64 x.n, .string x.s] 37)) := (But.refl _ w).alloc _
  have h2 := h.but ((But.refl (fun _ => False) w).alloc (.cells #[.int .u8 x.op, .int .i64 x.n, .string x.s] 37)) (fun h => h)
  have hp := h.lt
  clear h
  obtain ⟨op, n, s⟩ := x
  simp only at hn hs h2 hb ⊢
  obtain ⟨n0, n1⟩ := hn
  by_cases e0 : op = 0
  · subst e0
    rw [show r.does ⟨0, n, s⟩ = r.append s from rfl]
    have C := Lib.hid (RefAppend_any h2 s hs)
    clear h2
    go_enter Try.func23, Try.ntmps23
    go_wp2_with (go_at_call 30; go_must (refine C.out.mono ?_; rintro e w' ⟨rfl, h3, b3⟩))
    go_ret
    exact ⟨rfl, by assumption, hb.trans (by assumption)⟩
  have g0 : (op == 0) = false := by simp [e0]
  by_cases e1 : op = 1
  · subst e1
    rw [show r.does ⟨1, n, s⟩ = r.sync from rfl]
    have C := Lib.hid (RefSync_any h2)
    clear h2
    go_enter Try.func23, Try.ntmps23
    go_wp2_with (go_at_call 31; go_must (refine C.out.mono ?_; rintro e w' ⟨rfl, h3, b3⟩))
    go_ret
    exact ⟨rfl, by assumption, hb.trans (by assumption)⟩
  have g1 : (op == 1) = false := by simp [e1]
  by_cases e2 : op = 2
  · subst e2
    rw [show r.does ⟨2, n, s⟩ = r.cut n from rfl]
    have C := Lib.hid (RefCut_any h2 n)
    clear h2
    go_enter Try.func23, Try.ntmps23
    go_wp2_with (go_at_call 32; go_must (refine C.out.mono ?_; rintro e w' ⟨rfl, h3, b3⟩))
    go_ret
    exact ⟨rfl, by assumption, hb.trans (by assumption)⟩
  have g2 : (op == 2) = false := by simp [e2]
  by_cases e3 : op = 3
  · subst e3
    rw [show r.does ⟨3, n, s⟩ = ((0 : Int), r.arm n) from rfl]
    have C := Lib.hid (RefArm_any h2 n n1 n0)
    clear h2
    go_enter Try.func23, Try.ntmps23
    go_wp2_with (go_at_call 33; go_must (refine C.out.mono ?_; rintro e w' ⟨rfl, h3, b3⟩))
    go_ret
    exact ⟨rfl, by assumption, hb.trans (by assumption)⟩
  have g3 : (op == 3) = false := by simp [e3]
  by_cases e4 : op = 4
  · subst e4
    rw [show r.does ⟨4, n, s⟩ = ((0 : Int), r.crash n) from rfl]
    have C := Lib.hid (RefCrash_any h2 n n1 n0)
    clear h2
    go_enter Try.func23, Try.ntmps23
    go_wp2_with (go_at_call 34; go_must (refine C.out.mono ?_; rintro e w' ⟨rfl, h3, b3⟩))
    go_ret
    exact ⟨rfl, by assumption, hb.trans (by assumption)⟩
  have g4 : (op == 4) = false := by simp [e4]
  rw [show r.does ⟨op, n, s⟩ = ((0 : Int), r) from by simp [RS.does, e0, e1, e2, e3, e4]]
  have C := Lib.hid h2
  clear h2 e0 e1 e2 e3 e4
  go_enter Try.func23, Try.ntmps23
  go_wp2
  go_ret
  exact ⟨rfl, C.out, hb⟩

set_option maxHeartbeats 2000000 in
theorem alike14_any {w : World} {p q : Nat} {d : DS} {r : RS} (h : DiskAt w p d) (k : RefAt w q r) (hr : Rel d r) :
    Calls Try.prog 24 #[.pointer (some ⟨p, 0, none⟩), .pointer (some ⟨q, 0, none⟩)] w fun e w' => e = .returned (.bool true) ∧ ∃ n, w' = w.drewN n := by
  have hl := hr.len
  have hby : (⟨d.bytes.toArray⟩ : ByteArray) = r.good ++ r.loose := by
    apply ext_data
    rw [data_append, ← hr.bytes]
  have C1 : ∀ n, Hid (Calls Try.prog 10 #[.pointer (some ⟨p, 0, none⟩)] (w.drewN n) fun e w' => e = .returned (.string (r.good ++ r.loose)) ∧ w' = w.drewN n) := fun n => by
    have := Bytes_any (h.drewN n); rw [hby] at this; exact Lib.hid this
  have C2 : ∀ n, Hid (Calls Try.prog 11 #[.pointer (some ⟨p, 0, none⟩)] (w.drewN n) fun e w' => e = .returned (.int .i64 r.good.size) ∧ w' = w.drewN n) := fun n => by
    have := Synced_any (h.drewN n); rw [hr.synced] at this; exact Lib.hid this
  have C3 : ∀ n, Hid (Calls Try.prog 17 #[.pointer (some ⟨p, 0, none⟩)] (w.drewN n) fun e w' => e = .returned (.int .i64 ((r.good.size : Int) + (r.loose.size : Int))) ∧ w' = w.drewN n) := fun n => by
    have := Len_any (h.drewN n); rw [show (d.bytes.length : Int) = (r.good.size : Int) + (r.loose.size : Int) from by omega] at this; exact Lib.hid this
  have C4 : ∀ n, Hid (Calls Try.prog 13 #[.pointer (some ⟨p, 0, none⟩)] (w.drewN n) fun e w' => e = .returned (.bool r.down) ∧ w' = w.drewN n) := fun n => by
    have := Down_any (h.drewN n); rw [hr.down] at this; exact Lib.hid this
  have C5 : ∀ n, Hid (Calls Try.prog 25 #[.pointer (some ⟨p, 0, none⟩)] (w.drewN n) fun e w' => e = .returned (.int .i64 ((r.most : Int) - ((r.good.size : Int) + (r.loose.size : Int)))) ∧ ∃ m, w' = (w.drewN n).drewN m) := fun n => by
    have := Room_any (h.drewN n); rw [show (d.room : Int) - (d.bytes.length : Int) = (r.most : Int) - ((r.good.size : Int) + (r.loose.size : Int)) from by rw [hr.room]; omega] at this; exact Lib.hid this
  obtain ⟨c0, c1, c2, c3, c4, _⟩ := k.open
  have k1 := k.2.le
  have k2 := k.2.mo
  clear h k hr hl hby c1
  go_enter Try.func24, Try.ntmps24
  go_wp2_with fail
  go_quiet (first | (go_at_call 10; exact Calls.quiet_of_same (C1 _).out) | (go_at_call 11; exact Calls.quiet_of_same (C2 _).out) | (go_at_call 17; exact Calls.quiet_of_same (C3 _).out) | (go_at_call 13; exact Calls.quiet_of_same (C4 _).out) | (go_at_call 25; exact Calls.quiet_of (C5 _).out))
  go_wp2
  go_ret
  exact ⟨rfl, _, rfl⟩

theorem DiskAt.far {w w1 : World} {p q : Nat} {d : DS} {r : RS} (h : DiskAt w p d) (k : RefAt w q r) (hb : But (· = q) w w1) (hn : p ≠ q) : DiskAt w1 p d :=
  h.but hb hn (by rintro g rfl cur fr he; rw [k.1] at he; injection he with he; injection he with _ ht; cases ht)
set_option maxHeartbeats 2000000 in
set_option maxRecDepth 100000 in
theorem plays14_walk (w : World) (room : Int) (hr : (Lit.int .i64 room).wf = true) (a : Option Addr) (len cap : Nat) (l : List StepV) (hl : l.length = len) (hle : len ≤ cap) (hcap : cap ≤ maxLen) (hs : RowAt w a 3 RepStep l) :
    Calls Try.prog 6 #[.int .i64 room, .slice a len cap] w fun e w' => e = .returned (.bool true) ∧ But (fun _ => False) w w' := by
  obtain ⟨hr0, hr1⟩ := bounds_i64 hr
  have CH := Lib.hid (heavy14_any hl hle hcap hs)
  have HS := Lib.hid hs
  simp only [maxLen] at hcap
  clear hs hr
  go_enter Try.func6, Try.ntmps6
  go_wp2_with fail
  refine CH.out.mono ?_
  rintro e w' ⟨b, rfl, hfit, rfl⟩
  clear CH
  cases b with
  | true =>
    go_wp2_with (go_at_call 7; refine (alive14_any _).mono ?_; rintro e w' ⟨rfl, hb⟩)
    go_ret
    exact ⟨rfl, by assumption⟩
  | false =>
  have HF := Lib.hid (hfit rfl)
  clear hfit
  by_cases hroom : 0 ≤ room ∧ room ≤ 1048576
  · obtain ⟨r0, r1⟩ := hroom
    go_wp2_with fail
    refine (New_yes room _ r0 r1).mono ?_
    rintro e w1 ⟨p, rfl, h1, hp, b1⟩
    have H1 := Lib.hid h1
    have B1 := Lib.hid b1
    clear h1 b1
    go_wp2_with fail
    refine (RefNew_yes room _ r0 r1).mono ?_
    rintro e w2 ⟨q, rfl, h2, hq, b2⟩
    have hpq : p < q := Nat.lt_of_lt_of_le H1.out.lt hq
    have hpq2 : p ≠ q := by omega
    have hqw : w'.heap.size ≤ q := by omega
    have H1' := Lib.hid (H1.out.but b2 (fun h => h) (fun _ h => h.elim))
    have H2 := Lib.hid h2
    have B2 := Lib.hid (B1.out.trans b2)
    clear h2 b2 H1 B1
    subst hl
    go_wp2_with fail
    go_loopw [8] (fun i wr => ∃ (k : Nat) (d : DS) (r : RS), k ≤ l.length ∧ i = .int .i64 k ∧ DiskAt wr p d ∧ RefAt wr q r ∧ Rel d r ∧ But (fun _ => False) w' wr) (fun i _ => l.length - (intOf i).toNat)
    case atStart => exact ⟨0, _, _, Nat.zero_le _, rfl, H1'.out, H2.out, rel_new _, B2.out⟩
    case round =>
        obtain ⟨k, d, r, hk, rfl, hP, hQ, hRel, hB⟩ := hrel
        by_cases hlt : k < l.length
        · obtain ⟨g, off, rfl, hg, c0, c1, c2, ⟨o0, o1⟩, hn⟩ := stepCells HS.out hB k hlt
          have hz : l[k].s.size ≤ 140737488351232 := by have := HF.out.2 l[k] (List.getElem_mem _); omega
          generalize hx : l[k] = x at c0 c1 c2 hz o0 o1 hn
          clear hx
          have hp3 := hP.lt
          have hq3 := hQ.lt
          have hg2 : g < wr.heap.size := Nat.lt_of_lt_of_le hg hB.size
          have hok : d.Ok := by obtain ⟨_, _, _, _, _, hk⟩ := hP; exact hk
          obtain ⟨e1, hRel2⟩ := rel_does hRel hok x
          have CW : ∀ W, RefAt W q r → Hid (Calls Try.prog 23 #[.pointer (some ⟨q, 0, none⟩), .agg #[.int .u8 x.op, .int .i64 x.n, .string x.s]] W fun e w' => e = .returned (.int .i64 (d.does x).1) ∧ RefAt w' q (r.does x).2 ∧ But (· = q) W w') := fun W hW => by
            have := would_any hW x hn hz; rw [← e1] at this; exact Lib.hid this
          have HFI : Hid _ := Lib.hid (fun (w3 : World) (d3 : DS) (r3 : RS) (a1 : DiskAt w3 p d3) (a2 : RefAt w3 q r3) (a4 : Rel d3 r3) (a3 : But (fun _ => False) w' w3) => (show ∃ (k' : Nat) (d : DS) (r : RS), k' ≤ l.length ∧ Value.int .i64 ((k : Int) + 1) = .int .i64 k' ∧ DiskAt w3 p d ∧ RefAt w3 q r ∧ Rel d r ∧ But (fun _ => False) w' w3 from ⟨k + 1, d3, r3, by omega, by go_num, a1, a2, a4, a3⟩))
          have HB := Lib.hid (show But (fun _ => False) w' wr.drew from hB.drew)
          have HP := Lib.hid (show DiskAt wr.drew p d from hP)
          have HQ := Lib.hid (show RefAt wr.drew q r from hQ)
          have HR2 := Lib.hid hRel2
          clear hB hP hQ hRel hRel2 e1 hok
          go_wp2_with fail
          go_region_held3 (fun w' => w'.cell? ⟨g, off + k * 3, none⟩ = some (.int .u8 x.op) ∧ w'.cell? ⟨g, off + k * 3 + 1, none⟩ = some (.int .i64 x.n) ∧ w'.cell? ⟨g, off + k * 3 + 2, none⟩ = some (.string x.s)) (first | (refine ⟨?_, ?_, ?_⟩ <;> assumption)) (first
            | (go_at_call 18; refine (does_any HP.out x hn hz).mono ?_; rintro e w2 ⟨rfl, hP2, hB2⟩; have hQ2 := HQ.out.but hB2 (Ne.symm hpq2); have c0' := hB2.keeps c0 (by omega); have c1' := hB2.keeps c1 (by omega); have c2' := hB2.keeps c2 (by omega))
            | (go_at_call 23; refine (CW _ hQ2).out.mono ?_; rintro e w3 ⟨rfl, hQ3, hB3⟩; have hP3 := DiskAt.far hP2 hQ2 hB3 hpq2; have c0'' := hB3.keeps c0' (by omega); have c1'' := hB3.keeps c1' (by omega); have c2'' := hB3.keeps c2' (by omega))
            | (go_at_call 24; refine (alike14_any hP3 hQ3 HR2.out).mono ?_; rintro e w4 ⟨rfl, n4, rfl⟩))
          have HP3 := Lib.hid (show DiskAt (w3.drewN n4) p _ from hP3)
          have HQ3 := Lib.hid (show RefAt (w3.drewN n4) q _ from hQ3)
          have HB3 := Lib.hid (((HB.out.then_ hB2 (fun i hi => .inr (by omega))).then_ hB3 (fun i hi => .inr (by omega))).drewN n4)
          clear hP3 hQ3 hB2 hB3 hP2 hQ2 c0' c1' c2' c0'' c1'' c2'' c0 c1 c2 CW
          go_wp2
          go_roundw
          case rel => exact HFI.out _ _ _ HP3.out HQ3.out HR2.out HB3.out
          case measure => simp [intOf]; omega
        · go_wp2_with fail
          refine (nothing14_any _).mono ?_
          rintro e w3 ⟨rfl, b3⟩
          have HB3 := Lib.hid (hB.trans b3)
          clear b3 hB hP hQ hRel
          go_wp2_with fail
          refine (alive14_any _).mono ?_
          rintro e w4 ⟨rfl, b4⟩
          have HB4 := Lib.hid (HB3.out.trans b4)
          clear b4
          go_wp2
          go_ret
          exact ⟨rfl, HB4.out⟩
  · go_wp2_with fail
    refine (New_no room _ (by omega)).mono ?_
    rintro e w1 ⟨rfl, b1⟩
    have HB1 := Lib.hid b1
    clear b1
    go_wp2_with fail
    refine (RefNew_no room _ (by omega)).mono ?_
    rintro e w2 ⟨rfl, b2⟩
    have HB2 := Lib.hid (HB1.out.trans b2)
    clear b2
    go_wp2_with fail
    refine (nothing14_any _).mono ?_
    rintro e w3 ⟨rfl, b3⟩
    have HB3 := Lib.hid (HB2.out.trans b3)
    clear b3
    go_wp2_with fail
    refine (alive14_any _).mono ?_
    rintro e w4 ⟨rfl, b4⟩
    have HB4 := Lib.hid (HB3.out.trans b4)
    clear b4
    go_wp2
    go_ret
    exact ⟨rfl, HB4.out⟩
end Go.Proofs.Ytlpfhkidpdindaa
