/- NetFull: there is room for just so many posts. -/
import Derived.Test.YtimhejjdgncdaaaNet14
import Derived.Test.YtimhejjdgncdaaaRef06
namespace Go.Proofs.Ytimhejjdgncdaaa
open Go.RowKit
set_option linter.unusedVariables false
set_option linter.unusedSimpArgs false
attribute [local go_sem] alloc_drewN setCell_drewN

set_option maxHeartbeats 1000000 in
theorem May30_any (p : PostV) (w : World) (hp : PostOk p) : Calls Try.prog 5 #[.agg #[.int .i64 p.fr, .int .i64 p.to, .string p.env]] w fun e w' => e = .returned (.bool (okP p)) ∧ But (fun _ => False) w w' := by
  have T := fun w => refCheck_any p.env w hp.2.2
  have b0 := Holds.new w p.obj
  have BB := Lib.hid ((But.refl (fun _ => False) w).alloc p.obj)
  have hoe : Obj.cells #[Value.int .i64 p.fr, .int .i64 p.to, .string p.env] 23 = p.obj := rfl
  have q0 : (w.alloc p.obj).cell? ⟨w.heap.size, 0, none⟩ = some (.int .i64 p.fr) := b0.cl 0
  have q1 : (w.alloc p.obj).cell? ⟨w.heap.size, 1, none⟩ = some (.int .i64 p.to) := b0.cl 1
  have q2 : (w.alloc p.obj).cell? ⟨w.heap.size, 2, none⟩ = some (.string p.env) := b0.cl 2
  have ho := Lib.hid (show okP p = (decide (0 ≤ p.fr ∧ p.fr < 8) && decide (0 ≤ p.to ∧ p.to < 8) && !decide (p.fr = p.to) && decide (termE (bys p.env) = 0)) from rfl)
  clear b0 hp
  by_cases k1 : 0 ≤ p.fr
  · by_cases k2 : p.fr < 8
    · by_cases k3 : 0 ≤ p.to
      · by_cases k4 : p.to < 8
        · by_cases k5 : p.fr = p.to
          · have hv := Lib.hid (show okP p = false from by rw [ho.out]; simp [k5])
            have e3 : (p.fr != p.to) = false := by simpa using k5
            clear k5
            go_enter Try.func5, Try.ntmps5
            go_wp2
            go_ret
            exact ⟨by rw [hv.out]; rfl, BB.out⟩
          · have e3 : (p.fr != p.to) = true := by simpa using k5
            have hv := Lib.hid (show okP p = decide (termE (bys p.env) = 0) from by rw [ho.out]; simp [k1, k2, k3, k4, k5])
            have hb : (termE (bys p.env) == 0) = decide (termE (bys p.env) = 0) := by rw [Bool.eq_iff_iff]; simp
            clear k5
            generalize termE (bys p.env) = x at *
            generalize hd : decide (x = 0) = d at *
            have HB := hb
            clear hd hb
            go_enter Try.func5, Try.ntmps5
            go_wp2_with (go_at_call 17; refine (T _).mono ?_; rintro _ w1 ⟨rfl, b1⟩)
            go_ret
            exact ⟨by rw [hv.out]; rfl, BB.out.trans b1⟩
        · have hv := Lib.hid (show okP p = false from by rw [ho.out]; simp [k4])
          go_enter Try.func5, Try.ntmps5
          go_wp2
          go_ret
          exact ⟨by rw [hv.out]; rfl, BB.out⟩
      · have hv := Lib.hid (show okP p = false from by rw [ho.out]; simp [k3])
        go_enter Try.func5, Try.ntmps5
        go_wp2
        go_ret
        exact ⟨by rw [hv.out]; rfl, BB.out⟩
    · have hv := Lib.hid (show okP p = false from by rw [ho.out]; simp [k2])
      go_enter Try.func5, Try.ntmps5
      go_wp2
      go_ret
      exact ⟨by rw [hv.out]; rfl, BB.out⟩
  · have hv := Lib.hid (show okP p = false from by rw [ho.out]; simp [k1])
    go_enter Try.func5, Try.ntmps5
    go_wp2
    go_ret
    exact ⟨by rw [hv.out]; rfl, BB.out⟩
/-- So many times the same. -/
def repsN (p : PostV) : Nat → NetV
  | 0 => net0
  | n + 1 => (repsN p n).next p
theorem repsN_ps (p : PostV) : ∀ n, (repsN p n).ps = List.replicate n p
  | 0 => rfl
  | n + 1 => by simp only [repsN, NetV.next, repsN_ps p n, List.replicate_succ']
theorem repsN_len (p : PostV) (n : Nat) : (repsN p n).ps.length = n := by rw [repsN_ps, List.length_replicate]
theorem repsN_fst (p : PostV) : ∀ n, (repsN p (n + 1)).fst = [(p.env, 0)]
  | 0 => rfl
  | n + 1 => by
    have h : hasIn p.env (repsN p (n + 1)).fst = true := by rw [repsN_fst p n]; simp [hasIn, findIn]
    rw [repsN]
    simp only [NetV.next, h, if_true]
    exact repsN_fst p n
theorem repsN_inv (p : PostV) (hp : okP p = true) : ∀ n, NetInv (repsN p n)
  | 0 => NetInv.zero
  | n + 1 => (repsN_inv p hp n).next p hp
theorem repsN_time (p : PostV) (hp : okP p = true) : (repsN p 4096).time 4095 = 4096 := by
  have h := repsN_inv p hp 4096
  have hk : (repsN p 4096).ps[4095]? = some p := by rw [repsN_ps, List.getElem?_replicate]; simp
  have := h.ts 4095 p hk
  unfold NetV.time
  rw [if_pos ⟨by decide, by rw [repsN_len]; decide⟩, List.getD_eq_getElem?_getD, show (4095 : Int).toNat = 4095 from rfl, this]
  rw [repsN_ps, List.take_of_length_le (by rw [List.length_replicate]; decide), List.filter_eq_self.2 (by intro q hq; simp [List.eq_of_mem_replicate hq]), List.length_replicate]
  rfl
theorem repsN_seen (p : PostV) : (nums (fun k q => valIn q.env (repsN p 4096).fst == k) (repsN p 4096).ps (repsN p 4096).ps.length).length = 1 := by
  rw [repsN_fst p 4095, repsN_len]
  have H : ∀ n, n ≤ 4096 → 1 ≤ n → nums (fun k q => valIn q.env [(p.env, 0)] == k) (repsN p 4096).ps n = [0] := by
    intro n
    induction n with
    | zero => intro _ h; omega
    | succ n ih =>
      intro h1 _
      have hp : (repsN p 4096).ps[n]? = some p := by rw [repsN_ps, List.getElem?_replicate, if_pos (by omega)]
      have hv : valIn p.env [(p.env, 0)] = 0 := by simp [valIn, findIn]
      rw [nums_step hp, hv]
      cases n with
      | zero => rfl
      | succ n => rw [ih (by omega) (by omega)]; simp; omega
  rw [H 4096 (Nat.le_refl _) (by decide)]
  rfl
/-- While the law fills. -/
def FullAt (w : World) (p : PostV) (g k : Nat) (wr : World) : Prop := ∃ B, NetAt wr g B (repsN p k) ∧ But (fun _ => False) w wr ∧ ∀ j, B.mine g j → w.heap.size < j
set_option maxRecDepth 100000 in
set_option maxHeartbeats 2000000 in
theorem NetFull_any (p : PostV) (w : World) (hp : PostOk p) : Calls Try.prog 3 #[.agg #[.int .i64 p.fr, .int .i64 p.to, .string p.env]] w fun e w' => e = .returned (.bool true) ∧ But (fun _ => False) w w' := by
  have HOK := Lib.hid hp
  have b0 := Holds.new w p.obj
  have BB := Lib.hid ((But.refl (fun _ => False) w).alloc p.obj)
  have hoe : Obj.cells #[Value.int .i64 p.fr, .int .i64 p.to, .string p.env] 23 = p.obj := rfl
  have q0 : (w.alloc p.obj).cell? ⟨w.heap.size, 0, none⟩ = some (.int .i64 p.fr) := b0.cl 0
  have q1 : (w.alloc p.obj).cell? ⟨w.heap.size, 1, none⟩ = some (.int .i64 p.to) := b0.cl 1
  have q2 : (w.alloc p.obj).cell? ⟨w.heap.size, 2, none⟩ = some (.string p.env) := b0.cl 2
  have CM := Lib.hid (fun w => May30_any p w hp)
  have hps : p.env.size ≤ 9223372036854775807 := by have := hp.2.2; unfold maxLen at this; omega
  clear b0 hp
  by_cases h256 : 256 < p.env.size
  · go_enter Try.func3, Try.ntmps3
    go_wp2_with (go_at_call 6; refine (alive30_any _).mono ?_; rintro _ _ ⟨rfl, hb⟩)
    go_ret
    exact ⟨rfl, BB.out.trans hb⟩
  · cases ho : okP p with
    | false =>
      rw [ho] at CM
      clear ho
      go_enter Try.func3, Try.ntmps3
      go_wp2_with (first
        | (go_at_call 5; refine (CM.out _).mono ?_; rintro _ w1 ⟨rfl, b1⟩)
        | (go_at_call 6; refine (alive30_any _).mono ?_; rintro _ _ ⟨rfl, hb⟩))
      go_ret
      exact ⟨rfl, (BB.out.trans b1).trans hb⟩
    | true =>
      rw [ho] at CM
      have HO := Lib.hid ho
      clear ho
      go_enter Try.func3, Try.ntmps3
      go_wp2_with (first
        | (go_at_call 5; refine (CM.out _).mono ?_; rintro _ w1 ⟨rfl, b1⟩; have B1 := Lib.hid (BB.out.trans b1); replace q0 := b1.cell q0 (fun f => f); replace q1 := b1.cell q1 (fun f => f); replace q2 := b1.cell q2 (fun f => f); clear b1)
        | (go_at_call 7; go_loud (refine (New_any _).mono ?_; rintro _ w2 ⟨g, B, rfl, hN, hb, hf⟩; have Q0 := Lib.hid (hb.cell q0 (fun f => f)); have Q1 := Lib.hid (hb.cell q1 (fun f => f)); have Q2 := Lib.hid (hb.cell q2 (fun f => f)); have hgf : ∀ j, B.mine g j → w.heap.size < j := (fun j hj => by have h1 := hf j hj; have h2 := cellLt' q0; omega); have HS := Lib.hid (show FullAt w p g 0 w2 from ⟨B, hN, B1.out.trans hb, hgf⟩); clear hN hb hf hgf q0 q1 q2)))
      go_loopw [4] (fun i wr => ∃ k : Nat, k ≤ 4096 ∧ i = .int .i64 k ∧ FullAt w p g k wr ∧ wr.cell? ⟨w.heap.size, 0, none⟩ = some (.int .i64 p.fr) ∧ wr.cell? ⟨w.heap.size, 1, none⟩ = some (.int .i64 p.to) ∧ wr.cell? ⟨w.heap.size, 2, none⟩ = some (.string p.env)) (fun i _ => 4096 - (intOf i).toNat)
      case atStart => exact ⟨0, Nat.zero_le _, rfl, HS.out, Q0.out, Q1.out, Q2.out⟩
      case round =>
        obtain ⟨k, hk, rfl, ⟨B3, hN, hb3, hf3⟩, p0, p1, p2⟩ := hrel
        have HN := Lib.hid hN
        have HB := Lib.hid hb3
        have HF := Lib.hid hf3
        clear hN hb3 hf3
        by_cases hlt : k < 4096
        · have CP := Put_ok HN.out p HOK.out HO.out (by rw [repsN_len]; exact hlt)
          rw [repsN_len] at CP
          have hself : ((k : Int) != (k : Int)) = false := by simp
          have P0 := Lib.hid p0
          have P1 := Lib.hid p1
          have P2 := Lib.hid p2
          go_wp2_with (go_at_call 8; refine CP.mono ?_; rintro _ w4 ⟨rfl, B4, h4, b4, f4⟩; have H4 := Lib.hid h4; have HB4 := Lib.hid b4; have HF4 := Lib.hid f4; clear CP h4 b4 f4 p0 p1 p2)
          go_roundw
          case rel =>
            have hno : ¬ B3.mine g w.heap.size := fun h => Nat.lt_irrefl _ (HF.out _ h)
            refine ⟨k + 1, by omega, rfl, ⟨B4, H4.out, HB.out.then_ HB4.out (fun i hi => .inr (Nat.le_of_lt (HF.out i hi))), fun j hj => ?_⟩, HB4.out.cell P0.out hno, HB4.out.cell P1.out hno, HB4.out.cell P2.out hno⟩
            rcases HF4.out j hj with h | h
            · exact HF.out j h
            · have := cellLt' P0.out; omega
          case measure => simp [intOf]; omega
        · obtain rfl : k = 4096 := by omega
          have hl := repsN_len p 4096
          have ht := repsN_time p HO.out
          have hs := repsN_seen p
          have hNN := HN.out
          clear HN
          generalize repsN p 4096 = s at hl ht hs hNN
          have CF := Put_full hNN p HOK.out HO.out hl
          have HN := Lib.hid hNN
          have HT := Lib.hid ht
          have HSN := Lib.hid hs
          have HLN := Lib.hid hl
          clear hNN ht hs hl
          go_wp2_with (first
            | (go_at_call 8; refine CF.mono ?_; rintro _ w4 ⟨rfl, b4⟩; have N4 := Lib.hid (HN.out.but b4 (fun _ _ f => f)); have HB4 := Lib.hid (HB.out.trans b4); have CL := Len_any N4.out; rw [HLN.out] at CL; have CT := Times_any N4.out 4095 (by decide); rw [HT.out] at CT; clear CF b4)
            | (go_at_call 9; refine CL.mono ?_; rintro _ w5 ⟨rfl, rfl⟩; clear CL)
            | (go_at_call 10; refine CT.mono ?_; rintro _ w6 ⟨rfl, b6⟩; have CS := Seen_any (N4.out.but b6 (fun _ _ f => f)); rw [HSN.out] at CS; have HB6 := Lib.hid (HB4.out.trans b6); clear CT b6)
            | (go_at_call 11; refine CS.mono ?_; rintro _ w7 ⟨v, rfl, hv, b7⟩; obtain ⟨A7, c7, rfl, l7, m7, _, _⟩ := ones_of hv; have HB7 := Lib.hid (HB6.out.trans b7); clear CS hv b7)
            | (go_at_call 6; refine (alive30_any _).mono ?_; rintro _ _ ⟨rfl, hb⟩))
          go_ret
          exact ⟨rfl, HB7.out.trans hb⟩
theorem NetFull_row (W : World) (cs : Array Value) (p : PostV) (hp : RepPost p cs.toList) : Calls Try.prog 3 #[.agg cs] W fun e w' => e = .returned (.bool true) ∧ But (fun _ => False) W w' := by
  obtain ⟨rfl⟩ : cs = #[.int .i64 p.fr, .int .i64 p.to, .string p.env] := by cases cs; simpa [RepPost, PostV.cells] using hp.1
  exact NetFull_any p W hp.2
end Go.Proofs.Ytimhejjdgncdaaa
