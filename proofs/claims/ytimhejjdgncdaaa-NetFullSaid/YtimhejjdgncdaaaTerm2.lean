/- Which texts are terms: term.Read, which catches, and term.Check. -/
import Derived.Test.YtimhejjdgncdaaaTerm
import Derived.Test.YtimhejjdgncdaaaWide
namespace Go.Proofs.Ytimhejjdgncdaaa
open Go.RowKit
set_option linter.unusedVariables false
set_option linter.unusedSimpArgs false

set_option maxRecDepth 100000 in
theorem termCaught_any (n : Int) (w : World) : Calls Try.prog 31 #[.iface 65 (.agg #[.int .i64 n])] w fun e w' => e = .returned (.int .i64 n) ∧ But (fun _ => False) w w' := by
  have hta : ∀ w : World, (Instr.typeAssert (.iface 65 (.agg #[.int .i64 n])) 20 65 true).run Try.prog w = .ok (.tuple #[.agg #[.int .i64 n], .bool true]) w := fun _ => by kernel_rfl
  go_enter Try.func31, Try.ntmps31
  go_wp2
  go_ret
  exact ⟨rfl, (But.refl _ _).alloc _⟩
set_option maxRecDepth 100000 in
theorem Read1_idle (p q : Addr) (w : World) : CallsD Try.prog 30 #[.pointer (some p), .pointer (some q)] .returning w fun e u' w' => e = .returned (.tuple #[]) ∧ u' = .returning ∧ w' = w := by
  refine callsD_of_wpS Try.func30 rfl fun c₀ cs hu => ?_
  apply wpS_seq
  apply wpS_region
  simp [wpOpsS, go_sem, recoverD, hu, Try.ntmps30, Exit.thenS]
  rw [show (#[Value.pointer (some p), Value.pointer (some q)] ++ ((Array.replicate 6 undef).setIfInBounds 1 Value.nilIface).setIfInBounds 0 Value.nilIface : Array Value) = #[Value.pointer (some p), Value.pointer (some q), Value.nilIface, Value.nilIface, undef, undef, undef, undef] from rfl]
  refine wpS_of_wp ?_
  have HU := Lib.hid hu
  clear hu
  go_wp2
  refine ⟨rfl, .returning, by have := HU.out; cases c₀; simp_all, _, results_none rfl _ _ _, rfl, rfl, rfl⟩
def caughtMode (e : Int) : FrameMode := .panicking [{ v := .iface 65 (.agg #[.int .i64 e]), recovered := true }]
set_option maxRecDepth 100000 in
theorem Read1_catch (p q : Nat) (hpq : p ≠ q) (n e0 e : Int) (w : World) (hp : Holds w p (.cells #[.int .i64 n] 3 (0, 0))) (hq : Holds w q (.cells #[.int .i64 e0] 28 (0, 0))) :
    CallsD Try.prog 30 #[.pointer (some ⟨p, 0, none⟩), .pointer (some ⟨q, 0, none⟩)] (.panicking (thrown e)) w fun x u' w' => x = .returned (.tuple #[]) ∧ u' = caughtMode e ∧ Holds w' p (.cells #[.int .i64 0] 3 (0, 0)) ∧ Holds w' q (.cells #[.int .i64 e] 28 (0, 0)) ∧ But (fun k => k = p ∨ k = q) w w' := by
  refine callsD_of_wpS Try.func30 rfl fun c₀ cs hu => ?_
  unfold thrown at hu
  apply wpS_seq
  apply wpS_region
  simp [wpOpsS, go_sem, recoverD, hu, Try.ntmps30, Exit.thenS]
  rw [show (#[Value.pointer (some ⟨p, 0, none⟩), Value.pointer (some ⟨q, 0, none⟩)] ++ ((Array.replicate 6 undef).setIfInBounds 1 (Value.iface 65 (Value.agg #[Value.int IntKind.i64 e]))).setIfInBounds 0 (Value.iface 65 (Value.agg #[Value.int IntKind.i64 e])) : Array Value) =
    #[Value.pointer (some ⟨p, 0, none⟩), Value.pointer (some ⟨q, 0, none⟩), Value.iface 65 (Value.agg #[Value.int IntKind.i64 e]), Value.iface 65 (Value.agg #[Value.int IntKind.i64 e]), undef, undef, undef, undef] from rfl]
  refine wpS_of_wp ?_
  have hne : ∀ w : World, (binOp BinOp.neq 20 (.iface 65 (.agg #[.int .i64 e])) .nilIface).run Try.prog w = .ok (.bool true) w := fun _ => by kernel_rfl
  clear hu
  have C := Lib.hid (termCaught_any e)
  have HP := Lib.hid hp
  have HQ := Lib.hid hq
  clear hp hq
  go_wp2_with fail
  refine (C.out _).mono ?_
  rintro x w1 ⟨rfl, b1⟩
  have p1 := HP.out.but b1 (fun f => f)
  have q1 := HQ.out.but b1 (fun f => f)
  have kp := p1.box
  have kq := q1.box
  have kq2 := (q1.set_far p (fun h => hpq h.symm) (.int .i64 0)).box
  have P1 := Lib.hid p1
  have Q1 := Lib.hid q1
  clear p1 q1 hne
  go_wp2
  refine ⟨rfl, caughtMode e, rfl, _, results_none rfl _ _ _, rfl, rfl, (P1.out.set _).set_far q hpq _, (Q1.out.set_far p (fun h => hpq h.symm) _).set _, ?_⟩
  exact ((b1.mono (fun i h => h.elim)).setCell (a := ⟨p, 0, none⟩) (.inl (.inl rfl)) _).setCell (a := ⟨q, 0, none⟩) (.inl (.inr rfl)) _
/-- What 'Read' says. -/
def topE (l : List UInt8) : Nat × Int := if (readE 16 l).2 = 0 then (if 16384 < (readE 16 l).1 then (0, 5) else ((readE 16 l).1, 0)) else (0, (readE 16 l).2)
set_option maxRecDepth 100000 in
set_option maxHeartbeats 1000000 in
theorem Read_any (s : ByteArray) (w : World) (hl : s.size ≤ maxLen) : Calls Try.prog 27 #[.string s] w fun e w' => e = .returned (.tuple #[.int .i64 ((topE (bys s)).1 : Nat), .int .i64 (topE (bys s)).2]) ∧ But (fun _ => False) w w' := by
  have hmf : ∀ (fn : Fn) (first cap : Array Value) (w : World), (Instr.makeFunc fn first cap).run Try.prog w = .ok (.func fn first cap) w := fun _ _ _ _ => rfl
  have C := walk_any s hl 16 (Nat.le_refl _) 0 (Nat.zero_le _)
  rw [List.drop_zero] at C
  have hv : topE (bys s) = if (readE 16 (bys s)).2 = 0 then (if 16384 < (readE 16 (bys s)).1 then (0, 5) else ((readE 16 (bys s)).1, 0)) else (0, (readE 16 (bys s)).2) := rfl
  have hle := readE_le 16 (bys s) (by rw [bys_length]; unfold maxLen at hl; omega)
  rw [bys_length] at hle
  unfold maxLen at hl
  generalize readE 16 (bys s) = r at C hv hle
  obtain ⟨n, e⟩ := r
  simp only [Int.natCast_zero, Int.zero_add] at C hv hle
  rw [show ((17 : Int) - (16 : Nat)) = 1 from rfl] at C
  have CC := Lib.hid C
  have HV := Lib.hid hv
  have M1 := Lib.hid must_no
  clear C hv
  have hp := Holds.n20 w (.cells #[.int .i64 0] 3) (.cells #[.int .i64 0] 28)
  have hq := Holds.n21 w (.cells #[.int .i64 0] 3) (.cells #[.int .i64 0] 28)
  have HP := Lib.hid hp
  have HQ := Lib.hid hq
  have HB := Lib.hid (show But (fun _ => False) w ((w.alloc (.cells #[.int .i64 0] 3)).alloc (.cells #[.int .i64 0] 28)) from ((But.refl _ w).alloc _).alloc _)
  clear hp hq
  have hcatch : ∀ (W : World) (n0 e0 : Int) (e : Int) (R : Ending → World → Prop) (tmps : Array Value), Holds W w.heap.size (.cells #[.int .i64 n0] 3 (0, 0)) → Holds W (w.heap.size + 1) (.cells #[.int .i64 e0] 28 (0, 0)) →
      tmps.getD 2 undef = .pointer (some ⟨w.heap.size, 0, none⟩) → tmps.getD 3 undef = .pointer (some ⟨w.heap.size + 1, 0, none⟩) → (∀ W', But (fun k => k = w.heap.size ∨ k = w.heap.size + 1) W W' → R (.returned (.tuple #[.int .i64 0, .int .i64 e])) W') →
      Leaves Try.prog Try.f27 tmps R [{ target := .fn (.func 30) #[.pointer (some ⟨w.heap.size, 0, none⟩), .pointer (some ⟨w.heap.size + 1, 0, none⟩)], args := #[] }] (.panicking (thrown e)) W := fun W n0 e0 e R tmps h1 h2 t2 t3 hR => by
    refine leaves_cons (f := 30) (args := #[.pointer (some ⟨w.heap.size, 0, none⟩), .pointer (some ⟨w.heap.size + 1, 0, none⟩)]) (by simp) (by simp [go_sem]) ?_
    refine (Read1_catch w.heap.size (w.heap.size + 1) (by omega) n0 e0 e W h1 h2).mono ?_
    rintro x u' w' ⟨rfl, rfl, g1, g2, b⟩
    exact ⟨_, results_cell2 rfl _ _ w.heap.size (w.heap.size + 1) _ _ _ _ t2 g1.box.1 Try.underlying3 rfl t3 g2.box.1 Try.underlying28 rfl, hR w' b⟩
  have HCATCH := Lib.hid hcatch
  clear hcatch
  go_enter_defers Try.func27, Try.ntmps27
  go_wp2_with fail
  refine (CC.out _).mono ?_
  rintro x w1 ⟨⟨he, rfl⟩ | ⟨he, rfl⟩, b1⟩
  · subst he
    have p1 := HP.out.but b1 (fun f => f)
    have q1 := HQ.out.but b1 (fun f => f)
    have kp := p1.box
    have kq := q1.box
    have P1 := Lib.hid p1
    have Q1 := Lib.hid q1
    have B1 := Lib.hid (HB.out.trans b1)
    clear p1 q1 b1
    by_cases h5 : 16384 < n
    · go_wp2_with fail
      refine (M1.out 5 (by decide) _).mono ?_
      rintro e w' ⟨rfl, rfl⟩
      refine HCATCH.out _ _ _ _ _ _ (P1.out.set _) (Q1.out.set_far w.heap.size (by omega) _) rfl rfl (fun W' b => ?_)
      exact ⟨by rw [HV.out, if_pos (by trivial), if_pos h5]; rfl, (B1.out.setCell (a := ⟨w.heap.size, 0, none⟩) (.inr (Nat.le_refl _)) _).then_ b (fun i hi => .inr (by omega))⟩
    · go_wp2
      refine leaves_cons (f := 30) (args := #[.pointer (some ⟨w.heap.size, 0, none⟩), .pointer (some ⟨w.heap.size + 1, 0, none⟩)]) (by simp) (by simp [go_sem]) ?_
      refine (Read1_idle _ _ _).mono ?_
      rintro x u' w' ⟨rfl, rfl, rfl⟩
      have g1 := ((P1.out.set (.int .i64 n)).set (.int .i64 n)).set_far (w.heap.size + 1) (by omega) (.int .i64 0)
      have g2 := ((Q1.out.set_far w.heap.size (by omega) (.int .i64 n)).set_far w.heap.size (by omega) (.int .i64 n)).set (.int .i64 0)
      refine ⟨_, results_cell2 rfl _ _ w.heap.size (w.heap.size + 1) (.int .i64 n) (.int .i64 0) _ _ rfl ?_ Try.underlying3 rfl rfl ?_ Try.underlying28 rfl, ?_⟩
      · exact g1.box.1
      · exact g2.box.1
      · exact ⟨by rw [HV.out, if_pos (by trivial), if_neg (by omega)], ((B1.out.setCell (a := ⟨w.heap.size, 0, none⟩) (.inr (Nat.le_refl _)) _).setCell (a := ⟨w.heap.size, 0, none⟩) (.inr (Nat.le_refl _)) _).setCell (a := ⟨w.heap.size + 1, 0, none⟩) (.inr (by show _ ≤ w.heap.size + 1; omega)) _⟩
  · refine HCATCH.out _ _ _ _ _ _ (HP.out.but b1 (fun f => f)) (HQ.out.but b1 (fun f => f)) rfl rfl (fun W' b => ?_)
    exact ⟨by rw [HV.out, if_neg he]; rfl, (HB.out.trans b1).then_ b (fun i hi => .inr (by omega))⟩
/-- What is wrong with a text as a term: 0, if nothing is. -/
def termE (l : List UInt8) : Int := if (topE l).2 = 0 ∧ (topE l).1 ≠ l.length then 7 else (topE l).2
theorem topE_le (l : List UInt8) (hl : l.length ≤ 9223372036854775807) : (topE l).1 ≤ l.length := by
  have := readE_le 16 l hl
  unfold topE
  repeat' split
  all_goals (simp only; omega)
theorem termCheck_any (s : ByteArray) (w : World) (hl : s.size ≤ maxLen) : Calls Try.prog 21 #[.string s] w fun e w' => e = .returned (.int .i64 (termE (bys s))) ∧ But (fun _ => False) w w' := by
  have C := Read_any s w hl
  have hv : termE (bys s) = if (topE (bys s)).2 = 0 ∧ (topE (bys s)).1 ≠ s.size then 7 else (topE (bys s)).2 := by unfold termE; rw [bys_length]
  have hle := topE_le (bys s) (by rw [bys_length]; unfold maxLen at hl; omega)
  rw [bys_length] at hle
  unfold maxLen at hl
  generalize topE (bys s) = r at C hv hle
  obtain ⟨n, e⟩ := r
  simp only at C hv hle
  have CC := Lib.hid C
  have HV := Lib.hid hv
  clear C hv
  by_cases h0 : e = 0
  · subst h0
    by_cases hn : n = s.size
    · have h1 : ((n : Int) == (s.size : Int)) = true := by simp [hn]
      have h2 : ((n : Int) != (s.size : Int)) = false := by simp [hn]
      have HN := Lib.hid hn
      clear hn
      go_enter Try.func21, Try.ntmps21
      go_wp2_with (go_at_call 27; refine CC.out.mono ?_; rintro e w' ⟨rfl, b⟩)
      go_ret
      exact ⟨by rw [HV.out, if_neg (by intro h; exact h.2 HN.out)]; rfl, b⟩
    · have h1 : ((n : Int) == (s.size : Int)) = false := by simp; omega
      have h2 : ((n : Int) != (s.size : Int)) = true := by simp; omega
      have HN := Lib.hid hn
      clear hn
      go_enter Try.func21, Try.ntmps21
      go_wp2_with (go_at_call 27; refine CC.out.mono ?_; rintro e w' ⟨rfl, b⟩)
      go_ret
      exact ⟨by rw [HV.out, if_pos ⟨by trivial, HN.out⟩]; rfl, b⟩
  · have h1 : (e == 0) = false := by simpa using h0
    have HN := Lib.hid h0
    clear h0
    go_enter Try.func21, Try.ntmps21
    go_wp2_with (go_at_call 27; refine CC.out.mono ?_; rintro e w' ⟨rfl, b⟩)
    go_ret
    exact ⟨by rw [HV.out, if_neg (by intro h; exact HN.out h.1)]; rfl, b⟩
end Go.Proofs.Ytimhejjdgncdaaa
