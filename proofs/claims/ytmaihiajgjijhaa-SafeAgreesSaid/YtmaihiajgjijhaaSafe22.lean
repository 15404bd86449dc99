/- The law SafeAgrees, walked: it returns true. -/
import Derived.Test.YtmaihiajgjijhaaSafe21
import Derived.IntWalk
namespace Go.Proofs.Ytmaihiajgjijhaa
open Go.RowKit Go.Shelf
set_option linter.unusedVariables false
set_option linter.unusedSimpArgs false
attribute [local go_sem] alloc_drewN setCell_drewN

theorem ld_rec0 {ops : Array Oper} {Q : Exit → Act → World → Prop} {rest : List Oper} {d : Option Tmp} {y : Operand} {ty : TypeId} {pos : String} {after : Array Edge} {gd : Option (Nat × Bool)} {a : Act} {w : World} (g o : Nat) (x : RecV) (hc : w.rangeAt g o x.cells)
    (hx : Region.wanted ⟨d, .load 36 y, ty, pos, after, gd⟩ (yielded ops a.tmps) = true ∧ a.eval y = .pointer (some ⟨g, o, none⟩)) (h : wpList Try.prog ops Q rest (a.put d x.val) w) :
    wpList Try.prog ops Q (⟨d, .load 36 y, ty, pos, after, gd⟩ :: rest) a w :=
  wpList_value hx.1 (exec_load hx.2 (run_loadAt_mid w g o 36 x.cells _ hc Try.underlying36 rfl (RecV.infoE x))) h
theorem st_rec0 {ops : Array Oper} {Q : Exit → Act → World → Prop} {rest : List Oper} {d : Option Tmp} {y z : Operand} {ty : TypeId} {pos : String} {after : Array Edge} {gd : Option (Nat × Bool)} {a : Act} {w : World} (w0 : World) (x : RecV)
    (hx : w = w0.alloc rec0 ∧ Region.wanted ⟨d, .store 36 y z, ty, pos, after, gd⟩ (yielded ops a.tmps) = true ∧ a.eval y = .pointer (some ⟨w0.heap.size, 0, none⟩) ∧ a.eval z = x.val) (h : wpList Try.prog ops Q rest (a.put d undef) (w0.alloc x.obj)) :
    wpList Try.prog ops Q (⟨d, .store 36 y z, ty, pos, after, gd⟩ :: rest) a w := by
  obtain ⟨rfl, h1, h2, h3⟩ := hx
  exact wpList_skip h1 (exec_store h2 h3 (st_rbox w0 x)) h
theorem honest_bit (bad c : Int) (h0 : 0 ≤ bad) (h1 : 0 ≤ c) (h2 : c < 8) : ((bad / 2 ^ c.toNat).tmod 2 == 1) = !honestB bad c := by
  have hp : (0 : Int) ≤ bad / 2 ^ c.toNat := Int.ediv_nonneg h0 (Int.pow_nonneg (by decide))
  rw [Int.tmod_eq_emod_of_nonneg hp]
  unfold honestB
  rw [show decide (0 ≤ c ∧ c < 8) = true from by simp [h1, h2]]
  rw [Bool.eq_iff_iff]
  simp
theorem honest_bit0 (bad c : Int) (h0 : 0 ≤ bad) (h1 : 0 ≤ c) (h2 : c < 8) : ((bad / 2 ^ c.toNat).tmod 2 == 0) = honestB bad c := by
  have hp : (0 : Int) ≤ bad / 2 ^ c.toNat := Int.ediv_nonneg h0 (Int.pow_nonneg (by decide))
  rw [Int.tmod_eq_emod_of_nonneg hp]
  unfold honestB
  rw [show decide (0 ≤ c ∧ c < 8) = true from by simp [h1, h2]]
  rw [Bool.eq_iff_iff]
  simp
  omega

set_option maxRecDepth 100000 in
set_option maxHeartbeats 4000000 in
theorem SafeAgrees_any {w : World} (bad : Int) (hb0 : 0 ≤ bad) (hb1 : bad ≤ 255) {A : Option Addr} {len cap : Nat} {l : List EvV} (hl : HistAt w A l) (hlen : l.length = len) (hlc : len ≤ cap) (hc : cap ≤ 9223372036854775807) (t : TxnV) (ht : (-9223372036854775808 ≤ t.c ∧ t.c ≤ 9223372036854775807)) (cut : Int) (hu0 : 0 ≤ cut) (hu1 : cut ≤ 255) :
    Calls Try.prog 3 #[.int .u8 bad, .slice A len cap, t.val, .int .u8 cut] w fun e w' => e = .returned (.bool true) ∧ But (fun _ => False) w w' := by
  have hb : But (fun _ => False) w (w.alloc t.obj) := (But.refl _ w).alloc _
  have hl1 := hl.but hb
  have C1 := Lib.hid (Long34_any hl1 hlen hlc hc)
  have HB := Lib.hid hb
  have HT := Lib.hid (Holds.new w t.obj)
  have HH := Lib.hid hl1
  have HL := Lib.hid hlen
  clear hl hl1 hb hlen
  unfold TxnV.val
  cases hlong : long34 l with
  | true =>
    rw [hlong] at C1
    go_enter Try.func3, Try.ntmps3
    go_wp2_with fail
    refine C1.out.mono ?_
    rintro e w1 ⟨rfl, rfl⟩
    go_wp2_with fail
    refine (alive34_any _).mono ?_
    rintro e w2 ⟨rfl, b2⟩
    go_wp2
    go_ret
    exact ⟨rfl, HB.out.trans b2⟩
  | false =>
    rw [hlong] at C1
    have hshort : len ≤ 100 := by
      unfold long34 at hlong
      rw [Bool.or_eq_false_iff] at hlong
      have := of_decide_eq_false hlong.1
      rw [HL.out] at this
      omega
    clear hlong
    have q1 := checkOf_le bad l
    have q2 := checkOf_iff bad l
    have q3 := checkOf_take bad l
    have q4 := safe_take bad l
    rw [HL.out] at q1 q2
    have CK : Hid _ := Lib.hid (fun (W : World) (b : But (fun _ => False) (w.alloc t.obj) W) => Check_any bad hb0 hb1 (HH.out.but b) HL.out hlc hc (by omega))
    have CK2 : Hid _ := Lib.hid (fun (W : World) (b : But (fun _ => False) (w.alloc t.obj) W) (n : Nat) (hn : n ≤ len) => Check_any (len := n) (cap := cap) bad hb0 hb1 ((HH.out.but b).take n (by rw [HL.out]; exact hn)) (by rw [List.length_take, HL.out]; omega) (by omega) hc (by omega))
    generalize checkOf bad l = r at q1 q2 q3 q4 CK
    obtain ⟨at_, er⟩ := r
    simp only at q1 q2 q3 q4
    have Q3 := Lib.hid q3
    have Q4 := Lib.hid q4
    clear q3 q4
    go_enter Try.func3, Try.ntmps3
    have HQ2 := Lib.hid q2
    clear q2
    go_wp2_with fail
    refine C1.out.mono ?_
    rintro e w1 ⟨rfl, rfl⟩
    go_wp2_with fail
    refine (CK.out _ (But.refl _ _)).mono ?_
    rintro e w2 ⟨rfl, b2⟩
    have B2 := Lib.hid b2
    clear b2 C1 CK
    have e1 : ((er : Int) == 0) = decide (at_ = len) := by
      rw [Bool.eq_iff_iff]; simp [HQ2.out]
    have e2 : ((at_ : Int) == (len : Int)) = decide (at_ = len) := by
      rw [Bool.eq_iff_iff]; simp; omega
    generalize decide (at_ = len) = same at e1 e2
    go_upto_if 48 with fail
    go_cut [11] (fun s11 wx => ∃ n : Nat, n ≤ at_ ∧ s11 = .int .i64 n ∧ wx = w2)
    case first =>
      by_cases h0 : 0 < at_
      · have hm0 : 0 ≤ cut % ((at_ : Int) + 1) := Int.emod_nonneg _ (by omega)
        have hm1 : cut % ((at_ : Int) + 1) < (at_ : Int) + 1 := Int.emod_lt_of_pos _ (by omega)
        go_wp2
        go_meet
        exact ⟨(cut % ((at_ : Int) + 1)).toNat, by omega, by rw [Int.toNat_of_nonneg hm0], rfl⟩
      · go_wp2
        go_meet
        exact ⟨0, Nat.zero_le _, rfl, rfl⟩
    case rest =>
      obtain ⟨n, hn, rfl, rfl⟩ := hcut
      have C2 := CK2.out wc B2.out n (by omega)
      rw [Q3.out n hn] at C2
      have C2I := Lib.hid C2
      clear C2 CK2 Q3 e1 e2
      go_wp2_with fail
      refine C2I.out.mono ?_
      rintro e w3 ⟨rfl, b3⟩
      have HT3 := Lib.hid ((HT.out.but B2.out (fun f => f)).but b3 (fun f => f))
      have B3 := Lib.hid (B2.out.trans b3)
      clear b3 C2I B2
      have t0 := cells_cell HT3.out 0
      have t1 := cells_cell HT3.out 1
      have t2 := cells_cell HT3.out 2
      by_cases hc0 : t.c < 0
      · go_wp2_with fail
        refine (alive34_any _).mono ?_
        rintro e w4 ⟨rfl, b4⟩
        go_wp2
        go_ret
        exact ⟨rfl, HB.out.trans (B3.out.trans b4)⟩
      · by_cases hc8 : 8 ≤ t.c
        · go_wp2_with fail
          refine (alive34_any _).mono ?_
          rintro e w4 ⟨rfl, b4⟩
          go_wp2
          go_ret
          exact ⟨rfl, HB.out.trans (B3.out.trans b4)⟩
        · have hbit := honest_bit bad t.c hb0 (by omega) (by omega)
          cases hh : honestB bad t.c with
          | false =>
            rw [hh] at hbit
            simp only [Bool.not_false] at hbit
            go_wp2_with fail
            refine (alive34_any _).mono ?_
            rintro e w4 ⟨rfl, b4⟩
            go_wp2
            go_ret
            exact ⟨rfl, HB.out.trans (B3.out.trans b4)⟩
          | true =>
            rw [hh] at hbit
            simp only [Bool.not_true] at hbit
            have HHN := Lib.hid hh
            have HBIT := Lib.hid hbit
            have hgl : (l.take at_).length = at_ := by rw [List.length_take, HL.out]; omega
            have hgood := HH.out.take at_ (by rw [HL.out]; exact q1)
            have hsafe := Q4.out at_ (Nat.le_refl _)
            have CO := Lib.hid (Outcome_any (w := w3) t (hgood.but B3.out) hgl (by omega : at_ ≤ cap) hc)
            have hout : ∀ (i : Nat) (x : EvV), (l.take at_)[i]? = some x → x.kind = 2 → (x.rec_.kind = 3 ∨ x.rec_.kind = 4) → x.rec_.t = t → (outcomeOf (l.take at_) t).isSome = true ∧ outCommit (l.take at_) t = x.rec_.yes := fun i x h1 h2 h3 h4 => hsafe.outcome HHN.out h1 h2 h3 h4
            have HOUT := Lib.hid hout
            have HGL := Lib.hid hgl
            have HG := Lib.hid hgood
            have HS := Lib.hid hsafe
            have HE := Lib.hid (hgood.evs (q := fun k => (w.alloc t.obj).heap.size ≤ k) (fun _ h => h))
            clear hh hgl hgood hsafe hout hbit
            generalize hgg : l.take at_ = good at *
            clear hgg
            generalize (outcomeOf good t).isSome = isb at CO HOUT
            generalize outCommit good t = cm at CO HOUT
            have hbit2 := HBIT.out
            have hcap : at_ ≤ cap := by omega
            go_wp2_with fail
            refine CO.out.mono ?_
            rintro e w4 ⟨rfl, b4⟩
            have HT4 := Lib.hid (HT3.out.but b4 (fun f => f))
            have B4 := Lib.hid (B3.out.trans b4)
            clear b4 CO hbit2 t0 t1 t2 HBIT HT3 B3
            go_wp2
            go_loopw [17] (fun i wr => ∃ k : Nat, k ≤ at_ ∧ i = .int .i64 k ∧ But (fun _ => False) (w.alloc t.obj) wr) (fun i _ => at_ - (intOf i).toNat)
            case atStart => exact ⟨0, Nat.zero_le _, rfl, B4.out⟩
            case round =>
              obtain ⟨wo, rfl⟩ : ∃ wo : World, wo = wr := ⟨_, rfl⟩
              obtain ⟨k, hk, rfl, hbo⟩ := hrel
              have HTO := Lib.hid (HT.out.but hbo (fun f => f))
              have HBO := Lib.hid hbo
              by_cases hlt : k < at_
              · have hk1 : k < good.length := by rw [HGL.out]; exact hlt
                obtain ⟨g, off, rfl, hg, hcx⟩ := (HE.out.but hbo (fun _ f => f.elim)) k good[k] (List.getElem?_eq_getElem hk1)
                have hox : EvOk (w.alloc t.obj) good[k] := HG.out.2 _ (List.getElem_mem hk1)
                have HX := Lib.hid (List.getElem?_eq_getElem hk1)
                generalize good[k] = x at *
                have hcr : wo.rangeAt g (off + k * 22 + 6) x.rec_.cells := fun j u hj => by
                  have := hcx (6 + j) u (by
                    have hj10 : j < 10 := (List.getElem?_eq_some_iff.1 hj).1
                    have : j = 0 ∨ j = 1 ∨ j = 2 ∨ j = 3 ∨ j = 4 ∨ j = 5 ∨ j = 6 ∨ j = 7 ∨ j = 8 ∨ j = 9 := by omega
                    rcases this with rfl | rfl | rfl | rfl | rfl | rfl | rfl | rfl | rfl | rfl <;> exact hj)
                  rw [Nat.add_assoc]
                  exact this
                have HCR := Lib.hid hcr
                have HOX := Lib.hid (show MemsAt (w.alloc t.obj) x.rec_.msl x.rec_.ms from hox.1)
                have x0 : wo.cell? ⟨g, off + k * 22, none⟩ = some (.int .u8 x.kind) := hcx 0 _ rfl
                have hgo : g < wo.heap.size := cellLt x0
                have x0' : (wo.alloc x.rec_.obj).cell? ⟨g, off + k * 22, none⟩ = some (.int .u8 x.kind) := by rw [World.cell?_alloc_lt _ _ _ hgo]; exact x0
                have HR := Holds.new wo x.rec_.obj
                have r0 := rbox_cell HR 0 _ rfl
                have r2 := rbox_cell HR 2 _ rfl
                have r3 := rbox_cell HR 3 _ rfl
                have r4 := rbox_cell HR 4 _ rfl
                have r5 := rbox_cell HR 5 _ rfl
                have r6 := rbox_cell HR 6 _ rfl
                have r7 := rbox_cell HR 7 _ rfl
                have HTP := HTO.out.alloc x.rec_.obj
                have t0 := cells_cell HTP 0
                have t1 := cells_cell HTP 1
                have t2 := cells_cell HTP 2
                have HBP := Lib.hid (hbo.alloc x.rec_.obj)
                have HTPH := Lib.hid HTP
                have HRH := Lib.hid HR
                clear hcx hox hbo hcr x0 HTP HR
                go_upto_region 20 with (first | ((with_reducible refine ld_rec0 g (off + k * 22 + 6) x.rec_ HCR.out ?_ ?_); (exact ⟨rfl, rfl⟩)) | ((with_reducible refine st_rec0 wo x.rec_ ?_ ?_); (exact ⟨rfl, rfl, rfl, rfl⟩)))
                obtain ⟨wp_, hwp⟩ : ∃ wp_, wo.alloc x.rec_.obj = wp_ := ⟨_, rfl⟩
                rw [hwp] at x0' r0 r2 r3 r4 r5 r6 r7 t0 t1 t2 HBP HTPH HRH ⊢
                clear hwp
                by_cases k2 : x.kind = 2
                · by_cases e1 : x.rec_.t.c = t.c
                  · by_cases e2 : x.rec_.t.e = t.e
                    · by_cases e3 : x.rec_.t.s = t.s
                      · have TEQ := Lib.hid (show x.rec_.t = t from by cases hx : x.rec_.t; cases t; simp_all)
                        have K2 := Lib.hid k2
                        have gk : (x.kind == 2) = true := by simpa using k2
                        have gk' : (x.kind != 2) = false := by simp [k2]
                        have ge1 : (x.rec_.t.c == t.c) = true := by simpa using e1
                        have ge2 : (x.rec_.t.e == t.e) = true := by simpa using e2
                        have ge3 : (x.rec_.t.s == t.s) = true := by simpa using e3
                        clear e1 e2 e3
                        by_cases k3 : x.rec_.kind = 3
                        · obtain ⟨o1, o2⟩ := HOUT.out k x HX.out k2 (.inl k3) TEQ.out
                          subst o1
                          have K3 := Lib.hid k3
                          have g3 : (x.rec_.kind == 3) = true := by simpa using k3
                          have g3' : (x.rec_.kind != 3) = false := by simp [k3]
                          clear k3
                          have YEQ : ∃ y, x.rec_.yes = y := ⟨_, rfl⟩
                          obtain ⟨y, hy⟩ := YEQ
                          rw [hy] at r5 o2
                          have YE := Lib.hid hy
                          clear hy
                          have gy : (y != cm) = false := by rw [o2]; simp
                          have gy' : (y == cm) = true := by rw [o2]; simp
                          clear o2
                          cases y with
                          | false =>
                              go_wp2
                              obtain ⟨wq, rfl⟩ : ∃ wq : World, wq = wp_ := ⟨_, rfl⟩
                              go_loopw [19] (fun i wr => ∃ j : Nat, j ≤ x.rec_.msl.n ∧ i = .int .i64 j ∧ But (fun _ => False) (w.alloc t.obj) wr ∧ Holds wr w.heap.size t.obj ∧ Holds wr wo.heap.size x.rec_.obj) (fun i _ => x.rec_.msl.n - (intOf i).toNat)
                              case atStart => exact ⟨0, Nat.zero_le _, rfl, HBP.out, HTPH.out, HRH.out⟩
                              case round =>
                                obtain ⟨j, hj, rfl, hbj, htj, hrj⟩ := hrel
                                have q0 := rbox_cell hrj 0 _ rfl
                                have q5 := rbox_cell hrj 5 _ rfl
                                have q6 := rbox_cell hrj 6 _ rfl
                                have q7 := rbox_cell hrj 7 _ rfl
                                rw [YE.out] at q5
                                have HBJ := Lib.hid hbj
                                have HTJ := Lib.hid htj
                                have HRJ := Lib.hid hrj
                                clear hbj htj hrj
                                go_wp2
                                all_goals exact ⟨⟨k + 1, by omega, by go_num, HBJ.out⟩, by simp [intOf]; omega⟩
                          | true =>
                              go_wp2
                              obtain ⟨wq, rfl⟩ : ∃ wq : World, wq = wp_ := ⟨_, rfl⟩
                              go_loopw [19] (fun i wr => ∃ j : Nat, j ≤ x.rec_.msl.n ∧ i = .int .i64 j ∧ But (fun _ => False) (w.alloc t.obj) wr ∧ Holds wr w.heap.size t.obj ∧ Holds wr wo.heap.size x.rec_.obj) (fun i _ => x.rec_.msl.n - (intOf i).toNat)
                              case atStart => exact ⟨0, Nat.zero_le _, rfl, HBP.out, HTPH.out, HRH.out⟩
                              case round =>
                                obtain ⟨j, hj, rfl, hbj, htj, hrj⟩ := hrel
                                have q0 := rbox_cell hrj 0 _ rfl
                                have q5 := rbox_cell hrj 5 _ rfl
                                have q6 := rbox_cell hrj 6 _ rfl
                                have q7 := rbox_cell hrj 7 _ rfl
                                rw [YE.out] at q5
                                have HBJ := Lib.hid hbj
                                have HTJ := Lib.hid htj
                                have HRJ := Lib.hid hrj
                                clear hbj htj hrj
                                by_cases hjn : j < x.rec_.msl.n
                                · have hjl : j < x.rec_.ms.length := by rw [HOX.out.1]; exact hjn
                                  obtain ⟨gm, om, eA, hgm, m0, m1, ⟨b1, b2⟩, z1⟩ := (HOX.out.but HBJ.out).get j hjl
                                  rw [eA] at q7
                                  have cv := fun (W : World) (b : But (fun _ => False) (w.alloc t.obj) W) => Voted_any (w := W) (len := k) (cap := cap) x.rec_.ms[j].org t x.rec_.aud (HOX.out.but b) ((HG.out.but b).take k (by omega)) (by rw [List.length_take]; omega) (by omega) hc
                                  rw [eA] at cv
                                  unfold TxnV.val at cv
                                  have EA := Lib.hid eA
                                  clear eA
                                  have HM := Lib.hid (List.getElem_mem hjl)
                                  have hvot := HS.out.voted HX.out K2.out K3.out YE.out (HM.out)
                                  rw [TEQ.out] at hvot
                                  have HV := Lib.hid hvot
                                  have CV := Lib.hid cv
                                  clear hvot m1 z1 cv
                                  generalize x.rec_.ms[j] = m at *
                                  have hmc : x.rec_.msl.n ≤ x.rec_.msl.c := HOX.out.2.1
                                  have hmc2 : x.rec_.msl.c ≤ 9223372036854775807 := HOX.out.2.2.1
                                  by_cases p0 : 0 ≤ m.org
                                  · by_cases p8 : m.org < 8
                                    · have hbit := honest_bit0 bad m.org hb0 p0 p8
                                      cases hh : honestB bad m.org with
                                      | false =>
                                        rw [hh] at hbit
                                        clear hh
                                        go_wp2
                                        go_quiet (fail)
                                        go_wp2
                                        exact ⟨⟨j + 1, by omega, by go_num, HBJ.out.drewN _, HTJ.out, HRJ.out⟩, by simp [intOf]; omega⟩
                                      | true =>
                                        rw [hh] at hbit
                                        have hv := HV.out hh
                                        have cv := CV.out _ HBJ.out.drew
                                        rw [hv] at cv
                                        have CV2 := Lib.hid cv
                                        clear hh hv cv
                                        go_wp2
                                        have d0 : decide (0 ≤ m.org) = true := by simpa using p0
                                        have d8 : decide (m.org < 8) = true := by simpa using p8
                                        have hkc : k ≤ cap := by omega
                                        have hsS : ∀ W, Holds W w.heap.size t.obj → Holds W wo.heap.size x.rec_.obj → ((Instr.loadAt 24 (.pointer (some ⟨w.heap.size, 0, none⟩))).run Try.prog W = .ok (.agg #[.int .i64 t.c, .int .i64 t.e, .int .i64 t.s]) W ∧ (Instr.loadAt 3 (.pointer (some ⟨wo.heap.size, 6, none⟩))).run Try.prog W = .ok (.int .i64 x.rec_.aud) W ∧ (Instr.loadAt 33 (.pointer (some ⟨wo.heap.size, 7, none⟩))).run Try.prog W = .ok (.slice (some ⟨gm, om, none⟩) x.rec_.msl.n x.rec_.msl.c) W) := fun W h1 h2 => by
                                          have z0 := cells_cell h1 0
                                          have z1 := cells_cell h1 1
                                          have z2 := cells_cell h1 2
                                          have z6 := rbox_cell h2 6 _ rfl
                                          have z7 := rbox_cell h2 7 _ rfl
                                          rw [EA.out] at z7
                                          clear q0 q5 q6 q7 m0
                                          refine ⟨?_, ?_, ?_⟩ <;> go_simp
                                        have HSS := Lib.hid hsS
                                        clear hsS
                                        refine wp_region_held_drew (S := fun W => ((Instr.loadAt 24 (.pointer (some ⟨w.heap.size, 0, none⟩))).run Try.prog W = .ok (.agg #[.int .i64 t.c, .int .i64 t.e, .int .i64 t.s]) W ∧ (Instr.loadAt 3 (.pointer (some ⟨wo.heap.size, 6, none⟩))).run Try.prog W = .ok (.int .i64 x.rec_.aud) W ∧ (Instr.loadAt 33 (.pointer (some ⟨wo.heap.size, 7, none⟩))).run Try.prog W = .ok (.slice (some ⟨gm, om, none⟩) x.rec_.msl.n x.rec_.msl.c) W)) (by kernel_rfl) (HSS.out _ (HTJ.out.but (But.refl (fun _ => False) _).drew (fun f => f)) (HRJ.out.but (But.refl (fun _ => False) _).drew (fun f => f))) (fun hS => ?_)
                                        refine' anyH_take (i := 0) (v := .int .i64 m.org) rfl (by kernel_rfl) (by kernel_rfl) (by kernel_rfl) (fun _ _ _ h => h) (Or.inl ⟨by rfl, fun _ _ => by rfl⟩) hS ?_
                                        simp only [Act.put, List.setIfInBounds_toArray, List.set_cons_zero, List.set_cons_succ]
                                        refine' anyH_take (i := 1) (v := .bool true) rfl (by kernel_rfl) (by kernel_rfl) (by kernel_rfl) (fun _ _ _ h => h) (Or.inl ⟨by rfl, fun _ _ => by go_simp⟩) hS ?_
                                        simp only [Act.put, List.setIfInBounds_toArray, List.set_cons_zero, List.set_cons_succ]
                                        refine' anyH_take (i := 2) (v := .bool true) rfl (by kernel_rfl) (by kernel_rfl) (by kernel_rfl) (fun _ _ _ h => h) (Or.inl ⟨by rfl, fun _ _ => by rfl⟩) hS ?_
                                        simp only [Act.put, List.setIfInBounds_toArray, List.set_cons_zero, List.set_cons_succ]
                                        refine' anyH_take (i := 3) (v := .int .i64 m.org) rfl (by kernel_rfl) (by kernel_rfl) (by kernel_rfl) (fun _ _ _ h => h) (Or.inl ⟨by rfl, fun _ _ => by rfl⟩) hS ?_
                                        simp only [Act.put, List.setIfInBounds_toArray, List.set_cons_zero, List.set_cons_succ]
                                        refine' anyH_take (i := 4) (v := .bool true) rfl (by kernel_rfl) (by kernel_rfl) (by kernel_rfl) (fun _ _ _ h => h) (Or.inl ⟨by rfl, fun _ _ => by go_simp⟩) hS ?_
                                        simp only [Act.put, List.setIfInBounds_toArray, List.set_cons_zero, List.set_cons_succ]
                                        refine' anyH_take (i := 5) (v := .bool true) rfl (by kernel_rfl) (by kernel_rfl) (by kernel_rfl) (fun _ _ _ h => h) (Or.inl ⟨by rfl, fun _ _ => by rfl⟩) hS ?_
                                        simp only [Act.put, List.setIfInBounds_toArray, List.set_cons_zero, List.set_cons_succ]
                                        refine' anyH_take (i := 6) (v := .bool true) rfl (by kernel_rfl) (by kernel_rfl) (by kernel_rfl) (fun _ _ _ h => h) (Or.inl ⟨by rfl, fun _ _ => by rfl⟩) hS ?_
                                        simp only [Act.put, List.setIfInBounds_toArray, List.set_cons_zero, List.set_cons_succ]
                                        refine' anyH_take (i := 7) (v := .int .u8 bad) rfl (by kernel_rfl) (by kernel_rfl) (by kernel_rfl) (fun _ _ _ h => h) (Or.inl ⟨by rfl, fun _ _ => by rfl⟩) hS ?_
                                        simp only [Act.put, List.setIfInBounds_toArray, List.set_cons_zero, List.set_cons_succ]
                                        refine' anyH_take (i := 8) (v := .int .i64 m.org) rfl (by kernel_rfl) (by kernel_rfl) (by kernel_rfl) (fun _ _ _ h => h) (Or.inl ⟨by rfl, fun _ _ => by rfl⟩) hS ?_
                                        simp only [Act.put, List.setIfInBounds_toArray, List.set_cons_zero, List.set_cons_succ]
                                        refine' anyH_take (i := 9) (v := .int .u64 m.org) rfl (by kernel_rfl) (by kernel_rfl) (by kernel_rfl) (fun _ _ _ h => h) (Or.inl ⟨by rfl, fun _ _ => by go_simp; exact IntWalk.u64_in _ (by omega)⟩) hS ?_
                                        simp only [Act.put, List.setIfInBounds_toArray, List.set_cons_zero, List.set_cons_succ]
                                        refine' anyH_take (i := 10) (v := .int .u8 (bad / 2 ^ m.org.toNat)) rfl (by kernel_rfl) (by kernel_rfl) (by kernel_rfl) (fun _ _ _ h => h) (Or.inl ⟨by rfl, fun _ _ => by go_simp⟩) hS ?_
                                        simp only [Act.put, List.setIfInBounds_toArray, List.set_cons_zero, List.set_cons_succ]
                                        refine' anyH_take (i := 11) (v := .int .u8 ((bad / 2 ^ m.org.toNat).tmod 2)) rfl (by kernel_rfl) (by kernel_rfl) (by kernel_rfl) (fun _ _ _ h => h) (Or.inl ⟨by rfl, fun _ _ => by go_simp⟩) hS ?_
                                        simp only [Act.put, List.setIfInBounds_toArray, List.set_cons_zero, List.set_cons_succ]
                                        refine' anyH_take (i := 12) (v := .bool true) rfl (by kernel_rfl) (by kernel_rfl) (by kernel_rfl) (fun _ _ _ h => h) (Or.inl ⟨by rfl, fun _ _ => by go_simp⟩) hS ?_
                                        simp only [Act.put, List.setIfInBounds_toArray, List.set_cons_zero, List.set_cons_succ]
                                        refine' anyH_take (i := 13) (v := .bool true) rfl (by kernel_rfl) (by kernel_rfl) (by kernel_rfl) (fun _ _ _ h => h) (Or.inl ⟨by rfl, fun _ _ => by rfl⟩) hS ?_
                                        simp only [Act.put, List.setIfInBounds_toArray, List.set_cons_zero, List.set_cons_succ]
                                        refine' anyH_take (i := 14) (v := .bool true) rfl (by kernel_rfl) (by kernel_rfl) (by kernel_rfl) (fun _ _ _ h => h) (Or.inl ⟨by rfl, fun _ _ => by rfl⟩) hS ?_
                                        simp only [Act.put, List.setIfInBounds_toArray, List.set_cons_zero, List.set_cons_succ]
                                        refine' anyH_take (i := 15) (v := .slice (some ⟨g, off, none⟩) at_ cap) rfl (by kernel_rfl) (by kernel_rfl) (by kernel_rfl) (fun _ _ _ h => h) (Or.inl ⟨by rfl, fun _ _ => by rfl⟩) hS ?_
                                        simp only [Act.put, List.setIfInBounds_toArray, List.set_cons_zero, List.set_cons_succ]
                                        refine' anyH_take (i := 16) (v := .int .i64 k) rfl (by kernel_rfl) (by kernel_rfl) (by kernel_rfl) (fun _ _ _ h => h) (Or.inl ⟨by rfl, fun _ _ => by rfl⟩) hS ?_
                                        simp only [Act.put, List.setIfInBounds_toArray, List.set_cons_zero, List.set_cons_succ]
                                        refine' anyH_take (i := 17) (v := .slice (some ⟨g, off, none⟩) k cap) rfl (by kernel_rfl) (by kernel_rfl) (by kernel_rfl) (fun _ _ _ h => h) (Or.inl ⟨by rfl, fun _ _ => by go_simp⟩) hS ?_
                                        simp only [Act.put, List.setIfInBounds_toArray, List.set_cons_zero, List.set_cons_succ]
                                        refine' anyH_take (i := 18) (v := .int .i64 m.org) rfl (by kernel_rfl) (by kernel_rfl) (by kernel_rfl) (fun _ _ _ h => h) (Or.inl ⟨by rfl, fun _ _ => by rfl⟩) hS ?_
                                        simp only [Act.put, List.setIfInBounds_toArray, List.set_cons_zero, List.set_cons_succ]
                                        refine' anyH_take (i := 19) (v := .agg #[.int .i64 t.c, .int .i64 t.e, .int .i64 t.s]) rfl (by kernel_rfl) (by kernel_rfl) (by kernel_rfl) (fun _ _ _ h => h) (yieldsIf_load_run (by rfl) rfl (fun _ h => h.1)) hS ?_
                                        simp only [Act.put, List.setIfInBounds_toArray, List.set_cons_zero, List.set_cons_succ]
                                        refine' anyH_take (i := 20) (v := .pointer (some ⟨wo.heap.size, 6, none⟩)) rfl (by kernel_rfl) (by kernel_rfl) (by kernel_rfl) (fun _ _ _ h => h) (Or.inl ⟨by rfl, fun _ _ => by rfl⟩) hS ?_
                                        simp only [Act.put, List.setIfInBounds_toArray, List.set_cons_zero, List.set_cons_succ]
                                        refine' anyH_take (i := 21) (v := .int .i64 x.rec_.aud) rfl (by kernel_rfl) (by kernel_rfl) (by kernel_rfl) (fun _ _ _ h => h) (yieldsIf_load_run (by rfl) rfl (fun _ h => h.2.1)) hS ?_
                                        simp only [Act.put, List.setIfInBounds_toArray, List.set_cons_zero, List.set_cons_succ]
                                        refine' anyH_take (i := 22) (v := .pointer (some ⟨wo.heap.size, 7, none⟩)) rfl (by kernel_rfl) (by kernel_rfl) (by kernel_rfl) (fun _ _ _ h => h) (Or.inl ⟨by rfl, fun _ _ => by rfl⟩) hS ?_
                                        simp only [Act.put, List.setIfInBounds_toArray, List.set_cons_zero, List.set_cons_succ]
                                        refine' anyH_take (i := 23) (v := .slice (some ⟨gm, om, none⟩) x.rec_.msl.n x.rec_.msl.c) rfl (by kernel_rfl) (by kernel_rfl) (by kernel_rfl) (fun _ _ _ h => h) (yieldsIf_load_run (by rfl) rfl (fun _ h => h.2.2)) hS ?_
                                        simp only [Act.put, List.setIfInBounds_toArray, List.set_cons_zero, List.set_cons_succ]
                                        refine wpAnyH_ready (rs := [24]) (by kernel_rfl) (by simp) (anyH_cons rfl (fun K hK => ?_) AllReadyH.nil)
                                        go_simp
                                        refine CV2.out.mono ?_
                                        rintro e w5 ⟨rfl, b5⟩
                                        have HB5 := Lib.hid (HBJ.out.trans ((But.refl (fun _ => False) wr).drew.trans b5))
                                        have HT5 := Lib.hid ((HTJ.out.but (But.refl (fun _ => False) wr).drew (fun f => f)).but b5 (fun f => f))
                                        have HR5 := Lib.hid ((HRJ.out.but (But.refl (fun _ => False) wr).drew (fun f => f)).but b5 (fun f => f))
                                        refine hK.out _ _ (HSS.out _ HT5.out HR5.out) (fun hS => ?_)
                                        clear hK K b5
                                        refine' anyH_take (i := 25) (v := .bool false) rfl (by kernel_rfl) (by kernel_rfl) (by kernel_rfl) (fun _ _ _ h => h) (Or.inl ⟨by rfl, fun _ _ => by rfl⟩) hS ?_
                                        simp only [Act.put, List.setIfInBounds_toArray, List.set_cons_zero, List.set_cons_succ]
                                        refine' anyH_take (i := 26) (v := .bool false) rfl (by kernel_rfl) (by kernel_rfl) (by kernel_rfl) (fun _ _ _ h => h) (Or.inl ⟨by rfl, fun _ _ => by rfl⟩) hS ?_
                                        simp only [Act.put, List.setIfInBounds_toArray, List.set_cons_zero, List.set_cons_succ]
                                        refine wpAnyH_done (by kernel_rfl) ?_ _
                                        clear hS
                                        go_wp2
                                        exact ⟨⟨j + 1, by omega, by go_num, HB5.out, HT5.out, HR5.out⟩, by simp [intOf]; omega⟩
                                    · have p8' : 8 ≤ m.org := by omega
                                      have pd : decide (m.org < 8) = false := by simpa using p8'
                                      go_wp2
                                      go_quiet (fail)
                                      go_wp2
                                      exact ⟨⟨j + 1, by omega, by go_num, HBJ.out.drewN _, HTJ.out, HRJ.out⟩, by simp [intOf]; omega⟩
                                  · have p0' : m.org < 0 := by omega
                                    have pd : decide (0 ≤ m.org) = false := by simpa using p0'
                                    go_wp2
                                    go_quiet (fail)
                                    go_wp2
                                    exact ⟨⟨j + 1, by omega, by go_num, HBJ.out.drewN _, HTJ.out, HRJ.out⟩, by simp [intOf]; omega⟩
                                · go_wp2
                                  all_goals exact ⟨⟨k + 1, by omega, by go_num, HBJ.out⟩, by simp [intOf]; omega⟩
                        · by_cases k4 : x.rec_.kind = 4
                          · obtain ⟨o1, o2⟩ := HOUT.out k x HX.out k2 (.inr k4) TEQ.out
                            subst o1
                            have gy : (x.rec_.yes != cm) = false := by rw [o2]; simp
                            have gy' : (x.rec_.yes == cm) = true := by rw [o2]; simp
                            clear o2
                            have g3 : (x.rec_.kind == 3) = false := by simpa using k3
                            have g3' : (x.rec_.kind != 3) = true := by simpa using k3
                            have g4 : (x.rec_.kind == 4) = true := by simpa using k4
                            have g4' : (x.rec_.kind != 4) = false := by simp [k4]
                            clear k3 k4
                            go_wp2
                            obtain ⟨wq, rfl⟩ : ∃ wq : World, wq = wp_ := ⟨_, rfl⟩
                            go_loopw [19] (fun i wr => ∃ j : Nat, j ≤ x.rec_.msl.n ∧ i = .int .i64 j ∧ But (fun _ => False) (w.alloc t.obj) wr ∧ Holds wr w.heap.size t.obj ∧ Holds wr wo.heap.size x.rec_.obj) (fun i _ => x.rec_.msl.n - (intOf i).toNat)
                            case atStart => exact ⟨0, Nat.zero_le _, rfl, HBP.out, HTPH.out, HRH.out⟩
                            case round =>
                              obtain ⟨j, hj, rfl, hbj, htj, hrj⟩ := hrel
                              have q0 := rbox_cell hrj 0 _ rfl
                              have q5 := rbox_cell hrj 5 _ rfl
                              have q6 := rbox_cell hrj 6 _ rfl
                              have q7 := rbox_cell hrj 7 _ rfl
                              have HBJ := Lib.hid hbj
                              have HTJ := Lib.hid htj
                              have HRJ := Lib.hid hrj
                              clear hbj htj hrj
                              go_wp2
                              all_goals exact ⟨⟨k + 1, by omega, by go_num, HBJ.out⟩, by simp [intOf]; omega⟩
                          · have g3 : (x.rec_.kind == 3) = false := by simpa using k3
                            have g3' : (x.rec_.kind != 3) = true := by simpa using k3
                            have g4 : (x.rec_.kind == 4) = false := by simpa using k4
                            have g4' : (x.rec_.kind != 4) = true := by simpa using k4
                            clear k3 k4
                            go_wp2
                            exact ⟨⟨k + 1, by omega, by go_num, HBP.out⟩, by simp [intOf]; omega⟩
                      · have f3 : (x.rec_.t.s == t.s) = false := by simpa using e3
                        clear e3
                        go_wp2
                        exact ⟨⟨k + 1, by omega, by go_num, HBP.out⟩, by simp [intOf]; omega⟩
                    · have f3 : (x.rec_.t.e == t.e) = false := by simpa using e2
                      clear e2
                      go_wp2
                      exact ⟨⟨k + 1, by omega, by go_num, HBP.out⟩, by simp [intOf]; omega⟩
                  · have f3 : (x.rec_.t.c == t.c) = false := by simpa using e1
                    clear e1
                    go_wp2
                    exact ⟨⟨k + 1, by omega, by go_num, HBP.out⟩, by simp [intOf]; omega⟩
                · have f3 : (x.kind == 2) = false := by simpa using k2
                  have f4 : (x.kind != 2) = true := by simpa using k2
                  clear k2
                  go_wp2
                  exact ⟨⟨k + 1, by omega, by go_num, HBP.out⟩, by simp [intOf]; omega⟩
              · obtain rfl : k = at_ := by omega
                go_wp2_with fail
                refine (alive34_any _).mono ?_
                rintro e w5 ⟨rfl, b5⟩
                go_wp2
                go_ret
                exact ⟨rfl, HB.out.trans (HBO.out.trans b5)⟩
end Go.Proofs.Ytmaihiajgjijhaa
