/- Which texts are terms, by the document (layer 6): name, head, read, Read, Check: as term.Check says. -/
import Derived.Test.YtimhejjdgncdaaaRef01
import Derived.Test.YtimhejjdgncdaaaTerm2
namespace Go.Proofs.Ytimhejjdgncdaaa
open Go.RowKit
set_option linter.unusedVariables false
set_option linter.unusedSimpArgs false

theorem letter_all : ∀ c : Fin 256, letterB (UInt8.ofNat c.val) = (decide (97 ≤ c.val ∧ c.val ≤ 122) || decide (48 ≤ c.val ∧ c.val ≤ 57) || decide (c.val = 47) || decide (c.val = 46) || decide (c.val = 45)) := by decide +kernel
theorem letter_spec (b : UInt8) : letterB b = true ↔ ((97 ≤ b.toNat ∧ b.toNat ≤ 122) ∨ (48 ≤ b.toNat ∧ b.toNat ≤ 57) ∨ b.toNat = 47 ∨ b.toNat = 46 ∨ b.toNat = 45) := by
  have := letter_all ⟨b.toNat, b.toNat_lt⟩
  simp only [UInt8.ofNat_toNat] at this
  rw [this]
  simp only [Bool.or_eq_true, decide_eq_true_eq]
  omega
set_option maxRecDepth 100000 in
set_option maxHeartbeats 4000000 in
theorem refName_any (s : ByteArray) (w : World) (hl : s.size ≤ maxLen) : Calls Try.prog 38 #[.string s] w fun e w' => e = .returned (.bool (namedB (bys s))) ∧ w' = w := by
  unfold maxLen at hl
  have HL := Lib.hid (bys_length s)
  go_enter Try.func38, Try.ntmps38
  go_wp2
  go_loop [3] (fun i => ∃ k : Nat, k ≤ s.size ∧ i = .int .i64 k ∧ AllIs letterB ((bys s).take k)) (fun i => s.size - (intOf i).toNat)
  case atStart => exact ⟨0, by omega, rfl, by simp [AllIs]⟩
  case round =>
    obtain ⟨k, hk, rfl, hq⟩ := hrel
    have HQ := Lib.hid hq
    clear hq
    by_cases hlt : k < s.size
    · have hkl : k < (bys s).length := by rw [HL.out]; exact hlt
      obtain ⟨b, hbb⟩ : ∃ b, s[k]'hlt = b := ⟨_, rfl⟩
      have hbl : (bys s)[k] = b := hbb
      have HBL := Lib.hid hbl
      have hsp := letter_spec b
      have HSP := Lib.hid hsp
      have hb256 := b.toNat_lt
      have hcc : (s[k]'hlt).toNat = b.toNat := by rw [hbb]
      clear hbl hsp hbb
      generalize hcb : b.toNat = c at hcc HSP hb256
      clear hcb
      by_cases hyes : (97 ≤ c ∧ c ≤ 122) ∨ (48 ≤ c ∧ c ≤ 57) ∨ c = 47 ∨ c = 46 ∨ c = 45
      · have HY := Lib.hid hyes
        have hfin : AllIs letterB ((bys s).take (k + 1)) := all_snoc _ _ k hkl HQ.out (by rw [HBL.out]; exact HSP.out.2 hyes)
        have HF := Lib.hid hfin
        clear hfin
        rcases hyes with ⟨h1, h2⟩ | ⟨h1, h2⟩ | h1 | h1 | h1
        all_goals
          go_wp2
          all_goals first
            | exact ⟨⟨k + 1, by omega, by go_num, HF.out⟩, by simp [intOf]; omega⟩
            | (exfalso; omega)
      · have hv := Lib.hid (show namedB (bys s) = false from by
          unfold namedB; rw [all_not _ _ k hkl (by rw [HBL.out]; exact Bool.eq_false_iff.2 fun h => hyes (HSP.out.1 h))]; simp)
        have n1 : ((c : Int) == 47) = false := by simp; omega
        have n2 : ((c : Int) == 46) = false := by simp; omega
        have n3 : ((c : Int) == 45) = false := by simp; omega
        have HY := Lib.hid hyes
        by_cases h1 : 97 ≤ c
        · have e1 : decide ((97 : Int) ≤ (c : Int)) = true := by simp; omega
          have e2 : decide ((c : Int) ≤ 122) = false := by simp; omega
          have e3 : decide ((48 : Int) ≤ (c : Int)) = true := by simp; omega
          have e4 : decide ((c : Int) ≤ 57) = false := by simp; omega
          clear hyes
          go_wp2
          go_ret
          exact ⟨by rw [hv.out]; rfl, rfl⟩
        · have e1 : decide ((97 : Int) ≤ (c : Int)) = false := by simp; omega
          by_cases h3 : 48 ≤ c
          · have e3 : decide ((48 : Int) ≤ (c : Int)) = true := by simp; omega
            have e4 : decide ((c : Int) ≤ 57) = false := by simp; omega
            clear hyes
            go_wp2
            go_ret
            exact ⟨by rw [hv.out]; rfl, rfl⟩
          · have e3 : decide ((48 : Int) ≤ (c : Int)) = false := by simp; omega
            clear hyes
            go_wp2
            go_ret
            exact ⟨by rw [hv.out]; rfl, rfl⟩
    · obtain rfl : k = s.size := by omega
      have hall : (bys s).all letterB = true := by
        have := HQ.out
        unfold AllIs at this
        rwa [List.take_of_length_le (by rw [HL.out]; exact Nat.le_refl _)] at this
      cases hls : bys s with
      | nil =>
        have h1 : s.toList = [] := by rw [ByteArray.toList_eq]; exact hls
        go_wp2
        go_ret
        exact ⟨rfl, rfl⟩
      | cons b r =>
        have h1 : s.toList = b :: r := by rw [ByteArray.toList_eq]; exact hls
        have h2 : s.toList.isEmpty = false := by rw [h1]; rfl
        have hv := Lib.hid (show namedB (bys s) = true from by unfold namedB; rw [hall, hls]; rfl)
        clear h1 hall hls
        go_wp2
        go_ret
        exact ⟨by rw [hv.out]; rfl, rfl⟩
theorem rdNum_err (l : List UInt8) (h : (rdNum l).2.2 ≠ 0) : (rdNum l).1 = 0 ∧ (rdNum l).2.1 = 0 := by
  cases l with
  | nil => exact ⟨rfl, rfl⟩
  | cons b r =>
    unfold rdNum at h ⊢
    simp only at h ⊢
    split at h
    · exact absurd rfl h
    · rename_i h1
      rw [if_neg h1]
      split at h
      · rename_i h2; rw [if_pos h2]; exact ⟨rfl, rfl⟩
      · rename_i h2
        rw [if_neg h2]
        split at h
        · rename_i h3; rw [if_pos h3]; exact ⟨rfl, rfl⟩
        · exact absurd rfl h
/-- What 'head' answers: as 'front' does; of an error that alone. -/
def HeadOk (f : Int × Int × Int) (w : World) (x : Ending) (w' : World) : Prop := ∃ n p : Int, x = .returned (.tuple #[.int .i64 n, .int .i64 p, .int .i64 f.2.2]) ∧ (f.2.2 = 0 → n = f.1 ∧ p = f.2.1) ∧ But (fun _ => False) w w'
set_option maxRecDepth 100000 in
set_option maxHeartbeats 2000000 in
theorem refHead_any (s : ByteArray) (w : World) (hl : s.size ≤ maxLen) : Calls Try.prog 35 #[.string s] w (HeadOk (frontE (bys s)) w) := by
  have hl' := hl
  unfold maxLen at hl'
  obtain ⟨l, hls⟩ : ∃ l, bys s = l := ⟨_, rfl⟩
  rw [hls]
  cases l with
  | nil =>
    have h0 : s.size = 0 := by rw [← bys_length, hls]; rfl
    clear hls
    go_enter Try.func35, Try.ntmps35
    go_wp2
    go_ret3
    exact ⟨_, _, rfl, fun h => absurd h (by decide), But.refl _ _⟩
  | cons b r =>
    obtain ⟨z0, z1, z2, z3⟩ := bys_cons hls
    have h0 : 0 < s.size := by omega
    have h0e : ((s.size : Int) == 0) = false := beq_eq_false_iff_ne.2 (by omega)
    obtain ⟨t, ht⟩ : ∃ t, s.extract 1 s.size = t := ⟨_, rfl⟩
    rw [ht] at z2 z3
    have htl : t.size ≤ maxLen := by unfold maxLen; omega
    have hrl : r.length ≤ 9223372036854775806 := by omega
    have s0 : s[0]'h0 = b := z1 h0
    have Z2 := Lib.hid z2
    have Z0 := Lib.hid z0
    clear z0 z1 z2 z3 hls
    by_cases e1 : b = 100
    · subst e1
      have C := refReadText_any t 1024
      rw [Z2.out] at C
      have hv : frontE (100 :: r) = if (rdText r 1024).2.2 = 0 then (1 + (rdText r 1024).2.1, 0, 0) else (0, 0, (rdText r 1024).2.2) := rfl
      have HV := Lib.hid hv
      clear hv
      obtain ⟨tx, k, e, hr⟩ : ∃ tx k e, rdText r 1024 = (tx, k, e) := ⟨_, _, _, rfl⟩
      rw [hr] at C HV
      have hf := rdText_facts r 1024 (by omega)
      rw [hr] at hf
      have hk : 0 ≤ k ∧ k ≤ 9223372036854775806 := ⟨hf.1, by have := hf.2.1; simp only at this; omega⟩
      clear hf
      have CC := Lib.hid (fun w => C w htl (by decide) (by decide))
      clear C hr
      go_enter Try.func35, Try.ntmps35
      go_wp2_with (go_at_call 37; refine (CC.out _).mono ?_; rintro _ w1 ⟨rfl, b1⟩)
      go_ret3
      refine ⟨1 + k, 0, ?_, ?_, b1⟩
      · rw [HV.out]
        by_cases he : e = 0
        · subst he; rfl
        · rw [if_neg he]; rfl
      · rw [HV.out]
        by_cases he : e = 0
        · subst he; exact fun _ => ⟨rfl, rfl⟩
        · rw [if_neg he]; exact fun h => absurd h he
    · have f1 := byte_ne b 100 (by decide) e1
      by_cases e2 : b = 97
      · subst e2
        have C := refReadText_any t 32
        rw [Z2.out] at C
        have hv : frontE (97 :: r) = if (rdText r 32).2.2 = 0 then (if namedB (rdText r 32).1 then (1 + (rdText r 32).2.1, 0, 0) else (0, 0, 7)) else (0, 0, (rdText r 32).2.2) := rfl
        have HV := Lib.hid hv
        clear hv e1
        obtain ⟨tx, k, e, hr⟩ : ∃ tx k e, rdText r 32 = (tx, k, e) := ⟨_, _, _, rfl⟩
        rw [hr] at C HV
        have hf := rdText_facts r 32 (by omega)
        rw [hr] at hf
        have hk : 0 ≤ k ∧ k ≤ 9223372036854775806 := ⟨hf.1, by have := hf.2.1; simp only at this; omega⟩
        have htx : (⟨tx.toArray⟩ : ByteArray).size ≤ maxLen := by
          have := hf.2.2.1
          simp only at this
          show tx.toArray.size ≤ maxLen
          unfold maxLen; rw [List.size_toArray]; omega
        have hN := refName_any ⟨tx.toArray⟩
        rw [show bys ⟨tx.toArray⟩ = tx from by simp [bys]] at hN
        have CN := Lib.hid (fun w => hN w htx)
        have CC := Lib.hid (fun w => C w htl (by decide) (by decide))
        clear C hr hf hN htx
        by_cases he : e = 0
        · subst he
          cases hq : namedB tx with
          | true =>
            rw [hq] at CN
            have HQ := Lib.hid hq
            clear hq
            go_enter Try.func35, Try.ntmps35
            go_wp2_with (first | (go_at_call 37; refine (CC.out _).mono ?_; rintro _ w1 ⟨rfl, b1⟩) | (go_at_call 38; refine (CN.out _).mono ?_; rintro _ w2 ⟨rfl, rfl⟩))
            go_ret3
            exact ⟨_, _, by rw [HV.out, if_pos (by trivial), HQ.out]; rfl, fun _ => by rw [HV.out, if_pos (by trivial), HQ.out]; exact ⟨rfl, rfl⟩, b1⟩
          | false =>
            rw [hq] at CN
            have HQ := Lib.hid hq
            clear hq
            go_enter Try.func35, Try.ntmps35
            go_wp2_with (first | (go_at_call 37; refine (CC.out _).mono ?_; rintro _ w1 ⟨rfl, b1⟩) | (go_at_call 38; refine (CN.out _).mono ?_; rintro _ w2 ⟨rfl, rfl⟩))
            go_ret3
            exact ⟨_, _, by rw [HV.out, if_pos (by trivial), HQ.out]; rfl, fun h => absurd h (by rw [HV.out, if_pos (by trivial), HQ.out]; simp), b1⟩
        · have HE := Lib.hid he
          have he0 : (e == 0) = false := by simpa using he
          clear he
          go_enter Try.func35, Try.ntmps35
          go_wp2_with (go_at_call 37; refine (CC.out _).mono ?_; rintro _ w1 ⟨rfl, b1⟩)
          go_ret3
          exact ⟨_, _, by rw [HV.out, if_neg HE.out]; rfl, fun h => absurd h (by rw [HV.out, if_neg HE.out]; exact HE.out), b1⟩
      · have f2 := byte_ne b 97 (by decide) e2
        by_cases e3 : b = 114
        · subst e3
          have C := refReadNum_any t
          rw [Z2.out] at C
          have hv : frontE (114 :: r) = if (rdNum r).2.2 = 0 then (if 32 < (rdNum r).1 then (0, 0, 5) else (1 + (rdNum r).2.1, (rdNum r).1, 0)) else (0, 0, (rdNum r).2.2) := rfl
          have HV := Lib.hid hv
          clear hv e1 e2
          obtain ⟨v, k, e, hr⟩ : ∃ v k e, rdNum r = (v, k, e) := ⟨_, _, _, rfl⟩
          rw [hr] at C HV
          have hf := rdNum_facts r (by omega)
          rw [hr] at hf
          simp only at hf
          have hze := rdNum_err r
          rw [hr] at hze
          simp only at hze
          have hk : 0 ≤ k ∧ k ≤ 9 := ⟨hf.2.2.1, hf.2.2.2.1⟩
          have hv0 : 0 ≤ v := hf.1
          have CC := Lib.hid (fun w => C w htl)
          clear C hr hf
          by_cases he : e = 0
          · subst he
            by_cases h32 : 32 < v
            · clear hze
              go_enter Try.func35, Try.ntmps35
              go_wp2_with (go_at_call 39; refine (CC.out _).mono ?_; rintro _ w1 ⟨rfl, b1⟩)
              go_ret3
              exact ⟨_, _, by rw [HV.out, if_pos (by trivial), if_pos h32]; rfl, fun h => absurd h (by rw [HV.out, if_pos (by trivial), if_pos h32]; decide), b1⟩
            · clear hze
              have hw1 : IntKind.i64.wrap v = v := IntWalk.i64_in _ (by omega)
              go_enter Try.func35, Try.ntmps35
              go_wp2_with (go_at_call 39; refine (CC.out _).mono ?_; rintro _ w1 ⟨rfl, b1⟩)
              go_ret3
              exact ⟨_, _, by rw [HV.out, if_pos (by trivial), if_neg (by omega)]; rfl, fun _ => by rw [HV.out, if_pos (by trivial), if_neg (by omega)]; exact ⟨rfl, rfl⟩, b1⟩
          · obtain ⟨rfl, rfl⟩ := hze he
            have HE := Lib.hid he
            have he0 : (e == 0) = false := by simpa using he
            clear he hze
            go_enter Try.func35, Try.ntmps35
            go_wp2_with (go_at_call 39; refine (CC.out _).mono ?_; rintro _ w1 ⟨rfl, b1⟩)
            go_ret3
            exact ⟨_, _, by rw [HV.out, if_neg HE.out]; rfl, fun h => absurd h (by rw [HV.out, if_neg HE.out]; exact HE.out), b1⟩
        · have f3 := byte_ne b 114 (by decide) e3
          by_cases e4 : b = 104
          · subst e4
            clear e1 e2 e3
            go_enter Try.func35, Try.ntmps35
            go_wp2
            go_ret3
            exact ⟨_, _, rfl, fun _ => ⟨rfl, rfl⟩, But.refl _ _⟩
          · have f4 := byte_ne b 104 (by decide) e4
            by_cases e5 : b = 109
            · subst e5
              clear e1 e2 e3 e4
              go_enter Try.func35, Try.ntmps35
              go_wp2
              go_ret3
              exact ⟨_, _, rfl, fun _ => ⟨rfl, rfl⟩, But.refl _ _⟩
            · have f5 := byte_ne b 109 (by decide) e5
              by_cases e6 : b = 115
              · subst e6
                clear e1 e2 e3 e4 e5
                go_enter Try.func35, Try.ntmps35
                go_wp2
                go_ret3
                exact ⟨_, _, rfl, fun _ => ⟨rfl, rfl⟩, But.refl _ _⟩
              · have f6 := byte_ne b 115 (by decide) e6
                have hv := Lib.hid (show frontE (b :: r) = (0, 0, 7) from by simp [frontE, e1, e2, e3, e4, e5, e6])
                clear e1 e2 e3 e4 e5 e6
                go_enter Try.func35, Try.ntmps35
                go_wp2
                go_ret3
                exact ⟨_, _, by rw [hv.out]; rfl, fun h => absurd h (by rw [hv.out]; decide), But.refl _ _⟩
theorem partsE_err (f : List UInt8 → Nat × Int) (l : List UInt8) : ∀ (p n : Nat), (partsE f l p n).2 ≠ 0 → (partsE f l p n).1 = 0
  | 0, n, h => absurd rfl h
  | p + 1, n, h => by
    unfold partsE at h ⊢
    split
    · rename_i h0; rw [if_pos h0] at h; exact partsE_err f l p _ h
    · rfl
theorem readE_err (d : Nat) (l : List UInt8) (h : (readE d l).2 ≠ 0) : (readE d l).1 = 0 := by
  cases d with
  | zero => rfl
  | succ d =>
    unfold readE at h ⊢
    split
    · rename_i h0; rw [if_pos h0] at h; exact partsE_err _ _ _ _ h
    · rfl
set_option maxRecDepth 100000 in
set_option maxHeartbeats 2000000 in
theorem refRead_any : ∀ (d : Nat) (hd : d ≤ 16) (s : ByteArray) (hl : s.size ≤ maxLen) (w : World),
    Calls Try.prog 29 #[.string s, .int .i64 (17 - d : Int)] w fun e w' => e = .returned (.tuple #[.int .i64 ((readE d (bys s)).1 : Nat), .int .i64 (readE d (bys s)).2]) ∧ But (fun _ => False) w w'
  | 0, _, s, hl, w => by
    have hv := Lib.hid (show readE 0 (bys s) = (0, 60) from rfl)
    go_enter Try.func29, Try.ntmps29
    go_wp2
    go_ret2
    exact ⟨by rw [hv.out]; rfl, But.refl _ _⟩
  | d + 1, hd, s, hl, w => by
    have IH := Lib.hid (refRead_any d (by omega))
    have hl' := hl
    unfold maxLen at hl'
    have HLEN := Lib.hid (bys_length s)
    have HSL := Lib.hid hl
    have C := refHead_any s w hl
    have hv : readE (d + 1) (bys s) = if (frontE (bys s)).2.2 = 0 then partsE (readE d) (bys s) (frontE (bys s)).2.1.toNat (frontE (bys s)).1.toNat else (0, (frontE (bys s)).2.2) := by rw [readE]
    have hf := frontE_facts (bys s) (by rw [HLEN.out]; omega)
    rw [HLEN.out] at hf
    obtain ⟨n, p, e, hr⟩ : ∃ n p e, frontE (bys s) = (n, p, e) := ⟨_, _, _, rfl⟩
    rw [hr] at C hv hf
    simp only at hf hv
    obtain ⟨n0, n1, p0, p1⟩ := hf
    obtain ⟨n, rfl⟩ := Int.eq_ofNat_of_zero_le n0
    obtain ⟨p, rfl⟩ := Int.eq_ofNat_of_zero_le p0
    simp only [Int.toNat_natCast] at hv
    have HV := Lib.hid hv
    have CC := Lib.hid C
    have hd17 : ((17 : Int) - ((d + 1 : Nat) : Int)) = 16 - (d : Int) := by omega
    have hwd : IntKind.i64.wrap (16 - (d : Int) + 1) = 17 - (d : Int) := by rw [IntWalk.i64_in _ (by omega)]; omega
    rw [hd17]
    clear hr hv C hd17 hl
    go_enter Try.func29, Try.ntmps29
    go_wp2_with fail
    refine CC.out.mono ?_
    rintro x w1 ⟨n', p', rfl, hok, b1⟩
    simp only at hok
    have B1 := Lib.hid b1
    clear b1 CC
    by_cases he : e = 0
    · subst he
      obtain ⟨rfl, rfl⟩ := hok rfl
      have HV2 := Lib.hid (show readE (d + 1) (bys s) = partsE (readE d) (bys s) p n from by rw [HV.out, if_pos (by trivial)])
      clear HV hok
      obtain ⟨wo, rfl⟩ : ∃ wo : World, wo = w1 := ⟨_, rfl⟩
      go_wp2
      go_loopw [6, 8, 9] (fun en er i wr => ∃ (j m : Nat) (x : Int), j ≤ p ∧ m ≤ s.size ∧ i = .int .i64 j ∧ en = .int .i64 (m : Int) ∧ er = .int .i64 x ∧ (x = 0 → partsE (readE d) (bys s) p n = partsE (readE d) (bys s) (p - j) m) ∧ (x ≠ 0 → partsE (readE d) (bys s) p n = (0, x)) ∧ But (fun _ => False) w wr) (fun _ _ i _ => p - (intOf i).toNat)
      case atStart => exact ⟨0, n, 0, Nat.zero_le _, by omega, rfl, rfl, rfl, fun _ => by rw [Nat.sub_zero], fun h => absurd rfl h, B1.out⟩
      case round =>
        obtain ⟨j, m, x, hj, hm, rfl, rfl, rfl, hq, hqe, hb⟩ := hrel
        have HQ := Lib.hid hq
        have HQE := Lib.hid hqe
        have HB := Lib.hid hb
        clear hq hqe hb
        by_cases hx : x = 0
        · subst hx
          by_cases hlt : j < p
          · obtain ⟨t, ht⟩ : ∃ t, s.extract m s.size = t := ⟨_, rfl⟩
            have htb : bys t = (bys s).drop m := by rw [← ht, bys_extract, List.take_of_length_le (by rw [HLEN.out]; exact Nat.le_refl _)]
            have htl : t.size ≤ maxLen := by rw [← bys_length, htb, List.length_drop, HLEN.out]; unfold maxLen; omega
            have ci := IH.out t htl wr
            rw [htb] at ci
            have hle := readE_le d ((bys s).drop m) (by rw [List.length_drop, HLEN.out]; omega)
            rw [List.length_drop, HLEN.out] at hle
            have herr := readE_err d ((bys s).drop m)
            have hstep : partsE (readE d) (bys s) (p - j) m = if (readE d ((bys s).drop m)).2 = 0 then partsE (readE d) (bys s) (p - (j + 1)) (m + (readE d ((bys s).drop m)).1) else (0, (readE d ((bys s).drop m)).2) := by
              rw [show p - j = (p - (j + 1)) + 1 by omega, partsE]
            generalize readE d ((bys s).drop m) = r at ci hle hstep herr
            obtain ⟨k, e⟩ := r
            simp only at ci hle hstep herr
            have CI := Lib.hid ci
            have HS := Lib.hid hstep
            have HE := Lib.hid herr
            clear ci hstep herr htb htl
            go_wp2_with (go_at_call 29; refine CI.out.mono ?_; rintro _ w2 ⟨rfl, b2⟩)
            exact ⟨⟨j + 1, m + k, e, by omega, by omega, by go_num, by go_num, rfl, fun h => by rw [HQ.out (by trivial), HS.out, if_pos h], fun h => by rw [HQ.out (by trivial), HS.out, if_neg h], HB.out.trans b2⟩, by simp [intOf]; omega⟩
          · obtain rfl : j = p := by omega
            go_wp2
            go_ret2
            exact ⟨by rw [HV2.out, HQ.out (by trivial), Nat.sub_self, partsE]; rfl, HB.out⟩
        · have hx0 : (x == 0) = false := by simpa using hx
          have HX := Lib.hid hx
          clear hx
          by_cases hlt : j < p
          · go_wp2
            go_ret2
            exact ⟨by rw [HV2.out, HQE.out HX.out]; rfl, HB.out⟩
          · obtain rfl : j = p := by omega
            go_wp2
            go_ret2
            exact ⟨by rw [HV2.out, HQE.out HX.out]; rfl, HB.out⟩
    · have he0 : (e == 0) = false := by simpa using he
      have HE := Lib.hid he
      clear he hok
      go_wp2
      go_loopw [6, 8, 9] (fun en er i wr => i = .int .i64 0 ∧ en = .int .i64 n' ∧ er = .int .i64 e ∧ But (fun _ => False) w wr) (fun _ _ i _ => 0)
      case atStart => exact ⟨rfl, rfl, rfl, B1.out⟩
      case round =>
        obtain ⟨rfl, rfl, rfl, hb⟩ := hrel
        have HB := Lib.hid hb
        clear hb
        by_cases hlt : 0 < p'
        · go_wp2
          go_ret2
          exact ⟨by rw [HV.out, if_neg HE.out]; rfl, HB.out⟩
        · go_wp2
          go_ret2
          exact ⟨by rw [HV.out, if_neg HE.out]; rfl, HB.out⟩
set_option maxHeartbeats 1000000 in
theorem refTop_any (s : ByteArray) (w : World) (hl : s.size ≤ maxLen) : Calls Try.prog 26 #[.string s] w fun e w' => e = .returned (.tuple #[.int .i64 ((topE (bys s)).1 : Nat), .int .i64 (topE (bys s)).2]) ∧ But (fun _ => False) w w' := by
  have C := refRead_any 16 (Nat.le_refl _) s hl w
  have hv : topE (bys s) = if (readE 16 (bys s)).2 = 0 then (if 16384 < (readE 16 (bys s)).1 then (0, 5) else ((readE 16 (bys s)).1, 0)) else (0, (readE 16 (bys s)).2) := rfl
  generalize readE 16 (bys s) = r at C hv
  obtain ⟨n, e⟩ := r
  simp only at C hv
  rw [show ((17 : Int) - (16 : Nat)) = 1 from rfl] at C
  have CC := Lib.hid C
  have HV := Lib.hid hv
  clear C hv
  by_cases he : e = 0
  · subst he
    by_cases h5 : 16384 < n
    · go_enter Try.func26, Try.ntmps26
      go_wp2_with (go_at_call 29; refine CC.out.mono ?_; rintro _ w1 ⟨rfl, b1⟩)
      go_ret2
      exact ⟨by rw [HV.out, if_pos (by trivial), if_pos h5]; rfl, b1⟩
    · go_enter Try.func26, Try.ntmps26
      go_wp2_with (go_at_call 29; refine CC.out.mono ?_; rintro _ w1 ⟨rfl, b1⟩)
      go_ret2
      exact ⟨by rw [HV.out, if_pos (by trivial), if_neg (by omega)]; rfl, b1⟩
  · have he0 : (e == 0) = false := by simpa using he
    have he1 : (e != 0) = true := by simpa using he
    have HE := Lib.hid he
    clear he
    go_enter Try.func26, Try.ntmps26
    go_wp2_with (go_at_call 29; refine CC.out.mono ?_; rintro _ w1 ⟨rfl, b1⟩)
    go_ret2
    exact ⟨by rw [HV.out, if_neg HE.out]; rfl, b1⟩
set_option maxHeartbeats 1000000 in
/-- The document's Check says what term.Check says. -/
theorem refCheck_any (s : ByteArray) (w : World) (hl : s.size ≤ maxLen) : Calls Try.prog 17 #[.string s] w fun e w' => e = .returned (.int .i64 (termE (bys s))) ∧ But (fun _ => False) w w' := by
  have C := refTop_any s w hl
  have hv : termE (bys s) = if (topE (bys s)).2 = 0 ∧ (topE (bys s)).1 ≠ s.size then 7 else (topE (bys s)).2 := by unfold termE; rw [bys_length]
  unfold maxLen at hl
  generalize topE (bys s) = r at C hv
  obtain ⟨n, e⟩ := r
  simp only at C hv
  have CC := Lib.hid C
  have HV := Lib.hid hv
  clear C hv
  by_cases he : e = 0
  · subst he
    by_cases hn : n = s.size
    · have h2 : ((n : Int) != (s.size : Int)) = false := by simp [hn]
      have HN := Lib.hid hn
      clear hn
      go_enter Try.func17, Try.ntmps17
      go_wp2_with (go_at_call 26; refine CC.out.mono ?_; rintro _ w1 ⟨rfl, b1⟩)
      go_ret
      exact ⟨by rw [HV.out, if_neg (by intro h; exact h.2 HN.out)]; rfl, b1⟩
    · have h2 : ((n : Int) != (s.size : Int)) = true := by simp; omega
      have HN := Lib.hid hn
      clear hn
      go_enter Try.func17, Try.ntmps17
      go_wp2_with (go_at_call 26; refine CC.out.mono ?_; rintro _ w1 ⟨rfl, b1⟩)
      go_ret
      exact ⟨by rw [HV.out, if_pos ⟨by trivial, HN.out⟩]; rfl, b1⟩
  · have he0 : (e == 0) = false := by simpa using he
    have he1 : (e != 0) = true := by simpa using he
    have HE := Lib.hid he
    clear he
    go_enter Try.func17, Try.ntmps17
    go_wp2_with (go_at_call 26; refine CC.out.mono ?_; rintro _ w1 ⟨rfl, b1⟩)
    go_ret
    exact ⟨by rw [HV.out, if_neg (by intro h; exact HE.out h.1)]; rfl, b1⟩
end Go.Proofs.Ytimhejjdgncdaaa
