/- Which texts are terms: term.Check, with all that it throws and catches. -/
import Derived.Test.YtimhejjdgncdaaaNamed
import Derived.Defers
import Derived.Recover
namespace Go.Proofs.Ytimhejjdgncdaaa
open Go.RowKit
set_option linter.unusedVariables false
set_option linter.unusedSimpArgs false

/-- What ends a reading. -/
def thrown (e : Int) : List PanicEntry := [{ v := .iface 65 (.agg #[.int .i64 e]), recovered := false }]
theorem must_ok (w : World) : Calls Try.prog 34 #[.int .i64 0] w fun e w' => e = .returned (.tuple #[]) ∧ w' = w := by
  go_enter Try.func34, Try.ntmps34
  go_wp2
  go_end0
  exact ⟨rfl, rfl⟩
theorem must_no (n : Int) (h : n ≠ 0) (w : World) : Calls Try.prog 34 #[.int .i64 n] w fun e w' => e = .panicked (thrown n) ∧ w' = w := by
  have h1 : (n == 0) = false := by simpa using h
  have h2 : (n != 0) = true := by simpa using h
  clear h
  go_enter Try.func34, Try.ntmps34
  go_wp2
  exact ⟨rfl, rfl, rfl⟩

theorem rdText_facts (l : List UInt8) (m : Int) (hl : l.length ≤ 9223372036854775807) : 0 ≤ (rdText l m).2.1 ∧ (rdText l m).2.1 ≤ l.length ∧ (rdText l m).1.length ≤ l.length ∧ ((rdText l m).2.2 = 0 → 1 ≤ (rdText l m).2.1) ∧ ((rdText l m).2.2 = 0 ∨ (rdText l m).2.2 = 5 ∨ (rdText l m).2.2 = 6 ∨ (rdText l m).2.2 = 7) := by
  obtain ⟨h1, h2, h3, h4, h5, h6, h7⟩ := rdNum_facts l hl
  unfold rdText
  split
  · rename_i h; exact ⟨by simp, by simp, by simp, fun h0 => absurd h0 h, by simp only; omega⟩
  · rename_i h
    have h7' := h7 (by omega)
    split
    · exact ⟨by simp, by simp, by simp, fun h0 => absurd h0 (by simp), by simp⟩
    · split
      · exact ⟨by simp, by simp, by simp, fun h0 => absurd h0 (by simp), by simp⟩
      · exact ⟨by simp only; omega, by simp only; omega, by simp only [List.length_take, List.length_drop]; omega, fun _ => by simp only; omega, .inl rfl⟩
/-- What stands ahead of a term's parts, and how many these are; an error. -/
def frontE (l : List UInt8) : Int × Int × Int :=
  match l with
  | [] => (0, 0, 6)
  | b :: r =>
    if b = 100 then (if (rdText r 1024).2.2 = 0 then (1 + (rdText r 1024).2.1, 0, 0) else (0, 0, (rdText r 1024).2.2))
    else if b = 97 then (if (rdText r 32).2.2 = 0 then (if namedB (rdText r 32).1 then (1 + (rdText r 32).2.1, 0, 0) else (0, 0, 7)) else (0, 0, (rdText r 32).2.2))
    else if b = 114 then (if (rdNum r).2.2 = 0 then (if 32 < (rdNum r).1 then (0, 0, 5) else (1 + (rdNum r).2.1, (rdNum r).1, 0)) else (0, 0, (rdNum r).2.2))
    else if b = 104 then (1, 1, 0)
    else if b = 109 then (1, 2, 0)
    else if b = 115 then (1, 3, 0)
    else (0, 0, 7)
/-- How it comes back. -/
def Comes_ (n p e : Int) (w : World) (x : Ending) (w' : World) : Prop := ((e = 0 ∧ x = .returned (.tuple #[.int .i64 n, .int .i64 p])) ∨ (e ≠ 0 ∧ x = .panicked (thrown e))) ∧ But (fun _ => False) w w'
theorem byte_ne (b : UInt8) (k : Nat) (hk : k < 256) (h : b ≠ UInt8.ofNat k) : ((b.toNat : Int) == (k : Int)) = false := by
  have : b.toNat ≠ k := fun e => h (UInt8.toNat_inj.1 (by simp [e]; omega))
  simp; omega
set_option maxRecDepth 100000 in
set_option maxHeartbeats 2000000 in
theorem front_any (s : ByteArray) (w : World) (hl : s.size ≤ maxLen) : Calls Try.prog 36 #[.string s] w (Comes_ (frontE (bys s)).1 (frontE (bys s)).2.1 (frontE (bys s)).2.2 w) := by
  have hl' := hl
  unfold maxLen at hl'
  obtain ⟨l, hls⟩ : ∃ l, bys s = l := ⟨_, rfl⟩
  rw [hls]
  have M0 := Lib.hid must_ok
  have M1 := Lib.hid must_no
  cases l with
  | nil =>
    have h0 : s.size = 0 := by rw [← bys_length, hls]; rfl
    have h1 : s.toList.isEmpty = true := by rw [ByteArray.toList_eq]; show (bys s).isEmpty = true; rw [hls]; rfl
    have h2 : s.toList = [] := by simpa using h1
    clear hls
    go_enter Try.func36, Try.ntmps36
    go_wp2_with (go_at_call 34; refine (M1.out 6 (by decide) _).mono ?_; rintro e w' ⟨rfl, rfl⟩)
    exact ⟨rfl, .inr ⟨by decide, rfl⟩, But.refl _ _⟩
  | cons b r =>
    obtain ⟨z0, z1, z2, z3⟩ := bys_cons hls
    have h1 : s.toList.isEmpty = false := by rw [ByteArray.toList_eq]; show (bys s).isEmpty = false; rw [hls]; rfl
    have h0 : 0 < s.size := by omega
    obtain ⟨t, ht⟩ : ∃ t, s.extract 1 s.size = t := ⟨_, rfl⟩
    rw [ht] at z2 z3
    have htl : t.size ≤ maxLen := by unfold maxLen; omega
    have hrl : r.length ≤ 9223372036854775806 := by omega
    have hT := ht
    have Z0 := Lib.hid z0
    have Z2 := Lib.hid z2
    have Z3 := Lib.hid z3
    clear z0 z2 z3 hls ht
    by_cases e1 : b = 100
    · subst e1
      have C := ReadText_any t 1024
      rw [Z2.out] at C
      have hv : frontE (100 :: r) = if (rdText r 1024).2.2 = 0 then (1 + (rdText r 1024).2.1, 0, 0) else (0, 0, (rdText r 1024).2.2) := rfl
      have HV := Lib.hid hv
      clear hv
      obtain ⟨tx, k, e, hr⟩ : ∃ tx k e, rdText r 1024 = (tx, k, e) := ⟨_, _, _, rfl⟩
      rw [hr] at C HV
      have hf := rdText_facts r 1024 (by omega)
      rw [hr] at hf
      have hk : 0 ≤ k ∧ k ≤ 9223372036854775806 := ⟨hf.1, by have := hf.2.1; simp only at this; omega⟩
      clear hf
      have CC := Lib.hid (fun w => C w htl (by decide) (by decide))
      clear C hr
      by_cases he : e = 0
      · subst he
        go_enter Try.func36, Try.ntmps36
        go_wp2_with (first | (go_at_call 40; refine (CC.out _).mono ?_; rintro e w' ⟨rfl, rfl⟩) | (go_at_call 34; refine (M0.out _).mono ?_; rintro e w' ⟨rfl, rfl⟩))
        go_ret2
        exact ⟨.inl ⟨by rw [HV.out]; rfl, by rw [HV.out]; rfl⟩, But.refl _ _⟩
      · have HE := Lib.hid he
        clear he
        go_enter Try.func36, Try.ntmps36
        go_wp2_with (first | (go_at_call 40; refine (CC.out _).mono ?_; rintro e w' ⟨rfl, rfl⟩) | (go_at_call 34; refine (M1.out _ HE.out _).mono ?_; rintro e w' ⟨rfl, rfl⟩))
        exact ⟨rfl, .inr ⟨by rw [HV.out, if_neg HE.out]; exact HE.out, by rw [HV.out, if_neg HE.out]⟩, But.refl _ _⟩
    · by_cases e2 : b = 97
      · subst e2
        have C := ReadText_any t 32
        rw [Z2.out] at C
        have hv : frontE (97 :: r) = if (rdText r 32).2.2 = 0 then (if namedB (rdText r 32).1 then (1 + (rdText r 32).2.1, 0, 0) else (0, 0, 7)) else (0, 0, (rdText r 32).2.2) := rfl
        have HV := Lib.hid hv
        clear hv e1
        obtain ⟨tx, k, e, hr⟩ : ∃ tx k e, rdText r 32 = (tx, k, e) := ⟨_, _, _, rfl⟩
        rw [hr] at C HV
        have hf := rdText_facts r 32 (by omega)
        rw [hr] at hf
        have hk : 0 ≤ k ∧ k ≤ 9223372036854775806 := ⟨hf.1, by have := hf.2.1; simp only at this; omega⟩
        have htx : (⟨tx.toArray⟩ : ByteArray).size ≤ maxLen := by
          have := hf.2.2.1
          simp only at this
          show tx.toArray.size ≤ maxLen
          unfold maxLen; rw [List.size_toArray]; omega
        have hN := named_any ⟨tx.toArray⟩
        rw [show bys ⟨tx.toArray⟩ = tx from by simp [bys]] at hN
        have CN := Lib.hid (fun w => hN w htx)
        have CC := Lib.hid (fun w => C w htl (by decide) (by decide))
        clear C hr hf hN htx
        by_cases he : e = 0
        · subst he
          cases hq : namedB tx with
          | true =>
            rw [hq] at CN
            have HQ := Lib.hid hq
            clear hq
            go_enter Try.func36, Try.ntmps36
            go_wp2_with (first | (go_at_call 40; refine (CC.out _).mono ?_; rintro e w' ⟨rfl, rfl⟩) | (go_at_call 41; refine (CN.out _).mono ?_; rintro e w' ⟨rfl, b3⟩) | (go_at_call 34; refine (M0.out _).mono ?_; rintro e w' ⟨rfl, rfl⟩))
            go_ret2
            exact ⟨.inl ⟨by rw [HV.out, if_pos (by trivial), HQ.out]; rfl, by rw [HV.out, if_pos (by trivial), HQ.out]; rfl⟩, b3⟩
          | false =>
            rw [hq] at CN
            have HQ := Lib.hid hq
            clear hq
            go_enter Try.func36, Try.ntmps36
            go_wp2_with fail
            refine (CC.out _).mono ?_
            rintro e w' ⟨rfl, rfl⟩
            go_wp2_with fail
            refine (M0.out _).mono ?_
            rintro e w' ⟨rfl, rfl⟩
            go_wp2_with fail
            refine (CN.out _).mono ?_
            rintro e w' ⟨rfl, b3⟩
            go_wp2_with fail
            refine (M1.out 7 (by decide) _).mono ?_
            rintro e w' ⟨rfl, rfl⟩
            exact ⟨rfl, .inr ⟨by rw [HV.out, if_pos (by trivial), HQ.out]; simp, by rw [HV.out, if_pos (by trivial), HQ.out]; rfl⟩, b3⟩
        · have HE := Lib.hid he
          clear he
          go_enter Try.func36, Try.ntmps36
          go_wp2_with (first | (go_at_call 40; refine (CC.out _).mono ?_; rintro e w' ⟨rfl, rfl⟩) | (go_at_call 34; refine (M1.out _ HE.out _).mono ?_; rintro e w' ⟨rfl, rfl⟩))
          exact ⟨rfl, .inr ⟨by rw [HV.out, if_neg HE.out]; exact HE.out, by rw [HV.out, if_neg HE.out]⟩, But.refl _ _⟩
      · by_cases e3 : b = 114
        · subst e3
          have C := ReadNum_any t
          rw [Z2.out] at C
          have hv : frontE (114 :: r) = if (rdNum r).2.2 = 0 then (if 32 < (rdNum r).1 then (0, 0, 5) else (1 + (rdNum r).2.1, (rdNum r).1, 0)) else (0, 0, (rdNum r).2.2) := rfl
          have HV := Lib.hid hv
          clear hv e1 e2
          obtain ⟨v, k, e, hr⟩ : ∃ v k e, rdNum r = (v, k, e) := ⟨_, _, _, rfl⟩
          rw [hr] at C HV
          have hf := rdNum_facts r (by omega)
          rw [hr] at hf
          simp only at hf
          have hk : 0 ≤ k ∧ k ≤ 9 := ⟨hf.2.2.1, hf.2.2.2.1⟩
          have hv0 : 0 ≤ v := hf.1
          have CC := Lib.hid (fun w => C w htl)
          clear C hr hf
          by_cases he : e = 0
          · subst he
            by_cases h32 : 32 < v
            · skip
              go_enter Try.func36, Try.ntmps36
              go_wp2_with fail
              refine (CC.out _).mono ?_
              rintro e w' ⟨rfl, rfl⟩
              go_wp2_with fail
              refine (M0.out _).mono ?_
              rintro e w' ⟨rfl, rfl⟩
              go_wp2_with fail
              refine (M1.out 5 (by decide) _).mono ?_
              rintro e w' ⟨rfl, rfl⟩
              exact ⟨rfl, .inr ⟨by rw [HV.out, if_pos (by trivial), if_pos h32]; decide, by rw [HV.out, if_pos (by trivial), if_pos h32]⟩, But.refl _ _⟩
            · skip
              go_enter Try.func36, Try.ntmps36
              go_wp2_with (first | (go_at_call 42; refine (CC.out _).mono ?_; rintro e w' ⟨rfl, rfl⟩) | (go_at_call 34; refine (M0.out _).mono ?_; rintro e w' ⟨rfl, rfl⟩))
              go_ret2
              exact ⟨.inl ⟨by rw [HV.out, if_pos (by trivial), if_neg (by omega)], by rw [HV.out, if_pos (by trivial), if_neg (by omega)]; rfl⟩, But.refl _ _⟩
          · have HE := Lib.hid he
            clear he
            go_enter Try.func36, Try.ntmps36
            go_wp2_with (first | (go_at_call 42; refine (CC.out _).mono ?_; rintro e w' ⟨rfl, rfl⟩) | (go_at_call 34; refine (M1.out _ HE.out _).mono ?_; rintro e w' ⟨rfl, rfl⟩))
            exact ⟨rfl, .inr ⟨by rw [HV.out, if_neg HE.out]; exact HE.out, by rw [HV.out, if_neg HE.out]⟩, But.refl _ _⟩
        · by_cases e4 : b = 104
          · subst e4
            clear e1 e2 e3
            go_enter Try.func36, Try.ntmps36
            go_wp2
            go_ret2
            exact ⟨.inl ⟨rfl, rfl⟩, But.refl _ _⟩
          · by_cases e5 : b = 109
            · subst e5
              clear e1 e2 e3 e4
              go_enter Try.func36, Try.ntmps36
              go_wp2
              go_ret2
              exact ⟨.inl ⟨rfl, rfl⟩, But.refl _ _⟩
            · by_cases e6 : b = 115
              · subst e6
                clear e1 e2 e3 e4 e5
                go_enter Try.func36, Try.ntmps36
                go_wp2
                go_ret2
                exact ⟨.inl ⟨rfl, rfl⟩, But.refl _ _⟩
              · have hv := Lib.hid (show frontE (b :: r) = (0, 0, 7) from by simp [frontE, e1, e2, e3, e4, e5, e6])
                have f1 := byte_ne b 100 (by decide) e1
                have f2 := byte_ne b 97 (by decide) e2
                have f3 := byte_ne b 114 (by decide) e3
                have f4 := byte_ne b 104 (by decide) e4
                have f5 := byte_ne b 109 (by decide) e5
                have f6 := byte_ne b 115 (by decide) e6
                clear e1 e2 e3 e4 e5 e6
                go_enter Try.func36, Try.ntmps36
                go_wp2_with fail
                refine (M1.out 7 (by decide) _).mono ?_
                rintro e w' ⟨rfl, rfl⟩
                exact ⟨rfl, .inr ⟨by rw [hv.out]; decide, by rw [hv.out]⟩, But.refl _ _⟩
/-- A term's parts, read one behind the other from n on. -/
def partsE (f : List UInt8 → Nat × Int) (l : List UInt8) : Nat → Nat → Nat × Int
  | 0, n => (n, 0)
  | p + 1, n => if (f (l.drop n)).2 = 0 then partsE f l p (n + (f (l.drop n)).1) else (0, (f (l.drop n)).2)
/-- The term at the front, with so many levels left: how many bytes, and an error. -/
def readE : Nat → List UInt8 → Nat × Int
  | 0, _ => (0, 60)
  | d + 1, l => if (frontE l).2.2 = 0 then partsE (readE d) l (frontE l).2.1.toNat (frontE l).1.toNat else (0, (frontE l).2.2)
theorem frontE_facts (l : List UInt8) (hl : l.length ≤ 9223372036854775807) : 0 ≤ (frontE l).1 ∧ (frontE l).1 ≤ l.length ∧ 0 ≤ (frontE l).2.1 ∧ (frontE l).2.1 ≤ 32 := by
  cases l with
  | nil => exact ⟨by decide, by decide, by decide, by decide⟩
  | cons b r =>
    have hr : r.length ≤ 9223372036854775807 := by simp only [List.length_cons] at hl; omega
    obtain ⟨a1, a2, a3, a4, a5⟩ := rdText_facts r 1024 hr
    obtain ⟨b1, b2, b3, b4, b5⟩ := rdText_facts r 32 hr
    obtain ⟨c1, c2, c3, c4, c5, c6, c7⟩ := rdNum_facts r hr
    unfold frontE
    simp only [List.length_cons]
    repeat' split
    all_goals (refine ⟨?_, ?_, ?_, ?_⟩ <;> simp only <;> omega)
theorem partsE_le (f : List UInt8 → Nat × Int) (l : List UInt8) (hf : ∀ m, (f m).2 = 0 → (f m).1 ≤ m.length) : ∀ (p n : Nat), n ≤ l.length → (partsE f l p n).1 ≤ l.length
  | 0, n, h => h
  | p + 1, n, h => by
    unfold partsE
    split
    · rename_i h0
      have := hf _ h0
      rw [List.length_drop] at this
      exact partsE_le f l hf p _ (by omega)
    · exact Nat.zero_le _
theorem readE_le : ∀ (d : Nat) (l : List UInt8), l.length ≤ 9223372036854775807 → (readE d l).1 ≤ l.length
  | 0, l, _ => Nat.zero_le _
  | d + 1, l, hl => by
    have hf := frontE_facts l hl
    unfold readE
    split
    · have key : ∀ (p n : Nat), n ≤ l.length → (partsE (readE d) l p n).1 ≤ l.length := by
        intro p
        induction p with
        | zero => intro n h; exact h
        | succ p ih =>
          intro n h
          unfold partsE
          split
          · have := readE_le d (l.drop n) (by rw [List.length_drop]; omega)
            rw [List.length_drop] at this
            exact ih _ (by omega)
          · exact Nat.zero_le _
      exact key _ _ (by omega)
    · exact Nat.zero_le _
/-- How a walk ends. -/
def Walks (n : Int) (e : Int) (w : World) (x : Ending) (w' : World) : Prop := ((e = 0 ∧ x = .returned (.int .i64 n)) ∨ (e ≠ 0 ∧ x = .panicked (thrown e))) ∧ But (fun _ => False) w w'
theorem tell_any (a b c : Value) (w : World) : Calls Try.prog 33 #[a, b, c] w fun e w' => e = .returned (.tuple #[]) ∧ w' = w := by
  go_enter Try.func33, Try.ntmps33
  go_wp2
  go_end0
  exact ⟨rfl, rfl⟩
set_option maxRecDepth 100000 in
set_option maxHeartbeats 2000000 in
theorem walk_any (s : ByteArray) (hl : s.size ≤ maxLen) : ∀ (d : Nat) (hd : d ≤ 16) (at_ : Nat) (hat : at_ ≤ s.size) (w : World),
    Calls Try.prog 32 #[.string s, .int .i64 at_, .int .i64 (17 - d : Int), .func (.func 33) #[] #[]] w (Walks ((at_ : Int) + (readE d ((bys s).drop at_)).1) (readE d ((bys s).drop at_)).2 w)
  | 0, _, at_, hat, w => by
    have M1 := Lib.hid must_no
    have hv := Lib.hid (show readE 0 ((bys s).drop at_) = (0, 60) from rfl)
    go_enter Try.func32, Try.ntmps32
    go_wp2_with fail
    refine (M1.out 60 (by decide) _).mono ?_
    rintro e w' ⟨rfl, rfl⟩
    exact ⟨rfl, .inr ⟨by rw [hv.out]; decide, by rw [hv.out]⟩, But.refl _ _⟩
  | d + 1, hd, at_, hat, w => by
    have IH := Lib.hid (walk_any s hl d (by omega))
    have hl' := hl
    unfold maxLen at hl'
    have hlen := Lib.hid (bys_length s)
    obtain ⟨t, ht⟩ : ∃ t, s.extract at_ s.size = t := ⟨_, rfl⟩
    have htb : bys t = (bys s).drop at_ := by rw [← ht, bys_extract, List.take_of_length_le (by rw [hlen.out]; exact Nat.le_refl _)]
    have htl : t.size ≤ maxLen := by rw [← bys_length, htb, List.length_drop, hlen.out]; unfold maxLen; omega
    have C := front_any t w htl
    rw [htb] at C
    have hv : readE (d + 1) ((bys s).drop at_) = if (frontE ((bys s).drop at_)).2.2 = 0 then partsE (readE d) ((bys s).drop at_) (frontE ((bys s).drop at_)).2.1.toNat (frontE ((bys s).drop at_)).1.toNat else (0, (frontE ((bys s).drop at_)).2.2) := by rw [readE]
    have hf := frontE_facts ((bys s).drop at_) (by rw [List.length_drop, hlen.out]; omega)
    rw [List.length_drop, hlen.out] at hf
    obtain ⟨n, p, e, hr⟩ : ∃ n p e, frontE ((bys s).drop at_) = (n, p, e) := ⟨_, _, _, rfl⟩
    rw [hr] at C hv hf
    simp only at hf C hv
    obtain ⟨n0, n1, p0, p1⟩ := hf
    obtain ⟨n, rfl⟩ := Int.eq_ofNat_of_zero_le n0
    obtain ⟨p, rfl⟩ := Int.eq_ofNat_of_zero_le p0
    simp only [Int.toNat_natCast] at hv
    have HV := Lib.hid hv
    have CC := Lib.hid C
    have hx := ht
    have hd17 : ((17 : Int) - ((d + 1 : Nat) : Int)) = 16 - (d : Int) := by omega
    rw [hd17]
    clear hr hv C ht htb htl hd17
    go_enter Try.func32, Try.ntmps32
    go_wp2_with fail
    refine CC.out.mono ?_
    rintro x w1 ⟨⟨he, rfl⟩ | ⟨he, rfl⟩, b1⟩
    · subst he
      have hv : readE (d + 1) ((bys s).drop at_) = partsE (readE d) ((bys s).drop at_) p n := by rw [HV.out, if_pos (by trivial)]
      have HV2 := Lib.hid hv
      have B1 := Lib.hid b1
      clear hv HV CC b1 hx
      obtain ⟨wo, rfl⟩ : ∃ wo : World, wo = w1 := ⟨_, rfl⟩
      go_wp2
      go_loopw [11, 26] (fun en i wr => ∃ j m : Nat, j ≤ p ∧ at_ + m ≤ s.size ∧ i = .int .i64 j ∧ en = .int .i64 ((at_ : Int) + m) ∧ partsE (readE d) ((bys s).drop at_) p n = partsE (readE d) ((bys s).drop at_) (p - j) m ∧ But (fun _ => False) w wr) (fun _ i _ => p - (intOf i).toNat)
      case atStart => exact ⟨0, n, Nat.zero_le _, by omega, rfl, rfl, by rw [Nat.sub_zero], B1.out⟩
      case round =>
        obtain ⟨j, m, hj, hm, rfl, rfl, hq, hb⟩ := hrel
        have HQ := Lib.hid hq
        have HB := Lib.hid hb
        clear hq hb
        by_cases hlt : j < p
        · have ci := IH.out (at_ + m) (by omega) wr
          have hle := readE_le d ((bys s).drop (at_ + m)) (by rw [List.length_drop, hlen.out]; omega)
          rw [List.length_drop, hlen.out] at hle
          have hstep : partsE (readE d) ((bys s).drop at_) (p - j) m = if (readE d ((bys s).drop (at_ + m))).2 = 0 then partsE (readE d) ((bys s).drop at_) (p - (j + 1)) (m + (readE d ((bys s).drop (at_ + m))).1) else (0, (readE d ((bys s).drop (at_ + m))).2) := by
            rw [show p - j = (p - (j + 1)) + 1 by omega, partsE, List.drop_drop]
          rw [show ((at_ + m : Nat) : Int) = (at_ : Int) + m by omega, show ((17 : Int) - d) = 16 - d + 1 by omega] at ci
          generalize readE d ((bys s).drop (at_ + m)) = r at ci hle hstep
          obtain ⟨k, e⟩ := r
          simp only at ci hle hstep
          have CI := Lib.hid ci
          have HS := Lib.hid hstep
          clear ci hstep
          go_wp2_with fail
          refine CI.out.mono ?_
          rintro x w2 ⟨⟨he, rfl⟩ | ⟨he, rfl⟩, b2⟩
          · subst he
            have HB2 := Lib.hid (HB.out.trans b2)
            clear b2
            go_wp2
            exact ⟨⟨j + 1, m + k, by omega, by omega, by go_num, by rw [Int.natCast_add, Int.add_assoc], by rw [HQ.out, HS.out, if_pos (by trivial)], HB2.out⟩, by simp [intOf]; omega⟩
          · have HE := Lib.hid he
            exact ⟨rfl, .inr ⟨by rw [HV2.out, HQ.out, HS.out, if_neg HE.out]; exact HE.out, by rw [HV2.out, HQ.out, HS.out, if_neg HE.out]⟩, HB.out.trans b2⟩
        · obtain rfl : j = p := by omega
          go_wp2_with (go_at_call 33; refine (tell_any _ _ _ _).mono ?_; rintro e w' ⟨rfl, rfl⟩)
          go_ret
          exact ⟨.inl ⟨by rw [HV2.out, HQ.out, Nat.sub_self, partsE], by rw [HV2.out, HQ.out, Nat.sub_self, partsE]; rfl⟩, HB.out⟩
    · exact ⟨rfl, .inr ⟨by rw [HV.out, if_neg he]; exact he, by rw [HV.out, if_neg he]⟩, b1⟩
end Go.Proofs.Ytimhejjdgncdaaa
