/- Numbers and texts as bytes are read: octet.ReadNum, octet.ReadText. -/
import Derived.Test.YtimhejjdgncdaaaProg
import Derived.Test.YtimhejjdgncdaaaBase
import Derived.Lib.Hide
import Derived.IntWalk
import Derived.Laws.BitsAllLaws
namespace Go.Proofs.Ytimhejjdgncdaaa
open Go.RowKit
set_option linter.unusedVariables false
set_option linter.unusedSimpArgs false

/-- A string's bytes. -/
def bys (s : ByteArray) : List UInt8 := s.data.toList
theorem bys_length (s : ByteArray) : (bys s).length = s.size := Array.length_toList
theorem bys_inj {s t : ByteArray} (h : bys s = bys t) : s = t := by
  obtain ⟨⟨a⟩⟩ := s; obtain ⟨⟨b⟩⟩ := t
  simp only [bys] at h; subst h; rfl
theorem bys_extract (s : ByteArray) (a b : Nat) : bys (s.extract a b) = ((bys s).take b).drop a := by
  simp [bys, ByteArray.data_extract, List.extract_eq_take_drop, List.drop_take]
theorem bys_get (s : ByteArray) (i : Nat) (h : i < s.size) : s[i]'h = (bys s)[i]'(by rw [bys_length]; exact h) := rfl
theorem bys_cons {s : ByteArray} {b : UInt8} {r : List UInt8} (h : bys s = b :: r) : s.size = r.length + 1 ∧ (∀ h0, s[0]'h0 = b) ∧ bys (s.extract 1 s.size) = r ∧ (s.extract 1 s.size).size = r.length := by
  have hl := bys_length s
  rw [h] at hl
  have he : bys (s.extract 1 s.size) = r := by rw [bys_extract, h, ← hl]; simp
  refine ⟨by rw [← hl]; simp, fun h0 => ?_, he, by rw [← bys_length, he]⟩
  have : s[0]'h0 = (bys s)[0]'(by rw [bys_length]; exact h0) := rfl
  rw [this]
  simp [h]
/-- Bytes as a number, the most worth first. -/
def numOf (l : List UInt8) : Nat := l.foldl (fun a b => a * 256 + b.toNat) 0
theorem numOf_snoc (l : List UInt8) (b : UInt8) : numOf (l ++ [b]) = numOf l * 256 + b.toNat := by simp [numOf]
theorem numOf_lt (l : List UInt8) : numOf l < 256 ^ l.length := by
  suffices h : ∀ (l : List UInt8) (a : Nat), l.foldl (fun a b => a * 256 + b.toNat) a + 1 ≤ (a + 1) * 256 ^ l.length by have := h l 0; simp at this; exact this
  intro l
  induction l with
  | nil => intro a; simp
  | cons b r ih =>
    intro a
    have hb := b.toNat_lt
    rw [List.foldl_cons]
    refine Nat.le_trans (ih _) ?_
    rw [List.length_cons, Nat.pow_succ, Nat.mul_comm (256 ^ r.length), ← Nat.mul_assoc]
    exact Nat.mul_le_mul_right _ (by omega)
theorem or_byte (v b : Nat) (hv : v * 256 < 18446744073709551616) (hb : b < 256) : bits .or .u64 (IntKind.u64.wrap ((v : Int) * 256)) (IntKind.u64.wrap (b : Int)) = ((v * 256 + b : Nat) : Int) := by
  rw [IntWalk.u64_in _ (by omega), IntWalk.u64_in _ (by omega), show ((v : Int) * 256) = ((v * 256 : Nat) : Int) by simp, u64_or_nat _ _ hv (by omega)]
  have := Nat.two_pow_add_eq_or_of_lt (i := 8) (b := b) (by simpa using hb) v
  rw [show v * 256 = 2 ^ 8 * v by omega, ← this]
def rdNum (l : List UInt8) : Int × Int × Int :=
  match l with
  | [] => (0, 0, 6)
  | b :: r => if b.toNat ≤ 247 then ((b.toNat : Int), 1, 0)
    else if r.length < b.toNat - 247 then (0, 0, 6)
    else if r.head? = some 0 ∨ numOf (r.take (b.toNat - 247)) ≤ 247 then (0, 0, 7)
    else ((numOf (r.take (b.toNat - 247)) : Int), ((b.toNat - 247 : Nat) : Int) + 1, 0)

set_option maxRecDepth 100000 in
set_option maxHeartbeats 1000000 in
theorem ReadNum_any (s : ByteArray) (w : World) (hl : s.size ≤ maxLen) :
    Calls Try.prog 42 #[.string s] w fun e w' => e = .returned (.tuple #[.int .u64 (rdNum (bys s)).1, .int .i64 (rdNum (bys s)).2.1, .int .i64 (rdNum (bys s)).2.2]) ∧ w' = w := by
  unfold maxLen at hl
  obtain ⟨l, hls⟩ : ∃ l, bys s = l := ⟨_, rfl⟩
  rw [hls]
  cases l with
  | nil =>
    have h0 : s.size = 0 := by rw [← bys_length, hls]; rfl
    have h1 : s.toList.isEmpty = true := by rw [ByteArray.toList_eq]; show (bys s).isEmpty = true; rw [hls]; rfl
    have h2 : s.toList = [] := by simpa using h1
    go_enter Try.func42, Try.ntmps42
    go_wp2
    go_ret3
    exact ⟨rfl, rfl⟩
  | cons b r =>
    obtain ⟨z0, z1, z2, z3⟩ := bys_cons hls
    have h1 : s.toList.isEmpty = false := by rw [ByteArray.toList_eq]; show (bys s).isEmpty = false; rw [hls]; rfl
    have h0 : 0 < s.size := by omega
    obtain ⟨t, ht⟩ : ∃ t, s.extract 1 s.size = t := ⟨_, rfl⟩
    rw [ht] at z2 z3
    have HT := Lib.hid ht
    clear ht
    have Z0 := Lib.hid z0
    have Z2 := Lib.hid z2
    have Z3 := Lib.hid z3
    clear z0 z2 z3 hls
    have hb : b.toNat < 256 := b.toNat_lt
    by_cases h1 : b.toNat ≤ 247
    · have hv := Lib.hid (show rdNum (b :: r) = ((b.toNat : Int), 1, 0) from by simp [rdNum, h1])
      go_enter Try.func42, Try.ntmps42
      go_wp2
      go_ret3
      exact ⟨by rw [hv.out]; rfl, rfl⟩
    · by_cases h2 : r.length < b.toNat - 247
      · have hv := Lib.hid (show rdNum (b :: r) = (0, 0, 6) from by simp [rdNum, h1, h2])
        have hx : s.extract 1 s.size = t := HT.out
        have z3 := Z3.out
        go_enter Try.func42, Try.ntmps42
        go_wp2
        go_ret3
        exact ⟨by rw [hv.out]; rfl, rfl⟩
      · have hx : s.extract 1 s.size = t := HT.out
        have z3 := Z3.out
        obtain ⟨n, hn⟩ : ∃ n, b.toNat = n + 247 := ⟨b.toNat - 247, by omega⟩
        have hn1 : 1 ≤ n := by omega
        have hn8 : n ≤ 8 := by omega
        have hnr : n ≤ r.length := by omega
        have hin : ((b.toNat : Int)) = (n : Int) + 247 := by omega
        have HN := Lib.hid hn
        have hd1 : decide ((n : Int) + 247 ≤ 247) = false := by simp; omega
        have hd2 : decide (r.length < n) = false := by simp; omega
        clear hn h2
        go_enter Try.func42, Try.ntmps42
        go_wp2
        go_loop [2, 5, 25] (fun v q i => ∃ k : Nat, k ≤ n ∧ i = .int .i64 k ∧ v = .int .u64 (numOf (r.take k))) (fun _ _ i => n - (intOf i).toNat)
        case atStart => exact ⟨0, Nat.zero_le _, rfl, rfl⟩
        case round =>
          obtain ⟨k, hk, rfl, rfl⟩ := hrel
          by_cases hlt : k < n
          · have hkr : k < t.size := by omega
            go_wp2
            refine ⟨⟨k + 1, by omega, by go_num, ?_⟩, by simp [intOf]; omega⟩
            have hv := numOf_lt (r.take k)
            rw [List.length_take, Nat.min_eq_left (by omega)] at hv
            have hp : 256 ^ k ≤ 256 ^ 7 := Nat.pow_le_pow_right (by decide) (by omega)
            have hb := t[k].toNat_lt
            rw [or_byte _ _ (by omega) hb, List.take_succ_eq_append_getElem (by omega), numOf_snoc]
            have e : t[k] = r[k]'(by omega) := by
              have h2 := Z2.out
              subst h2
              rfl
            rw [e]
          · obtain rfl : k = n := by omega
            have hv := numOf_lt (r.take k)
            rw [List.length_take, Nat.min_eq_left (by omega)] at hv
            have hp : 256 ^ k ≤ 256 ^ 8 := Nat.pow_le_pow_right (by decide) (by omega)
            have hv2 : numOf (r.take k) < 18446744073709551616 := by omega
            clear hv hp
            have ht0 : 0 < t.size := by omega
            have hrd : rdNum (b :: r) = if t[0] = 0 ∨ numOf (r.take k) ≤ 247 then (0, 0, 7) else ((numOf (r.take k) : Int), (k : Int) + 1, 0) := by
              have hh : r.head? = some t[0] := by
                have h2 := Z2.out
                cases r with
                | nil => simp only [List.length_nil] at z3; omega
                | cons c r' =>
                  have := (bys_cons h2).2.1 ht0
                  rw [this]; rfl
              unfold rdNum
              simp only
              rw [if_neg (by rw [HN.out]; omega), if_neg (by rw [HN.out]; omega), hh, show b.toNat - 247 = k by rw [HN.out]; omega]
              simp
            have HRD := Lib.hid hrd
            clear hrd
            generalize numOf (r.take k) = v at *
            obtain ⟨c, hc⟩ : ∃ c, t[0] = c := ⟨_, rfl⟩
            rw [hc] at HRD
            by_cases hz : c = 0
            · subst hz
              go_wp2
              go_ret3
              exact ⟨by rw [HRD.out, if_pos (by simp)]; rfl, rfl⟩
            · have hcz : ((c.toNat : Int) == 0) = false := by
                have : c.toNat ≠ 0 := fun h => hz (UInt8.toNat_inj.1 (by simpa using h))
                simp; omega
              have HZ := Lib.hid hz
              clear hz
              by_cases h247 : v ≤ 247
              · go_wp2
                go_ret3
                exact ⟨by rw [HRD.out, if_pos (.inr h247)]; rfl, rfl⟩
              · go_wp2
                go_ret3
                exact ⟨by rw [HRD.out, if_neg (by intro h; rcases h with h | h; exact HZ.out h; exact h247 h)]; rfl, rfl⟩
theorem rdNum_facts (l : List UInt8) (hl : l.length ≤ 9223372036854775807) : 0 ≤ (rdNum l).1 ∧ (rdNum l).1 ≤ 18446744073709551615 ∧ 0 ≤ (rdNum l).2.1 ∧ (rdNum l).2.1 ≤ 9 ∧ (rdNum l).2.1 ≤ l.length ∧ ((rdNum l).2.2 = 0 ∨ (rdNum l).2.2 = 6 ∨ (rdNum l).2.2 = 7) ∧ ((rdNum l).2.2 = 0 → 1 ≤ (rdNum l).2.1) := by
  cases l with
  | nil => simp [rdNum]
  | cons b r =>
    have hb := b.toNat_lt
    unfold rdNum
    simp only
    split
    · simp; omega
    · split
      · simp; omega
      · split
        · simp; omega
        · rename_i h1 h2 h3
          have hv := numOf_lt (r.take (b.toNat - 247))
          rw [List.length_take, Nat.min_eq_left (by omega)] at hv
          have hp : 256 ^ (b.toNat - 247) ≤ 256 ^ 8 := Nat.pow_le_pow_right (by decide) (by omega)
          simp
          omega
def rdText (l : List UInt8) (most : Int) : List UInt8 × Int × Int :=
  if (rdNum l).2.2 ≠ 0 then ([], 0, (rdNum l).2.2)
  else if most < (rdNum l).1 then ([], 0, 5)
  else if (l.length : Int) - (rdNum l).2.1 < (rdNum l).1 then ([], 0, 6)
  else ((l.drop (rdNum l).2.1.toNat).take (rdNum l).1.toNat, (rdNum l).2.1 + (rdNum l).1, 0)
set_option maxRecDepth 100000 in
set_option maxHeartbeats 1000000 in
theorem ReadText_any (s : ByteArray) (most : Int) (w : World) (hl : s.size ≤ maxLen) (hm0 : 0 ≤ most) (hm1 : most ≤ 4611686018427387903) :
    Calls Try.prog 40 #[.string s, .int .i64 most] w fun e w' => e = .returned (.tuple #[.string ⟨(rdText (bys s) most).1.toArray⟩, .int .i64 (rdText (bys s) most).2.1, .int .i64 (rdText (bys s) most).2.2]) ∧ w' = w := by
  have C := ReadNum_any s w hl
  unfold maxLen at hl
  have hf := rdNum_facts (bys s) (by rw [bys_length]; omega)
  have hv : ∀ v n e, rdNum (bys s) = (v, n, e) → rdText (bys s) most = if e ≠ 0 then ([], 0, e) else if most < v then ([], 0, 5) else if (s.size : Int) - n < v then ([], 0, 6) else (((bys s).drop n.toNat).take v.toNat, n + v, 0) := fun v n e h => by
    unfold rdText; rw [h, bys_length]
  obtain ⟨v, n, e, hr⟩ : ∃ v n e, rdNum (bys s) = (v, n, e) := ⟨_, _, _, rfl⟩
  have hv2 := hv v n e hr
  rw [hr] at C hf
  rw [bys_length] at hf
  simp only at hf
  obtain ⟨v0, v1, n0, n9, nl, he, hn1⟩ := hf
  have HV := Lib.hid hv2
  have CC := Lib.hid C
  have HN1 := Lib.hid hn1
  clear hv hv2 hr C hn1
  by_cases h0 : e = 0
  · subst h0
    have hn1 := HN1.out rfl
    have hmx : max most 0 = most := by omega
    have hw1 : IntKind.u64.wrap most = most := IntWalk.u64_in _ (by omega)
    by_cases h5 : most < v
    · go_enter Try.func40, Try.ntmps40
      go_wp2_with fail
      refine CC.out.mono ?_
      rintro e w1 ⟨rfl, rfl⟩
      go_wp2
      go_ret3
      exact ⟨by rw [HV.out, if_neg (by simp), if_pos h5]; rfl, rfl⟩
    · have hw2 : IntKind.u64.wrap ((s.size : Int) - n) = (s.size : Int) - n := IntWalk.u64_in _ (by omega)
      by_cases h6 : (s.size : Int) - n < v
      · go_enter Try.func40, Try.ntmps40
        go_wp2_with fail
        refine CC.out.mono ?_
        rintro e w1 ⟨rfl, rfl⟩
        go_wp2
        go_ret3
        exact ⟨by rw [HV.out, if_neg (by simp), if_neg (by omega), if_pos h6]; rfl, rfl⟩
      · have hle : n + v ≤ s.size := by omega
        have he : bys (s.extract n.toNat (n + v).toNat) = ((bys s).drop n.toNat).take v.toNat := by
          rw [bys_extract, List.drop_take]; congr 1; omega
        have HE := Lib.hid (show s.extract n.toNat (n + v).toNat = ⟨(((bys s).drop n.toNat).take v.toNat).toArray⟩ from bys_inj (by rw [he]; rfl))
        clear he
        go_enter Try.func40, Try.ntmps40
        go_wp2_with fail
        refine CC.out.mono ?_
        rintro e w1 ⟨rfl, rfl⟩
        go_wp2
        go_ret3
        exact ⟨by rw [HV.out, if_neg (by simp), if_neg (by omega), if_neg (by omega), ← HE.out]; rfl, rfl⟩
  · have h0b : (e == 0) = false := by simpa using h0
    have h0c : (e != 0) = true := by simpa using h0
    have H0 := Lib.hid h0
    clear h0
    go_enter Try.func40, Try.ntmps40
    go_wp2_with fail
    refine CC.out.mono ?_
    rintro e w1 ⟨rfl, rfl⟩
    go_wp2
    go_ret3
    exact ⟨by rw [HV.out, if_pos H0.out]; rfl, rfl⟩
end Go.Proofs.Ytimhejjdgncdaaa
