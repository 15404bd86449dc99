/- Whether an atom may have a name: term.named. -/
import Derived.Test.YtimhejjdgncdaaaRune
import Derived.Lib.OthersKept
import Derived.Test.YtimhejjdgncdaaaWide
namespace Go.Proofs.Ytimhejjdgncdaaa
open Go.RowKit
set_option linter.unusedVariables false
set_option linter.unusedSimpArgs false

theorem decode_hi (s : ByteArray) (k : Nat) (h : k < s.size) (hb : 128 ≤ (s[k]'h).toNat) : 128 ≤ (Utf8.decode s k).1 ∧ (Utf8.decode s k).1 ≤ 2147483647 := by
  have e : s.get! (k + 0) = s[k]'h := by
    show s.get! k = _
    simp [ByteArray.get!, getElem!_pos, h]
    rfl
  have h1 := (s.get! (k + 1)).toNat_lt
  have h2 := (s.get! (k + 2)).toNat_lt
  have h3 := (s.get! (k + 3)).toNat_lt
  have h0 := (s[k]'h).toNat_lt
  simp only [Utf8.decode, e]
  rw [if_neg (by omega)]
  repeat' split
  all_goals (simp only [Utf8.runeError, ge_iff_le, Bool.and_eq_true, decide_eq_true_eq] at *; omega)
def letterB (b : UInt8) : Bool := isLetter (b.toNat : Int)
def namedB (l : List UInt8) : Bool := !l.isEmpty && l.all letterB
theorem letterB_hi (b : UInt8) (h : 128 ≤ b.toNat) : letterB b = false := by unfold letterB isLetter; simp; omega
theorem isLetter_hi (r : Int) (h : 128 ≤ r) : isLetter r = false := by unfold isLetter; simp; omega
def AllIs {α : Type} (p : α → Bool) (l : List α) : Prop := l.all p = true
theorem all_snoc (p : UInt8 → Bool) (l : List UInt8) (k : Nat) (hk : k < l.length) (h : AllIs p (l.take k)) (hb : p l[k] = true) : AllIs p (l.take (k + 1)) := by
  unfold AllIs at *
  rw [List.take_succ_eq_append_getElem hk, List.all_append, h]; simp [hb]
theorem all_not (p : UInt8 → Bool) (l : List UInt8) (k : Nat) (hk : k < l.length) (hb : p l[k] = false) : l.all p = false := by
  rw [List.all_eq_false]
  exact ⟨l[k], List.getElem_mem hk, by simp [hb]⟩
theorem But.iterAt {p : Nat → Prop} {w w1 : World} (h : But p w w1) {g : Nat} (hg : p g ∨ w.heap.size ≤ g) (s : ByteArray) (k : Nat) : But p w (w1.iterAt g s k) :=
  h.then_ (q := fun j => j = g) ⟨rfl, rfl, rfl, by simp [World.iterAt], fun j _ hn => Lib.iterAt_other _ _ _ _ _ hn⟩ (fun i hi => by rw [hi]; exact hg)
set_option maxRecDepth 100000 in
set_option maxHeartbeats 1000000 in
theorem named_any (s : ByteArray) (w : World) (hl : s.size ≤ maxLen) : Calls Try.prog 41 #[.string s] w fun e w' => e = .returned (.bool (namedB (bys s))) ∧ But (fun _ => False) w w' := by
  unfold maxLen at hl
  have hlen := bys_length s
  have HL := Lib.hid hlen
  clear hlen
  go_enter Try.func41, Try.ntmps41
  go_wp2
  go_loopw [4] (fun c wr => ∃ k : Nat, k ≤ s.size ∧ AllIs letterB ((bys s).take k) ∧ Holds wr w.heap.size (.stringIter s k) ∧ But (fun _ => False) w wr) (fun _ wr => s.size - iterPos wr w.heap.size)
  case atStart => exact ⟨0, by omega, by simp [AllIs], World.iter_heap w s 0, (But.refl _ _).iter _ _⟩
  case round =>
    obtain ⟨k, hk, hq, hh, hb⟩ := hrel
    have HQ := Lib.hid hq
    have HH := Lib.hid hh
    have HB := Lib.hid hb
    clear hq hb
    by_cases hlt : k < s.size
    · have hkl : k < (bys s).length := by rw [HL.out]; exact hlt
      by_cases h128 : (s[k]'hlt).toNat < 128
      · have hn := fun ty => Lib.run_next_ascii_at (P := Try.prog) wr w.heap.size s k ty hh hlt h128
        obtain ⟨b, hbb⟩ : ∃ b, s[k]'hlt = b := ⟨_, rfl⟩
        rw [hbb] at h128
        simp only [hbb] at hn
        have hbl : (bys s)[k] = b := hbb
        have HBL := Lib.hid hbl
        have hC := ContainsRune_any (b.toNat : Int) (wr.iterAt w.heap.size s (k + 1)) (by omega) (by omega)
        have hH2 := Lib.hid (show Holds (wr.iterAt w.heap.size s (k + 1)) w.heap.size (.stringIter s (k + 1)) from Lib.iterAt_heap _ _ _ _ _ hh)
        have hB2 := Lib.hid (HB.out.iterAt (.inr (Nat.le_refl _)) s (k + 1))
        have hbe : letterB b = isLetter (b.toNat : Int) := rfl
        have HBE := Lib.hid hbe
        clear hbb hbl hbe hh
        generalize isLetter (b.toNat : Int) = q at hC HBE
        have HC := Lib.hid hC
        clear hC
        cases q with
        | true =>
          go_wp2_with (go_at_call 44; refine HC.out.mono ?_; rintro e w' ⟨rfl, b3⟩)
          exact ⟨⟨k + 1, by omega, all_snoc _ _ k hkl HQ.out (by rw [HBL.out, HBE.out]), hH2.out.but b3 (fun f => f), hB2.out.trans b3⟩, by
            have h1 : iterPos w' w.heap.size = k + 1 := by unfold iterPos; rw [show w'.heap[w.heap.size]? = _ from hH2.out.but b3 (fun f => f)]
            have h2 : iterPos wr w.heap.size = k := by unfold iterPos; rw [show wr.heap[w.heap.size]? = _ from HH.out]
            rw [h1, h2]; omega⟩
        | false =>
          have hv := Lib.hid (show namedB (bys s) = false from by unfold namedB; rw [all_not _ _ k hkl (by rw [HBL.out, HBE.out])]; simp)
          go_wp2_with (go_at_call 44; refine HC.out.mono ?_; rintro e w' ⟨rfl, b3⟩)
          go_ret
          exact ⟨by rw [hv.out]; rfl, hB2.out.trans b3⟩
      · have hd := decode_hi s k hlt (by omega)
        have hn := fun ty => Lib.run_next_any_at (P := Try.prog) wr w.heap.size s k ty hh hlt
        obtain ⟨c, n, hc⟩ : ∃ c n, Utf8.decode s k = (c, n) := ⟨_, _, rfl⟩
        rw [hc] at hd
        simp only [hc] at hn
        simp only at hd
        have hC := ContainsRune_any (c : Int) (wr.iterAt w.heap.size s (k + n)) (by omega) (by omega)
        rw [isLetter_hi _ (by omega)] at hC
        have HC := Lib.hid hC
        have hB2 := Lib.hid (HB.out.iterAt (.inr (Nat.le_refl _)) s (k + n))
        have hv := Lib.hid (show namedB (bys s) = false from by unfold namedB; rw [all_not _ _ k hkl (letterB_hi _ (by have : (bys s)[k] = s[k] := rfl; rw [this]; omega))]; simp)
        clear hC hc hh
        go_wp2_with (go_at_call 44; refine HC.out.mono ?_; rintro e w' ⟨rfl, b3⟩)
        go_ret
        exact ⟨by rw [hv.out]; rfl, hB2.out.trans b3⟩
    · obtain rfl : k = s.size := by omega
      have hn := fun ty => Lib.run_next_end_at (P := Try.prog) wr w.heap.size s s.size ty hh (by omega)
      have hall : (bys s).all letterB = true := by
        have := HQ.out
        unfold AllIs at this
        rwa [List.take_of_length_le (by rw [HL.out]; exact Nat.le_refl _)] at this
      clear hh
      cases hls : bys s with
      | nil =>
        have h1 : s.toList = [] := by rw [ByteArray.toList_eq]; exact hls
        have hv := Lib.hid (show namedB (bys s) = false from by rw [hls]; rfl)
        go_wp2
        go_ret
        exact ⟨by rw [hv.out]; rfl, HB.out⟩
      | cons b r =>
        have h1 : s.toList = b :: r := by rw [ByteArray.toList_eq]; exact hls
        have h2 : s.toList.isEmpty = false := by rw [h1]; rfl
        have hv := Lib.hid (show namedB (bys s) = true from by unfold namedB; rw [hall, hls]; rfl)
        clear h1 hall hls
        go_wp2
        go_ret
        exact ⟨by rw [hv.out]; rfl, HB.out⟩
end Go.Proofs.Ytimhejjdgncdaaa
