/- The plain law of a net: what is true of all that it has, whatever was put. -/
import Derived.Test.YtimhejjdgncdaaaNet11
namespace Go.Proofs.Ytimhejjdgncdaaa
open Go.RowKit
set_option linter.unusedVariables false
set_option linter.unusedSimpArgs false

structure NetInv (s : NetV) : Prop where
  tl : s.ts.length = s.ps.length
  ts : ∀ (k : Nat) (p : PostV), s.ps[k]? = some p → s.ts[k]? = some (((s.ps.take (k + 1)).filter (fun q => decide (q = p))).length : Int)
  cnt : ∀ p, valIn p s.cnt = ((s.ps.filter (fun q => decide (q = p))).length : Int)
  ok : ∀ p ∈ s.ps, okP p = true
theorem NetInv.zero : NetInv net0 := ⟨rfl, by simp [net0], fun p => by simp [net0, valIn, findIn], by simp [net0]⟩
theorem NetInv.next {s : NetV} (h : NetInv s) (p : PostV) (hp : okP p = true) : NetInv (s.next p) where
  tl := by simp [NetV.next, h.tl]
  ts k q hq := by
    simp only [NetV.next] at hq ⊢
    by_cases hk : k < s.ps.length
    · rw [List.getElem?_append_left hk] at hq
      rw [List.getElem?_append_left (by rw [h.tl]; exact hk), List.take_append_of_le_length (by omega)]
      exact h.ts k q hq
    · have hk2 : k = s.ps.length := by
        have := (List.getElem?_eq_some_iff.1 hq).1
        simp at this; omega
      subst hk2
      rw [List.getElem?_append_right (Nat.le_refl _), Nat.sub_self] at hq
      simp only [List.getElem?_cons_zero, Option.some.injEq] at hq
      subst hq
      rw [List.getElem?_append_right (by rw [h.tl]; exact Nat.le_refl _), h.tl, Nat.sub_self, List.take_of_length_le (by simp), h.cnt]
      simp [List.filter_append]
  cnt q := by
    simp only [NetV.next]
    rw [(findIn_put q p _ _).1, List.filter_append]
    by_cases e : q = p
    · subst e; rw [if_pos rfl, h.cnt]; simp
    · rw [if_neg e, h.cnt]
      have : ¬ p = q := fun x => e x.symm
      simp [this]
  ok q hq := by
    rcases List.mem_append.1 hq with h1 | h1
    · exact h.ok q h1
    · simp at h1; subst h1; exact hp
/-- Of two that are the same the later one is the later time. -/
theorem NetInv.later {s : NetV} (h : NetInv s) {i k : Nat} (hk : k < i) {p : PostV} (hi : s.ps[i]? = some p) (hkp : s.ps[k]? = some p) : s.time k < s.time i := by
  have hil := (List.getElem?_eq_some_iff.1 hi).1
  have e : ∀ j : Nat, s.ps[j]? = some p → s.time (j : Int) = ((s.ps.take (j + 1)).filter (fun q => decide (q = p))).length := fun j hj => by
    have hjl := (List.getElem?_eq_some_iff.1 hj).1
    unfold NetV.time
    rw [if_pos ⟨by omega, by omega⟩, List.getD_eq_getElem?_getD, Int.toNat_natCast, h.ts j p hj]; rfl
  rw [e i hi, e k hkp, Int.ofNat_lt]
  have h1 : s.ps.take (i + 1) = s.ps.take i ++ [p] := by
    rw [List.take_succ_eq_append_getElem hil]
    rw [List.getElem?_eq_getElem hil] at hi
    rw [Option.some.inj hi]
  have h2 : s.ps.take (k + 1) <+: s.ps.take i := by
    have := List.take_prefix (k + 1) (s.ps.take i)
    rwa [List.take_take, Nat.min_eq_left (by omega)] at this
  rw [h1, List.filter_append, List.length_append]
  have h3 := (h2.filter (fun q => decide (q = p))).length_le
  simp
  omega
theorem NetInv.first {s : NetV} (h : NetInv s) {i : Nat} (hi : i < s.ps.length) : 1 ≤ s.time i := by
  obtain ⟨p, hp⟩ : ∃ p, s.ps[i]? = some p := ⟨_, List.getElem?_eq_getElem hi⟩
  unfold NetV.time
  rw [if_pos ⟨by omega, by omega⟩, List.getD_eq_getElem?_getD, Int.toNat_natCast, h.ts i p hp]
  have h1 : s.ps.take (i + 1) = s.ps.take i ++ [p] := by
    rw [List.take_succ_eq_append_getElem hi]
    rw [List.getElem?_eq_getElem hi] at hp
    rw [Option.some.inj hp]
  rw [h1, List.filter_append, List.length_append]
  simp
  omega
/-- How many posts there are for the organisations below n. -/
def below (ps : List PostV) : Nat → Nat
  | 0 => 0
  | n + 1 => below ps n + (nums (fun _ p => p.to == (n : Int)) ps ps.length).length
theorem nums_len (f : PostV → Bool) (ps : List PostV) : (nums (fun _ p => f p) ps ps.length).length = (ps.filter f).length := by
  have H : ∀ n, n ≤ ps.length → (nums (fun _ p => f p) ps n).length = ((ps.take n).filter f).length := by
    intro n
    induction n with
    | zero => intro _; rfl
    | succ n ih =>
      intro hn
      have hp : ps[n]? = some ps[n] := List.getElem?_eq_getElem (by omega)
      rw [nums_step hp, List.length_append, ih (by omega), List.take_succ_eq_append_getElem (by omega), List.filter_append, List.length_append]
      congr 1
      cases hf : f ps[n] <;> simp [hf]
  have := H ps.length (Nat.le_refl _)
  rwa [List.take_length] at this
theorem below_filter (ps : List PostV) : ∀ n : Nat, below ps n = (ps.filter (fun p => decide (0 ≤ p.to ∧ p.to < (n : Int)))).length
  | 0 => by
    simp only [below]
    symm
    rw [List.length_eq_zero_iff, List.filter_eq_nil_iff]
    intro p _
    rw [decide_eq_true_eq]
    omega
  | n + 1 => by
    simp only [below]
    rw [below_filter ps n, nums_len (fun p => p.to == (n : Int))]
    induction ps with
    | nil => rfl
    | cons p r ih =>
      simp only [List.filter_cons]
      by_cases h0 : 0 ≤ p.to ∧ p.to < (n : Int)
      · have h1 : ¬ (p.to = (n : Int)) := by omega
        have h2 : 0 ≤ p.to ∧ p.to < ((n + 1 : Nat) : Int) := by omega
        simp only [decide_eq_true h0, decide_eq_true h2, if_true, List.length_cons, beq_iff_eq, h1, if_false]
        omega
      · by_cases h1 : p.to = (n : Int)
        · have h2 : 0 ≤ p.to ∧ p.to < ((n + 1 : Nat) : Int) := by omega
          have hb : (p.to == (n : Int)) = true := by simpa using h1
          simp only [decide_eq_false h0, decide_eq_true h2, hb, if_true, List.length_cons, Bool.false_eq_true, if_false]
          omega
        · have h2 : ¬ (0 ≤ p.to ∧ p.to < ((n + 1 : Nat) : Int)) := by omega
          simp only [decide_eq_false h0, decide_eq_false h2, beq_iff_eq, h1, Bool.false_eq_true, if_false]
          omega
theorem NetInv.all {s : NetV} (h : NetInv s) : below s.ps 8 = s.ps.length := by
  rw [below_filter]
  rw [List.filter_eq_self.2]
  intro p hp
  have := h.ok p hp
  unfold okP at this
  simp only [Bool.and_eq_true, decide_eq_true_eq] at this
  simp only [decide_eq_true_eq]
  omega
end Go.Proofs.Ytimhejjdgncdaaa
