/- What a safe history says, in plain Lean: beginnings of it are safe; decisions and what is learnt agree; a commit stands behind yes votes. -/
import Derived.Test.YtmaihiajgjijhaaSafe20
namespace Go.Proofs.Ytmaihiajgjijhaa
open Go.RowKit Go.Shelf
set_option linter.unusedVariables false
set_option linter.unusedSimpArgs false

/-- Nothing is wrong with the event at place j. -/
def OkAt (bad : Int) (l : List EvV) (j : Nat) : Prop := ∃ x, l[j]? = some x ∧ looks bad (l.take j) x = 0
theorem checkFrom_spec (bad : Int) (l : List EvV) : ∀ (n k : Nat), n + k = l.length → (checkFrom bad l n k).1 ≤ l.length ∧ k ≤ (checkFrom bad l n k).1 ∧ (∀ j, k ≤ j → j < (checkFrom bad l n k).1 → OkAt bad l j) ∧ ((checkFrom bad l n k).2 = 0 ↔ (checkFrom bad l n k).1 = l.length)
  | 0, k, h => by
    simp only [checkFrom]
    exact ⟨Nat.le_refl _, by omega, fun j h1 h2 => by omega, by simp⟩
  | n + 1, k, h => by
    have hk : k < l.length := by omega
    obtain ⟨i1, i2, i3, i4⟩ := checkFrom_spec bad l n (k + 1) (by omega)
    simp only [checkFrom, List.getElem?_eq_getElem hk]
    by_cases h0 : looks bad (l.take k) l[k] = 0
    · rw [if_pos h0]
      refine ⟨i1, by omega, fun j h1 h2 => ?_, i4⟩
      by_cases hj : j = k
      · subst hj; exact ⟨_, List.getElem?_eq_getElem hk, h0⟩
      · exact i3 j (by omega) h2
    · rw [if_neg h0]
      exact ⟨by simp; omega, Nat.le_refl _, fun j h1 h2 => by simp at h2; omega, by simp [h0]; omega⟩
theorem checkFrom_all (bad : Int) (l : List EvV) : ∀ (n k : Nat), n + k = l.length → (∀ j, k ≤ j → j < l.length → OkAt bad l j) → checkFrom bad l n k = (l.length, 0)
  | 0, k, h, _ => rfl
  | n + 1, k, h, hok => by
    obtain ⟨x, hx, h0⟩ := hok k (Nat.le_refl _) (by omega)
    simp only [checkFrom, hx, if_pos h0]
    exact checkFrom_all bad l n (k + 1) (by omega) (fun j h1 h2 => hok j (by omega) h2)
theorem checkOf_le (bad : Int) (l : List EvV) : (checkOf bad l).1 ≤ l.length := (checkFrom_spec bad l _ 0 (by omega)).1
theorem checkOf_iff (bad : Int) (l : List EvV) : (checkOf bad l).2 = 0 ↔ (checkOf bad l).1 = l.length := (checkFrom_spec bad l _ 0 (by omega)).2.2.2
theorem checkOf_ok (bad : Int) (l : List EvV) (j : Nat) (h : j < (checkOf bad l).1) : OkAt bad l j := (checkFrom_spec bad l _ 0 (by omega)).2.2.1 j (Nat.zero_le _) h
theorem OkAt.take {bad : Int} {l : List EvV} {j : Nat} (h : OkAt bad l j) (n : Nat) (hn : j < n) : OkAt bad (l.take n) j := by
  obtain ⟨x, h1, h2⟩ := h
  refine ⟨x, by rw [List.getElem?_take, if_pos hn]; exact h1, ?_⟩
  rw [List.take_take, Nat.min_eq_left (by omega)]
  exact h2
theorem checkOf_take (bad : Int) (l : List EvV) (n : Nat) (hn : n ≤ (checkOf bad l).1) : checkOf bad (l.take n) = (n, 0) := by
  have h1 := checkOf_le bad l
  have hlen : (l.take n).length = n := by rw [List.length_take]; omega
  rw [checkOf, checkFrom_all bad (l.take n) _ 0 (by omega) (fun j _ hj => (checkOf_ok bad l j (by omega)).take n (by omega)), hlen]

theorem looksFrom_zero (bad : Int) (l : List EvV) (x : EvV) : ∀ (d i : Nat), d + i = 7 → looksFrom bad l x i = 0 → ∀ j, i ≤ j → j < 7 → lookE j bad l x = 0
  | 0, i, h, _, j, h1, h2 => by omega
  | d + 1, i, h, h0, j, h1, h2 => by
    rw [looksFrom_step bad l x i (by omega)] at h0
    by_cases hz : lookE i bad l x = 0
    · rw [if_pos hz] at h0
      by_cases hj : j = i
      · subst hj; exact hz
      · exact looksFrom_zero bad l x d (i + 1) (by omega) h0 j (by omega) h2
    · rw [if_neg hz] at h0; exact absurd h0 hz
theorem ok_decides {bad : Int} {l : List EvV} {j : Nat} {x : EvV} (h : OkAt bad l j) (hx : l[j]? = some x) : decidesE bad (l.take j) x = 0 := by
  obtain ⟨y, h1, h2⟩ := h
  rw [hx] at h1; cases h1
  exact looksFrom_zero bad _ x 7 0 rfl h2 4 (by omega) (by omega)
theorem ok_learns {bad : Int} {l : List EvV} {j : Nat} {x : EvV} (h : OkAt bad l j) (hx : l[j]? = some x) : learnsE bad (l.take j) x = 0 := by
  obtain ⟨y, h1, h2⟩ := h
  rw [hx] at h1; cases h1
  exact looksFrom_zero bad _ x 7 0 rfl h2 5 (by omega) (by omega)

theorem logB_iff (k : Int) (t : TxnV) (x : EvV) : logB k t x = true ↔ x.rec_.kind = k ∧ x.rec_.t = t := by
  obtain ⟨c, e, s⟩ := t
  unfold logB
  simp only [Bool.and_eq_true, beq_iff_eq]
  constructor
  · rintro ⟨h1, h2, h3, h4⟩; refine ⟨h1, ?_⟩; cases hx : x.rec_.t; simp_all
  · rintro ⟨h1, h2⟩; rw [h2]; exact ⟨h1, rfl, rfl, rfl⟩
theorem mem_logsOf {l : List EvV} {k : Int} {t : TxnV} {x : EvV} : x ∈ logsOf l k t ↔ x ∈ l ∧ x.kind = 2 ∧ x.rec_.kind = k ∧ x.rec_.t = t := by
  unfold logsOf
  rw [List.mem_filter, List.mem_filter, logB_iff]
  simp [and_assoc]
theorem mem_take_index {l : List EvV} {n : Nat} {x : EvV} (h : x ∈ l.take n) : ∃ j, j < n ∧ l[j]? = some x := by
  obtain ⟨j, hj⟩ := List.getElem?_of_mem h
  rw [List.getElem?_take] at hj
  split at hj
  · exact ⟨j, by assumption, hj⟩
  · cases hj
theorem index_mem_take {l : List EvV} {n j : Nat} {x : EvV} (h : l[j]? = some x) (hj : j < n) : x ∈ l.take n := by
  refine List.mem_of_getElem? (i := j) ?_
  rw [List.getElem?_take, if_pos hj]; exact h

/-- All events of the history are as they may be. -/
def Safe (bad : Int) (l : List EvV) : Prop := ∀ j, j < l.length → OkAt bad l j
theorem Safe.one {bad : Int} {l : List EvV} (hs : Safe bad l) {t : TxnV} {j1 j2 : Nat} {x1 x2 : EvV} (h1 : l[j1]? = some x1) (h2 : l[j2]? = some x2) (k1 : x1.kind = 2) (k2 : x2.kind = 2) (r1 : x1.rec_.kind = 3) (r2 : x2.rec_.kind = 3) (t1 : x1.rec_.t = t) (t2 : x2.rec_.t = t) : j1 = j2 := by
  have key : ∀ {a b : Nat} {y z : EvV}, l[a]? = some y → l[b]? = some z → y.kind = 2 → z.kind = 2 → y.rec_.kind = 3 → z.rec_.kind = 3 → y.rec_.t = t → z.rec_.t = t → ¬ a < b := by
    intro a b y z ha hb ky kz ry rz ty tz hab
    have hd := ok_decides (hs b (List.getElem?_eq_some_iff.1 hb).1) hb
    have hm : y ∈ logsOf (l.take b) 3 z.rec_.t := mem_logsOf.2 ⟨index_mem_take ha hab, ky, ry, by rw [ty, tz]⟩
    have he : (logsOf (l.take b) 3 z.rec_.t).isEmpty = false := by
      cases hc : logsOf (l.take b) 3 z.rec_.t with
      | nil => rw [hc] at hm; cases hm
      | cons _ _ => rfl
    unfold decidesE at hd
    rw [if_pos ⟨kz, rz⟩, if_pos he] at hd
    exact absurd hd (by decide)
  have a := key h1 h2 k1 k2 r1 r2 t1 t2
  have b := key h2 h1 k2 k1 r2 r1 t2 t1
  omega
/-- Whatever is decided, or learnt, was decided by the coordinator. -/
theorem Safe.src {bad : Int} {l : List EvV} (hs : Safe bad l) {t : TxnV} (ht : honestB bad t.c = true) {i : Nat} {x : EvV} (h : l[i]? = some x) (k : x.kind = 2) (r : x.rec_.kind = 3 ∨ x.rec_.kind = 4) (e : x.rec_.t = t) :
    ∃ (j : Nat) (y : EvV), l[j]? = some y ∧ y.kind = 2 ∧ y.rec_.kind = 3 ∧ y.rec_.t = t ∧ y.rec_.yes = x.rec_.yes := by
  rcases r with r | r
  · exact ⟨i, x, h, k, r, e, rfl⟩
  · have hl := ok_learns (hs i (List.getElem?_eq_some_iff.1 h).1) h
    unfold learnsE at hl
    rw [if_pos ⟨k, r⟩, e, ht] at hl
    by_cases ha : (!true || (logsOf (l.take i) 3 t).any (knownB x)) = false
    · rw [if_pos ha] at hl; exact absurd hl (by decide)
    · have hany : (logsOf (l.take i) 3 t).any (knownB x) = true := by simpa using ha
      obtain ⟨y, hy, hk⟩ := List.any_eq_true.1 hany
      obtain ⟨hy1, hy2, hy3, hy4⟩ := mem_logsOf.1 hy
      obtain ⟨j, _, hj⟩ := mem_take_index hy1
      unfold knownB at hk
      simp only [Bool.and_eq_true, beq_iff_eq] at hk
      exact ⟨j, y, hj, hy2, hy3, hy4, hk.2⟩
theorem Safe.agree {bad : Int} {l : List EvV} (hs : Safe bad l) {t : TxnV} (ht : honestB bad t.c = true) {i j : Nat} {x y : EvV} (hx : l[i]? = some x) (hy : l[j]? = some y) (kx : x.kind = 2) (ky : y.kind = 2) (rx : x.rec_.kind = 3 ∨ x.rec_.kind = 4) (ry : y.rec_.kind = 3 ∨ y.rec_.kind = 4)
    (ex : x.rec_.t = t) (ey : y.rec_.t = t) : x.rec_.yes = y.rec_.yes := by
  obtain ⟨a, u, ha, hu1, hu2, hu3, hu4⟩ := hs.src ht hx kx rx ex
  obtain ⟨b, v, hb, hv1, hv2, hv3, hv4⟩ := hs.src ht hy ky ry ey
  have := hs.one ha hb hu1 hv1 hu2 hv2 hu3 hv3
  subst this
  rw [ha] at hb; cases hb
  rw [← hu4, hv4]
theorem outB_iff (t : TxnV) (x : EvV) : outB t x = true ↔ x.rec_.t = t ∧ (x.rec_.kind = 3 ∨ x.rec_.kind = 4) := by
  unfold outB
  rw [Bool.and_eq_true, eqTB_iff, Bool.or_eq_true, beq_iff_eq, beq_iff_eq]
/-- All outcomes are the same. -/
theorem Safe.outcome {bad : Int} {l : List EvV} (hs : Safe bad l) {t : TxnV} (ht : honestB bad t.c = true) {i : Nat} {x : EvV} (h : l[i]? = some x) (k : x.kind = 2) (r : x.rec_.kind = 3 ∨ x.rec_.kind = 4) (e : x.rec_.t = t) :
    (outcomeOf l t).isSome = true ∧ outCommit l t = x.rec_.yes := by
  have hm : x ∈ l.filter (fun x => x.kind == 2) := List.mem_filter.2 ⟨List.mem_of_getElem? h, by simpa using k⟩
  cases ho : outcomeOf l t with
  | none =>
    have := List.find?_eq_none.1 ho x hm
    exact absurd ((outB_iff t x).2 ⟨e, r⟩) this
  | some y =>
    have h1 := List.mem_of_find?_eq_some ho
    have h2 := List.find?_some ho
    obtain ⟨h3, h4⟩ := List.mem_filter.1 h1
    obtain ⟨j, hj⟩ := List.getElem?_of_mem h3
    obtain ⟨h5, h6⟩ := (outB_iff t y).1 h2
    refine ⟨rfl, ?_⟩
    unfold outCommit
    rw [ho]
    exact hs.agree ht hj h (by simpa using h4) k h6 r h5 e
/-- A commit stands behind yes votes. -/
theorem Safe.voted {bad : Int} {l : List EvV} (hs : Safe bad l) {i : Nat} {x : EvV} (h : l[i]? = some x) (k : x.kind = 2) (r : x.rec_.kind = 3) (y : x.rec_.yes = true) {m : MemV} (hm : m ∈ x.rec_.ms) (ho : honestB bad m.org = true) :
    votedB (l.take i) m.org x.rec_.t x.rec_.aud x.rec_.ms = true := by
  have hd := ok_decides (hs i (List.getElem?_eq_some_iff.1 h).1) h
  have hall : allB bad (l.take i) x.rec_.t x.rec_.aud x.rec_.ms = true := by
    unfold decidesE at hd
    rw [if_pos ⟨k, r⟩] at hd
    by_cases h1 : (logsOf (l.take i) 3 x.rec_.t).isEmpty = false
    · rw [if_pos h1] at hd; exact absurd hd (by decide)
    · rw [if_neg h1] at hd
      by_cases h2 : x.rec_.t.c ≠ x.org
      · rw [if_pos h2] at hd; exact absurd hd (by decide)
      · rw [if_neg h2] at hd
        by_cases h3 : x.rec_.yes = true ∧ begunB (l.take i) x.rec_.t x.rec_.aud x.rec_.ms = false
        · rw [if_pos h3] at hd; exact absurd hd (by decide)
        · rw [if_neg h3] at hd
          by_cases h4 : x.rec_.yes = true ∧ allB bad (l.take i) x.rec_.t x.rec_.aud x.rec_.ms = false
          · rw [if_pos h4] at hd; exact absurd hd (by decide)
          · cases hb : allB bad (l.take i) x.rec_.t x.rec_.aud x.rec_.ms with
            | true => rfl
            | false => exact absurd ⟨y, hb⟩ h4
  unfold allB at hall
  have := List.all_eq_true.1 hall m hm
  unfold allP at this
  rw [ho] at this
  simpa using this
theorem safe_take (bad : Int) (l : List EvV) (n : Nat) (hn : n ≤ (checkOf bad l).1) : Safe bad (l.take n) := fun j hj =>
  (checkOf_ok bad l j (by rw [List.length_take] at hj; omega)).take n (by rw [List.length_take] at hj; omega)
end Go.Proofs.Ytmaihiajgjijhaa
