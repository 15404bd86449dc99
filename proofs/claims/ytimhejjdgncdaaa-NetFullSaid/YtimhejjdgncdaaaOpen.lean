/- What a law's arguments read as: integers, bools, strings, structs of these, and rows of them. Nothing of the program stands here. -/
import Derived.Test.YtimhejjdgncdaaaBase
import Derived.Deep.Slices
import Derived.ProofKit
import Derived.ChangeSame
import Derived.DataReads
import Derived.SizedLaws
import Derived.OpenShut
namespace Go.Proofs.Ytimhejjdgncdaaa
open Go.RowKit Go.Deep
open Go.ChangeShapes Go.WideShapes Go.ChangeAt
set_option linter.unusedVariables false
set_option linter.unusedSimpArgs false

/-- A row whose elements are of sz cells each. -/
def RowAt {α : Type} (w : World) (A : Option Addr) (sz : Nat) (R : α → List Value → Prop) (l : List α) : Prop :=
  ∃ cs : List Value, cs.length = l.length * sz ∧ Sees w A cs ∧ ∀ i x, l[i]? = some x → R x ((cs.drop (i * sz)).take sz)

section
variable {H : Type} {enc : TypeId × Value → H} {P : Program} {w : World} {base : Nat} {spare : Nat → Bool} {held : Bool}

theorem rd_int {t : TypeId} {k : IntKind} {n : Nat} {cs : List Value} {x : DataW H × List MemPlace} (ht : P.underlying t = some (.int k)) (h : DataW.trod enc P w base spare held n t cs = some x) :
    ∃ m, cs = [.int k m] ∧ (Lit.int k m).wf = true := by
  cases n with
  | zero => simp [DataW.trod] at h
  | succ n =>
    unfold DataW.trod at h
    rw [ht] at h
    split at h <;> simp_all
theorem rd_bool {t : TypeId} {n : Nat} {cs : List Value} {x : DataW H × List MemPlace} (ht : P.underlying t = some .bool) (h : DataW.trod enc P w base spare held n t cs = some x) :
    ∃ b, cs = [.bool b] := by
  cases n with
  | zero => simp [DataW.trod] at h
  | succ n =>
    unfold DataW.trod at h
    rw [ht] at h
    split at h <;> simp_all
theorem rd_str {t : TypeId} {n : Nat} {cs : List Value} {x : DataW H × List MemPlace} (ht : P.underlying t = some .string) (h : DataW.trod enc P w base spare held n t cs = some x) :
    ∃ s, cs = [.string s] ∧ s.size ≤ maxLen := by
  cases n with
  | zero => simp [DataW.trod] at h
  | succ n =>
    unfold DataW.trod at h
    rw [ht] at h
    split at h <;> simp_all
theorem rd_fields {t : TypeId} {fs : List Field} {n : Nat} {cs : List Value} {x : DataW H × List MemPlace} (ht : P.underlying t = some (.struct fs.toArray)) (h : DataW.trod enc P w base spare held n t cs = some x) :
    cs.length = P.cellsOf t ∧ ∀ (i : Nat) (f : Field), fs[i]? = some f → ∃ m y, DataW.trod enc P w base spare held m f.type ((cs.drop f.offset).take (P.cellsOf f.type)) = some y := by
  obtain ⟨xs, m, _, _, hl, hlen, hf⟩ := DataW.trod_struct ht h
  refine ⟨hl, fun i f hi => ?_⟩
  have h1 := hf i f (by simpa using hi)
  have hlt : i < xs.length := by have := (List.getElem?_eq_some_iff.1 hi).1; simp at hlen; omega
  rw [List.getElem?_eq_getElem hlt] at h1
  exact ⟨m, _, h1⟩
theorem list_choose {α : Type} (p : Nat → α → Prop) : ∀ n, (∀ i, i < n → ∃ x, p i x) → ∃ l : List α, l.length = n ∧ ∀ i x, l[i]? = some x → p i x
  | 0, _ => ⟨[], rfl, fun i x h => by simp at h⟩
  | n + 1, h => by
    obtain ⟨l, hl, hp⟩ := list_choose p n (fun i hi => h i (by omega))
    obtain ⟨x, hx⟩ := h n (by omega)
    refine ⟨l ++ [x], by simp [hl], fun i y hy => ?_⟩
    rcases Nat.lt_or_ge i n with hi | hi
    · rw [List.getElem?_append_left (by omega)] at hy; exact hp i y hy
    · have : i = n := by have := (List.getElem?_eq_some_iff.1 hy).1; simp at this; omega
      subst this
      rw [List.getElem?_append_right (by omega)] at hy
      simp [hl] at hy
      subst hy
      exact hx
theorem flat_at {sz : Nat} : ∀ (ls : List (List Value)), (∀ l ∈ ls, l.length = sz) → ls.flatten.length = ls.length * sz ∧ ∀ i l, ls[i]? = some l → (ls.flatten.drop (i * sz)).take sz = l
  | [], _ => ⟨by simp, fun i l h => by simp at h⟩
  | a :: r, h => by
    obtain ⟨h1, h2⟩ := flat_at r (fun l hl => h l (by simp [hl]))
    have ha := h a (by simp)
    refine ⟨by simp [h1, ha, Nat.add_mul, Nat.add_comm], fun i l hi => ?_⟩
    cases i with
    | zero => simp at hi; subst hi; simp [← ha]
    | succ i =>
      simp at hi
      rw [List.flatten_cons, show (i + 1) * sz = a.length + i * sz from by rw [ha, Nat.add_mul]; omega, ← List.drop_drop, List.drop_left]
      exact h2 i l hi
theorem rd_row {α : Type} {t e : TypeId} {sz n len cap : Nat} {A : Option Addr} {x : DataW H × List MemPlace} (ht : P.underlying t = some (.slice e)) (hsz : P.cellsOf e = sz) (hs0 : 0 < sz) (R : α → List Value → Prop)
    (hel : ∀ n cs x, DataW.trod enc P w base spare held n e cs = some x → ∃ y, R y cs) (h : DataW.trod enc P w base spare held n t [.slice A len cap] = some x) :
    ∃ l : List α, l.length = len ∧ len ≤ cap ∧ cap ≤ maxLen ∧ RowAt w A sz R l := by
  rcases open_slice ht h with ⟨h0, _⟩ | ⟨a, len', cap', m, nn, D, Pl, h0, _, hl, hm, hmm, _, hx⟩
  · simp at h0
    obtain ⟨rfl, rfl, rfl⟩ := h0
    exact ⟨[], rfl, Nat.le_refl _, Nat.zero_le _, [], by simp, ⟨0, CellsAt.nil _ _ _⟩, fun i x h => by simp at h⟩
  · simp at h0
    obtain ⟨rfl, rfl, rfl⟩ := h0
    have hmle : len ≤ m := by rw [hmm]; split <;> omega
    obtain ⟨cls, hcl, hcp⟩ := list_choose (fun i c => w.cells? base (a.add (i * sz)) sz = some c ∧ ∃ y, R y c) len (fun i hi => by
      obtain ⟨c, h1, h2⟩ := hx i (by omega)
      rw [hsz] at h1
      exact ⟨c, h1, hel _ _ _ h2⟩)
    obtain ⟨l, hll, hlp⟩ := list_choose (fun i y => ∃ c, cls[i]? = some c ∧ R y c) len (fun i hi => by
      have hc : cls[i]? = some cls[i] := List.getElem?_eq_getElem (by omega)
      obtain ⟨_, y, hy⟩ := hcp i _ hc
      exact ⟨y, _, hc, hy⟩)
    have hlen : ∀ c ∈ cls, c.length = sz := by
      intro c hc
      obtain ⟨i, hi⟩ := List.getElem?_of_mem hc
      exact (World.cells?_some (hcp i c hi).1).2.1
    obtain ⟨f1, f2⟩ := flat_at cls hlen
    refine ⟨l, hll, hl, hm, cls.flatten, by rw [f1, hcl, hll], sees_of_cells ?_, fun i y hy => ?_⟩
    · intro j u hj
      have hjl : j < cls.length * sz := by rw [← f1]; exact (List.getElem?_eq_some_iff.1 hj).1
      have hq : j / sz < cls.length := (Nat.div_lt_iff_lt_mul hs0).2 hjl
      have hc : cls[j / sz]? = some cls[j / sz] := List.getElem?_eq_getElem hq
      have h2 := f2 _ _ hc
      have hr : j % sz < sz := Nat.mod_lt _ hs0
      have h3 : cls[j / sz][j % sz]? = some u := by
        rw [← h2, List.getElem?_take, if_pos hr, List.getElem?_drop, Nat.mul_comm, Nat.div_add_mod]
        exact hj
      have h4 := (World.cells?_some (hcp _ _ hc).1).2.2 (j % sz) (by omega)
      have h5 : (a.add (j / sz * sz)).add (j % sz) = a.add j := by
        have : j / sz * sz + j % sz = j := by rw [Nat.mul_comm]; exact Nat.div_add_mod _ _
        unfold Addr.add
        by_cases h1 : j / sz * sz = 0 <;> by_cases h2 : j % sz = 0 <;> by_cases h3 : j = 0 <;> simp_all <;> omega
      rw [h5, h3] at h4
      exact h4
    · obtain ⟨c, hc, hR⟩ := hlp i y hy
      rw [f2 i c hc]
      exact hR
end
theorem list3 {cs : List Value} (h : cs.length = 3) : ∃ a b c, cs = [a, b, c] := by
  match cs, h with
  | [a, b, c], _ => exact ⟨a, b, c, rfl⟩
theorem list2 {cs : List Value} (h : cs.length = 2) : ∃ a b, cs = [a, b] := by
  match cs, h with
  | [a, b], _ => exact ⟨a, b, rfl⟩

/-- A string's one cell. -/
def RepStr (s : ByteArray) (cs : List Value) : Prop := cs = [.string s] ∧ s.size ≤ maxLen
theorem openStr {H : Type} {enc : TypeId × Value → H} {P : Program} {w : World} {base : Nat} {spare : Nat → Bool} {held : Bool} {t : TypeId} {n : Nat} {cs : List Value} {x : DataW H × List MemPlace} (ht : P.underlying t = some .string)
    (h : DataW.trod enc P w base spare held n t cs = some x) : ∃ y, RepStr y cs := rd_str ht h
theorem rowStr {w : World} {A : Option Addr} {ss : List ByteArray} (h : RowAt w A 1 RepStr ss) : Sees w A (ss.map Value.string) ∧ ∀ s ∈ ss, s.size ≤ maxLen := by
  obtain ⟨cs, hl, hs, hR⟩ := h
  have : cs = ss.map Value.string := by
    apply List.ext_getElem?
    intro i
    by_cases hi : i < ss.length
    · have h1 := hR i _ (List.getElem?_eq_getElem hi)
      simp only [Nat.mul_one] at h1
      have h2 : cs[i]? = ((cs.drop i).take 1)[0]? := by simp [List.getElem?_drop]
      rw [h2, h1.1]
      simp [List.getElem?_eq_getElem hi]
    · rw [List.getElem?_eq_none (by omega), List.getElem?_eq_none (by simp; omega)]
  subst this
  refine ⟨hs, fun s hm => ?_⟩
  obtain ⟨i, hi⟩ := List.getElem?_of_mem hm
  exact (hR i s hi).2
end Go.Proofs.Ytimhejjdgncdaaa
