/- The law's own 'heavy'; rows of posts that came in. -/
import Derived.Test.YtimhejjdgncdaaaNet10
namespace Go.Proofs.Ytimhejjdgncdaaa
open Go.RowKit
set_option linter.unusedVariables false
set_option linter.unusedSimpArgs false

def RepPost (p : PostV) (cs : List Value) : Prop := cs = p.cells ∧ PostOk p
/-- Posts that came in. -/
def PostsIn (w : World) (A : Option Addr) (l : List PostV) : Prop := ∀ (i : Nat) (x : PostV), l[i]? = some x → PostOk x ∧ ∃ g off, A = some ⟨g, off, none⟩ ∧ g < w.heap.size ∧ w.cell? ⟨g, off + i * 3, none⟩ = some (.int .i64 x.fr) ∧ w.cell? ⟨g, off + i * 3 + 1, none⟩ = some (.int .i64 x.to) ∧ w.cell? ⟨g, off + i * 3 + 2, none⟩ = some (.string x.env)
theorem PostsIn.of_row {w : World} {A : Option Addr} {l : List PostV} (h : RowAt w A 3 RepPost l) : PostsIn w A l := fun i x hi => by
  obtain ⟨g, off, c, hA, hg, ⟨rfl, ho⟩, _, hc⟩ := h.elem (by decide) i x hi
  exact ⟨ho, g, off, hA, hg, hc 0 _ rfl, hc 1 _ rfl, hc 2 _ rfl⟩
theorem PostsIn.but {w w1 : World} {A : Option Addr} {l : List PostV} {p : Nat → Prop} (h : PostsIn w A l) (k : But p w w1) (hp : ∀ i, p i → w.heap.size ≤ i) : PostsIn w1 A l := fun i x hi => by
  obtain ⟨ho, g, off, hA, hg, c0, c1, c2⟩ := h i x hi
  have hn : ¬ p g := fun f => by have := hp g f; omega
  exact ⟨ho, g, off, hA, Nat.lt_of_lt_of_le hg k.size, k.cell c0 hn, k.cell c1 hn, k.cell c2 hn⟩
def heavyB (l : List PostV) : Bool := decide (120 < l.length) || l.any fun p => decide (2048 < p.env.size)
theorem heavyB_no {l : List PostV} (h : heavyB l = false) : l.length ≤ 120 ∧ ∀ p ∈ l, p.env.size ≤ 2048 := by
  simp only [heavyB, Bool.or_eq_false_iff, decide_eq_false_iff_not, List.any_eq_false, decide_eq_true_eq] at h
  exact ⟨by omega, fun p hp => by have := h.2 p hp; omega⟩
set_option maxHeartbeats 1000000 in
theorem heavy30_any {w : World} {A : Option Addr} {n c : Nat} {l : List PostV} (h : PostsIn w A l) (hl : l.length = n) (hn : n ≤ c) (hc : c ≤ 9223372036854775807) :
    Calls Try.prog 12 #[.slice A n c] w fun e w' => e = .returned (.bool (heavyB l)) ∧ w' = w := by
  have H := Lib.hid h
  have HL := Lib.hid hl
  by_cases h120 : 120 < n
  · have e : heavyB l = true := by unfold heavyB; rw [hl, decide_eq_true h120]; rfl
    rw [e]
    clear h hl e
    go_enter Try.func12, Try.ntmps12
    go_wp2
    go_ret
    exact ⟨rfl, rfl⟩
  · have HN := Lib.hid (show ∀ k : Nat, (∀ x ∈ l.take k, x.env.size ≤ 2048) → n ≤ k → heavyB l = false from fun k hx hk => by
      rw [List.take_of_length_le (by omega)] at hx
      simp only [heavyB, Bool.or_eq_false_iff, decide_eq_false_iff_not, List.any_eq_false, decide_eq_true_eq]
      exact ⟨by omega, fun x hxm => by have := hx x hxm; omega⟩)
    have HY := Lib.hid (show ∀ x ∈ l, 2048 < x.env.size → heavyB l = true from fun x hx hb => by
      unfold heavyB
      rw [Bool.or_eq_true]
      exact .inr (List.any_eq_true.2 ⟨x, hx, decide_eq_true hb⟩))
    clear h hl
    go_enter Try.func12, Try.ntmps12
    go_wp2
    go_loopw [3] (fun i wr => ∃ k : Nat, k ≤ n ∧ i = .int .i64 k ∧ (∀ x ∈ l.take k, x.env.size ≤ 2048) ∧ wr = w) (fun i _ => n - (intOf i).toNat)
    case atStart => exact ⟨0, Nat.zero_le _, rfl, by simp, rfl⟩
    case round =>
      obtain ⟨k, hk, rfl, hx, rfl⟩ := hrel
      have HX := Lib.hid hx
      clear hx
      by_cases hlt : k < n
      · have hkl : k < l.length := by rw [HL.out]; exact hlt
        obtain ⟨p, hp⟩ : ∃ p, l[k]? = some p := ⟨_, List.getElem?_eq_getElem hkl⟩
        obtain ⟨ho, g, off, rfl, hg, c0, c1, c2⟩ := H.out k p hp
        have hm : p ∈ l := List.mem_of_getElem? hp
        have HP := Lib.hid hp
        have HM := Lib.hid hm
        clear hp hm ho c0 c1
        by_cases hb : 2048 < p.env.size
        · go_wp2
          go_ret
          exact ⟨by rw [HY.out p HM.out hb]; rfl, rfl⟩
        · go_wp2
          go_roundw
          case rel =>
            refine ⟨k + 1, by omega, rfl, fun x hx => ?_, by first | rfl | trivial⟩
            rw [List.take_succ_eq_append_getElem (by rw [HL.out]; exact hlt)] at hx
            rcases List.mem_append.1 hx with h | h
            · exact HX.out x h
            · have hpe := HP.out
              rw [List.getElem?_eq_getElem (by rw [HL.out]; exact hlt)] at hpe
              simp only [List.mem_cons, List.not_mem_nil, or_false] at h
              rw [h, Option.some.inj hpe]; omega
          case measure => simp [intOf]; omega
      · obtain rfl : k = n := by omega
        go_wp2
        go_ret
        exact ⟨by rw [HN.out k HX.out (Nat.le_refl _)]; rfl, rfl⟩
end Go.Proofs.Ytimhejjdgncdaaa
