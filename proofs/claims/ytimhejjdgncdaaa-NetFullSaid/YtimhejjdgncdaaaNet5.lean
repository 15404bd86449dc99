/- A net: the iterator over the numbers of the posts that are so. -/
import Derived.RangeFuncNested
import Derived.RangeFuncBound
import Derived.RangeFuncCalls
import Derived.RangeFuncLeaves
import Derived.Shelf.Abstract
import Derived.Shelf.RegionOpen
import Derived.OwnWalkIn
import Derived.TacticsInMore
import Derived.LoopNIn
import Derived.LoopIn
import Derived.Test.YtimhejjdgncdaaaRange
import Derived.Test.YtimhejjdgncdaaaNet4
namespace Go.Proofs.Ytimhejjdgncdaaa
open Go.RowKit Go.Shelf
set_option linter.unusedVariables false
set_option linter.unusedSimpArgs false
attribute [local go_sem] Oper.semAt_some
set_option maxHeartbeats 400000

theorem cellLt' {w : World} {g o : Nat} {v : Value} (hc : w.cell? ⟨g, o, none⟩ = some v) : g < w.heap.size := by
  rcases Nat.lt_or_ge g w.heap.size with h | h
  · exact h
  · exfalso
    have : w.heap[g]? = none := by simp; omega
    simp [World.cell?, this] at hc
/-- The posts lie in blocks that q does not name. -/
def PostsAt (q : Nat → Prop) (w : World) (A : Option Addr) (l : List PostV) : Prop := ∀ (i : Nat) (x : PostV), l[i]? = some x → ∃ g, A = some ⟨g, 0, none⟩ ∧ ¬ q g ∧ w.cell? ⟨g, i * 3, none⟩ = some (.int .i64 x.fr) ∧ w.cell? ⟨g, i * 3 + 1, none⟩ = some (.int .i64 x.to) ∧ w.cell? ⟨g, i * 3 + 2, none⟩ = some (.string x.env)
theorem PostsAt.but {q p : Nat → Prop} {w w1 : World} {A : Option Addr} {l : List PostV} (h : PostsAt q w A l) (k : But p w w1) (hp : ∀ i, p i → q i) : PostsAt q w1 A l := fun i x hi => by
  obtain ⟨g, hA, hg, c0, c1, c2⟩ := h i x hi
  exact ⟨g, hA, hg, k.cell c0 (fun f => hg (hp _ f)), k.cell c1 (fun f => hg (hp _ f)), k.cell c2 (fun f => hg (hp _ f))⟩
/-- The numbers of those that are so. -/
def nums (f : Nat → PostV → Bool) (ps : List PostV) (n : Nat) : List Nat := (List.range n).filter fun k => match ps[k]? with | some p => f k p | none => false
theorem nums_step {f : Nat → PostV → Bool} {ps : List PostV} {n : Nat} {p : PostV} (h : ps[n]? = some p) : nums f ps (n + 1) = nums f ps n ++ (if f n p then [n] else []) := by
  unfold nums
  rw [List.range_succ, List.filter_append]
  cases hf : f n p <;> simp [List.filter_cons, h, hf]
theorem nums_le (f : Nat → PostV → Bool) (ps : List PostV) (n : Nat) : (nums f ps n).length ≤ n := by
  have := List.length_filter_le (fun k => match ps[k]? with | some p => f k p | none => false) (List.range n)
  simpa [nums] using this
theorem nums_prefix (f : Nat → PostV → Bool) (ps : List PostV) {n m : Nat} (h : n ≤ m) : nums f ps n <+: nums f ps m := by
  obtain ⟨k, rfl⟩ := Nat.exists_eq_add_of_le h
  unfold nums
  rw [List.range_add, List.filter_append]
  exact List.prefix_append _ _
theorem hmakeFunc : ∀ (fn : Fn) (first cap : Array Value) (w : World), (Instr.makeFunc fn first cap).run Try.prog w = .ok (.func fn first cap) w := fun _ _ _ _ => rfl
theorem that_any (g F : Nat) (lb : Array Value) (w : World) : Calls Try.prog 22 #[.pointer (some ⟨g, 0, none⟩), .func (.func F) #[] lb] w fun e w' => ∃ B1 B2, e = .returned (.func (.func 28) #[] #[.pointer (some ⟨B1, 0, none⟩), .pointer (some ⟨B2, 0, none⟩)]) ∧
    But (fun _ => False) w w' ∧ w.heap.size ≤ B1 ∧ w.heap.size ≤ B2 ∧ Holds w' B1 (.cells #[.pointer (some ⟨g, 0, none⟩)] 26) ∧ Holds w' B2 (.cells #[.func (.func F) #[] lb] 54) := by
  have hmf := hmakeFunc
  have H0 := Lib.hid (((But.refl (fun _ => False) w).alloc (.cells #[.pointer (some ⟨g, 0, none⟩)] 26)).alloc (.cells #[.func (.func F) #[] lb] 54))
  have H1 := Lib.hid (Holds.n20 w (.cells #[.pointer (some ⟨g, 0, none⟩)] 26) (.cells #[.func (.func F) #[] lb] 54))
  have H2 := Lib.hid (Holds.n21 w (.cells #[.pointer (some ⟨g, 0, none⟩)] 26) (.cells #[.func (.func F) #[] lb] 54))
  go_enter Try.func22, Try.ntmps22
  go_wp2
  go_ret
  exact ⟨_, _, rfl, H0.out, Nat.le_refl _, Nat.le_succ _, H1.out, H2.out⟩
set_option maxRecDepth 100000 in
set_option maxHeartbeats 2000000 in
theorem that1_in (n : Nat) (hn : 1 ≤ n) (bq : Nat → Prop) (l B1 B2 g F : Nat) (lb : Array Value) (A : Option Addr) (len cap : Nat) (ps : List PostV) (f : Nat → PostV → Bool) (hlen : ps.length = len) (hc1 : cap ≤ 9223372036854775807) (hlc : len ≤ cap) (J Jx : List Nat → World → Prop) (W : World)
    (hY : ∀ pre x W1, x < len → J pre W1 → pre.length < len → YieldAt Fence.wide (n - 1) Try.prog l #[.int .i64 (x : Nat)] W1 fun e W' =>
      (e = .returned (.bool true) ∧ J (pre ++ [x]) W' ∧ But bq W1 W') ∨ (e = .returned (.bool false) ∧ Jx (pre ++ [x]) W' ∧ But bq W1 W'))
    (heg : ∀ args w, (callFunc F args).run Try.prog w = .ok (.enter F args) w) {K : World → Prop} (hK : ∀ V V', K V → But bq V V' → K V') (hK0 : K W)
    (hF : ∀ k p V, ps[k]? = some p → K V → Calls Try.prog F (#[.int .i64 (k : Nat), p.val] ++ lb) V fun e V' => e = .returned (.bool (f k p)) ∧ But (fun _ => False) V V')
    (hJ : OwnFrom W.heap.size J) (hb1 : ¬ bq B1) (hb2 : ¬ bq B2) (hbg : ¬ bq g) (h1 : W.cell? ⟨B1, 0, none⟩ = some (.pointer (some ⟨g, 0, none⟩))) (h2 : W.cell? ⟨B2, 0, none⟩ = some (.func (.func F) #[] lb)) (h3 : W.cell? ⟨g, 0, none⟩ = some (.slice A len cap)) (hE : PostsAt bq W A ps) (h0 : J [] W) :
    CallsIn Fence.wide n Try.prog 28 #[.func (.yield l) #[] #[], .pointer (some ⟨B1, 0, none⟩), .pointer (some ⟨B2, 0, none⟩)] W fun e W' => (∃ v, e = .returned v) ∧
      ((∃ ys, ys = nums f ps len ∧ J ys W') ∨ (∃ pre, pre <+: nums f ps len ∧ Jx pre W')) := by
  have HE := Lib.hid hE
  have HL := Lib.hid hlen
  clear hE hlen
  refine callsIn_of_wp Try.func28 rfl trivial ?_ rfl
  simp only [Try.ntmps28, List.size_toArray, List.length_cons, List.length_nil, Nat.reduceAdd, Nat.reduceSub, Array.replicate_succ, Array.replicate_zero, List.push_toArray, List.append_toArray, List.nil_append, List.cons_append]
  gi_wp2
  gi_loopw [13] (fun i wr => ∃ q : Nat, q ≤ len ∧ i = .int .i64 q ∧ J (nums f ps q) wr ∧ But bq W wr)
    (fun i _ => len - (intOf i).toNat)
  case atStart => exact ⟨0, Nat.zero_le _, rfl, h0, But.refl _ _⟩
  case round =>
    obtain ⟨q, hq, rfl, hJs, hnx⟩ := hrel
    have hb1' := hnx.cell h1 hb1
    have hb2' := hnx.cell h2 hb2
    by_cases hlt : q < len
    · have hqL : q < ps.length := by rw [HL.out]; exact hlt
      obtain ⟨p, hp⟩ : ∃ p, ps[q]? = some p := ⟨_, List.getElem?_eq_getElem hqL⟩
      obtain ⟨gp, rfl, hg, c0, c1, c2⟩ := (HE.out.but hnx (fun _ h => h)) q p hp
      have hst := nums_step (f := f) hp
      have CF := fun V hV => hF q p V hp hV
      have HC := Lib.hid CF
      have HS := Lib.hid hst
      have hbb : B2 < wr.heap.size := Nat.lt_of_lt_of_le (cellLt' h2) hnx.size
      have a2 : (wr.alloc p.obj).cell? ⟨B2, 0, none⟩ = _ := cell_al _ hb2'
      have HN := Lib.hid hnx
      have HJS := Lib.hid hJs
      have HKr := Lib.hid (hK _ _ hK0 hnx)
      have hoe : Obj.cells #[Value.int .i64 p.fr, .int .i64 p.to, .string p.env] 23 = p.obj := rfl
      have P0 := Holds.new wr p.obj
      have q0 : (wr.alloc p.obj).cell? ⟨wr.heap.size, 0, none⟩ = some (.int .i64 p.fr) := P0.cl 0
      have q1 : (wr.alloc p.obj).cell? ⟨wr.heap.size, 1, none⟩ = some (.int .i64 p.to) := P0.cl 1
      have q2 : (wr.alloc p.obj).cell? ⟨wr.heap.size, 2, none⟩ = some (.string p.env) := P0.cl 2
      clear CF hst hnx hJs P0
      gi_wp2
      refine ⟨trivial, ?_⟩
      refine (callsIn_wide.2 (HC.out _ (hK _ _ HKr.out ((But.refl bq wr).alloc p.obj)))).mono ?_
      rintro e W3 ⟨rfl, b3⟩
      have hJ3 := hJ _ _ W3 none HJS.out (⟨b3.os, b3.tape, b3.output, by have := b3.size; simp at this; omega, fun k hk _ => (b3.block k (by simp; omega) (fun f => f)).trans (Below.heap_alloc _ _ _ hk)⟩ : wr.grownBy W3 none) (fun r e => by cases e)
      have HB3 := Lib.hid (((HN.out.alloc p.obj).trans (b3.mono (q := bq) (fun _ f => f.elim))))
      clear b3
      cases hfb : f q p with
      | true =>
        rw [hfb] at HS
        have hlen' : (nums f ps q).length < len := Nat.lt_of_le_of_lt (nums_le f ps q) hlt
        obtain ⟨fn, tmps, assign, body, hy, hR⟩ := hY _ q W3 hlt hJ3 hlen'
        try dsimp only at hy hR
        clear hfb
        gi_wp2
        refine hR.mono ?_
        rintro e W4 (⟨rfl, hJ4, hk4⟩ | ⟨rfl, hJx4, hk4⟩)
        · gi_wp2
          go_roundw
          case rel => exact ⟨q + 1, by omega, rfl, by rw [HS.out]; exact hJ4, HB3.out.trans hk4⟩
          case measure => simp [intOf]; omega
        · gi_wp2
          refine bodyPost_ret (results_none rfl _ _ _) rfl ?_
          refine ⟨⟨_, rfl⟩, .inr ⟨_, ?_, hJx4⟩⟩
          have := nums_prefix f ps (n := q + 1) (m := len) hlt
          rw [HS.out] at this
          exact this
      | false =>
        rw [hfb] at HS
        have HJ3 := Lib.hid hJ3
        clear hfb hJ3
        gi_wp2
        refine ⟨fun _ h => (by cases h), ?_⟩
        gi_wp2
        go_roundw
        case rel => exact ⟨q + 1, by omega, rfl, by rw [HS.out]; simpa using HJ3.out, HB3.out⟩
        case measure => simp [intOf]; omega
    · obtain rfl : q = len := by omega
      gi_wp2
      go_end0
      exact ⟨⟨_, rfl⟩, .inl ⟨_, rfl, hJs⟩⟩
end Go.Proofs.Ytimhejjdgncdaaa
