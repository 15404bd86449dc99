/- A post, and a net: their values. -/
import Derived.Test.YtimhejjdgncdaaaMap
import Derived.Test.YtimhejjdgncdaaaTerm2
import Derived.Laws.StructEq
namespace Go.Proofs.Ytimhejjdgncdaaa
open Go.RowKit
set_option linter.unusedVariables false
set_option linter.unusedSimpArgs false

theorem ba_self (a : ByteArray) : (a == a) = true := (MapKept.bytes_beq _ _).2 rfl
structure PostV where
  fr : Int
  to : Int
  env : ByteArray
  deriving DecidableEq
def PostV.cells (p : PostV) : List Value := [.int .i64 p.fr, .int .i64 p.to, .string p.env]
def PostV.arr (p : PostV) : Array Value := p.cells.toArray
def PostV.val (p : PostV) : Value := .agg p.arr
def strV (s : ByteArray) : Value := .string s

theorem eq_post (a b : PostV) (w : World) : (Op.equal 23 a.val b.val).run Try.prog w = .ok (decide (a = b)) w := by
  obtain ⟨a1, a2, a3⟩ := a
  obtain ⟨b1, b2, b3⟩ := b
  simp only [PostV.val, PostV.arr, PostV.cells, Op.equal, Op.maxDepth]
  by_cases h1 : a1 = b1
  · subst h1
    by_cases h2 : a2 = b2
    · subst h2
      by_cases h3 : a3 = b3
      · subst h3
        go_simp
      · have : (a3.toList == b3.toList) = false := Bool.eq_false_iff.2 fun e => h3 ((MapKept.bytes_beq _ _).1 (by rw [beq_toListBytes]; exact e))
        go_simp
    · have : (a2 == b2) = false := by simpa using h2
      go_simp
  · have : (a1 == b1) = false := by simpa using h1
    go_simp
theorem chk_post' (e : Bool) (n : Nat) (a1 a2 : Int) (a3 : ByteArray) (w : World) : (Instr.checkKey e (n + 1 + 1) 23 (.agg #[.int .i64 a1, .int .i64 a2, .string a3])).run Try.prog w = .ok () w := by
  have c3 : ∀ v (w : World), (Instr.checkKey e (n + 1) 3 (.int .i64 v)).run Try.prog w = .ok () w := fun v w => by simp [Instr.checkKey, run_underlying Try.underlying3]
  have c9 : ∀ v (w : World), (Instr.checkKey e (n + 1) 9 (.string v)).run Try.prog w = .ok () w := fun v w => by simp [Instr.checkKey, run_underlying Try.underlying9]
  have p0 : ∀ w : World, (part 3 #[.int .i64 a1, .int .i64 a2, .string a3] 0).run Try.prog w = .ok (.int .i64 a1) w := fun w => run_part_plain w (by kernel_rfl) rfl
  have p1 : ∀ w : World, (part 3 #[.int .i64 a1, .int .i64 a2, .string a3] 1).run Try.prog w = .ok (.int .i64 a2) w := fun w => run_part_plain w (by kernel_rfl) rfl
  have p2 : ∀ w : World, (part 9 #[.int .i64 a1, .int .i64 a2, .string a3] 2).run Try.prog w = .ok (.string a3) w := fun w => run_part_plain w (by kernel_rfl) rfl
  unfold Instr.checkKey
  simp only [Sem.run_bind, run_underlying Try.underlying23, Result.andThen_ok]
  rw [← Array.forIn_toList]
  simp [List.forIn_cons, p0, p1, p2, c3, c9]
theorem chk_post (e : Bool) (a : PostV) (w : World) : (Instr.checkKey e 10000 23 a.val).run Try.prog w = .ok () w := chk_post' e 9998 a.fr a.to a.env w
theorem keys_post : KeysOk Try.prog 23 PostV.val where
  chk := chk_post
  bits a := by simp [PostV.val, PostV.arr, PostV.cells, Instr.sameBits, ba_self]
  find k b l w := by
    rw [run_findKey_eq w (by rw [Try.underlying23])]
    have H : ∀ (l : List (PostV × Int)) (b i : Nat), (Instr.findAsking 23 k.val (ents PostV.val b l) i).run Try.prog w = .ok ((findIn k i l).map fun x => (x.1, .int .i64 x.2)) w := by
      intro l
      induction l with
      | nil => intro b i; simp [ents, Instr.findAsking, findIn]
      | cons x r ih =>
        intro b i
        obtain ⟨k', v'⟩ := x
        simp only [ents, Instr.findAsking, Sem.run_bind, eq_post, Result.andThen_ok, findIn]
        by_cases hk : k = k'
        · simp [hk]
        · simp [hk, ih]
    exact H l b 0
theorem keys_str : KeysOk Try.prog 9 strV where
  chk e k w := by
    have := fun n => (show (Instr.checkKey e (n + 1) 9 (.string k)).run Try.prog w = .ok () w by simp [Instr.checkKey, run_underlying Try.underlying9])
    exact this 9999
  bits a := by simp [strV, Instr.sameBits, ba_self]
  find k b l w := by
    have H : ∀ (l : List (ByteArray × Int)) (b i : Nat), Instr.findNow .string (strV k) (ents strV b l) i = some ((findIn k i l).map fun x => (x.1, .int .i64 x.2)) := by
      intro l
      induction l with
      | nil => intro b i; simp [ents, Instr.findNow, findIn]
      | cons x r ih =>
        intro b i
        obtain ⟨k', v'⟩ := x
        by_cases hk : k = k'
        · subst hk
          simp [ents, Instr.findNow, findIn, strV, Instr.sameNow, ba_self]
        · have : (k == k') = false := Bool.eq_false_iff.2 fun e => hk ((MapKept.bytes_beq _ _).1 e)
          have ih' := ih (b + 1) (i + 1)
          simp only [strV] at ih'
          simp only [ents, Instr.findNow, findIn, strV, Instr.sameNow, this, if_neg hk]
          exact ih'
    exact MapKept.run_findKey Try.underlying9 (H l b 0)
end Go.Proofs.Ytimhejjdgncdaaa
