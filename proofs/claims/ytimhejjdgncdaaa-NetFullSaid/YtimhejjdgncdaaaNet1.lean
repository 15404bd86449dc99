/- A net: what it holds, and its small functions. -/
import Derived.Test.YtimhejjdgncdaaaNet0
import Derived.Test.YtimhejjdgncdaaaGate
import Derived.WideMake
namespace Go.Proofs.Ytimhejjdgncdaaa
open Go.RowKit
set_option linter.unusedVariables false
set_option linter.unusedSimpArgs false

/-- What a net has. -/
structure NetV where
  ps : List PostV
  ts : List Int
  cnt : List (PostV × Int)
  fst : List (ByteArray × Int)
def net0 : NetV := ⟨[], [], [], []⟩
def NetV.next (s : NetV) (p : PostV) : NetV :=
  ⟨s.ps ++ [p], s.ts ++ [valIn p s.cnt + 1], putIn p (valIn p s.cnt + 1) s.cnt, if hasIn p.env s.fst = true then s.fst else putIn p.env (s.ps.length : Int) s.fst⟩
def PostOk (p : PostV) : Prop := (-9223372036854775808 ≤ p.fr ∧ p.fr ≤ 9223372036854775807) ∧ (-9223372036854775808 ≤ p.to ∧ p.to ≤ 9223372036854775807) ∧ p.env.size ≤ maxLen
/-- Where it lies. -/
structure NetB where
  vp : Value
  vt : Value
  cg : Nat
  fg : Nat
def NetB.arr (B : NetB) : Array Value := #[B.vp, B.vt, .map (some B.cg), .map (some B.fg)]
def NetB.obj (B : NetB) : Obj := .cells B.arr 49
def cellsOf (l : List PostV) : List Value := l.flatMap PostV.cells
def intsOf (l : List Int) : List Value := l.map (Value.int .i64)
structure NetAt (w : World) (g : Nat) (B : NetB) (s : NetV) : Prop where
  box : Holds w g B.obj
  cnt : Holds w B.cg (objIn PostV.val s.cnt)
  fst : Holds w B.fg (objIn strV s.fst)
  ne : B.cg ≠ B.fg
  ps : w.ownsRow 0 23 3 B.vp s.ps.length (cellsOf s.ps)
  ts : w.ownsRow 0 3 1 B.vt s.ps.length (intsOf s.ts)
  len : s.ps.length ≤ 4096
  ok : ∀ p ∈ s.ps, PostOk p
  tok : ∀ t ∈ s.ts, 0 ≤ t ∧ t ≤ 4096
  cok : ∀ p, 0 ≤ valIn p s.cnt ∧ valIn p s.cnt ≤ s.ps.length
  tl : s.ts.length = s.ps.length
/-- The blocks that are its own. -/
def NetB.mine (B : NetB) (g : Nat) (k : Nat) : Prop := k = g ∨ k = B.cg ∨ k = B.fg ∨ B.vp.ownBlock = some k ∨ B.vt.ownBlock = some k
theorem NetAt.lt {w : World} {g : Nat} {B : NetB} {s : NetV} (h : NetAt w g B s) : ∀ k, B.mine g k → k < w.heap.size := by
  rintro k (rfl | rfl | rfl | e | e)
  · exact h.box.lt
  · exact h.cnt.lt
  · exact h.fst.lt
  · exact (h.ps.lt k e).2
  · exact (h.ts.lt k e).2
theorem ownsRow_but {w w1 : World} {p : Nat → Prop} {base size n : Nat} {e : TypeId} {v : Value} {xs : List Value} (h : w.ownsRow base e size v n xs) (k : But p w w1) (hp : ∀ j, v.ownBlock = some j → ¬ p j) : w1.ownsRow base e size v n xs := by
  obtain ⟨hl, h2⟩ := h
  refine ⟨hl, h2.imp id ?_⟩
  rintro ⟨g, cap, cur, rfl, h1, h3, h4⟩
  exact ⟨g, cap, cur, rfl, h1, k.blk h3 (hp g rfl), h4⟩
theorem NetAt.but {w w1 : World} {p : Nat → Prop} {g : Nat} {B : NetB} {s : NetV} (h : NetAt w g B s) (k : But p w w1) (hp : ∀ j, B.mine g j → ¬ p j) : NetAt w1 g B s where
  box := h.box.but k (hp _ (.inl rfl))
  cnt := h.cnt.but k (hp _ (.inr (.inl rfl)))
  fst := h.fst.but k (hp _ (.inr (.inr (.inl rfl))))
  ne := h.ne
  ps := ownsRow_but h.ps k (fun j e => hp j (.inr (.inr (.inr (.inl e)))))
  ts := ownsRow_but h.ts k (fun j e => hp j (.inr (.inr (.inr (.inr e)))))
  len := h.len
  ok := h.ok
  tok := h.tok
  cok := h.cok
  tl := h.tl
theorem NetAt.cell {w : World} {g : Nat} {B : NetB} {s : NetV} (h : NetAt w g B s) (j : Nat) (u : Value) (hj : B.arr[j]? = some u) : w.cell? ⟨g, j, none⟩ = some u := by rw [h.box.cl j]; exact hj
theorem row_val {w : World} {base n size : Nat} {e : TypeId} {v : Value} {xs : List Value} (h : w.ownsRow base e size v n xs) : ∃ A c, v = .slice A n c ∧ n ≤ c ∧ c ≤ 9223372036854775807 := by
  rcases h.2 with ⟨rfl, rfl⟩ | ⟨g, cap, cur, rfl, _, _, h1, h2, _⟩
  · exact ⟨none, 0, rfl, Nat.le_refl _, by omega⟩
  · exact ⟨_, cap, rfl, h1, by unfold maxLen at h2; omega⟩
attribute [local go_sem] run_makeMap_plain
theorem New_any (w : World) : Calls Try.prog 7 #[] w fun e w' => ∃ g B, e = .returned (.pointer (some ⟨g, 0, none⟩)) ∧ NetAt w' g B net0 ∧ But (fun _ => False) w w' ∧ ∀ k, B.mine g k → w.heap.size ≤ k := by
  have hw : But (fun _ => False) w (((w.alloc (.map #[] 0)).alloc (.map #[] 0)).alloc (.cells #[.slice none 0 0, .slice none 0 0, .map (some w.heap.size), .map (some (w.heap.size + 1))] 49)) := (((But.refl _ w).alloc _).alloc _).alloc _
  have h0 := Holds.n30 w (.map #[] 0) (.map #[] 0) (.cells #[.slice none 0 0, .slice none 0 0, .map (some w.heap.size), .map (some (w.heap.size + 1))] 49)
  have h1 := Holds.n31 w (.map #[] 0) (.map #[] 0) (.cells #[.slice none 0 0, .slice none 0 0, .map (some w.heap.size), .map (some (w.heap.size + 1))] 49)
  have h2 := Holds.n32 w (.map #[] 0) (.map #[] 0) (.cells #[.slice none 0 0, .slice none 0 0, .map (some w.heap.size), .map (some (w.heap.size + 1))] 49)
  have HW := Lib.hid hw
  have H0 := Lib.hid h0
  have H1 := Lib.hid h1
  have H2 := Lib.hid h2
  clear hw h0 h1 h2
  go_enter Try.func7, Try.ntmps7
  go_wp2
  go_ret
  refine ⟨w.heap.size + 1 + 1, ⟨.slice none 0 0, .slice none 0 0, w.heap.size, w.heap.size + 1⟩, rfl, ?_, HW.out, ?_⟩
  · exact { box := H2.out, cnt := H0.out, fst := H1.out, ne := by simp, ps := World.ownsRow_nil _ _ _ _, ts := World.ownsRow_nil _ _ _ _, len := by simp [net0], ok := by simp [net0], tok := by simp [net0], cok := fun p => by simp [net0, valIn, findIn], tl := rfl }
  · rintro k (rfl | rfl | rfl | e | e)
    · omega
    · simp
    · simp
    · cases e
    · cases e
theorem org_any (n : Int) (w : World) (hn : -9223372036854775808 ≤ n ∧ n ≤ 9223372036854775807) : Calls Try.prog 20 #[.int .i64 n] w fun e w' => e = .returned (.bool (decide (0 ≤ n ∧ n < 8))) ∧ w' = w := by
  by_cases h0 : 0 ≤ n
  · by_cases h8 : n < 8
    · have hd : decide (0 ≤ n ∧ n < 8) = true := decide_eq_true ⟨h0, h8⟩
      rw [hd]
      clear hd
      go_enter Try.func20, Try.ntmps20
      go_wp2
      go_ret
      exact ⟨rfl, rfl⟩
    · have hd : decide (0 ≤ n ∧ n < 8) = false := decide_eq_false (fun h => h8 h.2)
      rw [hd]
      clear hd
      go_enter Try.func20, Try.ntmps20
      go_wp2
      go_ret
      exact ⟨rfl, rfl⟩
  · have hd : decide (0 ≤ n ∧ n < 8) = false := decide_eq_false (fun h => h0 h.1)
    rw [hd]
    clear hd
    go_enter Try.func20, Try.ntmps20
    go_wp2
    go_ret
    exact ⟨rfl, rfl⟩
theorem Len_any {w : World} {g : Nat} {B : NetB} {s : NetV} (h : NetAt w g B s) : Calls Try.prog 9 #[.pointer (some ⟨g, 0, none⟩)] w fun e w' => e = .returned (.int .i64 s.ps.length) ∧ w' = w := by
  obtain ⟨A, c, ev, h1, h2⟩ := row_val h.ps
  have c0 : w.cell? ⟨g, 0, none⟩ = some B.vp := h.cell 0 _ rfl
  rw [ev] at c0
  clear h
  generalize s.ps.length = n at *
  go_enter Try.func9, Try.ntmps9
  go_wp2
  go_ret
  exact ⟨rfl, rfl⟩
end Go.Proofs.Ytimhejjdgncdaaa
