/- A loop over an iterator that itself may loop over an iterator: the iterator's contract asks of the caller's invariant that it abides the turn of any block that is no cells and was laid since the iterator's call began. -/
import Derived.Test.YtimhejjdgncdaaaWide
namespace Go.Proofs.Ytimhejjdgncdaaa
open Go.RowKit
set_option linter.unusedVariables false
set_option linter.unusedSimpArgs false

/-- The iterator's contract: a round that goes on keeps all blocks that q does not name. -/
def SeqO {α : Type} (n : Nat) (P : Program) (g : Nat) (lb : Array Value) (encs : α → Array Value) (q : Nat → Prop) (H : World → Prop) (S Sp : List α → Prop) (N : Nat) (w : World) : Prop :=
  ∀ (l : Nat) (J Jx : List α → World → Prop) (W : World), Below w.heap.size w W → H W → OwnFrom W.heap.size J → OwnFrom W.heap.size Jx →
    (∀ pre x W1, J pre W1 → pre.length < N → YieldAt Fence.wide (n - 1) P l (encs x) W1 fun e W' =>
      (e = .returned (.bool true) ∧ J (pre ++ [x]) W' ∧ But q W1 W') ∨ (e = .returned (.bool false) ∧ Jx (pre ++ [x]) W' ∧ But q W1 W')) →
    J [] W →
    CallsIn Fence.wide n P g (#[.func (.yield l) #[] #[]] ++ lb) W fun e W' => (∃ v, e = .returned v) ∧ ((∃ xs, S xs ∧ J xs W') ∨ (∃ pre, Sp pre ∧ Jx pre W'))
/-- How the body of a round may be left. -/
def leftBy {α : Type} (q : Nat → Prop) (I : List α → World → Prop) (Ix : Code → List α → World → Prop) (xs : List α) (W : World) : Exit → Act → World → Prop
  | .normal, _, W' => But q W W' ∧ I xs W'
  | .ret, _, W' => But q W W' ∧ Ix .ret xs W'
  | .exit id, _, W' => But q W W' ∧ Ix (.exit id) xs W'
  | .goto t, _, W' => But q W W' ∧ Ix (.goto t) xs W'
  | .panic _, _, _ => False
  | .outgrown, _, _ => False
theorem not_two {q : Nat → Prop} {b B : Nat} (h : B < b) (hq : ¬ q B) : ¬ ((fun k => q k ∨ k = b ∨ k = b + 1) B) := by
  rintro (h | h | h)
  · exact hq h
  · omega
  · omega
/-- Whether one of them is such a one. -/
def AnyIs {α : Type} (p : α → Bool) (b : Bool) (l : List α) : Prop := l.any p = b
theorem AnyIs.out {α : Type} {p : α → Bool} {b : Bool} {l : List α} (h : AnyIs p b l) : l.any p = b := h
theorem OwnFrom.walks {β : Type} {B : Nat} {J : β → World → Prop} (h : OwnFrom B J) : AbidesFrom B J := fun s W W' row hs hg hr =>
  h s W W' row hs hg (fun r e => ⟨(hr r e).1, by obtain ⟨o, h1, h2⟩ := (hr r e).2; exact ⟨o, h1, Obj.not_cells_of_walk h2⟩⟩)
theorem OwnFrom.more {β : Type} {B B' : Nat} {J : β → World → Prop} (h : OwnFrom B J) (hB : B ≤ B') : OwnFrom B' J := fun s W W' row hs hg hr => h s W W' row hs hg (fun r e => ⟨Nat.le_trans hB (hr r e).1, (hr r e).2⟩)
/-- A block below B, or one of cells, abides. -/
theorem ownFrom_lies {β : Type} {B : Nat} (f : β → Prop) (g : Nat) (o : β → Obj) (hg : g < B) : OwnFrom B (fun s W => f s ∧ Holds W g (o s)) := fun s X Y row hs hgr hr =>
  ⟨hs.1, (hgr.block g (blkLt hs.2) (fun e => by have := (hr g e.symm).1; omega)).trans hs.2⟩
theorem ownFrom_ex {β γ : Type} {B : Nat} {J : γ → β → World → Prop} (h : ∀ c, OwnFrom B (J c)) : OwnFrom B (fun s W => ∃ c, J c s W) := fun s X Y row hs hg hr => by
  obtain ⟨c, hc⟩ := hs; exact ⟨c, h c s X Y row hc hg hr⟩

theorem range_kept {α : Type} {n : Nat} {P : Program} {g : Operand} {ps : Array Tmp} {assign body : Code} {Q : Exit → Act → World → Prop} {a : Act} {w : World} (h1 : 1 ≤ n)
    {gf : Nat} {lb : Array Value} (hg : a.eval g = .func (.func gf) #[] lb) (eg : ∀ args w, (callFunc gf args).run P w = .ok (.enter gf args) w)
    {encs : α → Array Value} {q : Nat → Prop} {H : World → Prop} (hq : ∀ k, q k → k ≠ w.heap.size ∧ k ≠ w.heap.size + 1) (hH : ∀ V, V.heap.size = w.heap.size + 2 → H V) {S Sp : List α → Prop} {N : Nat} (hseq : SeqO (n - 1) P gf lb encs (fun k => q k ∨ k = w.heap.size ∨ k = w.heap.size + 1) H S Sp N w) (hps : ∀ x, (encs x).size = ps.size)
    (I : List α → World → Prop) (Ix : Code → List α → World → Prop) (hI : OwnFrom w.heap.size I) (hIx : ∀ c, OwnFrom w.heap.size (Ix c)) (h0 : I [] w)
    (hround : ∀ (l : Nat) (pre : List α) (x : α) (W : World), I pre W → (pre.length < N ∧ w.heap.size + 2 ≤ W.heap.size) → assign.wpIn (Fence.wide.inRound l) (n - 1 - 1) P
      (Exit.then (fun a' W' => But (fun _ => False) W W' ∧ ∀ W2, But (fun k => k = l) W' W2 → (∀ g o, o.isCells = true → Holds W' g o → Holds W2 g o) → I pre W2 → body.wpIn (Fence.wide.inRound l) (n - 1 - 1) P (leftBy q I Ix (pre ++ [x]) W2) a' W2) (fun _ _ _ => False))
      { tmps := (ps.zip (encs x)).foldl (fun t (p, v) => t.setIfInBounds p v) a.tmps, defers := [] } W)
    (hdone : ∀ (D : Nat) (xs : List α) (W : World), w.heap.size ≤ D → S xs → I xs W → W.heap[D]? = some (.deferred (some [])) → Q .normal { a with defers := { target := .collected D, args := #[] } :: a.defers } W)
    (hstop : ∀ (D : Nat) (c : Code) (pre : List α) (W : World), w.heap.size ≤ D → Sp pre → Ix c pre W → W.heap[D]? = some (.deferred (some [])) → c.wpIn Fence.wide n P Q { a with defers := { target := .collected D, args := #[] } :: a.defers } W) :
    (Code.rangeFunc g ps assign body).wpIn Fence.wide n P Q a w := by
  refine wpIn_rangeFunc fun fn hfn => ?_
  -- the record, in the state st with the pending jump pe
  obtain ⟨R, hR⟩ : ∃ R : LoopState → Option Code → Loop, R = fun st pe => { state := st, pending := pe, fn, tmps := a.tmps, params := ps, assign, body, defers := w.heap.size } := ⟨_, rfl⟩
  obtain ⟨V, hV⟩ : ∃ V, (w.alloc (.deferred (some []))).alloc (.loop (R .ready none)) = V := ⟨_, rfl⟩
  have hl : Holds V (w.heap.size + 1) (.loop (R .ready none)) := by rw [← hV]; exact Holds.n21 w _ _
  have hd : Holds V w.heap.size (.deferred (some [])) := by rw [← hV]; exact Holds.n20 w _ _
  have hsz : V.heap.size = w.heap.size + 2 := by rw [← hV]; simp
  have hIV : I [] V := by rw [← hV]; exact hI.alloc _ (hI.alloc _ h0)
  have hbV : Below w.heap.size w V := by rw [← hV]; exact ((Below.refl _ w).alloc (Nat.le_refl _) _).alloc (by simp) _
  refine ⟨w.heap.size + 1, [{ target := .collected w.heap.size, args := #[] }], V, { target := .fn (.func gf) lb, args := #[.func (.yield (w.heap.size + 1)) #[] #[]] }, V, gf, #[.func (.yield (w.heap.size + 1)) #[] #[]] ++ lb, V, ?_, ?_, fun _ _ => trivial, ?_, fun _ => h1, ?_⟩
  · show (Instr.enterLoop fn a.tmps ps assign body none).run P w = _
    rw [← hV, hR]; exact run_enterLoop_outer _ _ _ _ _
  · simp only [resolve, hg]; simp [go_sem]
  · simp [invoke, go_sem, eg]
  -- the two blocks of book-keeping are beside whatever the iterator turns
  have hlow : ∀ {X : World} {row : Option Nat}, (∀ r, row = some r → V.heap.size ≤ r ∧ ∃ o : Obj, X.heap[r]? = some o ∧ o.isCells = false) → ∀ r, row = some r → w.heap.size ≤ r ∧ ∃ o : Obj, X.heap[r]? = some o ∧ o.isCells = false :=
    fun h r e => ⟨by have := (h r e).1; omega, (h r e).2⟩
  have hbook : ∀ {X Y : World} {row : Option Nat} {k : Nat} {o : Obj}, X.grownBy Y row → (∀ r, row = some r → V.heap.size ≤ r ∧ ∃ o : Obj, X.heap[r]? = some o ∧ o.isCells = false) → k < V.heap.size → Holds X k o → Holds Y k o :=
    fun hgr hr hk hh => (hgr.block _ (blkLt hh) (fun e => by have := (hr _ e.symm).1; omega)).trans hh
  refine (hseq (w.heap.size + 1)
    (fun pre W => I pre W ∧ Holds W (w.heap.size + 1) (.loop (R .ready none)) ∧ Holds W w.heap.size (.deferred (some [])))
    (fun pre W => ∃ c, Ix c pre W ∧ Holds W (w.heap.size + 1) (.loop (R .done (some c))) ∧ Holds W w.heap.size (.deferred (some [])))
    V hbV (hH V hsz) (fun s X Y row hs hgr hr => ⟨hI s X Y row hs.1 hgr (hlow hr), hbook hgr hr (by omega) hs.2.1, hbook hgr hr (by omega) hs.2.2⟩)
    (fun s X Y row hs hgr hr => by obtain ⟨c, i1, i2, i3⟩ := hs; exact ⟨c, hIx c s X Y row i1 hgr (hlow hr), hbook hgr hr (by omega) i2, hbook hgr hr (by omega) i3⟩)
    ?_ ⟨hIV, hl, hd⟩).mono ?_
  · rintro pre x W ⟨hi, hl, hd⟩ hlen
    have hy := run_yield (P := P) (args := encs x) hl (by rw [hR]; exact hps x)
    rw [hR] at hy
    refine ⟨fn, _, assign, body, hy, roundIn_of_wpIn hfn (wpIn_mono (hround _ pre x W hi ⟨hlen, by have := blkLt hl; omega⟩) ?_)⟩
    rintro e a' W' hp
    cases e with
    | normal =>
      obtain ⟨hb, hbody⟩ := hp
      have hl' := hl.but hb (fun f => f)
      have hd' := hd.but hb (fun f => f)
      refine ⟨_, run_beginRound hl' (by rw [hR]), ?_⟩
      have hb2 : But (fun k => k = w.heap.size + 1) W' (W'.putObj (w.heap.size + 1) (.loop { R .ready none with state := .busy })) := ⟨rfl, rfl, rfl, by simp, fun k hk hn => World.putObj_heap_other hn⟩
      have hl2 : Holds (W'.putObj (w.heap.size + 1) (.loop { R .ready none with state := .busy })) (w.heap.size + 1) (.loop { R .ready none with state := .busy }) := World.putObj_heap_same (blkLt hl')
      have hd2 := hd'.but hb2 (by omega)
      have hi' : I pre W' := hI pre W W' none hi ⟨hb.os, hb.tape, hb.output, hb.size, fun k hk _ => hb.block k hk (fun f => f)⟩ (fun r e => by cases e)
      refine wpIn_mono (hbody _ hb2 (fun g o ho hh => hh.but hb2 (fun e => by subst e; cases hl'.symm.trans hh; cases ho)) (hI.putObj _ hi' (Nat.le_succ _) hl' rfl)) ?_
      have fin : ∀ (jump : Option Code) (W3 : World), But q (W'.putObj (w.heap.size + 1) (.loop { R .ready none with state := .busy })) W3 →
          (Instr.endRound (w.heap.size + 1) jump).run P W3 = .ok (.bool jump.isNone) (W3.putObj (w.heap.size + 1) (.loop (R (if jump.isNone then .ready else .done) jump))) ∧
          Holds W3 (w.heap.size + 1) (.loop (R .busy none)) ∧ Holds (W3.putObj (w.heap.size + 1) (.loop (R (if jump.isNone then .ready else .done) jump))) (w.heap.size + 1) (.loop (R (if jump.isNone then .ready else .done) jump)) ∧
          Holds (W3.putObj (w.heap.size + 1) (.loop (R (if jump.isNone then .ready else .done) jump))) w.heap.size (.deferred (some [])) := fun jump W3 hk => by
        have l3 := hl2.but hk (fun f => (hq _ f).2 rfl)
        have d3 := hd2.but hk (fun f => (hq _ f).1 rfl)
        have e3 := run_endRound (P := P) jump l3
        rw [hR] at l3 e3 ⊢
        exact ⟨e3, l3, World.putObj_heap_same (blkLt l3), (World.putObj_heap_other (by omega)).trans d3⟩
      rintro e a3 W3 hp3
      have stop : ∀ c, But q (W'.putObj (w.heap.size + 1) (.loop { R .ready none with state := .busy })) W3 ∧ Ix c (pre ++ [x]) W3 → ∃ v W4, (Instr.endRound (w.heap.size + 1) (some c)).run P W3 = .ok v W4 ∧ v = .bool false ∧ (∃ c, Ix c (pre ++ [x]) W4 ∧ Holds W4 (w.heap.size + 1) (.loop (R .done (some c))) ∧ Holds W4 w.heap.size (.deferred (some []))) ∧ But (fun k => q k ∨ k = w.heap.size ∨ k = w.heap.size + 1) W W4 := fun c ⟨hk, hi3⟩ => by
        obtain ⟨hr, l3, l4, d4⟩ := fin (some c) W3 hk
        have b4 : But (fun k => k = w.heap.size + 1) W3 (W3.putObj (w.heap.size + 1) (.loop (R .done (some c)))) := ⟨rfl, rfl, rfl, by simp, fun k hk hn => World.putObj_heap_other hn⟩
        refine ⟨_, _, hr, rfl, ⟨c, (hIx c).putObj _ hi3 (Nat.le_succ _) l3 rfl, l4, d4⟩, ?_⟩
        exact (((hb.mono (q := fun k => q k ∨ k = w.heap.size ∨ k = w.heap.size + 1) (fun _ f => f.elim)).trans (hb2.mono (fun _ e => .inr (.inr e)))).trans (hk.mono (fun _ e => .inl e))).trans (b4.mono (fun _ e => .inr (.inr e)))
      cases e with
      | normal =>
        obtain ⟨hp3, hi3⟩ := hp3
        obtain ⟨hr, l3, l4, d4⟩ := fin none W3 hp3
        have b4 : But (fun k => k = w.heap.size + 1) W3 (W3.putObj (w.heap.size + 1) (.loop (R .ready none))) := ⟨rfl, rfl, rfl, by simp, fun k hk hn => World.putObj_heap_other hn⟩
        exact ⟨_, _, hr, .inl ⟨rfl, ⟨hI.putObj _ hi3 (Nat.le_succ _) l3 rfl, l4, d4⟩,
          (((hb.mono (q := fun k => q k ∨ k = w.heap.size ∨ k = w.heap.size + 1) (fun _ f => f.elim)).trans (hb2.mono (fun _ e => .inr (.inr e)))).trans (hp3.mono (fun _ e => .inl e))).trans (b4.mono (fun _ e => .inr (.inr e)))⟩⟩
      | ret => obtain ⟨v, W4, h1, rfl, h2⟩ := stop .ret hp3; exact ⟨_, _, h1, .inr ⟨rfl, h2⟩⟩
      | exit id => obtain ⟨v, W4, h1, rfl, h2⟩ := stop (.exit id) hp3; exact ⟨_, _, h1, .inr ⟨rfl, h2⟩⟩
      | goto t => obtain ⟨v, W4, h1, rfl, h2⟩ := stop (.goto t) hp3; exact ⟨_, _, h1, .inr ⟨rfl, h2⟩⟩
      | panic ch => exact hp3.elim
      | outgrown => exact hp3.elim
    | _ => exact hp.elim
  · rintro e W2 ⟨⟨v, rfl⟩, (⟨xs, hS, hi, hl, hd⟩ | ⟨pre, hSp, c, hi, hl, hd⟩)⟩
    · exact ⟨none, _, by have := run_endLoop (P := P) hl (by rw [hR]; simp); rw [hR] at this; exact this, hdone _ xs _ (Nat.le_refl _) hS (hI.putObj _ hi (Nat.le_succ _) hl rfl) ((World.putObj_heap_other (by omega)).trans hd)⟩
    · exact ⟨some c, _, by have := run_endLoop (P := P) hl (by rw [hR]; simp); rw [hR] at this; exact this, hstop _ c pre _ (Nat.le_refl _) hSp ((hIx c).putObj _ hi (Nat.le_succ _) hl rfl) ((World.putObj_heap_other (by omega)).trans hd)⟩
end Go.Proofs.Ytimhejjdgncdaaa
