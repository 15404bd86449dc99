/- A region that draws its order and at its end writes the cells that its own loads read ('x.f = append(x.f, ..)'): what is known of the world may hang on which operations have come up. Nothing of the program stands here. -/
import Derived.Test.YtimhejjdgncdaaaWide2
namespace Go.Proofs.Ytimhejjdgncdaaa
open Go.RowKit
set_option linter.unusedVariables false
set_option linter.unusedSimpArgs false

section
variable {P : Program} {ops : Array Oper} {Q : Exit → Act → World → Prop} {md : Region.Mode} {S : Array Bool → World → Prop}
/-- Whatever order is picked; behind each operation S holds of the world, and of what has come up. -/
def AnyL (P : Program) (md : Region.Mode) (ops : Array Oper) (Q : Exit → Act → World → Prop) (S : Array Bool → World → Prop) : Nat → Array Bool → Act → World → Prop
  | 0, L, a, w => Region.ready md ops L = [] ∧ Q .normal a w
  | n + 1, L, a, w => (Region.ready md ops L = [] → Q .normal a w) ∧
    ∀ i ∈ Region.ready md ops L, wpOp P ops Q i (fun a' w' => S (L.setIfInBounds i true) w' ∧ AnyL P md ops Q S n (L.setIfInBounds i true) a' w') a w
theorem anyL_any : ∀ (n : Nat) (L : Array Bool) (a : Act) (w : World), AnyL P md ops Q S n L a w → wpAny P md ops Q n L a w
  | 0, _, _, _, h => h
  | n + 1, _, _, _, h => ⟨h.1, fun i hi => wpOp_mono (fun a' w' h' => anyL_any n _ a' w' h'.2) (h.2 i hi)⟩
theorem anyL_region {id : Nat} {a : Act} {w : World} (hm : P.follows .mixedOrders = true) (h : AnyL P .any ops Q S ops.size (Array.replicate ops.size false) a w.drew) : (Code.region id ops true).wp P Q a w :=
  wp_region_any hm (anyL_any _ _ _ _ h)
theorem anyL_done {L : Array Bool} {a : Act} {w : World} (hr : Region.ready md ops L = []) (h : Q .normal a w) : ∀ n, AnyL P md ops Q S n L a w
  | 0 => ⟨hr, h⟩
  | _ + 1 => ⟨fun _ => h, by rw [hr]; simp⟩
/-- Each of rs comes up next. -/
def EachL (P : Program) (md : Region.Mode) (ops : Array Oper) (Q : Exit → Act → World → Prop) (S : Array Bool → World → Prop) (n : Nat) (L : Array Bool) (a : Act) (w : World) (rs : List Nat) : Prop :=
  ∀ i ∈ rs, wpOp P ops Q i (fun a' w' => S (L.setIfInBounds i true) w' ∧ AnyL P md ops Q S n (L.setIfInBounds i true) a' w') a w
theorem eachL_nil {n : Nat} {L : Array Bool} {a : Act} {w : World} : EachL P md ops Q S n L a w [] := fun _ h => by cases h
theorem eachL_cons {n : Nat} {L : Array Bool} {a : Act} {w : World} {i : Nat} {o : Oper} {rs : List Nat} (ho : ops.toList[i]? = some o)
    (h : ∀ K' : Act → World → Prop, Shut (∀ a w, S (L.setIfInBounds i true) w → (S (L.setIfInBounds i true) w → AnyL P md ops Q S n (L.setIfInBounds i true) a w) → K' a w) → if Region.wanted o (yielded ops a.tmps) = true then Oper.wp P o a w K' Q else K' (a.put o.dst undef) w)
    (hs : EachL P md ops Q S n L a w rs) : EachL P md ops Q S n L a w (i :: rs) := fun j hj => by
  rcases List.mem_cons.1 hj with rfl | hj
  · exact wpOp_step (by simpa using ho) (fun K' hK => h K' (fun a w hS hW => hK a w ⟨hS, hW hS⟩))
  · exact hs j hj
theorem anyL_ready {rs : List Nat} {n : Nat} {L : Array Bool} {a : Act} {w : World} (hr : Region.ready md ops L = rs) (hne : rs ≠ []) (h : EachL P md ops Q S n L a w rs) : AnyL P md ops Q S (n + 1) L a w :=
  ⟨fun h0 => absurd (hr ▸ h0) hne, hr ▸ h⟩
/-- Operation k waits for operation i. -/
def waits (md : Region.Mode) (ops : Array Oper) (k i : Nat) : Bool :=
  match ops[k]? with
  | some o => o.after.any fun e => e.on == i && Region.binds md e
  | none => false
theorem waits_not {k i : Nat} {L : Array Bool} (h : waits md ops k i = true) (hi : i ∈ Region.ready md ops L) : k ∉ Region.ready md ops L := by
  intro hk
  obtain ⟨hun, ok, hok, hall⟩ := mem_ready.1 hk
  unfold waits at h
  rw [hok] at h
  obtain ⟨e, he, h2⟩ := Array.any_eq_true'.1 h
  simp only [Bool.and_eq_true, beq_iff_eq] at h2
  have h1 := hall e he h2.2
  have h0 := (mem_ready.1 hi).1
  rw [h2.1] at h1
  rcases Nat.lt_or_ge i L.size with h' | h'
  · simp [h'] at h0 h1; rw [h0] at h1; cases h1
  · simp [Array.getElem?_eq_none h'] at h1
theorem anyL_first {i : Nat} {oi : Oper} {v : Value} {ks : List Nat} {SS : World → Prop} (hi : ops[i]? = some oi) (hsel : ∀ (j : Nat) (o : Oper) cs b, ops[j]? = some o → o.op ≠ .select cs b)
    (hQ : ∀ c a w, Q (.panic c) (a.put oi.dst v) w → Q (.panic c) a w) (hw : ∀ k ∈ ks, waits md ops k i = true) (hSS : ∀ L w, (∀ k ∈ ks, L.getD k true = false) → S L w → SS w) (hmono : ∀ L w, S (L.setIfInBounds i true) w → S L w) :
    ∀ (n : Nat) (L : Array Bool) (a : Act) (w : World),
      (∀ j oj, ops[j]? = some oj → j ≠ i → L.getD j true = false → (∀ e ∈ oj.after, Region.binds md e = true → e.on ≠ i) → oi.apart ops oj = true) →
      (∀ k ∈ ks, L.getD k true = false) → i ∈ Region.ready md ops L → i ∉ ks → YieldsIf P ops SS oi v a → SS w → S L w → S (L.setIfInBounds i true) w →
      AnyL P md ops Q S n (L.setIfInBounds i true) (a.put oi.dst v) w → AnyL P md ops Q S (n + 1) L a w := by
  intro n
  induction n with
  | zero =>
    intro L a w _ hk hr hik hy hS hS0 hS' H
    refine ⟨fun h => (by rw [h] at hr; cases hr), fun j hj => ?_⟩
    by_cases hji : j = i
    · subst hji; exact hy.wpOp hi hS ⟨hS', H⟩
    · have := ready_mono hj hji
      rw [H.1] at this
      cases this
  | succ n ih =>
    intro L a w hfree hk hr hik hy hS hS0 hS' H
    refine ⟨fun h => (by rw [h] at hr; cases hr), fun j hj => ?_⟩
    by_cases hji : j = i
    · subst hji; exact hy.wpOp hi hS ⟨hS', H⟩
    · have h1 := H.2 j (ready_mono hj hji)
      obtain ⟨hjun, oj, hoj, hall⟩ := mem_ready.1 hj
      have hnot : ∀ e ∈ oj.after, Region.binds md e = true → e.on ≠ i := fun e he hb heq => by
        have h1 := hall e he hb
        have h0 := (mem_ready.1 hr).1
        rw [heq] at h1
        rcases Nat.lt_or_ge i L.size with h' | h'
        · simp [h'] at h0 h1; rw [h0] at h1; cases h1
        · simp [Array.getElem?_eq_none h'] at h1
      have hjk : ∀ k ∈ ks, j ≠ k := fun k hk' e => waits_not (hw k hk') hr (e ▸ hj)
      have hik' : ∀ k ∈ ks, i ≠ k := fun k hk' e => hik (e ▸ hk')
      have hkj : ∀ k ∈ ks, (L.setIfInBounds j true).getD k true = false := fun k hk' => by rw [getD_set_ne true (hjk k hk')]; exact hk k hk'
      have h2 := wpOp_putIf hoj (hfree j oj hoj hji hjun hnot) (fun cs b => hsel i oi cs b hi) (fun cs b => hsel j oj cs b hoj) hQ hy h1
      have hfree' : ∀ k ok, ops[k]? = some ok → k ≠ i → (L.setIfInBounds j true).getD k true = false →
          (∀ e ∈ ok.after, Region.binds md e = true → e.on ≠ i) → oi.apart ops ok = true := fun k ok hok hki hun hno => by
        refine hfree k ok hok hki ?_ hno
        by_cases hjk : j = k
        · subst hjk; exact hjun
        · rw [getD_set_ne true hjk] at hun; exact hun
      refine wpOp_mono (fun a' w' h3 => ?_) h2
      obtain ⟨hy', hS2, h4⟩ := h3
      rw [Array.setIfInBounds_comm _ _ (Ne.symm hji)] at hS2 h4
      have hS3 := hmono _ _ hS2
      exact ⟨hS3, ih (L.setIfInBounds j true) a' w' hfree' hkj (ready_mono hr (Ne.symm hji)) hik hy' (hSS _ _ hkj hS3) hS3 hS2 h4⟩
/-- What is known: some of it for good, some till an operation has come up. -/
def Gated (S0 : World → Prop) (gs : List (Nat × (World → Prop))) (L : Array Bool) (w : World) : Prop := S0 w ∧ ∀ x ∈ gs, L.getD x.1 true = false → x.2 w
theorem gated_mono {S0 : World → Prop} {gs : List (Nat × (World → Prop))} {i : Nat} (h : gs.all (fun x => x.1 != i) = true) (L : Array Bool) (w : World) (k : Gated S0 gs (L.setIfInBounds i true) w) : Gated S0 gs L w :=
  ⟨k.1, fun x hx hL => k.2 x hx (by
    have : x.1 ≠ i := by simpa using List.all_eq_true.1 h x hx
    rw [getD_set_ne true (Ne.symm this)]; exact hL)⟩
theorem gated_set {S0 : World → Prop} {gs : List (Nat × (World → Prop))} {i : Nat} (L : Array Bool) (w : World) (k : Gated S0 gs L w) : Gated S0 gs (L.setIfInBounds i true) w :=
  ⟨k.1, fun x hx hL => k.2 x hx (by
    by_cases e : i = x.1
    · subst e
      rcases Nat.lt_or_ge x.1 L.size with h' | h'
      · simp [h'] at hL
      · simp [Array.getElem?_eq_none h'] at hL
    · rw [getD_set_ne true e] at hL; exact hL)⟩
/-- Operation i is taken first: it yields v in every world of which S0 and what is gated by ks, that wait for it, are known. -/
theorem anyL_take {S0 : World → Prop} {gs : List (Nat × (World → Prop))} (ks : List Nat) {i : Nat} {oi : Oper} {v : Value} {n : Nat} {L : Array Bool} {a : Act} {w : World} (hi : ops.toList[i]? = some oi)
    (hs : Region.noSelect ops = true) (hf : Region.free md ops L i = true) (hr : (Region.ready md ops L).contains i = true)
    (hg : gs.all (fun x => x.1 != i) = true) (hk : ks.all (fun k => k != i && waits md ops k i && L.getD k true == false) = true)
    (hQ : ∀ c a w, Q (.panic c) (a.put oi.dst v) w → Q (.panic c) a w) (hy : YieldsIf P ops (fun w => S0 w ∧ ∀ x ∈ gs, x.1 ∈ ks → x.2 w) oi v a) (hS : Gated S0 gs L w)
    (h : Gated S0 gs (L.setIfInBounds i true) w → AnyL P md ops Q (Gated S0 gs) n (L.setIfInBounds i true) (a.put oi.dst v) w) : AnyL P md ops Q (Gated S0 gs) (n + 1) L a w := by
  have hk1 : ∀ k ∈ ks, k ≠ i ∧ waits md ops k i = true ∧ L.getD k true = false := fun k hk' => by
    have := List.all_eq_true.1 hk k hk'
    simpa [and_assoc] using this
  have hSS : ∀ L w, (∀ k ∈ ks, L.getD k true = false) → Gated S0 gs L w → (fun w => S0 w ∧ ∀ x ∈ gs, x.1 ∈ ks → x.2 w) w := fun L w hL k => ⟨k.1, fun x hx hxk => k.2 x hx (hL _ hxk)⟩
  have hi' : ops[i]? = some oi := by simpa using hi
  exact anyL_first hi' (Region.noSelect_spec hs) hQ (fun k hk' => (hk1 k hk').2.1) hSS (gated_mono hg) n L a w (Region.free_spec hi' hf) (fun k hk' => (hk1 k hk').2.2) (by simpa using hr) (fun hik => (hk1 i hik).1 rfl) hy
    (hSS _ _ (fun k hk' => (hk1 k hk').2.2) hS) hS (gated_set L w hS) (h (gated_set L w hS))
end
end Go.Proofs.Ytimhejjdgncdaaa
