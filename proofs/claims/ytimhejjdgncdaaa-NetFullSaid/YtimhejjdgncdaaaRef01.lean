/- The document's numbers and texts as bytes (layer 1): digits, Num, ReadNum, ReadText. -/
import Derived.Test.YtimhejjdgncdaaaOctet
import Derived.Test.YtimhejjdgncdaaaWide2
import Derived.Laws.IdiomStrings
import Derived.Laws.BytesArg
namespace Go.Proofs.Ytimhejjdgncdaaa
open Go.RowKit
set_option linter.unusedVariables false
set_option linter.unusedSimpArgs false

/-- A number's digits to the base 256, the most worth first; of 0 none. -/
def digs (v : Nat) : List UInt8 := if h : v = 0 then [] else digs (v / 256) ++ [UInt8.ofNat (v % 256)]
  termination_by v
  decreasing_by omega
def numB (v : Nat) : List UInt8 := if v < 248 then [UInt8.ofNat v] else UInt8.ofNat (247 + (digs v).length) :: digs v
/-- A text of these bytes. -/
def strOf (l : List UInt8) : Value := .string ⟨l.toArray⟩
theorem bys_mk (l : List UInt8) : bys ⟨l.toArray⟩ = l := by simp [bys]
theorem mk_bys (s : ByteArray) : (⟨(bys s).toArray⟩ : ByteArray) = s := bys_inj (bys_mk _)
theorem digs_zero : digs 0 = [] := by rw [digs]; simp
theorem digs_pos {v : Nat} (h : v ≠ 0) : digs v = digs (v / 256) ++ [UInt8.ofNat (v % 256)] := by rw [digs, dif_neg h]
theorem digs_len : ∀ (n v : Nat), v < 256 ^ n → (digs v).length ≤ n
  | 0, v, h => by
    obtain rfl : v = 0 := by simpa using h
    rw [digs_zero]; exact Nat.le_refl _
  | n + 1, v, h => by
    by_cases h0 : v = 0
    · subst h0; rw [digs_zero]; exact Nat.zero_le _
    · rw [digs_pos h0, List.length_append]
      have := digs_len n (v / 256) (by rw [Nat.pow_succ] at h; omega)
      simpa using this
/-- 'string' of one byte's row. -/
theorem run_one {P : Program} (w : World) (src e dst : TypeId) (hs : P.underlying src = some (.slice e)) (he : P.underlying e = some (.int .u8)) (hd : P.underlying dst = some .string) (g c : Nat) (b : Nat) (hb : b < 256)
    (hc : w.cell? ⟨g, 0, none⟩ = some (.int .u8 (b : Nat))) : (convert src dst (.slice (some ⟨g, 0, none⟩) 1 c)).run P w = .ok (strOf [UInt8.ofNat b]) w := by
  have := run_convert_bytes_back (P := P) w src dst e ⟨g, 0, none⟩ c [UInt8.ofNat b] hs he hd (fun j hj => by
    have : j = 0 := by simpa using hj
    subst this
    have e1 : (UInt8.ofNat b).toNat = b := by simp [Nat.mod_eq_of_lt hb]
    simp only [List.getElem_cons_zero]
    rw [e1]; exact hc)
  exact this
theorem wrap_u8 (n : Nat) : IntKind.u8.wrap (n : Int) = ((n % 256 : Nat) : Int) := by
  simp [IntKind.wrap, IntKind.signed, IntKind.bits]
theorem run_add_str {P : Program} (w : World) (t : TypeId) (x y : List UInt8) (ht : P.underlying t = some .string) (h : x.length + y.length ≤ 9223372036854775807) : (binOp .add t (strOf x) (strOf y)).run P w = .ok (strOf (x ++ y)) w := by
  unfold strOf
  have := run_string_add_sum (P := P) w ⟨x.toArray⟩ ⟨y.toArray⟩ (by simp [ByteArray.size]; omega)
  rw [ByteArray.mk_append_mk] at this
  simp [binOp, this]
set_option maxRecDepth 100000 in
set_option maxHeartbeats 1000000 in
theorem digits_any : ∀ (n : Nat) (v : Nat), v < 256 ^ n → n ≤ 8 → ∀ w : World, Calls Try.prog 45 #[.int .u64 v] w fun e w' => e = .returned (strOf (digs v)) ∧ But (fun _ => False) w w'
  | n, v, hv, hn, w => by
    by_cases h0 : v = 0
    · subst h0
      rw [digs_zero]
      go_enter Try.func45, Try.ntmps45
      go_wp2
      go_ret
      exact ⟨rfl, But.refl _ _⟩
    · cases n with
      | zero => exact absurd (by simpa using hv) h0
      | succ n =>
        have hp : 256 ^ (n + 1) ≤ 256 ^ 8 := Nat.pow_le_pow_right (by decide) (by omega)
        have hv64 : v < 18446744073709551616 := by omega
        have IH := Lib.hid (fun w => digits_any n (v / 256) (by rw [Nat.pow_succ] at hv; omega) (by omega) w)
        have hlen := digs_len n (v / 256) (by rw [Nat.pow_succ] at hv; omega)
        have hD := Lib.hid (digs_pos h0)
        have z0 : ((v : Int) == 0) = false := by simp; omega
        clear hv hp
        have hq : IntKind.u64.wrap ((v : Int) / 256) = (v : Int) / 256 := IntWalk.u64_in _ (by omega)
        have hr : ((v : Int)).tmod 256 = (v : Int) % 256 := Int.tmod_eq_emod_of_nonneg (by omega)
        have hw8 : IntKind.u8.wrap ((v : Int) % 256) = (v : Int) % 256 := by have := wrap_u8 (v % 256); simpa using this
        go_enter Try.func45, Try.ntmps45
        go_wp2_with fail
        refine wp_region_held_drew (S := fun _ => True) (by kernel_rfl) trivial (fun hS => ?_)
        have B0 : But (fun _ => False) w w.drew := (But.refl _ w).drew
        generalize w.drew = w0 at *
        -- R digits
        refine' anyH_take (i := 0) (v := (.int .u64 (v : Int))) rfl (by kernel_rfl) (by kernel_rfl) (by kernel_rfl) (fun _ _ _ h => h) (Or.inl ⟨by rfl, fun _ _ => by rfl⟩) hS ?_
        simp only [Act.put, List.setIfInBounds_toArray, List.set_cons_zero, List.set_cons_succ]
        refine' anyH_take (i := 1) (v := (.int .u64 ((v / 256 : Nat) : Int))) rfl (by kernel_rfl) (by kernel_rfl) (by kernel_rfl) (fun _ _ _ h => h) (Or.inl ⟨by rfl, fun _ _ => by go_simp⟩) hS ?_
        simp only [Act.put, List.setIfInBounds_toArray, List.set_cons_zero, List.set_cons_succ]
        refine' anyH_take (i := 3) (v := (.int .u64 (v : Int))) rfl (by kernel_rfl) (by kernel_rfl) (by kernel_rfl) (fun _ _ _ h => h) (Or.inl ⟨by rfl, fun _ _ => by rfl⟩) hS ?_
        simp only [Act.put, List.setIfInBounds_toArray, List.set_cons_zero, List.set_cons_succ]
        refine' anyH_take (i := 4) (v := (.int .u64 ((v % 256 : Nat) : Int))) rfl (by kernel_rfl) (by kernel_rfl) (by kernel_rfl) (fun _ _ _ h => h) (Or.inl ⟨by rfl, fun _ _ => by go_simp⟩) hS ?_
        simp only [Act.put, List.setIfInBounds_toArray, List.set_cons_zero, List.set_cons_succ]
        refine' anyH_take (i := 5) (v := (.int .u8 ((v % 256 : Nat) : Int))) rfl (by kernel_rfl) (by kernel_rfl) (by kernel_rfl) (fun _ _ _ h => h) (Or.inl ⟨by rfl, fun _ _ => by go_simp⟩) hS ?_
        simp only [Act.put, List.setIfInBounds_toArray, List.set_cons_zero, List.set_cons_succ]
        refine wpAnyH_ready (rs := [2, 6]) (by kernel_rfl) (by simp) (anyH_cons rfl (fun K hK => ?_) (anyH_cons rfl (fun K hK => ?_) AllReadyH.nil))
        · refine ready_call (by rfl) (by kernel_rfl) (R := fun x w' => x = strOf (digs (v / 256)) ∧ But (fun _ => False) w0 w') ((IH.out _).mono fun e w' ⟨he, hb⟩ => ⟨_, he, rfl, hb⟩) ?_
          rintro _ w1 ⟨rfl, b1⟩
          simp only [Act.put, List.setIfInBounds_toArray, List.set_cons_zero, List.set_cons_succ]
          have B1 := B0.trans b1
          refine hK.out _ _ trivial (fun hN => ?_)
          clear hK K hS
          have hS := hN
          clear hN
          refine wpAnyH_ready (rs := [6]) (by kernel_rfl) (by simp) (anyH_cons rfl (fun K hK => ?_) AllReadyH.nil)
          refine ready_value (v := .slice (some ⟨w1.heap.size, 0, none⟩) 1 1) (w' := w1.alloc (.cells #[.int .u8 ((v % 256 : Nat) : Int)] 5)) (by rfl) (by kernel_rfl) ?_
          simp only [Act.put, List.setIfInBounds_toArray, List.set_cons_zero, List.set_cons_succ]
          have h62 : (w1.alloc (.cells #[.int .u8 ((v % 256 : Nat) : Int)] 5)).cell? ⟨w1.heap.size, 0, none⟩ = some (.int .u8 ((v % 256 : Nat) : Int)) := (Holds.new w1 _).cl 0
          have B2 : But (fun _ => False) w (w1.alloc (.cells #[.int .u8 ((v % 256 : Nat) : Int)] 5)) := B1.alloc _
          generalize w1.alloc (.cells #[.int .u8 ((v % 256 : Nat) : Int)] 5) = w2 at *
          refine hK.out _ _ trivial (fun hN => ?_)
          clear hK K hS
          have hS := hN
          clear hN
          refine wpAnyH_ready (rs := [7]) (by kernel_rfl) (by simp) (anyH_cons rfl (fun K hK => ?_) AllReadyH.nil)
          refine ready_value (v := strOf [UInt8.ofNat (v % 256)]) (w' := w2) (by rfl) (op_v (run_one w2 _ _ _ Try.underlying78 Try.underlying5 Try.underlying9 _ _ _ (Nat.mod_lt _ (by decide)) h62)) ?_
          simp only [Act.put, List.setIfInBounds_toArray, List.set_cons_zero, List.set_cons_succ]
          refine hK.out _ _ trivial (fun hN => ?_)
          clear hK K hS
          have hS := hN
          clear hN
          refine' anyH_take (i := 8) (v := (strOf (digs (v / 256) ++ [UInt8.ofNat (v % 256)]))) rfl (by kernel_rfl) (by kernel_rfl) (by kernel_rfl) (fun _ _ _ h => h) (Or.inl ⟨by rfl, fun w _ => op_v (run_add_str w _ _ _ Try.underlying9 (by show _ + 1 ≤ _; omega))⟩) hS ?_
          simp only [Act.put, List.setIfInBounds_toArray, List.set_cons_zero, List.set_cons_succ]
          refine' anyH_take (i := 9) (v := (strOf (digs (v / 256) ++ [UInt8.ofNat (v % 256)]))) rfl (by kernel_rfl) (by kernel_rfl) (by kernel_rfl) (fun _ _ _ h => h) (Or.inl ⟨by rfl, fun _ _ => by rfl⟩) hS ?_
          simp only [Act.put, List.setIfInBounds_toArray, List.set_cons_zero, List.set_cons_succ]
          refine wpAnyH_done (by kernel_rfl) ?_ _
          clear hS
          go_wp2
          go_ret
          exact ⟨by rw [hD.out]; rfl, B2⟩
        · refine ready_value (v := .slice (some ⟨w0.heap.size, 0, none⟩) 1 1) (w' := w0.alloc (.cells #[.int .u8 ((v % 256 : Nat) : Int)] 5)) (by rfl) (by kernel_rfl) ?_
          simp only [Act.put, List.setIfInBounds_toArray, List.set_cons_zero, List.set_cons_succ]
          have h61 : (w0.alloc (.cells #[.int .u8 ((v % 256 : Nat) : Int)] 5)).cell? ⟨w0.heap.size, 0, none⟩ = some (.int .u8 ((v % 256 : Nat) : Int)) := (Holds.new w0 _).cl 0
          have B1 : But (fun _ => False) w (w0.alloc (.cells #[.int .u8 ((v % 256 : Nat) : Int)] 5)) := B0.alloc _
          generalize w0.alloc (.cells #[.int .u8 ((v % 256 : Nat) : Int)] 5) = w1 at *
          refine hK.out _ _ trivial (fun hN => ?_)
          clear hK K hS
          have hS := hN
          clear hN
          refine wpAnyH_ready (rs := [2, 7]) (by kernel_rfl) (by simp) (anyH_cons rfl (fun K hK => ?_) (anyH_cons rfl (fun K hK => ?_) AllReadyH.nil))
          · refine ready_call (by rfl) (by kernel_rfl) (R := fun x w' => x = strOf (digs (v / 256)) ∧ But (fun _ => False) w1 w') ((IH.out _).mono fun e w' ⟨he, hb⟩ => ⟨_, he, rfl, hb⟩) ?_
            rintro _ w2 ⟨rfl, b2⟩
            simp only [Act.put, List.setIfInBounds_toArray, List.set_cons_zero, List.set_cons_succ]
            have B2 := B1.trans b2
            have h62 := b2.cell h61 (fun f => f)
            refine hK.out _ _ trivial (fun hN => ?_)
            clear hK K hS
            have hS := hN
            clear hN
            refine wpAnyH_ready (rs := [7]) (by kernel_rfl) (by simp) (anyH_cons rfl (fun K hK => ?_) AllReadyH.nil)
            refine ready_value (v := strOf [UInt8.ofNat (v % 256)]) (w' := w2) (by rfl) (op_v (run_one w2 _ _ _ Try.underlying78 Try.underlying5 Try.underlying9 _ _ _ (Nat.mod_lt _ (by decide)) h62)) ?_
            simp only [Act.put, List.setIfInBounds_toArray, List.set_cons_zero, List.set_cons_succ]
            refine hK.out _ _ trivial (fun hN => ?_)
            clear hK K hS
            have hS := hN
            clear hN
            refine' anyH_take (i := 8) (v := (strOf (digs (v / 256) ++ [UInt8.ofNat (v % 256)]))) rfl (by kernel_rfl) (by kernel_rfl) (by kernel_rfl) (fun _ _ _ h => h) (Or.inl ⟨by rfl, fun w _ => op_v (run_add_str w _ _ _ Try.underlying9 (by show _ + 1 ≤ _; omega))⟩) hS ?_
            simp only [Act.put, List.setIfInBounds_toArray, List.set_cons_zero, List.set_cons_succ]
            refine' anyH_take (i := 9) (v := (strOf (digs (v / 256) ++ [UInt8.ofNat (v % 256)]))) rfl (by kernel_rfl) (by kernel_rfl) (by kernel_rfl) (fun _ _ _ h => h) (Or.inl ⟨by rfl, fun _ _ => by rfl⟩) hS ?_
            simp only [Act.put, List.setIfInBounds_toArray, List.set_cons_zero, List.set_cons_succ]
            refine wpAnyH_done (by kernel_rfl) ?_ _
            clear hS
            go_wp2
            go_ret
            exact ⟨by rw [hD.out]; rfl, B2⟩
          · refine ready_value (v := strOf [UInt8.ofNat (v % 256)]) (w' := w1) (by rfl) (op_v (run_one w1 _ _ _ Try.underlying78 Try.underlying5 Try.underlying9 _ _ _ (Nat.mod_lt _ (by decide)) h61)) ?_
            simp only [Act.put, List.setIfInBounds_toArray, List.set_cons_zero, List.set_cons_succ]
            refine hK.out _ _ trivial (fun hN => ?_)
            clear hK K hS
            have hS := hN
            clear hN
            refine wpAnyH_ready (rs := [2]) (by kernel_rfl) (by simp) (anyH_cons rfl (fun K hK => ?_) AllReadyH.nil)
            refine ready_call (by rfl) (by kernel_rfl) (R := fun x w' => x = strOf (digs (v / 256)) ∧ But (fun _ => False) w1 w') ((IH.out _).mono fun e w' ⟨he, hb⟩ => ⟨_, he, rfl, hb⟩) ?_
            rintro _ w2 ⟨rfl, b2⟩
            simp only [Act.put, List.setIfInBounds_toArray, List.set_cons_zero, List.set_cons_succ]
            have B2 := B1.trans b2
            have h62 := b2.cell h61 (fun f => f)
            refine hK.out _ _ trivial (fun hN => ?_)
            clear hK K hS
            have hS := hN
            clear hN
            refine' anyH_take (i := 8) (v := (strOf (digs (v / 256) ++ [UInt8.ofNat (v % 256)]))) rfl (by kernel_rfl) (by kernel_rfl) (by kernel_rfl) (fun _ _ _ h => h) (Or.inl ⟨by rfl, fun w _ => op_v (run_add_str w _ _ _ Try.underlying9 (by show _ + 1 ≤ _; omega))⟩) hS ?_
            simp only [Act.put, List.setIfInBounds_toArray, List.set_cons_zero, List.set_cons_succ]
            refine' anyH_take (i := 9) (v := (strOf (digs (v / 256) ++ [UInt8.ofNat (v % 256)]))) rfl (by kernel_rfl) (by kernel_rfl) (by kernel_rfl) (fun _ _ _ h => h) (Or.inl ⟨by rfl, fun _ _ => by rfl⟩) hS ?_
            simp only [Act.put, List.setIfInBounds_toArray, List.set_cons_zero, List.set_cons_succ]
            refine wpAnyH_done (by kernel_rfl) ?_ _
            clear hS
            go_wp2
            go_ret
            exact ⟨by rw [hD.out]; rfl, B2⟩
        -- END R digits
theorem numB_len {v : Nat} (h : v < 18446744073709551616) : (numB v).length ≤ 9 := by
  unfold numB
  split
  · simp
  · have := digs_len 8 v (by omega)
    simp only [List.length_cons]; omega
set_option maxRecDepth 100000 in
set_option maxHeartbeats 1000000 in
theorem refNum_any (v : Nat) (hv : v < 18446744073709551616) (w : World) : Calls Try.prog 43 #[.int .u64 v] w fun e w' => e = .returned (strOf (numB v)) ∧ But (fun _ => False) w w' := by
  by_cases h : v < 248
  · have hw8 : IntKind.u8.wrap (v : Int) = (v : Int) := by have := wrap_u8 v; rw [Nat.mod_eq_of_lt (by omega)] at this; exact this
    have hcv := run_one (P := Try.prog) (w.alloc (.cells #[.int .u8 (v : Int)] 5)) 78 5 9 Try.underlying78 Try.underlying5 Try.underlying9 w.heap.size 1 v (by omega) ((Holds.new w _).cl 0)
    have hB := Lib.hid (show But (fun _ => False) w (w.alloc (.cells #[.int .u8 (v : Int)] 5)) from (But.refl _ w).alloc _)
    have hN := Lib.hid (show numB v = [UInt8.ofNat v] from by unfold numB; rw [if_pos h])
    clear hv
    go_enter Try.func43, Try.ntmps43
    go_wp2
    go_ret
    exact ⟨by rw [hN.out]; rfl, hB.out⟩
  · have hN := Lib.hid (show numB v = UInt8.ofNat (247 + (digs v).length) :: digs v from by unfold numB; rw [if_neg h])
    have hl := digs_len 8 v (by omega)
    have C := digits_any 8 v (by omega) (Nat.le_refl _) w
    obtain ⟨d, hd⟩ : ∃ d : ByteArray, d = ⟨(digs v).toArray⟩ := ⟨_, rfl⟩
    have hds : d.size = (digs v).length := by rw [hd]; simp [ByteArray.size]
    obtain ⟨k, hk⟩ : ∃ k, (digs v).length = k := ⟨_, rfl⟩
    rw [hk] at hds hl hN
    unfold strOf at C
    rw [← hd] at C
    have HD := Lib.hid hd
    have hw8 : IntKind.u8.wrap (247 + (k : Int)) = 247 + (k : Int) := by have := wrap_u8 (247 + k); rw [Nat.mod_eq_of_lt (by omega)] at this; simpa using this
    have hcv := fun w1 : World => run_one (P := Try.prog) (w1.alloc (.cells #[.int .u8 ((247 + k : Nat) : Int)] 5)) 78 5 9 Try.underlying78 Try.underlying5 Try.underlying9 w1.heap.size 1 (247 + k) (by omega) ((Holds.new w1 _).cl 0)
    rw [show (((247 + k : Nat)) : Int) = 247 + (k : Int) by simp] at hcv
    have hadd := fun w1 => run_add_str (P := Try.prog) w1 9 [UInt8.ofNat (247 + k)] (digs v) Try.underlying9 (by rw [hk]; show 1 + k ≤ _; omega)
    rw [show strOf (digs v) = .string d from by rw [hd]; rfl] at hadd
    generalize UInt8.ofNat (247 + k) = hb at hcv hadd hN
    clear hv hd hk
    go_enter Try.func43, Try.ntmps43
    go_wp2_with (go_at_call 45; refine C.mono ?_; rintro _ w1 ⟨rfl, b1⟩; have hcv1 := hcv w1; have hadd1 := hadd (w1.alloc (.cells #[.int .u8 (247 + (k : Int))] 5)); clear hcv hadd)
    go_ret
    exact ⟨by rw [hN.out]; rfl, b1.alloc _⟩
theorem digs_numOf : ∀ (n : Nat) (l : List UInt8), l.length = n → l.head? ≠ some 0 → digs (numOf l) = l ∧ (l ≠ [] → numOf l ≠ 0)
  | 0, l, hl, _ => by
    obtain rfl : l = [] := by simpa using hl
    exact ⟨by rw [show numOf [] = 0 from rfl, digs_zero], fun h => absurd rfl h⟩
  | n + 1, l, hl, hh => by
    obtain ⟨i, b, rfl⟩ : ∃ i b, l = i ++ [b] := ⟨l.dropLast, l.getLast (by intro h; simp [h] at hl), (List.dropLast_concat_getLast _).symm⟩
    have hb := b.toNat_lt
    have hil : i.length = n := by simpa using hl
    have hih : i.head? ≠ some 0 := fun h => hh (by
      cases i with
      | nil => cases h
      | cons c r => simpa using h)
    obtain ⟨h1, h2⟩ := digs_numOf n i hil hih
    have hne : numOf (i ++ [b]) ≠ 0 := by
      rw [numOf_snoc]
      cases i with
      | nil =>
        intro h
        have : b.toNat = 0 := by omega
        exact hh (by simp; exact UInt8.toNat_inj.1 (by simpa using this))
      | cons c r => have := h2 (by simp); omega
    refine ⟨?_, fun _ => hne⟩
    rw [digs_pos hne, numOf_snoc, show (numOf i * 256 + b.toNat) / 256 = numOf i by omega, show (numOf i * 256 + b.toNat) % 256 = b.toNat by omega, h1]
    simp
theorem digs_head : ∀ (n v : Nat), v < 256 ^ n → (digs v).head? ≠ some 0
  | 0, v, h => by
    obtain rfl : v = 0 := by simpa using h
    rw [digs_zero]; simp
  | n + 1, v, h => by
    by_cases h0 : v = 0
    · subst h0; rw [digs_zero]; simp
    · rw [digs_pos h0]
      have ih := digs_head n (v / 256) (by rw [Nat.pow_succ] at h; omega)
      cases hd : digs (v / 256) with
      | nil =>
        have hz : v / 256 = 0 := by
          apply Classical.byContradiction
          intro hz
          rw [digs_pos hz] at hd
          simp at hd
        simp only [List.nil_append, List.head?_cons, ne_eq, Option.some.injEq]
        intro h1
        have := congrArg UInt8.toNat h1
        simp at this
        omega
      | cons c r => rw [hd] at ih; simpa using ih
theorem numOf_digs : ∀ (n v : Nat), v < 256 ^ n → numOf (digs v) = v
  | 0, v, h => by
    obtain rfl : v = 0 := by simpa using h
    rw [digs_zero]; rfl
  | n + 1, v, h => by
    by_cases h0 : v = 0
    · subst h0; rw [digs_zero]; rfl
    · rw [digs_pos h0, numOf_snoc, numOf_digs n (v / 256) (by rw [Nat.pow_succ] at h; omega)]
      have : (UInt8.ofNat (v % 256)).toNat = v % 256 := by simp
      rw [this]; omega
/-- A number that was read is right if it is the one that would be put. -/
theorem numB_of (b : UInt8) (l : List UInt8) (k : Nat) (hk : l.length = k) (hb : b.toNat = 247 + k) (h1 : 1 ≤ k) (h8 : k ≤ 8) : numB (numOf l) = b :: l ↔ ¬ (l.head? = some 0 ∨ numOf l ≤ 247) := by
  have hlt := numOf_lt l
  rw [hk] at hlt
  have hp : 256 ^ k ≤ 256 ^ 8 := Nat.pow_le_pow_right (by decide) h8
  constructor
  · intro h ho
    unfold numB at h
    split at h
    · have := congrArg List.length h
      simp only [List.length_cons, List.length_nil] at this; omega
    · have h2 : digs (numOf l) = l := (List.cons.inj h).2
      rcases ho with ho | ho
      · exact digs_head 8 (numOf l) (by omega) (by rw [h2]; exact ho)
      · omega
  · intro h
    have hd := (digs_numOf k l hk (fun e => h (.inl e))).1
    unfold numB
    rw [if_neg (by omega), hd, hk, ← hb]
    simp
set_option maxRecDepth 100000 in
set_option maxHeartbeats 1000000 in
theorem refReadNum_any (s : ByteArray) (w : World) (hl : s.size ≤ maxLen) :
    Calls Try.prog 39 #[.string s] w fun e w' => e = .returned (.tuple #[.int .u64 (rdNum (bys s)).1, .int .i64 (rdNum (bys s)).2.1, .int .i64 (rdNum (bys s)).2.2]) ∧ But (fun _ => False) w w' := by
  unfold maxLen at hl
  obtain ⟨l, hls⟩ : ∃ l, bys s = l := ⟨_, rfl⟩
  rw [hls]
  cases l with
  | nil =>
    have h0 : s.size = 0 := by rw [← bys_length, hls]; rfl
    have h1 : s.toList.isEmpty = true := by rw [ByteArray.toList_eq]; show (bys s).isEmpty = true; rw [hls]; rfl
    have h2 : s.toList = [] := by simpa using h1
    go_enter Try.func39, Try.ntmps39
    go_wp2
    go_ret3
    exact ⟨rfl, But.refl _ _⟩
  | cons b r =>
    obtain ⟨z0, z1, z2, z3⟩ := bys_cons hls
    have h1 : s.toList.isEmpty = false := by rw [ByteArray.toList_eq]; show (bys s).isEmpty = false; rw [hls]; rfl
    have h0 : 0 < s.size := by omega
    have HLS := Lib.hid hls
    have s0 : s[0]'h0 = b := z1 h0
    clear z1 z2 z3 hls
    have hb : b.toNat < 256 := b.toNat_lt
    by_cases h1 : b.toNat ≤ 247
    · have hv := Lib.hid (show rdNum (b :: r) = ((b.toNat : Int), 1, 0) from by simp [rdNum, h1])
      go_enter Try.func39, Try.ntmps39
      go_wp2
      go_ret3
      exact ⟨by rw [hv.out]; rfl, But.refl _ _⟩
    · obtain ⟨n, hn⟩ : ∃ n, b.toNat = n + 247 := ⟨b.toNat - 247, by omega⟩
      have hin : ((b.toNat : Int)) = (n : Int) + 247 := by omega
      have hn1 : 1 ≤ n := by omega
      have hn8 : n ≤ 8 := by omega
      have hd1 : decide ((n : Int) + 247 < 248) = false := by simp; omega
      have hws : IntKind.i64.wrap (1 + ((n : Int) + 247)) = (n : Int) + 248 := by rw [IntWalk.i64_in _ (by omega)]; omega
      have hwd : IntKind.i64.wrap ((n : Int) + 248 - 247) = (n : Int) + 1 := by rw [IntWalk.i64_in _ (by omega)]; omega
      have HN := Lib.hid hn
      by_cases h2 : r.length < b.toNat - 247
      · have hv := Lib.hid (show rdNum (b :: r) = (0, 0, 6) from by simp [rdNum, h1, h2])
        have hsz : s.size < n + 1 := by omega
        clear h1 h2 hn
        go_enter Try.func39, Try.ntmps39
        go_wp2
        go_ret3
        exact ⟨by rw [hv.out]; rfl, But.refl _ _⟩
      · have hsz : n + 1 ≤ s.size := by omega
        have hnr : n ≤ r.length := by omega
        clear h1 h2 hn
        go_enter Try.func39, Try.ntmps39
        go_wp2
        go_loop [6, 7] (fun v i => ∃ k : Nat, k ≤ n ∧ i = .int .i64 ((k : Int) + 1) ∧ v = .int .u64 (numOf (r.take k))) (fun _ i => n + 1 - (intOf i).toNat)
        case atStart => exact ⟨0, Nat.zero_le _, rfl, rfl⟩
        case round =>
          obtain ⟨k, hk, rfl, rfl⟩ := hrel
          by_cases hlt : k < n
          · have hkr : k + 1 < s.size := by omega
            have hv := numOf_lt (r.take k)
            rw [List.length_take, Nat.min_eq_left (by omega)] at hv
            have hp : 256 ^ k ≤ 256 ^ 7 := Nat.pow_le_pow_right (by decide) (by omega)
            have hstep : numOf (r.take (k + 1)) = numOf (r.take k) * 256 + (r[k]'(by omega)).toNat := by rw [List.take_succ_eq_append_getElem (by omega), numOf_snoc]
            have hel : s[k + 1] = r[k]'(by omega) := by
              have : s[k + 1] = (bys s)[k + 1]'(by rw [bys_length]; exact hkr) := rfl
              rw [this]
              simp only [HLS.out, List.getElem_cons_succ]
            have hc := (r[k]'(by omega)).toNat_lt
            have HST := Lib.hid hstep
            generalize numOf (r.take k) = v at hv HST ⊢
            generalize hce : r[k]'(by omega) = c at hel hc HST
            have hm : IntKind.u64.wrap ((v : Int) * 256) = (v : Int) * 256 := IntWalk.u64_in _ (by omega)
            have ha : IntKind.u64.wrap ((v : Int) * 256 + (c.toNat : Int)) = (v : Int) * 256 + (c.toNat : Int) := IntWalk.u64_in _ (by omega)
            clear hstep hv hp hce
            go_wp2
            exact ⟨⟨k + 1, by omega, by go_num, by rw [HST.out]; simp⟩, by simp [intOf]; omega⟩
          · obtain rfl : k = n := by omega
            have hv := numOf_lt (r.take k)
            rw [List.length_take, Nat.min_eq_left (by omega)] at hv
            have hp : 256 ^ k ≤ 256 ^ 8 := Nat.pow_le_pow_right (by decide) (by omega)
            have hex : s.extract 0 (k + 1) = ⟨(b :: r.take k).toArray⟩ := by
              apply bys_inj
              rw [bys_extract, HLS.out, bys_mk, List.take_succ_cons, List.drop_zero]
            have hof := numB_of b (r.take k) k (by rw [List.length_take]; omega) (by rw [HN.out]; omega) hn1 hn8
            have hhd : (r.take k).head? = r.head? := by
              cases r with
              | nil => simp
              | cons c r' =>
                cases k with
                | zero => omega
                | succ k => simp
            rw [hhd] at hof
            have hrd : rdNum (b :: r) = if r.head? = some 0 ∨ numOf (r.take k) ≤ 247 then (0, 0, 7) else ((numOf (r.take k) : Int), (k : Int) + 1, 0) := by
              unfold rdNum
              simp only
              rw [if_neg (by rw [HN.out]; omega), if_neg (by rw [HN.out]; omega), show b.toNat - 247 = k by rw [HN.out]; omega]
            have hnl := numB_len (v := numOf (r.take k)) (by omega)
            have C := refNum_any (numOf (r.take k)) (by omega)
            obtain ⟨x, hx⟩ : ∃ x : ByteArray, x = ⟨(b :: r.take k).toArray⟩ := ⟨_, rfl⟩
            obtain ⟨y, hy⟩ : ∃ y : ByteArray, y = ⟨(numB (numOf (r.take k))).toArray⟩ := ⟨_, rfl⟩
            have hxy : y = x ↔ ¬ (r.head? = some 0 ∨ numOf (r.take k) ≤ 247) := by
              rw [← hof, hx, hy]
              constructor
              · intro h; have := congrArg bys h; rwa [bys_mk, bys_mk] at this
              · intro h; rw [h]
            unfold strOf at C
            rw [← hy] at C
            rw [← hx] at hex
            have HRD := Lib.hid hrd
            have HXY := Lib.hid hxy
            have CC := Lib.hid C
            clear hv hp hx hy hof hhd hrd hxy C hnl
            generalize numOf (r.take k) = v at *
            have q1 : (0 : Int) ≤ (k : Int) + 1 := by omega
            have q2 : (k : Int) + 1 ≤ (s.size : Int) := by omega
            have q3 : ((k : Int) + 1).toNat = k + 1 := by omega
            by_cases he : y = x
            · subst he
              have hbe : (y.toList == y.toList) = true := by simp
              go_wp2_with fail
              go_region_held3 (fun _ => True) (trivial) (first | (go_at_call 43; refine (CC.out _).mono ?_; rintro e w' ⟨rfl, b'⟩))
              go_wp2
              go_ret3
              exact ⟨by rw [HRD.out, if_neg (HXY.out.1 (by trivial))]; rfl, ((But.refl _ _).drew.trans b')⟩
            · have hbe : (y.toList == x.toList) = false := by rw [← beq_toListBytes]; exact Bool.eq_false_iff.2 fun e => he ((MapKept.bytes_beq _ _).1 e)
              have hbe2 : (y == x) = false := Bool.eq_false_iff.2 fun e => he ((MapKept.bytes_beq _ _).1 e)
              have HE := Lib.hid he
              clear he
              go_wp2_with fail
              go_region_held3 (fun _ => True) (trivial) (first | (go_at_call 43; refine (CC.out _).mono ?_; rintro e w' ⟨rfl, b'⟩))
              go_wp2
              go_ret3
              exact ⟨by rw [HRD.out, if_pos (Classical.byContradiction fun h => HE.out (HXY.out.2 h))]; rfl, ((But.refl _ _).drew.trans b')⟩
set_option maxRecDepth 100000 in
set_option maxHeartbeats 1000000 in
theorem refReadText_any (s : ByteArray) (most : Int) (w : World) (hl : s.size ≤ maxLen) (hm0 : 0 ≤ most) (hm1 : most ≤ 4611686018427387903) :
    Calls Try.prog 37 #[.string s, .int .i64 most] w fun e w' => e = .returned (.tuple #[.string ⟨(rdText (bys s) most).1.toArray⟩, .int .i64 (rdText (bys s) most).2.1, .int .i64 (rdText (bys s) most).2.2]) ∧ But (fun _ => False) w w' := by
  have C := refReadNum_any s w hl
  unfold maxLen at hl
  have hf := rdNum_facts (bys s) (by rw [bys_length]; omega)
  have hv : ∀ v n e, rdNum (bys s) = (v, n, e) → rdText (bys s) most = if e ≠ 0 then ([], 0, e) else if most < v then ([], 0, 5) else if (s.size : Int) - n < v then ([], 0, 6) else (((bys s).drop n.toNat).take v.toNat, n + v, 0) := fun v n e h => by
    unfold rdText; rw [h, bys_length]
  obtain ⟨v, n, e, hr⟩ : ∃ v n e, rdNum (bys s) = (v, n, e) := ⟨_, _, _, rfl⟩
  have hv2 := hv v n e hr
  rw [hr] at C hf
  rw [bys_length] at hf
  simp only at hf
  obtain ⟨v0, v1, n0, n9, nl, he, hn1⟩ := hf
  have HV := Lib.hid hv2
  have CC := Lib.hid C
  have HN1 := Lib.hid hn1
  clear hv hv2 hr C hn1
  by_cases h0 : e = 0
  · subst h0
    have hn1 := HN1.out rfl
    have hmn : decide (most < 0) = false := by simp; omega
    have hmp : decide (0 ≤ most) = true := by simp; omega
    have hw1 : IntKind.u64.wrap most = most := IntWalk.u64_in _ (by omega)
    by_cases h5 : most < v
    · go_enter Try.func37, Try.ntmps37
      go_wp2_with fail
      refine CC.out.mono ?_
      rintro e w1 ⟨rfl, b1⟩
      go_wp2
      go_ret3
      exact ⟨by rw [HV.out, if_neg (by simp), if_pos h5]; rfl, b1⟩
    · have hw2 : IntKind.u64.wrap ((s.size : Int) - n) = (s.size : Int) - n := IntWalk.u64_in _ (by omega)
      by_cases h6 : (s.size : Int) - n < v
      · go_enter Try.func37, Try.ntmps37
        go_wp2_with fail
        refine CC.out.mono ?_
        rintro e w1 ⟨rfl, b1⟩
        go_wp2
        go_ret3
        exact ⟨by rw [HV.out, if_neg (by simp), if_neg (by omega), if_pos h6]; rfl, b1⟩
      · have hle : n + v ≤ s.size := by omega
        have he : bys (s.extract n.toNat (n + v).toNat) = ((bys s).drop n.toNat).take v.toNat := by
          rw [bys_extract, List.drop_take]; congr 1; omega
        have HE := Lib.hid (show s.extract n.toNat (n + v).toNat = ⟨(((bys s).drop n.toNat).take v.toNat).toArray⟩ from bys_inj (by rw [he]; rfl))
        clear he
        go_enter Try.func37, Try.ntmps37
        go_wp2_with fail
        refine CC.out.mono ?_
        rintro e w1 ⟨rfl, b1⟩
        go_wp2
        go_ret3
        exact ⟨by rw [HV.out, if_neg (by simp), if_neg (by omega), if_neg (by omega), ← HE.out]; rfl, b1⟩
  · have h0b : (e == 0) = false := by simpa using h0
    have h0c : (e != 0) = true := by simpa using h0
    have H0 := Lib.hid h0
    clear h0
    go_enter Try.func37, Try.ntmps37
    go_wp2_with fail
    refine CC.out.mono ?_
    rintro e w1 ⟨rfl, b1⟩
    go_wp2
    go_ret3
    exact ⟨by rw [HV.out, if_pos H0.out]; rfl, b1⟩
end Go.Proofs.Ytimhejjdgncdaaa
