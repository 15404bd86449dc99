/- Whether a rune is one of an atom's letters: strings.ContainsRune at the one string that asks it. -/
import Derived.Test.YtimhejjdgncdaaaOctet
import Derived.Deep.QuietTactic
import Derived.BigQuiet
import Derived.Lib.Bytealg
import Derived.Laws.Externs
import Derived.Laws.Runes
import Derived.WalkLawsBesides
import Derived.WalkMore
import Derived.Deep.RegionHeld3
namespace Go.Proofs.Ytimhejjdgncdaaa
open Go.RowKit
set_option linter.unusedVariables false
set_option linter.unusedSimpArgs false

def letters : ByteArray := ⟨#[97, 98, 99, 100, 101, 102, 103, 104, 105, 106, 107, 108, 109, 110, 111, 112, 113, 114, 115, 116, 117, 118, 119, 120, 121, 122, 48, 49, 50, 51, 52, 53, 54, 55, 56, 57, 47, 46, 45]⟩
theorem call_indexByteString (s : ByteArray) (c : Int) (w : World) : (callFunc 52 #[.string s, .int .u8 c]).run Try.prog w = .ok (.value (.int .i64 (Lib.indexByte s.data.toList c.toNat.toUInt8))) w := by
  rw [run_callFunc_extern Try.func52 (by kernel_rfl) (by kernel_rfl) (by kernel_rfl) (e := Extern.BytealgIndexByte.indexByte) (by kernel_rfl), Lib.run_indexByteString]
  rfl
theorem sliteIndexByte_any (s : ByteArray) (c : Int) (w : World) : Calls Try.prog 51 #[.string s, .int .u8 c] w fun e w' => e = .returned (.int .i64 (Lib.indexByte s.data.toList c.toNat.toUInt8)) ∧ w' = w := by
  have h := call_indexByteString s c w
  go_enter Try.func51, Try.ntmps51
  go_wp2
  go_ret
  exact ⟨rfl, rfl⟩
theorem IndexByte_any (s : ByteArray) (c : Int) (w : World) : Calls Try.prog 47 #[.string s, .int .u8 c] w fun e w' => e = .returned (.int .i64 (Lib.indexByte s.data.toList c.toNat.toUInt8)) ∧ w' = w := by
  go_enter Try.func47, Try.ntmps47
  go_wp2_with (go_at_call 51; refine (sliteIndexByte_any _ _ _).mono ?_; rintro e w' ⟨rfl, rfl⟩)
  go_ret
  exact ⟨rfl, rfl⟩
set_option maxRecDepth 100000 in
set_option maxHeartbeats 1000000 in
theorem IndexRune_lo (s : ByteArray) (r : Int) (w : World) (h0 : 0 ≤ r) (h1 : r < 128) : Calls Try.prog 46 #[.string s, .int .i32 r] w fun e w' => e = .returned (.int .i64 (Lib.indexByte s.data.toList r.toNat.toUInt8)) ∧ w' = w := by
  go_enter Try.func46, Try.ntmps46
  go_wp2_with (go_at_call 47; refine (IndexByte_any _ _ _).mono ?_; rintro e w' ⟨rfl, rfl⟩)
  go_ret
  exact ⟨rfl, rfl⟩
/-- Where an iterator over a string stands. -/
def iterPos (w : World) (g : Nat) : Nat := match w.heap[g]? with | some (.stringIter _ p) => p | _ => 0
theorem iterPos_iter (w : World) (s : ByteArray) (k : Nat) : iterPos (w.iter s k) w.heap.size = k := by unfold iterPos; rw [World.iter_heap]
theorem But.iter {p : Nat → Prop} {w w1 : World} (h : But p w w1) (s : ByteArray) (k : Nat) : But p w (w1.iter s k) := h.alloc _
theorem letters_lo : ∀ k : Fin 39, (letters[k.val]'(by show _ < 39; exact k.isLt)).toNat < 128 := by decide +kernel
def validR (r : Int) : Bool := (decide (0 ≤ r) && decide (r < 55296)) || (decide (57343 < r) && decide (r ≤ 1114111))
theorem validR_eq (r : Int) : validR r = Utf8.valid r := by
  unfold validR Utf8.valid
  rw [Bool.eq_iff_iff]
  simp
  omega
theorem ValidRune_any (r : Int) (w : World) (h0 : 0 ≤ r) : Calls Try.prog 48 #[.int .i32 r] w fun e w' => e = .returned (.bool (validR r)) ∧ w' = w := by
  by_cases h1 : r < 55296
  · have hv := Lib.hid (show validR r = true from by unfold validR; simp [h0, h1])
    go_enter Try.func48, Try.ntmps48
    go_wp2
    go_ret
    exact ⟨by rw [hv.out]; rfl, rfl⟩
  · by_cases h2 : 57343 < r
    · by_cases h3 : r ≤ 1114111
      · have hv := Lib.hid (show validR r = true from by unfold validR; simp [h2, h3])
        go_enter Try.func48, Try.ntmps48
        go_wp2
        go_ret
        exact ⟨by rw [hv.out]; rfl, rfl⟩
      · have hv := Lib.hid (show validR r = false from by unfold validR; simp; omega)
        go_enter Try.func48, Try.ntmps48
        go_wp2
        go_ret
        exact ⟨by rw [hv.out]; rfl, rfl⟩
    · have hv := Lib.hid (show validR r = false from by unfold validR; simp; omega)
      go_enter Try.func48, Try.ntmps48
      go_wp2
      go_ret
      exact ⟨by rw [hv.out]; rfl, rfl⟩
theorem letters_idx : ∀ c : Fin 128, Lib.indexByte (letters.data.toList.drop 2) (UInt8.ofNat (128 + c.val)) = -1 ∧ Lib.indexByte (letters.data.toList.drop 3) (UInt8.ofNat (128 + c.val)) = -1 ∧ Lib.indexByte (letters.data.toList.drop 4) (UInt8.ofNat (128 + c.val)) = -1 := by decide +kernel
theorem letters_no (b : UInt8) (h : 128 ≤ b.toNat) (k : Nat) (hk : k = 2 ∨ k = 3 ∨ k = 4) : Lib.indexByte (letters.data.toList.drop k) b = -1 := by
  have hb := b.toNat_lt
  have h2 := letters_idx ⟨b.toNat - 128, by omega⟩
  have e : UInt8.ofNat (128 + (b.toNat - 128)) = b := by
    rw [show 128 + (b.toNat - 128) = b.toNat by omega]; simp
  simp only [e] at h2
  rcases hk with rfl | rfl | rfl
  · exact h2.1
  · exact h2.2.1
  · exact h2.2.2
set_option maxRecDepth 100000 in
set_option maxHeartbeats 4000000 in
theorem IndexRune_hi (r : Int) (w : World) (h0 : 128 ≤ r) (h1 : r ≤ 2147483647) : Calls Try.prog 46 #[.string letters, .int .i32 r] w fun e w' => e = .returned (.int .i64 (-1)) ∧ But (fun _ => False) w w' := by
  by_cases he : r = 65533
  · subst he
    go_enter Try.func46, Try.ntmps46
    have hsz : letters.size = 39 := rfl
    go_wp2
    go_loopw [5] (fun i wr => ∃ k : Nat, k ≤ 39 ∧ wr = w.iter letters k) (fun _ wr => 39 - iterPos wr w.heap.size)
    case atStart => exact ⟨0, by omega, rfl⟩
    case round =>
      obtain ⟨k, hk, rfl⟩ := hrel
      by_cases hlt : k < 39
      · have hlo : (letters[k]'(by show _ < 39; exact hlt)).toNat < 128 := letters_lo ⟨k, hlt⟩
        have hn := run_next_ascii (P := Try.prog) w letters k
        have hn2 := fun ty => hn ty (by show _ < 39; exact hlt) hlo
        obtain ⟨b, hb⟩ : ∃ b, letters[k]'(by show _ < 39; exact hlt) = b := ⟨_, rfl⟩
        rw [hb] at hlo
        simp only [hb] at hn2
        have hne : ((b.toNat : Int) == 65533) = false := by simp; omega
        clear hn hb
        go_wp2
        exact ⟨⟨k + 1, by omega, rfl⟩, by rw [iterPos_iter, iterPos_iter]; omega⟩
      · obtain rfl : k = 39 := by omega
        have hn2 := fun ty => run_next_end (P := Try.prog) w letters 39 ty (by show ¬ 39 < 39; omega)
        go_wp2
        go_ret
        exact ⟨rfl, (But.refl _ _).iter _ _⟩
  · have e1 : (r == 65533) = false := by simpa using he
    cases hv : validR r with
    | false =>
      have C := Lib.hid (ValidRune_any r)
      rw [hv] at C
      clear hv he
      go_enter Try.func46, Try.ntmps46
      go_wp2_with (go_at_call 48; refine (C.out _ (by omega)).mono ?_; rintro e w' ⟨rfl, rfl⟩)
      go_ret
      exact ⟨rfl, But.refl _ _⟩
    | true =>
      have C := Lib.hid (ValidRune_any r)
      rw [hv] at C
      obtain ⟨f1, f2, f3⟩ := encode_facts r (by rw [← validR_eq]; exact hv) h0
      obtain ⟨t, ht⟩ : ∃ t, Utf8.encode r = t := ⟨_, rfl⟩
      rw [ht] at f1 f2 f3
      clear hv he
      have hm : t.size = 2 ∨ t.size = 3 ∨ t.size = 4 := by omega
      rcases hm with hm | hm | hm
      · have hx : 1 < t.size := by omega
        obtain ⟨b, hb⟩ : ∃ b, t[1]'hx = b := ⟨_, rfl⟩
        have hb2 : 128 ≤ b.toNat := by
          have := f3 (by omega)
          simp only [hm] at this
          rw [← hb]; exact this
        have hn := letters_no b hb2 2 (.inl rfl)
        have hne : ((98 : Int) == (b.toNat : Int)) = false := by simp; omega
        have hne2 : ((98 : Int) != (b.toNat : Int)) = true := by simp; omega
        have cb : ∀ W : World, Calls Try.prog 47 #[.string (letters.extract 2 39), .int .u8 (b.toNat : Int)] W fun e w' => e = .returned (.int .i64 (-1)) ∧ w' = W := fun W => by
          have := IndexByte_any (letters.extract 2 39) (b.toNat : Int) W
          rw [show (letters.extract 2 39).data.toList = letters.data.toList.drop 2 from rfl, show ((b.toNat : Int)).toNat.toUInt8 = b by simp, hn] at this
          exact this
        have CB := Lib.hid cb
        clear f1 f2 f3 hn cb
        go_enter Try.func46, Try.ntmps46
        go_wp2_with (go_at_call 48; refine (C.out _ (by omega)).mono ?_; rintro e w' ⟨rfl, rfl⟩)
        go_step3
        go_wp2
        go_loopw [9] (fun i wr => i = .int .i64 1 ∧ wr = w') (fun _ _ => 0)
        case atStart => exact ⟨rfl, rfl⟩
        case round =>
          obtain ⟨rfl, rfl⟩ := hrel
          have hsz : letters.size = 39 := rfl
          have hw2 : IntKind.i64.wrap 2 = 2 := rfl
          have hw3 : IntKind.i64.wrap 3 = 3 := rfl
          have hw4 : IntKind.i64.wrap 4 = 4 := rfl
          have h1i : letters[1] = 98 := rfl
          go_wp2
          go_step3
          go_wp2
          go_quiet (fail)
          go_wp2
          go_region_held3 (fun _ => True) (trivial) (first | (go_at_call 47; refine (CB.out _).mono ?_; rintro e w' ⟨rfl, rfl⟩))
          all_goals
            go_wp2
            simp +zetaDelta only [Exit.noGoto_ret, Exit.inBlock, Exit.then]
            go_ret
            exact ⟨rfl, ((But.refl _ _).drewN _).drew⟩
      · have hx : 2 < t.size := by omega
        obtain ⟨b, hb⟩ : ∃ b, t[2]'hx = b := ⟨_, rfl⟩
        have hb2 : 128 ≤ b.toNat := by
          have := f3 (by omega)
          simp only [hm] at this
          rw [← hb]; exact this
        have hn := letters_no b hb2 3 (.inr (.inl rfl))
        have hne : ((99 : Int) == (b.toNat : Int)) = false := by simp; omega
        have hne2 : ((99 : Int) != (b.toNat : Int)) = true := by simp; omega
        have cb : ∀ W : World, Calls Try.prog 47 #[.string (letters.extract 3 39), .int .u8 (b.toNat : Int)] W fun e w' => e = .returned (.int .i64 (-1)) ∧ w' = W := fun W => by
          have := IndexByte_any (letters.extract 3 39) (b.toNat : Int) W
          rw [show (letters.extract 3 39).data.toList = letters.data.toList.drop 3 from rfl, show ((b.toNat : Int)).toNat.toUInt8 = b by simp, hn] at this
          exact this
        have CB := Lib.hid cb
        clear f1 f2 f3 hn cb
        go_enter Try.func46, Try.ntmps46
        go_wp2_with (go_at_call 48; refine (C.out _ (by omega)).mono ?_; rintro e w' ⟨rfl, rfl⟩)
        go_step3
        go_wp2
        go_loopw [9] (fun i wr => i = .int .i64 2 ∧ wr = w') (fun _ _ => 0)
        case atStart => exact ⟨rfl, rfl⟩
        case round =>
          obtain ⟨rfl, rfl⟩ := hrel
          have hsz : letters.size = 39 := rfl
          have hw2 : IntKind.i64.wrap 2 = 2 := rfl
          have hw3 : IntKind.i64.wrap 3 = 3 := rfl
          have hw4 : IntKind.i64.wrap 4 = 4 := rfl
          have h1i : letters[2] = 99 := rfl
          go_wp2
          go_step3
          go_wp2
          go_quiet (fail)
          go_wp2
          go_region_held3 (fun _ => True) (trivial) (first | (go_at_call 47; refine (CB.out _).mono ?_; rintro e w' ⟨rfl, rfl⟩))
          all_goals
            go_wp2
            simp +zetaDelta only [Exit.noGoto_ret, Exit.inBlock, Exit.then]
            go_ret
            exact ⟨rfl, ((But.refl _ _).drewN _).drew⟩
      · have hx : 3 < t.size := by omega
        obtain ⟨b, hb⟩ : ∃ b, t[3]'hx = b := ⟨_, rfl⟩
        have hb2 : 128 ≤ b.toNat := by
          have := f3 (by omega)
          simp only [hm] at this
          rw [← hb]; exact this
        have hn := letters_no b hb2 4 (.inr (.inr rfl))
        have hne : ((100 : Int) == (b.toNat : Int)) = false := by simp; omega
        have hne2 : ((100 : Int) != (b.toNat : Int)) = true := by simp; omega
        have cb : ∀ W : World, Calls Try.prog 47 #[.string (letters.extract 4 39), .int .u8 (b.toNat : Int)] W fun e w' => e = .returned (.int .i64 (-1)) ∧ w' = W := fun W => by
          have := IndexByte_any (letters.extract 4 39) (b.toNat : Int) W
          rw [show (letters.extract 4 39).data.toList = letters.data.toList.drop 4 from rfl, show ((b.toNat : Int)).toNat.toUInt8 = b by simp, hn] at this
          exact this
        have CB := Lib.hid cb
        clear f1 f2 f3 hn cb
        go_enter Try.func46, Try.ntmps46
        go_wp2_with (go_at_call 48; refine (C.out _ (by omega)).mono ?_; rintro e w' ⟨rfl, rfl⟩)
        go_step3
        go_wp2
        go_loopw [9] (fun i wr => i = .int .i64 3 ∧ wr = w') (fun _ _ => 0)
        case atStart => exact ⟨rfl, rfl⟩
        case round =>
          obtain ⟨rfl, rfl⟩ := hrel
          have hsz : letters.size = 39 := rfl
          have hw2 : IntKind.i64.wrap 2 = 2 := rfl
          have hw3 : IntKind.i64.wrap 3 = 3 := rfl
          have hw4 : IntKind.i64.wrap 4 = 4 := rfl
          have h1i : letters[3] = 100 := rfl
          go_wp2
          go_step3
          go_wp2
          go_quiet (fail)
          go_wp2
          go_region_held3 (fun _ => True) (trivial) (first | (go_at_call 47; refine (CB.out _).mono ?_; rintro e w' ⟨rfl, rfl⟩))
          all_goals
            go_wp2
            simp +zetaDelta only [Exit.noGoto_ret, Exit.inBlock, Exit.then]
            go_ret
            exact ⟨rfl, ((But.refl _ _).drewN _).drew⟩
def isLetter (r : Int) : Bool := decide (r < 128) && decide (0 ≤ Lib.indexByte letters.data.toList r.toNat.toUInt8)
theorem ContainsRune_any (r : Int) (w : World) (h0 : 0 ≤ r) (h1 : r ≤ 2147483647) : Calls Try.prog 44 #[.string letters, .int .i32 r] w fun e w' => e = .returned (.bool (isLetter r)) ∧ But (fun _ => False) w w' := by
  by_cases h : r < 128
  · have C := IndexRune_lo letters r w h0 h
    have hv := Lib.hid (show isLetter r = decide (0 ≤ Lib.indexByte letters.data.toList r.toNat.toUInt8) from by unfold isLetter; simp [h])
    generalize Lib.indexByte letters.data.toList r.toNat.toUInt8 = v at C hv
    have CC := Lib.hid C
    clear C
    go_enter Try.func44, Try.ntmps44
    go_wp2_with (go_at_call 46; refine CC.out.mono ?_; rintro e w' ⟨rfl, rfl⟩)
    go_ret
    exact ⟨by rw [hv.out]; rfl, But.refl _ _⟩
  · have C := Lib.hid (IndexRune_hi r w (by omega) h1)
    have hv := Lib.hid (show isLetter r = false from by unfold isLetter; simp [h])
    go_enter Try.func44, Try.ntmps44
    go_wp2_with (go_at_call 46; refine C.out.mono ?_; rintro e w' ⟨rfl, b⟩)
    go_ret
    exact ⟨by rw [hv.out]; rfl, b⟩
end Go.Proofs.Ytimhejjdgncdaaa
