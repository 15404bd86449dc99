/- NetStays: the walk. -/
import Derived.Test.YtimhejjdgncdaaaNet12
namespace Go.Proofs.Ytimhejjdgncdaaa
open Go.RowKit
set_option linter.unusedVariables false
set_option linter.unusedSimpArgs false
attribute [local go_sem] alloc_drewN setCell_drewN

/-- A list of a net's posts, as handed out. -/
theorem posts_of {w : World} {base n : Nat} {v : Value} {ps : List PostV} (h : w.ownsRow base 23 3 v n (cellsOf ps)) (hn : ps.length = n) : ∃ A c, v = .slice A n c ∧ n ≤ c ∧ c ≤ 9223372036854775807 ∧ PostsAt (fun k => k < base ∨ w.heap.size ≤ k) w A ps := by
  have hlt := h.lt
  obtain ⟨A, c, e1, h1, h2⟩ := row_val h
  refine ⟨A, c, e1, h1, h2, fun i x hi => ?_⟩
  have hil : i < ps.length := (List.getElem?_eq_some_iff.1 hi).1
  rcases h.2 with ⟨_, h0⟩ | ⟨g, cap, cur, ev, _, hb, _⟩
  · omega
  · have h' := h
    rw [ev] at e1 h'
    cases e1
    have hg := hlt g (by rw [ev]; rfl)
    have hc := fun j (hj : j < 3) => h'.cellAt (i * 3 + j) (by omega)
    refine ⟨g, rfl, by show ¬ (g < base ∨ w.heap.size ≤ g); omega, ?_, ?_, ?_⟩
    · have := hc 0 (by omega); rw [Nat.add_zero] at this; rw [this, ← Nat.add_zero (i * 3)]; exact cellsOf_get _ i 0 x _ hi rfl
    · rw [hc 1 (by omega)]; exact cellsOf_get _ i 1 x _ hi rfl
    · rw [hc 2 (by omega)]; exact cellsOf_get _ i 2 x _ hi rfl
theorem sameP_self {w : World} {A1 A2 : Option Addr} {n c1 c2 : Nat} {m : List PostV} (h1 : PostsAt (fun _ => False) w A1 m) (h2 : PostsAt (fun _ => False) w A2 m) (l : m.length = n) (b1 : n ≤ c1) (b2 : n ≤ c2) (d1 : c1 ≤ 9223372036854775807) (d2 : c2 ≤ 9223372036854775807) :
    Calls Try.prog 14 #[.slice A1 n c1, .slice A2 n c2] w fun e w' => e = .returned (.bool true) ∧ But (fun _ => False) w w' :=
  (SameP_any h1 h2 l l b1 b2 d1 d2).mono fun e w' ⟨he, k, hw⟩ => ⟨by rw [he]; simp, by rw [hw]; exact (But.refl _ w).drewN k⟩
theorem PostsAt.no {q : Nat → Prop} {w : World} {A : Option Addr} {l : List PostV} (h : PostsAt q w A l) : PostsAt (fun _ => False) w A l := fun i x hi => by
  obtain ⟨g, hA, _, c⟩ := h i x hi
  exact ⟨g, hA, fun f => f, c⟩
theorem PostsAt.kept {q p : Nat → Prop} {w w1 : World} {A : Option Addr} {l : List PostV} (h : PostsAt q w A l) (k : But p w w1) (hp : ∀ i, p i → q i) : PostsAt (fun _ => False) w1 A l := (h.but k hp).no
theorem nums_mem {f : Nat → PostV → Bool} {ps : List PostV} {n j k : Nat} (h : (nums f ps n)[j]? = some k) : ∃ p, ps[k]? = some p ∧ f k p = true := by
  have hm := List.mem_of_getElem? h
  unfold nums at hm
  rw [List.mem_filter] at hm
  obtain ⟨_, h2⟩ := hm
  cases hp : ps[k]? with
  | none => simp [hp] at h2
  | some p => simp only [hp] at h2; exact ⟨p, rfl, h2⟩
theorem below_mono (ps : List PostV) {a b : Nat} (h : a ≤ b) : below ps a ≤ below ps b := by
  induction b with
  | zero => obtain rfl : a = 0 := by omega
            exact Nat.le_refl _
  | succ b ih =>
    by_cases e : a = b + 1
    · subst e; exact Nat.le_refl _
    · exact Nat.le_trans (ih (by omega)) (by simp only [below]; omega)
theorem NetInv.below_le {s : NetV} (h : NetInv s) {o : Nat} (ho : o ≤ 8) : below s.ps o ≤ s.ps.length := by
  have := below_mono s.ps ho
  rwa [h.all] at this
theorem natsOf_get {l : List Nat} {j k : Nat} (h : l[j]? = some k) : (natsOf l)[j]? = some (.int .i64 k) := by
  unfold natsOf; rw [List.getElem?_map, h]; rfl
/-- While the law puts: the net, whose blocks are its own. -/
def StayAt (w : World) (g k : Nat) (wr : World) : Prop := ∃ B s, NetAt wr g B s ∧ NetInv s ∧ s.ps.length ≤ k ∧ But (fun _ => False) w wr ∧ ∀ j, B.mine g j → w.heap.size ≤ j
theorem StayAt.start {w w1 : World} {g : Nat} {B : NetB} (hN : NetAt w1 g B net0) (hb : But (fun _ => False) w w1) (hf : ∀ k, B.mine g k → w.heap.size ≤ k) : StayAt w g 0 w1 := ⟨B, net0, hN, NetInv.zero, Nat.le_refl _, hb, hf⟩
theorem StayAt.but {w : World} {g k : Nat} {wr w1 : World} (h : StayAt w g k wr) (b : But (fun _ => False) wr w1) : StayAt w g (k + 1) w1 := by
  obtain ⟨B, s, h1, h2, h3, h4, h5⟩ := h
  exact ⟨B, s, h1.but b (fun _ _ f => f), h2, by omega, h4.trans b, h5⟩
theorem StayAt.but0 {w : World} {g k : Nat} {wr w1 : World} (h : StayAt w g k wr) (b : But (fun _ => False) wr w1) : StayAt w g k w1 := by
  obtain ⟨B, s, h1, h2, h3, h4, h5⟩ := h
  exact ⟨B, s, h1.but b (fun _ _ f => f), h2, h3, h4.trans b, h5⟩
set_option maxRecDepth 100000 in
set_option maxHeartbeats 8000000 in
theorem NetStays_any {w : World} {A : Option Addr} {n c : Nat} {l : List PostV} (h : PostsIn w A l) (hl : l.length = n) (hn : n ≤ c) (hc : c ≤ 9223372036854775807) :
    Calls Try.prog 4 #[.slice A n c] w fun e w' => e = .returned (.bool true) ∧ But (fun _ => False) w w' := by
  have C0 := heavy30_any h hl hn hc
  cases hh : heavyB l with
  | true =>
    rw [hh] at C0
    clear hh h hl
    go_enter Try.func4, Try.ntmps4
    go_wp2_with (first
      | (go_at_call 12; refine C0.mono ?_; rintro _ _ ⟨rfl, rfl⟩)
      | (go_at_call 6; refine (alive30_any _).mono ?_; rintro _ _ ⟨rfl, hb⟩))
    go_ret
    exact ⟨rfl, hb⟩
  | false =>
    rw [hh] at C0
    obtain ⟨h120, h2048⟩ := heavyB_no hh
    have H := Lib.hid h
    have HL := Lib.hid hl
    rw [hl] at h120
    clear hh h hl h2048
    go_enter Try.func4, Try.ntmps4
    go_wp2_with (first
      | (go_at_call 12; refine C0.mono ?_; rintro _ w0 ⟨rfl, hw⟩; rw [hw]; clear hw w0)
      | (go_at_call 7; go_loud (refine (New_any _).mono ?_; rintro _ w1 ⟨g, B, rfl, hN, hb, hf⟩; have HS := Lib.hid (StayAt.start hN hb hf); clear hN hb hf)))
    go_loopw [4] (fun i wr => ∃ k : Nat, k ≤ n ∧ i = .int .i64 k ∧ StayAt w g k wr) (fun i _ => n - (intOf i).toNat)
    case atStart => exact ⟨0, Nat.zero_le _, rfl, HS.out⟩
    case round =>
      obtain ⟨k, hk, rfl, hst⟩ := hrel
      have HR := Lib.hid hst
      clear hst
      by_cases hlt : k < n
      -- DEV1
      · obtain ⟨B1, s, hN, hI, hsl, hbw, hfr⟩ := HR.out
        obtain ⟨p, hp⟩ : ∃ p, l[k]? = some p := ⟨_, List.getElem?_eq_getElem (by rw [HL.out]; exact hlt)⟩
        obtain ⟨hok, ga, off, rfl, hga, a0, a1, a2⟩ := H.out k p hp
        replace a0 := hbw.cell a0 (fun f => f)
        replace a1 := hbw.cell a1 (fun f => f)
        replace a2 := hbw.cell a2 (fun f => f)
        have HN := Lib.hid hN
        have HI := Lib.hid hI
        have HBW := Lib.hid hbw
        have HFR := Lib.hid hfr
        have HOK := Lib.hid hok
        have CL := List_any hN
        clear hN hI hbw hfr hok hp
        cases ho : okP p with
        | false =>
          go_wp2_with (first
            | (go_at_call_of 13 (Value.pointer (some ⟨g, 0, none⟩)); refine CL.mono ?_; rintro _ w2 ⟨v, rfl, hv, b2⟩; have CP := Put_bad (HN.out.but b2 (fun _ _ f => f)) p HOK.out ho; obtain ⟨A2, c2, rfl, l2, m2, P2⟩ := posts_of hv rfl; have HP2 := Lib.hid P2; have HB2 := Lib.hid b2; have a0' := b2.cell a0 (fun f => f); have a1' := b2.cell a1 (fun f => f); have a2' := b2.cell a2 (fun f => f); clear CL hv P2 b2)
            | (go_at_call 8; refine CP.mono ?_; rintro _ w3 ⟨rfl, b3⟩; have CL2 := List_any ((HN.out.but HB2.out (fun _ _ f => f)).but b3 (fun _ _ f => f)); have HB3 := Lib.hid b3; clear CP b3)
            | (go_at_call_of 13 (Value.pointer (some ⟨g, 0, none⟩)); refine CL2.mono ?_; rintro _ w4 ⟨v4, rfl, hv4, b4⟩; obtain ⟨A4, c4, rfl, l4, m4, P4⟩ := posts_of hv4 rfl; have CS := sameP_self (PostsAt.kept (p := fun _ => False) HP2.out (HB3.out.trans b4) (fun _ f => f.elim)) P4.no rfl l2 l4 m2 m4; have HB4 := Lib.hid b4; clear CL2 hv4 P4 b4)
            | (go_at_call 14; refine CS.mono ?_; rintro _ w5 ⟨rfl, b5⟩; have HB5 := Lib.hid b5; clear CS b5))
          go_roundw
          case rel => exact ⟨k + 1, by omega, rfl, (((HR.out.but0 HB2.out).but0 HB3.out).but0 HB4.out).but HB5.out⟩
          case measure => simp [intOf]; omega
        | true =>
          have hlen1 : (s.next p).ps.length = s.ps.length + 1 := by simp [NetV.next]
          have hge : ((s.next p).get (s.ps.length : Int)) = (p, true) := by
            unfold NetV.get
            rw [if_pos ⟨by omega, by rw [hlen1]; omega⟩]
            simp [NetV.next, List.getD_eq_getElem?_getD]
          go_upto_region 16 with (first
            | (go_at_call_of 13 (Value.pointer (some ⟨g, 0, none⟩)); refine CL.mono ?_; rintro _ w2 ⟨v, rfl, hv, b2⟩; have CP := Put_ok (HN.out.but b2 (fun _ _ f => f)) p HOK.out ho (by omega); obtain ⟨A2, c2, rfl, l2, m2, P2⟩ := posts_of hv rfl; have HP2 := Lib.hid P2; have HB2 := Lib.hid b2; have a0' := b2.cell a0 (fun f => f); have a1' := b2.cell a1 (fun f => f); have a2' := b2.cell a2 (fun f => f); clear CL hv P2 b2)
            | (go_at_call 8; refine CP.mono ?_; rintro _ w3 ⟨rfl, B3, h3, b3, f3⟩; have CL2 := List_any h3; have hga3 := (show ¬ B1.mine g ga from fun m => by have := HFR.out _ m; omega); have z0 := b3.cell a0' hga3; have z1 := b3.cell a1' hga3; have z2 := b3.cell a2' hga3; have HP3 := Lib.hid (HP2.out.but b3 (fun i hi => .inl (HN.out.lt i hi))); have H3 := Lib.hid h3; have HB3 := Lib.hid b3; have HF3 := Lib.hid f3; clear CP b3 h3 f3 a0' a1' a2' hga3)
            | (go_at_call_of 13 (Value.pointer (some ⟨g, 0, none⟩)); refine CL2.mono ?_; rintro _ w4 ⟨v4, rfl, hv4, b4⟩; obtain ⟨A4, c4, rfl, l4, m4, P4⟩ := posts_of hv4 rfl; have CG := Get_any (H3.out.but b4 (fun _ _ f => f)) (s.ps.length : Int) (by omega); rw [hge] at CG; simp only [PostV.val, PostV.arr, PostV.cells] at CG; rw [hlen1] at l4; have HP4 := Lib.hid (PostsAt.no (HP3.out.but (p := fun _ => False) b4 (fun _ f => f.elim))); have HQ4 := Lib.hid P4.no; have HB4 := Lib.hid b4; have y0 := b4.cell z0 (fun f => f); have y1 := b4.cell z1 (fun f => f); have y2 := b4.cell z2 (fun f => f); clear CL2 hv4 P4 b4 z0 z1 z2)
            | (go_at_call 15; refine CG.mono ?_; rintro _ w5 ⟨rfl, b5⟩; have HB5 := Lib.hid b5; have x0 := b5.cell y0 (fun f => f); have x1 := b5.cell y1 (fun f => f); have x2 := b5.cell y2 (fun f => f); clear CG b5 y0 y1 y2))
          -- R16
          have hwr : IntKind.i64.wrap ((s.ps.length : Int) + 1) = (s.ps.length : Int) + 1 := IntWalk.i64_in _ (by omega)
          obtain ⟨g4, rfl, _⟩ := HQ4.out s.ps.length p (by simp [NetV.next])
          rw [show Obj.cells #[Value.int .i64 p.fr, .int .i64 p.to, .string p.env] 23 = p.obj from rfl]
          refine wp_region_held_drew (S := (fun W => Holds W w5.heap.size p.obj ∧ W.cell? ⟨ga, off + k * 3, none⟩ = some (.int .i64 p.fr) ∧ W.cell? ⟨ga, off + k * 3 + 1, none⟩ = some (.int .i64 p.to) ∧ W.cell? ⟨ga, off + k * 3 + 2, none⟩ = some (.string p.env))) (by kernel_rfl) ⟨Holds.new w5 p.obj, cell_al _ x0, cell_al _ x1, cell_al _ x2⟩ (fun hS => ?_)
          obtain ⟨w6, hw6⟩ : ∃ wd, (w5.alloc p.obj).drew = wd := ⟨_, rfl⟩
          have HB6 := Lib.hid (show But (fun _ => False) w5 w6 from by rw [← hw6]; exact ((But.refl _ w5).alloc _).drew)
          rw [hw6] at hS ⊢
          clear hw6
          refine' anyH_take (i := 0) (v := (.int .i64 (s.ps.length : Int))) rfl (by kernel_rfl) (by kernel_rfl) (by kernel_rfl) (fun _ _ _ h => h) (Or.inl ⟨by rfl, fun _ _ => by rfl⟩) hS ?_
          simp only [Act.put, List.setIfInBounds_toArray, List.set_cons_zero, List.set_cons_succ]
          refine' anyH_take (i := 1) (v := (.slice A2 s.ps.length c2)) rfl (by kernel_rfl) (by kernel_rfl) (by kernel_rfl) (fun _ _ _ h => h) (Or.inl ⟨by rfl, fun _ _ => by rfl⟩) hS ?_
          simp only [Act.put, List.setIfInBounds_toArray, List.set_cons_zero, List.set_cons_succ]
          refine' anyH_take (i := 2) (v := (.int .i64 (s.ps.length : Int))) rfl (by kernel_rfl) (by kernel_rfl) (by kernel_rfl) (fun _ _ _ h => h) (Or.inl ⟨by rfl, fun _ _ => by go_simp⟩) hS ?_
          simp only [Act.put, List.setIfInBounds_toArray, List.set_cons_zero, List.set_cons_succ]
          refine' anyH_take (i := 3) (v := (.bool false)) rfl (by kernel_rfl) (by kernel_rfl) (by kernel_rfl) (fun _ _ _ h => h) (Or.inl ⟨by rfl, fun _ _ => by go_simp⟩) hS ?_
          simp only [Act.put, List.setIfInBounds_toArray, List.set_cons_zero, List.set_cons_succ]
          refine' anyH_take (i := 4) (v := (.bool false)) rfl (by kernel_rfl) (by kernel_rfl) (by kernel_rfl) (fun _ _ _ h => h) (Or.inl ⟨by rfl, fun _ _ => by rfl⟩) hS ?_
          simp only [Act.put, List.setIfInBounds_toArray, List.set_cons_zero, List.set_cons_succ]
          refine' anyH_take (i := 5) (v := (.slice (some ⟨g4, 0, none⟩) (s.ps.length + 1) c4)) rfl (by kernel_rfl) (by kernel_rfl) (by kernel_rfl) (fun _ _ _ h => h) (Or.inl ⟨by rfl, fun _ _ => by rfl⟩) hS ?_
          simp only [Act.put, List.setIfInBounds_toArray, List.set_cons_zero, List.set_cons_succ]
          refine' anyH_take (i := 6) (v := (.int .i64 ((s.ps.length : Int) + 1))) rfl (by kernel_rfl) (by kernel_rfl) (by kernel_rfl) (fun _ _ _ h => h) (Or.inl ⟨by rfl, fun _ _ => by go_simp⟩) hS ?_
          simp only [Act.put, List.setIfInBounds_toArray, List.set_cons_zero, List.set_cons_succ]
          refine' anyH_take (i := 7) (v := (.int .i64 (s.ps.length : Int))) rfl (by kernel_rfl) (by kernel_rfl) (by kernel_rfl) (fun _ _ _ h => h) (Or.inl ⟨by rfl, fun _ _ => by rfl⟩) hS ?_
          simp only [Act.put, List.setIfInBounds_toArray, List.set_cons_zero, List.set_cons_succ]
          refine' anyH_take (i := 8) (v := (.int .i64 ((s.ps.length : Int) + 1))) rfl (by kernel_rfl) (by kernel_rfl) (by kernel_rfl) (fun _ _ _ h => h) (Or.inl ⟨by rfl, fun _ _ => by go_simp⟩) hS ?_
          simp only [Act.put, List.setIfInBounds_toArray, List.set_cons_zero, List.set_cons_succ]
          refine' anyH_take (i := 9) (v := (.bool false)) rfl (by kernel_rfl) (by kernel_rfl) (by kernel_rfl) (fun _ _ _ h => h) (Or.inl ⟨by rfl, fun _ _ => by go_simp⟩) hS ?_
          simp only [Act.put, List.setIfInBounds_toArray, List.set_cons_zero, List.set_cons_succ]
          refine' anyH_take (i := 10) (v := (.bool false)) rfl (by kernel_rfl) (by kernel_rfl) (by kernel_rfl) (fun _ _ _ h => h) (Or.inl ⟨by rfl, fun _ _ => by rfl⟩) hS ?_
          simp only [Act.put, List.setIfInBounds_toArray, List.set_cons_zero, List.set_cons_succ]
          refine' anyH_take (i := 11) (v := (.bool false)) rfl (by kernel_rfl) (by kernel_rfl) (by kernel_rfl) (fun _ _ _ h => h) (Or.inl ⟨by rfl, fun _ _ => by rfl⟩) hS ?_
          simp only [Act.put, List.setIfInBounds_toArray, List.set_cons_zero, List.set_cons_succ]
          refine' anyH_take (i := 12) (v := (.slice (some ⟨g4, 0, none⟩) (s.ps.length + 1) c4)) rfl (by kernel_rfl) (by kernel_rfl) (by kernel_rfl) (fun _ _ _ h => h) (Or.inl ⟨by rfl, fun _ _ => by rfl⟩) hS ?_
          simp only [Act.put, List.setIfInBounds_toArray, List.set_cons_zero, List.set_cons_succ]
          refine' anyH_take (i := 13) (v := (.int .i64 (s.ps.length : Int))) rfl (by kernel_rfl) (by kernel_rfl) (by kernel_rfl) (fun _ _ _ h => h) (Or.inl ⟨by rfl, fun _ _ => by rfl⟩) hS ?_
          simp only [Act.put, List.setIfInBounds_toArray, List.set_cons_zero, List.set_cons_succ]
          refine' anyH_take (i := 14) (v := (.slice (some ⟨g4, 0, none⟩) s.ps.length c4)) rfl (by kernel_rfl) (by kernel_rfl) (by kernel_rfl) (fun _ _ _ h => h) (Or.inl ⟨by rfl, fun _ _ => by go_simp; intro hx; exact absurd hx (by omega)⟩) hS ?_
          simp only [Act.put, List.setIfInBounds_toArray, List.set_cons_zero, List.set_cons_succ]
          refine' anyH_take (i := 15) (v := (.slice A2 s.ps.length c2)) rfl (by kernel_rfl) (by kernel_rfl) (by kernel_rfl) (fun _ _ _ h => h) (Or.inl ⟨by rfl, fun _ _ => by rfl⟩) hS ?_
          simp only [Act.put, List.setIfInBounds_toArray, List.set_cons_zero, List.set_cons_succ]
          have CS := sameP_self (w := w6) (fun i x hi => (PostsAt.kept (p := fun _ => False) HQ4.out (HB5.out.trans HB6.out) (fun _ f => f.elim)) i x (by rw [show (s.next p).ps = s.ps ++ [p] from rfl, List.getElem?_append_left (List.getElem?_eq_some_iff.1 hi).1]; exact hi)) (PostsAt.kept (p := fun _ => False) HP4.out (HB5.out.trans HB6.out) (fun _ f => f.elim)) rfl (by omega) l2 m4 m2
          refine wpAnyH_ready (rs := [16]) (by kernel_rfl) (by simp) (anyH_cons rfl (fun K hK => ?_) AllReadyH.nil)
          refine ready_call (by rfl) (by kernel_rfl) (R := fun v w' => v = .bool true ∧ But (fun _ => False) w6 w') (CS.mono fun e w' ⟨he, hb⟩ => ⟨_, he, rfl, hb⟩) ?_
          rintro _ w7 ⟨rfl, b7⟩
          simp only [Act.put, List.setIfInBounds_toArray, List.set_cons_zero, List.set_cons_succ]
          have HB7 := Lib.hid b7
          refine hK.out _ _ ⟨hS.1.but b7 (fun f => f), b7.cell hS.2.1 (fun f => f), b7.cell hS.2.2.1 (fun f => f), b7.cell hS.2.2.2 (fun f => f)⟩ (fun hN => ?_)
          clear hK K hS b7 CS
          have hS := hN
          clear hN
          refine' anyH_take (i := 17) (v := (.bool false)) rfl (by kernel_rfl) (by kernel_rfl) (by kernel_rfl) (fun _ _ _ h => h) (Or.inl ⟨by rfl, fun _ _ => by rfl⟩) hS ?_
          simp only [Act.put, List.setIfInBounds_toArray, List.set_cons_zero, List.set_cons_succ]
          refine' anyH_take (i := 18) (v := (.bool false)) rfl (by kernel_rfl) (by kernel_rfl) (by kernel_rfl) (fun _ _ _ h => h) (Or.inl ⟨by rfl, fun _ _ => by rfl⟩) hS ?_
          simp only [Act.put, List.setIfInBounds_toArray, List.set_cons_zero, List.set_cons_succ]
          refine' anyH_take (i := 19) (v := (.bool false)) rfl (by kernel_rfl) (by kernel_rfl) (by kernel_rfl) (fun _ _ _ h => h) (Or.inl ⟨by rfl, fun _ _ => by rfl⟩) hS ?_
          simp only [Act.put, List.setIfInBounds_toArray, List.set_cons_zero, List.set_cons_succ]
          refine' anyH_take (i := 20) (v := (.agg #[.int .i64 p.fr, .int .i64 p.to, .string p.env])) rfl (by kernel_rfl) (by kernel_rfl) (by kernel_rfl) (fun _ _ _ h => h) (yieldsIf_load_run (by rfl) rfl (fun _ h => ld_post h.1)) hS ?_
          simp only [Act.put, List.setIfInBounds_toArray, List.set_cons_zero, List.set_cons_succ]
          refine' anyH_take (i := 21) (v := (.slice (some ⟨ga, off, none⟩) n c)) rfl (by kernel_rfl) (by kernel_rfl) (by kernel_rfl) (fun _ _ _ h => h) (Or.inl ⟨by rfl, fun _ _ => by rfl⟩) hS ?_
          simp only [Act.put, List.setIfInBounds_toArray, List.set_cons_zero, List.set_cons_succ]
          refine' anyH_take (i := 22) (v := (.int .i64 (k : Int))) rfl (by kernel_rfl) (by kernel_rfl) (by kernel_rfl) (fun _ _ _ h => h) (Or.inl ⟨by rfl, fun _ _ => by rfl⟩) hS ?_
          simp only [Act.put, List.setIfInBounds_toArray, List.set_cons_zero, List.set_cons_succ]
          refine' anyH_take (i := 23) (v := (.pointer (some ⟨ga, off + k * 3, none⟩))) rfl (by kernel_rfl) (by kernel_rfl) (by kernel_rfl) (fun _ _ _ h => h) (Or.inl ⟨by rfl, fun _ _ => by go_simp⟩) hS ?_
          simp only [Act.put, List.setIfInBounds_toArray, List.set_cons_zero, List.set_cons_succ]
          refine' anyH_take (i := 24) (v := (.agg #[.int .i64 p.fr, .int .i64 p.to, .string p.env])) rfl (by kernel_rfl) (by kernel_rfl) (by kernel_rfl) (fun _ _ _ h => h) (yieldsIf_load_run (by rfl) rfl (fun _ h => by have e0 := h.2.1; have e1 := h.2.2.1; have e2 := h.2.2.2; go_simp)) hS ?_
          simp only [Act.put, List.setIfInBounds_toArray, List.set_cons_zero, List.set_cons_succ]
          refine' anyH_take (i := 25) (v := (.bool false)) rfl (by kernel_rfl) (by kernel_rfl) (by kernel_rfl) (fun _ _ _ h => h) (Or.inl ⟨by rfl, fun _ _ => by go_simp⟩) hS ?_
          simp only [Act.put, List.setIfInBounds_toArray, List.set_cons_zero, List.set_cons_succ]
          refine' anyH_take (i := 26) (v := (.bool false)) rfl (by kernel_rfl) (by kernel_rfl) (by kernel_rfl) (fun _ _ _ h => h) (Or.inl ⟨by rfl, fun _ _ => by rfl⟩) hS ?_
          simp only [Act.put, List.setIfInBounds_toArray, List.set_cons_zero, List.set_cons_succ]
          refine' anyH_take (i := 27) (v := (.bool false)) rfl (by kernel_rfl) (by kernel_rfl) (by kernel_rfl) (fun _ _ _ h => h) (Or.inl ⟨by rfl, fun _ _ => by rfl⟩) hS ?_
          simp only [Act.put, List.setIfInBounds_toArray, List.set_cons_zero, List.set_cons_succ]
          refine' anyH_take (i := 28) (v := (.bool true)) rfl (by kernel_rfl) (by kernel_rfl) (by kernel_rfl) (fun _ _ _ h => h) (Or.inl ⟨by rfl, fun _ _ => by rfl⟩) hS ?_
          simp only [Act.put, List.setIfInBounds_toArray, List.set_cons_zero, List.set_cons_succ]
          refine' anyH_take (i := 29) (v := (.bool false)) rfl (by kernel_rfl) (by kernel_rfl) (by kernel_rfl) (fun _ _ _ h => h) (Or.inl ⟨by rfl, fun _ _ => by rfl⟩) hS ?_
          simp only [Act.put, List.setIfInBounds_toArray, List.set_cons_zero, List.set_cons_succ]
          refine' anyH_take (i := 30) (v := (.bool false)) rfl (by kernel_rfl) (by kernel_rfl) (by kernel_rfl) (fun _ _ _ h => h) (Or.inl ⟨by rfl, fun _ _ => by rfl⟩) hS ?_
          simp only [Act.put, List.setIfInBounds_toArray, List.set_cons_zero, List.set_cons_succ]
          refine wpAnyH_done (by kernel_rfl) ?_ _
          clear hS
          have hbk : But (fun _ => False) w3 w7 := (((HB4.out.trans HB5.out).trans HB6.out).trans HB7.out)
          have hb3 : But (fun _ => False) w w3 := (HBW.out.trans HB2.out).then_ HB3.out (fun i hi => .inr (HFR.out i hi))
          have HST := Lib.hid (show StayAt w g (k + 1) w7 from ⟨B3, s.next p, H3.out.but hbk (fun _ _ f => f), HI.out.next p ho, by rw [hlen1]; omega, hb3.trans hbk, fun j hj => by rcases HF3.out j hj with h | h; exact HFR.out j h; have := (HBW.out.trans HB2.out).size; omega⟩)
          clear hbk hb3
          go_wp2
          go_roundw
          case rel => exact ⟨k + 1, by omega, rfl, HST.out⟩
          case measure => simp [intOf]; omega
          -- END R16
      -- DEV2
      · obtain rfl : k = n := by omega
        obtain ⟨B1, s, hN, hI, hsl, hbw, hfr⟩ := HR.out
        have CL := List_any hN
        have HN := Lib.hid hN
        have HI := Lib.hid hI
        have HBW := Lib.hid hbw
        clear hN hI hbw hfr
        go_wp2_with (go_at_call 13; refine CL.mono ?_; rintro _ w2 ⟨v, rfl, hv, b2⟩; obtain ⟨A2, c2, rfl, l2, m2, P2⟩ := posts_of hv rfl; have HP2 := Lib.hid P2.no; have HB2 := Lib.hid b2; clear CL hv P2 b2)
        go_loopw [12, 13] (fun i j wr => ∃ o : Nat, o ≤ 8 ∧ j = .int .i64 o ∧ i = .int .i64 (below s.ps o : Nat) ∧ But (fun _ => False) w2 wr) (fun _ j _ => 8 - (intOf j).toNat)
        case atStart => exact ⟨0, by omega, rfl, rfl, But.refl _ _⟩
        case round =>
          obtain ⟨o, ho8, rfl, rfl, hbo⟩ := hrel
          have HBO := Lib.hid hbo
          clear hbo
          by_cases hlt8 : o < 8
          · have hb8 := HI.out.below_le (show o + 1 ≤ 8 by omega)
            have hs4 := HN.out.len
            have hm : below s.ps (o + 1) = below s.ps o + (nums (fun _ p => p.to == (o : Int)) s.ps s.ps.length).length := rfl
            have CT := To_any (HN.out.but (HB2.out.trans HBO.out) (fun _ _ f => f)) (o : Int)
            have hN := fun j k (h : (nums (fun _ p => p.to == (o : Int)) s.ps s.ps.length)[j]? = some k) => nums_mem h
            generalize nums (fun _ p => p.to == (o : Int)) s.ps s.ps.length = nl at CT hm hN
            have HNL := Lib.hid hN
            clear hN
            obtain ⟨m, hml⟩ : ∃ m, nl.length = m := ⟨_, rfl⟩
            rw [hml] at CT hm
            have HML := Lib.hid hml
            clear hml
            go_wp2_with (go_at_call 16; refine CT.mono ?_; rintro _ w3 ⟨v, rfl, hv, b3⟩; obtain ⟨A3, c3, rfl, l3, m3, O3, _⟩ := ones_of hv; have HO3 := Lib.hid O3; have HB3 := Lib.hid b3; clear CT hv O3 b3)
            go_loopw [15] (fun i wr => ∃ j : Nat, j ≤ m ∧ i = .int .i64 j ∧ But (fun _ => False) w3 wr) (fun i _ => m - (intOf i).toNat)
            case atStart => exact ⟨0, by omega, rfl, But.refl _ _⟩
            case round =>
              obtain ⟨j, hj, rfl, hbj⟩ := hrel
              have HBJ := Lib.hid hbj
              clear hbj
              by_cases hjm : j < m
              · obtain ⟨k2, hk2⟩ : ∃ k2, nl[j]? = some k2 := ⟨_, List.getElem?_eq_getElem (by rw [HML.out]; exact hjm)⟩
                obtain ⟨p, hp, hto⟩ := HNL.out j k2 hk2
                obtain ⟨g3, rfl, c0⟩ := HO3.out j _ (natsOf_get hk2)
                replace c0 := HBJ.out.cell c0 (fun f => f)
                have hkl : k2 < s.ps.length := (List.getElem?_eq_some_iff.1 hp).1
                have CG := Get_any (HN.out.but (((HB2.out.trans HBO.out).trans HB3.out).trans HBJ.out) (fun _ _ f => f)) (k2 : Int) (by omega)
                have hge : s.get (k2 : Int) = (p, true) := by
                  unfold NetV.get
                  rw [if_pos ⟨by omega, by omega⟩, List.getD_eq_getElem?_getD, Int.toNat_natCast, hp]; rfl
                rw [hge] at CG
                simp only [PostV.val, PostV.arr, PostV.cells] at CG
                have hne : (p.to != (o : Int)) = false := by simpa using hto
                clear hge hp hto hk2
                go_wp2_with (go_at_call 15; refine CG.mono ?_; rintro _ w5 ⟨rfl, b5⟩; have HB5 := Lib.hid b5; clear CG b5)
                go_roundw
                case rel => exact ⟨j + 1, by omega, rfl, (HBJ.out.trans HB5.out).alloc _⟩
                case measure => simp [intOf]; omega
              · obtain rfl : j = m := by omega
                go_wp2
                go_roundw
                case rel => exact ⟨o + 1, by omega, rfl, by rw [hm]; rfl, (HBO.out.trans HB3.out).trans HBJ.out⟩
                case measure => simp [intOf]; omega
          · obtain rfl : o = 8 := by omega
            rw [HI.out.all, show (((8 : Nat)) : Int) = 8 from rfl]
            have hs4 := HN.out.len
            go_wp2
            go_loopw [18] (fun i wr => ∃ a : Nat, a ≤ s.ps.length ∧ i = .int .i64 a ∧ But (fun _ => False) w2 wr) (fun i _ => s.ps.length - (intOf i).toNat)
            case atStart => exact ⟨0, by omega, rfl, HBO.out⟩
            case round =>
              obtain ⟨a, ha, rfl, hba⟩ := hrel
              have HBA := Lib.hid hba
              clear hba
              by_cases hal : a < s.ps.length
              · obtain ⟨x, hx⟩ : ∃ x, s.ps[a]? = some x := ⟨_, List.getElem?_eq_getElem hal⟩
                obtain ⟨gx, rfl, _, x0, x1, x2⟩ := HP2.out a x hx
                have HX := Lib.hid hx
                have X0 := Lib.hid x0
                have X1 := Lib.hid x1
                have X2 := Lib.hid x2
                clear hx x0 x1 x2
                go_wp2
                go_loopw [19] (fun i wr => ∃ b : Nat, b ≤ a ∧ i = .int .i64 b ∧ But (fun _ => False) w2 wr) (fun i _ => a - (intOf i).toNat)
                case atStart => exact ⟨0, by omega, rfl, HBA.out⟩
                case round =>
                  obtain ⟨b, hb, rfl, hbb⟩ := hrel
                  have HBB := Lib.hid hbb
                  clear hbb
                  by_cases hba : b < a
                  · obtain ⟨y, hy⟩ : ∃ y, s.ps[b]? = some y := ⟨_, List.getElem?_eq_getElem (by omega)⟩
                    obtain ⟨gy, eg, _, y0, y1, y2⟩ := HP2.out b y hy
                    obtain rfl : gx = gy := by simpa using eg
                    replace y0 := HBB.out.cell y0 (fun f => f)
                    replace y1 := HBB.out.cell y1 (fun f => f)
                    replace y2 := HBB.out.cell y2 (fun f => f)
                    have x0 := HBB.out.cell X0.out (fun f => f)
                    have x1 := HBB.out.cell X1.out (fun f => f)
                    have x2 := HBB.out.cell X2.out (fun f => f)
                    have hlater : x = y → s.time (b : Int) < s.time (a : Int) := fun e => HI.out.later hba HX.out (e ▸ hy)
                    have HLT := Lib.hid hlater
                    have NW := Lib.hid (HN.out.but (HB2.out.trans HBB.out) (fun _ _ f => f))
                    clear hlater hy eg
                    obtain ⟨u1, u2, u3⟩ := x
                    obtain ⟨v1, v2, v3⟩ := y
                    simp only at x0 x1 x2 y0 y1 y2
                    by_cases e5 : u1 = v1
                    · subst e5
                      by_cases e6 : u2 = v2
                      · subst e6
                        by_cases e7 : u3 = v3
                        · subst e7
                          have hlt := HLT.out rfl
                          generalize hta : s.time (a : Int) = ta at hlt
                          generalize htb : s.time (b : Int) = tb at hlt
                          have hle : decide (ta ≤ tb) = false := decide_eq_false (by omega)
                          have HTA := Lib.hid hta
                          have HTB := Lib.hid htb
                          have CT := fun W (h : But (fun _ => False) wr W) => Lib.hid (Times_any (NW.out.but h (fun _ _ f => f)) (a : Int) (by omega))
                          have CU := fun W (h : But (fun _ => False) wr W) => Lib.hid (Times_any (NW.out.but h (fun _ _ f => f)) (b : Int) (by omega))
                          rw [hta] at CT
                          rw [htb] at CU
                          have hbr : But (fun _ => False) wr wr.drew := (But.refl _ wr).drew
                          have zb : (0 : Int) ≤ (b : Int) := by omega
                          have lb : (b : Int) < (s.ps.length : Int) := by omega
                          have za : (0 : Int) ≤ (a : Int) := by omega
                          have la : (a : Int) < (s.ps.length : Int) := by omega
                          clear hta htb
                          go_wp2_with fail
                          go_region_held3 (fun W => W.cell? ⟨gx, a * 3, none⟩ = some (.int .i64 u1) ∧ W.cell? ⟨gx, a * 3 + 1, none⟩ = some (.int .i64 u2) ∧ W.cell? ⟨gx, a * 3 + 2, none⟩ = some (.string u3) ∧ W.cell? ⟨gx, b * 3, none⟩ = some (.int .i64 u1) ∧ W.cell? ⟨gx, b * 3 + 1, none⟩ = some (.int .i64 u2) ∧ W.cell? ⟨gx, b * 3 + 2, none⟩ = some (.string u3)) (first | (refine ⟨?_, ?_, ?_, ?_, ?_, ?_⟩ <;> assumption)) (first
                            | (go_at_call_of 10 (Value.int .i64 (a : Int)); refine (CT _ hbr).out.mono ?_; rintro e w7 ⟨rfl, b7⟩; have hbr7 := hbr.trans b7; have x0' := b7.cell x0 (fun f => f); have x1' := b7.cell x1 (fun f => f); have x2' := b7.cell x2 (fun f => f); have y0' := b7.cell y0 (fun f => f); have y1' := b7.cell y1 (fun f => f); have y2' := b7.cell y2 (fun f => f))
                            | (go_at_call_of 10 (Value.int .i64 (b : Int)); refine (CU _ hbr7).out.mono ?_; rintro e w8 ⟨rfl, b8⟩; have hbr8 := hbr7.trans b8; have x0'' := b8.cell x0' (fun f => f); have x1'' := b8.cell x1' (fun f => f); have x2'' := b8.cell x2' (fun f => f); have y0'' := b8.cell y0' (fun f => f); have y1'' := b8.cell y1' (fun f => f); have y2'' := b8.cell y2' (fun f => f)))
                          go_wp2
                          go_roundw
                          case rel => exact ⟨b + 1, by omega, rfl, HBB.out.trans hbr8⟩
                          case measure => simp [intOf]; omega
                        · have g3 : (u3 == v3) = false := Bool.eq_false_iff.2 fun e => e7 ((MapKept.bytes_beq _ _).1 e)
                          have g2 : (u3.toList == v3.toList) = false := by rw [← beq_toListBytes]; exact Bool.eq_false_iff.2 fun e => e7 ((MapKept.bytes_beq _ _).1 e)
                          clear e7
                          go_wp2
                          go_quiet (fail)
                          go_wp2
                          go_roundw
                          case rel => exact ⟨b + 1, by omega, rfl, HBB.out.drewN _⟩
                          case measure => simp [intOf]; omega
                      · have g2 : (u2 == v2) = false := by simpa using e6
                        clear e6
                        go_wp2
                        go_quiet (fail)
                        go_wp2
                        go_roundw
                        case rel => exact ⟨b + 1, by omega, rfl, HBB.out.drewN _⟩
                        case measure => simp [intOf]; omega
                    · have g2 : (u1 == v1) = false := by simpa using e5
                      clear e5
                      go_wp2
                      go_quiet (fail)
                      go_wp2
                      go_roundw
                      case rel => exact ⟨b + 1, by omega, rfl, HBB.out.drewN _⟩
                      case measure => simp [intOf]; omega
                  · obtain rfl : b = a := by omega
                    have hfirst := HI.out.first hal
                    have CT := Times_any (HN.out.but (HB2.out.trans HBB.out) (fun _ _ f => f)) (b : Int) (by omega)
                    generalize hta : s.time (b : Int) = ta at hfirst CT
                    have hlt1 : decide (ta < 1) = false := decide_eq_false (by omega)
                    clear hta
                    go_wp2_with (go_at_call 10; refine CT.mono ?_; rintro _ w7 ⟨rfl, b7⟩; have HB7 := Lib.hid b7; clear CT b7)
                    go_roundw
                    case rel => exact ⟨b + 1, by omega, rfl, HBB.out.trans HB7.out⟩
                    case measure => simp [intOf]; omega
              · obtain rfl : a = s.ps.length := by omega
                have CL := Len_any (HN.out.but (HB2.out.trans HBA.out) (fun _ _ f => f))
                go_wp2_with (first
                  | (go_at_call 9; refine CL.mono ?_; rintro _ w7 ⟨rfl, rfl⟩)
                  | (go_at_call 6; refine (alive30_any _).mono ?_; rintro _ _ ⟨rfl, hb⟩))
                go_ret
                exact ⟨rfl, ((HBW.out.trans HB2.out).trans HBA.out).trans hb⟩
end Go.Proofs.Ytimhejjdgncdaaa
