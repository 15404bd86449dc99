/- A net: Seen, whole. -/
import Derived.Test.YtimhejjdgncdaaaNet7
namespace Go.Proofs.Ytimhejjdgncdaaa
open Go.RowKit Go.Shelf
set_option linter.unusedVariables false
set_option linter.unusedSimpArgs false
attribute [local go_sem] Oper.semAt_some

theorem infoStr : (Try.prog.info? 9).map (fun i => (i.zero, i.size, i.bytes)) = some (some (.string ⟨#[]⟩), 1, 16) := by kernel_rfl
def strsOf (ps : List PostV) (l : List Nat) : List Value := l.map fun k => .string (ps.getD k zeroP).env
/-- So far. -/
def StrsUp {n : Nat} (ps : List PostV) (B0 base : Nat) (pre : List (Fin n)) (W : World) : Prop := ∃ v, Holds W B0 (.cells #[v] 33) ∧ W.ownsRow base 9 1 v pre.length (strsOf ps (pre.map Fin.val))
theorem StrsUp.own {n : Nat} {ps : List PostV} {B0 base B : Nat} (h : B0 < B) : OwnFrom B (StrsUp (n := n) ps B0 base) := fun s X Y row hs hg hr => by
  obtain ⟨v, k1, k2⟩ := hs
  refine ⟨v, (ownFrom_lies (fun _ : Unit => True) _ (fun _ => _) h () X Y row ⟨trivial, k1⟩ hg hr).2, ?_⟩
  refine k2.kept hg ?_
  cases hv : v.ownBlock with
  | none => exact .inl rfl
  | some g =>
    refine .inr (fun e => ?_)
    obtain ⟨_, o, ho, hc⟩ := hr g e.symm
    rcases k2.2 with ⟨rfl, _⟩ | ⟨g', cap, cur, rfl, _, hh, _⟩
    · cases hv
    · cases hv
      rw [hh] at ho; cases ho; cases hc
set_option maxRecDepth 100000 in
set_option maxHeartbeats 2000000 in
theorem Seen_any {w : World} {g : Nat} {B : NetB} {s : NetV} (h : NetAt w g B s) :
    Calls Try.prog 11 #[.pointer (some ⟨g, 0, none⟩)] w fun e w' => ∃ v, e = .returned v ∧ w'.ownsRow w.heap.size 9 1 v (nums (fun k p => valIn p.env s.fst == k) s.ps s.ps.length).length (strsOf s.ps (nums (fun k p => valIn p.env s.fst == k) s.ps s.ps.length)) ∧ But (fun _ => False) w w' := by
  have hmf := hmakeFunc
  obtain ⟨i0, hi, hz0, hz1, hz2⟩ := info_parts infoStr
  refine (callsIn_wide (n := 8)).1 ?_
  refine callsIn_of_wp_marks Try.func11 rfl trivial ?_ rfl
  simp only [Try.ntmps11, List.size_toArray, List.length_cons, List.length_nil, Nat.reduceAdd, Nat.reduceSub, Array.replicate_succ, Array.replicate_zero, List.push_toArray, List.append_toArray, List.nil_append, List.cons_append]
  have ho0 := Holds.n20 w (.cells #[.pointer (some ⟨g, 0, none⟩)] 26) (.cells #[.slice none 0 0] 33)
  have hh0 := Holds.n21 w (.cells #[.pointer (some ⟨g, 0, none⟩)] 26) (.cells #[.slice none 0 0] 33)
  have hbb : But (fun _ => False) w ((w.alloc (.cells #[.pointer (some ⟨g, 0, none⟩)] 26)).alloc (.cells #[.slice none 0 0] 33)) := ((But.refl _ w).alloc _).alloc _
  gi_wp2_with (refine ⟨trivial, ?_⟩; gi_at_call 22; refine (callsIn_wide.2 (that_any _ _ _ _)).mono ?_; rintro e W0 ⟨B1, B2, rfl, b0, g1, g2, k1, k2⟩)
  replace ho0 := ho0.but b0 (fun f => f)
  replace hh0 := hh0.but b0 (fun f => f)
  have hb0 := hbb.trans b0
  clear b0 hbb
  simp only [World.size_alloc] at g1 g2
  have HE0 := h.but hb0 (fun _ _ f => f)
  have hglt := h.box.lt
  have hplt := h.lt
  clear h
  obtain ⟨A, c, ev, hlc, hc1⟩ := row_val HE0.ps
  have h3 : W0.cell? ⟨g, 0, none⟩ = some B.vp := HE0.cell 0 _ rfl
  rw [ev] at h3
  have hlen4 := HE0.len
  have l1 := k1.lt
  have l2 := k2.lt
  have l0 := hh0.lt
  have l5 := ho0.lt
  have hq : ∀ k, (k = w.heap.size + 1 ∨ W0.heap.size + 2 ≤ k) → k ≠ W0.heap.size ∧ k ≠ W0.heap.size + 1 := fun k h => by omega
  have hPA : PostsAt (fun k => (k = w.heap.size + 1 ∨ W0.heap.size + 2 ≤ k) ∨ k = W0.heap.size ∨ k = W0.heap.size + 1) W0 A s.ps := fun i x hi => by
    obtain ⟨gp, cap, ev', _, _, c0, c1, c2⟩ := HE0.post i x hi
    rw [ev] at ev'
    cases ev'
    have := hplt gp (.inr (.inr (.inr (.inl (by rw [ev]; rfl)))))
    exact ⟨gp, rfl, by omega, c0, c1, c2⟩
  have hK0 : SeenK w.heap.size g B.fg s.fst W0 := ⟨ho0.cl 0, HE0.cell 3 _ rfl, HE0.fst⟩
  have hfl : B.fg < w.heap.size := hplt _ (.inr (.inr (.inl rfl)))
  have hS := that_fin 7 (by omega) (fun k => (k = w.heap.size + 1 ∨ W0.heap.size + 2 ≤ k) ∨ k = W0.heap.size ∨ k = W0.heap.size + 1) B1 B2 g 23 #[.pointer (some ⟨w.heap.size, 0, none⟩)] A s.ps.length c s.ps (fun k p => valIn p.env s.fst == k) rfl hc1 hlc W0
    (enters_of Try.func23 (by kernel_rfl) rfl) (K := SeenK w.heap.size g B.fg s.fst) (fun V V' hV k => hV.but k (by omega) (by omega) (by omega)) (fun V k => hK0.but k (by omega) (by omega) (by omega))
    (fun k p V _ hV => Seen1_any k p _ g B.fg s.fst V hV) (by omega) (by omega) (by omega) k1.box.1 k2.box.1 h3 hPA
  have hQA := fun (x : Fin s.ps.length) => hPA x.1 (s.ps.getD x.1 zeroP) (by rw [List.getD_eq_getElem?_getD, List.getElem?_eq_getElem x.2]; rfl)
  have HK0 := Lib.hid hK0
  have H3 := Lib.hid h3
  have HQA := Lib.hid hQA
  clear hPA hK0 h3 hQA
  refine range_kept (by omega) (gf := 28) (lb := #[.pointer (some ⟨B1, 0, none⟩), .pointer (some ⟨B2, 0, none⟩)]) rfl (enters_of Try.func28 (by kernel_rfl) rfl) hq (fun _ _ => trivial) hS (fun _ => rfl)
    (fun pre W => (StrsUp s.ps (w.heap.size + 1) (W0.heap.size + 2) pre W ∧ But (fun k => k = w.heap.size + 1) W0 W))
    (fun c pre W => False)
    (OwnFrom.and (StrsUp.own l0) (ownFrom_but (Nat.le_refl _))) (fun c s X Y row hs _ _ => hs)
    ⟨⟨_, hh0, World.ownsRow_nil _ _ _ _⟩, But.refl _ _⟩ ?round ?done ?stop
  case round =>
    rintro l2 pre x Wr ⟨hp, hk⟩ hlt
    gi_wp2
    refine ⟨But.refl _ _, ?_⟩
    intro W2 hb2 hcells
    first
      | (rintro ⟨v, hv, hrow⟩ hk2)
      | (rintro ⟨⟨v, hv, hrow⟩, hk2⟩)
    have hbig : W0.heap.size + 2 ≤ Wr.heap.size := hlt.2
    have hbig2 : W0.heap.size + 2 ≤ W2.heap.size := by have := hb2.size; omega
    clear hb2 hcells
    have hk3 : But (fun k => k = w.heap.size + 1) W0 W2 := hk2
    have hpre : pre.length < s.ps.length := hlt.1
    obtain ⟨gp, rfl, hgp, _, _, d2⟩ := HQA.out x
    have K2 := HK0.out.but hk3 (by omega) (by omega) (by omega)
    obtain ⟨w3, hw3⟩ : ∃ w3, W2.drew = w3 := ⟨_, rfl⟩
    have hd3 : But (fun _ => False) W2 w3 := by rw [← hw3]; exact (But.refl _ _).drew
    have hsz3 : w3.heap.size = W2.heap.size := by rw [← hw3]; rfl
    have hv3 : Holds w3 (w.heap.size + 1) (.cells #[v] 33) := hv.but hd3 (fun f => f)
    have q0 := Lib.hid (hv3.cl 0)
    have q0b := Lib.hid (cell_al (.cells #[.string (s.ps.getD x.1 zeroP).env] 9) (hv3.cl 0))
    have q1 := Lib.hid (hd3.cell K2.1 (fun f => f))
    have q4 := Lib.hid (hd3.cell (hk3.cell H3.out (by omega)) (fun f => f))
    have q8 := Lib.hid (hd3.cell (hk3.cell d2 (by omega)) (fun f => f))
    have hrow3 : w3.ownsRow (W0.heap.size + 2) 9 1 v pre.length (strsOf s.ps (pre.map Fin.val)) := ownsRow_but hrow hd3 (fun _ _ f => f)
    have hnew : (strsOf s.ps ((pre ++ [x]).map Fin.val)) = strsOf s.ps (pre.map Fin.val) ++ [.string (s.ps.getD x.1 zeroP).env] := by simp [strsOf]
    have HR := hrow3.alloc (.cells #[.string (s.ps.getD x.1 zeroP).env] 9)
    have hx : CellsAt (w3.alloc (.cells #[.string (s.ps.getD x.1 zeroP).env] 9)) 9 (some ⟨w3.heap.size, 0, none⟩) [.string (s.ps.getD x.1 zeroP).env] := CellsAt.new w3 _ _
    -- the append
    have hap : ∃ v' W', (Builtin.append_ #[33, 33] 33 #[v, .slice (some ⟨w3.heap.size, 0, none⟩) 1 1]).run Try.prog (w3.alloc (.cells #[.string (s.ps.getD x.1 zeroP).env] 9)) = .ok v' W' ∧ ∃ A' c', v' = .slice A' (pre.length + 1) c' ∧
        (W'.ownsRow (W0.heap.size + 2) 9 1 v' (pre.length + 1) (strsOf s.ps ((pre ++ [x]).map Fin.val)) ∧ But (fun k => W0.heap.size + 2 ≤ k) W2 W' ∧ Holds W' (w.heap.size + 1) (.cells #[v] 33)) := by
      obtain ⟨v', W', hr, h1, h2, h3⟩ := run_append_src (P := Try.prog) _ (W0.heap.size + 2) 33 33 9 (.string ⟨#[]⟩) 1 16 Try.underlying33 infoStr rfl (by decide)
        v pre.length _ HR (some ⟨w3.heap.size, 0, none⟩) 1 1 _ rfl _ hx (by intro u hu; simp at hu; subst hu; rfl) (by unfold maxLen; omega) (by omega) (by simp; omega)
      obtain ⟨A', c', e, _, _⟩ := row_val h1
      have hal := ((But.refl (fun k => W0.heap.size + 2 ≤ k) W2).then_ hd3 (fun _ f => f.elim)).alloc (.cells #[.string (s.ps.getD x.1 zeroP).env] 9)
      refine ⟨v', W', hr, A', c', e, by rw [hnew]; exact h1, hal.then_ (But.of_grown h2) (fun i hi => .inl (hrow.lt i hi).1), ?_⟩
      exact (hv3.alloc _).but (But.of_grown h2) (fun e => by have := (hrow.lt _ e).1; omega)
    have HAP := Lib.hid hap
    have hst : ∀ v' w4 A4 c4', (v' = .slice A4 (pre.length + 1) c4' ∧ (w4.ownsRow (W0.heap.size + 2) 9 1 v' (pre.length + 1) (strsOf s.ps ((pre ++ [x]).map Fin.val)) ∧ But (fun k => W0.heap.size + 2 ≤ k) W2 w4 ∧ Holds w4 (w.heap.size + 1) (.cells #[v] 33))) →
        (Instr.storeAt 33 (.pointer (some ⟨w.heap.size + 1, 0, none⟩)) v').run Try.prog w4 = .ok () (w4.setRow (w.heap.size + 1) #[v']) := fun v' w4 A4 c4' h => by
      have := store_part (P := Try.prog) h.2.2.2 0 [v'] 33 (by simp) (by kernel_rfl) v' (by rw [h.1]; rfl) (by rw [h.1]; simp [Value.oneCell'])
      exact this
    have HST := Lib.hid hst
    have hfin : ∀ v' w4 A4 c4', (v' = .slice A4 (pre.length + 1) c4' ∧ (w4.ownsRow (W0.heap.size + 2) 9 1 v' (pre.length + 1) (strsOf s.ps ((pre ++ [x]).map Fin.val)) ∧ But (fun k => W0.heap.size + 2 ≤ k) W2 w4 ∧ Holds w4 (w.heap.size + 1) (.cells #[v] 33))) →
        But (fun k => k = w.heap.size + 1 ∨ W0.heap.size + 2 ≤ k) W2 (w4.setRow (w.heap.size + 1) #[v']) ∧ StrsUp s.ps (w.heap.size + 1) (W0.heap.size + 2) (pre ++ [x]) (w4.setRow (w.heap.size + 1) #[v']) ∧ But (fun k => k = w.heap.size + 1) W0 (w4.setRow (w.heap.size + 1) #[v']) := fun v' w4 A4 c4' ⟨h1, h2, h3, h4⟩ => by
      have bb : But (fun k => k = w.heap.size + 1 ∨ W0.heap.size + 2 ≤ k) W2 (w4.setRow (w.heap.size + 1) #[v']) := (h3.mono (fun _ f => .inr f)).setRow (.inl (.inl rfl)) _
      refine ⟨bb, ⟨v', h4.setRow, ?_⟩, hk3.then_ bb (fun i hi => by rcases hi with h | h; exact .inl h; exact .inr (by omega))⟩
      rw [List.length_append]
      exact ownsRow_but h2 ((But.refl (fun k => k = w.heap.size + 1) w4).setRow (.inl rfl) _) (fun j hj e => by have := (h2.lt _ hj).1; omega)
    have HFIN := Lib.hid hfin
    have hxl : x.1 < s.ps.length := x.2
    clear hap hst hfin hnew HR hx hrow3 hv3 hd3 K2 hk2 hk3 hv hrow d2 hp hk
    refine wpIn_block ?_
    refine region_round (by kernel_rfl) (by kernel_rfl) ?_
    rw [hw3]
    clear hw3
    simp only [List.size_toArray, List.length_cons, List.length_nil]
    -- REGION
    refine' anyIn_take (i := 5) (v := (.int .i64 (x.1 : Nat))) rfl (by kernel_rfl) (by kernel_rfl) (by kernel_rfl) (fun _ _ _ h => h) ⟨Or.inl ⟨by rfl, fun _ => by rfl⟩, fun _ => rfl⟩ ?_
    simp only [Act.put, List.setIfInBounds_toArray, List.set_cons_zero, List.set_cons_succ]
    refine wpAnyIn_ready (rs := [0, 1]) (by kernel_rfl) (by simp) (anyIn_cons rfl (fun K hK => ?_) (anyIn_cons rfl (fun K hK => ?_) AllReadyIn.nil))
    · refine readyIn_value (v := v) (by rfl) (exec_load rfl (ld_cell q0.out Try.underlying33 rfl)) ?_
      simp only [Act.put, List.setIfInBounds_toArray, List.set_cons_zero, List.set_cons_succ]
      refine hK.out _ _ ?_
      clear hK K
      refine wpAnyIn_ready (rs := [1]) (by kernel_rfl) (by simp) (anyIn_cons rfl (fun K hK => ?_) AllReadyIn.nil)
      refine readyIn_value (v := (.pointer (some ⟨g, 0, none⟩))) (by rfl) (exec_load rfl (ld_cell q1.out Try.underlying26 rfl)) ?_
      simp only [Act.put, List.setIfInBounds_toArray, List.set_cons_zero, List.set_cons_succ]
      refine hK.out _ _ ?_
      clear hK K
      refine' anyIn_take (i := 2) (v := (.pointer (some ⟨g, 0, none⟩))) rfl (by kernel_rfl) (by kernel_rfl) (by kernel_rfl) (fun _ _ _ h => h) ⟨Or.inl ⟨by rfl, fun _ => by rfl⟩, fun _ => rfl⟩ ?_
      simp only [Act.put, List.setIfInBounds_toArray, List.set_cons_zero, List.set_cons_succ]
      refine' anyIn_take (i := 3) (v := (.pointer (some ⟨g, 0, none⟩))) rfl (by kernel_rfl) (by kernel_rfl) (by kernel_rfl) (fun _ _ _ h => h) ⟨Or.inl ⟨by rfl, fun _ => by rfl⟩, fun _ => rfl⟩ ?_
      simp only [Act.put, List.setIfInBounds_toArray, List.set_cons_zero, List.set_cons_succ]
      refine wpAnyIn_ready (rs := [4]) (by kernel_rfl) (by simp) (anyIn_cons rfl (fun K hK => ?_) AllReadyIn.nil)
      refine readyIn_value (v := (.slice (some ⟨gp, 0, none⟩) s.ps.length c)) (by rfl) (exec_load rfl (ld_cell q4.out Try.underlying35 rfl)) ?_
      simp only [Act.put, List.setIfInBounds_toArray, List.set_cons_zero, List.set_cons_succ]
      refine hK.out _ _ ?_
      clear hK K
      refine' anyIn_take (i := 6) (v := (.pointer (some ⟨gp, x.1 * 3, none⟩))) rfl (by kernel_rfl) (by kernel_rfl) (by kernel_rfl) (fun _ _ _ h => h) ⟨Or.inl ⟨by rfl, fun _ => by go_simp⟩, fun _ => rfl⟩ ?_
      simp only [Act.put, List.setIfInBounds_toArray, List.set_cons_zero, List.set_cons_succ]
      refine' anyIn_take (i := 7) (v := (.pointer (some ⟨gp, x.1 * 3 + 2, none⟩))) rfl (by kernel_rfl) (by kernel_rfl) (by kernel_rfl) (fun _ _ _ h => h) ⟨Or.inl ⟨by rfl, fun _ => by rfl⟩, fun _ => rfl⟩ ?_
      simp only [Act.put, List.setIfInBounds_toArray, List.set_cons_zero, List.set_cons_succ]
      refine wpAnyIn_ready (rs := [8]) (by kernel_rfl) (by simp) (anyIn_cons rfl (fun K hK => ?_) AllReadyIn.nil)
      refine readyIn_value (v := (.string (s.ps.getD x.1 zeroP).env)) (by rfl) (exec_load rfl (ld_cell q8.out Try.underlying9 rfl)) ?_
      simp only [Act.put, List.setIfInBounds_toArray, List.set_cons_zero, List.set_cons_succ]
      refine hK.out _ _ ?_
      clear hK K
      refine wpAnyIn_ready (rs := [9]) (by kernel_rfl) (by simp) (anyIn_cons rfl (fun K hK => ?_) AllReadyIn.nil)
      refine readyIn_value (v := .slice (some ⟨w3.heap.size, 0, none⟩) 1 1) (w' := w3.alloc (.cells #[.string (s.ps.getD x.1 zeroP).env] 9)) (by rfl) (by kernel_rfl) ?_
      simp only [Act.put, List.setIfInBounds_toArray, List.set_cons_zero, List.set_cons_succ]
      refine hK.out _ _ ?_
      clear hK K
      refine wpAnyIn_ready (rs := [10]) (by kernel_rfl) (by simp) (anyIn_cons rfl (fun K hK => ?_) AllReadyIn.nil)
      obtain ⟨v', w4, hr, hx⟩ := HAP.out
      refine readyIn_value (by rfl) (exec_append rfl rfl rfl hr) ?_
      simp only [Act.put, List.setIfInBounds_toArray, List.set_cons_zero, List.set_cons_succ]
      obtain ⟨A4, c4', ev4, hr4⟩ := hx
      refine hK.out _ _ ?_
      clear hK K
      refine wpAnyIn_ready (rs := [11]) (by kernel_rfl) (by simp) (anyIn_cons rfl (fun K hK => ?_) AllReadyIn.nil)
      refine readyIn_skip (by rfl) (Eq.trans (by kernel_rfl) (op_u (HST.out v' w4 A4 c4' ⟨ev4, hr4⟩))) ?_
      simp only [Act.put, List.setIfInBounds_toArray, List.set_cons_zero, List.set_cons_succ]
      refine hK.out _ _ ?_
      clear hK K
      refine wpAnyIn_done (by kernel_rfl) ?_ _
      exact HFIN.out v' w4 A4 c4' ⟨ev4, hr4⟩
    · refine readyIn_value (v := (.pointer (some ⟨g, 0, none⟩))) (by rfl) (exec_load rfl (ld_cell q1.out Try.underlying26 rfl)) ?_
      simp only [Act.put, List.setIfInBounds_toArray, List.set_cons_zero, List.set_cons_succ]
      refine hK.out _ _ ?_
      clear hK K
      refine' anyIn_take (i := 2) (v := (.pointer (some ⟨g, 0, none⟩))) rfl (by kernel_rfl) (by kernel_rfl) (by kernel_rfl) (fun _ _ _ h => h) ⟨Or.inl ⟨by rfl, fun _ => by rfl⟩, fun _ => rfl⟩ ?_
      simp only [Act.put, List.setIfInBounds_toArray, List.set_cons_zero, List.set_cons_succ]
      refine' anyIn_take (i := 3) (v := (.pointer (some ⟨g, 0, none⟩))) rfl (by kernel_rfl) (by kernel_rfl) (by kernel_rfl) (fun _ _ _ h => h) ⟨Or.inl ⟨by rfl, fun _ => by rfl⟩, fun _ => rfl⟩ ?_
      simp only [Act.put, List.setIfInBounds_toArray, List.set_cons_zero, List.set_cons_succ]
      refine wpAnyIn_ready (rs := [0, 4]) (by kernel_rfl) (by simp) (anyIn_cons rfl (fun K hK => ?_) (anyIn_cons rfl (fun K hK => ?_) AllReadyIn.nil))
      · refine readyIn_value (v := v) (by rfl) (exec_load rfl (ld_cell q0.out Try.underlying33 rfl)) ?_
        simp only [Act.put, List.setIfInBounds_toArray, List.set_cons_zero, List.set_cons_succ]
        refine hK.out _ _ ?_
        clear hK K
        refine wpAnyIn_ready (rs := [4]) (by kernel_rfl) (by simp) (anyIn_cons rfl (fun K hK => ?_) AllReadyIn.nil)
        refine readyIn_value (v := (.slice (some ⟨gp, 0, none⟩) s.ps.length c)) (by rfl) (exec_load rfl (ld_cell q4.out Try.underlying35 rfl)) ?_
        simp only [Act.put, List.setIfInBounds_toArray, List.set_cons_zero, List.set_cons_succ]
        refine hK.out _ _ ?_
        clear hK K
        refine' anyIn_take (i := 6) (v := (.pointer (some ⟨gp, x.1 * 3, none⟩))) rfl (by kernel_rfl) (by kernel_rfl) (by kernel_rfl) (fun _ _ _ h => h) ⟨Or.inl ⟨by rfl, fun _ => by go_simp⟩, fun _ => rfl⟩ ?_
        simp only [Act.put, List.setIfInBounds_toArray, List.set_cons_zero, List.set_cons_succ]
        refine' anyIn_take (i := 7) (v := (.pointer (some ⟨gp, x.1 * 3 + 2, none⟩))) rfl (by kernel_rfl) (by kernel_rfl) (by kernel_rfl) (fun _ _ _ h => h) ⟨Or.inl ⟨by rfl, fun _ => by rfl⟩, fun _ => rfl⟩ ?_
        simp only [Act.put, List.setIfInBounds_toArray, List.set_cons_zero, List.set_cons_succ]
        refine wpAnyIn_ready (rs := [8]) (by kernel_rfl) (by simp) (anyIn_cons rfl (fun K hK => ?_) AllReadyIn.nil)
        refine readyIn_value (v := (.string (s.ps.getD x.1 zeroP).env)) (by rfl) (exec_load rfl (ld_cell q8.out Try.underlying9 rfl)) ?_
        simp only [Act.put, List.setIfInBounds_toArray, List.set_cons_zero, List.set_cons_succ]
        refine hK.out _ _ ?_
        clear hK K
        refine wpAnyIn_ready (rs := [9]) (by kernel_rfl) (by simp) (anyIn_cons rfl (fun K hK => ?_) AllReadyIn.nil)
        refine readyIn_value (v := .slice (some ⟨w3.heap.size, 0, none⟩) 1 1) (w' := w3.alloc (.cells #[.string (s.ps.getD x.1 zeroP).env] 9)) (by rfl) (by kernel_rfl) ?_
        simp only [Act.put, List.setIfInBounds_toArray, List.set_cons_zero, List.set_cons_succ]
        refine hK.out _ _ ?_
        clear hK K
        refine wpAnyIn_ready (rs := [10]) (by kernel_rfl) (by simp) (anyIn_cons rfl (fun K hK => ?_) AllReadyIn.nil)
        obtain ⟨v', w4, hr, hx⟩ := HAP.out
        refine readyIn_value (by rfl) (exec_append rfl rfl rfl hr) ?_
        simp only [Act.put, List.setIfInBounds_toArray, List.set_cons_zero, List.set_cons_succ]
        obtain ⟨A4, c4', ev4, hr4⟩ := hx
        refine hK.out _ _ ?_
        clear hK K
        refine wpAnyIn_ready (rs := [11]) (by kernel_rfl) (by simp) (anyIn_cons rfl (fun K hK => ?_) AllReadyIn.nil)
        refine readyIn_skip (by rfl) (Eq.trans (by kernel_rfl) (op_u (HST.out v' w4 A4 c4' ⟨ev4, hr4⟩))) ?_
        simp only [Act.put, List.setIfInBounds_toArray, List.set_cons_zero, List.set_cons_succ]
        refine hK.out _ _ ?_
        clear hK K
        refine wpAnyIn_done (by kernel_rfl) ?_ _
        exact HFIN.out v' w4 A4 c4' ⟨ev4, hr4⟩
      · refine readyIn_value (v := (.slice (some ⟨gp, 0, none⟩) s.ps.length c)) (by rfl) (exec_load rfl (ld_cell q4.out Try.underlying35 rfl)) ?_
        simp only [Act.put, List.setIfInBounds_toArray, List.set_cons_zero, List.set_cons_succ]
        refine hK.out _ _ ?_
        clear hK K
        refine' anyIn_take (i := 6) (v := (.pointer (some ⟨gp, x.1 * 3, none⟩))) rfl (by kernel_rfl) (by kernel_rfl) (by kernel_rfl) (fun _ _ _ h => h) ⟨Or.inl ⟨by rfl, fun _ => by go_simp⟩, fun _ => rfl⟩ ?_
        simp only [Act.put, List.setIfInBounds_toArray, List.set_cons_zero, List.set_cons_succ]
        refine' anyIn_take (i := 7) (v := (.pointer (some ⟨gp, x.1 * 3 + 2, none⟩))) rfl (by kernel_rfl) (by kernel_rfl) (by kernel_rfl) (fun _ _ _ h => h) ⟨Or.inl ⟨by rfl, fun _ => by rfl⟩, fun _ => rfl⟩ ?_
        simp only [Act.put, List.setIfInBounds_toArray, List.set_cons_zero, List.set_cons_succ]
        refine wpAnyIn_ready (rs := [0, 8]) (by kernel_rfl) (by simp) (anyIn_cons rfl (fun K hK => ?_) (anyIn_cons rfl (fun K hK => ?_) AllReadyIn.nil))
        · refine readyIn_value (v := v) (by rfl) (exec_load rfl (ld_cell q0.out Try.underlying33 rfl)) ?_
          simp only [Act.put, List.setIfInBounds_toArray, List.set_cons_zero, List.set_cons_succ]
          refine hK.out _ _ ?_
          clear hK K
          refine wpAnyIn_ready (rs := [8]) (by kernel_rfl) (by simp) (anyIn_cons rfl (fun K hK => ?_) AllReadyIn.nil)
          refine readyIn_value (v := (.string (s.ps.getD x.1 zeroP).env)) (by rfl) (exec_load rfl (ld_cell q8.out Try.underlying9 rfl)) ?_
          simp only [Act.put, List.setIfInBounds_toArray, List.set_cons_zero, List.set_cons_succ]
          refine hK.out _ _ ?_
          clear hK K
          refine wpAnyIn_ready (rs := [9]) (by kernel_rfl) (by simp) (anyIn_cons rfl (fun K hK => ?_) AllReadyIn.nil)
          refine readyIn_value (v := .slice (some ⟨w3.heap.size, 0, none⟩) 1 1) (w' := w3.alloc (.cells #[.string (s.ps.getD x.1 zeroP).env] 9)) (by rfl) (by kernel_rfl) ?_
          simp only [Act.put, List.setIfInBounds_toArray, List.set_cons_zero, List.set_cons_succ]
          refine hK.out _ _ ?_
          clear hK K
          refine wpAnyIn_ready (rs := [10]) (by kernel_rfl) (by simp) (anyIn_cons rfl (fun K hK => ?_) AllReadyIn.nil)
          obtain ⟨v', w4, hr, hx⟩ := HAP.out
          refine readyIn_value (by rfl) (exec_append rfl rfl rfl hr) ?_
          simp only [Act.put, List.setIfInBounds_toArray, List.set_cons_zero, List.set_cons_succ]
          obtain ⟨A4, c4', ev4, hr4⟩ := hx
          refine hK.out _ _ ?_
          clear hK K
          refine wpAnyIn_ready (rs := [11]) (by kernel_rfl) (by simp) (anyIn_cons rfl (fun K hK => ?_) AllReadyIn.nil)
          refine readyIn_skip (by rfl) (Eq.trans (by kernel_rfl) (op_u (HST.out v' w4 A4 c4' ⟨ev4, hr4⟩))) ?_
          simp only [Act.put, List.setIfInBounds_toArray, List.set_cons_zero, List.set_cons_succ]
          refine hK.out _ _ ?_
          clear hK K
          refine wpAnyIn_done (by kernel_rfl) ?_ _
          exact HFIN.out v' w4 A4 c4' ⟨ev4, hr4⟩
        · refine readyIn_value (v := (.string (s.ps.getD x.1 zeroP).env)) (by rfl) (exec_load rfl (ld_cell q8.out Try.underlying9 rfl)) ?_
          simp only [Act.put, List.setIfInBounds_toArray, List.set_cons_zero, List.set_cons_succ]
          refine hK.out _ _ ?_
          clear hK K
          refine wpAnyIn_ready (rs := [0, 9]) (by kernel_rfl) (by simp) (anyIn_cons rfl (fun K hK => ?_) (anyIn_cons rfl (fun K hK => ?_) AllReadyIn.nil))
          · refine readyIn_value (v := v) (by rfl) (exec_load rfl (ld_cell q0.out Try.underlying33 rfl)) ?_
            simp only [Act.put, List.setIfInBounds_toArray, List.set_cons_zero, List.set_cons_succ]
            refine hK.out _ _ ?_
            clear hK K
            refine wpAnyIn_ready (rs := [9]) (by kernel_rfl) (by simp) (anyIn_cons rfl (fun K hK => ?_) AllReadyIn.nil)
            refine readyIn_value (v := .slice (some ⟨w3.heap.size, 0, none⟩) 1 1) (w' := w3.alloc (.cells #[.string (s.ps.getD x.1 zeroP).env] 9)) (by rfl) (by kernel_rfl) ?_
            simp only [Act.put, List.setIfInBounds_toArray, List.set_cons_zero, List.set_cons_succ]
            refine hK.out _ _ ?_
            clear hK K
            refine wpAnyIn_ready (rs := [10]) (by kernel_rfl) (by simp) (anyIn_cons rfl (fun K hK => ?_) AllReadyIn.nil)
            obtain ⟨v', w4, hr, hx⟩ := HAP.out
            refine readyIn_value (by rfl) (exec_append rfl rfl rfl hr) ?_
            simp only [Act.put, List.setIfInBounds_toArray, List.set_cons_zero, List.set_cons_succ]
            obtain ⟨A4, c4', ev4, hr4⟩ := hx
            refine hK.out _ _ ?_
            clear hK K
            refine wpAnyIn_ready (rs := [11]) (by kernel_rfl) (by simp) (anyIn_cons rfl (fun K hK => ?_) AllReadyIn.nil)
            refine readyIn_skip (by rfl) (Eq.trans (by kernel_rfl) (op_u (HST.out v' w4 A4 c4' ⟨ev4, hr4⟩))) ?_
            simp only [Act.put, List.setIfInBounds_toArray, List.set_cons_zero, List.set_cons_succ]
            refine hK.out _ _ ?_
            clear hK K
            refine wpAnyIn_done (by kernel_rfl) ?_ _
            exact HFIN.out v' w4 A4 c4' ⟨ev4, hr4⟩
          · refine readyIn_value (v := .slice (some ⟨w3.heap.size, 0, none⟩) 1 1) (w' := w3.alloc (.cells #[.string (s.ps.getD x.1 zeroP).env] 9)) (by rfl) (by kernel_rfl) ?_
            simp only [Act.put, List.setIfInBounds_toArray, List.set_cons_zero, List.set_cons_succ]
            refine hK.out _ _ ?_
            clear hK K
            refine wpAnyIn_ready (rs := [0]) (by kernel_rfl) (by simp) (anyIn_cons rfl (fun K hK => ?_) AllReadyIn.nil)
            refine readyIn_value (v := v) (by rfl) (exec_load rfl (ld_cell q0b.out Try.underlying33 rfl)) ?_
            simp only [Act.put, List.setIfInBounds_toArray, List.set_cons_zero, List.set_cons_succ]
            refine hK.out _ _ ?_
            clear hK K
            refine wpAnyIn_ready (rs := [10]) (by kernel_rfl) (by simp) (anyIn_cons rfl (fun K hK => ?_) AllReadyIn.nil)
            obtain ⟨v', w4, hr, hx⟩ := HAP.out
            refine readyIn_value (by rfl) (exec_append rfl rfl rfl hr) ?_
            simp only [Act.put, List.setIfInBounds_toArray, List.set_cons_zero, List.set_cons_succ]
            obtain ⟨A4, c4', ev4, hr4⟩ := hx
            refine hK.out _ _ ?_
            clear hK K
            refine wpAnyIn_ready (rs := [11]) (by kernel_rfl) (by simp) (anyIn_cons rfl (fun K hK => ?_) AllReadyIn.nil)
            refine readyIn_skip (by rfl) (Eq.trans (by kernel_rfl) (op_u (HST.out v' w4 A4 c4' ⟨ev4, hr4⟩))) ?_
            simp only [Act.put, List.setIfInBounds_toArray, List.set_cons_zero, List.set_cons_succ]
            refine hK.out _ _ ?_
            clear hK K
            refine wpAnyIn_done (by kernel_rfl) ?_ _
            exact HFIN.out v' w4 A4 c4' ⟨ev4, hr4⟩
    -- END REGION
  case done =>
    rintro D xs W hD hxs ⟨⟨v, hv, hrow⟩, hk⟩ hK
    have hlx : xs.length = (nums (fun k p => valIn p.env s.fst == k) s.ps s.ps.length).length := by rw [← hxs]; simp
    rw [hxs, hlx] at hrow
    obtain ⟨A', c', rfl, hT⟩ := row_val hrow
    have kb := hv.box
    have HB := Lib.hid (hb0.none hk (fun k e => by omega))
    have HRW := Lib.hid hrow
    have HV := Lib.hid hv
    have HK := Lib.hid hK
    clear hrow hv hK hk hT hxs hlx
    gi_wp2
    have hKD := blkFar (a := ⟨w.heap.size + 1, 0, none⟩) HK.out (show D ≠ w.heap.size + 1 by omega) (.slice A' (nums (fun k p => valIn p.env s.fst == k) s.ps s.ps.length).length c')
    refine ⟨by simp, .inl ⟨_, _, rfl, run_takeDeferred hKD, ?_⟩⟩
    have r2 := ownsRow_putObj (ownsRow_setCell_other HRW.out (a := ⟨w.heap.size + 1, 0, none⟩) (fun e => by have := (HRW.out.lt (w.heap.size + 1) e).1; omega) (.slice A' (nums (fun k p => valIn p.env s.fst == k) s.ps s.ps.length).length c')) (.deferred none) hKD rfl
    refine ⟨_, results_cell1 rfl _ _ (w.heap.size + 1) _ _ rfl ((cell_putObj _ 0 (by omega)).trans (HV.out.set _).box.1) Try.underlying33 rfl, ?_⟩
    have hle : w.heap.size ≤ W0.heap.size + 2 := by omega
    exact ⟨_, rfl, World.ownsRow.mono r2 hle, (HB.out.setCell (a := ⟨w.heap.size + 1, 0, none⟩) (.inr (by simp)) _).putObj _ (by omega)⟩
  case stop =>
    rintro D c pre W hD hpre hf hK
    exact hf.elim
end Go.Proofs.Ytimhejjdgncdaaa
