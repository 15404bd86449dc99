/- The chapter's examples of safe histories, run. -/
import Derived.Test.YtmaihiajgjijhaaSafe18
namespace Go.Proofs.Ytmaihiajgjijhaa
open Go.RowKit Go.Shelf
set_option linter.unusedVariables false
set_option linter.unusedSimpArgs false
attribute [local go_sem] alloc_drewN setCell_drewN

theorem few_ok {w : World} {m : Nat} (hm : Holds w m (.cells #[.int .i64 1, .string ⟨#[100, 0]⟩] 42)) : MemsAt w (sl1 m) [mem1] := by
  refine ⟨rfl, Nat.le_refl _, (by decide : (1 : Nat) ≤ 9223372036854775807), [.int .i64 1, .string ⟨#[100, 0]⟩], rfl, ⟨_, fun _ => ⟨m, 0, _, _, rfl, hm, fun j u hj => by rw [Nat.zero_add]; simpa using hj⟩⟩, fun i x hi => ?_⟩
  cases i with
  | zero => cases hi; exact ⟨rfl, by decide, by decide⟩
  | succ i => cases hi
theorem mems_nil (w : World) : MemsAt w sl0 [] := ⟨rfl, Nat.le_refl _, by decide, [], rfl, ⟨0, CellsAt.nil _ _ _⟩, fun i x hi => by cases hi⟩
theorem ok_few0 (w : World) : EvOk w few0 := ⟨mems_nil w, mems_nil w⟩
theorem ok_few1 (w : World) : EvOk w few1 := ⟨mems_nil w, mems_nil w⟩
theorem ok_few2 {w : World} {m : Nat} (hm : Holds w m (.cells #[.int .i64 1, .string ⟨#[100, 0]⟩] 42)) : EvOk w (few2 m) := ⟨mems_nil w, few_ok hm⟩
theorem ok_few3 {w : World} {m : Nat} (hm : Holds w m (.cells #[.int .i64 1, .string ⟨#[100, 0]⟩] 42)) : EvOk w (few3 m) := ⟨few_ok hm, mems_nil w⟩
theorem ok_com {w : World} {m q : Nat} (hm : Holds w m (.cells #[.int .i64 1, .string ⟨#[100, 0]⟩] 42)) : EvOk w (com m q) := ⟨few_ok hm, mems_nil w⟩
theorem ok_oth {w : World} {m : Nat} (hm : Holds w m (.cells #[.int .i64 1, .string ⟨#[100, 0]⟩] 42)) : EvOk w (oth m) := ⟨few_ok hm, mems_nil w⟩

/-- What stands behind 'few': the history, its member list, the decision. -/
def AliveAt (w : World) (g m tb p q : Nat) (wx : World) : Prop := But (fun _ => False) w wx ∧ Holds wx g (.cells (evsCells [few0, few1, few2 m, few3 m]).toArray 40) ∧ Holds wx m (.cells #[.int .i64 1, .string ⟨#[100, 0]⟩] 42) ∧
  Holds wx tb (.cells #[.int .i64 0, .int .i64 1, .int .i64 1] 24) ∧ Holds wx p (com m q).obj
theorem AliveAt.but {w : World} {g m tb p q : Nat} {wx wy : World} (h : AliveAt w g m tb p q wx) (b : But (fun _ => False) wx wy) : AliveAt w g m tb p q wy :=
  ⟨h.1.trans b, h.2.1.but b (fun f => f), h.2.2.1.but b (fun f => f), h.2.2.2.1.but b (fun f => f), h.2.2.2.2.but b (fun f => f)⟩
theorem store_com (w : World) (p m q : Nat) (h : Holds w p ev0) : (Instr.storeAt 40 (.pointer (some ⟨p, 0, none⟩)) (com m q).val).run Try.prog w = .ok () (w.setRow p (com m q).arr) :=
  store_row w p 40 40 _ (com m q).arr h (EvV.infoE (com m q)) rfl (EvV.one (com m q))

def TxnAs (tb : Nat) (w : World) : Prop := (Instr.loadAt 24 (.pointer (some ⟨tb, 0, none⟩))).run Try.prog w = .ok (.agg #[.int .i64 0, .int .i64 1, .int .i64 1]) w
theorem txn_as {w : World} {tb : Nat} (h : Holds w tb (.cells #[.int .i64 0, .int .i64 1, .int .i64 1] 24)) : TxnAs tb w := by
  have c0 := cells_cell h 0
  have c1 := cells_cell h 1
  have c2 := cells_cell h 2
  unfold TxnAs
  go_simp
def MslAs (g m : Nat) (w : World) : Prop := (Instr.loadAt 33 (.pointer (some ⟨g, 79, none⟩))).run Try.prog w = .ok (.slice (some ⟨m, 0, none⟩) 1 1) w
theorem msl_as {w : World} {g m : Nat} (h : Holds w g (.cells (evsCells [few0, few1, few2 m, few3 m]).toArray 40)) : MslAs g m w := by
  have c0 := cells_cell h 79
  rw [show (evsCells [few0, few1, few2 m, few3 m]).toArray[79]? = some (.slice (some ⟨m, 0, none⟩) 1 1) from rfl] at c0
  unfold MslAs
  go_simp
set_option maxRecDepth 100000 in
set_option maxHeartbeats 1600000 in
theorem alive34_any (w : World) : Calls Try.prog 5 #[] w fun e w' => e = .returned (.bool true) ∧ But (fun _ => False) w w' := by
  go_enter Try.func5, Try.ntmps5
  go_wp2_with fail
  refine (few_any w).mono ?_
  rintro e w1 ⟨g, m, rfl, hg, hm, b1⟩
  have hH : ∀ x ∈ [few0, few1, few2 m, few3 m], EvOk w1 x := fun x hx => by
    simp only [List.mem_cons, List.not_mem_nil, or_false] at hx
    rcases hx with rfl | rfl | rfl | rfl
    · exact ok_few0 _
    · exact ok_few1 _
    · exact ok_few2 hm
    · exact ok_few3 hm
  have hc1 := Check_any (w := w1) 0 (by decide) (by decide) (len := 4) (cap := 4) (hist_of_block hg hH) rfl (by decide) (by decide) (by decide)
  rw [few_check] at hc1
  have C1 := Lib.hid hc1
  have HG := Lib.hid hg
  have HM := Lib.hid hm
  have B1 := Lib.hid b1
  clear hc1 hH hg hm b1
  go_wp2_with fail
  refine C1.out.mono ?_
  rintro e w2 ⟨rfl, b2⟩
  have hg2 := HG.out.but b2 (fun f => f)
  have c47 := cells_cell hg2 47
  have c48 := cells_cell hg2 48
  have c49 := cells_cell hg2 49
  rw [show (evsCells [few0, few1, few2 m, few3 m]).toArray[47]? = some (.int .i64 0) from rfl] at c47
  rw [show (evsCells [few0, few1, few2 m, few3 m]).toArray[48]? = some (.int .i64 1) from rfl] at c48
  rw [show (evsCells [few0, few1, few2 m, few3 m]).toArray[49]? = some (.int .i64 1) from rfl] at c49
  have HG2 := Lib.hid hg2
  have HM2 := Lib.hid (HM.out.but b2 (fun f => f))
  have B2 := Lib.hid (B1.out.trans b2)
  clear C1 HG HM B1 b2 hg2
  go_upto_region 4 with fail
  clear c47 c48 c49
  go_cut [5] (fun s5 wx => ∃ p q, s5 = .pointer (some ⟨p, 0, none⟩) ∧ AliveAt w g m w2.heap.size p q wx)
  case first =>
    have hgA := Lib.hid ((HG2.out.alloc (.cells #[.int .i64 0, .int .i64 1, .int .i64 1] 24)).but (But.refl (fun _ => False) _).drew (fun f => f))
    have hmA := Lib.hid ((HM2.out.alloc (.cells #[.int .i64 0, .int .i64 1, .int .i64 1] 24)).but (But.refl (fun _ => False) _).drew (fun f => f))
    have htA := Lib.hid ((Holds.new w2 (.cells #[.int .i64 0, .int .i64 1, .int .i64 1] 24)).but (But.refl (fun _ => False) _).drew (fun f => f))
    have bA := Lib.hid ((B2.out.alloc (.cells #[.int .i64 0, .int .i64 1, .int .i64 1] 24)).drew)
    refine wp_region_held_drew (S := fun w' => TxnAs w2.heap.size w' ∧ MslAs g m w') (by kernel_rfl) ⟨txn_as htA.out, msl_as hgA.out⟩ (fun hS => ?_)
    obtain ⟨wa, hwa⟩ : ∃ wa, (w2.alloc (.cells #[.int .i64 0, .int .i64 1, .int .i64 1] 24)).drew = wa := ⟨_, rfl⟩
    rw [hwa] at hS hgA hmA htA bA ⊢
    clear hwa
    refine' anyH_take (i := 0) (v := .agg #[.int .i64 0, .int .i64 1, .int .i64 1]) rfl (by kernel_rfl) (by kernel_rfl) (by kernel_rfl) (fun _ _ _ h => h) (yieldsIf_load_run (by rfl) rfl (fun _ h => h.1)) hS ?_
    simp only [Act.put, List.setIfInBounds_toArray, List.set_cons_zero, List.set_cons_succ]
    refine' anyH_take (i := 1) (v := .slice (some ⟨g, 0, none⟩) 4 4) rfl (by kernel_rfl) (by kernel_rfl) (by kernel_rfl) (fun _ _ _ h => h) (Or.inl ⟨by rfl, fun _ _ => by rfl⟩) hS ?_
    simp only [Act.put, List.setIfInBounds_toArray, List.set_cons_zero, List.set_cons_succ]
    refine' anyH_take (i := 2) (v := .pointer (some ⟨g, 66, none⟩)) rfl (by kernel_rfl) (by kernel_rfl) (by kernel_rfl) (fun _ _ _ h => h) (Or.inl ⟨by rfl, fun _ _ => by rfl⟩) hS ?_
    simp only [Act.put, List.setIfInBounds_toArray, List.set_cons_zero, List.set_cons_succ]
    refine' anyH_take (i := 3) (v := .pointer (some ⟨g, 72, none⟩)) rfl (by kernel_rfl) (by kernel_rfl) (by kernel_rfl) (fun _ _ _ h => h) (Or.inl ⟨by rfl, fun _ _ => by rfl⟩) hS ?_
    simp only [Act.put, List.setIfInBounds_toArray, List.set_cons_zero, List.set_cons_succ]
    refine' anyH_take (i := 4) (v := .pointer (some ⟨g, 79, none⟩)) rfl (by kernel_rfl) (by kernel_rfl) (by kernel_rfl) (fun _ _ _ h => h) (Or.inl ⟨by rfl, fun _ _ => by rfl⟩) hS ?_
    simp only [Act.put, List.setIfInBounds_toArray, List.set_cons_zero, List.set_cons_succ]
    refine' anyH_take (i := 5) (v := .slice (some ⟨m, 0, none⟩) 1 1) rfl (by kernel_rfl) (by kernel_rfl) (by kernel_rfl) (fun _ _ _ h => h) (yieldsIf_load_run (by rfl) rfl (fun _ h => h.2)) hS ?_
    simp only [Act.put, List.setIfInBounds_toArray, List.set_cons_zero, List.set_cons_succ]
    refine wpAnyH_ready (rs := [6, 9]) (by kernel_rfl) (by simp) (anyH_cons rfl (fun K hK => ?_) (anyH_cons rfl (fun K hK => ?_) AllReadyH.nil))
    · refine ready_value (v := .slice (some ⟨wa.heap.size, 0, none⟩) 1 1) (w' := wa.alloc (.cells #[.string ⟨#[100, 0]⟩] 9)) (by rfl) (by kernel_rfl) ?_
      simp only [Act.put, List.setIfInBounds_toArray, List.set_cons_zero, List.set_cons_succ]
      refine hK.out _ _ ⟨txn_as (htA.out.alloc _), msl_as (hgA.out.alloc _)⟩ (fun hS => ?_)
      clear hK K
      refine' anyH_take (i := 7) (v := .agg #[.int .u8 3, .int .i64 0, .int .i64 0, .int .i64 1, .int .i64 1, .bool true, .int .i64 1, .slice (some ⟨m, 0, none⟩) 1 1, .slice (some ⟨wa.heap.size, 0, none⟩) 1 1, .string ⟨#[]⟩]) rfl (by kernel_rfl) (by kernel_rfl) (by kernel_rfl) (fun _ _ _ h => h) (Or.inl ⟨by rfl, fun _ _ => by kernel_rfl⟩) hS ?_
      simp only [Act.put, List.setIfInBounds_toArray, List.set_cons_zero, List.set_cons_succ]
      refine' anyH_take (i := 8) (v := (com m wa.heap.size).val) rfl (by kernel_rfl) (by kernel_rfl) (by kernel_rfl) (fun _ _ _ h => h) (Or.inl ⟨by rfl, fun _ _ => by kernel_rfl⟩) hS ?_
      simp only [Act.put, List.setIfInBounds_toArray, List.set_cons_zero, List.set_cons_succ]
      refine wpAnyH_ready (rs := [9]) (by kernel_rfl) (by simp) (anyH_cons rfl (fun K hK => ?_) AllReadyH.nil)
      refine ready_value (v := .pointer (some ⟨wa.heap.size + 1, 0, none⟩)) (w' := (wa.alloc (.cells #[.string ⟨#[100, 0]⟩] 9)).alloc ev0) (by rfl) (by rw [← World.size_alloc wa (.cells #[.string ⟨#[100, 0]⟩] 9)]; kernel_rfl) ?_
      simp only [Act.put, List.setIfInBounds_toArray, List.set_cons_zero, List.set_cons_succ]
      refine hK.out _ _ ⟨txn_as ((htA.out.alloc _).alloc _), msl_as ((hgA.out.alloc _).alloc _)⟩ (fun hS => ?_)
      clear hK K
      refine wpAnyH_ready (rs := [10]) (by kernel_rfl) (by simp) (anyH_cons rfl (fun K hK => ?_) AllReadyH.nil)
      have hp := Holds.n21 wa (.cells #[.string ⟨#[100, 0]⟩] 9) ev0
      refine ready_skip (w' := ((wa.alloc (.cells #[.string ⟨#[100, 0]⟩] 9)).alloc ev0).setRow (wa.heap.size + 1) (com m wa.heap.size).arr) (by kernel_rfl) ?_ ?_
      · exact Eq.trans (by kernel_rfl) (op_u (store_com _ (wa.heap.size + 1) m wa.heap.size hp))
      simp only [Act.put, List.setIfInBounds_toArray, List.set_cons_zero, List.set_cons_succ]
      have n0 := hgA.out.lt
      have n1 := hmA.out.lt
      have n2 := htA.out.lt
      have hfin : AliveAt w g m w2.heap.size (wa.heap.size + 1) wa.heap.size (((wa.alloc (.cells #[.string ⟨#[100, 0]⟩] 9)).alloc ev0).setRow (wa.heap.size + 1) (com m wa.heap.size).arr) := ⟨(((bA.out.alloc _).alloc _).setRow (.inr (by have := bA.out.size; omega)) _), ((hgA.out.alloc _).alloc _).setRow_far (by omega) _, ((hmA.out.alloc _).alloc _).setRow_far (by omega) _, ((htA.out.alloc _).alloc _).setRow_far (by omega) _, hp.setRow⟩
      refine hK.out _ _ ⟨txn_as hfin.2.2.2.1, msl_as hfin.2.1⟩ (fun hS => ?_)
      clear hK K
      refine wpAnyH_done (by kernel_rfl) ?_ _
      have HF := Lib.hid hfin
      clear hfin hp hS
      go_wp2_with fail
      go_meet
      exact ⟨_, _, rfl, HF.out⟩
    · refine ready_value (v := .pointer (some ⟨wa.heap.size, 0, none⟩)) (w' := wa.alloc ev0) (by rfl) (by kernel_rfl) ?_
      simp only [Act.put, List.setIfInBounds_toArray, List.set_cons_zero, List.set_cons_succ]
      refine hK.out _ _ ⟨txn_as (htA.out.alloc _), msl_as (hgA.out.alloc _)⟩ (fun hS => ?_)
      clear hK K
      refine wpAnyH_ready (rs := [6]) (by kernel_rfl) (by simp) (anyH_cons rfl (fun K hK => ?_) AllReadyH.nil)
      refine ready_value (v := .slice (some ⟨wa.heap.size + 1, 0, none⟩) 1 1) (w' := (wa.alloc ev0).alloc (.cells #[.string ⟨#[100, 0]⟩] 9)) (by rfl) (by rw [← World.size_alloc wa ev0]; kernel_rfl) ?_
      simp only [Act.put, List.setIfInBounds_toArray, List.set_cons_zero, List.set_cons_succ]
      refine hK.out _ _ ⟨txn_as ((htA.out.alloc _).alloc _), msl_as ((hgA.out.alloc _).alloc _)⟩ (fun hS => ?_)
      clear hK K
      refine' anyH_take (i := 7) (v := .agg #[.int .u8 3, .int .i64 0, .int .i64 0, .int .i64 1, .int .i64 1, .bool true, .int .i64 1, .slice (some ⟨m, 0, none⟩) 1 1, .slice (some ⟨wa.heap.size + 1, 0, none⟩) 1 1, .string ⟨#[]⟩]) rfl (by kernel_rfl) (by kernel_rfl) (by kernel_rfl) (fun _ _ _ h => h) (Or.inl ⟨by rfl, fun _ _ => by kernel_rfl⟩) hS ?_
      simp only [Act.put, List.setIfInBounds_toArray, List.set_cons_zero, List.set_cons_succ]
      refine' anyH_take (i := 8) (v := (com m (wa.heap.size + 1)).val) rfl (by kernel_rfl) (by kernel_rfl) (by kernel_rfl) (fun _ _ _ h => h) (Or.inl ⟨by rfl, fun _ _ => by kernel_rfl⟩) hS ?_
      simp only [Act.put, List.setIfInBounds_toArray, List.set_cons_zero, List.set_cons_succ]
      refine wpAnyH_ready (rs := [10]) (by kernel_rfl) (by simp) (anyH_cons rfl (fun K hK => ?_) AllReadyH.nil)
      have hp := Holds.n20 wa ev0 (.cells #[.string ⟨#[100, 0]⟩] 9)
      refine ready_skip (w' := ((wa.alloc ev0).alloc (.cells #[.string ⟨#[100, 0]⟩] 9)).setRow wa.heap.size (com m (wa.heap.size + 1)).arr) (by kernel_rfl) ?_ ?_
      · exact Eq.trans (by kernel_rfl) (op_u (store_com _ wa.heap.size m (wa.heap.size + 1) hp))
      simp only [Act.put, List.setIfInBounds_toArray, List.set_cons_zero, List.set_cons_succ]
      have n0 := hgA.out.lt
      have n1 := hmA.out.lt
      have n2 := htA.out.lt
      have hfin : AliveAt w g m w2.heap.size wa.heap.size (wa.heap.size + 1) (((wa.alloc ev0).alloc (.cells #[.string ⟨#[100, 0]⟩] 9)).setRow wa.heap.size (com m (wa.heap.size + 1)).arr) := ⟨(((bA.out.alloc _).alloc _).setRow (.inr (by have := bA.out.size; omega)) _), ((hgA.out.alloc _).alloc _).setRow_far (by omega) _, ((hmA.out.alloc _).alloc _).setRow_far (by omega) _, ((htA.out.alloc _).alloc _).setRow_far (by omega) _, hp.setRow⟩
      refine hK.out _ _ ⟨txn_as hfin.2.2.2.1, msl_as hfin.2.1⟩ (fun hS => ?_)
      clear hK K
      refine wpAnyH_done (by kernel_rfl) ?_ _
      have HF := Lib.hid hfin
      clear hfin hp hS
      go_wp2_with fail
      go_meet
      exact ⟨_, _, rfl, HF.out⟩
  case rest =>
    obtain ⟨p, q, rfl, ha⟩ := hcut
    have HA0 := Lib.hid ha
    clear ha HG2 HM2 B2
    obtain ⟨wc0, hwc0⟩ : ∃ wc0, wc = wc0 := ⟨_, rfl⟩
    subst hwc0
    have HLp := Lib.hid HA0.out.2.2.2.2
    have hex5 : ∀ (W : World), AliveAt w g m w2.heap.size p q W → ∀ x ∈ [few0, few1, (few2 m), (com m q)], EvOk W x := fun W h x hx => by
      simp only [List.mem_cons, List.not_mem_nil, or_false] at hx
      rcases hx with rfl | rfl | rfl | rfl
      · exact ok_few0 _
      · exact ok_few1 _
      · exact ok_few2 h.2.2.1
      · exact ok_com h.2.2.1
    have HEX5 := Lib.hid hex5
    clear hex5
    go_upto_region 5 with fail
    have HAd5 := Lib.hid (HA0.out.but (But.refl (fun _ => False) _).drew)
    have HLd5 := Lib.hid (HLp.out.but (But.refl (fun _ => False) _).drew (fun f => f))
    refine wp_region_held_drew (S := fun w' => LoadsAs g 0 few0 w' ∧ LoadsAs g 22 few1 w' ∧ LoadsAs g 44 (few2 m) w' ∧ LoadsAs p 0 (com m q) w') (by kernel_rfl) ⟨loads_block HAd5.out.2.1 0 _ rfl, loads_block HAd5.out.2.1 1 _ rfl, loads_block HAd5.out.2.1 2 _ rfl, loads_obj HLd5.out⟩ (fun hS => ?_)
    obtain ⟨wd5, hwd⟩ : ∃ wd, (wc).drew = wd := ⟨_, rfl⟩
    rw [hwd] at hS HAd5 HLd5 ⊢
    clear hwd
    refine' anyH_take (i := 0) (v := .slice (some ⟨g, 0, none⟩) 4 4) rfl (by kernel_rfl) (by kernel_rfl) (by kernel_rfl) (fun _ _ _ h => h) (Or.inl ⟨by rfl, fun _ _ => by rfl⟩) hS ?_
    simp only [Act.put, List.setIfInBounds_toArray, List.set_cons_zero, List.set_cons_succ]
    refine' anyH_take (i := 1) (v := .pointer (some ⟨g, 0, none⟩)) rfl (by kernel_rfl) (by kernel_rfl) (by kernel_rfl) (fun _ _ _ h => h) (Or.inl ⟨by rfl, fun _ _ => by rfl⟩) hS ?_
    simp only [Act.put, List.setIfInBounds_toArray, List.set_cons_zero, List.set_cons_succ]
    refine' anyH_take (i := 2) (v := few0.val) rfl (by kernel_rfl) (by kernel_rfl) (by kernel_rfl) (fun _ _ _ h => h) (yieldsIf_load_run (by rfl) rfl (fun _ h => h.1)) hS ?_
    simp only [Act.put, List.setIfInBounds_toArray, List.set_cons_zero, List.set_cons_succ]
    refine' anyH_take (i := 3) (v := .slice (some ⟨g, 0, none⟩) 4 4) rfl (by kernel_rfl) (by kernel_rfl) (by kernel_rfl) (fun _ _ _ h => h) (Or.inl ⟨by rfl, fun _ _ => by rfl⟩) hS ?_
    simp only [Act.put, List.setIfInBounds_toArray, List.set_cons_zero, List.set_cons_succ]
    refine' anyH_take (i := 4) (v := .pointer (some ⟨g, 22, none⟩)) rfl (by kernel_rfl) (by kernel_rfl) (by kernel_rfl) (fun _ _ _ h => h) (Or.inl ⟨by rfl, fun _ _ => by rfl⟩) hS ?_
    simp only [Act.put, List.setIfInBounds_toArray, List.set_cons_zero, List.set_cons_succ]
    refine' anyH_take (i := 5) (v := few1.val) rfl (by kernel_rfl) (by kernel_rfl) (by kernel_rfl) (fun _ _ _ h => h) (yieldsIf_load_run (by rfl) rfl (fun _ h => h.2.1)) hS ?_
    simp only [Act.put, List.setIfInBounds_toArray, List.set_cons_zero, List.set_cons_succ]
    refine' anyH_take (i := 6) (v := .slice (some ⟨g, 0, none⟩) 4 4) rfl (by kernel_rfl) (by kernel_rfl) (by kernel_rfl) (fun _ _ _ h => h) (Or.inl ⟨by rfl, fun _ _ => by rfl⟩) hS ?_
    simp only [Act.put, List.setIfInBounds_toArray, List.set_cons_zero, List.set_cons_succ]
    refine' anyH_take (i := 7) (v := .pointer (some ⟨g, 44, none⟩)) rfl (by kernel_rfl) (by kernel_rfl) (by kernel_rfl) (fun _ _ _ h => h) (Or.inl ⟨by rfl, fun _ _ => by rfl⟩) hS ?_
    simp only [Act.put, List.setIfInBounds_toArray, List.set_cons_zero, List.set_cons_succ]
    refine' anyH_take (i := 8) (v := (few2 m).val) rfl (by kernel_rfl) (by kernel_rfl) (by kernel_rfl) (fun _ _ _ h => h) (yieldsIf_load_run (by rfl) rfl (fun _ h => h.2.2.1)) hS ?_
    simp only [Act.put, List.setIfInBounds_toArray, List.set_cons_zero, List.set_cons_succ]
    refine' anyH_take (i := 9) (v := (com m q).val) rfl (by kernel_rfl) (by kernel_rfl) (by kernel_rfl) (fun _ _ _ h => h) (yieldsIf_load_run (by rfl) rfl (fun _ h => h.2.2.2)) hS ?_
    simp only [Act.put, List.setIfInBounds_toArray, List.set_cons_zero, List.set_cons_succ]
    refine wpAnyH_ready (rs := [10]) (by kernel_rfl) (by simp) (anyH_cons rfl (fun K hK => ?_) AllReadyH.nil)
    refine ready_value (v := .slice (some ⟨wd5.heap.size, 0, none⟩) 4 4) (w' := wd5.alloc (.cells (evsCells [few0, few1, (few2 m), (com m q)]).toArray 40)) (by rfl) (Eq.trans (by kernel_rfl) (op_v (build4 few0 few1 (few2 m) (com m q) wd5))) ?_
    simp only [Act.put, List.setIfInBounds_toArray, List.set_cons_zero, List.set_cons_succ]
    have HAe5 := Lib.hid (HAd5.out.but ((But.refl (fun _ => False) wd5).alloc (.cells (evsCells [few0, few1, (few2 m), (com m q)]).toArray 40)))
    have HLe5 := Lib.hid (HLd5.out.but ((But.refl (fun _ => False) wd5).alloc (.cells (evsCells [few0, few1, (few2 m), (com m q)]).toArray 40)) (fun f => f))
    have hc5 := Check_any (w := wd5.alloc (.cells (evsCells [few0, few1, (few2 m), (com m q)]).toArray 40)) 0 (by decide) (by decide) (len := 4) (cap := 4) (hist_of_block (Holds.new wd5 _) (HEX5.out _ HAe5.out)) rfl (by decide) (by decide) (by decide)
    rw [few_check1 m q] at hc5
    have C5 := Lib.hid hc5
    clear hc5
    refine hK.out _ _ ⟨loads_block HAe5.out.2.1 0 _ rfl, loads_block HAe5.out.2.1 1 _ rfl, loads_block HAe5.out.2.1 2 _ rfl, loads_obj HLe5.out⟩ (fun hS => ?_)
    clear hK K
    refine wpAnyH_ready (rs := [11]) (by kernel_rfl) (by simp) (anyH_cons rfl (fun K hK => ?_) AllReadyH.nil)
    go_simp
    refine C5.out.mono ?_
    rintro e w5 ⟨rfl, b5⟩
    have HAf5 := Lib.hid (HAe5.out.but b5)
    have HLf5 := Lib.hid (HLe5.out.but b5 (fun f => f))
    refine hK.out _ _ ⟨loads_block HAf5.out.2.1 0 _ rfl, loads_block HAf5.out.2.1 1 _ rfl, loads_block HAf5.out.2.1 2 _ rfl, loads_obj HLf5.out⟩ (fun hS => ?_)
    clear hK K b5
    refine' anyH_take (i := 12) (v := .tuple #[.int .i64 3, .int .i64 344]) rfl (by kernel_rfl) (by kernel_rfl) (by kernel_rfl) (fun _ _ _ h => h) (Or.inl ⟨by rfl, fun _ _ => by rfl⟩) hS ?_
    simp only [Act.put, List.setIfInBounds_toArray, List.set_cons_zero, List.set_cons_succ]
    refine' anyH_take (i := 13) (v := .int .i64 3) rfl (by kernel_rfl) (by kernel_rfl) (by kernel_rfl) (fun _ _ _ h => h) (Or.inl ⟨by rfl, fun _ _ => by rfl⟩) hS ?_
    simp only [Act.put, List.setIfInBounds_toArray, List.set_cons_zero, List.set_cons_succ]
    refine' anyH_take (i := 14) (v := .int .i64 344) rfl (by kernel_rfl) (by kernel_rfl) (by kernel_rfl) (fun _ _ _ h => h) (Or.inl ⟨by rfl, fun _ _ => by rfl⟩) hS ?_
    simp only [Act.put, List.setIfInBounds_toArray, List.set_cons_zero, List.set_cons_succ]
    refine' anyH_take (i := 15) (v := .int .i64 3) rfl (by kernel_rfl) (by kernel_rfl) (by kernel_rfl) (fun _ _ _ h => h) (Or.inl ⟨by rfl, fun _ _ => by rfl⟩) hS ?_
    simp only [Act.put, List.setIfInBounds_toArray, List.set_cons_zero, List.set_cons_succ]
    refine' anyH_take (i := 16) (v := .int .i64 344) rfl (by kernel_rfl) (by kernel_rfl) (by kernel_rfl) (fun _ _ _ h => h) (Or.inl ⟨by rfl, fun _ _ => by rfl⟩) hS ?_
    simp only [Act.put, List.setIfInBounds_toArray, List.set_cons_zero, List.set_cons_succ]
    refine wpAnyH_done (by kernel_rfl) ?_ _
    clear hS HAd5 HAe5 HLd5 HLe5 C5 HEX5
    have HR6 := Lib.hid (loads_block HAf5.out.2.1 3 (few3 m) rfl)
    have HF6 := Lib.hid (frozenOf (Holds.new w5 (few3 m).obj))
    have HO := Lib.hid (Holds.new w5 (few3 m).obj)
    have c10 : (w5.alloc (few3 m).obj).cell? ⟨w5.heap.size, 10, none⟩ = some (.int .i64 1) := cells_cell HO.out 10
    have f10 := frozenOf HO.out 10
    go_upto_region 8 with (first | ((with_reducible refine ld_ev0 g (3 * 22) (few3 m) HR6.out ?_ ?_); (exact ⟨rfl, rfl⟩)) | ((with_reducible refine st_ev0 w5 (few3 m) ?_ ?_); (exact ⟨rfl, rfl, rfl, rfl⟩)))
    have ha8 : AliveAt w g m w2.heap.size p q ((w5.alloc (few3 m).obj).setCell ⟨w5.heap.size, 10, none⟩ (.int .i64 2)) := HAf5.out.but (((But.refl (fun _ => False) w5).alloc _).setCell (a := ⟨w5.heap.size, 10, none⟩) (.inr (Nat.le_refl _)) _)
    have hl8 : Holds ((w5.alloc (few3 m).obj).setCell ⟨w5.heap.size, 10, none⟩ (.int .i64 2)) w5.heap.size (oth m).obj := blkSet HO.out 10 _
    obtain ⟨w8, hw8⟩ : ∃ w8, (w5.alloc (few3 m).obj).setCell ⟨w5.heap.size, 10, none⟩ (.int .i64 2) = w8 := ⟨_, rfl⟩
    rw [hw8] at ha8 hl8 ⊢
    have HA8 := Lib.hid ha8
    have HL8 := Lib.hid hl8
    clear hw8 ha8 hl8 c10 f10 HO HR6 HF6 HAf5 HLf5 HA0 HLp
    have hex8 : ∀ (W : World), AliveAt w g m w2.heap.size p q W → ∀ x ∈ [few0, few1, (few2 m), (oth m)], EvOk W x := fun W h x hx => by
      simp only [List.mem_cons, List.not_mem_nil, or_false] at hx
      rcases hx with rfl | rfl | rfl | rfl
      · exact ok_few0 _
      · exact ok_few1 _
      · exact ok_few2 h.2.2.1
      · exact ok_oth h.2.2.1
    have HEX8 := Lib.hid hex8
    clear hex8
    go_upto_region 8 with fail
    have HAd8 := Lib.hid (HA8.out.but (But.refl (fun _ => False) _).drew)
    have HLd8 := Lib.hid (HL8.out.but (But.refl (fun _ => False) _).drew (fun f => f))
    refine wp_region_held_drew (S := fun w' => LoadsAs g 0 few0 w' ∧ LoadsAs g 22 few1 w' ∧ LoadsAs g 44 (few2 m) w' ∧ LoadsAs w5.heap.size 0 (oth m) w') (by kernel_rfl) ⟨loads_block HAd8.out.2.1 0 _ rfl, loads_block HAd8.out.2.1 1 _ rfl, loads_block HAd8.out.2.1 2 _ rfl, loads_obj HLd8.out⟩ (fun hS => ?_)
    obtain ⟨wd8, hwd⟩ : ∃ wd, (w8).drew = wd := ⟨_, rfl⟩
    rw [hwd] at hS HAd8 HLd8 ⊢
    clear hwd
    refine' anyH_take (i := 0) (v := .slice (some ⟨g, 0, none⟩) 4 4) rfl (by kernel_rfl) (by kernel_rfl) (by kernel_rfl) (fun _ _ _ h => h) (Or.inl ⟨by rfl, fun _ _ => by rfl⟩) hS ?_
    simp only [Act.put, List.setIfInBounds_toArray, List.set_cons_zero, List.set_cons_succ]
    refine' anyH_take (i := 1) (v := .pointer (some ⟨g, 0, none⟩)) rfl (by kernel_rfl) (by kernel_rfl) (by kernel_rfl) (fun _ _ _ h => h) (Or.inl ⟨by rfl, fun _ _ => by rfl⟩) hS ?_
    simp only [Act.put, List.setIfInBounds_toArray, List.set_cons_zero, List.set_cons_succ]
    refine' anyH_take (i := 2) (v := few0.val) rfl (by kernel_rfl) (by kernel_rfl) (by kernel_rfl) (fun _ _ _ h => h) (yieldsIf_load_run (by rfl) rfl (fun _ h => h.1)) hS ?_
    simp only [Act.put, List.setIfInBounds_toArray, List.set_cons_zero, List.set_cons_succ]
    refine' anyH_take (i := 3) (v := .slice (some ⟨g, 0, none⟩) 4 4) rfl (by kernel_rfl) (by kernel_rfl) (by kernel_rfl) (fun _ _ _ h => h) (Or.inl ⟨by rfl, fun _ _ => by rfl⟩) hS ?_
    simp only [Act.put, List.setIfInBounds_toArray, List.set_cons_zero, List.set_cons_succ]
    refine' anyH_take (i := 4) (v := .pointer (some ⟨g, 22, none⟩)) rfl (by kernel_rfl) (by kernel_rfl) (by kernel_rfl) (fun _ _ _ h => h) (Or.inl ⟨by rfl, fun _ _ => by rfl⟩) hS ?_
    simp only [Act.put, List.setIfInBounds_toArray, List.set_cons_zero, List.set_cons_succ]
    refine' anyH_take (i := 5) (v := few1.val) rfl (by kernel_rfl) (by kernel_rfl) (by kernel_rfl) (fun _ _ _ h => h) (yieldsIf_load_run (by rfl) rfl (fun _ h => h.2.1)) hS ?_
    simp only [Act.put, List.setIfInBounds_toArray, List.set_cons_zero, List.set_cons_succ]
    refine' anyH_take (i := 6) (v := .slice (some ⟨g, 0, none⟩) 4 4) rfl (by kernel_rfl) (by kernel_rfl) (by kernel_rfl) (fun _ _ _ h => h) (Or.inl ⟨by rfl, fun _ _ => by rfl⟩) hS ?_
    simp only [Act.put, List.setIfInBounds_toArray, List.set_cons_zero, List.set_cons_succ]
    refine' anyH_take (i := 7) (v := .pointer (some ⟨g, 44, none⟩)) rfl (by kernel_rfl) (by kernel_rfl) (by kernel_rfl) (fun _ _ _ h => h) (Or.inl ⟨by rfl, fun _ _ => by rfl⟩) hS ?_
    simp only [Act.put, List.setIfInBounds_toArray, List.set_cons_zero, List.set_cons_succ]
    refine' anyH_take (i := 8) (v := (few2 m).val) rfl (by kernel_rfl) (by kernel_rfl) (by kernel_rfl) (fun _ _ _ h => h) (yieldsIf_load_run (by rfl) rfl (fun _ h => h.2.2.1)) hS ?_
    simp only [Act.put, List.setIfInBounds_toArray, List.set_cons_zero, List.set_cons_succ]
    refine' anyH_take (i := 9) (v := (oth m).val) rfl (by kernel_rfl) (by kernel_rfl) (by kernel_rfl) (fun _ _ _ h => h) (yieldsIf_load_run (by rfl) rfl (fun _ h => h.2.2.2)) hS ?_
    simp only [Act.put, List.setIfInBounds_toArray, List.set_cons_zero, List.set_cons_succ]
    refine wpAnyH_ready (rs := [10]) (by kernel_rfl) (by simp) (anyH_cons rfl (fun K hK => ?_) AllReadyH.nil)
    refine ready_value (v := .slice (some ⟨wd8.heap.size, 0, none⟩) 4 4) (w' := wd8.alloc (.cells (evsCells [few0, few1, (few2 m), (oth m)]).toArray 40)) (by rfl) (Eq.trans (by kernel_rfl) (op_v (build4 few0 few1 (few2 m) (oth m) wd8))) ?_
    simp only [Act.put, List.setIfInBounds_toArray, List.set_cons_zero, List.set_cons_succ]
    have HAe8 := Lib.hid (HAd8.out.but ((But.refl (fun _ => False) wd8).alloc (.cells (evsCells [few0, few1, (few2 m), (oth m)]).toArray 40)))
    have HLe8 := Lib.hid (HLd8.out.but ((But.refl (fun _ => False) wd8).alloc (.cells (evsCells [few0, few1, (few2 m), (oth m)]).toArray 40)) (fun f => f))
    have hc8 := Check_any (w := wd8.alloc (.cells (evsCells [few0, few1, (few2 m), (oth m)]).toArray 40)) 0 (by decide) (by decide) (len := 4) (cap := 4) (hist_of_block (Holds.new wd8 _) (HEX8.out _ HAe8.out)) rfl (by decide) (by decide) (by decide)
    rw [few_check2 m q] at hc8
    have C8 := Lib.hid hc8
    clear hc8
    refine hK.out _ _ ⟨loads_block HAe8.out.2.1 0 _ rfl, loads_block HAe8.out.2.1 1 _ rfl, loads_block HAe8.out.2.1 2 _ rfl, loads_obj HLe8.out⟩ (fun hS => ?_)
    clear hK K
    refine wpAnyH_ready (rs := [11]) (by kernel_rfl) (by simp) (anyH_cons rfl (fun K hK => ?_) AllReadyH.nil)
    go_simp
    refine C8.out.mono ?_
    rintro e w9 ⟨rfl, b8⟩
    have HAf8 := Lib.hid (HAe8.out.but b8)
    have HLf8 := Lib.hid (HLe8.out.but b8 (fun f => f))
    refine hK.out _ _ ⟨loads_block HAf8.out.2.1 0 _ rfl, loads_block HAf8.out.2.1 1 _ rfl, loads_block HAf8.out.2.1 2 _ rfl, loads_obj HLf8.out⟩ (fun hS => ?_)
    clear hK K b8
    refine' anyH_take (i := 12) (v := .tuple #[.int .i64 3, .int .i64 342]) rfl (by kernel_rfl) (by kernel_rfl) (by kernel_rfl) (fun _ _ _ h => h) (Or.inl ⟨by rfl, fun _ _ => by rfl⟩) hS ?_
    simp only [Act.put, List.setIfInBounds_toArray, List.set_cons_zero, List.set_cons_succ]
    refine' anyH_take (i := 13) (v := .int .i64 3) rfl (by kernel_rfl) (by kernel_rfl) (by kernel_rfl) (fun _ _ _ h => h) (Or.inl ⟨by rfl, fun _ _ => by rfl⟩) hS ?_
    simp only [Act.put, List.setIfInBounds_toArray, List.set_cons_zero, List.set_cons_succ]
    refine' anyH_take (i := 14) (v := .int .i64 342) rfl (by kernel_rfl) (by kernel_rfl) (by kernel_rfl) (fun _ _ _ h => h) (Or.inl ⟨by rfl, fun _ _ => by rfl⟩) hS ?_
    simp only [Act.put, List.setIfInBounds_toArray, List.set_cons_zero, List.set_cons_succ]
    refine' anyH_take (i := 15) (v := .int .i64 3) rfl (by kernel_rfl) (by kernel_rfl) (by kernel_rfl) (fun _ _ _ h => h) (Or.inl ⟨by rfl, fun _ _ => by rfl⟩) hS ?_
    simp only [Act.put, List.setIfInBounds_toArray, List.set_cons_zero, List.set_cons_succ]
    refine' anyH_take (i := 16) (v := .int .i64 342) rfl (by kernel_rfl) (by kernel_rfl) (by kernel_rfl) (fun _ _ _ h => h) (Or.inl ⟨by rfl, fun _ _ => by rfl⟩) hS ?_
    simp only [Act.put, List.setIfInBounds_toArray, List.set_cons_zero, List.set_cons_succ]
    refine wpAnyH_done (by kernel_rfl) ?_ _
    clear hS HAd8 HAe8 HLd8 HLe8 C8 HEX8
    have HL9 := Lib.hid HAf8.out.2.2.2.2
    have hex9 : ∀ (W : World), AliveAt w g m w2.heap.size p q W → ∀ x ∈ [few0, few1, (few2 m), (few3 m), (com m q)], EvOk W x := fun W h x hx => by
      simp only [List.mem_cons, List.not_mem_nil, or_false] at hx
      rcases hx with rfl | rfl | rfl | rfl | rfl
      · exact ok_few0 _
      · exact ok_few1 _
      · exact ok_few2 h.2.2.1
      · exact ok_few3 h.2.2.1
      · exact ok_com h.2.2.1
    have HEX9 := Lib.hid hex9
    clear hex9
    go_upto_region 9 with fail
    have HAd9 := Lib.hid (HAf8.out.but (But.refl (fun _ => False) _).drew)
    have HLd9 := Lib.hid (HL9.out.but (But.refl (fun _ => False) _).drew (fun f => f))
    refine wp_region_held_drew (S := fun w' => LoadsAs g 0 few0 w' ∧ LoadsAs g 22 few1 w' ∧ LoadsAs g 44 (few2 m) w' ∧ LoadsAs g 66 (few3 m) w' ∧ LoadsAs p 0 (com m q) w') (by kernel_rfl) ⟨loads_block HAd9.out.2.1 0 _ rfl, loads_block HAd9.out.2.1 1 _ rfl, loads_block HAd9.out.2.1 2 _ rfl, loads_block HAd9.out.2.1 3 _ rfl, loads_obj HLd9.out⟩ (fun hS => ?_)
    obtain ⟨wd9, hwd⟩ : ∃ wd, (w9).drew = wd := ⟨_, rfl⟩
    rw [hwd] at hS HAd9 HLd9 ⊢
    clear hwd
    refine' anyH_take (i := 0) (v := .slice (some ⟨g, 0, none⟩) 4 4) rfl (by kernel_rfl) (by kernel_rfl) (by kernel_rfl) (fun _ _ _ h => h) (Or.inl ⟨by rfl, fun _ _ => by rfl⟩) hS ?_
    simp only [Act.put, List.setIfInBounds_toArray, List.set_cons_zero, List.set_cons_succ]
    refine' anyH_take (i := 1) (v := .pointer (some ⟨g, 0, none⟩)) rfl (by kernel_rfl) (by kernel_rfl) (by kernel_rfl) (fun _ _ _ h => h) (Or.inl ⟨by rfl, fun _ _ => by rfl⟩) hS ?_
    simp only [Act.put, List.setIfInBounds_toArray, List.set_cons_zero, List.set_cons_succ]
    refine' anyH_take (i := 2) (v := few0.val) rfl (by kernel_rfl) (by kernel_rfl) (by kernel_rfl) (fun _ _ _ h => h) (yieldsIf_load_run (by rfl) rfl (fun _ h => h.1)) hS ?_
    simp only [Act.put, List.setIfInBounds_toArray, List.set_cons_zero, List.set_cons_succ]
    refine' anyH_take (i := 3) (v := .slice (some ⟨g, 0, none⟩) 4 4) rfl (by kernel_rfl) (by kernel_rfl) (by kernel_rfl) (fun _ _ _ h => h) (Or.inl ⟨by rfl, fun _ _ => by rfl⟩) hS ?_
    simp only [Act.put, List.setIfInBounds_toArray, List.set_cons_zero, List.set_cons_succ]
    refine' anyH_take (i := 4) (v := .pointer (some ⟨g, 22, none⟩)) rfl (by kernel_rfl) (by kernel_rfl) (by kernel_rfl) (fun _ _ _ h => h) (Or.inl ⟨by rfl, fun _ _ => by rfl⟩) hS ?_
    simp only [Act.put, List.setIfInBounds_toArray, List.set_cons_zero, List.set_cons_succ]
    refine' anyH_take (i := 5) (v := few1.val) rfl (by kernel_rfl) (by kernel_rfl) (by kernel_rfl) (fun _ _ _ h => h) (yieldsIf_load_run (by rfl) rfl (fun _ h => h.2.1)) hS ?_
    simp only [Act.put, List.setIfInBounds_toArray, List.set_cons_zero, List.set_cons_succ]
    refine' anyH_take (i := 6) (v := .slice (some ⟨g, 0, none⟩) 4 4) rfl (by kernel_rfl) (by kernel_rfl) (by kernel_rfl) (fun _ _ _ h => h) (Or.inl ⟨by rfl, fun _ _ => by rfl⟩) hS ?_
    simp only [Act.put, List.setIfInBounds_toArray, List.set_cons_zero, List.set_cons_succ]
    refine' anyH_take (i := 7) (v := .pointer (some ⟨g, 44, none⟩)) rfl (by kernel_rfl) (by kernel_rfl) (by kernel_rfl) (fun _ _ _ h => h) (Or.inl ⟨by rfl, fun _ _ => by rfl⟩) hS ?_
    simp only [Act.put, List.setIfInBounds_toArray, List.set_cons_zero, List.set_cons_succ]
    refine' anyH_take (i := 8) (v := (few2 m).val) rfl (by kernel_rfl) (by kernel_rfl) (by kernel_rfl) (fun _ _ _ h => h) (yieldsIf_load_run (by rfl) rfl (fun _ h => h.2.2.1)) hS ?_
    simp only [Act.put, List.setIfInBounds_toArray, List.set_cons_zero, List.set_cons_succ]
    refine' anyH_take (i := 9) (v := .slice (some ⟨g, 0, none⟩) 4 4) rfl (by kernel_rfl) (by kernel_rfl) (by kernel_rfl) (fun _ _ _ h => h) (Or.inl ⟨by rfl, fun _ _ => by rfl⟩) hS ?_
    simp only [Act.put, List.setIfInBounds_toArray, List.set_cons_zero, List.set_cons_succ]
    refine' anyH_take (i := 10) (v := .pointer (some ⟨g, 66, none⟩)) rfl (by kernel_rfl) (by kernel_rfl) (by kernel_rfl) (fun _ _ _ h => h) (Or.inl ⟨by rfl, fun _ _ => by rfl⟩) hS ?_
    simp only [Act.put, List.setIfInBounds_toArray, List.set_cons_zero, List.set_cons_succ]
    refine' anyH_take (i := 11) (v := (few3 m).val) rfl (by kernel_rfl) (by kernel_rfl) (by kernel_rfl) (fun _ _ _ h => h) (yieldsIf_load_run (by rfl) rfl (fun _ h => h.2.2.2.1)) hS ?_
    simp only [Act.put, List.setIfInBounds_toArray, List.set_cons_zero, List.set_cons_succ]
    refine' anyH_take (i := 12) (v := (com m q).val) rfl (by kernel_rfl) (by kernel_rfl) (by kernel_rfl) (fun _ _ _ h => h) (yieldsIf_load_run (by rfl) rfl (fun _ h => h.2.2.2.2)) hS ?_
    simp only [Act.put, List.setIfInBounds_toArray, List.set_cons_zero, List.set_cons_succ]
    refine wpAnyH_ready (rs := [13]) (by kernel_rfl) (by simp) (anyH_cons rfl (fun K hK => ?_) AllReadyH.nil)
    refine ready_value (v := .slice (some ⟨wd9.heap.size, 0, none⟩) 5 5) (w' := wd9.alloc (.cells (evsCells [few0, few1, (few2 m), (few3 m), (com m q)]).toArray 40)) (by rfl) (Eq.trans (by kernel_rfl) (op_v (build5 few0 few1 (few2 m) (few3 m) (com m q) wd9))) ?_
    simp only [Act.put, List.setIfInBounds_toArray, List.set_cons_zero, List.set_cons_succ]
    have HAe9 := Lib.hid (HAd9.out.but ((But.refl (fun _ => False) wd9).alloc (.cells (evsCells [few0, few1, (few2 m), (few3 m), (com m q)]).toArray 40)))
    have HLe9 := Lib.hid (HLd9.out.but ((But.refl (fun _ => False) wd9).alloc (.cells (evsCells [few0, few1, (few2 m), (few3 m), (com m q)]).toArray 40)) (fun f => f))
    have hc9 := Check_any (w := wd9.alloc (.cells (evsCells [few0, few1, (few2 m), (few3 m), (com m q)]).toArray 40)) 0 (by decide) (by decide) (len := 5) (cap := 5) (hist_of_block (Holds.new wd9 _) (HEX9.out _ HAe9.out)) rfl (by decide) (by decide) (by decide)
    rw [few_check3 m q] at hc9
    have C9 := Lib.hid hc9
    clear hc9
    refine hK.out _ _ ⟨loads_block HAe9.out.2.1 0 _ rfl, loads_block HAe9.out.2.1 1 _ rfl, loads_block HAe9.out.2.1 2 _ rfl, loads_block HAe9.out.2.1 3 _ rfl, loads_obj HLe9.out⟩ (fun hS => ?_)
    clear hK K
    refine wpAnyH_ready (rs := [14]) (by kernel_rfl) (by simp) (anyH_cons rfl (fun K hK => ?_) AllReadyH.nil)
    go_simp
    refine C9.out.mono ?_
    rintro e w10 ⟨rfl, b9⟩
    have HAf9 := Lib.hid (HAe9.out.but b9)
    have HLf9 := Lib.hid (HLe9.out.but b9 (fun f => f))
    refine hK.out _ _ ⟨loads_block HAf9.out.2.1 0 _ rfl, loads_block HAf9.out.2.1 1 _ rfl, loads_block HAf9.out.2.1 2 _ rfl, loads_block HAf9.out.2.1 3 _ rfl, loads_obj HLf9.out⟩ (fun hS => ?_)
    clear hK K b9
    refine' anyH_take (i := 15) (v := .tuple #[.int .i64 5, .int .i64 0]) rfl (by kernel_rfl) (by kernel_rfl) (by kernel_rfl) (fun _ _ _ h => h) (Or.inl ⟨by rfl, fun _ _ => by rfl⟩) hS ?_
    simp only [Act.put, List.setIfInBounds_toArray, List.set_cons_zero, List.set_cons_succ]
    refine' anyH_take (i := 16) (v := .int .i64 5) rfl (by kernel_rfl) (by kernel_rfl) (by kernel_rfl) (fun _ _ _ h => h) (Or.inl ⟨by rfl, fun _ _ => by rfl⟩) hS ?_
    simp only [Act.put, List.setIfInBounds_toArray, List.set_cons_zero, List.set_cons_succ]
    refine' anyH_take (i := 17) (v := .int .i64 0) rfl (by kernel_rfl) (by kernel_rfl) (by kernel_rfl) (fun _ _ _ h => h) (Or.inl ⟨by rfl, fun _ _ => by rfl⟩) hS ?_
    simp only [Act.put, List.setIfInBounds_toArray, List.set_cons_zero, List.set_cons_succ]
    refine' anyH_take (i := 18) (v := .int .i64 5) rfl (by kernel_rfl) (by kernel_rfl) (by kernel_rfl) (fun _ _ _ h => h) (Or.inl ⟨by rfl, fun _ _ => by rfl⟩) hS ?_
    simp only [Act.put, List.setIfInBounds_toArray, List.set_cons_zero, List.set_cons_succ]
    refine' anyH_take (i := 19) (v := .int .i64 0) rfl (by kernel_rfl) (by kernel_rfl) (by kernel_rfl) (fun _ _ _ h => h) (Or.inl ⟨by rfl, fun _ _ => by rfl⟩) hS ?_
    simp only [Act.put, List.setIfInBounds_toArray, List.set_cons_zero, List.set_cons_succ]
    refine wpAnyH_done (by kernel_rfl) ?_ _
    clear hS HAd9 HAe9 HLd9 HLe9 C9 HEX9
    have hH : ∀ (W : World), AliveAt w g m w2.heap.size p q W → HistAt W (some ⟨g, 0, none⟩) [few0, few1, few2 m, few3 m] := fun W h => hist_of_block h.2.1 (fun x hx => by
      simp only [List.mem_cons, List.not_mem_nil, or_false] at hx
      rcases hx with rfl | rfl | rfl | rfl
      · exact ok_few0 _
      · exact ok_few1 _
      · exact ok_few2 h.2.2.1
      · exact ok_few3 h.2.2.1)
    have ho := Outcome_any (w := w10) ⟨0, 1, 1⟩ (len := 4) (cap := 4) (hH _ HAf9.out) rfl (by decide) (by decide)
    rw [outCommit, few_out] at ho
    have CO := Lib.hid ho
    have HHI := Lib.hid hH
    have t0 := cells_cell HAf9.out.2.2.2.1 0
    have t1 := cells_cell HAf9.out.2.2.2.1 1
    have t2 := cells_cell HAf9.out.2.2.2.1 2
    clear ho hH HAf8 HLf8 HL9 HLf9 HL8 HA8
    go_wp2_with fail
    refine CO.out.mono ?_
    rintro e w11 ⟨rfl, b11⟩
    have HA11 := Lib.hid (HAf9.out.but b11)
    have hb := Begun_any (w := w11) (len := 4) (cap := 4) (HHI.out _ HA11.out) rfl (by decide) (by decide) (by decide)
    rw [few_begun] at hb
    have CB := Lib.hid hb
    clear hb CO HHI b11 t0 t1 t2 HAf9
    go_wp2_with fail
    refine CB.out.mono ?_
    rintro e w12 ⟨A12, n12, c12, rfl, ht12, b12⟩
    obtain rfl : n12 = 1 := ht12.1.symm
    have HB12 := Lib.hid (HA11.out.1.trans b12)
    clear CB ht12 b12 HA11
    go_wp2
    go_ret
    exact ⟨rfl, HB12.out⟩
end Go.Proofs.Ytmaihiajgjijhaa
