/- A net: Seen. -/
import Derived.Test.YtimhejjdgncdaaaNet6
import Derived.Test.YtimhejjdgncdaaaRound
namespace Go.Proofs.Ytimhejjdgncdaaa
open Go.RowKit Go.Shelf
set_option linter.unusedVariables false
set_option linter.unusedSimpArgs false
attribute [local go_sem] Oper.semAt_some

theorem that_fin (n : Nat) (hn : 1 ≤ n) (bq : Nat → Prop) (B1 B2 g F : Nat) (lb : Array Value) (A : Option Addr) (len cap : Nat) (ps : List PostV) (f : Nat → PostV → Bool) (hlen : ps.length = len) (hc1 : cap ≤ 9223372036854775807) (hlc : len ≤ cap) (w : World)
    (heg : ∀ args w, (callFunc F args).run Try.prog w = .ok (.enter F args) w) {K : World → Prop} (hK : ∀ V V', K V → But bq V V' → K V') (hK0 : ∀ V, But (fun k => w.heap.size ≤ k) w V → K V)
    (hF : ∀ k p V, ps[k]? = some p → K V → Calls Try.prog F (#[.int .i64 (k : Nat), p.val] ++ lb) V fun e V' => e = .returned (.bool (f k p)) ∧ But (fun _ => False) V V')
    (hb1 : ¬ bq B1) (hb2 : ¬ bq B2) (hbg : ¬ bq g) (h1 : w.cell? ⟨B1, 0, none⟩ = some (.pointer (some ⟨g, 0, none⟩))) (h2 : w.cell? ⟨B2, 0, none⟩ = some (.func (.func F) #[] lb)) (h3 : w.cell? ⟨g, 0, none⟩ = some (.slice A len cap)) (hE : PostsAt bq w A ps) :
    SeqO n Try.prog 28 #[.pointer (some ⟨B1, 0, none⟩), .pointer (some ⟨B2, 0, none⟩)] (fun x : Fin len => #[.int .i64 (x.1 : Nat)]) bq (fun _ => True) (fun ys => ys.map Fin.val = nums f ps len) (fun _ => True) len w := fun l J Jx W hW hqs hJ hJx hY h0 => by
  have hB : But (fun k => w.heap.size ≤ k) w W := But.of_below hW
  have l1 := cellLt' h1
  have l2 := cellLt' h2
  have l3 := cellLt' h3
  refine CallsIn.mono (that1_in n hn bq l B1 B2 g F lb A len cap ps f hlen hc1 hlc (fun l W => ∃ lf : List (Fin len), lf.map Fin.val = l ∧ J lf W) (fun l W => ∃ lf : List (Fin len), lf.map Fin.val = l ∧ Jx lf W) W ?_ heg hK (hK0 W hB) hF ?_ hb1 hb2 hbg (hB.cell h1 (by omega)) (hB.cell h2 (by omega)) (hB.cell h3 (by omega)) (fun i x hi => ?_) ⟨[], rfl, h0⟩) ?_
  · rintro pre x W1 hx ⟨lf, rfl, hj⟩ hl
    obtain ⟨fn, tmps, assign, body, hy, hR⟩ := hY lf ⟨x, hx⟩ W1 hj (by simpa using hl)
    exact ⟨fn, tmps, assign, body, hy, hR.mono fun e W' h => h.imp (fun ⟨a, b, c⟩ => ⟨a, ⟨_, by simp, b⟩, c⟩) (fun ⟨a, b, c⟩ => ⟨a, ⟨_, by simp, b⟩, c⟩)⟩
  · rintro s X Y row ⟨lf, e, hj⟩ hg hr
    exact ⟨lf, e, hJ lf X Y row hj hg hr⟩
  · obtain ⟨gp, hA, hg, c0, c1, c2⟩ := hE i x hi
    have l4 := cellLt' c0
    exact ⟨gp, hA, hg, hB.cell c0 (by omega), hB.cell c1 (by omega), hB.cell c2 (by omega)⟩
  · rintro e W' ⟨hv, (⟨ys, rfl, lf, he, hj⟩ | ⟨pre, _, lf, he, hj⟩)⟩
    · exact ⟨hv, .inl ⟨lf, he, hj⟩⟩
    · exact ⟨hv, .inr ⟨lf, trivial, hj⟩⟩
/-- What Seen's test reads. -/
def SeenK (bn g fg : Nat) (fst : List (ByteArray × Int)) (V : World) : Prop := V.cell? ⟨bn, 0, none⟩ = some (.pointer (some ⟨g, 0, none⟩)) ∧ V.cell? ⟨g, 3, none⟩ = some (.map (some fg)) ∧ Holds V fg (objIn strV fst)
theorem SeenK.but {bn g fg : Nat} {fst : List (ByteArray × Int)} {V V' : World} {p : Nat → Prop} (h : SeenK bn g fg fst V) (k : But p V V') (h1 : ¬ p bn) (h2 : ¬ p g) (h3 : ¬ p fg) : SeenK bn g fg fst V' := ⟨k.cell h.1 h1, k.cell h.2.1 h2, h.2.2.but k h3⟩
set_option maxHeartbeats 1000000 in
theorem Seen1_any (k : Int) (p : PostV) (bn g fg : Nat) (fst : List (ByteArray × Int)) (V : World) (h : SeenK bn g fg fst V) :
    Calls Try.prog 23 (#[.int .i64 k, p.val] ++ #[.pointer (some ⟨bn, 0, none⟩)]) V fun e V' => e = .returned (.bool (valIn p.env fst == k)) ∧ But (fun _ => False) V V' := by
  have hbb := Lib.hid ((But.refl (fun _ => False) V).alloc p.obj).drew
  have hoe : Obj.cells #[Value.int .i64 p.fr, .int .i64 p.to, .string p.env] 23 = p.obj := rfl
  have lk2 : ∀ W, Holds W fg (objIn strV fst) → (Instr.lookup 47 (.map (some fg)) (.string p.env) false).run Try.prog W = .ok (.int .i64 (valIn p.env fst)) W := fun W h => run_lookup Try.underlying47 zero_int keys_str h p.env false
  have hS0 : Gated (fun W => Holds W V.heap.size p.obj ∧ SeenK bn g fg fst W) [] (Array.replicate 10 false) (V.alloc p.obj).drew := ⟨⟨Holds.new V p.obj, SeenK.but (p := fun _ => False) h ((But.refl (fun _ => False) V).alloc p.obj).drew (fun f => f) (fun f => f) (fun f => f)⟩, fun x hx => by cases hx⟩
  have HS0 := Lib.hid hS0
  clear h hS0
  unfold PostV.val PostV.arr PostV.cells
  simp only [List.append_toArray, List.cons_append, List.nil_append]
  go_enter Try.func23, Try.ntmps23
  go_upto_region 1 with fail
  refine anyL_region (S := Gated (fun W => Holds W V.heap.size p.obj ∧ SeenK bn g fg fst W) []) (by kernel_rfl) ?_
  have hS := HS0.out
  clear HS0
  obtain ⟨w9, hw9⟩ : ∃ wd, (V.alloc p.obj).drew = wd := ⟨_, rfl⟩
  rw [hw9] at hbb hS ⊢
  clear hw9
  simp only [List.size_toArray, List.length_cons, List.length_nil]
  refine' anyL_take [] (i := 0) (v := (.pointer (some ⟨g, 0, none⟩))) rfl (by kernel_rfl) (by kernel_rfl) (by kernel_rfl) (by kernel_rfl) (by kernel_rfl) (fun _ _ _ h => h) (yieldsIf_load_run (by rfl) rfl (fun _ h => ld_cell h.1.2.1 Try.underlying26 rfl)) hS ?_
  simp only [Act.put, List.setIfInBounds_toArray, List.set_cons_zero, List.set_cons_succ]
  clear hS
  intro hS
  refine' anyL_take [] (i := 1) (v := (.pointer (some ⟨g, 0, none⟩))) rfl (by kernel_rfl) (by kernel_rfl) (by kernel_rfl) (by kernel_rfl) (by kernel_rfl) (fun _ _ _ h => h) (Or.inl ⟨by rfl, fun _ _ => by rfl⟩) hS ?_
  simp only [Act.put, List.setIfInBounds_toArray, List.set_cons_zero, List.set_cons_succ]
  clear hS
  intro hS
  refine' anyL_take [] (i := 2) (v := (.pointer (some ⟨g, 3, none⟩))) rfl (by kernel_rfl) (by kernel_rfl) (by kernel_rfl) (by kernel_rfl) (by kernel_rfl) (fun _ _ _ h => h) (Or.inl ⟨by rfl, fun _ _ => by rfl⟩) hS ?_
  simp only [Act.put, List.setIfInBounds_toArray, List.set_cons_zero, List.set_cons_succ]
  clear hS
  intro hS
  refine' anyL_take [] (i := 3) (v := (.map (some fg))) rfl (by kernel_rfl) (by kernel_rfl) (by kernel_rfl) (by kernel_rfl) (by kernel_rfl) (fun _ _ _ h => h) (yieldsIf_load_run (by rfl) rfl (fun _ h => ld_cell h.1.2.2.1 Try.underlying47 rfl)) hS ?_
  simp only [Act.put, List.setIfInBounds_toArray, List.set_cons_zero, List.set_cons_succ]
  clear hS
  intro hS
  refine' anyL_take [] (i := 4) (v := (.pointer (some ⟨V.heap.size, 2, none⟩))) rfl (by kernel_rfl) (by kernel_rfl) (by kernel_rfl) (by kernel_rfl) (by kernel_rfl) (fun _ _ _ h => h) (Or.inl ⟨by rfl, fun _ _ => by rfl⟩) hS ?_
  simp only [Act.put, List.setIfInBounds_toArray, List.set_cons_zero, List.set_cons_succ]
  clear hS
  intro hS
  refine' anyL_take [] (i := 5) (v := (.string p.env)) rfl (by kernel_rfl) (by kernel_rfl) (by kernel_rfl) (by kernel_rfl) (by kernel_rfl) (fun _ _ _ h => h) (yieldsIf_load_run (by rfl) rfl (fun _ h => ld_cell (h.1.1.cl 2) Try.underlying9 rfl)) hS ?_
  simp only [Act.put, List.setIfInBounds_toArray, List.set_cons_zero, List.set_cons_succ]
  clear hS
  intro hS
  refine' anyL_take [] (i := 6) (v := (.int .i64 (valIn p.env fst))) rfl (by kernel_rfl) (by kernel_rfl) (by kernel_rfl) (by kernel_rfl) (by kernel_rfl) (fun _ _ _ h => h) (Or.inl ⟨by rfl, fun W h => Eq.trans (by kernel_rfl) (op_v (lk2 W h.1.2.2.2))⟩) hS ?_
  simp only [Act.put, List.setIfInBounds_toArray, List.set_cons_zero, List.set_cons_succ]
  clear hS
  intro hS
  refine' anyL_take [] (i := 7) (v := (.int .i64 k)) rfl (by kernel_rfl) (by kernel_rfl) (by kernel_rfl) (by kernel_rfl) (by kernel_rfl) (fun _ _ _ h => h) (Or.inl ⟨by rfl, fun _ _ => by rfl⟩) hS ?_
  simp only [Act.put, List.setIfInBounds_toArray, List.set_cons_zero, List.set_cons_succ]
  clear hS
  intro hS
  refine' anyL_take [] (i := 8) (v := (.bool (valIn p.env fst == k))) rfl (by kernel_rfl) (by kernel_rfl) (by kernel_rfl) (by kernel_rfl) (by kernel_rfl) (fun _ _ _ h => h) (Or.inl ⟨by rfl, fun _ _ => by go_simp⟩) hS ?_
  simp only [Act.put, List.setIfInBounds_toArray, List.set_cons_zero, List.set_cons_succ]
  clear hS
  intro hS
  refine' anyL_take [] (i := 9) (v := (.bool (valIn p.env fst == k))) rfl (by kernel_rfl) (by kernel_rfl) (by kernel_rfl) (by kernel_rfl) (by kernel_rfl) (fun _ _ _ h => h) (Or.inl ⟨by rfl, fun _ _ => by rfl⟩) hS ?_
  simp only [Act.put, List.setIfInBounds_toArray, List.set_cons_zero, List.set_cons_succ]
  clear hS
  intro hS
  refine anyL_done (by kernel_rfl) ?_ _
  clear hS lk2
  go_wp2
  go_ret
  exact ⟨rfl, hbb.out⟩
end Go.Proofs.Ytimhejjdgncdaaa
