/- A net: To. -/
import Derived.Test.YtimhejjdgncdaaaNet5
import Derived.Maps.AppendAt
import Derived.OneCell
import Derived.RangeFuncBox
import Derived.Deep.Onto
namespace Go.Proofs.Ytimhejjdgncdaaa
open Go.RowKit Go.Shelf
set_option linter.unusedVariables false
set_option linter.unusedSimpArgs false
attribute [local go_sem] Oper.semAt_some

theorem that_stops (n : Nat) (hn : 1 ≤ n) (bq : Nat → Prop) (B1 B2 g F : Nat) (lb : Array Value) (A : Option Addr) (len cap : Nat) (ps : List PostV) (f : Nat → PostV → Bool) (hlen : ps.length = len) (hc1 : cap ≤ 9223372036854775807) (hlc : len ≤ cap) (w : World)
    (heg : ∀ args w, (callFunc F args).run Try.prog w = .ok (.enter F args) w) {K : World → Prop} (hK : ∀ V V', K V → But bq V V' → K V') (hK0 : ∀ V, But (fun k => w.heap.size ≤ k) w V → K V)
    (hF : ∀ k p V, ps[k]? = some p → K V → Calls Try.prog F (#[.int .i64 (k : Nat), p.val] ++ lb) V fun e V' => e = .returned (.bool (f k p)) ∧ But (fun _ => False) V V')
    (hb1 : ¬ bq B1) (hb2 : ¬ bq B2) (hbg : ¬ bq g) (h1 : w.cell? ⟨B1, 0, none⟩ = some (.pointer (some ⟨g, 0, none⟩))) (h2 : w.cell? ⟨B2, 0, none⟩ = some (.func (.func F) #[] lb)) (h3 : w.cell? ⟨g, 0, none⟩ = some (.slice A len cap)) (hE : PostsAt bq w A ps) :
    SeqO n Try.prog 28 #[.pointer (some ⟨B1, 0, none⟩), .pointer (some ⟨B2, 0, none⟩)] (fun x : Nat => #[.int .i64 x]) bq (fun _ => True) (fun ys => ys = nums f ps len) (fun pre => pre <+: nums f ps len) len w := fun l J Jx W hW hqs hJ hJx hY h0 => by
  have hB : But (fun k => w.heap.size ≤ k) w W := But.of_below hW
  have l1 := cellLt' h1
  have l2 := cellLt' h2
  have l3 := cellLt' h3
  refine that1_in n hn bq l B1 B2 g F lb A len cap ps f hlen hc1 hlc J Jx W (fun pre x W1 _ => hY pre x W1) heg hK (hK0 W hB) hF hJ hb1 hb2 hbg (hB.cell h1 (by omega)) (hB.cell h2 (by omega)) (hB.cell h3 (by omega)) (fun i x hi => ?_) h0
  obtain ⟨gp, hA, hg, c0, c1, c2⟩ := hE i x hi
  have l4 := cellLt' c0
  exact ⟨gp, hA, hg, hB.cell c0 (by omega), hB.cell c1 (by omega), hB.cell c2 (by omega)⟩
theorem To1_any (k : Int) (p : PostV) (bx : Nat) (org : Int) (V : World) (h : V.cell? ⟨bx, 0, none⟩ = some (.int .i64 org)) :
    Calls Try.prog 25 (#[.int .i64 k, p.val] ++ #[.pointer (some ⟨bx, 0, none⟩)]) V fun e V' => e = .returned (.bool (p.to == org)) ∧ But (fun _ => False) V V' := by
  have b0 := Holds.new V p.obj
  have bb := Lib.hid ((But.refl (fun _ => False) V).alloc p.obj)
  have hoe : Obj.cells #[Value.int .i64 p.fr, .int .i64 p.to, .string p.env] 23 = p.obj := rfl
  have q1 : (V.alloc p.obj).cell? ⟨V.heap.size, 1, none⟩ = some (.int .i64 p.to) := b0.cl 1
  have a1 : (V.alloc p.obj).cell? ⟨bx, 0, none⟩ = _ := cell_al _ h
  clear b0
  unfold PostV.val PostV.arr PostV.cells
  simp only [List.append_toArray, List.cons_append, List.nil_append]
  go_enter Try.func25, Try.ntmps25
  go_wp2
  go_ret
  exact ⟨rfl, bb.out⟩
def natsOf (l : List Nat) : List Value := l.map fun k => .int .i64 (k : Nat)
/-- So far. -/
def NumsAt (B0 base : Nat) (pre : List Nat) (W : World) : Prop := ∃ v, Holds W B0 (.cells #[v] 41) ∧ W.ownsRow base 3 1 v pre.length (natsOf pre)
theorem NumsAt.own {B0 base B : Nat} (h : B0 < B) : OwnFrom B (NumsAt B0 base) := fun s X Y row hs hg hr => by
  obtain ⟨v, k1, k2⟩ := hs
  refine ⟨v, (ownFrom_lies (fun _ : Unit => True) _ (fun _ => _) h () X Y row ⟨trivial, k1⟩ hg hr).2, ?_⟩
  refine k2.kept hg ?_
  cases hv : v.ownBlock with
  | none => exact .inl rfl
  | some g =>
    refine .inr (fun e => ?_)
    obtain ⟨_, o, ho, hc⟩ := hr g e.symm
    rcases k2.2 with ⟨rfl, _⟩ | ⟨g', cap, cur, rfl, _, hh, _⟩
    · cases hv
    · cases hv
      rw [hh] at ho; cases ho; cases hc
theorem infoInt : (Try.prog.info? 3).map (fun i => (i.zero, i.size, i.bytes)) = some (some (.int .i64 0), 1, 8) := by kernel_rfl
theorem NetAt.postsAt {w : World} {g : Nat} {B : NetB} {s : NetV} (h : NetAt w g B s) {A : Option Addr} {c : Nat} (ev : B.vp = .slice A s.ps.length c) {q : Nat → Prop} (hq : ∀ i, q i → w.heap.size ≤ i) : PostsAt q w A s.ps := fun i x hi => by
  obtain ⟨gp, cap, ev', h1, h2, c0, c1, c2⟩ := h.post i x hi
  rw [ev] at ev'
  cases ev'
  exact ⟨gp, rfl, fun f => by have := hq _ f; have := cellLt' c0; omega, c0, c1, c2⟩
set_option maxRecDepth 100000 in
set_option maxHeartbeats 2000000 in
theorem To_any {w : World} {g : Nat} {B : NetB} {s : NetV} (h : NetAt w g B s) (org : Int) :
    Calls Try.prog 16 #[.pointer (some ⟨g, 0, none⟩), .int .i64 org] w fun e w' => ∃ v, e = .returned v ∧ w'.ownsRow w.heap.size 3 1 v (nums (fun _ p => p.to == org) s.ps s.ps.length).length (natsOf (nums (fun _ p => p.to == org) s.ps s.ps.length)) ∧ But (fun _ => False) w w' := by
  have hmf := hmakeFunc
  obtain ⟨i0, hi, hz0, hz1, hz2⟩ := info_parts infoInt
  refine (callsIn_wide (n := 8)).1 ?_
  refine callsIn_of_wp_marks Try.func16 rfl trivial ?_ rfl
  simp only [Try.ntmps16, List.size_toArray, List.length_cons, List.length_nil, Nat.reduceAdd, Nat.reduceSub, Array.replicate_succ, Array.replicate_zero, List.push_toArray, List.append_toArray, List.nil_append, List.cons_append]
  have ho0 := Holds.n20 w (.cells #[.int .i64 org] 3) (.cells #[.slice none 0 0] 41)
  have hh0 := Holds.n21 w (.cells #[.int .i64 org] 3) (.cells #[.slice none 0 0] 41)
  have hbb : But (fun _ => False) w ((w.alloc (.cells #[.int .i64 org] 3)).alloc (.cells #[.slice none 0 0] 41)) := ((But.refl _ w).alloc _).alloc _
  gi_wp2_with (refine ⟨trivial, ?_⟩; gi_at_call 22; refine (callsIn_wide.2 (that_any _ _ _ _)).mono ?_; rintro e W0 ⟨B1, B2, rfl, b0, g1, g2, k1, k2⟩)
  replace ho0 := ho0.but b0 (fun f => f)
  replace hh0 := hh0.but b0 (fun f => f)
  have hb0 := hbb.trans b0
  clear b0 hbb
  simp only [World.size_alloc] at g1 g2
  have HE0 := h.but hb0 (fun _ _ f => f)
  have hglt := h.box.lt
  have hplt := h.lt
  clear h
  obtain ⟨A, c, ev, hlc, hc1⟩ := row_val HE0.ps
  have h3 : W0.cell? ⟨g, 0, none⟩ = some B.vp := HE0.cell 0 _ rfl
  rw [ev] at h3
  have hlen4 := HE0.len
  have l1 := k1.lt
  have l2 := k2.lt
  have l0 := hh0.lt
  have l5 := ho0.lt
  have hq : ∀ k, (k = w.heap.size + 1 ∨ W0.heap.size + 2 ≤ k) → k ≠ W0.heap.size ∧ k ≠ W0.heap.size + 1 := fun k h => by omega
  have hPA : PostsAt (fun k => (k = w.heap.size + 1 ∨ W0.heap.size + 2 ≤ k) ∨ k = W0.heap.size ∨ k = W0.heap.size + 1) W0 A s.ps := fun i x hi => by
    obtain ⟨gp, cap, ev', _, _, c0, c1, c2⟩ := HE0.post i x hi
    rw [ev] at ev'
    cases ev'
    have := hplt gp (.inr (.inr (.inr (.inl (by rw [ev]; rfl)))))
    exact ⟨gp, rfl, by omega, c0, c1, c2⟩
  have hS := that_stops 7 (by omega) (fun k => (k = w.heap.size + 1 ∨ W0.heap.size + 2 ≤ k) ∨ k = W0.heap.size ∨ k = W0.heap.size + 1) B1 B2 g 25 #[.pointer (some ⟨w.heap.size, 0, none⟩)] A s.ps.length c s.ps (fun _ p => p.to == org) rfl hc1 hlc W0
    (enters_of Try.func25 (by kernel_rfl) rfl) (K := fun V => V.cell? ⟨w.heap.size, 0, none⟩ = some (.int .i64 org)) (fun V V' hV k => k.cell hV (by omega)) (fun V k => k.cell (ho0.cl 0) (by omega))
    (fun k p V _ hV => To1_any k p _ org V hV) (by omega) (by omega) (by omega) k1.box.1 k2.box.1 h3 hPA
  refine range_kept (by omega) (gf := 28) (lb := #[.pointer (some ⟨B1, 0, none⟩), .pointer (some ⟨B2, 0, none⟩)]) rfl (enters_of Try.func28 (by kernel_rfl) rfl) hq (fun _ _ => trivial) hS (fun _ => rfl)
    (fun pre W => (NumsAt (w.heap.size + 1) (W0.heap.size + 2) pre W ∧ But (fun k => k = w.heap.size + 1) W0 W))
    (fun c pre W => False)
    (OwnFrom.and (NumsAt.own l0) (ownFrom_but (Nat.le_refl _))) (fun c s X Y row hs _ _ => hs)
    ⟨⟨_, hh0, World.ownsRow_nil _ _ _ _⟩, But.refl _ _⟩ ?round ?done ?stop
  case round =>
    rintro l2 pre x Wr ⟨hp, hk⟩ hlt
    gi_wp2
    refine ⟨But.refl _ _, ?_⟩
    rintro W2 hb2 hcells ⟨⟨v, hv, hrow⟩, hk2⟩
    have hbig : W0.heap.size + 2 ≤ Wr.heap.size := hlt.2
    have hb3 : But (fun k => k = w.heap.size + 1) W0 W2 := hk2
    have hbig2 : W0.heap.size + 2 ≤ W2.heap.size := by have := hb2.size; omega
    clear hb2 hcells
    have kb := hv.box
    have hlv := hv.lt
    have hvb : some (w.heap.size + 1) ≠ v.ownBlock := fun e => by have := (hrow.lt _ e.symm).1; omega
    have hpre : pre.length < s.ps.length := hlt.1
    have HR := hrow.alloc (.cells #[.int .i64 (x : Nat)] 3)
    have HV := Lib.hid (hv.alloc (.cells #[.int .i64 (x : Nat)] 3))
    have HN := Holds.new W2 (.cells #[.int .i64 (x : Nat)] 3)
    have HK := Lib.hid hb3
    have hc3 : ∀ j u, [Value.int .i64 (x : Nat)][j]? = some u → (W2.alloc (.cells #[.int .i64 (x : Nat)] 3)).cell? ((⟨W2.heap.size, 0, none⟩ : Addr).add j) = some u := fun j u hj => by
      rw [addP, Nat.zero_add, cellOf (show _ = some (Obj.cells _ _ _) from HN)]; simpa using hj
    have HC3 := Lib.hid hc3
    have HHR := Lib.hid HR
    have HMX := Lib.hid (show (4097 : Nat) ≤ maxLen from by decide)
    clear hrow hk hk2 hb3 hp HR hc3 HN hv
    gi_wp2_with (gi_at_builtin; refine wpListIn_append_own _ rfl _ _ 41 rfl (W0.heap.size + 2) 3 i0 (.int .i64 0) 1 8 Try.underlying41 hi hz0 hz1 hz2 rfl (by decide) _ _ _ rfl HHR.out ⟨W2.heap.size, 0, none⟩ 1 1 [.int .i64 (x : Nat)] rfl rfl HC3.out (by simp [Value.oneCell']) (by have := HMX.out; omega) (by omega) (by simp; omega) ?_; intro v' w1 hown' hgrow _; obtain ⟨g', cap', rfl⟩ := ownsRow_succ hown'; have kv := (show Holds w1 (w.heap.size + 1) _ from (hgrow.block _ HV.out.lt hvb).trans HV.out); have kb9 := kv.box)
    have hg' := hown'.lt g' rfl
    have bb : But (fun k => k = w.heap.size + 1 ∨ W0.heap.size + 2 ≤ k) W2 w1 := ((But.refl (fun k => k = w.heap.size + 1 ∨ W0.heap.size + 2 ≤ k) W2).alloc _).then_ (But.of_grown hgrow) (fun i hi => .inl (.inr (HHR.out.lt i hi).1))
    have bb2 : But (fun k => k = w.heap.size + 1 ∨ W0.heap.size + 2 ≤ k) W2 (w1.setCell ⟨w.heap.size + 1, 0, none⟩ (.slice (some ⟨g', 0, none⟩) (pre.length + 1) cap')) := bb.setCell (a := ⟨w.heap.size + 1, 0, none⟩) (.inl (.inl rfl)) _
    refine ⟨bb2, ⟨_, kv.set _, ?_⟩, HK.out.then_ bb2 (fun i hi => by rcases hi with h | h; exact .inl h; exact .inr (by omega))⟩
    have := ownsRow_setCell_other hown' (a := ⟨w.heap.size + 1, 0, none⟩) (by simp [Value.ownBlock]; omega) (.slice (some ⟨g', 0, none⟩) (pre.length + 1) cap')
    rw [show natsOf (pre ++ [x]) = natsOf pre ++ [.int .i64 (x : Nat)] by simp [natsOf], List.length_append]
    exact this
  case done =>
    rintro D xs W hD rfl ⟨⟨v, hv, hrow⟩, hk⟩ hK
    obtain ⟨A', c', rfl, hT⟩ := row_val hrow
    have kb := hv.box
    have HB := Lib.hid (hb0.none hk (fun k e => by omega))
    have HRW := Lib.hid hrow
    have HV := Lib.hid hv
    have HK := Lib.hid hK
    clear hrow hv hK hk hT
    gi_wp2
    have hKD := blkFar (a := ⟨w.heap.size + 1, 0, none⟩) HK.out (show D ≠ w.heap.size + 1 by omega) (.slice A' (nums (fun _ p => p.to == org) s.ps s.ps.length).length c')
    refine ⟨by simp, .inl ⟨_, _, rfl, run_takeDeferred hKD, ?_⟩⟩
    have r2 := ownsRow_putObj (ownsRow_setCell_other HRW.out (a := ⟨w.heap.size + 1, 0, none⟩) (fun e => by have := (HRW.out.lt (w.heap.size + 1) e).1; omega) (.slice A' (nums (fun _ p => p.to == org) s.ps s.ps.length).length c')) (.deferred none) hKD rfl
    refine ⟨_, results_cell1 rfl _ _ (w.heap.size + 1) _ _ rfl ((cell_putObj _ 0 (by omega)).trans (HV.out.set _).box.1) Try.underlying41 rfl, ?_⟩
    have hle : w.heap.size ≤ W0.heap.size + 2 := by omega
    exact ⟨_, rfl, World.ownsRow.mono r2 hle, (HB.out.setCell (a := ⟨w.heap.size + 1, 0, none⟩) (.inr (by simp)) _).putObj _ (by omega)⟩
  case stop =>
    rintro D c pre W hD hpre hf hK
    exact hf.elim
end Go.Proofs.Ytimhejjdgncdaaa
