/- A net: Get, Times, List. -/
import Derived.Test.YtimhejjdgncdaaaNet1
import Derived.Test.YtimhejjdgncdaaaVal
namespace Go.Proofs.Ytimhejjdgncdaaa
open Go.RowKit
set_option linter.unusedVariables false
set_option linter.unusedSimpArgs false

def zeroP : PostV := ⟨0, 0, ByteArray.empty⟩
def NetV.get (s : NetV) (k : Int) : PostV × Bool := if 0 ≤ k ∧ k < s.ps.length then (s.ps.getD k.toNat zeroP, true) else (zeroP, false)
def NetV.time (s : NetV) (k : Int) : Int := if 0 ≤ k ∧ k < s.ps.length then s.ts.getD k.toNat 0 else 0
theorem cellsOf_get : ∀ (l : List PostV) (k j : Nat) (p : PostV) (u : Value), l[k]? = some p → p.cells[j]? = some u → (cellsOf l)[k * 3 + j]? = some u
  | [], _, _, _, _, h, _ => by simp at h
  | q :: r, 0, j, p, u, h, hj => by
    simp at h; subst h
    have : j < q.cells.length := (List.getElem?_eq_some_iff.1 hj).1
    simp only [cellsOf, List.flatMap_cons, Nat.zero_mul, Nat.zero_add]
    rw [List.getElem?_append_left this]; exact hj
  | q :: r, k + 1, j, p, u, h, hj => by
    have := cellsOf_get r k j p u (by simpa using h) hj
    simp only [cellsOf, List.flatMap_cons] at this ⊢
    have h3 : q.cells.length = 3 := rfl
    rw [List.getElem?_append_right (by rw [h3]; omega), h3, show (k + 1) * 3 + j - 3 = k * 3 + j by omega]
    exact this
theorem cellsOf_length : ∀ l : List PostV, (cellsOf l).length = l.length * 3
  | [] => rfl
  | q :: r => by
    have := cellsOf_length r
    simp only [cellsOf, List.flatMap_cons, List.length_append, List.length_cons] at this ⊢
    rw [this, show q.cells.length = 3 from rfl]; omega
theorem NetAt.post {w : World} {g : Nat} {B : NetB} {s : NetV} (h : NetAt w g B s) (k : Nat) (p : PostV) (hk : s.ps[k]? = some p) :
    ∃ gp cap, B.vp = .slice (some ⟨gp, 0, none⟩) s.ps.length cap ∧ s.ps.length ≤ cap ∧ cap ≤ 9223372036854775807 ∧ w.cell? ⟨gp, k * 3, none⟩ = some (.int .i64 p.fr) ∧ w.cell? ⟨gp, k * 3 + 1, none⟩ = some (.int .i64 p.to) ∧ w.cell? ⟨gp, k * 3 + 2, none⟩ = some (.string p.env) := by
  have hkl : k < s.ps.length := (List.getElem?_eq_some_iff.1 hk).1
  have hP := h.ps
  rcases hP.2 with ⟨_, hn⟩ | ⟨gp, cap, cur, ev, _, hb, h1, h2, _, _⟩
  · omega
  · rw [ev] at hP
    have hc := fun j (hj : j < 3) => hP.cellAt (k * 3 + j) (by omega)
    refine ⟨gp, cap, ev, h1, by unfold maxLen at h2; omega, ?_, ?_, ?_⟩
    · have := hc 0 (by omega); rw [Nat.add_zero] at this; rw [this, ← Nat.add_zero (k * 3)]; exact cellsOf_get _ k 0 p _ hk rfl
    · rw [hc 1 (by omega)]; exact cellsOf_get _ k 1 p _ hk rfl
    · rw [hc 2 (by omega)]; exact cellsOf_get _ k 2 p _ hk rfl
theorem NetAt.time {w : World} {g : Nat} {B : NetB} {s : NetV} (h : NetAt w g B s) (k : Nat) (t : Int) (hk : s.ts[k]? = some t) :
    ∃ gp cap, B.vt = .slice (some ⟨gp, 0, none⟩) s.ps.length cap ∧ s.ps.length ≤ cap ∧ cap ≤ 9223372036854775807 ∧ w.cell? ⟨gp, k, none⟩ = some (.int .i64 t) := by
  have hkl : k < s.ps.length := by rw [← h.tl]; exact (List.getElem?_eq_some_iff.1 hk).1
  have hP := h.ts
  rcases hP.2 with ⟨_, hn⟩ | ⟨gp, cap, cur, ev, _, hb, h1, h2, _, _⟩
  · omega
  · rw [ev] at hP
    refine ⟨gp, cap, ev, h1, by unfold maxLen at h2; omega, ?_⟩
    rw [hP.cellAt k (by omega)]
    simp [intsOf, hk]
theorem cell_al {w : World} {a : Addr} {v : Value} (o : Obj) (h : w.cell? a = some v) : (w.alloc o).cell? a = some v := (World.cell?_alloc_lt _ _ _ (World.block_lt_of_cell? w a h)).trans h
theorem results_row_tmp {P : Program} {fn : Func} {p q : Tmp} {ty : TypeId} (h : fn.results = #[.cell p ty, .tmp q]) (tmps : Array Value) (w : World) (a : Addr) (v u : Value)
    (hp : tmps.getD p undef = .pointer (some a)) (hq : tmps.getD q undef = u) (hl : (loadVar ty a).run P w = .ok v w) : (results fn tmps).run P w = .ok (.tuple #[v, u]) w := by
  have hp' : tmps[p]?.getD undef = .pointer (some a) := by simpa using hp
  have hq' : tmps[q]?.getD undef = u := by simpa using hq
  simp [results, h, hp', hq', asAddr, hl]
def zP : Obj := .cells #[.int .i64 0, .int .i64 0, .string ⟨#[]⟩] 23
set_option maxHeartbeats 1000000 in
theorem Get_any {w : World} {g : Nat} {B : NetB} {s : NetV} (h : NetAt w g B s) (k : Int) (hk : -9223372036854775808 ≤ k ∧ k ≤ 9223372036854775807) :
    Calls Try.prog 15 #[.pointer (some ⟨g, 0, none⟩), .int .i64 k] w fun e w' => e = .returned (.tuple #[(s.get k).1.val, .bool (s.get k).2]) ∧ But (fun _ => False) w w' := by
  obtain ⟨A, c, ev, h1, h2⟩ := row_val h.ps
  have c0 : w.cell? ⟨g, 0, none⟩ = some B.vp := h.cell 0 _ rfl
  by_cases h0 : 0 ≤ k
  · obtain ⟨n, rfl⟩ := Int.eq_ofNat_of_zero_le h0
    have hneg : decide ((n : Int) < 0) = false := decide_eq_false (by omega)
    by_cases hn : n < s.ps.length
    · obtain ⟨p, hp⟩ : ∃ p, s.ps[n]? = some p := ⟨_, List.getElem?_eq_getElem hn⟩
      obtain ⟨gp, cap, ev', h3, h4, d0, d1, d2⟩ := h.post n p hp
      have e : s.get n = (p, true) := by unfold NetV.get; rw [if_pos ⟨h0, by omega⟩]; simp [List.getD_eq_getElem?_getD, hp]
      rw [e]
      rw [ev'] at c0
      clear h ev e hp ev' h1 h2
      have hge : decide ((s.ps.length : Int) ≤ (n : Int)) = false := decide_eq_false (by omega)
      generalize s.ps.length = m at *
      have a0 : (w.alloc zP).cell? _ = _ := cell_al _ c0
      have b0 : (w.alloc zP).cell? _ = _ := cell_al _ d0
      have b1 : (w.alloc zP).cell? _ = _ := cell_al _ d1
      have b2 : (w.alloc zP).cell? _ = _ := cell_al _ d2
      unfold zP at a0 b0 b1 b2
      go_enter Try.func15, Try.ntmps15
      go_wp2
      refine bodyPost_ret (results_row_tmp rfl _ _ ⟨w.heap.size, 0, none⟩ p.val (.bool true) rfl rfl ?_) rfl ⟨rfl, (But.refl _ w).alloc _⟩
      exact run_loadVar_row _ _ _ _ _ _ _ (World.alloc_heap_new w _) Try.underlying23 rfl (by kernel_rfl)
    · have e : s.get n = (zeroP, false) := by unfold NetV.get; rw [if_neg (fun x => hn (by omega))]
      rw [e]
      rw [ev] at c0
      clear h ev e
      have hge : decide ((s.ps.length : Int) ≤ (n : Int)) = true := decide_eq_true (by omega)
      have a0 : (w.alloc zP).cell? _ = _ := cell_al _ c0
      unfold zP at a0
      generalize s.ps.length = m at *
      go_enter Try.func15, Try.ntmps15
      go_wp2
      refine bodyPost_ret (results_row_tmp rfl _ _ ⟨w.heap.size, 0, none⟩ zeroP.val (.bool false) rfl rfl ?_) rfl ⟨rfl, (But.refl _ w).alloc _⟩
      exact run_loadVar_row _ _ _ _ _ _ _ (World.alloc_heap_new w _) Try.underlying23 rfl (by kernel_rfl)
  · have e : s.get k = (zeroP, false) := by unfold NetV.get; rw [if_neg (fun x => h0 x.1)]
    rw [e]
    have hneg : decide (k < 0) = true := decide_eq_true (by omega)
    clear h ev e
    go_enter Try.func15, Try.ntmps15
    go_wp2
    refine bodyPost_ret (results_row_tmp rfl _ _ ⟨w.heap.size, 0, none⟩ zeroP.val (.bool false) rfl rfl ?_) rfl ⟨rfl, (But.refl _ w).alloc _⟩
    exact run_loadVar_row _ _ _ _ _ _ _ (World.alloc_heap_new w _) Try.underlying23 rfl (by kernel_rfl)
set_option maxHeartbeats 1000000 in
theorem Times_any {w : World} {g : Nat} {B : NetB} {s : NetV} (h : NetAt w g B s) (k : Int) (hk : -9223372036854775808 ≤ k ∧ k ≤ 9223372036854775807) :
    Calls Try.prog 10 #[.pointer (some ⟨g, 0, none⟩), .int .i64 k] w fun e w' => e = .returned (.int .i64 (s.time k)) ∧ But (fun _ => False) w w' := by
  have C := Get_any h k hk
  have H := Lib.hid h
  clear h
  by_cases hin : 0 ≤ k ∧ k < s.ps.length
  · obtain ⟨n, rfl⟩ := Int.eq_ofNat_of_zero_le hin.1
    have hn : n < s.ps.length := by omega
    obtain ⟨p, hp⟩ : ∃ p, s.ps[n]? = some p := ⟨_, List.getElem?_eq_getElem hn⟩
    obtain ⟨t, ht⟩ : ∃ t, s.ts[n]? = some t := ⟨_, List.getElem?_eq_getElem (by rw [H.out.tl]; exact hn)⟩
    have e : s.get n = (p, true) := by unfold NetV.get; rw [if_pos hin]; simp [List.getD_eq_getElem?_getD, hp]
    have e2 : s.time n = t := by unfold NetV.time; rw [if_pos hin]; simp [List.getD_eq_getElem?_getD, ht]
    rw [e] at C
    rw [e2]
    clear e e2 hin hp
    have HN := Lib.hid hn
    have HT := Lib.hid ht
    clear hn ht
    simp only [PostV.val, PostV.arr, PostV.cells] at C
    go_enter Try.func10, Try.ntmps10
    have A2 : ∀ w1, But (fun _ => False) w w1 → ∃ gt cap, n < s.ps.length ∧ s.ps.length ≤ cap ∧ cap ≤ 9223372036854775807 ∧ (w1.alloc (.cells #[.int .i64 p.fr, .int .i64 p.to, .string p.env] 23)).cell? ⟨g, 1, none⟩ = some (.slice (some ⟨gt, 0, none⟩) s.ps.length cap) ∧
        (w1.alloc (.cells #[.int .i64 p.fr, .int .i64 p.to, .string p.env] 23)).cell? ⟨gt, n, none⟩ = some (.int .i64 t) := fun w1 b => by
      have hN := H.out.but b (fun _ _ f => f)
      obtain ⟨gt, cap, ev, h3, h4, d0⟩ := hN.time n t HT.out
      have c1 : w1.cell? ⟨g, 1, none⟩ = some B.vt := hN.cell 1 _ rfl
      rw [ev] at c1
      exact ⟨gt, cap, HN.out, h3, h4, cell_al _ c1, cell_al _ d0⟩
    have HA := Lib.hid A2
    clear A2
    go_wp2_with (go_at_call 15; refine C.mono ?_; rintro _ w1 ⟨rfl, b⟩; obtain ⟨gt, cap, i1, i2, i3, a1, a0⟩ := HA.out w1 b; have HB := Lib.hid (But.alloc b (.cells #[.int .i64 p.fr, .int .i64 p.to, .string p.env] 23)); clear b)
    go_ret
    exact ⟨rfl, HB.out⟩
  · have e : s.get k = (zeroP, false) := by unfold NetV.get; rw [if_neg hin]
    have e2 : s.time k = 0 := by unfold NetV.time; rw [if_neg hin]
    rw [e] at C
    rw [e2]
    clear e e2 hin
    simp only [PostV.val, PostV.arr, PostV.cells, zeroP] at C
    go_enter Try.func10, Try.ntmps10
    go_wp2_with (go_at_call 15; refine C.mono ?_; rintro _ w1 ⟨rfl, b⟩; have HB := Lib.hid (But.alloc b (.cells #[.int .i64 0, .int .i64 0, .string ByteArray.empty] 23)); clear b)
    go_ret
    exact ⟨rfl, HB.out⟩
set_option maxHeartbeats 1000000 in
theorem Clone_any {w : World} {A : Option Addr} {n c : Nat} {xs : List Value} (hx : CellsAt w 23 A xs) (hl : xs.length = n * 3) (hm : n ≤ 4096) (h1 : ∀ u ∈ xs, u.oneCell' = true) :
    Calls Try.prog 24 #[.slice A n c] w fun e w' => ∃ v, e = .returned v ∧ w'.ownsRow w.heap.size 23 3 v n xs ∧ But (fun _ => False) w w' := by
  have he : ∀ (A : Option Addr) (w : World), (binOp BinOp.eql 35 (.slice A n c) (.slice none 0 0)).run Try.prog w = .ok (.bool A.isNone) w := fun A w => by
    simp [binOp, Op.equal, Op.maxDepth, Lib.run_equalIn_slice_nil w 9999 35 _ A n c 0 0 Try.underlying35]
  cases A with
  | none =>
    have := hx.none_nil
    subst this
    have : n = 0 := by simp at hl; omega
    subst this
    have he0 := he none
    have h0 := Lib.hid (World.ownsRow_nil w w.heap.size 23 3)
    clear he hx h1 hl hm
    go_enter Try.func24, Try.ntmps24
    go_wp2
    go_ret
    exact ⟨_, rfl, h0.out, But.refl _ _⟩
  | some a =>
    have hR := run_append_src (P := Try.prog) (w.alloc (.cells #[] 23)) w.heap.size 35 35 23 (.agg #[.int .i64 0, .int .i64 0, .string ⟨#[]⟩]) 3 32 Try.underlying35 (by kernel_rfl) rfl (by decide)
      (.slice (some ⟨w.heap.size, 0, none⟩) 0 0) 0 [] (World.ownsRow_made w #[] 0 (Nat.le_refl _) (by decide) rfl) (some a) n c xs hl _ (hx.below (by exact (But.alloc (But.refl _ w) _).none_below)) h1 (by unfold maxLen; omega) (by omega) (by simp)
    obtain ⟨v', w', hr, h3, h4, h5⟩ := hR
    have he0 := he (some a)
    have HF := Lib.hid (show w'.ownsRow w.heap.size 23 3 v' n xs ∧ But (fun _ => False) w w' from ⟨by simpa using h3, (But.alloc (But.refl (fun _ => False) w) _).then_ (But.of_grown h4) (fun i hi => .inr (by simp [Value.ownBlock] at hi; omega))⟩)
    clear he hx h1 hl hm h3 h4 h5
    go_enter Try.func24, Try.ntmps24
    go_wp2_with (at_builtin; go_must (refine wpList_append rfl _ _ _ _ rfl _ _ rfl rfl _ _ hr ?_))
    go_ret
    exact ⟨_, rfl, HF.out.1, HF.out.2⟩
theorem cellsOf_one (l : List PostV) : ∀ u ∈ cellsOf l, u.oneCell' = true := by
  intro u hu
  simp only [cellsOf, List.mem_flatMap, PostV.cells] at hu
  obtain ⟨p, _, h⟩ := hu
  simp only [List.mem_cons, List.not_mem_nil, or_false] at h
  rcases h with rfl | rfl | rfl <;> rfl
theorem List_any {w : World} {g : Nat} {B : NetB} {s : NetV} (h : NetAt w g B s) :
    Calls Try.prog 13 #[.pointer (some ⟨g, 0, none⟩)] w fun e w' => ∃ v, e = .returned v ∧ w'.ownsRow w.heap.size 23 3 v s.ps.length (cellsOf s.ps) ∧ But (fun _ => False) w w' := by
  obtain ⟨A, c, ev, hc, hx⟩ := own_cells h.ps
  have C := Clone_any (c := c) hx (cellsOf_length s.ps) h.len (cellsOf_one _)
  have c0 : w.cell? ⟨g, 0, none⟩ = some B.vp := h.cell 0 _ rfl
  rw [ev] at c0
  clear h hx ev hc
  generalize s.ps.length = n at *
  generalize cellsOf s.ps = xs at *
  go_enter Try.func13, Try.ntmps13
  go_wp2_with (go_at_call 24; refine C.mono ?_; rintro _ w1 ⟨v, rfl, h1, b⟩; have H1 := Lib.hid h1; have HB := Lib.hid b; clear h1 b)
  go_ret
  exact ⟨v, rfl, H1.out, HB.out⟩
end Go.Proofs.Ytimhejjdgncdaaa
