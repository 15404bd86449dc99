/- A net: Put, where the post is put. -/
import Derived.Test.YtimhejjdgncdaaaNetM
import Derived.Deep.QuietTactic
import Derived.BigQuiet
import Derived.RegionTactic
import Derived.Deep.DeepCutAuto
namespace Go.Proofs.Ytimhejjdgncdaaa
open Go.RowKit
set_option linter.unusedVariables false
set_option linter.unusedSimpArgs false

def okP (p : PostV) : Bool := decide (0 ≤ p.fr ∧ p.fr < 8) && decide (0 ≤ p.to ∧ p.to < 8) && !decide (p.fr = p.to) && decide (termE (bys p.env) = 0)
theorem zero_int (w : World) : (zeroValue 3).run Try.prog w = .ok (.int .i64 0) w := by go_simp
theorem ld_cell {w : World} {g j : Nat} {v : Value} {ty : TypeId} {d : TypeDesc} (h : w.cell? ⟨g, j, none⟩ = some v) (hu : Try.prog.underlying ty = some d) (hd : d.isRow = false) : (Instr.loadAt ty (.pointer (some ⟨g, j, none⟩))).run Try.prog w = .ok v w := by
  simp only [Instr.loadAt, Instr.sureAddr, Sem.run_bind, Sem.run_pure, Result.andThen_ok]
  have hagg : (isAgg ty).run Try.prog w = .ok false w := by
    unfold isAgg
    rw [Sem.run_bind, run_underlying hu w]
    cases d <;> simp_all [TypeDesc.isRow]
  simp [loadVar, Sem.run_bind, hagg, h]
theorem ld_post {w : World} {g : Nat} {p : PostV} (h : Holds w g p.obj) : (Instr.loadAt 23 (.pointer (some ⟨g, 0, none⟩))).run Try.prog w = .ok p.val w := by
  simp only [Instr.loadAt, Instr.sureAddr, Sem.run_bind, Sem.run_pure, Result.andThen_ok]
  exact run_loadVar_row _ _ _ _ _ _ _ h Try.underlying23 rfl (by kernel_rfl)
/-- While Put works: the net it was handed, the post's box; the two maps as they are by now. -/
structure Mid (w : World) (g : Nat) (B : NetB) (p : PostV) (s : NetV) (cnt : List (PostV × Int)) (fst : List (ByteArray × Int)) (W : World) : Prop where
  but : But (B.mine g) w W
  post : Holds W w.heap.size p.obj
  box : Holds W g B.obj
  cnt : Holds W B.cg (objIn PostV.val cnt)
  fst : Holds W B.fg (objIn strV fst)
  ps : W.ownsRow 0 23 3 B.vp s.ps.length (cellsOf s.ps)
  ts : W.ownsRow 0 3 1 B.vt s.ps.length (intsOf s.ts)
theorem Mid.drew {w : World} {g : Nat} {B : NetB} {p : PostV} {s : NetV} {cnt : List (PostV × Int)} {fst : List (ByteArray × Int)} {W : World} (h : Mid w g B p s cnt fst W) : Mid w g B p s cnt fst W.drew := ⟨h.but.drew, h.post, h.box, h.cnt, h.fst, h.ps, h.ts⟩
theorem Mid.setCnt {w : World} {g : Nat} {B : NetB} {p : PostV} {s t : NetV} {cnt : List (PostV × Int)} {fst : List (ByteArray × Int)} {W : World} (h : Mid w g B p s cnt fst W) (hn : NetAt w g B t) (c : List (PostV × Int)) :
    Mid w g B p s c fst (mapTo W B.cg (objIn PostV.val c)) := by
  have k := But.mapTo_ (p := fun k => k = B.cg) (But.refl _ W) B.cg (objIn PostV.val c) rfl
  have n1 : w.heap.size ≠ B.cg := fun e => by have := hn.cnt.lt; omega
  have n2 : g ≠ B.cg := fun e => by have h1 := hn.box; have h2 := hn.cnt; rw [e] at h1; unfold Holds at h1 h2; rw [h1] at h2; cases h2
  have own : ∀ {v : Value} {n size : Nat} {e : TypeId} {xs : List Value}, W.ownsRow 0 e size v n xs → ∀ j, v.ownBlock = some j → ¬ j = B.cg := fun {v n size e xs} ho j hj he => by
    rcases ho.2 with ⟨rfl, _⟩ | ⟨g', cap, cur, rfl, _, hb, _⟩
    · cases hj
    · cases hj
      have h2 : W.heap[B.cg]? = _ := h.cnt
      rw [← he] at h2
      have h3 : W.heap[g']? = _ := hb
      rw [show (⟨g', 0, none⟩ : Addr).block = g' from rfl, h3] at h2
      cases h2
  exact ⟨h.but.then_ k (fun i hi => .inl (.inr (.inl hi))), h.post.mapTo_far n1 _, h.box.mapTo_far n2 _, h.cnt.mapTo_here _, h.fst.mapTo_far (Ne.symm hn.ne) _, ownsRow_but h.ps k (own h.ps), ownsRow_but h.ts k (own h.ts)⟩
theorem Mid.setFst {w : World} {g : Nat} {B : NetB} {p : PostV} {s t : NetV} {cnt : List (PostV × Int)} {fst : List (ByteArray × Int)} {W : World} (h : Mid w g B p s cnt fst W) (hn : NetAt w g B t) (c : List (ByteArray × Int)) :
    Mid w g B p s cnt c (mapTo W B.fg (objIn strV c)) := by
  have k := But.mapTo_ (p := fun k => k = B.fg) (But.refl _ W) B.fg (objIn strV c) rfl
  have n1 : w.heap.size ≠ B.fg := fun e => by have := hn.fst.lt; omega
  have n2 : g ≠ B.fg := fun e => by have h1 := hn.box; have h2 := hn.fst; rw [e] at h1; unfold Holds at h1 h2; rw [h1] at h2; cases h2
  have own : ∀ {v : Value} {n size : Nat} {e : TypeId} {xs : List Value}, W.ownsRow 0 e size v n xs → ∀ j, v.ownBlock = some j → ¬ j = B.fg := fun {v n size e xs} ho j hj he => by
    rcases ho.2 with ⟨rfl, _⟩ | ⟨g', cap, cur, rfl, _, hb, _⟩
    · cases hj
    · cases hj
      have h2 : W.heap[B.fg]? = _ := h.fst
      rw [← he] at h2
      have h3 : W.heap[g']? = _ := hb
      rw [show (⟨g', 0, none⟩ : Addr).block = g' from rfl, h3] at h2
      cases h2
  exact ⟨h.but.then_ k (fun i hi => .inl (.inr (.inr (.inl hi)))), h.post.mapTo_far n1 _, h.box.mapTo_far n2 _, h.cnt.mapTo_far hn.ne _, h.fst.mapTo_here _, ownsRow_but h.ps k (own h.ps), ownsRow_but h.ts k (own h.ts)⟩
theorem own_not {W : World} {v : Value} {n size k : Nat} {e : TypeId} {xs : List Value} (ho : W.ownsRow 0 e size v n xs) {o : Obj} (hk : Holds W k o) (hne : ∀ cur, o ≠ .cells cur e (0, 0)) : v.ownBlock ≠ some k := fun hj => by
  rcases ho.2 with ⟨rfl, _⟩ | ⟨g', cap, cur, rfl, _, hb, _⟩
  · cases hj
  · have : g' = k := by simpa [Value.ownBlock] using hj
    subst this
    have h2 : W.heap[g']? = _ := hk
    rw [hb] at h2
    exact hne cur (Option.some.inj h2).symm
/-- What stands beside the rows. -/
def rest12 (w : World) (g : Nat) (B : NetB) (p : PostV) (cnt : List (PostV × Int)) (fst : List (ByteArray × Int)) : List (Nat × Obj) := [(w.heap.size, p.obj), (g, B.obj), (B.cg, objIn PostV.val cnt), (B.fg, objIn strV fst)]
theorem Mid.rows {w : World} {g : Nat} {B : NetB} {p : PostV} {s : NetV} {cnt : List (PostV × Int)} {fst : List (ByteArray × Int)} {W : World} (h : Mid w g B p s cnt fst W) (hn : NetAt w g B s) :
    M12 w (B.mine g) B.vp B.vt B.vp B.vt s.ps s.ts (rest12 w g B p cnt fst) W where
  but := h.but
  own1 := h.ps
  own2 := by rw [hn.tl]; exact h.ts
  fr1 k hk := .inl hk
  fr2 k hk := .inl hk
  hold x hx := by
    simp only [rest12, List.mem_cons, List.not_mem_nil, or_false] at hx
    rcases hx with rfl | rfl | rfl | rfl
    · exact ⟨h.post, fun e => by have := (hn.ps.lt _ e).2; simp at this, fun e => by have := (hn.ts.lt _ e).2; simp at this⟩
    · exact ⟨h.box, own_not h.ps h.box (fun _ e => by cases e), own_not h.ts h.box (fun _ e => by cases e)⟩
    · exact ⟨h.cnt, own_not h.ps h.cnt (fun _ e => by cases e), own_not h.ts h.cnt (fun _ e => by cases e)⟩
    · exact ⟨h.fst, own_not h.ps h.fst (fun _ e => by cases e), own_not h.ts h.fst (fun _ e => by cases e)⟩
theorem gated_12 {w W : World} {g : Nat} {B : NetB} {p : PostV} {cnt : List (PostV × Int)} {fst : List (ByteArray × Int)} {mine : Nat → Prop} {vp0 vt0 vp vt : Value} {ps : List PostV} {ts : List Int} {L : List (Nat × Obj)} {b1 b2 : Nat} {a : Array Bool}
    (h : M12 w mine vp0 vt0 vp vt ps ts L W) (hL : ∀ x ∈ rest12 w g B p cnt fst, x ∈ L) :
    Gated (fun W => Holds W w.heap.size p.obj ∧ W.cell? ⟨g, 2, none⟩ = some (.map (some B.cg)) ∧ Holds W B.cg (objIn PostV.val cnt)) [(b1, fun W => W.cell? ⟨g, 0, none⟩ = some B.vp), (b2, fun W => W.cell? ⟨g, 1, none⟩ = some B.vt)] a W := by
  have h1 := (h.hold _ (hL (w.heap.size, p.obj) (by simp [rest12]))).1
  have h2 := (h.hold _ (hL (g, B.obj) (by simp [rest12]))).1
  have h3 := (h.hold _ (hL (B.cg, objIn PostV.val cnt) (by simp [rest12]))).1
  refine ⟨⟨h1, h2.cl 2, h3⟩, fun x hx _ => ?_⟩
  simp only [List.mem_cons, List.not_mem_nil, or_false] at hx
  rcases hx with rfl | rfl
  · exact h2.cl 0
  · exact h2.cl 1
theorem NetAt.cg_ne {w : World} {g : Nat} {B : NetB} {s : NetV} (H : NetAt w g B s) : B.cg ≠ g := fun e => by have x1 := H.box; have x2 := H.cnt; rw [e] at x2; unfold Holds at x1 x2; rw [x1] at x2; cases x2
theorem store_net {W : World} {g : Nat} {a b c d : Value} (h : Holds W g (.cells #[a, b, c, d] 49)) (A : Option Addr) (n k : Nat) :
    (Instr.storeAt 35 (.pointer (some ⟨g, 0, none⟩)) (.slice A n k)).run Try.prog W = .ok () (W.setRow g #[.slice A n k, b, c, d]) ∧ (Instr.storeAt 41 (.pointer (some ⟨g, 1, none⟩)) (.slice A n k)).run Try.prog W = .ok () (W.setRow g #[a, .slice A n k, c, d]) := by
  constructor
  · exact store_part h 0 [.slice A n k] 35 (by simp) (by kernel_rfl) (.slice A n k) rfl (by simp [Value.oneCell'])
  · exact store_part h 1 [.slice A n k] 41 (by simp) (by kernel_rfl) (.slice A n k) rfl (by simp [Value.oneCell'])
theorem fin12 {w W : World} {g : Nat} {B : NetB} {p : PostV} {s : NetV} {v : Int} {f : List (ByteArray × Int)} {vp vt : Value} {L : List (Nat × Obj)} (X : M12 w (B.mine g) B.vp B.vt vp vt (s.ps ++ [p]) (s.ts ++ [v + 1]) L W) (hL : ∀ x ∈ rest12 w g B p (putIn p (v + 1) s.cnt) f, x ∈ L)
    (H : NetAt w g B s) (hp : PostOk p) (hv : valIn p s.cnt = v) (hl : s.ps.length < 4096) (hf : f = if hasIn p.env s.fst = true then s.fst else putIn p.env (s.ps.length : Int) s.fst) (a1 : Array Value) :
    NetAt ((W.setRow g a1).setRow g #[vp, vt, .map (some B.cg), .map (some B.fg)]) g ⟨vp, vt, B.cg, B.fg⟩ (s.next p) ∧ But (B.mine g) w ((W.setRow g a1).setRow g #[vp, vt, .map (some B.cg), .map (some B.fg)]) ∧ ∀ k, (⟨vp, vt, B.cg, B.fg⟩ : NetB).mine g k → B.mine g k ∨ w.heap.size ≤ k := by
  have h1 := X.hold _ (hL (g, B.obj) (by simp [rest12]))
  have h2 := X.hold _ (hL (B.cg, objIn PostV.val (putIn p (v + 1) s.cnt)) (by simp [rest12]))
  have h3 := X.hold _ (hL (B.fg, objIn strV f) (by simp [rest12]))
  have k : But (fun k => k = g) W ((W.setRow g a1).setRow g #[vp, vt, .map (some B.cg), .map (some B.fg)]) := ((But.refl (fun k => k = g) W).setRow (.inl rfl) _).setRow (.inl rfl) _
  have n1 : B.cg ≠ g := fun e => by have x1 := H.box; have x2 := H.cnt; rw [e] at x2; unfold Holds at x1 x2; rw [x1] at x2; cases x2
  have n2 : B.fg ≠ g := fun e => by have x1 := H.box; have x2 := H.fst; rw [e] at x2; unfold Holds at x1 x2; rw [x1] at x2; cases x2
  have hc := H.cok p
  rw [hv] at hc
  refine ⟨?_, X.but.then_ k (fun i hi => .inl (.inl hi)), ?_⟩
  · exact {
      box := by
        have y : Holds W g (.cells B.arr 49) := h1.1
        exact (y.setRow (ds := a1)).setRow
      cnt := by
        have y := h2.1.but k n1
        rw [show (s.next p).cnt = putIn p (valIn p s.cnt + 1) s.cnt from rfl, hv]; exact y
      fst := by
        have y := h3.1.but k n2
        rw [show (s.next p).fst = if hasIn p.env s.fst = true then s.fst else putIn p.env (s.ps.length : Int) s.fst from rfl, ← hf]; exact y
      ne := H.ne
      ps := ownsRow_but X.own1 k (fun j hj e => h1.2.1 (by rw [hj, e]))
      ts := by
        have y := ownsRow_but X.own2 k (fun j hj e => h1.2.2 (by rw [hj, e]))
        rw [show (s.next p).ts = s.ts ++ [valIn p s.cnt + 1] from rfl, hv]
        have hlen : (s.ts ++ [v + 1]).length = (s.next p).ps.length := by simp [NetV.next, H.tl]
        rw [hlen] at y
        exact y
      len := by simp [NetV.next]; omega
      ok := fun q hq => by
        rcases List.mem_append.1 hq with h | h
        · exact H.ok q h
        · simp at h; subst h; exact hp
      tok := fun q hq => by
        rcases List.mem_append.1 hq with h | h
        · exact H.tok q h
        · simp at h; subst h; rw [hv]; omega
      cok := fun q => by
        have hq := H.cok q
        have e : valIn q (s.next p).cnt = if q = p then v + 1 else valIn q s.cnt := by
          rw [show (s.next p).cnt = putIn p (valIn p s.cnt + 1) s.cnt from rfl, (findIn_put q p _ _).1, hv]
        rw [e]
        have hl2 : (s.next p).ps.length = s.ps.length + 1 := by simp [NetV.next]
        rw [hl2]
        split <;> omega
      tl := by simp [NetV.next, H.tl] }
  · rintro j (rfl | rfl | rfl | e | e)
    · exact .inl (.inl rfl)
    · exact .inl (.inr (.inl rfl))
    · exact .inl (.inr (.inr (.inl rfl)))
    · exact (X.fr1 j e).imp (fun e => .inr (.inr (.inr (.inl e)))) id
    · exact (X.fr2 j e).imp (fun e => .inr (.inr (.inr (.inr e)))) id
theorem valIn_self {K : Type} [DecidableEq K] (k : K) (v : Int) (l : List (K × Int)) : valIn k (putIn k v l) = v := by rw [(findIn_put k k v l).1, if_pos rfl]
theorem gated_of {S0 S1 : World → Prop} {k : Nat} {L : Array Bool} {w : World} (h : S0 w) (h1 : S1 w) : Gated S0 [(k, S1)] L w := ⟨h, fun x hx _ => by simp only [List.mem_cons, List.not_mem_nil, or_false] at hx; subst hx; exact h1⟩
theorem gated_done {S0 : World → Prop} {gs : List (Nat × (World → Prop))} {L : Array Bool} {w : World} (h : S0 w) (h1 : gs.all (fun x => L.getD x.1 true) = true) : Gated S0 gs L w := ⟨h, fun x hx hL => by
  have := List.all_eq_true.1 h1 x hx
  rw [this] at hL; cases hL⟩
set_option maxHeartbeats 4000000 in
theorem Put_ok {w : World} {g : Nat} {B : NetB} {s : NetV} (h : NetAt w g B s) (p : PostV) (hp : PostOk p) (ho : okP p = true) (hl : s.ps.length < 4096) :
    Calls Try.prog 8 #[.pointer (some ⟨g, 0, none⟩), p.val] w fun e w' => e = .returned (.tuple #[.int .i64 s.ps.length, .int .i64 0]) ∧ ∃ B', NetAt w' g B' (s.next p) ∧ But (B.mine g) w w' ∧ ∀ k, B'.mine g k → B.mine g k ∨ w.heap.size ≤ k := by
  have hk : (0 ≤ p.fr ∧ p.fr < 8) ∧ (0 ≤ p.to ∧ p.to < 8) ∧ p.fr ≠ p.to ∧ termE (bys p.env) = 0 := by
    unfold okP at ho; simpa [and_assoc] using ho
  obtain ⟨k1, k2, k3, k4⟩ := hk
  have O1 : ∀ w, _ := fun w => org_any p.fr w hp.1
  have O2 : ∀ w, _ := fun w => org_any p.to w hp.2.1
  have T := fun w => termCheck_any p.env w hp.2.2
  rw [decide_eq_true k1] at O1
  rw [decide_eq_true k2] at O2
  rw [k4] at T
  have e4 : ((s.ps.length : Int) == 4096) = false := by simp; omega
  have e3 : (p.fr == p.to) = false := by simpa using k3
  have H := Lib.hid h
  have HP := Lib.hid hp
  have b0 := Lib.hid (Holds.new w p.obj)
  have bb := Lib.hid ((But.refl (fun _ => False) w).alloc p.obj)
  have hoe : Obj.cells #[Value.int .i64 p.fr, .int .i64 p.to, .string p.env] 23 = p.obj := rfl
  have q0 : (w.alloc p.obj).cell? ⟨w.heap.size, 0, none⟩ = some (.int .i64 p.fr) := b0.out.cl 0
  have q1 : (w.alloc p.obj).cell? ⟨w.heap.size, 1, none⟩ = some (.int .i64 p.to) := b0.out.cl 1
  have q2 : (w.alloc p.obj).cell? ⟨w.heap.size, 2, none⟩ = some (.string p.env) := b0.out.cl 2
  clear h hp k1 k2 k3 k4 ho
  unfold PostV.val PostV.arr PostV.cells
  go_enter Try.func8, Try.ntmps8
  go_upto_region 8 with (first
    | (go_at_call_of 20 (Value.int .i64 p.fr); refine (O1 _).mono ?_; rintro _ _ ⟨rfl, rfl⟩)
    | (go_at_call_of 20 (Value.int .i64 p.to); refine (O2 _).mono ?_; rintro _ _ ⟨rfl, rfl⟩)
    | (go_at_call 21; refine (T _).mono ?_; rintro _ w1 ⟨rfl, b1⟩; have H1 := Lib.hid (H.out.but (bb.out.trans b1) (fun _ _ f => f)); have P1 := Lib.hid (b0.out.but b1 (fun f => f)); have BB := Lib.hid (bb.out.trans b1); obtain ⟨A, c, ev, i1, i2⟩ := row_val H1.out.ps; have c0 : w1.cell? ⟨g, 0, none⟩ = some B.vp := H1.out.cell 0 _ rfl; rw [ev] at c0; have EV := Lib.hid ev; clear ev b1))
  have M7 := Lib.hid (show Mid w g B p s s.cnt s.fst w1 from ⟨BB.out.mono (fun _ f => f.elim), P1.out, H1.out.box, H1.out.cnt, H1.out.fst, H1.out.ps, H1.out.ts⟩)
  -- REGIONS
  have M8 := Lib.hid M7.out.drew
  obtain ⟨v, hv⟩ : ∃ v, valIn p s.cnt = v := ⟨_, rfl⟩
  have hvb : 0 ≤ v ∧ v ≤ 4096 := by have := H.out.cok p; have := H.out.len; omega
  have hvw : IntKind.i64.wrap (v + 1) = v + 1 := IntWalk.i64_in _ (by omega)
  refine anyL_region (S := Gated (fun W => Holds W w.heap.size p.obj ∧ Holds W g B.obj) [(9, fun W => (Instr.lookup 46 (.map (some B.cg)) p.val false).run Try.prog W = .ok (.int .i64 v) W)]) (by kernel_rfl) ?_
  obtain ⟨wd, hwd⟩ : ∃ wd, (w1).drew = wd := ⟨_, rfl⟩
  rw [hwd] at M8 ⊢
  clear hwd
  have lk : ∀ W c u, Holds W B.cg (objIn PostV.val c) → valIn p c = u → (Instr.lookup 46 (.map (some B.cg)) p.val false).run Try.prog W = .ok (.int .i64 u) W := fun W c u h e => by rw [run_lookup Try.underlying46 zero_int keys_post h p false, e]; rfl
  have hS : Gated (fun W => Holds W w.heap.size p.obj ∧ Holds W g B.obj) [(9, fun W => (Instr.lookup 46 (.map (some B.cg)) p.val false).run Try.prog W = .ok (.int .i64 v) W)] (Array.replicate 10 false) wd := ⟨⟨M8.out.post, M8.out.box⟩, fun x hx _ => by simp only [List.mem_cons, List.not_mem_nil, or_false] at hx; subst hx; exact lk _ _ _ M8.out.cnt hv⟩
  simp only [List.size_toArray, List.length_cons, List.length_nil]
  refine' anyL_take [] (i := 0) (v := (.pointer (some ⟨g, 0, none⟩))) rfl (by kernel_rfl) (by kernel_rfl) (by kernel_rfl) (by kernel_rfl) (by kernel_rfl) (fun _ _ _ h => h) (Or.inl ⟨by rfl, fun _ _ => by rfl⟩) hS ?_
  simp only [Act.put, List.setIfInBounds_toArray, List.set_cons_zero, List.set_cons_succ]
  clear hS
  intro hS
  refine' anyL_take [] (i := 1) (v := (.pointer (some ⟨g, 0, none⟩))) rfl (by kernel_rfl) (by kernel_rfl) (by kernel_rfl) (by kernel_rfl) (by kernel_rfl) (fun _ _ _ h => h) (Or.inl ⟨by rfl, fun _ _ => by rfl⟩) hS ?_
  simp only [Act.put, List.setIfInBounds_toArray, List.set_cons_zero, List.set_cons_succ]
  clear hS
  intro hS
  refine' anyL_take [] (i := 2) (v := (.pointer (some ⟨g, 2, none⟩))) rfl (by kernel_rfl) (by kernel_rfl) (by kernel_rfl) (by kernel_rfl) (by kernel_rfl) (fun _ _ _ h => h) (Or.inl ⟨by rfl, fun _ _ => by rfl⟩) hS ?_
  simp only [Act.put, List.setIfInBounds_toArray, List.set_cons_zero, List.set_cons_succ]
  clear hS
  intro hS
  refine' anyL_take [] (i := 3) (v := (.map (some B.cg))) rfl (by kernel_rfl) (by kernel_rfl) (by kernel_rfl) (by kernel_rfl) (by kernel_rfl) (fun _ _ _ h => h) (yieldsIf_load_run (by rfl) rfl (fun _ h => ld_cell (h.1.2.cl 2) Try.underlying46 rfl)) hS ?_
  simp only [Act.put, List.setIfInBounds_toArray, List.set_cons_zero, List.set_cons_succ]
  clear hS
  intro hS
  refine' anyL_take [] (i := 4) (v := p.val) rfl (by kernel_rfl) (by kernel_rfl) (by kernel_rfl) (by kernel_rfl) (by kernel_rfl) (fun _ _ _ h => h) (yieldsIf_load_run (by rfl) rfl (fun _ h => ld_post h.1.1)) hS ?_
  simp only [Act.put, List.setIfInBounds_toArray, List.set_cons_zero, List.set_cons_succ]
  clear hS
  intro hS
  refine' anyL_take [9] (i := 5) (v := (.int .i64 v)) rfl (by kernel_rfl) (by kernel_rfl) (by kernel_rfl) (by kernel_rfl) (by kernel_rfl) (fun _ _ _ h => h) (Or.inl ⟨by rfl, fun W h => Eq.trans (by kernel_rfl) (op_v (h.2 _ (List.mem_cons_self ..) (List.mem_cons_self ..)))⟩) hS ?_
  simp only [Act.put, List.setIfInBounds_toArray, List.set_cons_zero, List.set_cons_succ]
  clear hS
  intro hS
  refine' anyL_take [] (i := 6) (v := (.int .i64 (v + 1))) rfl (by kernel_rfl) (by kernel_rfl) (by kernel_rfl) (by kernel_rfl) (by kernel_rfl) (fun _ _ _ h => h) (Or.inl ⟨by rfl, fun _ _ => by go_simp⟩) hS ?_
  simp only [Act.put, List.setIfInBounds_toArray, List.set_cons_zero, List.set_cons_succ]
  clear hS
  intro hS
  obtain ⟨i, hme, hes⟩ := run_mapEntry Try.underlying46 zero_int keys_post M8.out.cnt p
  rw [hv] at hme hes
  have M8b := Lib.hid (M8.out.setCnt H.out (putIn p v s.cnt))
  have M8c := Lib.hid (M8b.out.setCnt H.out (putIn p (v + 1) s.cnt))
  refine anyL_ready (rs := [7]) (by kernel_rfl) (by simp) (eachL_cons rfl (fun K hK => ?_) eachL_nil)
  refine ready_value (by rfl) (Eq.trans (by kernel_rfl) (op_v hme)) ?_
  simp only [Act.put, List.setIfInBounds_toArray, List.set_cons_zero, List.set_cons_succ]
  refine hK.out _ _ (gated_of ⟨M8b.out.post, M8b.out.box⟩ (lk _ _ _ M8b.out.cnt (valIn_self _ _ _))) (fun hN => ?_)
  clear hK K hS
  have hS := hN
  clear hN
  refine' anyL_take [] (i := 8) (v := (.int .i64 i)) rfl (by kernel_rfl) (by kernel_rfl) (by kernel_rfl) (by kernel_rfl) (by kernel_rfl) (fun _ _ _ h => h) (Or.inl ⟨by rfl, fun _ _ => by rfl⟩) hS ?_
  simp only [Act.put, List.setIfInBounds_toArray, List.set_cons_zero, List.set_cons_succ]
  clear hS
  intro hS
  refine anyL_ready (rs := [9]) (by kernel_rfl) (by simp) (eachL_cons rfl (fun K hK => ?_) eachL_nil)
  refine ready_skip (by rfl) (Eq.trans (by kernel_rfl) (op_u (hes _ (v + 1) M8b.out.cnt))) ?_
  simp only [Act.put, List.setIfInBounds_toArray, List.set_cons_zero, List.set_cons_succ]
  refine hK.out _ _ (gated_done ⟨M8c.out.post, M8c.out.box⟩ (by kernel_rfl)) (fun hN => ?_)
  clear hK K hS
  have hS := hN
  clear hN
  refine anyL_done (by kernel_rfl) ?_ _
  obtain ⟨w8, hw8⟩ : ∃ we, mapTo (mapTo wd B.cg (objIn PostV.val (putIn p v s.cnt))) B.cg (objIn PostV.val (putIn p (v + 1) s.cnt)) = we := ⟨_, rfl⟩
  rw [hw8] at M8c ⊢
  clear hw8 hS hme hes M8 M8b M7 c0 H1 P1 BB
  have lk2 : ∀ hi, hasIn p.env s.fst = hi → ∀ W, Holds W B.fg (objIn strV s.fst) → (Instr.lookup 47 (.map (some B.fg)) (.string p.env) true).run Try.prog W = .ok (.tuple #[.int .i64 (valIn p.env s.fst), .bool hi]) W := fun hi e W h => by rw [← e]; exact run_lookup Try.underlying47 zero_int keys_str h p.env true
  cases hh : hasIn p.env s.fst with
  | true =>
    replace lk2 := lk2 true hh
    go_upto_region 9 with fail
    have M9 := Lib.hid M8c.out.drew
    refine anyL_region (S := Gated (fun W => Holds W w.heap.size p.obj ∧ Holds W g B.obj ∧ Holds W B.fg (objIn strV s.fst)) []) (by kernel_rfl) ?_
    obtain ⟨w9, hw9⟩ : ∃ wd, (w8).drew = wd := ⟨_, rfl⟩
    rw [hw9] at M9 ⊢
    clear hw9 M8c
    have hS : Gated (fun W => Holds W w.heap.size p.obj ∧ Holds W g B.obj ∧ Holds W B.fg (objIn strV s.fst)) [] (Array.replicate 12 false) w9 := ⟨⟨M9.out.post, M9.out.box, M9.out.fst⟩, fun x hx => by cases hx⟩
    simp only [List.size_toArray, List.length_cons, List.length_nil]
    refine' anyL_take [] (i := 0) (v := (.pointer (some ⟨g, 0, none⟩))) rfl (by kernel_rfl) (by kernel_rfl) (by kernel_rfl) (by kernel_rfl) (by kernel_rfl) (fun _ _ _ h => h) (Or.inl ⟨by rfl, fun _ _ => by rfl⟩) hS ?_
    simp only [Act.put, List.setIfInBounds_toArray, List.set_cons_zero, List.set_cons_succ]
    clear hS
    intro hS
    refine' anyL_take [] (i := 1) (v := (.pointer (some ⟨g, 0, none⟩))) rfl (by kernel_rfl) (by kernel_rfl) (by kernel_rfl) (by kernel_rfl) (by kernel_rfl) (fun _ _ _ h => h) (Or.inl ⟨by rfl, fun _ _ => by rfl⟩) hS ?_
    simp only [Act.put, List.setIfInBounds_toArray, List.set_cons_zero, List.set_cons_succ]
    clear hS
    intro hS
    refine' anyL_take [] (i := 2) (v := (.pointer (some ⟨g, 3, none⟩))) rfl (by kernel_rfl) (by kernel_rfl) (by kernel_rfl) (by kernel_rfl) (by kernel_rfl) (fun _ _ _ h => h) (Or.inl ⟨by rfl, fun _ _ => by rfl⟩) hS ?_
    simp only [Act.put, List.setIfInBounds_toArray, List.set_cons_zero, List.set_cons_succ]
    clear hS
    intro hS
    refine' anyL_take [] (i := 3) (v := (.map (some B.fg))) rfl (by kernel_rfl) (by kernel_rfl) (by kernel_rfl) (by kernel_rfl) (by kernel_rfl) (fun _ _ _ h => h) (yieldsIf_load_run (by rfl) rfl (fun _ h => ld_cell (h.1.2.1.cl 3) Try.underlying47 rfl)) hS ?_
    simp only [Act.put, List.setIfInBounds_toArray, List.set_cons_zero, List.set_cons_succ]
    clear hS
    intro hS
    refine' anyL_take [] (i := 4) (v := (.pointer (some ⟨w.heap.size, 2, none⟩))) rfl (by kernel_rfl) (by kernel_rfl) (by kernel_rfl) (by kernel_rfl) (by kernel_rfl) (fun _ _ _ h => h) (Or.inl ⟨by rfl, fun _ _ => by rfl⟩) hS ?_
    simp only [Act.put, List.setIfInBounds_toArray, List.set_cons_zero, List.set_cons_succ]
    clear hS
    intro hS
    refine' anyL_take [] (i := 5) (v := (.string p.env)) rfl (by kernel_rfl) (by kernel_rfl) (by kernel_rfl) (by kernel_rfl) (by kernel_rfl) (fun _ _ _ h => h) (yieldsIf_load_run (by rfl) rfl (fun _ h => ld_cell (h.1.1.cl 2) Try.underlying9 rfl)) hS ?_
    simp only [Act.put, List.setIfInBounds_toArray, List.set_cons_zero, List.set_cons_succ]
    clear hS
    intro hS
    refine' anyL_take [] (i := 6) (v := (.tuple #[.int .i64 (valIn p.env s.fst), .bool true])) rfl (by kernel_rfl) (by kernel_rfl) (by kernel_rfl) (by kernel_rfl) (by kernel_rfl) (fun _ _ _ h => h) (Or.inl ⟨by rfl, fun W h => Eq.trans (by kernel_rfl) (op_v (lk2 W h.1.2.2))⟩) hS ?_
    simp only [Act.put, List.setIfInBounds_toArray, List.set_cons_zero, List.set_cons_succ]
    clear hS
    intro hS
    refine' anyL_take [] (i := 7) (v := (.tuple #[.int .i64 (valIn p.env s.fst), .bool true])) rfl (by kernel_rfl) (by kernel_rfl) (by kernel_rfl) (by kernel_rfl) (by kernel_rfl) (fun _ _ _ h => h) (Or.inl ⟨by rfl, fun _ _ => by rfl⟩) hS ?_
    simp only [Act.put, List.setIfInBounds_toArray, List.set_cons_zero, List.set_cons_succ]
    clear hS
    intro hS
    refine' anyL_take [] (i := 8) (v := (.int .i64 (valIn p.env s.fst))) rfl (by kernel_rfl) (by kernel_rfl) (by kernel_rfl) (by kernel_rfl) (by kernel_rfl) (fun _ _ _ h => h) (Or.inl ⟨by rfl, fun _ _ => by rfl⟩) hS ?_
    simp only [Act.put, List.setIfInBounds_toArray, List.set_cons_zero, List.set_cons_succ]
    clear hS
    intro hS
    refine' anyL_take [] (i := 9) (v := (.bool true)) rfl (by kernel_rfl) (by kernel_rfl) (by kernel_rfl) (by kernel_rfl) (by kernel_rfl) (fun _ _ _ h => h) (Or.inl ⟨by rfl, fun _ _ => by rfl⟩) hS ?_
    simp only [Act.put, List.setIfInBounds_toArray, List.set_cons_zero, List.set_cons_succ]
    clear hS
    intro hS
    refine' anyL_take [] (i := 10) (v := (.int .i64 (valIn p.env s.fst))) rfl (by kernel_rfl) (by kernel_rfl) (by kernel_rfl) (by kernel_rfl) (by kernel_rfl) (fun _ _ _ h => h) (Or.inl ⟨by rfl, fun _ _ => by rfl⟩) hS ?_
    simp only [Act.put, List.setIfInBounds_toArray, List.set_cons_zero, List.set_cons_succ]
    clear hS
    intro hS
    refine' anyL_take [] (i := 11) (v := (.bool true)) rfl (by kernel_rfl) (by kernel_rfl) (by kernel_rfl) (by kernel_rfl) (by kernel_rfl) (fun _ _ _ h => h) (Or.inl ⟨by rfl, fun _ _ => by rfl⟩) hS ?_
    simp only [Act.put, List.setIfInBounds_toArray, List.set_cons_zero, List.set_cons_succ]
    clear hS
    intro hS
    refine anyL_done (by kernel_rfl) ?_ _
    clear hS lk2
    go_upto_region 12 with fail
    have M12 := Lib.hid M9.out.drew
    refine anyL_region (S := Gated (fun W => Holds W w.heap.size p.obj ∧ W.cell? ⟨g, 2, none⟩ = some (.map (some B.cg)) ∧ Holds W B.cg (objIn PostV.val (putIn p (v + 1) s.cnt))) [(8, fun W => W.cell? ⟨g, 0, none⟩ = some B.vp), (20, fun W => W.cell? ⟨g, 1, none⟩ = some B.vt)]) (by kernel_rfl) ?_
    obtain ⟨w12, hw12⟩ : ∃ wd, (w9).drew = wd := ⟨_, rfl⟩
    rw [hw12] at M12 ⊢
    clear hw12 M9
    have X := Lib.hid (M12.out.rows H.out)
    have hS : Gated (fun W => Holds W w.heap.size p.obj ∧ W.cell? ⟨g, 2, none⟩ = some (.map (some B.cg)) ∧ Holds W B.cg (objIn PostV.val (putIn p (v + 1) s.cnt))) [(8, fun W => W.cell? ⟨g, 0, none⟩ = some B.vp), (20, fun W => W.cell? ⟨g, 1, none⟩ = some B.vt)] (Array.replicate 27 false) w12 := gated_12 X.out (fun _ h => h)
    simp only [List.size_toArray, List.length_cons, List.length_nil]
    refine' anyL_take [] (i := 0) (v := (.pointer (some ⟨g, 0, none⟩))) rfl (by kernel_rfl) (by kernel_rfl) (by kernel_rfl) (by kernel_rfl) (by kernel_rfl) (fun _ _ _ h => h) (Or.inl ⟨by rfl, fun _ _ => by rfl⟩) hS ?_
    simp only [Act.put, List.setIfInBounds_toArray, List.set_cons_zero, List.set_cons_succ]
    clear hS
    intro hS
    refine' anyL_take [] (i := 1) (v := (.pointer (some ⟨g, 0, none⟩))) rfl (by kernel_rfl) (by kernel_rfl) (by kernel_rfl) (by kernel_rfl) (by kernel_rfl) (fun _ _ _ h => h) (Or.inl ⟨by rfl, fun _ _ => by rfl⟩) hS ?_
    simp only [Act.put, List.setIfInBounds_toArray, List.set_cons_zero, List.set_cons_succ]
    clear hS
    intro hS
    refine' anyL_take [] (i := 2) (v := (.pointer (some ⟨g, 0, none⟩))) rfl (by kernel_rfl) (by kernel_rfl) (by kernel_rfl) (by kernel_rfl) (by kernel_rfl) (fun _ _ _ h => h) (Or.inl ⟨by rfl, fun _ _ => by rfl⟩) hS ?_
    simp only [Act.put, List.setIfInBounds_toArray, List.set_cons_zero, List.set_cons_succ]
    clear hS
    intro hS
    refine' anyL_take [] (i := 3) (v := (.pointer (some ⟨g, 0, none⟩))) rfl (by kernel_rfl) (by kernel_rfl) (by kernel_rfl) (by kernel_rfl) (by kernel_rfl) (fun _ _ _ h => h) (Or.inl ⟨by rfl, fun _ _ => by rfl⟩) hS ?_
    simp only [Act.put, List.setIfInBounds_toArray, List.set_cons_zero, List.set_cons_succ]
    clear hS
    intro hS
    refine' anyL_take [] (i := 4) (v := (.pointer (some ⟨g, 0, none⟩))) rfl (by kernel_rfl) (by kernel_rfl) (by kernel_rfl) (by kernel_rfl) (by kernel_rfl) (fun _ _ _ h => h) (Or.inl ⟨by rfl, fun _ _ => by rfl⟩) hS ?_
    simp only [Act.put, List.setIfInBounds_toArray, List.set_cons_zero, List.set_cons_succ]
    clear hS
    intro hS
    refine' anyL_take [8] (i := 5) (v := B.vp) rfl (by kernel_rfl) (by kernel_rfl) (by kernel_rfl) (by kernel_rfl) (by kernel_rfl) (fun _ _ _ h => h) (yieldsIf_load_run (by rfl) rfl (fun _ h => ld_cell (h.2 _ (List.mem_cons_self ..) (List.mem_cons_self ..)) Try.underlying35 rfl)) hS ?_
    simp only [Act.put, List.setIfInBounds_toArray, List.set_cons_zero, List.set_cons_succ]
    clear hS
    intro hS
    refine' anyL_take [] (i := 6) (v := p.val) rfl (by kernel_rfl) (by kernel_rfl) (by kernel_rfl) (by kernel_rfl) (by kernel_rfl) (fun _ _ _ h => h) (yieldsIf_load_run (by rfl) rfl (fun _ h => ld_post h.1.1)) hS ?_
    simp only [Act.put, List.setIfInBounds_toArray, List.set_cons_zero, List.set_cons_succ]
    clear hS
    intro hS
    refine' anyL_take [] (i := 9) (v := (.pointer (some ⟨g, 0, none⟩))) rfl (by kernel_rfl) (by kernel_rfl) (by kernel_rfl) (by kernel_rfl) (by kernel_rfl) (fun _ _ _ h => h) (Or.inl ⟨by rfl, fun _ _ => by rfl⟩) hS ?_
    simp only [Act.put, List.setIfInBounds_toArray, List.set_cons_zero, List.set_cons_succ]
    clear hS
    intro hS
    refine' anyL_take [] (i := 10) (v := (.pointer (some ⟨g, 0, none⟩))) rfl (by kernel_rfl) (by kernel_rfl) (by kernel_rfl) (by kernel_rfl) (by kernel_rfl) (fun _ _ _ h => h) (Or.inl ⟨by rfl, fun _ _ => by rfl⟩) hS ?_
    simp only [Act.put, List.setIfInBounds_toArray, List.set_cons_zero, List.set_cons_succ]
    clear hS
    intro hS
    refine' anyL_take [] (i := 11) (v := (.pointer (some ⟨g, 1, none⟩))) rfl (by kernel_rfl) (by kernel_rfl) (by kernel_rfl) (by kernel_rfl) (by kernel_rfl) (fun _ _ _ h => h) (Or.inl ⟨by rfl, fun _ _ => by rfl⟩) hS ?_
    simp only [Act.put, List.setIfInBounds_toArray, List.set_cons_zero, List.set_cons_succ]
    clear hS
    intro hS
    refine' anyL_take [20] (i := 12) (v := B.vt) rfl (by kernel_rfl) (by kernel_rfl) (by kernel_rfl) (by kernel_rfl) (by kernel_rfl) (fun _ _ _ h => h) (yieldsIf_load_run (by rfl) rfl (fun _ h => ld_cell (h.2 _ (List.mem_cons_of_mem _ (List.mem_cons_self ..)) (List.mem_cons_self ..)) Try.underlying41 rfl)) hS ?_
    simp only [Act.put, List.setIfInBounds_toArray, List.set_cons_zero, List.set_cons_succ]
    clear hS
    intro hS
    refine' anyL_take [] (i := 13) (v := (.pointer (some ⟨g, 0, none⟩))) rfl (by kernel_rfl) (by kernel_rfl) (by kernel_rfl) (by kernel_rfl) (by kernel_rfl) (fun _ _ _ h => h) (Or.inl ⟨by rfl, fun _ _ => by rfl⟩) hS ?_
    simp only [Act.put, List.setIfInBounds_toArray, List.set_cons_zero, List.set_cons_succ]
    clear hS
    intro hS
    refine' anyL_take [] (i := 14) (v := (.pointer (some ⟨g, 0, none⟩))) rfl (by kernel_rfl) (by kernel_rfl) (by kernel_rfl) (by kernel_rfl) (by kernel_rfl) (fun _ _ _ h => h) (Or.inl ⟨by rfl, fun _ _ => by rfl⟩) hS ?_
    simp only [Act.put, List.setIfInBounds_toArray, List.set_cons_zero, List.set_cons_succ]
    clear hS
    intro hS
    refine' anyL_take [] (i := 15) (v := (.pointer (some ⟨g, 2, none⟩))) rfl (by kernel_rfl) (by kernel_rfl) (by kernel_rfl) (by kernel_rfl) (by kernel_rfl) (fun _ _ _ h => h) (Or.inl ⟨by rfl, fun _ _ => by rfl⟩) hS ?_
    simp only [Act.put, List.setIfInBounds_toArray, List.set_cons_zero, List.set_cons_succ]
    clear hS
    intro hS
    refine' anyL_take [] (i := 16) (v := (.map (some B.cg))) rfl (by kernel_rfl) (by kernel_rfl) (by kernel_rfl) (by kernel_rfl) (by kernel_rfl) (fun _ _ _ h => h) (yieldsIf_load_run (by rfl) rfl (fun _ h => ld_cell h.1.2.1 Try.underlying46 rfl)) hS ?_
    simp only [Act.put, List.setIfInBounds_toArray, List.set_cons_zero, List.set_cons_succ]
    clear hS
    intro hS
    refine' anyL_take [] (i := 17) (v := p.val) rfl (by kernel_rfl) (by kernel_rfl) (by kernel_rfl) (by kernel_rfl) (by kernel_rfl) (fun _ _ _ h => h) (yieldsIf_load_run (by rfl) rfl (fun _ h => ld_post h.1.1)) hS ?_
    simp only [Act.put, List.setIfInBounds_toArray, List.set_cons_zero, List.set_cons_succ]
    clear hS
    intro hS
    refine' anyL_take [] (i := 18) (v := (.int .i64 (v + 1))) rfl (by kernel_rfl) (by kernel_rfl) (by kernel_rfl) (by kernel_rfl) (by kernel_rfl) (fun _ _ _ h => h) (Or.inl ⟨by rfl, fun W h => Eq.trans (by kernel_rfl) (op_v (lk W _ _ h.1.2.2 (valIn_self _ _ _)))⟩) hS ?_
    simp only [Act.put, List.setIfInBounds_toArray, List.set_cons_zero, List.set_cons_succ]
    clear hS
    intro hS
    refine anyL_ready (rs := [7, 19]) (by kernel_rfl) (by simp) (eachL_cons rfl (fun K hK => ?_) (eachL_cons rfl (fun K hK => ?_) eachL_nil))
    · refine ready_value (v := .slice (some ⟨w12.heap.size, 0, none⟩) 1 1) (w' := w12.alloc p.obj) (by rfl) (by kernel_rfl) ?_
      simp only [Act.put, List.setIfInBounds_toArray, List.set_cons_zero, List.set_cons_succ]
      have Xa1 := Lib.hid (X.out.alloc p.obj)
      refine hK.out _ _ (gated_12 Xa1.out (fun _ hx => List.mem_cons_of_mem _ (hx))) (fun hN => ?_)
      clear hK K hS
      have hS := hN
      clear hN
      obtain ⟨k7, hk7⟩ : ∃ k, w12.heap.size = k := ⟨_, rfl⟩
      obtain ⟨wa1, hwa⟩ : ∃ k, w12.alloc p.obj = k := ⟨_, rfl⟩
      rw [hk7, hwa] at Xa1
      rw [hwa] at hS
      rw [hk7, hwa]
      clear hk7 hwa X
      refine anyL_ready (rs := [8, 19]) (by kernel_rfl) (by simp) (eachL_cons rfl (fun K hK => ?_) (eachL_cons rfl (fun K hK => ?_) eachL_nil))
      · obtain ⟨vp', wa2, hr, hx⟩ := Xa1.out.app1 (fun k hk => .inr (.inr (.inr (.inl hk)))) p k7 (by simp) H.out.len 1
        have Xa2 := Lib.hid hx
        clear hx
        refine ready_value (by rfl) (exec_append rfl rfl rfl hr) ?_
        simp only [Act.put, List.setIfInBounds_toArray, List.set_cons_zero, List.set_cons_succ]
        refine hK.out _ _ (gated_12 Xa2.out (fun _ hx => List.mem_cons_of_mem _ (hx))) (fun hN => ?_)
        clear hK K hS hr
        have hS := hN
        clear hN
        clear Xa1
        refine anyL_ready (rs := [19]) (by kernel_rfl) (by simp) (eachL_cons rfl (fun K hK => ?_) eachL_nil)
        refine ready_value (v := .slice (some ⟨wa2.heap.size, 0, none⟩) 1 1) (w' := wa2.alloc (litI (v + 1))) (by rfl) (by kernel_rfl) ?_
        simp only [Act.put, List.setIfInBounds_toArray, List.set_cons_zero, List.set_cons_succ]
        have Xa3 := Lib.hid (Xa2.out.alloc (litI (v + 1)))
        refine hK.out _ _ (gated_12 Xa3.out (fun _ hx => List.mem_cons_of_mem _ (List.mem_cons_of_mem _ (hx)))) (fun hN => ?_)
        clear hK K hS
        have hS := hN
        clear hN
        obtain ⟨k19, hk19⟩ : ∃ k, wa2.heap.size = k := ⟨_, rfl⟩
        obtain ⟨wa3, hwa⟩ : ∃ k, wa2.alloc (litI (v + 1)) = k := ⟨_, rfl⟩
        rw [hk19, hwa] at Xa3
        rw [hwa] at hS
        rw [hk19, hwa]
        clear hk19 hwa Xa2
        refine anyL_ready (rs := [20]) (by kernel_rfl) (by simp) (eachL_cons rfl (fun K hK => ?_) eachL_nil)
        obtain ⟨vt', wa4, hr, hx⟩ := Xa3.out.app2 (fun k hk => .inr (.inr (.inr (.inr hk)))) (v + 1) k19 (by simp) (by rw [H.out.tl]; exact H.out.len) 1
        have Xa4 := Lib.hid hx
        clear hx
        refine ready_value (by rfl) (exec_append rfl rfl rfl hr) ?_
        simp only [Act.put, List.setIfInBounds_toArray, List.set_cons_zero, List.set_cons_succ]
        refine hK.out _ _ (gated_12 Xa4.out (fun _ hx => List.mem_cons_of_mem _ (List.mem_cons_of_mem _ (hx)))) (fun hN => ?_)
        clear hK K hS hr
        have hS := hN
        clear hN
        clear Xa3
        obtain ⟨A1, c1, ev1, _, _⟩ := row_val Xa4.out.own1
        subst ev1
        obtain ⟨A2, c2, ev2, _, _⟩ := row_val Xa4.out.own2
        subst ev2
        refine' anyL_take [] (i := 21) (v := (.pointer (some ⟨g, 0, none⟩))) rfl (by kernel_rfl) (by kernel_rfl) (by kernel_rfl) (by kernel_rfl) (by kernel_rfl) (fun _ _ _ h => h) (Or.inl ⟨by rfl, fun _ _ => by rfl⟩) hS ?_
        simp only [Act.put, List.setIfInBounds_toArray, List.set_cons_zero, List.set_cons_succ]
        clear hS
        intro hS
        refine' anyL_take [] (i := 22) (v := (.pointer (some ⟨g, 0, none⟩))) rfl (by kernel_rfl) (by kernel_rfl) (by kernel_rfl) (by kernel_rfl) (by kernel_rfl) (fun _ _ _ h => h) (Or.inl ⟨by rfl, fun _ _ => by rfl⟩) hS ?_
        simp only [Act.put, List.setIfInBounds_toArray, List.set_cons_zero, List.set_cons_succ]
        clear hS
        intro hS
        have hg : Holds wa4 g (.cells #[B.vp, B.vt, .map (some B.cg), .map (some B.fg)] 49) := (Xa4.out.hold (g, B.obj) (by simp [rest12])).1
        have hb : Holds wa4 w.heap.size p.obj := (Xa4.out.hold (w.heap.size, p.obj) (by simp [rest12])).1
        have hc : Holds wa4 B.cg (objIn PostV.val (putIn p (v + 1) s.cnt)) := (Xa4.out.hold (B.cg, objIn PostV.val (putIn p (v + 1) s.cnt)) (by simp [rest12])).1
        have n1 : B.cg ≠ g := H.out.cg_ne
        have n2 : w.heap.size ≠ g := fun e => by have := H.out.box.lt; omega
        refine anyL_ready (rs := [23]) (by kernel_rfl) (by simp) (eachL_cons rfl (fun K hK => ?_) eachL_nil)
        refine ready_skip (by rfl) (Eq.trans (by kernel_rfl) (op_u (store_net hg A1 (s.ps ++ [p]).length c1).1)) ?_
        simp only [Act.put, List.setIfInBounds_toArray, List.set_cons_zero, List.set_cons_succ]
        have hg2 := hg.setRow (ds := #[.slice A1 (s.ps ++ [p]).length c1, B.vt, .map (some B.cg), .map (some B.fg)])
        refine hK.out _ _ (gated_done ⟨hb.setRow_far n2 _, hg2.cl 2, hc.setRow_far n1 _⟩ (by kernel_rfl)) (fun hN => ?_)
        clear hK K hS
        have hS := hN
        clear hN
        refine' anyL_take [] (i := 24) (v := (.pointer (some ⟨g, 0, none⟩))) rfl (by kernel_rfl) (by kernel_rfl) (by kernel_rfl) (by kernel_rfl) (by kernel_rfl) (fun _ _ _ h => h) (Or.inl ⟨by rfl, fun _ _ => by rfl⟩) hS ?_
        simp only [Act.put, List.setIfInBounds_toArray, List.set_cons_zero, List.set_cons_succ]
        clear hS
        intro hS
        refine' anyL_take [] (i := 25) (v := (.pointer (some ⟨g, 1, none⟩))) rfl (by kernel_rfl) (by kernel_rfl) (by kernel_rfl) (by kernel_rfl) (by kernel_rfl) (fun _ _ _ h => h) (Or.inl ⟨by rfl, fun _ _ => by rfl⟩) hS ?_
        simp only [Act.put, List.setIfInBounds_toArray, List.set_cons_zero, List.set_cons_succ]
        clear hS
        intro hS
        refine anyL_ready (rs := [26]) (by kernel_rfl) (by simp) (eachL_cons rfl (fun K hK => ?_) eachL_nil)
        refine ready_skip (by rfl) (Eq.trans (by kernel_rfl) (op_u (store_net hg2 A2 (s.ts ++ [v + 1]).length c2).2)) ?_
        simp only [Act.put, List.setIfInBounds_toArray, List.set_cons_zero, List.set_cons_succ]
        have hg3 := hg2.setRow (ds := #[.slice A1 (s.ps ++ [p]).length c1, .slice A2 (s.ts ++ [v + 1]).length c2, .map (some B.cg), .map (some B.fg)])
        refine hK.out _ _ (gated_done ⟨(hb.setRow_far n2 _).setRow_far n2 _, hg3.cl 2, (hc.setRow_far n1 _).setRow_far n1 _⟩ (by kernel_rfl)) (fun hN => ?_)
        clear hK K hS hN
        refine anyL_done (by kernel_rfl) ?_ _
        have HF := Lib.hid (fin12 Xa4.out (fun _ hx => List.mem_cons_of_mem _ (List.mem_cons_of_mem _ (hx))) H.out HP.out hv hl (by rw [hh]; rfl) #[.slice A1 (s.ps ++ [p]).length c1, B.vt, .map (some B.cg), .map (some B.fg)])
        obtain ⟨w13, hw13⟩ : ∃ W, (wa4.setRow g #[.slice A1 (s.ps ++ [p]).length c1, B.vt, .map (some B.cg), .map (some B.fg)]).setRow g #[.slice A1 (s.ps ++ [p]).length c1, .slice A2 (s.ts ++ [v + 1]).length c2, .map (some B.cg), .map (some B.fg)] = W := ⟨_, rfl⟩
        rw [hw13] at HF ⊢
        clear hw13 hg3 hg2 hg hb hc Xa4
        go_wp2
        go_ret2
        exact ⟨rfl, _, HF.out.1, HF.out.2.1, HF.out.2.2⟩
      · refine ready_value (v := .slice (some ⟨wa1.heap.size, 0, none⟩) 1 1) (w' := wa1.alloc (litI (v + 1))) (by rfl) (by kernel_rfl) ?_
        simp only [Act.put, List.setIfInBounds_toArray, List.set_cons_zero, List.set_cons_succ]
        have Xa5 := Lib.hid (Xa1.out.alloc (litI (v + 1)))
        refine hK.out _ _ (gated_12 Xa5.out (fun _ hx => List.mem_cons_of_mem _ (List.mem_cons_of_mem _ (hx)))) (fun hN => ?_)
        clear hK K hS
        have hS := hN
        clear hN
        obtain ⟨k19, hk19⟩ : ∃ k, wa1.heap.size = k := ⟨_, rfl⟩
        obtain ⟨wa5, hwa⟩ : ∃ k, wa1.alloc (litI (v + 1)) = k := ⟨_, rfl⟩
        rw [hk19, hwa] at Xa5
        rw [hwa] at hS
        rw [hk19, hwa]
        clear hk19 hwa Xa1
        refine anyL_ready (rs := [8]) (by kernel_rfl) (by simp) (eachL_cons rfl (fun K hK => ?_) eachL_nil)
        obtain ⟨vp', wa6, hr, hx⟩ := Xa5.out.app1 (fun k hk => .inr (.inr (.inr (.inl hk)))) p k7 (by simp) H.out.len 1
        have Xa6 := Lib.hid hx
        clear hx
        refine ready_value (by rfl) (exec_append rfl rfl rfl hr) ?_
        simp only [Act.put, List.setIfInBounds_toArray, List.set_cons_zero, List.set_cons_succ]
        refine hK.out _ _ (gated_12 Xa6.out (fun _ hx => List.mem_cons_of_mem _ (List.mem_cons_of_mem _ (hx)))) (fun hN => ?_)
        clear hK K hS hr
        have hS := hN
        clear hN
        clear Xa5
        refine anyL_ready (rs := [20]) (by kernel_rfl) (by simp) (eachL_cons rfl (fun K hK => ?_) eachL_nil)
        obtain ⟨vt', wa7, hr, hx⟩ := Xa6.out.app2 (fun k hk => .inr (.inr (.inr (.inr hk)))) (v + 1) k19 (by simp) (by rw [H.out.tl]; exact H.out.len) 1
        have Xa7 := Lib.hid hx
        clear hx
        refine ready_value (by rfl) (exec_append rfl rfl rfl hr) ?_
        simp only [Act.put, List.setIfInBounds_toArray, List.set_cons_zero, List.set_cons_succ]
        refine hK.out _ _ (gated_12 Xa7.out (fun _ hx => List.mem_cons_of_mem _ (List.mem_cons_of_mem _ (hx)))) (fun hN => ?_)
        clear hK K hS hr
        have hS := hN
        clear hN
        clear Xa6
        obtain ⟨A1, c1, ev1, _, _⟩ := row_val Xa7.out.own1
        subst ev1
        obtain ⟨A2, c2, ev2, _, _⟩ := row_val Xa7.out.own2
        subst ev2
        refine' anyL_take [] (i := 21) (v := (.pointer (some ⟨g, 0, none⟩))) rfl (by kernel_rfl) (by kernel_rfl) (by kernel_rfl) (by kernel_rfl) (by kernel_rfl) (fun _ _ _ h => h) (Or.inl ⟨by rfl, fun _ _ => by rfl⟩) hS ?_
        simp only [Act.put, List.setIfInBounds_toArray, List.set_cons_zero, List.set_cons_succ]
        clear hS
        intro hS
        refine' anyL_take [] (i := 22) (v := (.pointer (some ⟨g, 0, none⟩))) rfl (by kernel_rfl) (by kernel_rfl) (by kernel_rfl) (by kernel_rfl) (by kernel_rfl) (fun _ _ _ h => h) (Or.inl ⟨by rfl, fun _ _ => by rfl⟩) hS ?_
        simp only [Act.put, List.setIfInBounds_toArray, List.set_cons_zero, List.set_cons_succ]
        clear hS
        intro hS
        have hg : Holds wa7 g (.cells #[B.vp, B.vt, .map (some B.cg), .map (some B.fg)] 49) := (Xa7.out.hold (g, B.obj) (by simp [rest12])).1
        have hb : Holds wa7 w.heap.size p.obj := (Xa7.out.hold (w.heap.size, p.obj) (by simp [rest12])).1
        have hc : Holds wa7 B.cg (objIn PostV.val (putIn p (v + 1) s.cnt)) := (Xa7.out.hold (B.cg, objIn PostV.val (putIn p (v + 1) s.cnt)) (by simp [rest12])).1
        have n1 : B.cg ≠ g := H.out.cg_ne
        have n2 : w.heap.size ≠ g := fun e => by have := H.out.box.lt; omega
        refine anyL_ready (rs := [23]) (by kernel_rfl) (by simp) (eachL_cons rfl (fun K hK => ?_) eachL_nil)
        refine ready_skip (by rfl) (Eq.trans (by kernel_rfl) (op_u (store_net hg A1 (s.ps ++ [p]).length c1).1)) ?_
        simp only [Act.put, List.setIfInBounds_toArray, List.set_cons_zero, List.set_cons_succ]
        have hg2 := hg.setRow (ds := #[.slice A1 (s.ps ++ [p]).length c1, B.vt, .map (some B.cg), .map (some B.fg)])
        refine hK.out _ _ (gated_done ⟨hb.setRow_far n2 _, hg2.cl 2, hc.setRow_far n1 _⟩ (by kernel_rfl)) (fun hN => ?_)
        clear hK K hS
        have hS := hN
        clear hN
        refine' anyL_take [] (i := 24) (v := (.pointer (some ⟨g, 0, none⟩))) rfl (by kernel_rfl) (by kernel_rfl) (by kernel_rfl) (by kernel_rfl) (by kernel_rfl) (fun _ _ _ h => h) (Or.inl ⟨by rfl, fun _ _ => by rfl⟩) hS ?_
        simp only [Act.put, List.setIfInBounds_toArray, List.set_cons_zero, List.set_cons_succ]
        clear hS
        intro hS
        refine' anyL_take [] (i := 25) (v := (.pointer (some ⟨g, 1, none⟩))) rfl (by kernel_rfl) (by kernel_rfl) (by kernel_rfl) (by kernel_rfl) (by kernel_rfl) (fun _ _ _ h => h) (Or.inl ⟨by rfl, fun _ _ => by rfl⟩) hS ?_
        simp only [Act.put, List.setIfInBounds_toArray, List.set_cons_zero, List.set_cons_succ]
        clear hS
        intro hS
        refine anyL_ready (rs := [26]) (by kernel_rfl) (by simp) (eachL_cons rfl (fun K hK => ?_) eachL_nil)
        refine ready_skip (by rfl) (Eq.trans (by kernel_rfl) (op_u (store_net hg2 A2 (s.ts ++ [v + 1]).length c2).2)) ?_
        simp only [Act.put, List.setIfInBounds_toArray, List.set_cons_zero, List.set_cons_succ]
        have hg3 := hg2.setRow (ds := #[.slice A1 (s.ps ++ [p]).length c1, .slice A2 (s.ts ++ [v + 1]).length c2, .map (some B.cg), .map (some B.fg)])
        refine hK.out _ _ (gated_done ⟨(hb.setRow_far n2 _).setRow_far n2 _, hg3.cl 2, (hc.setRow_far n1 _).setRow_far n1 _⟩ (by kernel_rfl)) (fun hN => ?_)
        clear hK K hS hN
        refine anyL_done (by kernel_rfl) ?_ _
        have HF := Lib.hid (fin12 Xa7.out (fun _ hx => List.mem_cons_of_mem _ (List.mem_cons_of_mem _ (hx))) H.out HP.out hv hl (by rw [hh]; rfl) #[.slice A1 (s.ps ++ [p]).length c1, B.vt, .map (some B.cg), .map (some B.fg)])
        obtain ⟨w13, hw13⟩ : ∃ W, (wa7.setRow g #[.slice A1 (s.ps ++ [p]).length c1, B.vt, .map (some B.cg), .map (some B.fg)]).setRow g #[.slice A1 (s.ps ++ [p]).length c1, .slice A2 (s.ts ++ [v + 1]).length c2, .map (some B.cg), .map (some B.fg)] = W := ⟨_, rfl⟩
        rw [hw13] at HF ⊢
        clear hw13 hg3 hg2 hg hb hc Xa7
        go_wp2
        go_ret2
        exact ⟨rfl, _, HF.out.1, HF.out.2.1, HF.out.2.2⟩
    · refine ready_value (v := .slice (some ⟨w12.heap.size, 0, none⟩) 1 1) (w' := w12.alloc (litI (v + 1))) (by rfl) (by kernel_rfl) ?_
      simp only [Act.put, List.setIfInBounds_toArray, List.set_cons_zero, List.set_cons_succ]
      have Xa8 := Lib.hid (X.out.alloc (litI (v + 1)))
      refine hK.out _ _ (gated_12 Xa8.out (fun _ hx => List.mem_cons_of_mem _ (hx))) (fun hN => ?_)
      clear hK K hS
      have hS := hN
      clear hN
      obtain ⟨k19, hk19⟩ : ∃ k, w12.heap.size = k := ⟨_, rfl⟩
      obtain ⟨wa8, hwa⟩ : ∃ k, w12.alloc (litI (v + 1)) = k := ⟨_, rfl⟩
      rw [hk19, hwa] at Xa8
      rw [hwa] at hS
      rw [hk19, hwa]
      clear hk19 hwa X
      refine anyL_ready (rs := [7]) (by kernel_rfl) (by simp) (eachL_cons rfl (fun K hK => ?_) eachL_nil)
      refine ready_value (v := .slice (some ⟨wa8.heap.size, 0, none⟩) 1 1) (w' := wa8.alloc p.obj) (by rfl) (by kernel_rfl) ?_
      simp only [Act.put, List.setIfInBounds_toArray, List.set_cons_zero, List.set_cons_succ]
      have Xa9 := Lib.hid (Xa8.out.alloc p.obj)
      refine hK.out _ _ (gated_12 Xa9.out (fun _ hx => List.mem_cons_of_mem _ (List.mem_cons_of_mem _ (hx)))) (fun hN => ?_)
      clear hK K hS
      have hS := hN
      clear hN
      obtain ⟨k7, hk7⟩ : ∃ k, wa8.heap.size = k := ⟨_, rfl⟩
      obtain ⟨wa9, hwa⟩ : ∃ k, wa8.alloc p.obj = k := ⟨_, rfl⟩
      rw [hk7, hwa] at Xa9
      rw [hwa] at hS
      rw [hk7, hwa]
      clear hk7 hwa Xa8
      refine anyL_ready (rs := [8]) (by kernel_rfl) (by simp) (eachL_cons rfl (fun K hK => ?_) eachL_nil)
      obtain ⟨vp', wa10, hr, hx⟩ := Xa9.out.app1 (fun k hk => .inr (.inr (.inr (.inl hk)))) p k7 (by simp) H.out.len 1
      have Xa10 := Lib.hid hx
      clear hx
      refine ready_value (by rfl) (exec_append rfl rfl rfl hr) ?_
      simp only [Act.put, List.setIfInBounds_toArray, List.set_cons_zero, List.set_cons_succ]
      refine hK.out _ _ (gated_12 Xa10.out (fun _ hx => List.mem_cons_of_mem _ (List.mem_cons_of_mem _ (hx)))) (fun hN => ?_)
      clear hK K hS hr
      have hS := hN
      clear hN
      clear Xa9
      refine anyL_ready (rs := [20]) (by kernel_rfl) (by simp) (eachL_cons rfl (fun K hK => ?_) eachL_nil)
      obtain ⟨vt', wa11, hr, hx⟩ := Xa10.out.app2 (fun k hk => .inr (.inr (.inr (.inr hk)))) (v + 1) k19 (by simp) (by rw [H.out.tl]; exact H.out.len) 1
      have Xa11 := Lib.hid hx
      clear hx
      refine ready_value (by rfl) (exec_append rfl rfl rfl hr) ?_
      simp only [Act.put, List.setIfInBounds_toArray, List.set_cons_zero, List.set_cons_succ]
      refine hK.out _ _ (gated_12 Xa11.out (fun _ hx => List.mem_cons_of_mem _ (List.mem_cons_of_mem _ (hx)))) (fun hN => ?_)
      clear hK K hS hr
      have hS := hN
      clear hN
      clear Xa10
      obtain ⟨A1, c1, ev1, _, _⟩ := row_val Xa11.out.own1
      subst ev1
      obtain ⟨A2, c2, ev2, _, _⟩ := row_val Xa11.out.own2
      subst ev2
      refine' anyL_take [] (i := 21) (v := (.pointer (some ⟨g, 0, none⟩))) rfl (by kernel_rfl) (by kernel_rfl) (by kernel_rfl) (by kernel_rfl) (by kernel_rfl) (fun _ _ _ h => h) (Or.inl ⟨by rfl, fun _ _ => by rfl⟩) hS ?_
      simp only [Act.put, List.setIfInBounds_toArray, List.set_cons_zero, List.set_cons_succ]
      clear hS
      intro hS
      refine' anyL_take [] (i := 22) (v := (.pointer (some ⟨g, 0, none⟩))) rfl (by kernel_rfl) (by kernel_rfl) (by kernel_rfl) (by kernel_rfl) (by kernel_rfl) (fun _ _ _ h => h) (Or.inl ⟨by rfl, fun _ _ => by rfl⟩) hS ?_
      simp only [Act.put, List.setIfInBounds_toArray, List.set_cons_zero, List.set_cons_succ]
      clear hS
      intro hS
      have hg : Holds wa11 g (.cells #[B.vp, B.vt, .map (some B.cg), .map (some B.fg)] 49) := (Xa11.out.hold (g, B.obj) (by simp [rest12])).1
      have hb : Holds wa11 w.heap.size p.obj := (Xa11.out.hold (w.heap.size, p.obj) (by simp [rest12])).1
      have hc : Holds wa11 B.cg (objIn PostV.val (putIn p (v + 1) s.cnt)) := (Xa11.out.hold (B.cg, objIn PostV.val (putIn p (v + 1) s.cnt)) (by simp [rest12])).1
      have n1 : B.cg ≠ g := H.out.cg_ne
      have n2 : w.heap.size ≠ g := fun e => by have := H.out.box.lt; omega
      refine anyL_ready (rs := [23]) (by kernel_rfl) (by simp) (eachL_cons rfl (fun K hK => ?_) eachL_nil)
      refine ready_skip (by rfl) (Eq.trans (by kernel_rfl) (op_u (store_net hg A1 (s.ps ++ [p]).length c1).1)) ?_
      simp only [Act.put, List.setIfInBounds_toArray, List.set_cons_zero, List.set_cons_succ]
      have hg2 := hg.setRow (ds := #[.slice A1 (s.ps ++ [p]).length c1, B.vt, .map (some B.cg), .map (some B.fg)])
      refine hK.out _ _ (gated_done ⟨hb.setRow_far n2 _, hg2.cl 2, hc.setRow_far n1 _⟩ (by kernel_rfl)) (fun hN => ?_)
      clear hK K hS
      have hS := hN
      clear hN
      refine' anyL_take [] (i := 24) (v := (.pointer (some ⟨g, 0, none⟩))) rfl (by kernel_rfl) (by kernel_rfl) (by kernel_rfl) (by kernel_rfl) (by kernel_rfl) (fun _ _ _ h => h) (Or.inl ⟨by rfl, fun _ _ => by rfl⟩) hS ?_
      simp only [Act.put, List.setIfInBounds_toArray, List.set_cons_zero, List.set_cons_succ]
      clear hS
      intro hS
      refine' anyL_take [] (i := 25) (v := (.pointer (some ⟨g, 1, none⟩))) rfl (by kernel_rfl) (by kernel_rfl) (by kernel_rfl) (by kernel_rfl) (by kernel_rfl) (fun _ _ _ h => h) (Or.inl ⟨by rfl, fun _ _ => by rfl⟩) hS ?_
      simp only [Act.put, List.setIfInBounds_toArray, List.set_cons_zero, List.set_cons_succ]
      clear hS
      intro hS
      refine anyL_ready (rs := [26]) (by kernel_rfl) (by simp) (eachL_cons rfl (fun K hK => ?_) eachL_nil)
      refine ready_skip (by rfl) (Eq.trans (by kernel_rfl) (op_u (store_net hg2 A2 (s.ts ++ [v + 1]).length c2).2)) ?_
      simp only [Act.put, List.setIfInBounds_toArray, List.set_cons_zero, List.set_cons_succ]
      have hg3 := hg2.setRow (ds := #[.slice A1 (s.ps ++ [p]).length c1, .slice A2 (s.ts ++ [v + 1]).length c2, .map (some B.cg), .map (some B.fg)])
      refine hK.out _ _ (gated_done ⟨(hb.setRow_far n2 _).setRow_far n2 _, hg3.cl 2, (hc.setRow_far n1 _).setRow_far n1 _⟩ (by kernel_rfl)) (fun hN => ?_)
      clear hK K hS hN
      refine anyL_done (by kernel_rfl) ?_ _
      have HF := Lib.hid (fin12 Xa11.out (fun _ hx => List.mem_cons_of_mem _ (List.mem_cons_of_mem _ (hx))) H.out HP.out hv hl (by rw [hh]; rfl) #[.slice A1 (s.ps ++ [p]).length c1, B.vt, .map (some B.cg), .map (some B.fg)])
      obtain ⟨w13, hw13⟩ : ∃ W, (wa11.setRow g #[.slice A1 (s.ps ++ [p]).length c1, B.vt, .map (some B.cg), .map (some B.fg)]).setRow g #[.slice A1 (s.ps ++ [p]).length c1, .slice A2 (s.ts ++ [v + 1]).length c2, .map (some B.cg), .map (some B.fg)] = W := ⟨_, rfl⟩
      rw [hw13] at HF ⊢
      clear hw13 hg3 hg2 hg hb hc Xa11
      go_wp2
      go_ret2
      exact ⟨rfl, _, HF.out.1, HF.out.2.1, HF.out.2.2⟩
  | false =>
    replace lk2 := lk2 false hh
    go_upto_region 9 with fail
    have M9 := Lib.hid M8c.out.drew
    refine anyL_region (S := Gated (fun W => Holds W w.heap.size p.obj ∧ Holds W g B.obj ∧ Holds W B.fg (objIn strV s.fst)) []) (by kernel_rfl) ?_
    obtain ⟨w9, hw9⟩ : ∃ wd, (w8).drew = wd := ⟨_, rfl⟩
    rw [hw9] at M9 ⊢
    clear hw9 M8c
    have hS : Gated (fun W => Holds W w.heap.size p.obj ∧ Holds W g B.obj ∧ Holds W B.fg (objIn strV s.fst)) [] (Array.replicate 12 false) w9 := ⟨⟨M9.out.post, M9.out.box, M9.out.fst⟩, fun x hx => by cases hx⟩
    simp only [List.size_toArray, List.length_cons, List.length_nil]
    refine' anyL_take [] (i := 0) (v := (.pointer (some ⟨g, 0, none⟩))) rfl (by kernel_rfl) (by kernel_rfl) (by kernel_rfl) (by kernel_rfl) (by kernel_rfl) (fun _ _ _ h => h) (Or.inl ⟨by rfl, fun _ _ => by rfl⟩) hS ?_
    simp only [Act.put, List.setIfInBounds_toArray, List.set_cons_zero, List.set_cons_succ]
    clear hS
    intro hS
    refine' anyL_take [] (i := 1) (v := (.pointer (some ⟨g, 0, none⟩))) rfl (by kernel_rfl) (by kernel_rfl) (by kernel_rfl) (by kernel_rfl) (by kernel_rfl) (fun _ _ _ h => h) (Or.inl ⟨by rfl, fun _ _ => by rfl⟩) hS ?_
    simp only [Act.put, List.setIfInBounds_toArray, List.set_cons_zero, List.set_cons_succ]
    clear hS
    intro hS
    refine' anyL_take [] (i := 2) (v := (.pointer (some ⟨g, 3, none⟩))) rfl (by kernel_rfl) (by kernel_rfl) (by kernel_rfl) (by kernel_rfl) (by kernel_rfl) (fun _ _ _ h => h) (Or.inl ⟨by rfl, fun _ _ => by rfl⟩) hS ?_
    simp only [Act.put, List.setIfInBounds_toArray, List.set_cons_zero, List.set_cons_succ]
    clear hS
    intro hS
    refine' anyL_take [] (i := 3) (v := (.map (some B.fg))) rfl (by kernel_rfl) (by kernel_rfl) (by kernel_rfl) (by kernel_rfl) (by kernel_rfl) (fun _ _ _ h => h) (yieldsIf_load_run (by rfl) rfl (fun _ h => ld_cell (h.1.2.1.cl 3) Try.underlying47 rfl)) hS ?_
    simp only [Act.put, List.setIfInBounds_toArray, List.set_cons_zero, List.set_cons_succ]
    clear hS
    intro hS
    refine' anyL_take [] (i := 4) (v := (.pointer (some ⟨w.heap.size, 2, none⟩))) rfl (by kernel_rfl) (by kernel_rfl) (by kernel_rfl) (by kernel_rfl) (by kernel_rfl) (fun _ _ _ h => h) (Or.inl ⟨by rfl, fun _ _ => by rfl⟩) hS ?_
    simp only [Act.put, List.setIfInBounds_toArray, List.set_cons_zero, List.set_cons_succ]
    clear hS
    intro hS
    refine' anyL_take [] (i := 5) (v := (.string p.env)) rfl (by kernel_rfl) (by kernel_rfl) (by kernel_rfl) (by kernel_rfl) (by kernel_rfl) (fun _ _ _ h => h) (yieldsIf_load_run (by rfl) rfl (fun _ h => ld_cell (h.1.1.cl 2) Try.underlying9 rfl)) hS ?_
    simp only [Act.put, List.setIfInBounds_toArray, List.set_cons_zero, List.set_cons_succ]
    clear hS
    intro hS
    refine' anyL_take [] (i := 6) (v := (.tuple #[.int .i64 (valIn p.env s.fst), .bool false])) rfl (by kernel_rfl) (by kernel_rfl) (by kernel_rfl) (by kernel_rfl) (by kernel_rfl) (fun _ _ _ h => h) (Or.inl ⟨by rfl, fun W h => Eq.trans (by kernel_rfl) (op_v (lk2 W h.1.2.2))⟩) hS ?_
    simp only [Act.put, List.setIfInBounds_toArray, List.set_cons_zero, List.set_cons_succ]
    clear hS
    intro hS
    refine' anyL_take [] (i := 7) (v := (.tuple #[.int .i64 (valIn p.env s.fst), .bool false])) rfl (by kernel_rfl) (by kernel_rfl) (by kernel_rfl) (by kernel_rfl) (by kernel_rfl) (fun _ _ _ h => h) (Or.inl ⟨by rfl, fun _ _ => by rfl⟩) hS ?_
    simp only [Act.put, List.setIfInBounds_toArray, List.set_cons_zero, List.set_cons_succ]
    clear hS
    intro hS
    refine' anyL_take [] (i := 8) (v := (.int .i64 (valIn p.env s.fst))) rfl (by kernel_rfl) (by kernel_rfl) (by kernel_rfl) (by kernel_rfl) (by kernel_rfl) (fun _ _ _ h => h) (Or.inl ⟨by rfl, fun _ _ => by rfl⟩) hS ?_
    simp only [Act.put, List.setIfInBounds_toArray, List.set_cons_zero, List.set_cons_succ]
    clear hS
    intro hS
    refine' anyL_take [] (i := 9) (v := (.bool false)) rfl (by kernel_rfl) (by kernel_rfl) (by kernel_rfl) (by kernel_rfl) (by kernel_rfl) (fun _ _ _ h => h) (Or.inl ⟨by rfl, fun _ _ => by rfl⟩) hS ?_
    simp only [Act.put, List.setIfInBounds_toArray, List.set_cons_zero, List.set_cons_succ]
    clear hS
    intro hS
    refine' anyL_take [] (i := 10) (v := (.int .i64 (valIn p.env s.fst))) rfl (by kernel_rfl) (by kernel_rfl) (by kernel_rfl) (by kernel_rfl) (by kernel_rfl) (fun _ _ _ h => h) (Or.inl ⟨by rfl, fun _ _ => by rfl⟩) hS ?_
    simp only [Act.put, List.setIfInBounds_toArray, List.set_cons_zero, List.set_cons_succ]
    clear hS
    intro hS
    refine' anyL_take [] (i := 11) (v := (.bool false)) rfl (by kernel_rfl) (by kernel_rfl) (by kernel_rfl) (by kernel_rfl) (by kernel_rfl) (fun _ _ _ h => h) (Or.inl ⟨by rfl, fun _ _ => by rfl⟩) hS ?_
    simp only [Act.put, List.setIfInBounds_toArray, List.set_cons_zero, List.set_cons_succ]
    clear hS
    intro hS
    refine anyL_done (by kernel_rfl) ?_ _
    clear hS lk2
    go_upto_region 11 with fail
    have M11 := Lib.hid M9.out.drew
    refine anyL_region (S := Gated (fun W => Holds W w.heap.size p.obj ∧ Holds W g B.obj) []) (by kernel_rfl) ?_
    obtain ⟨w11, hw11⟩ : ∃ wd, (w9).drew = wd := ⟨_, rfl⟩
    rw [hw11] at M11 ⊢
    clear hw11 M9
    have hS : Gated (fun W => Holds W w.heap.size p.obj ∧ Holds W g B.obj) [] (Array.replicate 8 false) w11 := ⟨⟨M11.out.post, M11.out.box⟩, fun x hx => by cases hx⟩
    simp only [List.size_toArray, List.length_cons, List.length_nil]
    refine' anyL_take [] (i := 0) (v := (.pointer (some ⟨g, 0, none⟩))) rfl (by kernel_rfl) (by kernel_rfl) (by kernel_rfl) (by kernel_rfl) (by kernel_rfl) (fun _ _ _ h => h) (Or.inl ⟨by rfl, fun _ _ => by rfl⟩) hS ?_
    simp only [Act.put, List.setIfInBounds_toArray, List.set_cons_zero, List.set_cons_succ]
    clear hS
    intro hS
    refine' anyL_take [] (i := 1) (v := (.pointer (some ⟨g, 0, none⟩))) rfl (by kernel_rfl) (by kernel_rfl) (by kernel_rfl) (by kernel_rfl) (by kernel_rfl) (fun _ _ _ h => h) (Or.inl ⟨by rfl, fun _ _ => by rfl⟩) hS ?_
    simp only [Act.put, List.setIfInBounds_toArray, List.set_cons_zero, List.set_cons_succ]
    clear hS
    intro hS
    refine' anyL_take [] (i := 2) (v := (.pointer (some ⟨g, 3, none⟩))) rfl (by kernel_rfl) (by kernel_rfl) (by kernel_rfl) (by kernel_rfl) (by kernel_rfl) (fun _ _ _ h => h) (Or.inl ⟨by rfl, fun _ _ => by rfl⟩) hS ?_
    simp only [Act.put, List.setIfInBounds_toArray, List.set_cons_zero, List.set_cons_succ]
    clear hS
    intro hS
    refine' anyL_take [] (i := 3) (v := (.map (some B.fg))) rfl (by kernel_rfl) (by kernel_rfl) (by kernel_rfl) (by kernel_rfl) (by kernel_rfl) (fun _ _ _ h => h) (yieldsIf_load_run (by rfl) rfl (fun _ h => ld_cell (h.1.2.cl 3) Try.underlying47 rfl)) hS ?_
    simp only [Act.put, List.setIfInBounds_toArray, List.set_cons_zero, List.set_cons_succ]
    clear hS
    intro hS
    refine' anyL_take [] (i := 4) (v := (.pointer (some ⟨w.heap.size, 2, none⟩))) rfl (by kernel_rfl) (by kernel_rfl) (by kernel_rfl) (by kernel_rfl) (by kernel_rfl) (fun _ _ _ h => h) (Or.inl ⟨by rfl, fun _ _ => by rfl⟩) hS ?_
    simp only [Act.put, List.setIfInBounds_toArray, List.set_cons_zero, List.set_cons_succ]
    clear hS
    intro hS
    refine' anyL_take [] (i := 5) (v := (.string p.env)) rfl (by kernel_rfl) (by kernel_rfl) (by kernel_rfl) (by kernel_rfl) (by kernel_rfl) (fun _ _ _ h => h) (yieldsIf_load_run (by rfl) rfl (fun _ h => ld_cell (h.1.1.cl 2) Try.underlying9 rfl)) hS ?_
    simp only [Act.put, List.setIfInBounds_toArray, List.set_cons_zero, List.set_cons_succ]
    clear hS
    intro hS
    refine' anyL_take [] (i := 6) (v := (.int .i64 (s.ps.length : Int))) rfl (by kernel_rfl) (by kernel_rfl) (by kernel_rfl) (by kernel_rfl) (by kernel_rfl) (fun _ _ _ h => h) (Or.inl ⟨by rfl, fun _ _ => by rfl⟩) hS ?_
    simp only [Act.put, List.setIfInBounds_toArray, List.set_cons_zero, List.set_cons_succ]
    clear hS
    intro hS
    have hup := run_mapUpdate Try.underlying47 keys_str M11.out.fst p.env (s.ps.length : Int) hh
    have M11b := Lib.hid (M11.out.setFst H.out (putIn p.env (s.ps.length : Int) s.fst))
    refine anyL_ready (rs := [7]) (by kernel_rfl) (by simp) (eachL_cons rfl (fun K hK => ?_) eachL_nil)
    refine ready_skip (by rfl) (Eq.trans (by kernel_rfl) (op_u hup)) ?_
    simp only [Act.put, List.setIfInBounds_toArray, List.set_cons_zero, List.set_cons_succ]
    refine hK.out _ _ ⟨⟨M11b.out.post, M11b.out.box⟩, fun x hx => by cases hx⟩ (fun hN => ?_)
    clear hK K hS
    have hS := hN
    clear hN
    refine anyL_done (by kernel_rfl) ?_ _
    obtain ⟨w10, hw10⟩ : ∃ we, mapTo w11 B.fg (objIn strV (putIn p.env (s.ps.length : Int) s.fst)) = we := ⟨_, rfl⟩
    rw [hw10] at M11b ⊢
    clear hw10 hS hup M11 w11
    go_upto_region 12 with fail
    have M12 := Lib.hid M11b.out.drew
    refine anyL_region (S := Gated (fun W => Holds W w.heap.size p.obj ∧ W.cell? ⟨g, 2, none⟩ = some (.map (some B.cg)) ∧ Holds W B.cg (objIn PostV.val (putIn p (v + 1) s.cnt))) [(8, fun W => W.cell? ⟨g, 0, none⟩ = some B.vp), (20, fun W => W.cell? ⟨g, 1, none⟩ = some B.vt)]) (by kernel_rfl) ?_
    obtain ⟨w12, hw12⟩ : ∃ wd, (w10).drew = wd := ⟨_, rfl⟩
    rw [hw12] at M12 ⊢
    clear hw12 M11b
    have X := Lib.hid (M12.out.rows H.out)
    have hS : Gated (fun W => Holds W w.heap.size p.obj ∧ W.cell? ⟨g, 2, none⟩ = some (.map (some B.cg)) ∧ Holds W B.cg (objIn PostV.val (putIn p (v + 1) s.cnt))) [(8, fun W => W.cell? ⟨g, 0, none⟩ = some B.vp), (20, fun W => W.cell? ⟨g, 1, none⟩ = some B.vt)] (Array.replicate 27 false) w12 := gated_12 X.out (fun _ h => h)
    simp only [List.size_toArray, List.length_cons, List.length_nil]
    refine' anyL_take [] (i := 0) (v := (.pointer (some ⟨g, 0, none⟩))) rfl (by kernel_rfl) (by kernel_rfl) (by kernel_rfl) (by kernel_rfl) (by kernel_rfl) (fun _ _ _ h => h) (Or.inl ⟨by rfl, fun _ _ => by rfl⟩) hS ?_
    simp only [Act.put, List.setIfInBounds_toArray, List.set_cons_zero, List.set_cons_succ]
    clear hS
    intro hS
    refine' anyL_take [] (i := 1) (v := (.pointer (some ⟨g, 0, none⟩))) rfl (by kernel_rfl) (by kernel_rfl) (by kernel_rfl) (by kernel_rfl) (by kernel_rfl) (fun _ _ _ h => h) (Or.inl ⟨by rfl, fun _ _ => by rfl⟩) hS ?_
    simp only [Act.put, List.setIfInBounds_toArray, List.set_cons_zero, List.set_cons_succ]
    clear hS
    intro hS
    refine' anyL_take [] (i := 2) (v := (.pointer (some ⟨g, 0, none⟩))) rfl (by kernel_rfl) (by kernel_rfl) (by kernel_rfl) (by kernel_rfl) (by kernel_rfl) (fun _ _ _ h => h) (Or.inl ⟨by rfl, fun _ _ => by rfl⟩) hS ?_
    simp only [Act.put, List.setIfInBounds_toArray, List.set_cons_zero, List.set_cons_succ]
    clear hS
    intro hS
    refine' anyL_take [] (i := 3) (v := (.pointer (some ⟨g, 0, none⟩))) rfl (by kernel_rfl) (by kernel_rfl) (by kernel_rfl) (by kernel_rfl) (by kernel_rfl) (fun _ _ _ h => h) (Or.inl ⟨by rfl, fun _ _ => by rfl⟩) hS ?_
    simp only [Act.put, List.setIfInBounds_toArray, List.set_cons_zero, List.set_cons_succ]
    clear hS
    intro hS
    refine' anyL_take [] (i := 4) (v := (.pointer (some ⟨g, 0, none⟩))) rfl (by kernel_rfl) (by kernel_rfl) (by kernel_rfl) (by kernel_rfl) (by kernel_rfl) (fun _ _ _ h => h) (Or.inl ⟨by rfl, fun _ _ => by rfl⟩) hS ?_
    simp only [Act.put, List.setIfInBounds_toArray, List.set_cons_zero, List.set_cons_succ]
    clear hS
    intro hS
    refine' anyL_take [8] (i := 5) (v := B.vp) rfl (by kernel_rfl) (by kernel_rfl) (by kernel_rfl) (by kernel_rfl) (by kernel_rfl) (fun _ _ _ h => h) (yieldsIf_load_run (by rfl) rfl (fun _ h => ld_cell (h.2 _ (List.mem_cons_self ..) (List.mem_cons_self ..)) Try.underlying35 rfl)) hS ?_
    simp only [Act.put, List.setIfInBounds_toArray, List.set_cons_zero, List.set_cons_succ]
    clear hS
    intro hS
    refine' anyL_take [] (i := 6) (v := p.val) rfl (by kernel_rfl) (by kernel_rfl) (by kernel_rfl) (by kernel_rfl) (by kernel_rfl) (fun _ _ _ h => h) (yieldsIf_load_run (by rfl) rfl (fun _ h => ld_post h.1.1)) hS ?_
    simp only [Act.put, List.setIfInBounds_toArray, List.set_cons_zero, List.set_cons_succ]
    clear hS
    intro hS
    refine' anyL_take [] (i := 9) (v := (.pointer (some ⟨g, 0, none⟩))) rfl (by kernel_rfl) (by kernel_rfl) (by kernel_rfl) (by kernel_rfl) (by kernel_rfl) (fun _ _ _ h => h) (Or.inl ⟨by rfl, fun _ _ => by rfl⟩) hS ?_
    simp only [Act.put, List.setIfInBounds_toArray, List.set_cons_zero, List.set_cons_succ]
    clear hS
    intro hS
    refine' anyL_take [] (i := 10) (v := (.pointer (some ⟨g, 0, none⟩))) rfl (by kernel_rfl) (by kernel_rfl) (by kernel_rfl) (by kernel_rfl) (by kernel_rfl) (fun _ _ _ h => h) (Or.inl ⟨by rfl, fun _ _ => by rfl⟩) hS ?_
    simp only [Act.put, List.setIfInBounds_toArray, List.set_cons_zero, List.set_cons_succ]
    clear hS
    intro hS
    refine' anyL_take [] (i := 11) (v := (.pointer (some ⟨g, 1, none⟩))) rfl (by kernel_rfl) (by kernel_rfl) (by kernel_rfl) (by kernel_rfl) (by kernel_rfl) (fun _ _ _ h => h) (Or.inl ⟨by rfl, fun _ _ => by rfl⟩) hS ?_
    simp only [Act.put, List.setIfInBounds_toArray, List.set_cons_zero, List.set_cons_succ]
    clear hS
    intro hS
    refine' anyL_take [20] (i := 12) (v := B.vt) rfl (by kernel_rfl) (by kernel_rfl) (by kernel_rfl) (by kernel_rfl) (by kernel_rfl) (fun _ _ _ h => h) (yieldsIf_load_run (by rfl) rfl (fun _ h => ld_cell (h.2 _ (List.mem_cons_of_mem _ (List.mem_cons_self ..)) (List.mem_cons_self ..)) Try.underlying41 rfl)) hS ?_
    simp only [Act.put, List.setIfInBounds_toArray, List.set_cons_zero, List.set_cons_succ]
    clear hS
    intro hS
    refine' anyL_take [] (i := 13) (v := (.pointer (some ⟨g, 0, none⟩))) rfl (by kernel_rfl) (by kernel_rfl) (by kernel_rfl) (by kernel_rfl) (by kernel_rfl) (fun _ _ _ h => h) (Or.inl ⟨by rfl, fun _ _ => by rfl⟩) hS ?_
    simp only [Act.put, List.setIfInBounds_toArray, List.set_cons_zero, List.set_cons_succ]
    clear hS
    intro hS
    refine' anyL_take [] (i := 14) (v := (.pointer (some ⟨g, 0, none⟩))) rfl (by kernel_rfl) (by kernel_rfl) (by kernel_rfl) (by kernel_rfl) (by kernel_rfl) (fun _ _ _ h => h) (Or.inl ⟨by rfl, fun _ _ => by rfl⟩) hS ?_
    simp only [Act.put, List.setIfInBounds_toArray, List.set_cons_zero, List.set_cons_succ]
    clear hS
    intro hS
    refine' anyL_take [] (i := 15) (v := (.pointer (some ⟨g, 2, none⟩))) rfl (by kernel_rfl) (by kernel_rfl) (by kernel_rfl) (by kernel_rfl) (by kernel_rfl) (fun _ _ _ h => h) (Or.inl ⟨by rfl, fun _ _ => by rfl⟩) hS ?_
    simp only [Act.put, List.setIfInBounds_toArray, List.set_cons_zero, List.set_cons_succ]
    clear hS
    intro hS
    refine' anyL_take [] (i := 16) (v := (.map (some B.cg))) rfl (by kernel_rfl) (by kernel_rfl) (by kernel_rfl) (by kernel_rfl) (by kernel_rfl) (fun _ _ _ h => h) (yieldsIf_load_run (by rfl) rfl (fun _ h => ld_cell h.1.2.1 Try.underlying46 rfl)) hS ?_
    simp only [Act.put, List.setIfInBounds_toArray, List.set_cons_zero, List.set_cons_succ]
    clear hS
    intro hS
    refine' anyL_take [] (i := 17) (v := p.val) rfl (by kernel_rfl) (by kernel_rfl) (by kernel_rfl) (by kernel_rfl) (by kernel_rfl) (fun _ _ _ h => h) (yieldsIf_load_run (by rfl) rfl (fun _ h => ld_post h.1.1)) hS ?_
    simp only [Act.put, List.setIfInBounds_toArray, List.set_cons_zero, List.set_cons_succ]
    clear hS
    intro hS
    refine' anyL_take [] (i := 18) (v := (.int .i64 (v + 1))) rfl (by kernel_rfl) (by kernel_rfl) (by kernel_rfl) (by kernel_rfl) (by kernel_rfl) (fun _ _ _ h => h) (Or.inl ⟨by rfl, fun W h => Eq.trans (by kernel_rfl) (op_v (lk W _ _ h.1.2.2 (valIn_self _ _ _)))⟩) hS ?_
    simp only [Act.put, List.setIfInBounds_toArray, List.set_cons_zero, List.set_cons_succ]
    clear hS
    intro hS
    refine anyL_ready (rs := [7, 19]) (by kernel_rfl) (by simp) (eachL_cons rfl (fun K hK => ?_) (eachL_cons rfl (fun K hK => ?_) eachL_nil))
    · refine ready_value (v := .slice (some ⟨w12.heap.size, 0, none⟩) 1 1) (w' := w12.alloc p.obj) (by rfl) (by kernel_rfl) ?_
      simp only [Act.put, List.setIfInBounds_toArray, List.set_cons_zero, List.set_cons_succ]
      have Xa12 := Lib.hid (X.out.alloc p.obj)
      refine hK.out _ _ (gated_12 Xa12.out (fun _ hx => List.mem_cons_of_mem _ (hx))) (fun hN => ?_)
      clear hK K hS
      have hS := hN
      clear hN
      obtain ⟨k7, hk7⟩ : ∃ k, w12.heap.size = k := ⟨_, rfl⟩
      obtain ⟨wa12, hwa⟩ : ∃ k, w12.alloc p.obj = k := ⟨_, rfl⟩
      rw [hk7, hwa] at Xa12
      rw [hwa] at hS
      rw [hk7, hwa]
      clear hk7 hwa X
      refine anyL_ready (rs := [8, 19]) (by kernel_rfl) (by simp) (eachL_cons rfl (fun K hK => ?_) (eachL_cons rfl (fun K hK => ?_) eachL_nil))
      · obtain ⟨vp', wa13, hr, hx⟩ := Xa12.out.app1 (fun k hk => .inr (.inr (.inr (.inl hk)))) p k7 (by simp) H.out.len 1
        have Xa13 := Lib.hid hx
        clear hx
        refine ready_value (by rfl) (exec_append rfl rfl rfl hr) ?_
        simp only [Act.put, List.setIfInBounds_toArray, List.set_cons_zero, List.set_cons_succ]
        refine hK.out _ _ (gated_12 Xa13.out (fun _ hx => List.mem_cons_of_mem _ (hx))) (fun hN => ?_)
        clear hK K hS hr
        have hS := hN
        clear hN
        clear Xa12
        refine anyL_ready (rs := [19]) (by kernel_rfl) (by simp) (eachL_cons rfl (fun K hK => ?_) eachL_nil)
        refine ready_value (v := .slice (some ⟨wa13.heap.size, 0, none⟩) 1 1) (w' := wa13.alloc (litI (v + 1))) (by rfl) (by kernel_rfl) ?_
        simp only [Act.put, List.setIfInBounds_toArray, List.set_cons_zero, List.set_cons_succ]
        have Xa14 := Lib.hid (Xa13.out.alloc (litI (v + 1)))
        refine hK.out _ _ (gated_12 Xa14.out (fun _ hx => List.mem_cons_of_mem _ (List.mem_cons_of_mem _ (hx)))) (fun hN => ?_)
        clear hK K hS
        have hS := hN
        clear hN
        obtain ⟨k19, hk19⟩ : ∃ k, wa13.heap.size = k := ⟨_, rfl⟩
        obtain ⟨wa14, hwa⟩ : ∃ k, wa13.alloc (litI (v + 1)) = k := ⟨_, rfl⟩
        rw [hk19, hwa] at Xa14
        rw [hwa] at hS
        rw [hk19, hwa]
        clear hk19 hwa Xa13
        refine anyL_ready (rs := [20]) (by kernel_rfl) (by simp) (eachL_cons rfl (fun K hK => ?_) eachL_nil)
        obtain ⟨vt', wa15, hr, hx⟩ := Xa14.out.app2 (fun k hk => .inr (.inr (.inr (.inr hk)))) (v + 1) k19 (by simp) (by rw [H.out.tl]; exact H.out.len) 1
        have Xa15 := Lib.hid hx
        clear hx
        refine ready_value (by rfl) (exec_append rfl rfl rfl hr) ?_
        simp only [Act.put, List.setIfInBounds_toArray, List.set_cons_zero, List.set_cons_succ]
        refine hK.out _ _ (gated_12 Xa15.out (fun _ hx => List.mem_cons_of_mem _ (List.mem_cons_of_mem _ (hx)))) (fun hN => ?_)
        clear hK K hS hr
        have hS := hN
        clear hN
        clear Xa14
        obtain ⟨A1, c1, ev1, _, _⟩ := row_val Xa15.out.own1
        subst ev1
        obtain ⟨A2, c2, ev2, _, _⟩ := row_val Xa15.out.own2
        subst ev2
        refine' anyL_take [] (i := 21) (v := (.pointer (some ⟨g, 0, none⟩))) rfl (by kernel_rfl) (by kernel_rfl) (by kernel_rfl) (by kernel_rfl) (by kernel_rfl) (fun _ _ _ h => h) (Or.inl ⟨by rfl, fun _ _ => by rfl⟩) hS ?_
        simp only [Act.put, List.setIfInBounds_toArray, List.set_cons_zero, List.set_cons_succ]
        clear hS
        intro hS
        refine' anyL_take [] (i := 22) (v := (.pointer (some ⟨g, 0, none⟩))) rfl (by kernel_rfl) (by kernel_rfl) (by kernel_rfl) (by kernel_rfl) (by kernel_rfl) (fun _ _ _ h => h) (Or.inl ⟨by rfl, fun _ _ => by rfl⟩) hS ?_
        simp only [Act.put, List.setIfInBounds_toArray, List.set_cons_zero, List.set_cons_succ]
        clear hS
        intro hS
        have hg : Holds wa15 g (.cells #[B.vp, B.vt, .map (some B.cg), .map (some B.fg)] 49) := (Xa15.out.hold (g, B.obj) (by simp [rest12])).1
        have hb : Holds wa15 w.heap.size p.obj := (Xa15.out.hold (w.heap.size, p.obj) (by simp [rest12])).1
        have hc : Holds wa15 B.cg (objIn PostV.val (putIn p (v + 1) s.cnt)) := (Xa15.out.hold (B.cg, objIn PostV.val (putIn p (v + 1) s.cnt)) (by simp [rest12])).1
        have n1 : B.cg ≠ g := H.out.cg_ne
        have n2 : w.heap.size ≠ g := fun e => by have := H.out.box.lt; omega
        refine anyL_ready (rs := [23]) (by kernel_rfl) (by simp) (eachL_cons rfl (fun K hK => ?_) eachL_nil)
        refine ready_skip (by rfl) (Eq.trans (by kernel_rfl) (op_u (store_net hg A1 (s.ps ++ [p]).length c1).1)) ?_
        simp only [Act.put, List.setIfInBounds_toArray, List.set_cons_zero, List.set_cons_succ]
        have hg2 := hg.setRow (ds := #[.slice A1 (s.ps ++ [p]).length c1, B.vt, .map (some B.cg), .map (some B.fg)])
        refine hK.out _ _ (gated_done ⟨hb.setRow_far n2 _, hg2.cl 2, hc.setRow_far n1 _⟩ (by kernel_rfl)) (fun hN => ?_)
        clear hK K hS
        have hS := hN
        clear hN
        refine' anyL_take [] (i := 24) (v := (.pointer (some ⟨g, 0, none⟩))) rfl (by kernel_rfl) (by kernel_rfl) (by kernel_rfl) (by kernel_rfl) (by kernel_rfl) (fun _ _ _ h => h) (Or.inl ⟨by rfl, fun _ _ => by rfl⟩) hS ?_
        simp only [Act.put, List.setIfInBounds_toArray, List.set_cons_zero, List.set_cons_succ]
        clear hS
        intro hS
        refine' anyL_take [] (i := 25) (v := (.pointer (some ⟨g, 1, none⟩))) rfl (by kernel_rfl) (by kernel_rfl) (by kernel_rfl) (by kernel_rfl) (by kernel_rfl) (fun _ _ _ h => h) (Or.inl ⟨by rfl, fun _ _ => by rfl⟩) hS ?_
        simp only [Act.put, List.setIfInBounds_toArray, List.set_cons_zero, List.set_cons_succ]
        clear hS
        intro hS
        refine anyL_ready (rs := [26]) (by kernel_rfl) (by simp) (eachL_cons rfl (fun K hK => ?_) eachL_nil)
        refine ready_skip (by rfl) (Eq.trans (by kernel_rfl) (op_u (store_net hg2 A2 (s.ts ++ [v + 1]).length c2).2)) ?_
        simp only [Act.put, List.setIfInBounds_toArray, List.set_cons_zero, List.set_cons_succ]
        have hg3 := hg2.setRow (ds := #[.slice A1 (s.ps ++ [p]).length c1, .slice A2 (s.ts ++ [v + 1]).length c2, .map (some B.cg), .map (some B.fg)])
        refine hK.out _ _ (gated_done ⟨(hb.setRow_far n2 _).setRow_far n2 _, hg3.cl 2, (hc.setRow_far n1 _).setRow_far n1 _⟩ (by kernel_rfl)) (fun hN => ?_)
        clear hK K hS hN
        refine anyL_done (by kernel_rfl) ?_ _
        have HF := Lib.hid (fin12 Xa15.out (fun _ hx => List.mem_cons_of_mem _ (List.mem_cons_of_mem _ (hx))) H.out HP.out hv hl (by rw [hh]; rfl) #[.slice A1 (s.ps ++ [p]).length c1, B.vt, .map (some B.cg), .map (some B.fg)])
        obtain ⟨w13, hw13⟩ : ∃ W, (wa15.setRow g #[.slice A1 (s.ps ++ [p]).length c1, B.vt, .map (some B.cg), .map (some B.fg)]).setRow g #[.slice A1 (s.ps ++ [p]).length c1, .slice A2 (s.ts ++ [v + 1]).length c2, .map (some B.cg), .map (some B.fg)] = W := ⟨_, rfl⟩
        rw [hw13] at HF ⊢
        clear hw13 hg3 hg2 hg hb hc Xa15
        go_wp2
        go_ret2
        exact ⟨rfl, _, HF.out.1, HF.out.2.1, HF.out.2.2⟩
      · refine ready_value (v := .slice (some ⟨wa12.heap.size, 0, none⟩) 1 1) (w' := wa12.alloc (litI (v + 1))) (by rfl) (by kernel_rfl) ?_
        simp only [Act.put, List.setIfInBounds_toArray, List.set_cons_zero, List.set_cons_succ]
        have Xa16 := Lib.hid (Xa12.out.alloc (litI (v + 1)))
        refine hK.out _ _ (gated_12 Xa16.out (fun _ hx => List.mem_cons_of_mem _ (List.mem_cons_of_mem _ (hx)))) (fun hN => ?_)
        clear hK K hS
        have hS := hN
        clear hN
        obtain ⟨k19, hk19⟩ : ∃ k, wa12.heap.size = k := ⟨_, rfl⟩
        obtain ⟨wa16, hwa⟩ : ∃ k, wa12.alloc (litI (v + 1)) = k := ⟨_, rfl⟩
        rw [hk19, hwa] at Xa16
        rw [hwa] at hS
        rw [hk19, hwa]
        clear hk19 hwa Xa12
        refine anyL_ready (rs := [8]) (by kernel_rfl) (by simp) (eachL_cons rfl (fun K hK => ?_) eachL_nil)
        obtain ⟨vp', wa17, hr, hx⟩ := Xa16.out.app1 (fun k hk => .inr (.inr (.inr (.inl hk)))) p k7 (by simp) H.out.len 1
        have Xa17 := Lib.hid hx
        clear hx
        refine ready_value (by rfl) (exec_append rfl rfl rfl hr) ?_
        simp only [Act.put, List.setIfInBounds_toArray, List.set_cons_zero, List.set_cons_succ]
        refine hK.out _ _ (gated_12 Xa17.out (fun _ hx => List.mem_cons_of_mem _ (List.mem_cons_of_mem _ (hx)))) (fun hN => ?_)
        clear hK K hS hr
        have hS := hN
        clear hN
        clear Xa16
        refine anyL_ready (rs := [20]) (by kernel_rfl) (by simp) (eachL_cons rfl (fun K hK => ?_) eachL_nil)
        obtain ⟨vt', wa18, hr, hx⟩ := Xa17.out.app2 (fun k hk => .inr (.inr (.inr (.inr hk)))) (v + 1) k19 (by simp) (by rw [H.out.tl]; exact H.out.len) 1
        have Xa18 := Lib.hid hx
        clear hx
        refine ready_value (by rfl) (exec_append rfl rfl rfl hr) ?_
        simp only [Act.put, List.setIfInBounds_toArray, List.set_cons_zero, List.set_cons_succ]
        refine hK.out _ _ (gated_12 Xa18.out (fun _ hx => List.mem_cons_of_mem _ (List.mem_cons_of_mem _ (hx)))) (fun hN => ?_)
        clear hK K hS hr
        have hS := hN
        clear hN
        clear Xa17
        obtain ⟨A1, c1, ev1, _, _⟩ := row_val Xa18.out.own1
        subst ev1
        obtain ⟨A2, c2, ev2, _, _⟩ := row_val Xa18.out.own2
        subst ev2
        refine' anyL_take [] (i := 21) (v := (.pointer (some ⟨g, 0, none⟩))) rfl (by kernel_rfl) (by kernel_rfl) (by kernel_rfl) (by kernel_rfl) (by kernel_rfl) (fun _ _ _ h => h) (Or.inl ⟨by rfl, fun _ _ => by rfl⟩) hS ?_
        simp only [Act.put, List.setIfInBounds_toArray, List.set_cons_zero, List.set_cons_succ]
        clear hS
        intro hS
        refine' anyL_take [] (i := 22) (v := (.pointer (some ⟨g, 0, none⟩))) rfl (by kernel_rfl) (by kernel_rfl) (by kernel_rfl) (by kernel_rfl) (by kernel_rfl) (fun _ _ _ h => h) (Or.inl ⟨by rfl, fun _ _ => by rfl⟩) hS ?_
        simp only [Act.put, List.setIfInBounds_toArray, List.set_cons_zero, List.set_cons_succ]
        clear hS
        intro hS
        have hg : Holds wa18 g (.cells #[B.vp, B.vt, .map (some B.cg), .map (some B.fg)] 49) := (Xa18.out.hold (g, B.obj) (by simp [rest12])).1
        have hb : Holds wa18 w.heap.size p.obj := (Xa18.out.hold (w.heap.size, p.obj) (by simp [rest12])).1
        have hc : Holds wa18 B.cg (objIn PostV.val (putIn p (v + 1) s.cnt)) := (Xa18.out.hold (B.cg, objIn PostV.val (putIn p (v + 1) s.cnt)) (by simp [rest12])).1
        have n1 : B.cg ≠ g := H.out.cg_ne
        have n2 : w.heap.size ≠ g := fun e => by have := H.out.box.lt; omega
        refine anyL_ready (rs := [23]) (by kernel_rfl) (by simp) (eachL_cons rfl (fun K hK => ?_) eachL_nil)
        refine ready_skip (by rfl) (Eq.trans (by kernel_rfl) (op_u (store_net hg A1 (s.ps ++ [p]).length c1).1)) ?_
        simp only [Act.put, List.setIfInBounds_toArray, List.set_cons_zero, List.set_cons_succ]
        have hg2 := hg.setRow (ds := #[.slice A1 (s.ps ++ [p]).length c1, B.vt, .map (some B.cg), .map (some B.fg)])
        refine hK.out _ _ (gated_done ⟨hb.setRow_far n2 _, hg2.cl 2, hc.setRow_far n1 _⟩ (by kernel_rfl)) (fun hN => ?_)
        clear hK K hS
        have hS := hN
        clear hN
        refine' anyL_take [] (i := 24) (v := (.pointer (some ⟨g, 0, none⟩))) rfl (by kernel_rfl) (by kernel_rfl) (by kernel_rfl) (by kernel_rfl) (by kernel_rfl) (fun _ _ _ h => h) (Or.inl ⟨by rfl, fun _ _ => by rfl⟩) hS ?_
        simp only [Act.put, List.setIfInBounds_toArray, List.set_cons_zero, List.set_cons_succ]
        clear hS
        intro hS
        refine' anyL_take [] (i := 25) (v := (.pointer (some ⟨g, 1, none⟩))) rfl (by kernel_rfl) (by kernel_rfl) (by kernel_rfl) (by kernel_rfl) (by kernel_rfl) (fun _ _ _ h => h) (Or.inl ⟨by rfl, fun _ _ => by rfl⟩) hS ?_
        simp only [Act.put, List.setIfInBounds_toArray, List.set_cons_zero, List.set_cons_succ]
        clear hS
        intro hS
        refine anyL_ready (rs := [26]) (by kernel_rfl) (by simp) (eachL_cons rfl (fun K hK => ?_) eachL_nil)
        refine ready_skip (by rfl) (Eq.trans (by kernel_rfl) (op_u (store_net hg2 A2 (s.ts ++ [v + 1]).length c2).2)) ?_
        simp only [Act.put, List.setIfInBounds_toArray, List.set_cons_zero, List.set_cons_succ]
        have hg3 := hg2.setRow (ds := #[.slice A1 (s.ps ++ [p]).length c1, .slice A2 (s.ts ++ [v + 1]).length c2, .map (some B.cg), .map (some B.fg)])
        refine hK.out _ _ (gated_done ⟨(hb.setRow_far n2 _).setRow_far n2 _, hg3.cl 2, (hc.setRow_far n1 _).setRow_far n1 _⟩ (by kernel_rfl)) (fun hN => ?_)
        clear hK K hS hN
        refine anyL_done (by kernel_rfl) ?_ _
        have HF := Lib.hid (fin12 Xa18.out (fun _ hx => List.mem_cons_of_mem _ (List.mem_cons_of_mem _ (hx))) H.out HP.out hv hl (by rw [hh]; rfl) #[.slice A1 (s.ps ++ [p]).length c1, B.vt, .map (some B.cg), .map (some B.fg)])
        obtain ⟨w13, hw13⟩ : ∃ W, (wa18.setRow g #[.slice A1 (s.ps ++ [p]).length c1, B.vt, .map (some B.cg), .map (some B.fg)]).setRow g #[.slice A1 (s.ps ++ [p]).length c1, .slice A2 (s.ts ++ [v + 1]).length c2, .map (some B.cg), .map (some B.fg)] = W := ⟨_, rfl⟩
        rw [hw13] at HF ⊢
        clear hw13 hg3 hg2 hg hb hc Xa18
        go_wp2
        go_ret2
        exact ⟨rfl, _, HF.out.1, HF.out.2.1, HF.out.2.2⟩
    · refine ready_value (v := .slice (some ⟨w12.heap.size, 0, none⟩) 1 1) (w' := w12.alloc (litI (v + 1))) (by rfl) (by kernel_rfl) ?_
      simp only [Act.put, List.setIfInBounds_toArray, List.set_cons_zero, List.set_cons_succ]
      have Xa19 := Lib.hid (X.out.alloc (litI (v + 1)))
      refine hK.out _ _ (gated_12 Xa19.out (fun _ hx => List.mem_cons_of_mem _ (hx))) (fun hN => ?_)
      clear hK K hS
      have hS := hN
      clear hN
      obtain ⟨k19, hk19⟩ : ∃ k, w12.heap.size = k := ⟨_, rfl⟩
      obtain ⟨wa19, hwa⟩ : ∃ k, w12.alloc (litI (v + 1)) = k := ⟨_, rfl⟩
      rw [hk19, hwa] at Xa19
      rw [hwa] at hS
      rw [hk19, hwa]
      clear hk19 hwa X
      refine anyL_ready (rs := [7]) (by kernel_rfl) (by simp) (eachL_cons rfl (fun K hK => ?_) eachL_nil)
      refine ready_value (v := .slice (some ⟨wa19.heap.size, 0, none⟩) 1 1) (w' := wa19.alloc p.obj) (by rfl) (by kernel_rfl) ?_
      simp only [Act.put, List.setIfInBounds_toArray, List.set_cons_zero, List.set_cons_succ]
      have Xa20 := Lib.hid (Xa19.out.alloc p.obj)
      refine hK.out _ _ (gated_12 Xa20.out (fun _ hx => List.mem_cons_of_mem _ (List.mem_cons_of_mem _ (hx)))) (fun hN => ?_)
      clear hK K hS
      have hS := hN
      clear hN
      obtain ⟨k7, hk7⟩ : ∃ k, wa19.heap.size = k := ⟨_, rfl⟩
      obtain ⟨wa20, hwa⟩ : ∃ k, wa19.alloc p.obj = k := ⟨_, rfl⟩
      rw [hk7, hwa] at Xa20
      rw [hwa] at hS
      rw [hk7, hwa]
      clear hk7 hwa Xa19
      refine anyL_ready (rs := [8]) (by kernel_rfl) (by simp) (eachL_cons rfl (fun K hK => ?_) eachL_nil)
      obtain ⟨vp', wa21, hr, hx⟩ := Xa20.out.app1 (fun k hk => .inr (.inr (.inr (.inl hk)))) p k7 (by simp) H.out.len 1
      have Xa21 := Lib.hid hx
      clear hx
      refine ready_value (by rfl) (exec_append rfl rfl rfl hr) ?_
      simp only [Act.put, List.setIfInBounds_toArray, List.set_cons_zero, List.set_cons_succ]
      refine hK.out _ _ (gated_12 Xa21.out (fun _ hx => List.mem_cons_of_mem _ (List.mem_cons_of_mem _ (hx)))) (fun hN => ?_)
      clear hK K hS hr
      have hS := hN
      clear hN
      clear Xa20
      refine anyL_ready (rs := [20]) (by kernel_rfl) (by simp) (eachL_cons rfl (fun K hK => ?_) eachL_nil)
      obtain ⟨vt', wa22, hr, hx⟩ := Xa21.out.app2 (fun k hk => .inr (.inr (.inr (.inr hk)))) (v + 1) k19 (by simp) (by rw [H.out.tl]; exact H.out.len) 1
      have Xa22 := Lib.hid hx
      clear hx
      refine ready_value (by rfl) (exec_append rfl rfl rfl hr) ?_
      simp only [Act.put, List.setIfInBounds_toArray, List.set_cons_zero, List.set_cons_succ]
      refine hK.out _ _ (gated_12 Xa22.out (fun _ hx => List.mem_cons_of_mem _ (List.mem_cons_of_mem _ (hx)))) (fun hN => ?_)
      clear hK K hS hr
      have hS := hN
      clear hN
      clear Xa21
      obtain ⟨A1, c1, ev1, _, _⟩ := row_val Xa22.out.own1
      subst ev1
      obtain ⟨A2, c2, ev2, _, _⟩ := row_val Xa22.out.own2
      subst ev2
      refine' anyL_take [] (i := 21) (v := (.pointer (some ⟨g, 0, none⟩))) rfl (by kernel_rfl) (by kernel_rfl) (by kernel_rfl) (by kernel_rfl) (by kernel_rfl) (fun _ _ _ h => h) (Or.inl ⟨by rfl, fun _ _ => by rfl⟩) hS ?_
      simp only [Act.put, List.setIfInBounds_toArray, List.set_cons_zero, List.set_cons_succ]
      clear hS
      intro hS
      refine' anyL_take [] (i := 22) (v := (.pointer (some ⟨g, 0, none⟩))) rfl (by kernel_rfl) (by kernel_rfl) (by kernel_rfl) (by kernel_rfl) (by kernel_rfl) (fun _ _ _ h => h) (Or.inl ⟨by rfl, fun _ _ => by rfl⟩) hS ?_
      simp only [Act.put, List.setIfInBounds_toArray, List.set_cons_zero, List.set_cons_succ]
      clear hS
      intro hS
      have hg : Holds wa22 g (.cells #[B.vp, B.vt, .map (some B.cg), .map (some B.fg)] 49) := (Xa22.out.hold (g, B.obj) (by simp [rest12])).1
      have hb : Holds wa22 w.heap.size p.obj := (Xa22.out.hold (w.heap.size, p.obj) (by simp [rest12])).1
      have hc : Holds wa22 B.cg (objIn PostV.val (putIn p (v + 1) s.cnt)) := (Xa22.out.hold (B.cg, objIn PostV.val (putIn p (v + 1) s.cnt)) (by simp [rest12])).1
      have n1 : B.cg ≠ g := H.out.cg_ne
      have n2 : w.heap.size ≠ g := fun e => by have := H.out.box.lt; omega
      refine anyL_ready (rs := [23]) (by kernel_rfl) (by simp) (eachL_cons rfl (fun K hK => ?_) eachL_nil)
      refine ready_skip (by rfl) (Eq.trans (by kernel_rfl) (op_u (store_net hg A1 (s.ps ++ [p]).length c1).1)) ?_
      simp only [Act.put, List.setIfInBounds_toArray, List.set_cons_zero, List.set_cons_succ]
      have hg2 := hg.setRow (ds := #[.slice A1 (s.ps ++ [p]).length c1, B.vt, .map (some B.cg), .map (some B.fg)])
      refine hK.out _ _ (gated_done ⟨hb.setRow_far n2 _, hg2.cl 2, hc.setRow_far n1 _⟩ (by kernel_rfl)) (fun hN => ?_)
      clear hK K hS
      have hS := hN
      clear hN
      refine' anyL_take [] (i := 24) (v := (.pointer (some ⟨g, 0, none⟩))) rfl (by kernel_rfl) (by kernel_rfl) (by kernel_rfl) (by kernel_rfl) (by kernel_rfl) (fun _ _ _ h => h) (Or.inl ⟨by rfl, fun _ _ => by rfl⟩) hS ?_
      simp only [Act.put, List.setIfInBounds_toArray, List.set_cons_zero, List.set_cons_succ]
      clear hS
      intro hS
      refine' anyL_take [] (i := 25) (v := (.pointer (some ⟨g, 1, none⟩))) rfl (by kernel_rfl) (by kernel_rfl) (by kernel_rfl) (by kernel_rfl) (by kernel_rfl) (fun _ _ _ h => h) (Or.inl ⟨by rfl, fun _ _ => by rfl⟩) hS ?_
      simp only [Act.put, List.setIfInBounds_toArray, List.set_cons_zero, List.set_cons_succ]
      clear hS
      intro hS
      refine anyL_ready (rs := [26]) (by kernel_rfl) (by simp) (eachL_cons rfl (fun K hK => ?_) eachL_nil)
      refine ready_skip (by rfl) (Eq.trans (by kernel_rfl) (op_u (store_net hg2 A2 (s.ts ++ [v + 1]).length c2).2)) ?_
      simp only [Act.put, List.setIfInBounds_toArray, List.set_cons_zero, List.set_cons_succ]
      have hg3 := hg2.setRow (ds := #[.slice A1 (s.ps ++ [p]).length c1, .slice A2 (s.ts ++ [v + 1]).length c2, .map (some B.cg), .map (some B.fg)])
      refine hK.out _ _ (gated_done ⟨(hb.setRow_far n2 _).setRow_far n2 _, hg3.cl 2, (hc.setRow_far n1 _).setRow_far n1 _⟩ (by kernel_rfl)) (fun hN => ?_)
      clear hK K hS hN
      refine anyL_done (by kernel_rfl) ?_ _
      have HF := Lib.hid (fin12 Xa22.out (fun _ hx => List.mem_cons_of_mem _ (List.mem_cons_of_mem _ (hx))) H.out HP.out hv hl (by rw [hh]; rfl) #[.slice A1 (s.ps ++ [p]).length c1, B.vt, .map (some B.cg), .map (some B.fg)])
      obtain ⟨w13, hw13⟩ : ∃ W, (wa22.setRow g #[.slice A1 (s.ps ++ [p]).length c1, B.vt, .map (some B.cg), .map (some B.fg)]).setRow g #[.slice A1 (s.ps ++ [p]).length c1, .slice A2 (s.ts ++ [v + 1]).length c2, .map (some B.cg), .map (some B.fg)] = W := ⟨_, rfl⟩
      rw [hw13] at HF ⊢
      clear hw13 hg3 hg2 hg hb hc Xa22
      go_wp2
      go_ret2
      exact ⟨rfl, _, HF.out.1, HF.out.2.1, HF.out.2.2⟩
  -- END REGIONS
end Go.Proofs.Ytimhejjdgncdaaa
