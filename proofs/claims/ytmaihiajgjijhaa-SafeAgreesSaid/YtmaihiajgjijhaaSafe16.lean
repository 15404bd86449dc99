/- Which event is wrong first. -/
import Derived.Test.YtmaihiajgjijhaaSafe15
namespace Go.Proofs.Ytmaihiajgjijhaa
open Go.RowKit Go.Shelf
set_option linter.unusedVariables false
set_option linter.unusedSimpArgs false
attribute [local go_sem] Oper.semAt_some alloc_drewN setCell_drewN ev_obj

/-- The seven looks, in their order. -/
def lookE (i : Nat) (bad : Int) (l : List EvV) (x : EvV) : Int :=
  match i with
  | 0 => shapeE bad x
  | 1 => beginsE l x
  | 2 => upsE l x
  | 3 => votesE bad l x
  | 4 => decidesE bad l x
  | 5 => learnsE bad l x
  | _ => showsE bad l x
def lookF (i : Nat) : Nat :=
  match i with
  | 0 => 12
  | 1 => 13
  | 2 => 14
  | 3 => 15
  | 4 => 16
  | 5 => 17
  | _ => 18
theorem look_any (i : Nat) (hi : i < 7) {w : World} (bad : Int) (hb0 : 0 ≤ bad) (hb1 : bad ≤ 255) {A : Option Addr} {len cap : Nat} {l : List EvV} (hl : HistAt w A l) (hlen : l.length = len) (hlc : len ≤ cap) (hc : cap ≤ 9223372036854775807) (hshort : len ≤ 1000) (x : EvV) (ho : EvOk w x) :
    Calls Try.prog (lookF i) #[.int .u8 bad, .slice A len cap, x.val] w fun e w' => e = .returned (.int .i64 (lookE i bad l x)) ∧ But (fun _ => False) w w' := by
  have : i = 0 ∨ i = 1 ∨ i = 2 ∨ i = 3 ∨ i = 4 ∨ i = 5 ∨ i = 6 := by omega
  rcases this with rfl | rfl | rfl | rfl | rfl | rfl | rfl
  · exact shape_any w bad hb0 hb1 A len cap x
  · exact begins_any bad hl hlen hlc hc hshort x
  · exact ups_any bad hl hlen hlc hc x
  · exact votes_any bad hb0 hb1 hl hlen hlc hc x ho
  · exact decides_any bad hb0 hb1 hl hlen hlc hc x ho
  · exact learns_any bad hb0 hb1 hl hlen hlc hc x ho
  · exact shows_any bad hb0 hb1 hl hlen hlc hc x ho
/-- What the looks say of an event behind others: the first that is not content. -/
def looksFrom (bad : Int) (l : List EvV) (x : EvV) (i : Nat) : Int := ((List.range' i (7 - i)).map (fun j => lookE j bad l x)).find? (· != 0) |>.getD 0
def looks (bad : Int) (l : List EvV) (x : EvV) : Int := looksFrom bad l x 0
theorem looksFrom_step (bad : Int) (l : List EvV) (x : EvV) (i : Nat) (hi : i < 7) : looksFrom bad l x i = if lookE i bad l x = 0 then looksFrom bad l x (i + 1) else lookE i bad l x := by
  unfold looksFrom
  rw [show 7 - i = (7 - (i + 1)) + 1 by omega, List.range'_succ, List.map_cons, List.find?_cons]
  by_cases h : lookE i bad l x = 0
  · simp [h]
  · have : (lookE i bad l x != 0) = true := by simpa using h
    simp [this, h]
theorem looksFrom_end (bad : Int) (l : List EvV) (x : EvV) : looksFrom bad l x 7 = 0 := rfl
/-- The history's first wrong event from place k on. -/
def checkFrom (bad : Int) (l : List EvV) : Nat → Nat → Nat × Int
  | 0, k => (l.length, 0)
  | n + 1, k => match l[k]? with
    | none => (l.length, 0)
    | some x => if looks bad (l.take k) x = 0 then checkFrom bad l n (k + 1) else (k, looks bad (l.take k) x)
theorem checkFrom_bad (bad : Int) (l : List EvV) (n k : Nat) (x : EvV) (hk : k < n) (hx : l[k]? = some x) (v : Int) (hv : looks bad (l.take k) x = v) (h : v ≠ 0) : checkFrom bad l (n - k) k = (k, v) := by
  rw [show n - k = (n - (k + 1)) + 1 by omega, checkFrom, hx]
  simp only [hv, if_neg h]
theorem checkFrom_ok (bad : Int) (l : List EvV) (n k : Nat) (x : EvV) (hk : k < n) (hx : l[k]? = some x) (hv : looks bad (l.take k) x = 0) : checkFrom bad l (n - k) k = checkFrom bad l (n - (k + 1)) (k + 1) := by
  rw [show n - k = (n - (k + 1)) + 1 by omega, checkFrom, hx]
  simp only [hv, if_pos]
def checkOf (bad : Int) (l : List EvV) : Nat × Int := checkFrom bad l l.length 0
theorem look_enters (i : Nat) (hi : i < 7) : ∀ args w, (callFunc (lookF i) args).run Try.prog w = .ok (.enter (lookF i) args) w := by
  have : i = 0 ∨ i = 1 ∨ i = 2 ∨ i = 3 ∨ i = 4 ∨ i = 5 ∨ i = 6 := by omega
  rcases this with rfl | rfl | rfl | rfl | rfl | rfl | rfl
  · exact enters_of Try.func12 (by kernel_rfl) rfl
  · exact enters_of Try.func13 (by kernel_rfl) rfl
  · exact enters_of Try.func14 (by kernel_rfl) rfl
  · exact enters_of Try.func15 (by kernel_rfl) rfl
  · exact enters_of Try.func16 (by kernel_rfl) rfl
  · exact enters_of Try.func17 (by kernel_rfl) rfl
  · exact enters_of Try.func18 (by kernel_rfl) rfl
def looksArr : Array Value := #[.func (.func (lookF 0)) #[] #[], .func (.func (lookF 1)) #[] #[], .func (.func (lookF 2)) #[] #[], .func (.func (lookF 3)) #[] #[], .func (.func (lookF 4)) #[] #[], .func (.func (lookF 5)) #[] #[], .func (.func (lookF 6)) #[] #[]]
theorem looksArr_get (i : Nat) (hi : i < 7) : looksArr[i]? = some (.func (.func (lookF i)) #[] #[]) := by
  have : i = 0 ∨ i = 1 ∨ i = 2 ∨ i = 3 ∨ i = 4 ∨ i = 5 ∨ i = 6 := by omega
  rcases this with rfl | rfl | rfl | rfl | rfl | rfl | rfl <;> rfl
set_option maxRecDepth 100000 in
set_option maxHeartbeats 2000000 in
theorem Check_any {w : World} (bad : Int) (hb0 : 0 ≤ bad) (hb1 : bad ≤ 255) {A : Option Addr} {len cap : Nat} {l : List EvV} (hl : HistAt w A l) (hlen : l.length = len) (hlc : len ≤ cap) (hc : cap ≤ 9223372036854775807) (hshort : len ≤ 1000) :
    Calls Try.prog 6 #[.int .u8 bad, .slice A len cap] w fun e w' => e = .returned (.tuple #[.int .i64 ((checkOf bad l).1 : Nat), .int .i64 (checkOf bad l).2]) ∧ But (fun _ => False) w w' := by
  have HH := Lib.hid hl
  have HE := Lib.hid (hl.evs (q := fun k => w.heap.size ≤ k) (fun _ h => h))
  have HL := Lib.hid hlen
  clear hl hlen
  refine (callsIn_wide (n := 8)).1 ?_
  refine callsIn_of_wp Try.func6 rfl trivial ?_ rfl
  simp only [Try.ntmps6, List.size_toArray, List.length_cons, List.length_nil, Nat.reduceAdd, Nat.reduceSub, Array.replicate_succ, Array.replicate_zero, List.push_toArray, List.append_toArray, List.nil_append, List.cons_append]
  gi_wp2
  gi_loopw [13] (fun i wr => ∃ k : Nat, k ≤ len ∧ i = .int .i64 k ∧ checkOf bad l = checkFrom bad l (len - k) k ∧ But (fun _ => False) w wr) (fun i _ => len - (intOf i).toNat)
  case atStart => exact ⟨0, Nat.zero_le _, rfl, by rw [checkOf, HL.out]; rfl, But.refl _ _⟩
  case round =>
    obtain ⟨w1, rfl⟩ : ∃ w1, w1 = wr := ⟨_, rfl⟩
    obtain ⟨k, hk, rfl, hq, hb⟩ := hrel
    by_cases hlt : k < len
    · have hk1 : k < l.length := by rw [HL.out]; exact hlt
      obtain ⟨g, off, rfl, hg, hcx⟩ := (HE.out.but hb (fun _ f => f.elim)) k l[k] (List.getElem?_eq_getElem hk1)
      have hox : EvOk w l[k] := HH.out.2 _ (List.getElem_mem hk1)
      have HT := Lib.hid (HH.out.take k (Nat.le_of_lt hk1))
      have HTL := Lib.hid (show (l.take k).length = k from by rw [List.length_take]; omega)
      have HX := Lib.hid (List.getElem?_eq_getElem hk1)
      generalize l[k] = x at *
      have HOX := Lib.hid hox
      clear hox
      have HC := Lib.hid hcx
      have HB := Lib.hid hb
      have HQ := Lib.hid hq
      clear hcx hb hq
      gi_wp2_with (first
          | ((with_reducible refine ld_ev g (off + k * 22) x HC.out ?_ ?_); (exact ⟨rfl, rfl⟩))
          | ((with_reducible refine st_ev w1 x ?_ ?_); (exact ⟨rfl, rfl, rfl, rfl⟩)))
      have HX1 := (Holds.new w1 x.obj).alloc (.cells looksArr 51)
      gi_loopw [20] (fun s20 w2 => ∃ i : Nat, i ≤ 7 ∧ s20 = .int .i64 i ∧ looks bad (l.take k) x = looksFrom bad (l.take k) x i ∧ But (fun _ => False) w w2 ∧ Holds w2 w1.heap.size x.obj ∧ Holds w2 (w1.heap.size + 1) (.cells looksArr 51)) (fun s20 _ => 7 - (intOf s20).toNat)
      case atStart =>
        exact ⟨0, by omega, rfl, rfl, (HB.out.alloc _).alloc _, HX1, Holds.n21 w1 _ _⟩
      case round =>
        obtain ⟨i, hi, rfl, hlk, hb2, hx2, hf2⟩ := hrel
        have HLK := Lib.hid hlk
        have HB2 := Lib.hid hb2
        have HX2 := Lib.hid hx2
        have HF2 := Lib.hid hf2
        have hxl : w1.heap.size < wr.heap.size := hx2.lt
        clear hlk hb2
        by_cases hi7 : i < 7
        · have hldd : (Instr.loadAt 40 (.pointer (some ⟨w1.heap.size, 0, none⟩))).run Try.prog wr.drew = .ok x.val wr.drew := run_loadAt_mid wr.drew w1.heap.size 0 40 x.cells _ (fun j u h => by rw [Nat.zero_add]; exact obj_cell (show Holds wr.drew _ _ from hx2) j u h) Try.underlying40 rfl (EvV.infoE x)
          have HLD := Lib.hid hldd
          obtain ⟨v, hv⟩ : ∃ v, lookE i bad (l.take k) x = v := ⟨_, rfl⟩
          have CL : Hid _ := Lib.hid (fun (w3 : World) (b : But (fun _ => False) w w3) => hv ▸ look_any i hi7 bad hb0 hb1 (HT.out.but b) HTL.out (by omega : k ≤ cap) hc (by omega) x (HOX.out.but b))
          have HV := Lib.hid (hv ▸ looksFrom_step bad (l.take k) x i hi7)
          clear hv
          have f0 : wr.cell? ⟨w1.heap.size + 1, i, none⟩ = some (.func (.func (lookF i)) #[] #[]) := by rw [cells_cell hf2 i, looksArr_get i hi7]
          have ENT := Lib.hid (look_enters i hi7)
          clear hldd hx2 hf2
          gi_wp2_with fail
          refine wpIn_wide.2 ?_
          refine wp_region_held_drew (S := fun w' => (Instr.loadAt 40 (.pointer (some ⟨w1.heap.size, 0, none⟩))).run Try.prog w' = .ok x.val w') (by kernel_rfl) HLD.out (fun hS => ?_)
          refine wpAnyH_take (i := 0) (v := .func (.func (lookF i)) #[] #[]) rfl (by kernel_rfl) (by kernel_rfl) (by kernel_rfl) (fun _ _ _ h => h) (Or.inl ⟨by rfl, fun _ _ => by rfl⟩) hS ?_
          simp only [Act.put, List.setIfInBounds_toArray, List.set_cons_zero, List.set_cons_succ]
          refine wpAnyH_take (i := 1) (v := .int .u8 bad) rfl (by kernel_rfl) (by kernel_rfl) (by kernel_rfl) (fun _ _ _ h => h) (Or.inl ⟨by rfl, fun _ _ => by rfl⟩) hS ?_
          simp only [Act.put, List.setIfInBounds_toArray, List.set_cons_zero, List.set_cons_succ]
          refine wpAnyH_take (i := 2) (v := .slice (some ⟨g, off, none⟩) len cap) rfl (by kernel_rfl) (by kernel_rfl) (by kernel_rfl) (fun _ _ _ h => h) (Or.inl ⟨by rfl, fun _ _ => by rfl⟩) hS ?_
          simp only [Act.put, List.setIfInBounds_toArray, List.set_cons_zero, List.set_cons_succ]
          refine wpAnyH_take (i := 3) (v := .int .i64 k) rfl (by kernel_rfl) (by kernel_rfl) (by kernel_rfl) (fun _ _ _ h => h) (Or.inl ⟨by rfl, fun _ _ => by rfl⟩) hS ?_
          simp only [Act.put, List.setIfInBounds_toArray, List.set_cons_zero, List.set_cons_succ]
          refine wpAnyH_take (i := 4) (v := .slice (some ⟨g, off, none⟩) k cap) rfl (by kernel_rfl) (by kernel_rfl) (by kernel_rfl) (fun _ _ _ h => h) (Or.inl ⟨by rfl, fun _ _ => ?_⟩) hS ?_
          · have hkc : k ≤ cap := by omega
            go_simp
          simp only [Act.put, List.setIfInBounds_toArray, List.set_cons_zero, List.set_cons_succ]
          refine' wpAnyH_take (i := 5) (v := x.val) rfl (by kernel_rfl) (by kernel_rfl) (by kernel_rfl) (fun _ _ _ h => h) (yieldsIf_load_run (by rfl) rfl (fun _ h => h)) hS ?_
          simp only [Act.put, List.setIfInBounds_toArray, List.set_cons_zero, List.set_cons_succ]
          refine wpAnyH_ready (rs := [6]) (by kernel_rfl) (by simp) (AllReadyH.cons rfl (fun K hK => ?_) AllReadyH.nil)
          have ent := ENT.out
          go_simp
          refine (CL.out _ HB2.out.drew).mono ?_
          rintro e w3 ⟨rfl, b3⟩
          have HB3 := Lib.hid (HB2.out.trans ((But.refl _ wr).drew.trans b3))
          have HX3 := Lib.hid ((HX2.out.but (But.refl (fun _ => False) wr).drew (fun f => f)).but b3 (fun f => f))
          have HF3 := Lib.hid ((HF2.out.but (But.refl (fun _ => False) wr).drew (fun f => f)).but b3 (fun f => f))
          refine hK.out _ _ ?_ (fun hHeld => ?_)
          · exact run_loadAt_mid w3 w1.heap.size 0 40 x.cells _ (fun j u h => by rw [Nat.zero_add]; exact obj_cell HX3.out j u h) Try.underlying40 rfl (EvV.infoE x)
          refine wpAnyH_take (i := 7) (v := .int .i64 v) rfl (by kernel_rfl) (by kernel_rfl) (by kernel_rfl) (fun _ _ _ h => h) (Or.inl ⟨by rfl, fun _ _ => by rfl⟩) hHeld ?_
          simp only [Act.put, List.setIfInBounds_toArray, List.set_cons_zero, List.set_cons_succ]
          refine wpAnyH_done (by kernel_rfl) ?_ _
          clear hHeld hS hK K ent b3
          by_cases h0 : v = 0
          · subst h0
            gi_wp2
            exact ⟨⟨i + 1, by omega, by go_num, by rw [HLK.out, HV.out]; simp, HB3.out, HX3.out, HF3.out⟩, by simp [intOf]; omega⟩
          · have f1 : (v == 0) = false := by simpa using h0
            have f2 : (v != 0) = true := by simpa using h0
            have H0 := Lib.hid h0
            clear h0
            gi_wp2
            go_ret2
            exact ⟨by rw [HQ.out, checkFrom_bad bad l len k x hlt HX.out v (by rw [HLK.out, HV.out, if_neg H0.out]) H0.out]; rfl, HB3.out⟩
        · obtain rfl : i = 7 := by omega
          gi_wp2
          exact ⟨⟨k + 1, by omega, by go_num, by rw [HQ.out, checkFrom_ok bad l len k x hlt HX.out (by rw [HLK.out, looksFrom_end])], HB2.out⟩, by simp [intOf]; omega⟩
    · obtain rfl : k = len := by omega
      have HQ := Lib.hid hq
      clear hq
      gi_wp2
      go_ret2
      exact ⟨by rw [HQ.out, Nat.sub_self, checkFrom, HL.out]; rfl, hb⟩
end Go.Proofs.Ytmaihiajgjijhaa
