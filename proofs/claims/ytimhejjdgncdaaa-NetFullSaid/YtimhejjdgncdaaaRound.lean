/- A region that draws its order, within a round: its operations may be taken as outside it, where none defers. Nothing of the program stands here. -/
import Derived.Test.YtimhejjdgncdaaaWide2
import Derived.OrdersIn
import Derived.OwnWalkIn
namespace Go.Proofs.Ytimhejjdgncdaaa
open Go.RowKit
set_option linter.unusedVariables false
set_option linter.unusedSimpArgs false

def noDefer (o : Oper) : Bool := match o.op with | .defer _ => false | _ => true
theorem noDefer_spec {o : Oper} (h : noDefer o = true) : ∀ c, o.op ≠ .defer c := fun c e => by simp [noDefer, e] at h
section
variable {n : Nat} {P : Program} {ops : Array Oper} {Q : Exit → Act → World → Prop} {md : Region.Mode} {l : Nat}
theorem opIn_round {o : Oper} (h : noDefer o = true) {a : Act} {w : World} {K : Act → World → Prop} (k : o.wpIn Fence.wide n P a w K Q) : o.wpIn (Fence.wide.inRound l) n P a w K Q := by
  refine ⟨k.1, ?_⟩
  have k2 := k.2
  rw [Oper.semAt_plain _ _ _ (noDefer_spec h)] at k2 ⊢
  exact k2
theorem anyIn_round (h : ops.toList.all noDefer = true) : ∀ (fuel : Nat) (L : Array Bool) (a : Act) (w : World), wpAnyIn Fence.wide n P md ops Q fuel L a w → wpAnyIn (Fence.wide.inRound l) n P md ops Q fuel L a w
  | 0, _, _, _, k => k
  | fuel + 1, L, a, w, k => ⟨k.1, fun i hi => by
      have k2 := k.2 i hi
      unfold wpOpIn at k2 ⊢
      cases ho : ops[i]? with
      | none => rw [ho] at k2; exact anyIn_round h fuel _ a w k2
      | some o =>
        rw [ho] at k2
        simp only at k2 ⊢
        have hd : noDefer o = true := List.all_eq_true.1 h o (by
          have : ops.toList[i]? = some o := by simpa using ho
          exact List.mem_of_getElem? this)
        split
        · rename_i hw
          rw [if_pos hw] at k2
          exact Oper.wpIn_mono (fun a' w' k' => anyIn_round h fuel _ a' w' k') (opIn_round hd k2)
        · rename_i hw
          rw [if_neg hw] at k2
          exact ⟨k2.1, anyIn_round h fuel _ _ _ k2.2⟩⟩
theorem region_round {id : Nat} {a : Act} {w : World} (hm : P.follows .mixedOrders = true) (hd : ops.toList.all noDefer = true) (h : wpAnyIn Fence.wide n P .any ops Q ops.size (Array.replicate ops.size false) a w.drew) :
    (Code.region id ops true).wpIn (Fence.wide.inRound l) n P Q a w := wpIn_region_any hm (anyIn_round hd _ _ _ _ h)
theorem anyIn_take {i : Nat} {oi : Oper} {v : Value} {fuel : Nat} {listed : Array Bool} {a : Act} {w : World} (hi : ops.toList[i]? = some oi)
    (hs : Region.noSelect ops = true) (hf : Region.free md ops listed i = true) (hr : (Region.ready md ops listed).contains i = true)
    (hQ : ∀ c a w, Q (.panic c) (a.put oi.dst v) w → Q (.panic c) a w) (hy : YieldsFenced P ops oi v a)
    (h : wpAnyIn Fence.wide n P md ops Q fuel (listed.setIfInBounds i true) (a.put oi.dst v) w) : wpAnyIn Fence.wide n P md ops Q (fuel + 1) listed a w := wpAnyIn_take rfl (by simpa using hi) hs hf hr hQ hy h
theorem anyIn_cons {fuel : Nat} {listed : Array Bool} {a : Act} {w : World} {i : Nat} {o : Oper} {rs : List Nat} (ho : ops.toList[i]? = some o)
    (h : ∀ K' : Act → World → Prop, Shut (∀ a w, wpAnyIn Fence.wide n P md ops Q fuel (listed.setIfInBounds i true) a w → K' a w) → if Region.wanted o (yielded ops a.tmps) = true then Oper.wpIn Fence.wide n P o a w K' Q else (∀ f, o.about P w a.eval = some f → Fence.wide.fn f) ∧ K' (a.put o.dst undef) w)
    (hs : AllReadyIn Fence.wide n P md ops Q fuel listed a w rs) : AllReadyIn Fence.wide n P md ops Q fuel listed a w (i :: rs) := AllReadyIn.cons (by simpa using ho) h hs
end
section
variable {n : Nat} {P : Program} {ops : Array Oper} {o : Oper} {a : Act} {w w' : World} {K : Act → World → Prop} {Q : Exit → Act → World → Prop}
theorem readyIn_value {v : Value} (hw : Region.wanted o (yielded ops a.tmps) = true)
    (h : (execOp a.eval o).run P w = .ok (.value v) w') (k : K (a.put o.dst v) w') : if Region.wanted o (yielded ops a.tmps) = true then Oper.wpIn Fence.wide n P o a w K Q else (∀ f, o.about P w a.eval = some f → Fence.wide.fn f) ∧ K (a.put o.dst undef) w := by
  rw [if_pos hw]
  refine ⟨fun _ _ => trivial, ?_⟩
  rw [show o.semAt Fence.wide.round a.eval = execOp a.eval o from rfl, h]
  exact k
theorem readyIn_skip (hw : Region.wanted o (yielded ops a.tmps) = true)
    (h : (execOp a.eval o).run P w = .ok .skip w') (k : K (a.put o.dst undef) w') : if Region.wanted o (yielded ops a.tmps) = true then Oper.wpIn Fence.wide n P o a w K Q else (∀ f, o.about P w a.eval = some f → Fence.wide.fn f) ∧ K (a.put o.dst undef) w := by
  rw [if_pos hw]
  refine ⟨fun _ _ => trivial, ?_⟩
  rw [show o.semAt Fence.wide.round a.eval = execOp a.eval o from rfl, h]
  exact k
end
end Go.Proofs.Ytimhejjdgncdaaa
