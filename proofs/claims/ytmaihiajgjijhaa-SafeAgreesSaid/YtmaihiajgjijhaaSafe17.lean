/- The chapter's example of a history. -/
import Derived.Test.YtmaihiajgjijhaaSafe16
namespace Go.Proofs.Ytmaihiajgjijhaa
open Go.RowKit Go.Shelf
set_option linter.unusedVariables false
set_option linter.unusedSimpArgs false
attribute [local go_sem] alloc_drewN setCell_drewN

def evsCells (l : List EvV) : List Value := (l.map EvV.cells).flatten
theorem hist_of_block {w : World} {g : Nat} {l : List EvV} {t : TypeId} {fr : Nat × Nat} (h : Holds w g (.cells (evsCells l).toArray t fr)) (ho : ∀ x ∈ l, EvOk w x) : HistAt w (some ⟨g, 0, none⟩) l := by
  obtain ⟨h1, h2⟩ := flat_at (sz := 22) (l.map EvV.cells) (fun c hc => by obtain ⟨x, _, rfl⟩ := List.mem_map.1 hc; rfl)
  refine ⟨⟨evsCells l, by rw [evsCells, h1, List.length_map], ⟨t, fun _ => ⟨g, 0, _, fr, rfl, h, fun j u hj => by rw [Nat.zero_add]; simpa using hj⟩⟩, fun i x hi => h2 i _ (by rw [List.getElem?_map, hi]; rfl)⟩, ho⟩

def mem1 : MemV := ⟨1, ⟨#[100, 0]⟩⟩
def sl0 : SlV := ⟨none, 0, 0⟩
def sl1 (m : Nat) : SlV := ⟨some ⟨m, 0, none⟩, 1, 1⟩
def r0 : RecV := ⟨0, 0, ⟨0, 0, 0⟩, false, 0, sl0, sl0, ⟨#[]⟩, []⟩
def c0 : RcpV := ⟨⟨0, 0, 0⟩, 0, sl0, sl0, []⟩
def few0 : EvV := ⟨4, 0, 0, ⟨0, 1, 0⟩, r0, c0⟩
def few1 : EvV := ⟨4, 0, 1, ⟨0, 1, 0⟩, r0, c0⟩
def few2 (m : Nat) : EvV := ⟨1, 0, 0, ⟨0, 1, 1⟩, r0, ⟨⟨0, 1, 1⟩, 1, sl1 m, sl0, [mem1]⟩⟩
def few3 (m : Nat) : EvV := ⟨2, 0, 1, ⟨0, 0, 0⟩, ⟨2, 0, ⟨0, 1, 1⟩, true, 1, sl1 m, sl0, ⟨#[100, 0]⟩, [mem1]⟩, c0⟩
def com (m q : Nat) : EvV := ⟨2, 0, 0, ⟨0, 0, 0⟩, ⟨3, 0, ⟨0, 1, 1⟩, true, 1, sl1 m, sl1 q, ⟨#[]⟩, [mem1]⟩, c0⟩
def oth (m : Nat) : EvV := ⟨2, 0, 1, ⟨0, 0, 0⟩, ⟨2, 0, ⟨0, 1, 2⟩, true, 1, sl1 m, sl0, ⟨#[100, 0]⟩, [mem1]⟩, c0⟩
theorem few_check (m : Nat) : checkOf 0 [few0, few1, few2 m, few3 m] = (4, 0) := by kernel_rfl
theorem few_check1 (m q : Nat) : checkOf 0 [few0, few1, few2 m, com m q] = (3, 344) := by kernel_rfl
theorem few_check2 (m q : Nat) : checkOf 0 [few0, few1, few2 m, oth m] = (3, 342) := by kernel_rfl
theorem few_check3 (m q : Nat) : checkOf 0 [few0, few1, few2 m, few3 m, com m q] = (5, 0) := by kernel_rfl
theorem few_out (m : Nat) : outcomeOf [few0, few1, few2 m, few3 m] ⟨0, 1, 1⟩ = none := by rfl
theorem few_begun (m : Nat) : begunL [few0, few1, few2 m, few3 m] = [⟨0, 1, 1⟩] := by rfl

/-- What 'few' hands back. -/
def FewIs (w : World) (e : Ending) (w' : World) : Prop := ∃ g m, e = .returned (.slice (some ⟨g, 0, none⟩) 4 4) ∧ Holds w' g (.cells (evsCells [few0, few1, few2 m, few3 m]).toArray 40) ∧ Holds w' m (.cells #[.int .i64 1, .string ⟨#[100, 0]⟩] 42) ∧ But (fun _ => False) w w'
set_option maxRecDepth 100000 in
set_option maxHeartbeats 2000000 in
theorem few_any (w : World) : Calls Try.prog 10 #[] w (FewIs w) := by
  go_enter Try.func10, Try.ntmps10
  go_wp2
  go_ret
  refine ⟨w.heap.size + 1 + 1, w.heap.size + 1, rfl, Holds.n32 w _ _ _, Holds.n31 w _ _ _, (((But.refl _ w).alloc _).alloc _).alloc _⟩
end Go.Proofs.Ytmaihiajgjijhaa
