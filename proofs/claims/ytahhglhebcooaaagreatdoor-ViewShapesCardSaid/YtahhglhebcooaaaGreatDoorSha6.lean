/- sha: New. -/
import Derived.Test.YtahhglhebcooaaaGreatDoorSha5
namespace Go.Proofs.YtahhglhebcooaaaGreatDoor
open Go.RowKit Go.Cof Go.Tol

def beginW : List Int := [1779033703, 3144134277, 1013904242, 2773480762, 1359893119, 2600822924, 528734635, 1541459225]
def hash0 : HashA := ⟨beginW, List.replicate 64 0, 0⟩
theorem hash0_ok : hash0.Ok := ⟨rfl, rfl⟩

set_option maxHeartbeats 4000000 in
set_option maxRecDepth 100000 in
theorem begin_any (w : World) : Calls Tryz.prog 83 #[] w fun e w' => e = .returned (.agg (u32V beginW).toArray) ∧ Below w.heap.size w w' := by
  go_enter Tryz.func83, Tryz.ntmps83
  go_wp2_with (fail)
  refine bodyPost_ret (results_cell_row rfl _ _ w.heap.size _ _ _ _ rfl (heap_new _ _) Tryz.underlying150 rfl (by kernel_rfl)) rfl ?_
  exact ⟨rfl, (Below.refl _ _).alloc (Nat.le_refl _) _⟩

/-- A hash of one's own. -/
def NewP (w w' : World) (e : Ending) : Prop :=
  ∃ g, e = .returned (.pointer (some ⟨g, 0, none⟩)) ∧ w.heap.size ≤ g ∧ w'.heap[g]? = some (.cells (hashV hash0).toArray 154 (0, 0)) ∧ Below w.heap.size w w'
set_option maxHeartbeats 4000000 in
set_option maxRecDepth 100000 in
theorem new_any (w : World) : Calls Tryz.prog 58 #[] w fun e w' => NewP w w' e := by
  go_enter Tryz.func58, Tryz.ntmps58
  go_wp2_with (first
    | (go_at_call 83; ((with_reducible refine (begin_any w).mono ?_)); rintro e w2 ⟨rfl, hb2⟩; have Hb2 := hide hb2; clear hb2; simp only [u32V, beginW, List.map_cons, List.map_nil])
    | fail)
  go_ret
  exact ⟨w2.heap.size, rfl, Hb2.out.size, (heap_new _ _).trans (congrArg (fun z => some (Obj.cells z 154 (0, 0))) (by kernel_rfl)), Hb2.out.alloc Hb2.out.size _⟩
end Go.Proofs.YtahhglhebcooaaaGreatDoor
