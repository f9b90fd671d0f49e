/- object.look, object.Check at a blob; object.Id. -/
import Derived.Test.YtahhglhebcooaaaGreatDoorVw6
namespace Go.Proofs.YtahhglhebcooaaaGreatDoor
open Go.RowKit Go.Cof Go.Tol

set_option maxHeartbeats 4000000 in
set_option maxRecDepth 100000 in
theorem look_blob (A : Option Addr) (n c : Nat) (w : World) (hn : n ≤ 16384) :
    Calls Tryz.prog 21 #[.agg #[.int .i64 1, .slice A n c]] w fun e w' => e = .returned (.tuple #[.slice none 0 0, .int .i64 0]) ∧ Below w.heap.size w w' := by
  have hn1 : (n : Int) ≤ 16384 := by omega
  have hn0 : (0 : Int) ≤ (n : Int) := Int.natCast_nonneg _
  clear hn
  go_enter Tryz.func21, Tryz.ntmps21
  go_wp2_with (fail)
  go_ret2
  exact ⟨rfl, (Below.refl _ _).alloc (Nat.le_refl _) _⟩
set_option maxHeartbeats 4000000 in
set_option maxRecDepth 100000 in
theorem check_blob (A : Option Addr) (n c : Nat) (w : World) (hn : n ≤ 16384) :
    Calls Tryz.prog 7 #[.agg #[.int .i64 1, .slice A n c]] w fun e w' => e = .returned (.int .i64 0) ∧ Below w.heap.size w w' := by
  have Hn := hide hn
  clear hn
  go_enter Tryz.func7, Tryz.ntmps7
  go_wp2_with (first
    | (go_at_call 21; refine (look_blob A n c _ Hn.out).mono ?_; rintro e w6 ⟨rfl, hb6⟩)
    | fail)
  go_ret
  exact ⟨rfl, ((Below.refl w.heap.size w).alloc (Nat.le_refl _) _).trans (hb6.mono (by simp))⟩
end Go.Proofs.YtahhglhebcooaaaGreatDoor
