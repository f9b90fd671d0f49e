/- view.moved, at digits. -/
import Derived.Test.YtahhglhebcooaaaGreatDoorVw3
namespace Go.Proofs.YtahhglhebcooaaaGreatDoor
open Go.RowKit Go.Cof Go.Tol

theorem moved_any (c d : Int) (h : (c = 49 ∧ d = 50) ∨ (c = 57 ∧ d = 48)) (w : World) :
    Calls Tryz.prog 70 #[.int .u8 c, .int .u8 48, .int .i64 1, .int .i64 10] w fun e w' => e = .returned (.int .u8 d) ∧ w = w' := by
  rcases h with ⟨rfl, rfl⟩ | ⟨rfl, rfl⟩
  all_goals
    go_enter Tryz.func70, Tryz.ntmps70
    go_wp2_with (fail)
    go_ret
    exact ⟨rfl, rfl⟩
end Go.Proofs.YtahhglhebcooaaaGreatDoor
