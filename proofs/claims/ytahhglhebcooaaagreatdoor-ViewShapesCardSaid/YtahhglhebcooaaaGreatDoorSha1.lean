/- sha: words turned. -/
import Derived.Test.YtahhglhebcooaaaGreatDoorBase
import Derived.Test.YtahhglhebcooaaaGreatDoorChecked
import Derived.ProofKit
import Derived.WalkArith
import Derived.IntWalk
import Derived.Laws.BitsAllLaws
import Derived.Laws.ShiftsVarLaws
import Derived.Deep.QuietTactic
import Derived.BigQuiet
namespace Go.Proofs.YtahhglhebcooaaaGreatDoor
open Go.RowKit Go.Cof

/-- A word turned to the left by s. -/
def rotV (x : Int) (s : Nat) : Int := bits .or .u32 (x * 2 ^ s % 4294967296) (x / 2 ^ (32 - s))

theorem rotate_any (x n : Int) (s : Nat) (w : World) (hs : s ≤ 32) (hb : bits .and .u64 (IntKind.u64.wrap n) 31 = (s : Int)) : Calls Tryz.prog 105 #[.int .u32 x, .int .i64 n] w fun e w' => e = .returned (.int .u32 (rotV x s)) ∧ w = w' := by
  have hlo : (0 : Int) ≤ s := by omega
  have hhi : (s : Int) ≤ 32 := by omega
  obtain ⟨q, hq⟩ : ∃ q : Int, q = (s : Int) := ⟨_, rfl⟩
  have Hr := hide (show bits .or .u32 (x * 2 ^ q.toNat % 4294967296) (x / 2 ^ (32 - q).toNat) = rotV x s by rw [hq, rotV, Int.toNat_natCast, show (32 - (s : Int)).toNat = 32 - s by omega])
  rw [← hq] at hb hlo hhi
  clear hq hs
  go_enter Tryz.func105, Tryz.ntmps105
  go_wp2
  go_ret
  exact ⟨by rw [← Hr.out]; rfl, rfl⟩

theorem turned_any (x n : Int) (s : Nat) (w : World) (hs : s ≤ 32) (hn : -64 ≤ n ∧ n ≤ 64) (hb : bits .and .u64 (IntKind.u64.wrap (-n)) 31 = (s : Int)) : Calls Tryz.prog 96 #[.int .u32 x, .int .i64 n] w fun e w' => e = .returned (.int .u32 (rotV x s)) ∧ w = w' := by
  have Hb := hide hb
  clear hb
  obtain ⟨h1, h2⟩ := hn
  go_enter Tryz.func96, Tryz.ntmps96
  go_wp2_with (go_at_call 105; ((with_reducible refine (rotate_any x (-n) s _ hs Hb.out).mono ?_)); rintro e w' ⟨rfl, rfl⟩)
  go_ret
  exact ⟨rfl, rfl⟩
theorem turned7 (x : Int) (w : World) : Calls Tryz.prog 96 #[.int .u32 x, .int .i64 7] w fun e w' => e = .returned (.int .u32 (rotV x 25)) ∧ w = w' := turned_any x 7 25 w (by decide) (by decide) (by decide)
theorem turned18 (x : Int) (w : World) : Calls Tryz.prog 96 #[.int .u32 x, .int .i64 18] w fun e w' => e = .returned (.int .u32 (rotV x 14)) ∧ w = w' := turned_any x 18 14 w (by decide) (by decide) (by decide)
theorem turned17 (x : Int) (w : World) : Calls Tryz.prog 96 #[.int .u32 x, .int .i64 17] w fun e w' => e = .returned (.int .u32 (rotV x 15)) ∧ w = w' := turned_any x 17 15 w (by decide) (by decide) (by decide)
theorem turned19 (x : Int) (w : World) : Calls Tryz.prog 96 #[.int .u32 x, .int .i64 19] w fun e w' => e = .returned (.int .u32 (rotV x 13)) ∧ w = w' := turned_any x 19 13 w (by decide) (by decide) (by decide)
theorem turned6 (x : Int) (w : World) : Calls Tryz.prog 96 #[.int .u32 x, .int .i64 6] w fun e w' => e = .returned (.int .u32 (rotV x 26)) ∧ w = w' := turned_any x 6 26 w (by decide) (by decide) (by decide)
theorem turned11 (x : Int) (w : World) : Calls Tryz.prog 96 #[.int .u32 x, .int .i64 11] w fun e w' => e = .returned (.int .u32 (rotV x 21)) ∧ w = w' := turned_any x 11 21 w (by decide) (by decide) (by decide)
theorem turned25 (x : Int) (w : World) : Calls Tryz.prog 96 #[.int .u32 x, .int .i64 25] w fun e w' => e = .returned (.int .u32 (rotV x 7)) ∧ w = w' := turned_any x 25 7 w (by decide) (by decide) (by decide)
theorem turned2 (x : Int) (w : World) : Calls Tryz.prog 96 #[.int .u32 x, .int .i64 2] w fun e w' => e = .returned (.int .u32 (rotV x 30)) ∧ w = w' := turned_any x 2 30 w (by decide) (by decide) (by decide)
theorem turned13 (x : Int) (w : World) : Calls Tryz.prog 96 #[.int .u32 x, .int .i64 13] w fun e w' => e = .returned (.int .u32 (rotV x 19)) ∧ w = w' := turned_any x 13 19 w (by decide) (by decide) (by decide)
theorem turned22 (x : Int) (w : World) : Calls Tryz.prog 96 #[.int .u32 x, .int .i64 22] w fun e w' => e = .returned (.int .u32 (rotV x 10)) ∧ w = w' := turned_any x 22 10 w (by decide) (by decide) (by decide)
end Go.Proofs.YtahhglhebcooaaaGreatDoor
