/- What may be a reference's name: letters and parts. -/
import Derived.Test.YtimfmbcihopaaaaGreatDoorBase
import Derived.Test.YtimfmbcihopaaaaGreatDoorShelf
import Derived.Test.YtimfmbcihopaaaaGreatDoorChecked
import Derived.Laws.RangeAny
import Derived.Laws.BytesString
import Derived.Deep.RegionLaw
import Derived.Deep.RegionWith
import Derived.Deep.RegionHeld3
import Derived.Deep.QuietTactic
import Derived.BigQuiet
import Derived.Deep.DeepCutAuto
import Derived.Deep.CutBlock
namespace Go.Proofs.YtimfmbcihopaaaaGreatDoor
open Go.RowKit Go.Cof

def letterI (c : Int) : Bool := decide (97 ≤ c ∧ c ≤ 122) || (decide (65 ≤ c ∧ c ≤ 90) || (decide (48 ≤ c ∧ c ≤ 57) || (c == 45 || (c == 95 || c == 46))))

theorem rletter_any (w : World) (c : Int) (h0 : 0 ≤ c) (h1 : c ≤ 255) :
    Calls Tryz.prog 73 #[.int .u8 c] w fun e w' => e = .returned (.bool (letterI c)) ∧ w' = w := by
  go_enter Tryz.func73, Tryz.ntmps73
  go_wp2_with fail
  all_goals go_ret
  all_goals (refine ⟨congrArg (fun b => Ending.returned (Value.bool b)) (Bool.eq_iff_iff.2 ?_), rfl⟩; simp [letterI] <;> omega)

/-- string([]byte{c}). -/
theorem one_byte (w : World) (c : UInt8) : (convert 27 9 (.slice (some ⟨w.heap.size, 0, none⟩) 1 1)).run Tryz.prog (w.alloc (.cells #[.int .u8 c.toNat] 5)) = .ok (.string ⟨#[c]⟩) (w.alloc (.cells #[.int .u8 c.toNat] 5)) :=
  run_convert_rd _ _ _ 5 Tryz.underlying27 Tryz.underlying5 Tryz.underlying9 (fun _ => True) _ [c] 1 ⟨rfl, fun _ => ⟨_, 0, rfl, trivial, by simp, fun j hj => by
    obtain rfl : j = 0 := by simp at hj; omega
    simp [bytesV]⟩⟩

theorem mark_any (u : UInt8) : 0 ≤ Lib.indexByte [45, 95, 46] u ↔ ((u.toNat : Int) = 45 ∨ (u.toNat : Int) = 95 ∨ (u.toNat : Int) = 46) := by
  have h : ∀ k : UInt8, (k == u) = true ↔ (u.toNat : Int) = k.toNat := fun k => by
    rw [beq_iff_eq, ← UInt8.toNat_inj]; omega
  by_cases h1 : (45 : UInt8) == u
  · simp [Lib.indexByte, h1, (h 45).1 h1]
  · by_cases h2 : (95 : UInt8) == u
    · simp [Lib.indexByte, h1, h2, (h 95).1 h2]
    · by_cases h3 : (46 : UInt8) == u
      · simp [Lib.indexByte, h1, h2, h3, (h 46).1 h3]
      · have a1 := mt (h 45).2 h1
        have a2 := mt (h 95).2 h2
        have a3 := mt (h 46).2 h3
        simp only [UInt8.reduceToNat] at a1 a2 a3
        simp [Lib.indexByte, h1, h2, h3]
        omega

set_option maxRecDepth 100000 in
theorem nletter_any (w : World) (c : Int) (h0 : 0 ≤ c) (h1 : c ≤ 2147483647) :
    Calls Tryz.prog 68 #[.int .i32 c] w fun e w' => e = .returned (.bool (letterI c)) ∧ Below w.heap.size w w' := by
  by_cases hl : c < 128
  · obtain ⟨u, hu⟩ : ∃ u : UInt8, c = u.toNat := ⟨UInt8.ofNat c.toNat, by simp; omega⟩
    subst hu
    have hcv := one_byte w u
    go_enter Tryz.func68, Tryz.ntmps68
    go_wp2_with (go_at_call 66; refine (Tryz.strings_Contains_one ⟨#[45, 95, 46]⟩ u _).mono ?_; rintro e w2 ⟨rfl, rfl⟩)
    all_goals go_ret
    all_goals (refine ⟨congrArg (fun b => Ending.returned (Value.bool b)) (Bool.eq_iff_iff.2 ?_), by first | exact Below.refl _ _ | exact (Below.refl _ _).alloc (Nat.le_refl _) _⟩; simp [letterI, mark_any] <;> omega)
  · go_enter Tryz.func68, Tryz.ntmps68
    go_wp2_with fail
    all_goals go_ret
    all_goals (refine ⟨congrArg (fun b => Ending.returned (Value.bool b)) (Bool.eq_iff_iff.2 ?_), Below.refl _ _⟩; simp [letterI] <;> omega)
end Go.Proofs.YtimfmbcihopaaaaGreatDoor
