/- Which of two names is first. -/
import Derived.Test.YtimfmbcihopaaaaGreatDoorMapG
namespace Go.Proofs.YtimfmbcihopaaaaGreatDoor
open Go.RowKit Go.Cof

def lessL (a b : List UInt8) : Bool := Op.bytesLess a b

set_option maxHeartbeats 4000000 in
set_option maxRecDepth 100000 in
theorem nless_any (w : World) (a b : ByteArray) :
    Calls Tryz.prog 20 #[.string a, .string b] w fun e w' => e = .returned (.bool (lessL a.data.toList b.data.toList)) ∧ w' = w := by
  go_enter Tryz.func20, Tryz.ntmps20
  go_wp2_with fail
  go_ret
  exact ⟨by rw [lessL, ← ByteArray.toList_eq, ← ByteArray.toList_eq]; rfl, rfl⟩

theorem less_at (l m : List UInt8) (k : Nat) (x y : UInt8) (hx : l[k]? = some x) (hy : m[k]? = some y) :
    lessL (l.drop k) (m.drop k) = (decide (x < y) || (x == y && lessL (l.drop (k + 1)) (m.drop (k + 1)))) := by
  obtain ⟨h1, rfl⟩ := List.getElem?_eq_some_iff.1 hx
  obtain ⟨h2, rfl⟩ := List.getElem?_eq_some_iff.1 hy
  rw [List.drop_eq_getElem_cons h1, List.drop_eq_getElem_cons h2]
  rfl

set_option maxHeartbeats 4000000 in
set_option maxRecDepth 100000 in
theorem rless_any (w : World) (a b : ByteArray) (ha : a.size < 4294967281) :
    Calls Tryz.prog 30 #[.string a, .string b] w fun e w' => e = .returned (.bool (lessL a.data.toList b.data.toList)) ∧ Below w.heap.size w w' := by
  have hla : a.data.toList.length = a.size := by rw [Array.length_toList]; rfl
  have hlb : b.data.toList.length = b.size := by rw [Array.length_toList]; rfl
  have Hla := hide hla
  have Hlb := hide hlb
  clear hla hlb
  go_enter Tryz.func30, Tryz.ntmps30
  go_wp2_with fail
  go_loopw [5] (fun i wr => ∃ k : Nat, i = .int .i64 k ∧ k ≤ a.size ∧ k ≤ b.size ∧ Below w.heap.size w wr ∧ lessL a.data.toList b.data.toList = lessL (a.data.toList.drop k) (b.data.toList.drop k)) (fun i _ => a.size - (intOf i).toNat)
  case atStart => exact ⟨0, rfl, Nat.zero_le _, Nat.zero_le _, Below.refl _ _, rfl⟩
  case round =>
    obtain ⟨k, rfl, hk1, hk2, hbw, hrel⟩ := hrel
    have HB := hide hbw
    clear hbw
    have Hrel := hide hrel
    clear hrel
    by_cases h1 : k < a.size
    · by_cases h2 : k < b.size
      · obtain ⟨x, hx⟩ : ∃ x, a[k]'h1 = x := ⟨_, rfl⟩
        obtain ⟨y, hy⟩ : ∃ y, b[k]'h2 = y := ⟨_, rfl⟩
        have hgx := get_of a _ rfl k h1
        have hgy := get_of b _ rfl k h2
        rw [hx] at hgx
        rw [hy] at hgy
        have hst := hide (less_at _ _ k x y hgx hgy)
        clear hgx hgy
        by_cases he : x = y
        · have heq : ((x.toNat : Int) == (y.toNat : Int)) = true := by rw [he]; exact beq_self_eq_true _
          have Heq := hide he
          clear he
          go_wp2_with fail
          go_region
          go_wp2_with fail
          refine ⟨⟨k + 1, by go_num, by omega, by omega, HB.out.drew, ?_⟩, by simp [intOf]; omega⟩
          rw [Hrel.out, hst.out, Heq.out]
          simp
        · have hne : ((x.toNat : Int) == (y.toNat : Int)) = false := by
            rw [beq_eq_false_iff_ne]; intro h; exact he (UInt8.toNat_inj.1 (by omega))
          have hne2 : ¬ (x.toNat : Int) = (y.toNat : Int) := fun h => he (UInt8.toNat_inj.1 (by omega))
          go_wp2_with fail
          go_region
          go_wp2_with fail
          go_region
          go_wp2_with fail
          go_ret
          refine ⟨?_, HB.out.drew.drew⟩
          rw [Hrel.out, hst.out, beq_eq_false_iff_ne.2 he, Bool.false_and, Bool.or_false]
          refine congrArg (fun b => Ending.returned (Value.bool b)) (Bool.eq_iff_iff.2 ?_)
          simp [UInt8.lt_iff_toNat_lt]
      · obtain rfl : k = b.size := by omega
        go_wp2_with fail
        go_ret
        refine ⟨?_, HB.out⟩
        rw [Hrel.out, List.drop_of_length_le (l := b.data.toList) (by rw [Hlb.out]; exact Nat.le_refl _)]
        refine congrArg (fun b => Ending.returned (Value.bool b)) ?_
        rw [show lessL (a.data.toList.drop b.size) [] = false by cases a.data.toList.drop b.size <;> rfl]
        simp; omega
    · obtain rfl : k = a.size := by omega
      go_wp2_with fail
      go_ret
      refine ⟨?_, HB.out⟩
      rw [Hrel.out, List.drop_of_length_le (l := a.data.toList) (by rw [Hla.out]; exact Nat.le_refl _)]
      refine congrArg (fun b => Ending.returned (Value.bool b)) ?_
      by_cases h3 : a.size < b.size
      · rw [List.drop_eq_getElem_cons (by rw [Hlb.out]; exact h3)]
        simp [lessL, Op.bytesLess, h3]
      · rw [List.drop_of_length_le (by rw [Hlb.out]; omega)]
        simp [lessL, Op.bytesLess]; omega
end Go.Proofs.YtimfmbcihopaaaaGreatDoor
