/- 01.Put and 01.Sized. -/
import Derived.Test.YtimfmbcihopaaaaGreatDoorMapL
namespace Go.Proofs.YtimfmbcihopaaaaGreatDoor
open Go.RowKit Go.Cof

theorem u8_nat (q : Nat) : ((UInt8.ofNat q).toNat : Int) = (q : Int) % 256 := by
  rw [UInt8.toNat_ofNat']
  simp
theorem str_add (l k : List UInt8) (h : l.length + k.length ≤ 17179869184) : ∀ w', (Op.stringOp .add ⟨l.toArray⟩ ⟨k.toArray⟩).run Tryz.prog w' = .ok (.string ⟨(l ++ k).toArray⟩) w' := fun w' => by
  rw [run_string_add_sum w' _ _ (by show l.toArray.size + k.toArray.size ≤ _; rw [List.size_toArray, List.size_toArray]; omega)]
  congr 2

set_option maxHeartbeats 4000000 in
set_option maxRecDepth 100000 in
theorem put_any (l : List UInt8) (v n : Nat) (w : World) (hl : l.length ≤ 1073741824) (hn : 0 < n ∧ n ≤ 8) (hv : v < 18446744073709551616) :
    Calls Tryz.prog 27 #[strV l, .int .u64 v, .int .i64 n] w fun e w' => e = .returned (strV (l ++ beL v n)) ∧ Below w.heap.size w w' := by
  have hcast := fun w' => str_add l (beL v n) (by rw [beL_length]; omega) w'
  simp only [strV]
  go_enter Tryz.func27, Tryz.ntmps27
  go_wp2_with fail
  have Hn := hide hn
  go_loopw [1, 7, 8] (fun v' out i wr => ∃ k : Nat, k ≤ n ∧ v' = .int .u64 ((v / 256 ^ k : Nat) : Int) ∧ out = .string ⟨(beL v k).toArray⟩ ∧ i = .int .i64 k ∧ Below w.heap.size w wr) (fun _ _ i _ => n - (intOf i).toNat)
  case atStart => exact ⟨0, Nat.zero_le _, by simp, rfl, rfl, Below.refl _ _⟩
  case round =>
    obtain ⟨k, hk, rfl, rfl, rfl, hb⟩ := hrel
    have Hb := hide hb
    have hsz := hb.size
    clear hb
    obtain ⟨q, hq⟩ : ∃ q, q = v / 256 ^ k := ⟨_, rfl⟩
    rw [← hq]
    have hqv : q < 18446744073709551616 := by rw [hq]; exact Nat.lt_of_le_of_lt (Nat.div_le_self _ _) hv
    have Hq := hide hq
    clear hq
    by_cases hlt : k < n
    · have hcv : (convert 27 9 (.slice (some ⟨wr.heap.size, 0, none⟩) 1 1)).run Tryz.prog (wr.alloc (.cells #[.int .u8 ((q : Int) % 256)] 5)) = .ok (.string ⟨#[UInt8.ofNat q]⟩) (wr.alloc (.cells #[.int .u8 ((q : Int) % 256)] 5)) := by
        have h := run_convert_rd (P := Tryz.prog) (wr.alloc (.cells #[.int .u8 ((q : Int) % 256)] 5)) 27 9 5 Tryz.underlying27 Tryz.underlying5 Tryz.underlying9 (fun _ => True) (some ⟨wr.heap.size, 0, none⟩) [UInt8.ofNat q] 1
          (by
            have h2 := Rd.new (n := 1) (sz := 1) wr 5 [.int .u8 ((q : Int) % 256)] (0, 0) rfl
            rw [show bytesV [UInt8.ofNat q] = [.int .u8 ((q : Int) % 256)] by simp only [bytesV, List.map_cons, List.map_nil, u8_nat]]
            exact h2.mono (fun _ _ _ => trivial))
        exact h
      have hadd := str_add [UInt8.ofNat q] (beL v k) (by rw [beL_length]; simp; omega)
      have hbe : beL v (k + 1) = UInt8.ofNat q :: beL v k := by rw [beL, ← Hq.out]
      have Hbe := hide hbe
      clear hbe
      go_wp2_with fail
      refine ⟨⟨k + 1, by omega, ?_, ?_, by go_num, Hb.out.alloc hsz _⟩, by simp only [intOf]; omega⟩
      · rw [Nat.pow_succ, ← Nat.div_div_eq_div_mul, ← Hq.out]; simp
      · rw [Hbe.out]
    · obtain rfl : k = n := by omega
      go_wp2_with fail
      go_ret
      exact ⟨rfl, Hb.out⟩

set_option maxHeartbeats 4000000 in
theorem sized_any (l x : List UInt8) (w : World) (hl : l.length ≤ 1073741824) (hx : x.length ≤ 1073741824) :
    Calls Tryz.prog 28 #[strV l, strV x] w fun e w' => e = .returned (strV (l ++ beL x.length 4 ++ x)) ∧ Below w.heap.size w w' := by
  have hadd := str_add (l ++ beL x.length 4) x (by simp [beL_length]; omega)
  have hsz : (⟨x.toArray⟩ : ByteArray).size = x.length := rfl
  simp only [strV]
  go_enter Tryz.func28, Tryz.ntmps28
  go_wp2_with (first | (go_at_call 27; refine (put_any l x.length 4 _ hl (by omega) (by omega)).mono ?_; rintro e w1 ⟨rfl, hb1⟩; simp only [strV]))
  go_ret
  exact ⟨by rw [List.append_assoc]; rfl, hb1⟩
end Go.Proofs.YtimfmbcihopaaaaGreatDoor
