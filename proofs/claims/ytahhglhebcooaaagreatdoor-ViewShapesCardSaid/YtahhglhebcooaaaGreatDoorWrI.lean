/- The wire: numbers and texts in bytes. -/
import Derived.Test.YtahhglhebcooaaaGreatDoorTool
namespace Go.Proofs.YtahhglhebcooaaaGreatDoor
open Go.RowKit Go.Cof

theorem Tryz.infoU8 : (Tryz.prog.info? 5).map (fun i => (i.zero, i.size, i.bytes)) = some (some (.int .u8 0), 1, 1) := by kernel_rfl

/-- slices.Clone of bytes: nil is nil; else new memory with the same bytes. -/
def Cloned (w w' : World) (l : List UInt8) (e : Ending) : Prop :=
  ∃ A cap, e = .returned (.slice A l.length cap) ∧ w'.ownsRow w.heap.size 5 1 (.slice A l.length cap) l.length (bytesV l) ∧ Below w.heap.size w w'

set_option maxHeartbeats 400000 in
theorem clone_any (S : Nat → Prop) (A : Option Addr) (cap : Nat) (l : List UInt8) (w : World) (hr : Rd w S 1 A l.length (bytesV l)) (hl : l.length ≤ 140737488351232) :
    Calls Tryz.prog 40 #[.slice A l.length cap] w fun e w' => Cloned w w' l e := by
  rcases A with _ | ad
  · have hn : l.length = 0 := by
      rcases Nat.eq_zero_or_pos l.length with h | h
      · exact h
      · obtain ⟨_, _, h, _⟩ := hr.at_ h
        cases h
    obtain rfl : l = [] := List.eq_nil_of_length_eq_zero hn
    clear hn hr hl
    have hq := fun wx => Lib.run_eql_slice_nil (P := Tryz.prog) wx 28 5 none 0 cap 0 0 Tryz.underlying28
    simp only [List.length_nil]
    go_enter Tryz.func40, Tryz.ntmps40
    go_wp2
    go_ret
    exact ⟨none, 0, rfl, World.ownsRow_nil _ _ _ _, Below.refl _ _⟩
  · have hq := fun wx => Lib.run_eql_slice_nil (P := Tryz.prog) wx 28 5 (some ad) l.length cap 0 0 Tryz.underlying28
    have hr1 := hr.alloc (.cells #[] 5)
    have ho : (w.alloc (.cells #[] 5)).ownsRow w.heap.size 5 1 (.slice (some ⟨w.heap.size, 0, none⟩) 0 0) 0 [] := World.ownsRow_made w #[] 0 (Nat.le_refl _) (by simp) (by simp)
    go_enter Tryz.func40, Tryz.ntmps40
    go_wp2_with (at_builtin; refine wpList_append_rd _ rfl (.tmp 5) (.tmp 6) 28 28 rfl w.heap.size 5 5 (.int .u8 0) 1 1 Tryz.underlying28 Tryz.underlying28 Tryz.infoU8 rfl (by decide) (.slice (some ⟨w.heap.size, 0, none⟩) 0 0) 0 [] rfl ho S (some ad) l.length cap (bytesV l) rfl hr1 (bytesV_one l) (by unfold maxLen; omega) (by omega) (by simp) ?_; intro A' cap' w' hown hgrow hat; clear hr1 ho)
    go_ret
    refine ⟨A', cap', by simp, by simpa using hown, ?_⟩
    exact ((Below.refl _ _).alloc (Nat.le_refl _) _).grown hgrow (by simp) (fun k h => by simp [Value.ownBlock] at h; omega)
/-- The lowest n bytes of a number, the highest first. -/
def beL (v : Nat) : Nat → List UInt8
  | 0 => []
  | n + 1 => UInt8.ofNat (v / 256 ^ n) :: beL v n

theorem beL_length (v n : Nat) : (beL v n).length = n := by
  induction n with
  | zero => rfl
  | succ n ih => rw [beL, List.length_cons, ih]
theorem byte_at (v k : Nat) : (v : Int) / 2 ^ (8 * k) % 256 = ((UInt8.ofNat (v / 256 ^ k)).toNat : Int) := by
  rw [UInt8.toNat_ofNat', Nat.pow_mul 2 8 k |> fun h => (by simpa using h.symm : (256 : Nat) ^ k = 2 ^ (8 * k))]
  simp
theorem own_below {w w' : World} {base size n : Nat} {e : TypeId} {v : Value} {xs : List Value} (h : w.ownsRow base e size v n xs) (hb : Below w.heap.size w w') : w'.ownsRow base e size v n xs :=
  h.kept (row := none) ⟨hb.os, hb.tape, hb.output, hb.size, fun k hk _ => hb.block k hk⟩ (by cases hv : v.ownBlock <;> simp)

set_option maxHeartbeats 4000000 in
set_option maxRecDepth 100000 in
theorem wput_any (S : Nat → Prop) (A : Option Addr) (cap : Nat) (l : List UInt8) (v n : Nat) (w : World) (hr : Rd w S 1 A l.length (bytesV l)) (hl : l.length ≤ 1073741824) (hn : 0 < n ∧ n ≤ 8) (hv : v < 18446744073709551616) :
    Calls Tryz.prog 31 #[.slice A l.length cap, .int .u64 v, .int .i64 n] w fun e w' => Cloned w w' (l ++ beL v n) e := by
  have Hr := hide hr
  clear hr
  go_enter Tryz.func31, Tryz.ntmps31
  go_wp2_with (go_at_call 40; refine (clone_any _ _ _ _ _ Hr.out (by omega)).mono ?_; rintro e w1 ⟨A1, cap1, rfl, hR1, hb1⟩)
  have hsz := hb1.size
  have Hb1 := hide hb1
  have Ho := hide hR1
  clear hb1 hR1
  go_loopw [7, 8] (fun out i wr => ∃ (k m : Nat) (xs : List UInt8), k ≤ n ∧ i = .int .i64 ((k : Int) - 1) ∧ xs ++ beL v k = l ++ beL v n ∧ m = xs.length ∧ wr.ownsRow w.heap.size 5 1 out m (bytesV xs) ∧ Below w.heap.size w wr) (fun _ i _ => (intOf i + 1).toNat)
  case atStart => exact ⟨n, l.length, l, Nat.le_refl _, by first | rfl | rw [show min (n : Int) 8 = n by omega], rfl, rfl, Ho.out, Hb1.out⟩
  case round =>
    obtain ⟨k, m, xs, hk, rfl, hxs, rfl, hown, hb⟩ := hrel
    have Hown := hide hown
    have Hb := hide hb
    have Hxs := hide hxs
    have hs2 := hb.size
    clear hown hb hxs
    rcases k with _ | k
    · go_wp2_with fail
      go_ret
      obtain ⟨A7, c7, rfl, -⟩ := own_form Hown.out
      have hx := Hxs.out
      rw [show beL v 0 = [] from rfl, List.append_nil] at hx
      have ho := Hown.out
      rw [hx] at ho ⊢
      exact ⟨A7, c7, rfl, ho, Hb.out⟩
    · have hx := Hxs.out
      have hxl : xs.length ≤ 1073741832 := by
        have h1 := congrArg List.length hx
        simp only [List.length_append, beL_length] at h1
        omega
      clear hx
      go_wp2_with (at_builtin; refine wpList_append_rd _ rfl (.tmp 18) (.tmp 24) 28 28 rfl w.heap.size 5 5 (.int .u8 0) 1 1 Tryz.underlying28 Tryz.underlying28 Tryz.infoU8 rfl (by decide) u7 xs.length (bytesV xs) rfl (by exact own_below Hown.out ((Below.refl _ _).alloc (Nat.le_refl _) _)) _ _ 1 1 [.int .u8 ((v : Int) / 2 ^ (8 * k) % 256)] rfl (by exact Rd.new_at _ _ _ _ rfl rfl) (by simp [Value.oneCell']) (by unfold maxLen; omega) (by omega) (by simp; omega) ?_; intro A3 cap3 w3 hown3 hgrow3 hat3)
      refine ⟨⟨k, xs.length + 1, xs ++ [UInt8.ofNat (v / 256 ^ k)], by omega, rfl, ?_, by simp, ?_, (Hb.out.alloc hs2 _).grown hgrow3 (by simp; omega) (fun j hj => (Hown.out.lt j hj).1)⟩, by simp only [intOf]; omega⟩
      · rw [← Hxs.out, List.append_assoc]; rfl
      · rw [bytesV_append]
        rw [byte_at] at hown3
        exact hown3
end Go.Proofs.YtahhglhebcooaaaGreatDoor
