/- The law's helpers. -/
import Derived.Test.YtogplcfoigofpaaNetE
import Derived.Lib.SlBytesConst
namespace Go.Proofs.Ytogplcfoigofpaa
open Go.RowKit Go.Cof

set_option maxHeartbeats 400000 in
theorem own_any (w : World) (p : Pk) (A : Option Addr) (cap : Nat) (S : Nat → Prop) (hr : Rd w S 1 A p.b.length (bytesV p.b)) :
    Calls Try.prog 10 #[.agg #[.int .i64 p.f, .int .i64 p.t, .slice A p.b.length cap]] w fun e w' => e = .returned (.agg #[.int .i64 p.f, .int .i64 p.t, .string ⟨p.b.toArray⟩]) ∧ Below w.heap.size w w' := by
  have hconv := run_convert_rd (P := Try.prog) ((w.alloc (.cells #[.int .i64 p.f, .int .i64 p.t, .slice A p.b.length cap] 27)).alloc (.cells #[.int .i64 0, .int .i64 0, .string { data := #[] }] 34)) 25 9 5 Try.underlying25 Try.underlying5 Try.underlying9 S A p.b cap ((hr.alloc _).alloc _)
  clear hr
  go_enter Try.func10, Try.ntmps10
  go_wp2
  refine bodyPost_ret (v := .agg #[.int .i64 p.f, .int .i64 p.t, .string ⟨p.b.toArray⟩]) (by simp [results, Try.results10, go_sem]) rfl ⟨rfl, ?_⟩
  exact ((Below.refl _ _).alloc (Nat.le_refl _) _).alloc (by simp) _

theorem not_foot_nil {b i : Nat} (h : i ≠ b) : ¬ Foot b (.slice none 0 0) i := by
  rintro (rfl | h2)
  · exact h rfl
  · cases h2

set_option maxHeartbeats 800000 in
theorem one_any (w : World) : Calls Try.prog 12 #[] w fun e w' => e = .returned (.bool true) ∧ Below w.heap.size w w' := by
  have kc : (convert 25 25 (.slice (some ⟨w.heap.size + 1, 0, none⟩) 1 1)).run Try.prog ((w.alloc (.cells #[.bool true, .slice none 0 0] 51)).alloc (.cells #[.int .u8 97] 5)) = .ok (.slice (some ⟨w.heap.size + 1, 0, none⟩) 1 1) ((w.alloc (.cells #[.bool true, .slice none 0 0] 51)).alloc (.cells #[.int .u8 97] 5 (1, 2))) := by
    have h := Lib.run_convert_bytes_const (P := Try.prog) (w.alloc (.cells #[.bool true, .slice none 0 0] 51)) 25 5 #[.int .u8 97] 1 1 Try.underlying25 Try.underlying5
    rw [World.size_alloc] at h
    exact h
  go_enter Try.func12, Try.ntmps12
  go_wp2_with (go_at_call 6; refine (new_any _).mono ?_; rintro e w1 ⟨rfl, rfl⟩)
  have hN3 := ((new_net w w.heap.size (Nat.le_refl _)).alloc (.cells #[.int .u8 97] 5 (1, 2))).alloc (.cells #[.int .i64 1, .int .i64 0, .slice (some ⟨w.heap.size + 1, 0, none⟩) 1 1, .int .i64 0, .int .i64 2, .slice none 0 0] 27)
  have hE : Els (PkC (((w.alloc (.cells #[.bool true, .slice none 0 0] 51)).alloc (.cells #[.int .u8 97] 5 (1, 2))).alloc (.cells #[.int .i64 1, .int .i64 0, .slice (some ⟨w.heap.size + 1, 0, none⟩) 1 1, .int .i64 0, .int .i64 2, .slice none 0 0] 27)) (fun i => i ≠ w.heap.size)) [⟨1, 0, [97]⟩, ⟨0, 2, []⟩] [.int .i64 1, .int .i64 0, .slice (some ⟨w.heap.size + 1, 0, none⟩) 1 1, .int .i64 0, .int .i64 2, .slice none 0 0] := by
    refine ⟨_, _, rfl, ⟨some ⟨w.heap.size + 1, 0, none⟩, 1, rfl, ((Rd.new_at _ _ _ _ (by simp) rfl).alloc _).mono (fun b _ hb => by omega), by simp⟩, _, _, rfl, ⟨none, 0, rfl, Rd.nil _ _ _ _, by simp⟩, rfl⟩
  refine (send_fits _ w.heap.size w.heap.size (.slice none 0 0) [] [] hN3 (some ⟨w.heap.size + 1 + 1, 0, none⟩) 2 [⟨1, 0, [97]⟩, ⟨0, 2, []⟩] (· = w.heap.size + 1 + 1) (fun i => i ≠ w.heap.size) _ (Rd.new_at _ _ _ _ (by simp) rfl) hE (fun i hi => not_foot_nil (by omega)) (fun i hi => not_foot_nil hi) (by simp) (by simp [Pk.big])).mono ?_
  rintro e w4 ⟨rfl, v4, xs4, hN4, _, hk4⟩
  clear kc hE hN3
  have Hk4 := hide hk4
  have Ht := hide (take_in w4 w.heap.size w.heap.size v4 [⟨1, 0, [97]⟩, ⟨0, 2, []⟩] xs4 hN4 0 (by simp))
  have Hlow := hide (show ∀ i, Foot w.heap.size v4 i → w.heap.size ≤ i from fun i hi => by
    rcases hi with rfl | h
    · exact Nat.le_refl _
    · exact (hN4.row.lt i h).1)
  clear hk4 hN4
  go_wp2_with (go_at_call 9; refine Ht.out.mono ?_; rintro e w5 ⟨⟨A5, cap5, rfl, hR5⟩, ⟨v5, xs5, hN5, _⟩, hk5⟩)
  have hcv : ∀ O, (convert 25 9 (.slice A5 1 cap5)).run Try.prog (w5.alloc O) = .ok (.string ⟨#[97]⟩) (w5.alloc O) := fun O => run_convert_rd (P := Try.prog) (w5.alloc O) 25 9 5 Try.underlying25 Try.underlying5 Try.underlying9 _ A5 [97] cap5 (hR5.alloc O)
  have hN6 : ∀ O, NetAt (w5.alloc O) w.heap.size w.heap.size v5 [⟨0, 2, []⟩] xs5 := fun O => NetAt.alloc hN5 O
  have Hl := hide (fun O => show Calls Try.prog 11 #[.pointer (some ⟨w.heap.size, 0, none⟩)] (w5.alloc O) fun e w' => e = .returned (.int .i64 1) ∧ w5.alloc O = w' from len_any _ _ _ _ _ _ (hN6 O))
  have Hto := hide (fun O => to_any _ _ _ _ _ _ (hN6 O) 2)
  clear hN5 hN6 hR5
  go_simp
  go_wp2_with (first | (go_at_call 11; refine (Hl.out _).mono ?_; rintro e w6 ⟨rfl, rfl⟩) | (go_at_call 17; refine (Hto.out _).mono ?_; rintro e w7 ⟨A7, cap7, rfl, _, hb7⟩))
  go_ret
  refine ⟨rfl, ?_⟩
  have b3 : Below w.heap.size w _ := (((Below.refl w.heap.size w).alloc (Nat.le_refl _) (.cells #[.bool true, .slice none 0 0] 51)).alloc (by simp) (.cells #[.int .u8 97] 5 (1, 2))).alloc (by simp; omega) (.cells #[.int .i64 1, .int .i64 0, .slice (some ⟨w.heap.size + 1, 0, none⟩) 1 1, .int .i64 0, .int .i64 2, .slice none 0 0] 27)
  have b4 := b3.trans (Hk4.out.below b3.size (fun i hi => by
    rcases hi with rfl | h
    · exact Nat.le_refl _
    · cases h))
  have b5 := (b4.trans (hk5.below b4.size Hlow.out)).alloc (b4.trans (hk5.below b4.size Hlow.out)).size (.cells #[.int .i64 1, .int .i64 0, .slice A5 1 cap5] 27)
  exact b5.trans (hb7.mono b5.size)
end Go.Proofs.Ytogplcfoigofpaa
