/- NetNobody's walk: the law itself. -/
import Derived.Test.YtogplcfoigofpaaNetG
namespace Go.Proofs.Ytogplcfoigofpaa
open Go.RowKit Go.Cof

set_option maxHeartbeats 1600000 in
theorem nobody_any (i f t : Int) (A : Option Addr) (n cap : Nat) (w : World) :
    Calls Try.prog 5 #[.int .i64 i, .agg #[.int .i64 f, .int .i64 t, .slice A n cap]] w fun e w' => e = .returned (.bool true) ∧ Below w.heap.size w w' := by
  go_enter Try.func5, Try.ntmps5
  go_wp2_with fail
  go_loopw [5] (fun k wr => ∃ m : Nat, m ≤ 2 ∧ k = .int .i64 m ∧ Keep (fun _ => False) (w.alloc (.cells #[.int .i64 f, .int .i64 t, .slice A n cap] 27)) wr) (fun k _ => 2 - (intOf k).toNat)
  case atStart => exact ⟨0, by omega, rfl, Keep.refl _ _⟩
  case round =>
    obtain ⟨m, hm, rfl, hk⟩ := hrel
    by_cases hlt : m < 2
    · have hm01 : m = 0 ∨ m = 1 := by omega
      have n0 : ∀ v : Value, v = .pointer none ∨ v = .pointer (some ⟨wr.heap.size, 0, none⟩) → Nobody (wr.alloc (.cells #[.bool false, .slice none 0 0] 51)) v := fun v hv => by
        rcases hv with rfl | rfl
        · exact .inl rfl
        · exact .inr ⟨_, rfl, by simp⟩
      have k0 := hk.alloc (.cells #[.bool false, .slice none 0 0] 51)
      have Na := hide (n0 _ (.inr rfl))
      have Nb := hide (n0 _ (.inl rfl))
      clear n0 hk
      rcases hm01 with rfl | rfl
      · obtain ⟨N0, _⟩ := And.intro Na Nb
        go_wp2_with fail
        refine (take_nobody _ _ N0.out i).mono ?_
        rintro e w1 ⟨rfl, hb1⟩
        have N1 := hide ((N0.out.below hb1).alloc (.cells #[.int .i64 0, .int .i64 0, .slice none 0 0] 27))
        have k1 := (k0.step (Keep.of_none hb1) (fun _ f _ => f)).alloc (.cells #[.int .i64 0, .int .i64 0, .slice none 0 0] 27)
        clear N0 Na Nb k0 hb1
        go_wp2_with fail
        refine (at_nobody _ _ N1.out i).mono ?_
        rintro e w2 ⟨rfl, hb2⟩
        have N2 := hide ((N1.out.below hb2).alloc (.cells #[.int .i64 0, .int .i64 0, .slice none 0 0] 27))
        have k2 := (k1.step (Keep.of_none hb2) (fun _ f _ => f)).alloc (.cells #[.int .i64 0, .int .i64 0, .slice none 0 0] 27)
        have d0 := (k2.cell (p := ⟨w.heap.size, 0, none⟩) (by simp) (fun f => f)).trans (show _ = some (.int .i64 f) by simp)
        have d1 := (k2.cell (p := ⟨w.heap.size, 1, none⟩) (by simp) (fun f => f)).trans (show _ = some (.int .i64 t) by simp)
        have d2 := (k2.cell (p := ⟨w.heap.size, 2, none⟩) (by simp) (fun f => f)).trans (show _ = some (.slice A n cap) by simp)
        clear N1 k1 hb2
        go_wp2_with fail
        refine (send_nobody _ _ _ (N2.out.alloc _)).mono ?_
        rintro e w3 ⟨rfl, hb3⟩
        have N3 := hide ((N2.out.alloc _).below hb3)
        have k3 := (k2.alloc _).step (Keep.of_none hb3) (fun _ f _ => f)
        clear N2 k2 hb3 d0 d1 d2
        go_wp2_with fail
        refine (drop_nobody _ _ N3.out i).mono ?_
        rintro e w4 ⟨rfl, hb4⟩
        have N4 := hide (N3.out.below hb4)
        have k4 := k3.step (Keep.of_none hb4) (fun _ f _ => f)
        clear N3 k3 hb4
        go_wp2_with fail
        refine (copy_nobody _ _ N4.out i).mono ?_
        rintro e w5 ⟨rfl, hb5⟩
        have N5 := hide (N4.out.below hb5)
        have k5 := k4.step (Keep.of_none hb5) (fun _ f _ => f)
        clear N4 k4 hb5
        go_wp2_with fail
        refine (len_nobody _ _ N5.out).mono ?_
        rintro e w6 ⟨rfl, rfl⟩
        go_wp2_with fail
        refine (to_nobody _ _ N5.out i).mono ?_
        rintro e w7 ⟨rfl, rfl⟩
        go_wp2_with fail
        exact ⟨⟨1, by omega, rfl, k5⟩, by simp [intOf]⟩
      · obtain ⟨N0, _⟩ := And.intro Nb Na
        go_wp2_with fail
        refine (take_nobody _ _ N0.out i).mono ?_
        rintro e w1 ⟨rfl, hb1⟩
        have N1 := hide ((N0.out.below hb1).alloc (.cells #[.int .i64 0, .int .i64 0, .slice none 0 0] 27))
        have k1 := (k0.step (Keep.of_none hb1) (fun _ f _ => f)).alloc (.cells #[.int .i64 0, .int .i64 0, .slice none 0 0] 27)
        clear N0 Na Nb k0 hb1
        go_wp2_with fail
        refine (at_nobody _ _ N1.out i).mono ?_
        rintro e w2 ⟨rfl, hb2⟩
        have N2 := hide ((N1.out.below hb2).alloc (.cells #[.int .i64 0, .int .i64 0, .slice none 0 0] 27))
        have k2 := (k1.step (Keep.of_none hb2) (fun _ f _ => f)).alloc (.cells #[.int .i64 0, .int .i64 0, .slice none 0 0] 27)
        have d0 := (k2.cell (p := ⟨w.heap.size, 0, none⟩) (by simp) (fun f => f)).trans (show _ = some (.int .i64 f) by simp)
        have d1 := (k2.cell (p := ⟨w.heap.size, 1, none⟩) (by simp) (fun f => f)).trans (show _ = some (.int .i64 t) by simp)
        have d2 := (k2.cell (p := ⟨w.heap.size, 2, none⟩) (by simp) (fun f => f)).trans (show _ = some (.slice A n cap) by simp)
        clear N1 k1 hb2
        go_wp2_with fail
        refine (send_nobody _ _ _ (N2.out.alloc _)).mono ?_
        rintro e w3 ⟨rfl, hb3⟩
        have N3 := hide ((N2.out.alloc _).below hb3)
        have k3 := (k2.alloc _).step (Keep.of_none hb3) (fun _ f _ => f)
        clear N2 k2 hb3 d0 d1 d2
        go_wp2_with fail
        refine (drop_nobody _ _ N3.out i).mono ?_
        rintro e w4 ⟨rfl, hb4⟩
        have N4 := hide (N3.out.below hb4)
        have k4 := k3.step (Keep.of_none hb4) (fun _ f _ => f)
        clear N3 k3 hb4
        go_wp2_with fail
        refine (copy_nobody _ _ N4.out i).mono ?_
        rintro e w5 ⟨rfl, hb5⟩
        have N5 := hide (N4.out.below hb5)
        have k5 := k4.step (Keep.of_none hb5) (fun _ f _ => f)
        clear N4 k4 hb5
        go_wp2_with fail
        refine (len_nobody _ _ N5.out).mono ?_
        rintro e w6 ⟨rfl, rfl⟩
        go_wp2_with fail
        refine (to_nobody _ _ N5.out i).mono ?_
        rintro e w7 ⟨rfl, rfl⟩
        go_wp2_with fail
        exact ⟨⟨2, by omega, rfl, k5⟩, by simp [intOf]⟩
    · obtain rfl : m = 2 := by omega
      go_wp2_with (go_at_call 12; refine (one_any _).mono ?_; rintro e w1 ⟨rfl, hb1⟩)
      go_ret
      have := (hk.step (Keep.of_none hb1) (fun _ f _ => f))
      exact ⟨rfl, (((Keep.refl (fun _ => False) w).alloc _).step this (fun _ f _ => f)).none_below⟩
end Go.Proofs.Ytogplcfoigofpaa
