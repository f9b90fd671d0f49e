/- law29's one. -/
import Derived.Test.YtahhglhebcooaaaGreatDoorVwC
namespace Go.Proofs.YtahhglhebcooaaaGreatDoor
open Go.RowKit Go.Cof Go.Tol

theorem conv_same (w : World) (N : Nat) (hN : N = w.heap.size) : (convert 28 28 (.slice (some ⟨N, 0, none⟩) 1 1)).run Tryz.prog (w.alloc (.cells #[.int .u8 97] 5)) = .ok (.slice (some ⟨N, 0, none⟩) 1 1) ((w.alloc (.cells #[.int .u8 97] 5)).freeze ⟨N, 1, none⟩ 1) := by
  have hsh : (w.alloc (.cells #[.int .u8 97] 5)).shape? N = some (5, 1) := by
    subst hN
    simp [World.shape?, World.alloc, -World.alloc_eq]
  simp [convert, run_underlying Tryz.underlying28, run_underlying Tryz.underlying5, markStringish, hsh, Result.andThen]

set_option maxHeartbeats 4000000 in
set_option maxRecDepth 100000 in
theorem one_any (w : World) : Calls Tryz.prog 11 #[] w fun e w' => e = .returned (.bool true) ∧ Below w.heap.size w w' := by
  obtain ⟨N, hN⟩ : ∃ N, N = w.heap.size := ⟨_, rfl⟩
  have HN := hide hN
  have hcs := conv_same w N hN
  obtain ⟨V, hV⟩ : ∃ V : World, V = (w.alloc (.cells #[.int .u8 97] 5)).freeze ⟨N, 1, none⟩ 1 := ⟨_, rfl⟩
  have hv0 : V.heap[N]? = some (.cells #[.int .u8 97] 5 (1, 2)) := by
    rw [hV, hN]
    simp [World.freeze, World.alloc, -World.alloc_eq, Array.getElem?_modify]
    rw [Array.getElem_modify_self]
    simp
  have hvs : V.heap.size = N + 1 := by rw [hV, hN]; simp [World.freeze]
  have hvb : Below w.heap.size w V := by
    rw [hV]
    refine ⟨rfl, rfl, rfl, by simp [World.freeze], fun k hk => ?_⟩
    have h1 : N ≠ k := by omega
    have h2 := Below.heap_alloc w (.cells #[.int .u8 97] 5) k hk
    rw [← h2]
    simp [World.freeze, Array.getElem?_modify, h1]
  rw [← hV] at hcs
  obtain ⟨W, hW⟩ : ∃ W : World, W = V.alloc (.cells #[.int .i64 1, .slice (some ⟨N, 0, none⟩) 1 1] 30) := ⟨_, rfl⟩
  have hr0 : W.heap[N]? = some (.cells #[.int .u8 97] 5 (1, 2)) := by rw [hW]; exact (Below.heap_alloc V _ N (by omega)).trans hv0
  have hr1 : W.heap[N + 1]? = some (.cells #[.int .i64 1, .slice (some ⟨N, 0, none⟩) 1 1] 30 (0, 0)) := by rw [hW, ← hvs]; exact heap_new _ _
  have HbW := hide (show Below w.heap.size w W by rw [hW]; exact hvb.alloc hvb.size _)
  have Hvs := hide hvs
  have Htn := hide (show Calls Tryz.prog 6 #[.slice (some ⟨N + 1, 0, none⟩) 1 1, .int .u8 1] W fun e w' => ∃ A c A2 c2, e = .returned (.slice A 1 c) ∧ Rd w' (fun i => W.heap.size ≤ i) 2 A 1 [.int .i64 1, .slice A2 1 c2] ∧ Rd w' (fun i => W.heap.size ≤ i) 1 A2 1 (bytesV [98]) ∧ Below W.heap.size W w' by
    have hrd : Rd W (fun _ => True) 1 (some ⟨N, 0, none⟩) ([97] : List UInt8).length (bytesV [97]) := ⟨rfl, fun _ => ⟨N, 0, rfl, trivial, (Array.getElem?_eq_some_iff.1 hr0).1, fun j hj => by rw [cell_of_row _ _ _ _ _ _ hr0, Nat.zero_add, List.getElem?_toArray]; rfl⟩⟩
    have h := turn_one (fun _ => True) (some ⟨N, 0, none⟩) 1 (N + 1) 1 1 [97] W hrd (Nat.le_refl _) (by decide) (part_range (cur := [.int .i64 1, .slice (some ⟨N, 0, none⟩) 1 1]) hr1 rfl) (Array.getElem?_eq_some_iff.1 hr1).1
    refine h.mono ?_
    rintro e w2 ⟨v, rfl, A, c, A2, c2, rfl, h1, h2, h3, h4⟩
    exact ⟨A, c, A2, c2, rfl, h1, h2, h4⟩)
  rw [hN] at hcs
  clear hr0 hr1 hv0 hvs hvb hV
  go_enter Tryz.func11, Tryz.ntmps11
  go_upto_region 2 with (first
    | (try rw [← HN.out]
       try rw [Hvs.out]
       rw [← hW]; go_at_call 6; ((with_reducible refine Htn.out.mono ?_)); rintro e w6 ⟨A, c, A2, c2, rfl, h1, h2, hb6⟩; have H1 := hide h1; have H2 := hide h2; have Hb6 := hide hb6; clear h1 h2 hb6)
    | fail)
  obtain ⟨b, off, rfl, _, hbl, hcc⟩ := H1.out.at_ (by decide)
  have Hbl := hide hbl
  have Hcc := hide (show w6.cell? ⟨b, off + 1, none⟩ = some (.slice A2 1 c2) from hcc 1 (by decide))
  clear hbl hcc hcs hW
  go_wp2_with (first
    | (go_at_call 23; refine (name_one _).mono ?_; rintro e w7 ⟨rfl, hb7⟩; have c1 : w7.cell? ⟨b, off + 1, none⟩ = some (.slice A2 1 c2) := (hb7.cell (p := ⟨b, off + 1, none⟩) Hbl.out).trans Hcc.out; have hq := run_convert_rd (P := Tryz.prog) w7 28 9 5 Tryz.underlying28 Tryz.underlying5 Tryz.underlying9 _ A2 [98] c2 (H2.out.keep (Keep.of_none hb7) (fun _ _ _ f => f)); rw [show ([98] : List UInt8).length = 1 from rfl] at hq; have Hb7 := hide hb7; clear hb7)
    | fail)
  go_ret
  exact ⟨rfl, (HbW.out.trans (Hb6.out.mono HbW.out.size)).trans (Hb7.out.mono (Nat.le_trans HbW.out.size Hb6.out.size))⟩
end Go.Proofs.YtahhglhebcooaaaGreatDoor
