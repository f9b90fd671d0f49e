/- ViewShapes: what is too wide. -/
import Derived.Test.YtahhglhebcooaaaGreatDoorLw1
namespace Go.Proofs.YtahhglhebcooaaaGreatDoor
open Go.RowKit Go.Cof Go.Tol

set_option maxHeartbeats 4000000 in
set_option maxRecDepth 100000 in
theorem law_wide (q : ReqA) (AN AD Ab : Option Addr) (cN cD n cb : Nat) (w : World) (hq : q.name.length = 16) (hw : 9000 < q.data.length ∨ 200 < q.names.length ∨ 9000 < n) :
    Calls Tryz.prog 4 #[.agg (reqV q AN cN AD cD).toArray, .slice Ab n cb] w fun e w' => e = .returned (.bool true) ∧ Below w.heap.size w w' := by
  obtain ⟨N, hN⟩ : ∃ N, N = w.heap.size := ⟨_, rfl⟩
  obtain ⟨_, h20, h21⟩ := reqV_tail q AN AD cN cD hq
  obtain ⟨X, hX⟩ : ∃ X, X = reqV q AN cN AD cD := ⟨_, rfl⟩
  obtain ⟨m, hm⟩ : ∃ m, m = q.names.length := ⟨_, rfl⟩
  obtain ⟨d, hd⟩ : ∃ d, d = q.data.length := ⟨_, rfl⟩
  rw [← hX, ← hm] at h20
  rw [← hX, ← hd] at h21
  rw [← hm, ← hd] at hw
  rw [← hX]
  have HN := hide hN
  have H20 := hide h20
  have H21 := hide h21
  have Hw := hide hw
  clear hN hX hm hd h20 h21 hw hq
  go_enter Tryz.func4, Tryz.ntmps4
  go_upto_region 1 with (fail)
  rw [← HN.out]
  obtain ⟨W, hW⟩ : ∃ W : World, W = w.alloc (.cells X.toArray 43) := ⟨_, rfl⟩
  have hr0 : W.heap[N]? = some (.cells X.toArray 43 (0, 0)) := by rw [hW, HN.out]; exact heap_new _ _
  have c20 : W.cell? ⟨N, 20, none⟩ = some (.slice AN m cN) := by rw [blk_cell hr0]; exact H20.out
  have c21 : W.cell? ⟨N, 21, none⟩ = some (.slice AD d cD) := by rw [blk_cell hr0]; exact H21.out
  have HbW := hide (show Below w.heap.size w W by rw [hW]; exact (Below.refl _ _).alloc (Nat.le_refl _) _)
  rw [← hW]
  clear hW hr0
  by_cases h1 : 9000 < d
  · have hd1 : (9000 : Int) < (d : Int) := by omega
    clear h1
    go_wp2_with (fail)
    go_ret
    exact ⟨rfl, HbW.out⟩
  · have hd1 : ¬ (9000 : Int) < (d : Int) := by omega
    by_cases h2 : 200 < m
    · have hd2 : (200 : Int) < (m : Int) := by omega
      clear h1 h2
      go_wp2_with (fail)
      go_ret
      exact ⟨rfl, HbW.out⟩
    · have hd2 : ¬ (200 : Int) < (m : Int) := by omega
      have hd3 : (9000 : Int) < (n : Int) := by have := Hw.out; omega
      clear h1 h2
      go_wp2_with (fail)
      go_ret
      exact ⟨rfl, HbW.out⟩
end Go.Proofs.YtahhglhebcooaaaGreatDoor
