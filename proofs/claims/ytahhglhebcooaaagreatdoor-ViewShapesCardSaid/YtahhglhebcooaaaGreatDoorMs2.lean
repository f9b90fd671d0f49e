/- msg: may a core and lists be? -/
import Derived.Test.YtahhglhebcooaaaGreatDoorMs1
namespace Go.Proofs.YtahhglhebcooaaaGreatDoor
open Go.RowKit Go.Cof Go.Tol

def mayB (q : ReqA) : Bool := decide (1 ≤ q.client ∧ q.client ≤ 255 ∧ 1 ≤ q.kind ∧ q.kind ≤ 6 ∧ q.names.length ≤ 128 ∧ q.data.length ≤ 8192)
theorem coreV_two (q : ReqA) : (coreV q)[0]? = some (.int .i64 q.client) ∧ (coreV q)[1]? = some (.int .i64 q.kind) ∧ (coreV q)[2]? = some (.int .u64 q.id) ∧ (coreV q)[3]? = some (.int .u64 q.gen) := ⟨rfl, rfl, rfl, rfl⟩

set_option maxHeartbeats 8000000 in
set_option maxRecDepth 100000 in
theorem may_any (q : ReqA) (AN AD : Option Addr) (cN cD : Nat) (w : World) (hl1 : q.names.length ≤ 140737488351232) (hl2 : q.data.length ≤ 140737488351232) (hc : -9223372036854775808 ≤ q.client ∧ q.client ≤ 9223372036854775807) :
    Calls Tryz.prog 25 #[.agg (coreV q).toArray, .int .i64 1, .int .i64 6, .slice AN q.names.length cN, .slice AD q.data.length cD] w fun e w' => e = .returned (.bool (mayB q)) ∧ Below w.heap.size w w' := by
  obtain ⟨N, hN⟩ : ∃ N, N = w.heap.size := ⟨_, rfl⟩
  have HN := hide hN
  obtain ⟨Y, hY⟩ : ∃ Y, Y = coreV q := ⟨_, rfl⟩
  have Hy := hide (show Y[0]? = some (.int .i64 q.client) ∧ Y[1]? = some (.int .i64 q.kind) by rw [hY]; exact ⟨rfl, rfl⟩)
  rw [← hY]
  clear hN hY hc
  obtain ⟨c, hcc⟩ : ∃ c, c = q.client := ⟨_, rfl⟩
  obtain ⟨k, hk⟩ : ∃ k, k = q.kind := ⟨_, rfl⟩
  obtain ⟨n, hn⟩ : ∃ n, n = q.names.length := ⟨_, rfl⟩
  obtain ⟨d, hd⟩ : ∃ d, d = q.data.length := ⟨_, rfl⟩
  have Hm := hide (show mayB q = decide (1 ≤ c ∧ c ≤ 255 ∧ 1 ≤ k ∧ k ≤ 6 ∧ (n : Int) ≤ 128 ∧ (d : Int) ≤ 8192) by rw [mayB, hcc, hk, hn, hd]; congr 1; simp only [eq_iff_iff]; omega)
  rw [← hcc, ← hk] at Hy
  rw [← hn] at hl1
  rw [← hd] at hl2
  rw [← hn, ← hd]
  clear hcc hk hn hd
  go_enter Tryz.func25, Tryz.ntmps25
  go_upto_region 1 with (fail)
  rw [← HN.out]
  obtain ⟨W, hW⟩ : ∃ W : World, W = w.alloc (.cells Y.toArray 83) := ⟨_, rfl⟩
  have hr0 : W.heap[N]? = some (.cells Y.toArray 83 (0, 0)) := by rw [hW, HN.out]; exact heap_new _ _
  have c0 : W.cell? ⟨N, 0, none⟩ = some (.int .i64 c) := by rw [blk_cell hr0]; exact Hy.out.1
  have c1 : W.cell? ⟨N, 1, none⟩ = some (.int .i64 k) := by rw [blk_cell hr0]; exact Hy.out.2
  have HbW := hide (show Below w.heap.size w W by rw [hW]; exact (Below.refl _ _).alloc (Nat.le_refl _) _)
  rw [← hW]
  clear hW hr0
  go_wp2_with (fail)
  all_goals go_ret
  all_goals (refine ⟨congrArg (fun b => Ending.returned (Value.bool b)) ?_, HbW.out⟩; rw [Hm.out]; refine Bool.eq_iff_iff.2 ?_; simp <;> omega)
end Go.Proofs.YtahhglhebcooaaaGreatDoor
