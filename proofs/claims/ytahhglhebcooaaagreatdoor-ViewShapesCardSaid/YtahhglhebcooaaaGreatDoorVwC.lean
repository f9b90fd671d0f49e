/- view.Turn at one blob. -/
import Derived.Test.YtahhglhebcooaaaGreatDoorVwB
namespace Go.Proofs.YtahhglhebcooaaaGreatDoor
open Go.RowKit Go.Cof Go.Tol

def TurnedP (w w' : World) (k : UInt8) (dt : List UInt8) (v : Value) : Prop :=
  ∃ A c A2 c2, v = .slice A 1 c ∧ Rd w' (fun i => w.heap.size ≤ i) 2 A 1 [.int .i64 1, .slice A2 dt.length c2] ∧ Rd w' (fun i => w.heap.size ≤ i) 1 A2 dt.length (bytesV (addL k dt)) ∧ dt.length ≤ c2 ∧ Below w.heap.size w w'

set_option maxHeartbeats 4000000 in
set_option maxRecDepth 100000 in
theorem turn_one (S : Nat → Prop) (AD : Option Addr) (cD B cap : Nat) (k : UInt8) (dt : List UInt8) (w : World) (hr : Rd w S 1 AD dt.length (bytesV dt)) (hc : dt.length ≤ cD) (hl : dt.length ≤ 16384)
    (hB : w.rangeAt B 0 [.int .i64 1, .slice AD dt.length cD]) (hBl : B < w.heap.size) :
    Calls Tryz.prog 6 #[.slice (some ⟨B, 0, none⟩) 1 cap, .int .u8 (k.toNat : Int)] w fun e w' => ∃ v, e = .returned v ∧ TurnedP w w' k dt v := by
  obtain ⟨N, hN⟩ : ∃ N, N = w.heap.size := ⟨_, rfl⟩
  have Hall := hide (show ∀ W : World, W = (w.alloc (.map #[] 0)).alloc (.cells #[.int .u8 (k.toNat : Int), .map (some N)] 76) → Calls Tryz.prog 20 #[.pointer (some ⟨N + 1, 0, none⟩), .slice (some ⟨B, 0, none⟩) 1 cap] W fun e w' => ∃ v, e = .returned v ∧ AllP W w' N k dt v from fun W hW => by
    have hb : Below w.heap.size w W := by rw [hW]; exact ((Below.refl _ _).alloc (Nat.le_refl _) _).alloc (by simp) _
    have hrow : W.heap[N + 1]? = some (.cells #[.int .u8 (k.toNat : Int), .map (some N)] 76 (0, 0)) := by rw [hW, hN]; exact heap_alloc2_new _ _ _
    have hown : W.ownsMap Tryz.prog 60 (fun _ => some (.lit (.bool true), [])) N 0 (.map [] : DataW Unit) := by rw [hW, hN]; exact (World.ownsMap_made w Tryz.prog 60 _).alloc _
    exact all_one S AD cD (N + 1) N 0 B cap k dt (.map []) W (hr.keep (Keep.of_none hb) (fun _ _ _ f => f)) hc hl (fun j v hj => (hb.cell (p := ⟨B, 0 + j, none⟩) hBl).trans (hB j v hj)) (Nat.lt_of_lt_of_le hBl hb.size)
      (by rw [cell_of_row _ _ 0 _ _ _ hrow]; rfl) (by rw [cell_of_row _ _ 1 _ _ _ hrow]; rfl) (by rw [hW, hN]; simp) hown (by decide))
  have hmk : (Instr.makeMap 74 none).run Tryz.prog w = .ok (.map (some N)) (w.alloc (.map #[] 0)) := by rw [hN]; rfl
  have HN := hide hN
  clear hr hc hl hB hBl hN
  go_enter Tryz.func6, Tryz.ntmps6
  go_upto_region 2 with (fail)
  try rw [← HN.out]
  try rw [show (w.alloc (.map #[] 0)).heap.size = N + 1 by rw [HN.out]; simp]
  obtain ⟨W, hW⟩ : ∃ W : World, W = (w.alloc (.map #[] 0)).alloc (.cells #[.int .u8 (k.toNat : Int), .map (some N)] 76) := ⟨_, rfl⟩
  have Hw := hide (Hall.out W hW)
  have Hb := hide (show Below w.heap.size w W by rw [hW]; exact ((Below.refl _ _).alloc (Nat.le_refl _) _).alloc (by simp) _)
  rw [← hW]
  clear hW
  go_wp2_with (first
    | (go_at_call 20; ((with_reducible refine Hw.out.mono ?_)); rintro e w6 ⟨v, rfl, hall⟩)
    | fail)
  go_ret
  obtain ⟨A, c, A2, c2, rfl, h1, h2, h3, h4⟩ := hall
  exact ⟨_, rfl, A, c, A2, c2, rfl, h1.mono (fun i _ hi => Nat.le_trans Hb.out.size hi), h2.mono (fun i _ hi => Nat.le_trans Hb.out.size hi), h3, Hb.out.trans (h4.below Hb.out.size (fun i e => by have : i = N := e; have := HN.out; omega))⟩

end Go.Proofs.YtahhglhebcooaaaGreatDoor
