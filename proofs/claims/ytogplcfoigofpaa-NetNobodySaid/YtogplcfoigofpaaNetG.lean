/- NetNobody's walk. -/
import Derived.Test.YtogplcfoigofpaaNetF
namespace Go.Proofs.Ytogplcfoigofpaa
open Go.RowKit Go.Cof

/-- A net that nobody made: nil, or one whose mark is not set. -/
def Nobody (w : World) (v : Value) : Prop := v = .pointer none ∨ ∃ b, v = .pointer (some ⟨b, 0, none⟩) ∧ w.cell? ⟨b, 0, none⟩ = some (.bool false)

theorem Nobody.alloc {w : World} {v : Value} (h : Nobody w v) (o : Obj) : Nobody (w.alloc o) v := by
  rcases h with h | ⟨b, h, hc⟩
  · exact .inl h
  · exact .inr ⟨b, h, (World.cell?_alloc_past _ _ _ (World.block_lt_of_cell? _ _ hc)).trans hc⟩
theorem Nobody.below {w w' : World} {v : Value} (h : Nobody w v) (hb : Below w.heap.size w w') : Nobody w' v := by
  rcases h with h | ⟨b, h, hc⟩
  · exact .inl h
  · exact .inr ⟨b, h, (hb.cell (p := ⟨b, 0, none⟩) (World.block_lt_of_cell? _ _ hc)).trans hc⟩

set_option maxHeartbeats 400000 in
theorem none_nobody (w : World) (v : Value) (h : Nobody w v) : Calls Try.prog 19 #[v] w fun e w' => e = .returned (.bool true) ∧ w = w' := by
  rcases h with rfl | ⟨b, rfl, h0⟩
  all_goals
    go_enter Try.func19, Try.ntmps19
    go_wp2
    go_ret
    exact ⟨rfl, rfl⟩

set_option maxHeartbeats 400000 in
theorem may_nobody (w : World) (v : Value) (h : Nobody w v) (i : Int) : Calls Try.prog 23 #[v, .int .i64 i] w fun e w' => e = .returned (.int .i64 1) ∧ w = w' := by
  go_enter Try.func23, Try.ntmps23
  go_wp2_with (go_at_call 19; refine (none_nobody w v h).mono ?_; rintro e w1 ⟨rfl, rfl⟩)
  go_ret
  exact ⟨rfl, rfl⟩

set_option maxHeartbeats 400000 in
theorem at_nobody (w : World) (v : Value) (h : Nobody w v) (i : Int) :
    Calls Try.prog 18 #[v, .int .i64 i] w fun e w' => e = .returned (.tuple #[.agg #[.int .i64 0, .int .i64 0, .slice none 0 0], .int .i64 1]) ∧ Below w.heap.size w w' := by
  go_enter Try.func18, Try.ntmps18
  go_wp2_with (go_at_call 23; refine (may_nobody _ v (h.alloc _) i).mono ?_; rintro e w1 ⟨rfl, rfl⟩)
  refine bodyPost_ret (v := .tuple #[.agg #[.int .i64 0, .int .i64 0, .slice none 0 0], .int .i64 1]) (by simp [results, Try.results18, go_sem]) rfl ⟨rfl, ?_⟩
  exact (Below.refl _ _).alloc (Nat.le_refl _) _

set_option maxHeartbeats 400000 in
theorem take_nobody (w : World) (v : Value) (h : Nobody w v) (i : Int) :
    Calls Try.prog 9 #[v, .int .i64 i] w fun e w' => None_ w w' e (.tuple #[.agg #[.int .i64 0, .int .i64 0, .slice none 0 0], .int .i64 1]) := by
  have Hat := hide (at_nobody (w.alloc (.cells #[.int .i64 0, .int .i64 0, .slice none 0 0] 27)) v (h.alloc _) i)
  clear h
  go_enter Try.func9, Try.ntmps9
  go_wp2_with (go_at_call 18; refine Hat.out.mono ?_; rintro e w1 ⟨rfl, hb1⟩; obtain ⟨hcc, hff⟩ := rules hb1; have g3 : w.heap.size < w1.heap.size := by (have := hb1.size; simp at this; omega))
  have K3 : Keep (fun _ => False) (w.alloc (.cells #[.int .i64 0, .int .i64 0, .slice none 0 0] 27)) w1 := Keep.of_none hb1
  have q0 : w1.cell? ⟨w.heap.size, 0, none⟩ = some (.int .i64 0) := (K3.cell (p := ⟨w.heap.size, 0, none⟩) (by simp) (fun f => f)).trans (by simp)
  have q1 : w1.cell? ⟨w.heap.size, 1, none⟩ = some (.int .i64 0) := (K3.cell (p := ⟨w.heap.size, 1, none⟩) (by simp) (fun f => f)).trans (by simp)
  have q2 : w1.cell? ⟨w.heap.size, 2, none⟩ = some (.slice none 0 0) := (K3.cell (p := ⟨w.heap.size, 2, none⟩) (by simp) (fun f => f)).trans (by simp)
  refine bodyPost_ret (v := .tuple #[.agg #[.int .i64 0, .int .i64 0, .slice none 0 0], .int .i64 1]) (by simp [results, Try.results9, go_sem, q0, q1, q2, g3]) rfl ⟨rfl, ?_⟩
  exact ((Keep.setCell (Keep.setCell (Keep.setCell (((Keep.refl (fun _ => False) w).alloc _).step K3 (fun _ f _ => f)) (p := ⟨w.heap.size, 0, none⟩) (fun h => absurd h (Nat.lt_irrefl _)) _) (p := ⟨w.heap.size, 1, none⟩) (fun h => absurd h (Nat.lt_irrefl _)) _) (p := ⟨w.heap.size, 2, none⟩) (fun h => absurd h (Nat.lt_irrefl _)) _).alloc _).none_below

set_option maxHeartbeats 400000 in
theorem drop_nobody (w : World) (v : Value) (h : Nobody w v) (i : Int) :
    Calls Try.prog 15 #[v, .int .i64 i] w fun e w' => None_ w w' e (.int .i64 1) := by
  go_enter Try.func15, Try.ntmps15
  go_wp2_with (go_at_call 9; refine (take_nobody w v h i).mono ?_; rintro e w1 ⟨rfl, hb1⟩)
  go_ret
  exact ⟨rfl, hb1.alloc hb1.size _⟩

set_option maxHeartbeats 400000 in
theorem copy_nobody (w : World) (v : Value) (h : Nobody w v) (i : Int) :
    Calls Try.prog 8 #[v, .int .i64 i] w fun e w' => None_ w w' e (.int .i64 1) := by
  go_enter Try.func8, Try.ntmps8
  go_wp2_with (go_at_call 18; refine (at_nobody w v h i).mono ?_; rintro e w1 ⟨rfl, hb1⟩)
  go_ret
  exact ⟨rfl, hb1.alloc hb1.size _⟩

set_option maxHeartbeats 400000 in
theorem send_nobody (w : World) (v s : Value) (h : Nobody w v) : Calls Try.prog 7 #[v, s] w fun e w' => None_ w w' e (.int .i64 1) := by
  go_enter Try.func7, Try.ntmps7
  go_wp2_with (go_at_call 19; refine (none_nobody w v h).mono ?_; rintro e w1 ⟨rfl, rfl⟩)
  go_ret
  exact ⟨rfl, Below.refl _ _⟩

set_option maxHeartbeats 400000 in
theorem len_nobody (w : World) (v : Value) (h : Nobody w v) : Calls Try.prog 11 #[v] w fun e w' => e = .returned (.int .i64 0) ∧ w = w' := by
  go_enter Try.func11, Try.ntmps11
  go_wp2_with (go_at_call 19; refine (none_nobody w v h).mono ?_; rintro e w1 ⟨rfl, rfl⟩)
  go_ret
  exact ⟨rfl, rfl⟩

set_option maxHeartbeats 400000 in
theorem to_nobody (w : World) (v : Value) (h : Nobody w v) (i : Int) : Calls Try.prog 17 #[v, .int .i64 i] w fun e w' => e = .returned (.slice none 0 0) ∧ w = w' := by
  go_enter Try.func17, Try.ntmps17
  go_wp2_with (go_at_call 11; refine (len_nobody w v h).mono ?_; rintro e w1 ⟨rfl, rfl⟩)
  refine wp_loop_once ?_
  go_wp2
  go_ret
  exact ⟨rfl, rfl⟩
end Go.Proofs.Ytogplcfoigofpaa
