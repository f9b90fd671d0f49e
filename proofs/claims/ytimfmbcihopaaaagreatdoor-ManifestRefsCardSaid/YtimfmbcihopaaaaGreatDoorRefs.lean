/- ManifestRefs: the walk. -/
import Derived.Test.YtimfmbcihopaaaaGreatDoorPuts
import Derived.Test.YtimfmbcihopaaaaGreatDoorWithM
import Derived.Test.YtimfmbcihopaaaaGreatDoorSameP
namespace Go.Proofs.YtimfmbcihopaaaaGreatDoor
open Go.RowKit Go.Cof

/-- A row read, at an operation that a guard lets through. -/
theorem wpList_load_row_g {P : Program} {ops : Array Oper} {rest : List Oper} {o : Oper} {a : Act} {w : World} {Q : Exit → Act → World → Prop} (hw : Region.wanted o (yielded ops a.tmps) = true) (ty : TypeId) (x : Operand) (ho : o.op = .load ty x)
    (g : Nat) (hx : a.eval x = .pointer (some ⟨g, 0, none⟩)) (t : TypeId) (cs : Array Value) (fr : Nat × Nat) (d : TypeDesc) (hg : w.heap[g]? = some (.cells cs t fr))
    (hu : P.underlying ty = some d) (hd : (match d with | .struct _ | .array _ _ => true | _ => false) = true) (hi : (P.info? ty).map (·.size) = some cs.size)
    (h : wpList P ops Q rest (a.put o.dst (.agg cs)) w) : wpList P ops Q (o :: rest) a w :=
  wpList_step fun K hK => by
    rw [if_pos hw]
    exact wp_load_row ty x ho g hx t cs fr d hg hu hd hi (hK _ _ h)

set_option maxHeartbeats 8000000 in
set_option maxRecDepth 200000 in
theorem refs_early (T : Nat → Prop) (b : BodyA) (v : Value) (x : List UInt8) (id : Bv 32) (m : Int) (w : World) (h : BodyC w T b v) (hm : w.cell? ⟨0, 0, none⟩ = some (.int .i64 m)) (hxl : x.length ≤ 140737488351232)
    (hearly : ¬ (fewB b = true ∧ x.length ≤ 200 ∧ codeB b = 0)) :
    Calls Tryz.prog 4 #[v, .string ⟨x.toArray⟩, .agg (encB id).toArray] w fun e w' => e = .returned (.bool true) ∧ Below w.heap.size w w' := by
  obtain ⟨AR, cR, xsR, AP, cP, xsP, hv, hx1⟩ := _root_.id h
  clear hx1
  subst hv
  have Hb := hide h
  obtain ⟨N, hN⟩ : ∃ N, N = w.heap.size := ⟨_, rfl⟩
  have HN := hide hN
  have Hm0 := hide hm
  clear h hN hm
  go_enter Tryz.func4, Tryz.ntmps4
  go_upto_region 1 with (fail)
  rw [← HN.out]
  obtain ⟨W1, hW1⟩ : ∃ W : World, W = (w.alloc (.cells #[.int .u64 b.gen, .int .u64 b.epoch, .int .i64 b.writer, .int .u64 b.stamp, .slice AR b.refs.length cR, .slice AP b.packs.length cP] 26)).alloc (.cells (encB id).toArray 49) := ⟨_, rfl⟩
  have hbw : Below w.heap.size w W1 := by rw [hW1]; exact ((Below.refl _ _).alloc (Nat.le_refl _) _).alloc (by simp) _
  have hr0 : W1.heap[N]? = some (.cells #[.int .u64 b.gen, .int .u64 b.epoch, .int .i64 b.writer, .int .u64 b.stamp, .slice AR b.refs.length cR, .slice AP b.packs.length cP] 26 (0, 0)) := by rw [hW1, HN.out]; exact (Below.heap_alloc _ _ _ (by simp)).trans (heap_alloc_new _ _)
  have HB1 := hide (Hb.out.below hbw)
  have Hm1 := hide (show W1.cell? ⟨0, 0, none⟩ = some (.int .i64 m) from keep_cell Hm0.out (fun f => f) W1 (Keep.of_none hbw))
  have Hbw := hide hbw
  have Hr0 := hide hr0
  have HsB := hide (show (Tryz.prog.info? 26).map (·.size) = some (#[.int .u64 b.gen, .int .u64 b.epoch, .int .i64 b.writer, .int .u64 b.stamp, .slice AR b.refs.length cR, .slice AP b.packs.length cP] : Array Value).size by kernel_rfl)
  rw [← hW1]
  clear hW1 hbw hr0
  by_cases hfew : fewB b = true
  case neg => as_aux_lemma =>
    have Hfew := hide hfew
    clear hfew hearly
    go_wp2_with (first
      | (with_reducible refine wpList_load_row rfl 26 (.tmp 3) rfl N rfl 26 #[.int .u64 b.gen, .int .u64 b.epoch, .int .i64 b.writer, .int .u64 b.stamp, .slice AR b.refs.length cR, .slice AP b.packs.length cP] (0, 0) _ Hr0.out Tryz.underlying26 rfl HsB.out ?_)
      | (go_at_call 5; ((with_reducible refine (own_any T b _ _ HB1.out).mono ?_)); rintro e w2 hown; unfold OwnP at hown; rw [if_neg Hfew.out] at hown; obtain ⟨A21, n21, c21, A22, n22, c22, rfl, hb2⟩ := hown; simp only [bodyI]; have Hb2 := hide hb2; have Hm2 := hide (show ∀ o, (w2.alloc o).cell? ⟨0, 0, none⟩ = some (.int .i64 m) from fun o => keep_cell Hm1.out (fun f => f) _ ((Keep.of_none hb2).trans ((Keep.refl _ _).alloc o))); clear hb2)
      | (go_at_call 14; ((with_reducible refine (one_any m _ (Hm2.out _)).mono ?_)); rintro e w3 ⟨rfl, hb3⟩; have Hb3 := hide (below_alloc hb3); clear hb3)
      | fail)
    go_ret
    exact ⟨rfl, Hbw.out.trans ((Hb2.out.trans (Hb3.out.mono Hb2.out.size)).mono Hbw.out.size)⟩
  case pos => as_aux_lemma =>
    have Hfew := hide hfew
    have hcase : decide ((200 : Int) < (x.length : Int)) = true ∨ (decide ((200 : Int) < (x.length : Int)) = false ∧ codeB b = 2) := by
      by_cases h2 : x.length ≤ 200
      · refine .inr ⟨by simp; omega, ?_⟩
        rcases code_cases b with h3 | h3
        · exact absurd ⟨hfew, h2, h3⟩ hearly
        · exact h3
      · exact .inl (by simp; omega)
    clear hfew hearly
    rcases hcase with hd | ⟨hd, hcd⟩
    · go_wp2_with (first
        | (with_reducible refine wpList_load_row rfl 26 (.tmp 3) rfl N rfl 26 #[.int .u64 b.gen, .int .u64 b.epoch, .int .i64 b.writer, .int .u64 b.stamp, .slice AR b.refs.length cR, .slice AP b.packs.length cP] (0, 0) _ Hr0.out Tryz.underlying26 rfl HsB.out ?_)
        | (go_at_call 5; ((with_reducible refine (own_any T b _ _ HB1.out).mono ?_)); rintro e w2 hown; unfold OwnP at hown; rw [if_pos Hfew.out] at hown; obtain ⟨v2, rfl, hd2, hb2⟩ := hown; obtain ⟨AR2, cR2, xsR2, AP2, cP2, xsP2, rfl, hx2⟩ := hd2; clear hx2; have Hb2 := hide hb2; have Hm2 := hide (show ∀ o, (w2.alloc o).cell? ⟨0, 0, none⟩ = some (.int .i64 m) from fun o => keep_cell Hm1.out (fun f => f) _ ((Keep.of_none hb2).trans ((Keep.refl _ _).alloc o))); clear hb2)
        | (go_at_call 14; ((with_reducible refine (one_any m _ (Hm2.out _)).mono ?_)); rintro e w3 ⟨rfl, hb3⟩; have Hb3 := hide (below_alloc hb3); clear hb3)
        | fail)
      go_ret
      exact ⟨rfl, Hbw.out.trans ((Hb2.out.trans (Hb3.out.mono Hb2.out.size)).mono Hbw.out.size)⟩
    · have Hcd := hide hcd
      clear hcd
      go_wp2_with (first
        | (with_reducible refine wpList_load_row rfl 26 (.tmp 3) rfl N rfl 26 #[.int .u64 b.gen, .int .u64 b.epoch, .int .i64 b.writer, .int .u64 b.stamp, .slice AR b.refs.length cR, .slice AP b.packs.length cP] (0, 0) _ Hr0.out Tryz.underlying26 rfl HsB.out ?_)
        | (go_at_call 5; ((with_reducible refine (own_any T b _ _ HB1.out).mono ?_)); rintro e w2 hown; unfold OwnP at hown; rw [if_pos Hfew.out] at hown; obtain ⟨v2, rfl, hd2, hb2⟩ := hown; obtain ⟨AR2, cR2, xsR2, AP2, cP2, xsP2, rfl, hx2⟩ := hd2; clear hx2; have Hb2 := hide hb2; have hN2 : N < w2.heap.size := (by have h1 := Below.lt_of_row Hr0.out; have h3 := hb2.size; omega); have hrow3 := (hb2.block N (Below.lt_of_row Hr0.out)).trans Hr0.out; have b0 : w2.cell? ⟨N, 0, none⟩ = some (.int .u64 b.gen) := cell_of_row _ _ 0 _ _ _ hrow3; have b1 : w2.cell? ⟨N, 1, none⟩ = some (.int .u64 b.epoch) := cell_of_row _ _ 1 _ _ _ hrow3; have b2 : w2.cell? ⟨N, 2, none⟩ = some (.int .i64 b.writer) := cell_of_row _ _ 2 _ _ _ hrow3; have b3 : w2.cell? ⟨N, 3, none⟩ = some (.int .u64 b.stamp) := cell_of_row _ _ 3 _ _ _ hrow3; have b4 : w2.cell? ⟨N, 4, none⟩ = some (.slice AR b.refs.length cR) := cell_of_row _ _ 4 _ _ _ hrow3; have b5 : w2.cell? ⟨N, 5, none⟩ = some (.slice AP b.packs.length cP) := cell_of_row _ _ 5 _ _ _ hrow3; have Hm2 := hide (show ∀ o, (w2.alloc o).cell? ⟨0, 0, none⟩ = some (.int .i64 m) from fun o => keep_cell Hm1.out (fun f => f) _ ((Keep.of_none hb2).trans ((Keep.refl _ _).alloc o))); clear hb2 hrow3)
        | (go_at_call 6; ((with_reducible refine (check_any _ b _ m _ ((HB1.out.below Hb2.out).below ((Below.refl _ _).alloc (Nat.le_refl _) _)) (Hm2.out _)).mono ?_)); rintro e w3 ⟨rfl, hb3⟩; rw [Hcd.out]; have Hm3 := hide (show w3.cell? ⟨0, 0, none⟩ = some (.int .i64 m) from keep_cell (Hm2.out _) (fun f => f) _ (Keep.of_none hb3)); have Hb3 := hide (below_alloc hb3); clear hb3)
        | (go_at_call 14; ((with_reducible refine (one_any m _ Hm3.out).mono ?_)); rintro e w4 ⟨rfl, hb4⟩; have Hb4 := hide hb4; clear hb4)
        | fail)
      go_ret
      exact ⟨rfl, Hbw.out.trans ((Hb2.out.trans ((Hb3.out.trans (Hb4.out.mono Hb3.out.size)).mono Hb2.out.size)).mono Hbw.out.size)⟩

end Go.Proofs.YtimfmbcihopaaaaGreatDoor
