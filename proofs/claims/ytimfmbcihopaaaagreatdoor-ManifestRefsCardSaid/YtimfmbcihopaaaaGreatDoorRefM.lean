/- ManifestRefs: the main walk. -/
import Derived.Test.YtimfmbcihopaaaaGreatDoorRefP
namespace Go.Proofs.YtimfmbcihopaaaaGreatDoor
open Go.RowKit Go.Cof Go.Sort Go.Lib

set_option maxHeartbeats 8000000 in
set_option maxRecDepth 200000 in
theorem refs_main (T : Nat → Prop) (b : BodyA) (v : Value) (x : List UInt8) (id : Bv 32) (m : Int) (w : World) (h : BodyC w T b v) (hm : w.cell? ⟨0, 0, none⟩ = some (.int .i64 m))
    (hfew : fewB b = true) (h200 : x.length ≤ 200) (hok : okB b = true) :
    Calls Tryz.prog 4 #[v, .string ⟨x.toArray⟩, .agg (encB id).toArray] w fun e w' => e = .returned (.bool true) ∧ Below w.heap.size w w' := by
  obtain ⟨AR, cR, xsR, AP, cP, xsP, hv, hx1⟩ := _root_.id h
  clear hx1
  subst hv
  have Hb := hide h
  obtain ⟨N, hN⟩ : ∃ N, N = w.heap.size := ⟨_, rfl⟩
  have HN := hide hN
  have Hm0 := hide hm
  have H0 := hide (World.block_lt_of_cell? w _ hm)
  have Hok := hide hok
  have Hfew := hide hfew
  have Hcode := hide (show codeB b = 0 by rw [codeB, hok]; rfl)
  have Hnr := hide (show b.refs.length ≤ 8 from (ok_parts b hok).1)
  have Hxl := hide (show x.length ≤ 140737488351232 by omega)
  have hd2 : decide ((200 : Int) < (x.length : Int)) = false := by simp; omega
  clear h hN hm hok hfew h200
  go_enter Tryz.func4, Tryz.ntmps4
  go_upto_region 1 with (fail)
  rw [← HN.out]
  obtain ⟨W1, hW1⟩ : ∃ W : World, W = (w.alloc (.cells #[.int .u64 b.gen, .int .u64 b.epoch, .int .i64 b.writer, .int .u64 b.stamp, .slice AR b.refs.length cR, .slice AP b.packs.length cP] 26)).alloc (.cells (encB id).toArray 49) := ⟨_, rfl⟩
  have hbw : Below w.heap.size w W1 := by rw [hW1]; exact ((Below.refl _ _).alloc (Nat.le_refl _) _).alloc (by simp) _
  have hr0 : W1.heap[N]? = some (.cells #[.int .u64 b.gen, .int .u64 b.epoch, .int .i64 b.writer, .int .u64 b.stamp, .slice AR b.refs.length cR, .slice AP b.packs.length cP] 26 (0, 0)) := by rw [hW1, HN.out]; exact (Below.heap_alloc _ _ _ (by simp)).trans (heap_alloc_new _ _)
  have hr1 : W1.heap[N + 1]? = some (.cells (encB id).toArray 49 (0, 0)) := by rw [hW1, HN.out]; exact heap_alloc2_new _ _ _
  have HB1 := hide (Hb.out.below hbw)
  have Hm1 := hide (show W1.cell? ⟨0, 0, none⟩ = some (.int .i64 m) from keep_cell Hm0.out (fun f => f) W1 (Keep.of_none hbw))
  have Hbw := hide hbw
  have Hr0 := hide hr0
  have Hr1 := hide hr1
  have HszI := hide (show (Tryz.prog.info? 49).map (·.size) = some (encB id).toArray.size by rw [List.size_toArray, encB_len]; kernel_rfl)
  have HsB := hide (show (Tryz.prog.info? 26).map (·.size) = some (#[.int .u64 b.gen, .int .u64 b.epoch, .int .i64 b.writer, .int .u64 b.stamp, .slice AR b.refs.length cR, .slice AP b.packs.length cP] : Array Value).size by kernel_rfl)
  obtain ⟨f0, hf0⟩ : ∃ f0, f0 = findL b.refs x := ⟨_, rfl⟩
  have Hf0 := hide hf0
  have he0 : (encB f0).length = 32 := encB_len _
  rw [← hW1]
  clear hW1 hbw hr0 hr1 hf0
  go_upto_region 7 with (first
    | (with_reducible refine wpList_load_row rfl 26 (.tmp 3) rfl N rfl 26 #[.int .u64 b.gen, .int .u64 b.epoch, .int .i64 b.writer, .int .u64 b.stamp, .slice AR b.refs.length cR, .slice AP b.packs.length cP] (0, 0) _ Hr0.out Tryz.underlying26 rfl HsB.out ?_)
    | (with_reducible refine wpList_load_row rfl 49 (.tmp 5) rfl (N + 1) rfl 49 (encB id).toArray (0, 0) _ (Hid4.out _) Tryz.underlying49 rfl HszI.out ?_)
    | (go_at_call 5; ((with_reducible refine (own_any T b _ _ HB1.out).mono ?_)); rintro e w2 hown; unfold OwnP at hown; rw [if_pos Hfew.out] at hown; obtain ⟨v2, rfl, hd2, hb2⟩ := hown; obtain ⟨AR2, cR2, xsR2, AP2, cP2, xsP2, rfl, hx2⟩ := hd2; clear hx2; have Hb2 := hide hb2; have hN2 : N < w2.heap.size := (by have h1 := Below.lt_of_row Hr0.out; have h3 := hb2.size; omega); have hrow2 := (hb2.block N (Below.lt_of_row Hr0.out)).trans Hr0.out; have c20 : w2.cell? ⟨N, 0, none⟩ = some (.int .u64 b.gen) := cell_of_row _ _ 0 _ _ _ hrow2; have c21 : w2.cell? ⟨N, 1, none⟩ = some (.int .u64 b.epoch) := cell_of_row _ _ 1 _ _ _ hrow2; have c22 : w2.cell? ⟨N, 2, none⟩ = some (.int .i64 b.writer) := cell_of_row _ _ 2 _ _ _ hrow2; have c23 : w2.cell? ⟨N, 3, none⟩ = some (.int .u64 b.stamp) := cell_of_row _ _ 3 _ _ _ hrow2; have c24 : w2.cell? ⟨N, 4, none⟩ = some (.slice AR b.refs.length cR) := cell_of_row _ _ 4 _ _ _ hrow2; have c25 : w2.cell? ⟨N, 5, none⟩ = some (.slice AP b.packs.length cP) := cell_of_row _ _ 5 _ _ _ hrow2; have Hr02 := hide hrow2; have Hr12 := hide ((hb2.block (N + 1) (Below.lt_of_row Hr1.out)).trans Hr1.out); have Hm2 := hide (show ∀ o, (w2.alloc o).cell? ⟨0, 0, none⟩ = some (.int .i64 m) from fun o => keep_cell Hm1.out (fun f => f) _ ((Keep.of_none hb2).trans ((Keep.refl _ _).alloc o))); clear hb2 hrow2)
    | (go_at_call 6; ((with_reducible refine (check_any _ b _ m _ ((HB1.out.below Hb2.out).below ((Below.refl _ _).alloc (Nat.le_refl _) _)) (Hm2.out _)).mono ?_)); rintro e w3 ⟨rfl, hb3⟩; rw [Hcode.out]; have Hb3 := hide (below_alloc hb3); have hN3 : N < w3.heap.size := (by have h3 := (below_alloc hb3).size; omega); have hrow3 := ((below_alloc hb3).block N hN2).trans Hr02.out; have c30 : w3.cell? ⟨N, 0, none⟩ = some (.int .u64 b.gen) := cell_of_row _ _ 0 _ _ _ hrow3; have c31 : w3.cell? ⟨N, 1, none⟩ = some (.int .u64 b.epoch) := cell_of_row _ _ 1 _ _ _ hrow3; have c32 : w3.cell? ⟨N, 2, none⟩ = some (.int .i64 b.writer) := cell_of_row _ _ 2 _ _ _ hrow3; have c33 : w3.cell? ⟨N, 3, none⟩ = some (.int .u64 b.stamp) := cell_of_row _ _ 3 _ _ _ hrow3; have c34 : w3.cell? ⟨N, 4, none⟩ = some (.slice AR b.refs.length cR) := cell_of_row _ _ 4 _ _ _ hrow3; have c35 : w3.cell? ⟨N, 5, none⟩ = some (.slice AP b.packs.length cP) := cell_of_row _ _ 5 _ _ _ hrow3; have Hr03 := hide hrow3; have Hr13 := hide (((below_alloc hb3).block (N + 1) (Below.lt_of_row Hr12.out)).trans Hr12.out); have Hm3 := hide (show w3.cell? ⟨0, 0, none⟩ = some (.int .i64 m) from keep_cell (Hm2.out _) (fun f => f) _ (Keep.of_none hb3)); clear hb3 hrow3 c20 c21 c22 c23 c24 c25)
    | (go_at_call 15; ((with_reducible refine (find_any _ b _ x _ ((HB1.out.below Hb2.out).below Hb3.out)).mono ?_)); rintro e w4 ⟨rfl, hb4⟩; rw [← Hf0.out]; have Hb4 := hide hb4; have hN4 : N < w4.heap.size := (by have h3 := hb4.size; omega); have hrow4 := (hb4.block N hN3).trans Hr03.out; have c40 : w4.cell? ⟨N, 0, none⟩ = some (.int .u64 b.gen) := cell_of_row _ _ 0 _ _ _ hrow4; have c41 : w4.cell? ⟨N, 1, none⟩ = some (.int .u64 b.epoch) := cell_of_row _ _ 1 _ _ _ hrow4; have c42 : w4.cell? ⟨N, 2, none⟩ = some (.int .i64 b.writer) := cell_of_row _ _ 2 _ _ _ hrow4; have c43 : w4.cell? ⟨N, 3, none⟩ = some (.int .u64 b.stamp) := cell_of_row _ _ 3 _ _ _ hrow4; have c44 : w4.cell? ⟨N, 4, none⟩ = some (.slice AR b.refs.length cR) := cell_of_row _ _ 4 _ _ _ hrow4; have c45 : w4.cell? ⟨N, 5, none⟩ = some (.slice AP b.packs.length cP) := cell_of_row _ _ 5 _ _ _ hrow4; have Hr04 := hide hrow4; have Hr14 := hide ((hb4.block (N + 1) (Below.lt_of_row Hr13.out)).trans Hr13.out); have Hid4 := hide (show ∀ o, (w4.alloc o).heap[N + 1]? = some (.cells (encB id).toArray 49 (0, 0)) from fun o => (Below.heap_alloc _ _ _ (Below.lt_of_row Hr14.out)).trans Hr14.out); have Hm4 := hide (show ∀ o, (w4.alloc o).cell? ⟨0, 0, none⟩ = some (.int .i64 m) from fun o => keep_cell Hm3.out (fun f => f) _ ((Keep.of_none hb4).trans ((Keep.refl _ _).alloc o))); have hst4 := store_new w4 49 32 (encB f0) (by kernel_rfl) he0 (encB_one _); clear hb4 hrow4 c30 c31 c32 c33 c34 c35)
    | (go_at_call 16; ((with_reducible refine (with_any T b _ x id m _ ((((HB1.out.below Hb2.out).below Hb3.out).below Hb4.out).below ((Below.refl _ _).alloc (Nat.le_refl _) _)) (by have := Hnr.out; omega) Hxl.out (by have := H0.out; have := Hb4.out.size; simp) (Hm4.out _)).mono ?_)); rintro e w5 hwith; obtain ⟨v5, rfl, hbc5, hb5⟩ := hwith; have Hbc5 := hide hbc5; obtain ⟨AR5, cR5, xsR5, AP5, cP5, xsP5, rfl, hx5⟩ := hbc5; clear hx5; have Hb5 := hide (below_alloc hb5); have hN5 : N < w5.heap.size := (by have h3 := (below_alloc hb5).size; omega); have hrow5 := ((below_alloc hb5).block N hN4).trans Hr04.out; have c50 : w5.cell? ⟨N, 0, none⟩ = some (.int .u64 b.gen) := cell_of_row _ _ 0 _ _ _ hrow5; have c51 : w5.cell? ⟨N, 1, none⟩ = some (.int .u64 b.epoch) := cell_of_row _ _ 1 _ _ _ hrow5; have c52 : w5.cell? ⟨N, 2, none⟩ = some (.int .i64 b.writer) := cell_of_row _ _ 2 _ _ _ hrow5; have c53 : w5.cell? ⟨N, 3, none⟩ = some (.int .u64 b.stamp) := cell_of_row _ _ 3 _ _ _ hrow5; have c54 : w5.cell? ⟨N, 4, none⟩ = some (.slice AR b.refs.length cR) := cell_of_row _ _ 4 _ _ _ hrow5; have c55 : w5.cell? ⟨N, 5, none⟩ = some (.slice AP b.packs.length cP) := cell_of_row _ _ 5 _ _ _ hrow5; have Hr05 := hide hrow5; have Hr15 := hide (((below_alloc hb5).block (N + 1) (Below.lt_of_row Hr14.out)).trans Hr14.out); clear hb5 hrow5 c40 c41 c42 c43 c44 c45 hst4)
    | (go_at_call 17; ((with_reducible refine (without_any T b _ x _ (((((HB1.out.below Hb2.out).below Hb3.out).below Hb4.out).below Hb5.out).below ((Below.refl _ _).alloc (Nat.le_refl _) _)) (by have := Hnr.out; omega)).mono ?_)); rintro e w6 hout; obtain ⟨v6, rfl, hbc6, hb6⟩ := hout; have Hbc6 := hide hbc6; obtain ⟨AR6, cR6, xsR6, AP6, cP6, xsP6, rfl, hx6⟩ := hbc6; clear hx6; have Hb6 := hide (below_alloc hb6); have Hr116 := hide (show w6.heap[w5.heap.size]? = some (.cells #[.int .u64 b.gen, .int .u64 b.epoch, .int .i64 b.writer, .int .u64 b.stamp, .slice AR5 (withR b.refs x id).length cR5, .slice AP5 b.packs.length cP5] 26 (0, 0)) from (hb6.block w5.heap.size (by simp)).trans (heap_alloc_new _ _)); have hN6 : N < w6.heap.size := (by have h3 := (below_alloc hb6).size; omega); have hrow6 := ((below_alloc hb6).block N hN5).trans Hr05.out; have c60 : w6.cell? ⟨N, 0, none⟩ = some (.int .u64 b.gen) := cell_of_row _ _ 0 _ _ _ hrow6; have c61 : w6.cell? ⟨N, 1, none⟩ = some (.int .u64 b.epoch) := cell_of_row _ _ 1 _ _ _ hrow6; have c62 : w6.cell? ⟨N, 2, none⟩ = some (.int .i64 b.writer) := cell_of_row _ _ 2 _ _ _ hrow6; have c63 : w6.cell? ⟨N, 3, none⟩ = some (.int .u64 b.stamp) := cell_of_row _ _ 3 _ _ _ hrow6; have c64 : w6.cell? ⟨N, 4, none⟩ = some (.slice AR b.refs.length cR) := cell_of_row _ _ 4 _ _ _ hrow6; have c65 : w6.cell? ⟨N, 5, none⟩ = some (.slice AP b.packs.length cP) := cell_of_row _ _ 5 _ _ _ hrow6; have Hr06 := hide hrow6; have Hr16 := hide (((below_alloc hb6).block (N + 1) (Below.lt_of_row Hr15.out)).trans Hr15.out); clear hb6 hrow6 c50 c51 c52 c53 c54 c55)
    | fail)
  obtain ⟨M11, hM11⟩ : ∃ M, M = w5.heap.size := ⟨_, rfl⟩
  obtain ⟨M13, hM13⟩ : ∃ M, M = w6.heap.size := ⟨_, rfl⟩
  obtain ⟨W, hW⟩ : ∃ W : World, W = w6.alloc (.cells #[.int .u64 b.gen, .int .u64 b.epoch, .int .i64 b.writer, .int .u64 b.stamp, .slice AR6 (outR b.refs x).length cR6, .slice AP6 b.packs.length cP6] 26) := ⟨_, rfl⟩
  have hb6W : Below w6.heap.size w6 W := by rw [hW]; exact (Below.refl _ _).alloc (Nat.le_refl _) _
  have HR3 := hide (show ∀ w', Below W.heap.size W w' → w'.heap[N]? = some (.cells #[.int .u64 b.gen, .int .u64 b.epoch, .int .i64 b.writer, .int .u64 b.stamp, .slice AR b.refs.length cR, .slice AP b.packs.length cP] 26 (0, 0)) from fun w' h => by
    have h1 := (hb6W.block N hN6).trans Hr06.out
    exact (h.block N (Below.lt_of_row h1)).trans h1)
  have HR5 := hide (show ∀ w', Below W.heap.size W w' → w'.heap[N + 1]? = some (.cells (encB id).toArray 49 (0, 0)) from fun w' h => by
    have h1 := (hb6W.block (N + 1) (Below.lt_of_row Hr16.out)).trans Hr16.out
    exact (h.block _ (Below.lt_of_row h1)).trans h1)
  have HR11 := hide (show ∀ w', Below W.heap.size W w' → w'.heap[M11]? = some (.cells #[.int .u64 b.gen, .int .u64 b.epoch, .int .i64 b.writer, .int .u64 b.stamp, .slice AR5 (withR b.refs x id).length cR5, .slice AP5 b.packs.length cP5] 26 (0, 0)) from fun w' h => by
    rw [hM11]
    have h1 := (hb6W.block _ (Below.lt_of_row Hr116.out)).trans Hr116.out
    exact (h.block _ (Below.lt_of_row h1)).trans h1)
  have HR13 := hide (show ∀ w', Below W.heap.size W w' → w'.heap[M13]? = some (.cells #[.int .u64 b.gen, .int .u64 b.epoch, .int .i64 b.writer, .int .u64 b.stamp, .slice AR6 (outR b.refs x).length cR6, .slice AP6 b.packs.length cP6] 26 (0, 0)) from fun w' h => by
    have h1 : W.heap[M13]? = some (.cells #[.int .u64 b.gen, .int .u64 b.epoch, .int .i64 b.writer, .int .u64 b.stamp, .slice AR6 (outR b.refs x).length cR6, .slice AP6 b.packs.length cP6] 26 (0, 0)) := by rw [hM13, hW]; exact heap_alloc_new _ _
    exact (h.block _ (Below.lt_of_row h1)).trans h1)
  have hbig : Below w.heap.size w W := by
    have h2 := Hbw.out.trans (Hb2.out.mono Hbw.out.size)
    have h3 := h2.trans (Hb3.out.mono h2.size)
    have h4 := h3.trans (Hb4.out.mono h3.size)
    have h5 := h4.trans (Hb5.out.mono h4.size)
    have h6 := h5.trans (Hb6.out.mono h5.size)
    exact h6.trans (hb6W.mono h6.size)
  have HbW := hide hbig
  have HBW := hide (Hb.out.below hbig)
  have HWW := hide ((Hbc5.out.below Hb6.out).below hb6W)
  have HLW := hide (Hbc6.out.below hb6W)
  have HmW := hide (show ∀ w', Below W.heap.size W w' → w'.cell? ⟨0, 0, none⟩ = some (.int .i64 m) from fun w' h => keep_cell Hm0.out (fun f => f) _ ((Keep.of_none hbig).trans (Keep.of_none h)))
  have Hsrt := hide (ok_parts b Hok.out).2.2
  obtain ⟨f1, hf1⟩ : ∃ f1, f1 = findL (withR b.refs x id) x := ⟨_, rfl⟩
  obtain ⟨a1, ha1⟩ : ∃ a1, a1 = atB (withR b.refs x id) x := ⟨_, rfl⟩
  obtain ⟨f2, hf2⟩ : ∃ f2, f2 = findL (outR b.refs x) x := ⟨_, rfl⟩
  have Hf1 := hide hf1
  have Ha1 := hide ha1
  have Hf2 := hide hf2
  have he1 : (encB f1).length = 32 := encB_len _
  have he2 : (encB f2).length = 32 := encB_len _
  have Ha2 := hide (out_gone b.refs x Hsrt.out)
  have HcW := hide (show codeB { b with refs := withR b.refs x id } = 0 by rw [codeB, with_ok b x id Hok.out]; rfl)
  have HcL := hide (show codeB { b with refs := outR b.refs x } = 0 by rw [codeB, out_ok b x Hok.out]; rfl)
  obtain ⟨kv, hkv⟩ : ∃ kv, kv = kindL x := ⟨_, rfl⟩
  have Hkv := hide hkv
  rw [← hW, ← hM11, ← hM13]
  clear hW hM11 hM13 hb6W hbig hf1 ha1 hf2 hkv hN2 hN3 hN4 hN5 hN6 Hr02 Hr12 Hr03 Hr13 Hr04 Hr14 Hr05 Hr15 Hr06 Hr16 Hr116 c60 c61 c62 c63 c64 c65 he0
  have hvar : (atB b.refs x = false → outR b.refs x = b.refs) ∧ (okW b.refs x = false → withR b.refs x id = b.refs) := ⟨fun h => by rw [outR, h]; rfl, fun h => by rw [withR, h]; rfl⟩
  have HszF := hide (show (Tryz.prog.info? 49).map (·.size) = some (encB f1).toArray.size by rw [List.size_toArray, encB_len]; kernel_rfl)
  have hcases : (okW b.refs x = true ∧ ((kv : Int) == 0) = false ∧ atB b.refs x = true) ∨ (okW b.refs x = true ∧ ((kv : Int) == 0) = false ∧ atB b.refs x = false ∧ decide ((b.refs.length : Int) < 8) = true) ∨
      (okW b.refs x = false ∧ ((kv : Int) == 0) = true ∧ atB b.refs x = true) ∨ (okW b.refs x = false ∧ ((kv : Int) == 0) = true ∧ atB b.refs x = false) ∨
      (okW b.refs x = false ∧ ((kv : Int) == 0) = false ∧ atB b.refs x = false ∧ decide ((b.refs.length : Int) < 8) = false) := by
    rw [okW, ← Hkv.out]
    by_cases hz : kv = 0
    · subst hz
      rcases atB b.refs x with _ | _ <;> simp
    · have h1 : ((kv : Int) == 0) = false := by rw [beq_eq_false_iff_ne]; exact_mod_cast hz
      by_cases h8 : b.refs.length < 8
      · rcases atB b.refs x with _ | _ <;> simp [hz, h1, h8] <;> omega
      · rcases atB b.refs x with _ | _ <;> simp [hz, h1, h8] <;> omega
  have hneq : f1 = id → ∀ w : World, (binOp .neq 49 (.agg (encB f1).toArray) (.agg (encB id).toArray)).run Tryz.prog w = .ok (.bool false) w := fun e w => by
    rw [e, run_neq_struct]
    have h3 : (Op.equalIn 10000 49 (.agg (encB id).toArray) (.agg (encB id).toArray)).run Tryz.prog w = .ok true w := eq_arr Tryz.underlying49 id 9998 w
    rw [h3]
    rfl
  have Hneq := hide hneq
  have hgood : okW b.refs x = true → a1 = true ∧ f1 = id := fun h => by
    rw [Ha1.out, Hf1.out]; exact with_new b.refs x id Hsrt.out h
  have hsameW : okW b.refs x = false → BodyC W _ b (.agg #[.int .u64 b.gen, .int .u64 b.epoch, .int .i64 b.writer, .int .u64 b.stamp, .slice AR5 (withR b.refs x id).length cR5, .slice AP5 b.packs.length cP5]) := fun h => by
    have e : ({ b with refs := withR b.refs x id } : BodyA) = b := by rw [hvar.2 h]
    have h9 := HWW.out
    exact (congrArg (fun q => BodyC W _ q _) e).mp h9
  have hsameL : atB b.refs x = false → BodyC W _ b (.agg #[.int .u64 b.gen, .int .u64 b.epoch, .int .i64 b.writer, .int .u64 b.stamp, .slice AR6 (outR b.refs x).length cR6, .slice AP6 b.packs.length cP6]) := fun h => by
    have e : ({ b with refs := outR b.refs x } : BodyA) = b := by rw [hvar.1 h]
    have h9 := HLW.out
    exact (congrArg (fun q => BodyC W _ q _) e).mp h9
  have HsameW := hide hsameW
  have HsameL := hide hsameL
  have Hgood := hide hgood
  clear hneq hgood hsameW hsameL hvar
  have Hs11 := hide (show (Tryz.prog.info? 26).map (·.size) = some (#[.int .u64 b.gen, .int .u64 b.epoch, .int .i64 b.writer, .int .u64 b.stamp, .slice AR5 (withR b.refs x id).length cR5, .slice AP5 b.packs.length cP5] : Array Value).size by kernel_rfl)
  have Hs13 := hide (show (Tryz.prog.info? 26).map (·.size) = some (#[.int .u64 b.gen, .int .u64 b.epoch, .int .i64 b.writer, .int .u64 b.stamp, .slice AR6 (outR b.refs x).length cR6, .slice AP6 b.packs.length cP6] : Array Value).size by kernel_rfl)
  go_cut [10, 12, 85] (fun p q c wx => p = .bool (atB b.refs x) ∧ q = .bool (okW b.refs x) ∧ c = .bool false ∧ Below W.heap.size W wx)
  case first => as_aux_lemma =>
    have Hb7 := hide (Below.refl W.heap.size W)
    rcases hcases with ⟨hok, hz, hab⟩ | ⟨hok, hz, hab, h8⟩ | ⟨hok, hz, hab⟩ | ⟨hok, hz, hab⟩ | ⟨hok, hz, hab, h8⟩
    case inl => as_aux_lemma =>
      have hk0 : ¬ kv = 0 := fun e => by rw [e] at hz; simp at hz
      have hz2 : ((kv : Int) != 0) = true := by rw [bne, hz]; rfl
      simp only [hok, hab]
      go_wp2_with (first
        | (go_at_call 18; ((with_reducible refine (nkind_all _ _ m (HmW.out _ (Below.refl _ _))).mono ?_)); rintro e wk ⟨rfl, hbk⟩; rw [← Hkv.out]; clear Hb7; have Hb7 := hide hbk; have c74 : wk.cell? ⟨N, 4, none⟩ = some (.slice AR b.refs.length cR) := cell_of_row _ _ 4 _ _ _ (HR3.out _ hbk); clear hbk)
        | fail)
      go_meet
      exact ⟨by first | rw [hab] | rfl, by rw [hok], rfl, Hb7.out⟩
    case inr.inl => as_aux_lemma =>
      have hk0 : ¬ kv = 0 := fun e => by rw [e] at hz; simp at hz
      have hz2 : ((kv : Int) != 0) = true := by rw [bne, hz]; rfl
      simp only [hok, hab]
      go_wp2_with (first
        | (go_at_call 18; ((with_reducible refine (nkind_all _ _ m (HmW.out _ (Below.refl _ _))).mono ?_)); rintro e wk ⟨rfl, hbk⟩; rw [← Hkv.out]; clear Hb7; have Hb7 := hide hbk; have c74 : wk.cell? ⟨N, 4, none⟩ = some (.slice AR b.refs.length cR) := cell_of_row _ _ 4 _ _ _ (HR3.out _ hbk); clear hbk)
        | fail)
      go_meet
      exact ⟨by first | rw [hab] | rfl, by rw [hok], rfl, Hb7.out⟩
    case inr.inr.inl => as_aux_lemma =>
      have HsW := hide (HsameW.out hok)
      have hk0 : kv = 0 := by simpa using hz
      have hz2 : ((kv : Int) != 0) = false := by rw [bne, hz]; rfl
      simp only [hok, hab]
      go_wp2_with (first
        | (go_at_call 18; ((with_reducible refine (nkind_all _ _ m (HmW.out _ (Below.refl _ _))).mono ?_)); rintro e wk ⟨rfl, hbk⟩; rw [← Hkv.out]; clear Hb7; have Hb7 := hide hbk; have c74 : wk.cell? ⟨N, 4, none⟩ = some (.slice AR b.refs.length cR) := cell_of_row _ _ 4 _ _ _ (HR3.out _ hbk); clear hbk)
        | (go_at_call 12; ((with_reducible refine (same_all _ T b _ _ _ (HsW.out.below Hb7.out) (HBW.out.below Hb7.out)).mono ?_)); rintro e w7 ⟨rfl, hb7⟩; have Hb7b := hide (Hb7.out.trans (hb7.mono Hb7.out.size)); clear hb7)
        | (with_reducible refine wpList_load_row_g (by kernel_rfl) 26 (.tmp 11) rfl M11 rfl 26 #[.int .u64 b.gen, .int .u64 b.epoch, .int .i64 b.writer, .int .u64 b.stamp, .slice AR5 (withR b.refs x id).length cR5, .slice AP5 b.packs.length cP5] (0, 0) _ (HR11.out _ Hb7.out) Tryz.underlying26 rfl Hs11.out ?_)
        | (with_reducible refine wpList_load_row_g (by kernel_rfl) 26 (.tmp 3) rfl N rfl 26 #[.int .u64 b.gen, .int .u64 b.epoch, .int .i64 b.writer, .int .u64 b.stamp, .slice AR b.refs.length cR, .slice AP b.packs.length cP] (0, 0) _ (HR3.out _ Hb7.out) Tryz.underlying26 rfl HsB.out ?_)
        | fail)
      go_meet
      exact ⟨by first | rw [hab] | rfl, by rw [hok], rfl, Hb7b.out⟩
    case inr.inr.inr.inl => as_aux_lemma =>
      have HsW := hide (HsameW.out hok)
      have hk0 : kv = 0 := by simpa using hz
      have hz2 : ((kv : Int) != 0) = false := by rw [bne, hz]; rfl
      simp only [hok, hab]
      go_wp2_with (first
        | (go_at_call 18; ((with_reducible refine (nkind_all _ _ m (HmW.out _ (Below.refl _ _))).mono ?_)); rintro e wk ⟨rfl, hbk⟩; rw [← Hkv.out]; clear Hb7; have Hb7 := hide hbk; have c74 : wk.cell? ⟨N, 4, none⟩ = some (.slice AR b.refs.length cR) := cell_of_row _ _ 4 _ _ _ (HR3.out _ hbk); clear hbk)
        | (go_at_call 12; ((with_reducible refine (same_all _ T b _ _ _ (HsW.out.below Hb7.out) (HBW.out.below Hb7.out)).mono ?_)); rintro e w7 ⟨rfl, hb7⟩; have Hb7b := hide (Hb7.out.trans (hb7.mono Hb7.out.size)); clear hb7)
        | (with_reducible refine wpList_load_row_g (by kernel_rfl) 26 (.tmp 11) rfl M11 rfl 26 #[.int .u64 b.gen, .int .u64 b.epoch, .int .i64 b.writer, .int .u64 b.stamp, .slice AR5 (withR b.refs x id).length cR5, .slice AP5 b.packs.length cP5] (0, 0) _ (HR11.out _ Hb7.out) Tryz.underlying26 rfl Hs11.out ?_)
        | (with_reducible refine wpList_load_row_g (by kernel_rfl) 26 (.tmp 3) rfl N rfl 26 #[.int .u64 b.gen, .int .u64 b.epoch, .int .i64 b.writer, .int .u64 b.stamp, .slice AR b.refs.length cR, .slice AP b.packs.length cP] (0, 0) _ (HR3.out _ Hb7.out) Tryz.underlying26 rfl HsB.out ?_)
        | fail)
      go_meet
      exact ⟨by first | rw [hab] | rfl, by rw [hok], rfl, Hb7b.out⟩
    case inr.inr.inr.inr => as_aux_lemma =>
      have HsW := hide (HsameW.out hok)
      have hk0 : ¬ kv = 0 := fun e => by rw [e] at hz; simp at hz
      have hz2 : ((kv : Int) != 0) = true := by rw [bne, hz]; rfl
      simp only [hok, hab]
      go_wp2_with (first
        | (go_at_call 18; ((with_reducible refine (nkind_all _ _ m (HmW.out _ (Below.refl _ _))).mono ?_)); rintro e wk ⟨rfl, hbk⟩; rw [← Hkv.out]; clear Hb7; have Hb7 := hide hbk; have c74 : wk.cell? ⟨N, 4, none⟩ = some (.slice AR b.refs.length cR) := cell_of_row _ _ 4 _ _ _ (HR3.out _ hbk); clear hbk)
        | (go_at_call 12; ((with_reducible refine (same_all _ T b _ _ _ (HsW.out.below Hb7.out) (HBW.out.below Hb7.out)).mono ?_)); rintro e w7 ⟨rfl, hb7⟩; have Hb7b := hide (Hb7.out.trans (hb7.mono Hb7.out.size)); clear hb7)
        | (with_reducible refine wpList_load_row_g (by kernel_rfl) 26 (.tmp 11) rfl M11 rfl 26 #[.int .u64 b.gen, .int .u64 b.epoch, .int .i64 b.writer, .int .u64 b.stamp, .slice AR5 (withR b.refs x id).length cR5, .slice AP5 b.packs.length cP5] (0, 0) _ (HR11.out _ Hb7.out) Tryz.underlying26 rfl Hs11.out ?_)
        | (with_reducible refine wpList_load_row_g (by kernel_rfl) 26 (.tmp 3) rfl N rfl 26 #[.int .u64 b.gen, .int .u64 b.epoch, .int .i64 b.writer, .int .u64 b.stamp, .slice AR b.refs.length cR, .slice AP b.packs.length cP] (0, 0) _ (HR3.out _ Hb7.out) Tryz.underlying26 rfl HsB.out ?_)
        | fail)
      go_meet
      exact ⟨by first | rw [hab] | rfl, by rw [hok], rfl, Hb7b.out⟩
  case rest => as_aux_lemma =>
    obtain ⟨rfl, rfl, rfl, hb7⟩ := hcut
    have Hb7 := hide hb7
    clear hb7 hcases
    obtain ⟨Wc, hWc⟩ : ∃ Wc, Wc = wc := ⟨_, rfl⟩
    clear hWc Wc
    go_upto_region 11 with (first
      | (with_reducible refine wpList_load_row_g (by kernel_rfl) 26 (.tmp 11) rfl M11 rfl 26 #[.int .u64 b.gen, .int .u64 b.epoch, .int .i64 b.writer, .int .u64 b.stamp, .slice AR5 (withR b.refs x id).length cR5, .slice AP5 b.packs.length cP5] (0, 0) _ (HR11.out _ Hb7.out) Tryz.underlying26 rfl Hs11.out ?_)
      | (go_at_call 15; ((with_reducible refine (find_any _ _ _ x _ (HWW.out.below Hb7.out)).mono ?_)); rintro e w9 ⟨rfl, hb9⟩; simp only [← Hf1.out, ← Ha1.out]; have Hb9 := hide (Hb7.out.trans (hb9.mono Hb7.out.size)); have hst9 := store_new w9 49 32 (encB f1) (by kernel_rfl) he1 (encB_one _); have Hb9a := hide (show ∀ o, Below W.heap.size W (w9.alloc o) from fun o => Hb9.out.alloc Hb9.out.size o); clear hb9)
      | (with_reducible refine wpList_load_row_g (by kernel_rfl) 26 (.tmp 13) rfl M13 rfl 26 #[.int .u64 b.gen, .int .u64 b.epoch, .int .i64 b.writer, .int .u64 b.stamp, .slice AR6 (outR b.refs x).length cR6, .slice AP6 b.packs.length cP6] (0, 0) _ (HR13.out _ (Hb9a.out _)) Tryz.underlying26 rfl Hs13.out ?_)
      | (go_at_call 15; ((with_reducible refine (find_any _ _ _ x _ (HLW.out.below (Hb9a.out _))).mono ?_)); rintro e w10 ⟨rfl, hb10⟩; simp only [← Hf2.out, Ha2.out]; have Hb10 := hide ((Hb9a.out _).trans (hb10.mono (Hb9a.out _).size)); have hst10 := store_new w10 49 32 (encB f2) (by kernel_rfl) he2 (encB_one _); have Hb10a := hide (show ∀ o, Below W.heap.size W (w10.alloc o) from fun o => Hb10.out.alloc Hb10.out.size o); have h149 := (hb10.block w9.heap.size (by simp)).trans (heap_alloc_new w9 _); have Hr14 := hide (show ∀ o, (w10.alloc o).heap[w9.heap.size]? = some (.cells (encB f1).toArray 49 (0, 0)) from fun o => (Below.heap_alloc _ _ _ (Below.lt_of_row h149)).trans h149); clear hb10 h149 hst9)
      | fail)
    obtain ⟨M14, hM14⟩ : ∃ M, M = w9.heap.size := ⟨_, rfl⟩
    obtain ⟨V, hV⟩ : ∃ V : World, V = w10.alloc (.cells (encB f2).toArray 49) := ⟨_, rfl⟩
    have HbV := hide (show Below W.heap.size W V by rw [hV]; exact Hb10a.out _)
    have HrV := hide (show V.heap[M14]? = some (.cells (encB f1).toArray 49 (0, 0)) by rw [hV, hM14]; exact Hr14.out _)
    rw [← hV, ← hM14]
    clear hV hM14 hst10 Hr14 Hb10a Hb10 Hb9a Hb9 Hb7

    go_cut [10, 12, 15, 130] (fun p q r c wx => p = .bool (atB b.refs x) ∧ q = .bool (okW b.refs x) ∧ r = .bool a1 ∧ c = .bool false ∧ Below W.heap.size W wx)
    case first => as_aux_lemma =>
      rcases hok : okW b.refs x with _ | _
      case false =>
        rcases hab : atB b.refs x with _ | _
        case false => as_aux_lemma =>
          have HsL := hide (HsameL.out hab)
          try simp only [hok, hab]
          go_wp2_with (first
            | (go_at_call 6; ((with_reducible refine (check_any _ _ _ m _ (HWW.out.below HbV.out) (HmW.out _ HbV.out)).mono ?_)); rintro e w11 ⟨rfl, hb11⟩; rw [HcW.out]; have Hb11 := hide (HbV.out.trans (hb11.mono HbV.out.size)); clear hb11)
            | (go_at_call 6; ((with_reducible refine (check_any _ _ _ m _ (HLW.out.below Hb11.out) (HmW.out _ Hb11.out)).mono ?_)); rintro e w12 ⟨rfl, hb12⟩; rw [HcL.out]; have Hb12 := hide (Hb11.out.trans (hb12.mono Hb11.out.size)); clear hb12)
            | (go_at_call 12; ((with_reducible refine (same_all _ T b _ _ _ (HsL.out.below Hb12.out) (HBW.out.below Hb12.out)).mono ?_)); rintro e w13 ⟨rfl, hb13⟩; have Hb13 := hide (Hb12.out.trans (hb13.mono Hb12.out.size)); clear hb13)
            | (with_reducible refine wpList_load_row_g (o := ⟨some 112, _, _, _, _, _⟩) (by kernel_rfl) 26 (.tmp 11) rfl M11 rfl 26 #[.int .u64 b.gen, .int .u64 b.epoch, .int .i64 b.writer, .int .u64 b.stamp, .slice AR5 (withR b.refs x id).length cR5, .slice AP5 b.packs.length cP5] (0, 0) _ (HR11.out _ HbV.out) Tryz.underlying26 rfl Hs11.out ?_)
            | (with_reducible refine wpList_load_row_g (o := ⟨some 117, _, _, _, _, _⟩) (by kernel_rfl) 26 (.tmp 13) rfl M13 rfl 26 #[.int .u64 b.gen, .int .u64 b.epoch, .int .i64 b.writer, .int .u64 b.stamp, .slice AR6 (outR b.refs x).length cR6, .slice AP6 b.packs.length cP6] (0, 0) _ (HR13.out _ Hb11.out) Tryz.underlying26 rfl Hs13.out ?_)
            | (with_reducible refine wpList_load_row_g (o := ⟨some 125, _, _, _, _, _⟩) (by kernel_rfl) 26 (.tmp 13) rfl M13 rfl 26 #[.int .u64 b.gen, .int .u64 b.epoch, .int .i64 b.writer, .int .u64 b.stamp, .slice AR6 (outR b.refs x).length cR6, .slice AP6 b.packs.length cP6] (0, 0) _ (HR13.out _ Hb12.out) Tryz.underlying26 rfl Hs13.out ?_)
            | (with_reducible refine wpList_load_row_g (o := ⟨some 126, _, _, _, _, _⟩) (by kernel_rfl) 26 (.tmp 3) rfl N rfl 26 #[.int .u64 b.gen, .int .u64 b.epoch, .int .i64 b.writer, .int .u64 b.stamp, .slice AR b.refs.length cR, .slice AP b.packs.length cP] (0, 0) _ (HR3.out _ Hb12.out) Tryz.underlying26 rfl HsB.out ?_)
            | fail)
          go_meet
          exact ⟨by first | rw [hab] | rfl, by first | rw [hok] | rfl, rfl, rfl, Hb13.out⟩
        case true => as_aux_lemma =>
          try simp only [hok, hab]
          go_wp2_with (first
            | (go_at_call 6; ((with_reducible refine (check_any _ _ _ m _ (HWW.out.below HbV.out) (HmW.out _ HbV.out)).mono ?_)); rintro e w11 ⟨rfl, hb11⟩; rw [HcW.out]; have Hb11 := hide (HbV.out.trans (hb11.mono HbV.out.size)); clear hb11)
            | (go_at_call 6; ((with_reducible refine (check_any _ _ _ m _ (HLW.out.below Hb11.out) (HmW.out _ Hb11.out)).mono ?_)); rintro e w12 ⟨rfl, hb12⟩; rw [HcL.out]; have Hb12 := hide (Hb11.out.trans (hb12.mono Hb11.out.size)); clear hb12)
            | (with_reducible refine wpList_load_row_g (o := ⟨some 112, _, _, _, _, _⟩) (by kernel_rfl) 26 (.tmp 11) rfl M11 rfl 26 #[.int .u64 b.gen, .int .u64 b.epoch, .int .i64 b.writer, .int .u64 b.stamp, .slice AR5 (withR b.refs x id).length cR5, .slice AP5 b.packs.length cP5] (0, 0) _ (HR11.out _ HbV.out) Tryz.underlying26 rfl Hs11.out ?_)
            | (with_reducible refine wpList_load_row_g (o := ⟨some 117, _, _, _, _, _⟩) (by kernel_rfl) 26 (.tmp 13) rfl M13 rfl 26 #[.int .u64 b.gen, .int .u64 b.epoch, .int .i64 b.writer, .int .u64 b.stamp, .slice AR6 (outR b.refs x).length cR6, .slice AP6 b.packs.length cP6] (0, 0) _ (HR13.out _ Hb11.out) Tryz.underlying26 rfl Hs13.out ?_)
            | fail)
          go_meet
          exact ⟨by first | rw [hab] | rfl, by first | rw [hok] | rfl, rfl, rfl, Hb12.out⟩
      case true =>
        obtain ⟨rfl, hf⟩ := Hgood.out hok
        have hf2 := hf.symm
        clear hf
        subst hf2
        have heq : ∀ w : World, (Op.equalIn 10000 49 (.agg (encB id).toArray) (.agg (encB id).toArray)).run Tryz.prog w = .ok true w := fun w => eq_arr Tryz.underlying49 id 9998 w
        rcases hab : atB b.refs x with _ | _
        case false => as_aux_lemma =>
          have HsL := hide (HsameL.out hab)
          try simp only [hok, hab]
          go_wp2_with (first
            | (go_at_call 6; ((with_reducible refine (check_any _ _ _ m _ (HWW.out.below HbV.out) (HmW.out _ HbV.out)).mono ?_)); rintro e w11 ⟨rfl, hb11⟩; rw [HcW.out]; have Hb11 := hide (HbV.out.trans (hb11.mono HbV.out.size)); clear hb11)
            | (go_at_call 6; ((with_reducible refine (check_any _ _ _ m _ (HLW.out.below Hb11.out) (HmW.out _ Hb11.out)).mono ?_)); rintro e w12 ⟨rfl, hb12⟩; rw [HcL.out]; have Hb12 := hide (Hb11.out.trans (hb12.mono Hb11.out.size)); clear hb12)
            | (go_at_call 12; ((with_reducible refine (same_all _ T b _ _ _ (HsL.out.below Hb12.out) (HBW.out.below Hb12.out)).mono ?_)); rintro e w13 ⟨rfl, hb13⟩; have Hb13 := hide (Hb12.out.trans (hb13.mono Hb12.out.size)); clear hb13)
            | (with_reducible refine wpList_load_row_g (o := ⟨some 112, _, _, _, _, _⟩) (by kernel_rfl) 26 (.tmp 11) rfl M11 rfl 26 #[.int .u64 b.gen, .int .u64 b.epoch, .int .i64 b.writer, .int .u64 b.stamp, .slice AR5 (withR b.refs x id).length cR5, .slice AP5 b.packs.length cP5] (0, 0) _ (HR11.out _ HbV.out) Tryz.underlying26 rfl Hs11.out ?_)
            | (with_reducible refine wpList_load_row_g (o := ⟨some 117, _, _, _, _, _⟩) (by kernel_rfl) 26 (.tmp 13) rfl M13 rfl 26 #[.int .u64 b.gen, .int .u64 b.epoch, .int .i64 b.writer, .int .u64 b.stamp, .slice AR6 (outR b.refs x).length cR6, .slice AP6 b.packs.length cP6] (0, 0) _ (HR13.out _ Hb11.out) Tryz.underlying26 rfl Hs13.out ?_)
            | (with_reducible refine wpList_load_row_g (o := ⟨some 125, _, _, _, _, _⟩) (by kernel_rfl) 26 (.tmp 13) rfl M13 rfl 26 #[.int .u64 b.gen, .int .u64 b.epoch, .int .i64 b.writer, .int .u64 b.stamp, .slice AR6 (outR b.refs x).length cR6, .slice AP6 b.packs.length cP6] (0, 0) _ (HR13.out _ Hb12.out) Tryz.underlying26 rfl Hs13.out ?_)
            | (with_reducible refine wpList_load_row_g (o := ⟨some 126, _, _, _, _, _⟩) (by kernel_rfl) 26 (.tmp 3) rfl N rfl 26 #[.int .u64 b.gen, .int .u64 b.epoch, .int .i64 b.writer, .int .u64 b.stamp, .slice AR b.refs.length cR, .slice AP b.packs.length cP] (0, 0) _ (HR3.out _ Hb12.out) Tryz.underlying26 rfl HsB.out ?_)
            | (with_reducible refine wpList_load_row_g (o := ⟨some 103, _, _, _, _, _⟩) (by kernel_rfl) 49 (.tmp 14) rfl M14 rfl 49 (encB id).toArray (0, 0) _ (HrV.out) Tryz.underlying49 rfl HszF.out ?_)
            | (with_reducible refine wpList_load_row_g (o := ⟨some 104, _, _, _, _, _⟩) (by kernel_rfl) 49 (.tmp 5) rfl (N + 1) rfl 49 (encB id).toArray (0, 0) _ (HR5.out _ HbV.out) Tryz.underlying49 rfl HszI.out ?_)
            | fail)
          go_meet
          exact ⟨by first | rw [hab] | rfl, by first | rw [hok] | rfl, rfl, rfl, Hb13.out⟩
        case true => as_aux_lemma =>
          try simp only [hok, hab]
          go_wp2_with (first
            | (go_at_call 6; ((with_reducible refine (check_any _ _ _ m _ (HWW.out.below HbV.out) (HmW.out _ HbV.out)).mono ?_)); rintro e w11 ⟨rfl, hb11⟩; rw [HcW.out]; have Hb11 := hide (HbV.out.trans (hb11.mono HbV.out.size)); clear hb11)
            | (go_at_call 6; ((with_reducible refine (check_any _ _ _ m _ (HLW.out.below Hb11.out) (HmW.out _ Hb11.out)).mono ?_)); rintro e w12 ⟨rfl, hb12⟩; rw [HcL.out]; have Hb12 := hide (Hb11.out.trans (hb12.mono Hb11.out.size)); clear hb12)
            | (with_reducible refine wpList_load_row_g (o := ⟨some 112, _, _, _, _, _⟩) (by kernel_rfl) 26 (.tmp 11) rfl M11 rfl 26 #[.int .u64 b.gen, .int .u64 b.epoch, .int .i64 b.writer, .int .u64 b.stamp, .slice AR5 (withR b.refs x id).length cR5, .slice AP5 b.packs.length cP5] (0, 0) _ (HR11.out _ HbV.out) Tryz.underlying26 rfl Hs11.out ?_)
            | (with_reducible refine wpList_load_row_g (o := ⟨some 117, _, _, _, _, _⟩) (by kernel_rfl) 26 (.tmp 13) rfl M13 rfl 26 #[.int .u64 b.gen, .int .u64 b.epoch, .int .i64 b.writer, .int .u64 b.stamp, .slice AR6 (outR b.refs x).length cR6, .slice AP6 b.packs.length cP6] (0, 0) _ (HR13.out _ Hb11.out) Tryz.underlying26 rfl Hs13.out ?_)
            | (with_reducible refine wpList_load_row_g (o := ⟨some 103, _, _, _, _, _⟩) (by kernel_rfl) 49 (.tmp 14) rfl M14 rfl 49 (encB id).toArray (0, 0) _ (HrV.out) Tryz.underlying49 rfl HszF.out ?_)
            | (with_reducible refine wpList_load_row_g (o := ⟨some 104, _, _, _, _, _⟩) (by kernel_rfl) 49 (.tmp 5) rfl (N + 1) rfl 49 (encB id).toArray (0, 0) _ (HR5.out _ HbV.out) Tryz.underlying49 rfl HszI.out ?_)
            | fail)
          go_meet
          exact ⟨by first | rw [hab] | rfl, by first | rw [hok] | rfl, rfl, rfl, Hb12.out⟩
    case rest => as_aux_lemma =>
      obtain ⟨rfl, rfl, rfl, rfl, hb13⟩ := hcut
      have Hb13 := hide hb13
      clear hb13 HrV HbV
      go_upto_block 0 with (fail)
      go_cut [] (fun wx => Below W.heap.size W wx)
      case first => as_aux_lemma =>
        go_wp2_with (fail)
        go_loopw [18] (fun i wr => ∃ k : Nat, k ≤ b.refs.length ∧ i = .int .i64 k ∧ Below W.heap.size W wr) (fun i _ => b.refs.length - (intOf i).toNat)
        case atStart => exact ⟨0, Nat.zero_le _, rfl, Hb13.out⟩
        case round => as_aux_lemma =>
          obtain ⟨k, hk, rfl, hb⟩ := hrel
          have c4 : wr.cell? ⟨N, 4, none⟩ = some (.slice AR b.refs.length cR) := cell_of_row _ _ 4 _ _ _ (HR3.out wr hb)
          have HbR := hide hb
          have hn8 : b.refs.length ≤ 8 := Hnr.out
          clear hb
          by_cases hlt : k < b.refs.length
          · obtain ⟨xsR, xsP, hrR, heR, _, _, hT⟩ := BodyC.parts HBW.out
            obtain ⟨bb, off, hA, _, hbl, _⟩ := hrR.at_ (by omega)
            obtain ⟨c, hc, hcl, hrg⟩ := rd_range (hA ▸ hrR) heR rfl (fun p c => RefC.len p c) hlt
            obtain ⟨y, hy⟩ : ∃ y, y = b.refs[k].name := ⟨_, rfl⟩
            obtain ⟨rid, hrid⟩ : ∃ r, r = b.refs[k].id := ⟨_, rfl⟩
            have hce : c = strV y :: encB rid := by rw [hc.1, hy, hrid]
            have hmem : b.refs[k] ∈ b.refs := List.getElem_mem hlt
            have Hwo := hide (show y ≠ x → (atB (withR b.refs x id) y = true ∧ findL (withR b.refs x id) y = rid) ∧ (atB (outR b.refs x) y = true ∧ findL (outR b.refs x) y = rid) from fun hne => by
              rw [hy, hrid]
              exact ⟨with_other b.refs x id Hsrt.out _ hmem (by rw [← hy]; exact hne), out_find b.refs x Hsrt.out _ hmem (by rw [← hy]; exact hne)⟩)
            have Hrg := hide (range_keep hrg (Keep.of_none HbR.out) hbl (fun f => f))
            have hsz := hide (show (Tryz.prog.info? 57).map (·.size) = some c.length by rw [hcl]; kernel_rfl)
            have hst := store_new wr 57 33 c (by kernel_rfl) hcl (fun v hv => RefC.one _ c hc v hv)
            have Hce := hide hce
            subst hA
            clear hrR heR hT hc hrg hce hmem hy hrid hbl
            have hk0 : (0 : Int) ≤ (k : Int) := Int.natCast_nonneg k
            have hj1 : (k : Int) < b.refs.length := Int.ofNat_lt.2 hlt
            go_upto_region 17 with (first
              | (refine wpList_load_mid rfl 57 (.tmp 141) rfl bb (off + k * 33) rfl c _ Hrg.out Tryz.underlying57 rfl hsz.out ?_)
              | fail)
            obtain ⟨X, hX⟩ : ∃ X, X = wr.heap.size := ⟨_, rfl⟩
            obtain ⟨V1, hV1⟩ : ∃ V1 : World, V1 = wr.alloc (.cells c.toArray 57) := ⟨_, rfl⟩
            have hrX : V1.heap[X]? = some (.cells (strV y :: encB rid).toArray 57 (0, 0)) := by rw [hV1, hX, Hce.out]; exact heap_alloc_new _ _
            have hbV1 : Below W.heap.size W V1 := by rw [hV1]; exact HbR.out.alloc HbR.out.size _
            rw [← hV1, ← hX]
            have HrX := hide hrX
            have HbV1 := hide hbV1
            have cX : V1.cell? ⟨X, 0, none⟩ = some (.string ⟨y.toArray⟩) := by rw [cell_of_row _ _ 0 _ _ _ hrX]; rfl
            clear hV1 hX hrX hbV1 hst Hce Hrg hsz c4
            by_cases hyx : y = x
            · have hyx2 : (y == x) = true := by simpa using hyx
              subst hyx
              go_wp2_with (fail)
              exact ⟨⟨k + 1, by omega, by go_num, HbV1.out⟩, by simp [intOf]; omega⟩
            · obtain ⟨⟨hw1, hw2⟩, hw3, hw4⟩ := Hwo.out hyx
              have hyx2 : (y = x) = False := by simpa using hyx
              have hyx3 : (y == x) = false := by simpa using hyx
              have heq : ∀ w : World, (Op.equalIn 10000 49 (.agg (encB rid).toArray) (.agg (encB rid).toArray)).run Tryz.prog w = .ok true w := fun w => eq_arr Tryz.underlying49 rid 9998 w
              have hX1 : X < V1.heap.size := Below.lt_of_row HrX.out
              have her : (encB rid).length = 32 := encB_len _
              have HszR := hide (show (Tryz.prog.info? 49).map (·.size) = some (encB rid).toArray.size by rw [List.size_toArray, encB_len]; kernel_rfl)
              have HszRl := hide (show (Tryz.prog.info? 49).map (·.size) = some (encB rid).length by rw [encB_len]; kernel_rfl)
              clear hyx
              go_upto_region 20 with (first
                | (with_reducible refine wpList_load_row_g (o := ⟨some 148, _, _, _, _, _⟩) (by kernel_rfl) 26 (.tmp 11) rfl M11 rfl 26 #[.int .u64 b.gen, .int .u64 b.epoch, .int .i64 b.writer, .int .u64 b.stamp, .slice AR5 (withR b.refs x id).length cR5, .slice AP5 b.packs.length cP5] (0, 0) _ (HR11.out _ HbV1.out) Tryz.underlying26 rfl Hs11.out ?_)
                | (go_at_call 15; ((with_reducible refine (find_any _ _ _ y _ (HWW.out.below HbV1.out)).mono ?_)); rintro e w18 ⟨rfl, hb18⟩; rw [hw1, hw2]; have Hb18 := hide (HbV1.out.trans (hb18.mono HbV1.out.size)); have hX18 : X < w18.heap.size := (by have h9 := hb18.size; omega); have Hx18 := hide ((hb18.block X hX1).trans HrX.out); have cX18 : w18.cell? ⟨X, 0, none⟩ = some (.string ⟨y.toArray⟩) := (by rw [cell_of_row _ _ 0 _ _ _ Hx18.out]; rfl); have hst18 := store_new w18 49 32 (encB rid) (by kernel_rfl) her (encB_one _); have Hb18a := hide (show ∀ o, Below W.heap.size W (w18.alloc o) from fun o => Hb18.out.alloc Hb18.out.size o); clear hb18 cX)
                | (with_reducible refine wpList_load_row_g (o := ⟨some 155, _, _, _, _, _⟩) (by kernel_rfl) 26 (.tmp 13) rfl M13 rfl 26 #[.int .u64 b.gen, .int .u64 b.epoch, .int .i64 b.writer, .int .u64 b.stamp, .slice AR6 (outR b.refs x).length cR6, .slice AP6 b.packs.length cP6] (0, 0) _ (HR13.out _ (Hb18a.out _)) Tryz.underlying26 rfl Hs13.out ?_)
                | (go_at_call 15; ((with_reducible refine (find_any _ _ _ y _ (HLW.out.below (Hb18a.out _))).mono ?_)); rintro e w19 ⟨rfl, hb19⟩; rw [hw3, hw4]; have Hb19 := hide ((Hb18a.out _).trans (hb19.mono (Hb18a.out _).size)); have h209 := (hb19.block w18.heap.size (by simp)).trans (heap_alloc_new w18 _); have Hr20 := hide h209; have Hx19 := hide ((hb19.block X (by simp; omega)).trans ((Below.heap_alloc w18 _ X hX18).trans Hx18.out)); have hst19 := store_new w19 49 32 (encB rid) (by kernel_rfl) her (encB_one _); clear hb19 cX18 h209 hst18)
                | fail)
              obtain ⟨X20, hX20⟩ : ∃ X, X = w18.heap.size := ⟨_, rfl⟩
              obtain ⟨X22, hX22⟩ : ∃ X, X = w19.heap.size := ⟨_, rfl⟩
              obtain ⟨V2, hV2⟩ : ∃ V2 : World, V2 = w19.alloc (.cells (encB rid).toArray 49) := ⟨_, rfl⟩
              have HbV2 := hide (show Below W.heap.size W V2 by rw [hV2]; exact Hb19.out.alloc Hb19.out.size _)
              have H20 := hide (show V2.heap[X20]? = some (.cells (encB rid).toArray 49 (0, 0)) by rw [hV2, hX20]; exact (Below.heap_alloc _ _ _ (Below.lt_of_row Hr20.out)).trans Hr20.out)
              have H22 := hide (show V2.heap[X22]? = some (.cells (encB rid).toArray 49 (0, 0)) by rw [hV2, hX22]; exact heap_alloc_new _ _)
              have HX1 := hide (show V2.rangeAt X 1 (encB rid) from fun j v hj => by
                have h9 : V2.heap[X]? = some (.cells (strV y :: encB rid).toArray 57 (0, 0)) := by rw [hV2]; exact (Below.heap_alloc _ _ _ (Below.lt_of_row Hx19.out)).trans Hx19.out
                rw [cell_of_row _ _ _ _ _ _ h9, List.getElem?_toArray, Nat.add_comm, List.getElem?_cons_succ]
                exact hj)
              rw [← hV2, ← hX20, ← hX22]
              clear hV2 hX20 hX22 hst19 Hr20 Hx19 Hx18 Hb18 Hb18a Hb19 HrX HbV1 hX1 hX18 hw1 hw2 hw3 hw4 her
              go_wp2_with (first | (with_reducible refine wpList_load_row_g (o := ⟨some 168, _, _, _, _, _⟩) (by kernel_rfl) 49 (.tmp 20) rfl X20 rfl 49 (encB rid).toArray (0, 0) _ (H20.out) Tryz.underlying49 rfl HszR.out ?_) | (with_reducible refine wpList_load_mid_g (o := ⟨some 170, _, _, _, _, _⟩) (by kernel_rfl) 49 (.tmp 169) rfl X 1 rfl (encB rid) _ HX1.out Tryz.underlying49 rfl HszRl.out ?_) | (with_reducible refine wpList_load_row_g (o := ⟨some 174, _, _, _, _, _⟩) (by kernel_rfl) 49 (.tmp 22) rfl X22 rfl 49 (encB rid).toArray (0, 0) _ (H22.out) Tryz.underlying49 rfl HszR.out ?_) | (with_reducible refine wpList_load_mid_g (o := ⟨some 176, _, _, _, _, _⟩) (by kernel_rfl) 49 (.tmp 175) rfl X 1 rfl (encB rid) _ HX1.out Tryz.underlying49 rfl HszRl.out ?_) | fail)
              exact ⟨⟨k + 1, by omega, by go_num, HbV2.out⟩, by simp [intOf]; omega⟩
          · go_wp2_with (fail)
            go_meet
            exact HbR.out
      case rest => as_aux_lemma =>
        have Hb14 := hide hcut
        clear hcut
        have hokp := Hok.out
        simp only [okB, Bool.and_eq_true, decide_eq_true_eq] at hokp
        have Hmany := hide (show (namesOf b.packs).length ≤ 48 from hokp.2.2.2.1)
        have Hnd := hide (show (namesOf b.packs).Nodup from hokp.2.2.2.2)
        have Hnp := hide (show b.packs.length ≤ 12 from hokp.1.2.2.2)
        clear hokp
        obtain ⟨L, hL⟩ : ∃ L, L = (namesOf b.packs).length := ⟨_, rfl⟩
        have HL := hide hL
        have hL48 : L ≤ 48 := by rw [hL]; exact Hmany.out
        clear hL
        go_upto_block 2 with (fail)
        go_cut [24] (fun c wx => c = .int .i64 (L : Nat) ∧ Below W.heap.size W wx)
        case first => as_aux_lemma =>
          go_wp2_with (fail)
          go_loopw [24, 25] (fun c i wr => ∃ k : Nat, k ≤ b.packs.length ∧ i = .int .i64 k ∧ c = .int .i64 ((namesOf (b.packs.take k)).length : Nat) ∧ Below W.heap.size W wr) (fun _ i _ => b.packs.length - (intOf i).toNat)
          case atStart => exact ⟨0, Nat.zero_le _, rfl, rfl, Hb14.out⟩
          case round => as_aux_lemma =>
            obtain ⟨k, hk, rfl, rfl, hb⟩ := hrel
            have c5 : wr.cell? ⟨N, 5, none⟩ = some (.slice AP b.packs.length cP) := cell_of_row _ _ 5 _ _ _ (HR3.out wr hb)
            have HbR := hide hb
            have hn12 : b.packs.length ≤ 12 := Hnp.out
            clear hb
            by_cases hlt : k < b.packs.length
            · obtain ⟨xsR, xsP, _, _, hrP, heP, hT⟩ := BodyC.parts HBW.out
              obtain ⟨bb, off, hA, _, hbl, _⟩ := hrP.at_ (by omega)
              obtain ⟨c, hc, hcl, hrg⟩ := rd_range (hA ▸ hrP) heP rfl (fun p c => PackC.len p c) hlt
              obtain ⟨Ab, capb, bs, hcc, _, _, _, _, _⟩ := hc
              have h33 := (at32 (encB b.packs[k].key) (.int .i64 b.packs[k].count) (.slice Ab b.packs[k].blobs.length capb) (encB_len _)).2
              rw [← hcc] at h33
              have c33 : wr.cell? ⟨bb, off + k * 34 + 33, none⟩ = some (.slice Ab b.packs[k].blobs.length capb) := range_keep hrg (Keep.of_none HbR.out) hbl (fun f => f) 33 _ h33
              obtain ⟨q, hq⟩ : ∃ q, q = b.packs[k].blobs.length := ⟨_, rfl⟩
              obtain ⟨s, hs⟩ : ∃ s, s = (namesOf (b.packs.take k)).length := ⟨_, rfl⟩
              have hnx : (namesOf (b.packs.take (k + 1))).length = s + q := by rw [names_next _ k hlt, List.length_append, List.length_map, hs, hq]
              have hle : (namesOf (b.packs.take (k + 1))).length ≤ 48 := by
                refine Nat.le_trans ?_ Hmany.out
                have e : namesOf b.packs = namesOf (b.packs.take (k + 1)) ++ namesOf (b.packs.drop (k + 1)) := by
                  rw [namesOf, namesOf, namesOf, blobsOf, blobsOf, blobsOf, ← List.map_append, ← List.flatMap_append, List.take_append_drop]
                rw [e, List.length_append]
                omega
              have Hnx := hide hnx
              have hsq : s + q ≤ 48 := by rw [← hnx]; exact hle
              rw [← hq] at c33
              rw [← hs]
              subst hA
              clear hrP heP hT hcc hcl hrg hbl h33 hq hs hnx hle
              have hk0 : (0 : Int) ≤ (k : Int) := Int.natCast_nonneg k
              have hj1 : (k : Int) < b.packs.length := Int.ofNat_lt.2 hlt
              go_wp2_with (fail)
              exact ⟨⟨k + 1, by omega, by go_num, by rw [Hnx.out]; go_num, HbR.out⟩, by simp [intOf]; omega⟩
            · obtain rfl : k = b.packs.length := by omega
              go_wp2_with (fail)
              go_meet
              exact ⟨by rw [List.take_of_length_le (Nat.le_refl _), ← HL.out], HbR.out⟩
        case rest => as_aux_lemma =>
          obtain ⟨rfl, hb15⟩ := hcut
          have Hb15 := hide hb15
          clear hb15 Hb14
          obtain ⟨xsR, xsP, _, _, hrP, heP, hT⟩ := BodyC.parts (HBW.out.below Hb15.out)
          have HrP := hide hrP
          have HeP := hide heP
          have HT := hide hT
          have Hall := hide (show ∀ p ∈ b.packs, p.blobs.length ≤ 48 from fun p hp => by
            refine Nat.le_trans ?_ Hmany.out
            obtain ⟨a, c, e⟩ := List.append_of_mem hp
            rw [e, namesOf, blobsOf, List.length_map, List.flatMap_append, List.length_append, List.flatMap_cons, List.length_append]
            omega)
          clear hrP heP hT
          go_upto_block 4 with (first
            | (with_reducible refine wpList_load_row_g (o := ⟨some 195, _, _, _, _, _⟩) (by kernel_rfl) 26 (.tmp 3) rfl N rfl 26 #[.int .u64 b.gen, .int .u64 b.epoch, .int .i64 b.writer, .int .u64 b.stamp, .slice AR b.refs.length cR, .slice AP b.packs.length cP] (0, 0) _ (HR3.out _ Hb15.out) Tryz.underlying26 rfl HsB.out ?_)
            | (go_at_call 19; ((with_reducible refine (names_any AR AP cR cP b.refs.length b.gen b.epoch b.stamp b.writer b.packs _ _ xsP _ HrP.out HeP.out HT.out Hnp.out Hall.out).mono ?_)); rintro e w27 hsd; obtain ⟨A7, cap7, rfl, hb27, hfull⟩ := hsd; rw [← HL.out] at hfull ⊢; have Hb27 := hide (Hb15.out.trans (hb27.mono Hb15.out.size)); have Hfull := hide hfull; clear hb27 hfull)
            | fail)
          obtain ⟨V, hV⟩ : ∃ V, V = w27 := ⟨_, rfl⟩
          rw [← hV] at Hb27 Hfull ⊢
          clear hV
          go_cut [] (fun wx => Below W.heap.size W wx)
          case first => as_aux_lemma =>
            go_wp2_with (fail)
            go_loopw [27] (fun i wr => ∃ j : Nat, (j < L ∨ j = 0) ∧ i = .int .i64 ((j : Int) + 1) ∧ Keep (fun _ => False) V wr) (fun i _ => L - (intOf i).toNat)
            case atStart => exact ⟨0, .inr rfl, by simp, Keep.refl _ _⟩
            case round => as_aux_lemma =>
              obtain ⟨j, hj, rfl, hK⟩ := hrel
              have HK := hide hK
              have Hj := hide hj
              have hjL : (j : Int) ≤ 48 := by rcases hj with h | h <;> omega
              have hj0 : (0 : Int) ≤ (j : Int) := Int.natCast_nonneg j
              clear hj hK
              by_cases hlt : j + 1 < L
              · obtain ⟨g, d, hA, hg1, hg2, hH, hc1, hc2, hperm, hsort⟩ := Hfull.out (by omega)
                have hds : d.size = L := by rw [← Array.length_toList, hperm.length_eq, HL.out]
                obtain ⟨x1, hx1⟩ : ∃ x, x = d[j]! := ⟨_, rfl⟩
                obtain ⟨x2, hx2⟩ : ∃ x, x = d[j + 1]! := ⟨_, rfl⟩
                have hless : Op.bytesLess x1.toList x2.toList = true := by rw [hx1, hx2]; exact names_rise d _ hperm hsort Hnd.out j (by omega)
                have hrd : ∀ (q : Nat) (hq : q < d.size) (w' : World), Keep (fun _ => False) wr w' → Rd w' (fun _ => True) 1 (some ⟨g, q * 16, none⟩) (d[q]!).toList.length (bytesV (d[q]!).toList) := fun q hq w' hk => by
                  have h9 := range_keep (w' := w') (holds_range hH hq) (HK.out.trans hk) hg2 (fun f => f)
                  refine ⟨by rw [bytesV_length]; simp, fun _ => ⟨g, q * 16, rfl, trivial, Nat.lt_of_lt_of_le hg2 (HK.out.trans hk).size, fun jj hjj => ?_⟩⟩
                  have hl : jj < (bytesV (d[q]!).toList).length := by rw [bytesV_length]; omega
                  rw [List.getElem?_eq_getElem hl]
                  have h8 := h9 jj _ (List.getElem?_eq_getElem (by simpa [encB] using hl))
                  rw [Nat.zero_add] at h8
                  exact h8
                have HRx1 := hide (show ∀ w', Keep (fun _ => False) wr w' → Rd w' (fun _ => True) 1 (some ⟨g, j * 16, none⟩) x1.toList.length (bytesV x1.toList) by rw [hx1]; exact hrd j (by omega))
                have HRx2 := hide (show ∀ w', Keep (fun _ => False) wr w' → Rd w' (fun _ => True) 1 (some ⟨g, (j + 1) * 16, none⟩) x2.toList.length (bytesV x2.toList) by rw [hx2]; exact hrd (j + 1) (by omega))
                subst hA
                have hjl : (j : Int) + 1 < (L : Int) := by omega
                clear hg1 hg2 hH hc1 hperm hsort hds hx1 hx2 hrd
                go_upto_region 31 with (fail)
                obtain ⟨C, hC⟩ : ∃ C : World → Prop, C = Keep (fun _ => False) wr := ⟨_, rfl⟩
                have HCa := hide (show ∀ w', InC C w' → (convert 27 9 (.slice (some ⟨g, j * 16, none⟩) 16 16)).run Tryz.prog w' = .ok (.string ⟨x1.toList.toArray⟩) w' from InC.of fun w' h => by
                  have h9 := run_convert_rd (P := Tryz.prog) w' 27 9 5 Tryz.underlying27 Tryz.underlying5 Tryz.underlying9 (fun _ => True) (some ⟨g, j * 16, none⟩) x1.toList 16 (HRx1.out w' (hC ▸ h))
                  rw [show x1.toList.length = 16 by simp] at h9
                  exact h9)
                have HCb := hide (show ∀ w', InC C w' → (convert 27 9 (.slice (some ⟨g, (j + 1) * 16, none⟩) 16 16)).run Tryz.prog w' = .ok (.string ⟨x2.toList.toArray⟩) w' from InC.of fun w' h => by
                  have h9 := run_convert_rd (P := Tryz.prog) w' 27 9 5 Tryz.underlying27 Tryz.underlying5 Tryz.underlying9 (fun _ => True) (some ⟨g, (j + 1) * 16, none⟩) x2.toList 16 (HRx2.out w' (hC ▸ h))
                  rw [show x2.toList.length = 16 by simp] at h9
                  exact h9)
                have HC0 := hide (show C wr.drew by rw [hC]; exact (Keep.refl _ _).drew)
                haveI : Nonempty (Wl C) := ⟨⟨_, HC0.out⟩⟩
                clear hC
                refine wp_region_mix C (by kernel_rfl) (by kernel_rfl) ?_
                refine Mixed.batch [0, 1, 2, 3, 4, 5, 6, 7, 8, 9, 10, 11] 0 (by kernel_rfl) (by kernel_rfl) (by kernel_rfl) (by kernel_rfl) HC0.out _ (by simp only [List.map_cons, List.map_nil, List.getElem?_toArray, List.getElem?_cons_zero, List.getElem?_cons_succ, Option.getD_some]; rfl) (fun R hR => ?_)
                repeat (first | go_big_quiet_skip | (go_big_quiet_want; first
                  | (refine quiet_convert 27 9 (.tmp 207) rfl _ rfl _ HCa.out ?_; go_simp; go_big_quiet_on)
                  | (refine quiet_convert 27 9 (.tmp 212) rfl _ rfl _ HCb.out ?_; go_simp; go_big_quiet_on)
                  | (go_big_quiet_op; go_big_quiet_on)))
                refine wpQuiet_nil (hR.out _ ?_)
                clear hR R
                refine Mixed.done (by kernel_rfl) ?_
                go_wp2_with (fail)
                exact ⟨⟨j + 1, .inl (by omega), by simp, HK.out.drew⟩, by simp [intOf]; omega⟩
              · go_wp2_with (fail)
                go_meet
                exact Hb27.out.trans ((Keep.none_below HK.out).mono Hb27.out.size)
          case rest => as_aux_lemma =>
            have Hb28 := hide hcut
            clear hcut
            go_wp2_with (first
              | (go_at_call 14; ((with_reducible refine (one_any m _ (HmW.out _ Hb28.out)).mono ?_)); rintro e w29 ⟨rfl, hb29⟩; have Hb29 := hide hb29; clear hb29)
              | fail)
            go_ret
            exact ⟨rfl, HbW.out.trans ((Hb28.out.trans (Hb29.out.mono Hb28.out.size)).mono HbW.out.size)⟩
end Go.Proofs.YtimfmbcihopaaaaGreatDoor
