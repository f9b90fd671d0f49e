/- sha: a block taken in: the walk. -/
import Derived.Test.YtahhglhebcooaaaGreatDoorSha3
namespace Go.Proofs.YtahhglhebcooaaaGreatDoor
open Go.RowKit Go.Cof Go.Tol

theorem list8 (l : List Int) (h : l.length = 8) : ∃ a0 a1 a2 a3 a4 a5 a6 a7, l = [a0, a1, a2, a3, a4, a5, a6, a7] := by
  match l, h with
  | [a0, a1, a2, a3, a4, a5, a6, a7], _ => exact ⟨a0, a1, a2, a3, a4, a5, a6, a7, rfl⟩

def zL : List Value := [.int .u32 0, .int .u32 0, .int .u32 0, .int .u32 0, .int .u32 0, .int .u32 0, .int .u32 0, .int .u32 0, .int .u32 0, .int .u32 0, .int .u32 0, .int .u32 0, .int .u32 0, .int .u32 0, .int .u32 0, .int .u32 0, .int .u32 0, .int .u32 0, .int .u32 0, .int .u32 0, .int .u32 0, .int .u32 0, .int .u32 0, .int .u32 0, .int .u32 0, .int .u32 0, .int .u32 0, .int .u32 0, .int .u32 0, .int .u32 0, .int .u32 0, .int .u32 0, .int .u32 0, .int .u32 0, .int .u32 0, .int .u32 0, .int .u32 0, .int .u32 0, .int .u32 0, .int .u32 0, .int .u32 0, .int .u32 0, .int .u32 0, .int .u32 0, .int .u32 0, .int .u32 0, .int .u32 0, .int .u32 0, .int .u32 0, .int .u32 0, .int .u32 0, .int .u32 0, .int .u32 0, .int .u32 0, .int .u32 0, .int .u32 0, .int .u32 0, .int .u32 0, .int .u32 0, .int .u32 0, .int .u32 0, .int .u32 0, .int .u32 0, .int .u32 0]
theorem zL_length : zL.length = 64 := rfl

/-- What taking a block in leaves. -/
def TakeP (S o : Nat) (cur : List Value) (t : TypeId) (s : List Int) (blk : List UInt8) (w w' : World) (e : Ending) : Prop :=
  e = .returned (.tuple #[]) ∧ w'.heap[S]? = some (.cells (over cur o (u32V (takeW s blk))).toArray t (0, 0)) ∧ Keep (· = S) w w'

set_option maxHeartbeats 8000000 in
set_option maxRecDepth 200000 in
theorem take_any (S o B p : Nat) (t : TypeId) (cur : List Value) (s : List Int) (blk : List UInt8) (w : World) (hs : s.length = 8) (hb : blk.length = 64) (hS : w.heap[S]? = some (.cells cur.toArray t (0, 0)))
    (hcur : (cur.drop o).take 8 = u32V s) (hlen : o + 8 ≤ cur.length) (hr : w.rangeAt B p (bytesV blk)) (hB : B < w.heap.size) :
    Calls Tryz.prog 84 #[.pointer (some ⟨S, o, none⟩), .pointer (some ⟨B, p, none⟩)] w fun e w' => TakeP S o cur t s blk w w' e := by
  have Hs := hide hs
  have Hb := hide hb
  have HS := hide hS
  have Hcur := hide hcur
  have Hlen := hide hlen
  have Hr := hide hr
  have HB := hide hB
  have HSl := hide (blk_lt hS)
  clear hs hb hS hcur hlen hr hB
  have HkF := hide (show (u32V (schedW blk 64)).length = zL.length by rw [u32V_length, schedW_length]; rfl)
  have Hkk := hide (show (u32V kW).length = zL.length by rw [u32V_length]; rfl)
  have HiF := hide (show (Tryz.prog.info? 167).map (·.size) = some (u32V (schedW blk 64)).length by rw [u32V_length, schedW_length]; kernel_rfl)
  have Hik := hide (show (Tryz.prog.info? 167).map (·.size) = some (u32V kW).length by rw [u32V_length]; kernel_rfl)
  have HoF := hide (u32V_one (schedW blk 64))
  have Hok := hide (u32V_one kW)
  obtain ⟨LF, hLF⟩ : ∃ L, L = u32V (schedW blk 64) := ⟨_, rfl⟩
  obtain ⟨Lk, hLk⟩ : ∃ L, L = u32V kW := ⟨_, rfl⟩
  have HLF := hide hLF
  have HLk := hide hLk
  rw [← hLF] at HkF HiF HoF
  rw [← hLk] at Hkk Hik Hok
  clear hLF hLk
  go_enter Tryz.func84, Tryz.ntmps84
  go_upto_region 1 with (first
    | (go_at_call 94; ((with_reducible refine (schedule_any B p blk w Hb.out Hr.out HB.out).mono ?_)); rintro e w2 ⟨rfl, hb2⟩; rw [← HLF.out]; have Hb2 := hide hb2; clear hb2)
    | (go_at_call 95; ((with_reducible refine (constants_any w2).mono ?_)); rintro e w3 ⟨rfl, hb3⟩; rw [← HLk.out]; have Hb3 := hide hb3; clear hb3)
    | (refine wpList_store_all rfl 167 (.tmp 4) (.tmp 16) rfl w3.heap.size zL LF 167 (heap_old (heap_new _ _) _) rfl rfl HkF.out HiF.out HoF.out ?_)
    | (refine wpList_store_all rfl 167 (.tmp 5) (.tmp 17) rfl (w3.heap.size + 1) zL Lk 167 ((setRow_other _ _ _ _ (by omega)).trans (heap_alloc2_new _ _ _)) rfl rfl Hkk.out Hik.out Hok.out ?_)
    | fail)
  obtain ⟨M, hM⟩ : ∃ M, M = w3.heap.size := ⟨_, rfl⟩
  obtain ⟨W, hW⟩ : ∃ W : World, W = (((w3.alloc (.cells #[.int .u32 0, .int .u32 0, .int .u32 0, .int .u32 0, .int .u32 0, .int .u32 0, .int .u32 0, .int .u32 0, .int .u32 0, .int .u32 0, .int .u32 0, .int .u32 0, .int .u32 0, .int .u32 0, .int .u32 0, .int .u32 0, .int .u32 0, .int .u32 0, .int .u32 0, .int .u32 0, .int .u32 0, .int .u32 0, .int .u32 0, .int .u32 0, .int .u32 0, .int .u32 0, .int .u32 0, .int .u32 0, .int .u32 0, .int .u32 0, .int .u32 0, .int .u32 0, .int .u32 0, .int .u32 0, .int .u32 0, .int .u32 0, .int .u32 0, .int .u32 0, .int .u32 0, .int .u32 0, .int .u32 0, .int .u32 0, .int .u32 0, .int .u32 0, .int .u32 0, .int .u32 0, .int .u32 0, .int .u32 0, .int .u32 0, .int .u32 0, .int .u32 0, .int .u32 0, .int .u32 0, .int .u32 0, .int .u32 0, .int .u32 0, .int .u32 0, .int .u32 0, .int .u32 0, .int .u32 0, .int .u32 0, .int .u32 0, .int .u32 0, .int .u32 0] 167)).alloc (.cells #[.int .u32 0, .int .u32 0, .int .u32 0, .int .u32 0, .int .u32 0, .int .u32 0, .int .u32 0, .int .u32 0, .int .u32 0, .int .u32 0, .int .u32 0, .int .u32 0, .int .u32 0, .int .u32 0, .int .u32 0, .int .u32 0, .int .u32 0, .int .u32 0, .int .u32 0, .int .u32 0, .int .u32 0, .int .u32 0, .int .u32 0, .int .u32 0, .int .u32 0, .int .u32 0, .int .u32 0, .int .u32 0, .int .u32 0, .int .u32 0, .int .u32 0, .int .u32 0, .int .u32 0, .int .u32 0, .int .u32 0, .int .u32 0, .int .u32 0, .int .u32 0, .int .u32 0, .int .u32 0, .int .u32 0, .int .u32 0, .int .u32 0, .int .u32 0, .int .u32 0, .int .u32 0, .int .u32 0, .int .u32 0, .int .u32 0, .int .u32 0, .int .u32 0, .int .u32 0, .int .u32 0, .int .u32 0, .int .u32 0, .int .u32 0, .int .u32 0, .int .u32 0, .int .u32 0, .int .u32 0, .int .u32 0, .int .u32 0, .int .u32 0, .int .u32 0] 167)).setRow w3.heap.size LF.toArray).setRow (w3.heap.size + 1) Lk.toArray := ⟨_, rfl⟩
  have hb3 : Below w.heap.size w w3 := Hb2.out.trans (Hb3.out.mono Hb2.out.size)
  have hbW : Below w.heap.size w W := by
    rw [hW]
    exact below_setRow (below_setRow ((hb3.alloc hb3.size _).alloc (by simp; have := hb3.size; omega) _) hb3.size _) (by have := hb3.size; omega) _
  have hWF : Words W M (schedW blk 64) 167 := by
    show W.heap[M]? = _
    rw [hM, hW, ← HLF.out]
    exact (setRow_other _ _ _ _ (by omega)).trans (setRow_heap _ _ _ _ _ _ (heap_old (heap_new _ _) _))
  have hWk : Words W (M + 1) kW 167 := by
    show W.heap[M + 1]? = _
    rw [hM, hW, ← HLk.out]
    exact setRow_heap _ _ _ _ _ _ ((setRow_other _ _ _ _ (by omega)).trans (heap_alloc2_new _ _ _))
  have hWz : W.heap.size = M + 2 := by rw [hW, hM]; simp [World.setRow]
  have hMw : w.heap.size ≤ M := by rw [hM]; exact hb3.size
  rw [← hW, ← hM]
  have HbW := hide hbW
  have HWF := hide hWF
  have HWk := hide hWk
  have HWz := hide hWz
  have HMw := hide hMw
  clear hW hM hb3 hbW hWF hWk hWz hMw HkF HiF HoF Hkk Hik Hok HLF HLk Hb2 Hb3
  obtain ⟨Ls, hLs⟩ : ∃ L, L = u32V s := ⟨_, rfl⟩
  have HLs := hide hLs
  have hLl : Ls.length = 8 := by rw [hLs, u32V_length, Hs.out]
  have Hr8 := hide (show W.rangeAt S o Ls from range_at (part_range HS.out (by rw [hLl, Hcur.out, hLs])) (Keep.of_none HbW.out) HSl.out (fun f => f))
  have Hi8 := hide (show (Tryz.prog.info? 150).map (·.size) = some Ls.length by rw [hLl]; kernel_rfl)
  have Ho8 := hide (show ∀ v ∈ Ls, v.oneCell' = true by rw [hLs]; exact u32V_one _)
  have Hl8 := hide hLl
  clear hLs hLl
  go_upto_region 2 with (first
    | (refine wpList_load_mid rfl 150 (.tmp 19) rfl S o rfl Ls _ Hr8.out Tryz.underlying150 rfl Hi8.out ?_)
    | (refine wpList_store_all rfl 150 (.tmp 6) (.tmp 20) rfl W.heap.size [.int .u32 0, .int .u32 0, .int .u32 0, .int .u32 0, .int .u32 0, .int .u32 0, .int .u32 0, .int .u32 0] Ls 150 (heap_new _ _) rfl rfl Hl8.out Hi8.out Ho8.out ?_)
    | fail)
  obtain ⟨V, hV⟩ : ∃ V : World, V = (W.alloc (.cells #[.int .u32 0, .int .u32 0, .int .u32 0, .int .u32 0, .int .u32 0, .int .u32 0, .int .u32 0, .int .u32 0] 150)).setRow W.heap.size Ls.toArray := ⟨_, rfl⟩
  have hbV : Below W.heap.size W V := by rw [hV]; exact below_setRow ((Below.refl _ _).alloc (Nat.le_refl _) _) (Nat.le_refl _) _
  have hVs : V.heap[M + 2]? = some (.cells (u32V s).toArray 150 (0, 0)) := by
    rw [hV, ← HLs.out, ← HWz.out]
    exact setRow_heap _ _ _ _ _ _ (heap_new _ _)
  rw [← hV, HWz.out]
  have HbV := hide (HbW.out.trans (hbV.mono HbW.out.size))
  have HVF := hide (show Words V M (schedW blk 64) 167 from (hbV.block M (by have := HWz.out; omega)).trans HWF.out)
  have HVk := hide (show Words V (M + 1) kW 167 from (hbV.block (M + 1) (by have := HWz.out; omega)).trans HWk.out)
  have HVs := hide hVs
  have HVz := hide (show V.heap.size = M + 3 by rw [hV]; simp [World.setRow, HWz.out])
  have HVS := hide (show V.heap[S]? = some (.cells cur.toArray t (0, 0)) from (HbV.out.block S HSl.out).trans HS.out)
  clear hV hbV hVs HLs Hr8 Hi8 Ho8 Hl8 HbW HWF HWk HWz
  obtain ⟨F, hF⟩ : ∃ F, F = schedW blk 64 := ⟨_, rfl⟩
  have HFe := hide hF
  have HFl := hide (show F.length = 64 by rw [hF, schedW_length])
  rw [← hF] at HVF
  clear hF
  go_upto_block 0 with (fail)
  go_cut [] (fun wx => wx.heap[M + 2]? = some (.cells (u32V (roundsW F s 64)).toArray 150 (0, 0)) ∧ Keep (· = M + 2) V wx)
  case first => as_aux_lemma =>
    go_wp2_with (fail)
    go_loopw [21] (fun i wr => ∃ t : Nat, t ≤ 64 ∧ i = .int .i64 t ∧ wr.heap[M + 2]? = some (.cells (u32V (roundsW F s t)).toArray 150 (0, 0)) ∧ Keep (· = M + 2) V wr) (fun i _ => 64 - (intOf i).toNat)
    case atStart => exact ⟨0, by omega, rfl, HVs.out, Keep.refl _ _⟩
    case round => as_aux_lemma =>
      obtain ⟨t, ht, rfl, hA, hK⟩ := hrel
      have HK := hide hK
      obtain ⟨a0, a1, a2, a3, a4, a5, a6, a7, hl⟩ := list8 (roundsW F s t) (roundsW_length _ _ Hs.out t)
      have HR := hide hl
      have HA := hide (show wr.heap[M + 2]? = some (.cells [.int .u32 a0, .int .u32 a1, .int .u32 a2, .int .u32 a3, .int .u32 a4, .int .u32 a5, .int .u32 a6, .int .u32 a7].toArray 150 (0, 0)) by rw [hA, hl]; rfl)
      clear hA hl hK
      by_cases h64 : t < 64
      · skip
        obtain ⟨k, hk⟩ : ∃ x, x = kW[t]! := ⟨_, rfl⟩
        obtain ⟨x, hx⟩ : ∃ x, x = F[t]! := ⟨_, rfl⟩
        have ck : wr.cell? ⟨M + 1, t, none⟩ = some (.int .u32 k) := by rw [hk]; exact cell_at _ (HVk.out.cell t (by rw [kW_length]; exact h64)) (by show ¬ M + 1 = M + 2; omega) wr HK.out
        have cx : wr.cell? ⟨M, t, none⟩ = some (.int .u32 x) := by rw [hx]; exact cell_at _ (HVF.out.cell t (by rw [HFl.out]; exact h64)) (by show ¬ M = M + 2; omega) wr HK.out
        have c0 : wr.cell? ⟨M + 2, 0, none⟩ = some (.int .u32 a0) := by rw [blk_cell HA.out]; rfl
        have f0 : wr.frozen? ⟨M + 2, 0, none⟩ = false := frozen_of_row _ _ _ _ _ HA.out
        have c1 : wr.cell? ⟨M + 2, 1, none⟩ = some (.int .u32 a1) := by rw [blk_cell HA.out]; rfl
        have f1 : wr.frozen? ⟨M + 2, 1, none⟩ = false := frozen_of_row _ _ _ _ _ HA.out
        have c2 : wr.cell? ⟨M + 2, 2, none⟩ = some (.int .u32 a2) := by rw [blk_cell HA.out]; rfl
        have f2 : wr.frozen? ⟨M + 2, 2, none⟩ = false := frozen_of_row _ _ _ _ _ HA.out
        have c4 : wr.cell? ⟨M + 2, 4, none⟩ = some (.int .u32 a4) := by rw [blk_cell HA.out]; rfl
        have f4 : wr.frozen? ⟨M + 2, 4, none⟩ = false := frozen_of_row _ _ _ _ _ HA.out
        have c5 : wr.cell? ⟨M + 2, 5, none⟩ = some (.int .u32 a5) := by rw [blk_cell HA.out]; rfl
        have f5 : wr.frozen? ⟨M + 2, 5, none⟩ = false := frozen_of_row _ _ _ _ _ HA.out
        have c6 : wr.cell? ⟨M + 2, 6, none⟩ = some (.int .u32 a6) := by rw [blk_cell HA.out]; rfl
        have f6 : wr.frozen? ⟨M + 2, 6, none⟩ = false := frozen_of_row _ _ _ _ _ HA.out
        have c7 : wr.cell? ⟨M + 2, 7, none⟩ = some (.int .u32 a7) := by rw [blk_cell HA.out]; rfl
        have f7 : wr.frozen? ⟨M + 2, 7, none⟩ = false := frozen_of_row _ _ _ _ _ HA.out
        have Hn := hide (show roundsW F s (t + 1) = [(xV a4 a5 a6 a7 k x + yV a0 a1 a2) % 4294967296, a0, a1, a2, (a3 + xV a4 a5 a6 a7 k x) % 4294967296, a4, a5, a6] by rw [roundsW, HR.out, hk, hx]; rfl)
        clear hk hx
        go_wp2_with (fail)
        go_quiet (fail)
        go_upto_region 8 with (fail)
        obtain ⟨C, hC⟩ : ∃ C : World → Prop, C = Keep (fun _ => False) wr := ⟨_, rfl⟩
        have HCe := hide hC
        have HC7 := hide (show ∀ w', InC C w' → w'.cell? ⟨M + 2, 7, none⟩ = some (.int .u32 a7) from InC.of fun w' h => keep_cell c7 (fun f => f) w' (hC ▸ h))
        have HCk := hide (show ∀ w', InC C w' → w'.cell? ⟨M + 1, t, none⟩ = some (.int .u32 k) from InC.of fun w' h => keep_cell ck (fun f => f) w' (hC ▸ h))
        have HCx := hide (show ∀ w', InC C w' → w'.cell? ⟨M, t, none⟩ = some (.int .u32 x) from InC.of fun w' h => keep_cell cx (fun f => f) w' (hC ▸ h))
        have HC0 := hide (show C (wr.drewN nq).drew by rw [hC]; exact ((Keep.refl _ _).drewN _).drew)
        haveI : Nonempty (Wl C) := ⟨⟨_, HC0.out⟩⟩
        clear hC
        refine wp_region_mix C (by kernel_rfl) (by kernel_rfl) ?_
        refine Mixed.batch [0, 1, 2, 4, 7, 11, 13, 14, 15, 17, 18, 19] 10 (by kernel_rfl) (by kernel_rfl) (by kernel_rfl) (by kernel_rfl) HC0.out _ (by simp only [List.map_cons, List.map_nil, List.getElem?_toArray, List.getElem?_cons_zero, List.getElem?_cons_succ, Option.getD_some]; rfl) (fun R hR => ?_)
        repeat (first | go_big_quiet_skip | (go_big_quiet_want; first
          | (refine quiet_load 148 (.tmp 50) rfl ⟨M + 2, 7, none⟩ rfl _ HC7.out _ Tryz.underlying148 rfl ?_; go_simp; go_big_quiet_on)
          | (refine quiet_load 148 (.tmp 64) rfl ⟨M + 1, t, none⟩ rfl _ HCk.out _ Tryz.underlying148 rfl ?_; go_simp; go_big_quiet_on)
          | (refine quiet_load 148 (.tmp 68) rfl ⟨M, t, none⟩ rfl _ HCx.out _ Tryz.underlying148 rfl ?_; go_simp; go_big_quiet_on)
          | (go_big_quiet_op; go_big_quiet_on)))
        refine wpQuiet_nil (hR.out _ ?_)
        clear hR R
        refine Mixed.one 3 9 (by kernel_rfl) (by kernel_rfl) (by simp only [List.getElem?_toArray, List.getElem?_cons_zero, List.getElem?_cons_succ]; rfl) (fun K hK => ?_)
        go_simp
        go_at_call 96
        refine (turned6 _ _).mono ?_
        rintro e w' ⟨rfl, rfl⟩
        refine hK.out _ _ (fun _ => HC0.out) ?_
        clear hK K
        try simp only [Act.put, List.setIfInBounds_toArray, List.set_cons_zero, List.set_cons_succ]
        refine Mixed.one 5 8 (by kernel_rfl) (by kernel_rfl) (by simp only [List.getElem?_toArray, List.getElem?_cons_zero, List.getElem?_cons_succ]; rfl) (fun K hK => ?_)
        go_simp
        go_at_call 96
        refine (turned11 _ _).mono ?_
        rintro e w' ⟨rfl, rfl⟩
        refine hK.out _ _ (fun _ => HC0.out) ?_
        clear hK K
        try simp only [Act.put, List.setIfInBounds_toArray, List.set_cons_zero, List.set_cons_succ]
        refine Mixed.batch [6] 7 (by kernel_rfl) (by kernel_rfl) (by kernel_rfl) (by kernel_rfl) HC0.out _ (by simp only [List.map_cons, List.map_nil, List.getElem?_toArray, List.getElem?_cons_zero, List.getElem?_cons_succ, Option.getD_some]; rfl) (fun R hR => ?_)
        repeat (first | go_big_quiet_skip | (go_big_quiet_want; first
          | (go_big_quiet_op; go_big_quiet_on)))
        refine wpQuiet_nil (hR.out _ ?_)
        clear hR R
        refine Mixed.one 8 6 (by kernel_rfl) (by kernel_rfl) (by simp only [List.getElem?_toArray, List.getElem?_cons_zero, List.getElem?_cons_succ]; rfl) (fun K hK => ?_)
        go_simp
        go_at_call 96
        refine (turned25 _ _).mono ?_
        rintro e w' ⟨rfl, rfl⟩
        refine hK.out _ _ (fun _ => HC0.out) ?_
        clear hK K
        try simp only [Act.put, List.setIfInBounds_toArray, List.set_cons_zero, List.set_cons_succ]
        refine Mixed.batch [9, 10, 12, 16, 20, 21] 0 (by kernel_rfl) (by kernel_rfl) (by kernel_rfl) (by kernel_rfl) HC0.out _ (by simp only [List.map_cons, List.map_nil, List.getElem?_toArray, List.getElem?_cons_zero, List.getElem?_cons_succ, Option.getD_some]; rfl) (fun R hR => ?_)
        repeat (first | go_big_quiet_skip | (go_big_quiet_want; first
          | (go_big_quiet_op; go_big_quiet_on)))
        refine wpQuiet_nil (hR.out _ ?_)
        clear hR R
        refine Mixed.done (by kernel_rfl) ?_
        obtain ⟨X, hX⟩ : ∃ X, X = xV a4 a5 a6 a7 k x := ⟨_, rfl⟩
        have hXe : (a7 + bits .xor .u32 (bits .xor .u32 (rotV a4 26) (rotV a4 21)) (rotV a4 7) + bits .xor .u32 a6 (bits .and .u32 a4 (bits .xor .u32 a5 a6)) + k + x) % 4294967296 = X := by rw [hX]; rfl
        simp only [Int.emod_add_emod]
        rw [hXe]
        rw [← hX] at Hn
        clear hX hXe
        go_upto_region 10 with (first | (go_at_call 96; ((with_reducible refine (turned2 _ _).mono ?_)); rintro e w' ⟨rfl, rfl⟩) | (go_at_call 96; ((with_reducible refine (turned13 _ _).mono ?_)); rintro e w' ⟨rfl, rfl⟩) | (go_at_call 96; ((with_reducible refine (turned22 _ _).mono ?_)); rintro e w' ⟨rfl, rfl⟩) | fail)
        obtain ⟨Y, hY⟩ : ∃ Y, Y = yV a0 a1 a2 := ⟨_, rfl⟩
        have hYe : (bits .xor .u32 (bits .xor .u32 (rotV a0 30) (rotV a0 19)) (rotV a0 10) + bits .or .u32 (bits .and .u32 a0 a1) (bits .and .u32 a2 (bits .or .u32 a0 a1))) % 4294967296 = Y := by rw [hY]; rfl
        try simp only [Int.emod_add_emod]
        rw [hYe]
        rw [← hY] at Hn
        clear hY hYe
        have HC1 := hide (show C (wr.drewN (nq + 1)).drew by have h := HCe.out; rw [h]; exact ((Keep.refl _ _).drewN _).drew)
        refine wp_region_mix C (by kernel_rfl) (by kernel_rfl) ?_
        refine Mixed.batch [0, 1] 1 (by kernel_rfl) (by kernel_rfl) (by kernel_rfl) (by kernel_rfl) HC1.out _ (by simp only [List.map_cons, List.map_nil, List.getElem?_toArray, List.getElem?_cons_zero, List.getElem?_cons_succ, Option.getD_some]; rfl) (fun R hR => ?_)
        repeat (first | go_big_quiet_skip | (go_big_quiet_want; first
          | (go_big_quiet_op; go_big_quiet_on)))
        refine wpQuiet_nil (hR.out _ ?_)
        clear hR R
        refine Mixed.one 2 0 (by kernel_rfl) (by kernel_rfl) (by simp only [List.getElem?_toArray, List.getElem?_cons_zero, List.getElem?_cons_succ]; rfl) (fun K hK => ?_)
        refine step_copy_sz _ rfl (.tmp 81) (.tmp 82) 171 171 rfl 148 1 Tryz.underlying171 (by kernel_rfl) (by decide) (some ⟨M + 2, 1, none⟩) (some ⟨M + 2, 0, none⟩) 7 7 7 8 rfl rfl (M + 2) 1 [.int .u32 a0, .int .u32 a1, .int .u32 a2, .int .u32 a3, .int .u32 a4, .int .u32 a5, .int .u32 a6, .int .u32 a7] 150 HA.out [.int .u32 a0, .int .u32 a1, .int .u32 a2, .int .u32 a3, .int .u32 a4, .int .u32 a5, .int .u32 a6] 7 rfl rfl (fun _ => ⟨rfl, _, rfl, fun j v hj => by
          rw [Addr.add_mid, Nat.zero_add]
          have h1 := blk_cell HA.out j
          refine h1.trans ?_
          have hj7 : j < 7 := (List.getElem?_eq_some_iff.1 hj).1
          rw [← hj, show ([.int .u32 a0, .int .u32 a1, .int .u32 a2, .int .u32 a3, .int .u32 a4, .int .u32 a5, .int .u32 a6, .int .u32 a7] : List Value) = [.int .u32 a0, .int .u32 a1, .int .u32 a2, .int .u32 a3, .int .u32 a4, .int .u32 a5, .int .u32 a6] ++ [.int .u32 a7] from rfl, List.getElem?_append_left hj7]⟩) (by simp) (by intro v hv; simp only [List.mem_cons, List.not_mem_nil, or_false] at hv; rcases hv with rfl | rfl | rfl | rfl | rfl | rfl | rfl <;> rfl) ?_
        intro wb hgb hkb
        have HKb := hide hkb
        refine hK.out _ _ (fun h => absurd rfl h) ?_
        clear hK K
        refine Mixed.done (by kernel_rfl) ?_
        have HB := hide (show wb.heap[M + 2]? = some (.cells [.int .u32 a0, .int .u32 a0, .int .u32 a1, .int .u32 a2, .int .u32 a3, .int .u32 a4, .int .u32 a5, .int .u32 a6].toArray 150 (0, 0)) from hgb)
        clear hkb hgb
        clear c0 c1 c2 c4 c5 c6 c7 f0 f1 f2 f4 f5 f6 f7 ck cx
        have c4 : wb.cell? ⟨M + 2, 4, none⟩ = some (.int .u32 a3) := by rw [blk_cell HB.out]; rfl
        have f4 : wb.frozen? ⟨M + 2, 4, none⟩ = false := frozen_of_row _ _ _ _ _ HB.out
        have c0 : wb.cell? ⟨M + 2, 0, none⟩ = some (.int .u32 a0) := by rw [blk_cell HB.out]; rfl
        have f0 : wb.frozen? ⟨M + 2, 0, none⟩ = false := frozen_of_row _ _ _ _ _ HB.out
        go_wp2_with (fail)
        refine ⟨⟨t + 1, by omega, by go_num, ?_, ?_⟩, by simp [intOf]; omega⟩
        · rw [Hn.out]
          exact heap_setCell_same _ _ _ _ _ _ (heap_setCell_same _ _ _ _ _ _ HB.out)
        · exact (((HK.out.drewN _).drew.trans HKb.out).setCell (fun _ => rfl) _).setCell (fun _ => rfl) _
      · obtain rfl : t = 64 := by omega
        go_wp2_with (fail)
        go_meet
        exact ⟨by rw [HR.out]; exact HA.out, HK.out⟩
  case rest => as_aux_lemma =>
    obtain ⟨hR, hK⟩ := hcut
    obtain ⟨R, hRe⟩ : ∃ R, R = roundsW F s 64 := ⟨_, rfl⟩
    have HRe := hide hRe
    have HRl := hide (show R.length = 8 by rw [hRe]; exact roundsW_length _ _ Hs.out _)
    rw [← hRe] at hR
    have hSM : S ≠ M + 2 := by have h1 := HSl.out; have h2 := HMw.out; omega
    have HR := hide hR
    have HK := hide (hK.mono (G := fun j => j = M + 2 ∨ j = S) (fun _ _ h => .inl h))
    have HcS := hide (show wc.heap[S]? = some (.cells cur.toArray t (0, 0)) from (hK.block S (blk_lt HVS.out) hSM).trans HVS.out)
    have HSM := hide hSM
    clear hRe hR hK hSM HVF HVk HVs
    go_wp2_with (fail)
    go_loopw [94] (fun i wr => ∃ q : Nat, q ≤ 8 ∧ i = .int .i64 q ∧ wr.heap[S]? = some (.cells (over cur o (u32V (sumW s R q))).toArray t (0, 0)) ∧ wr.heap[M + 2]? = some (.cells (u32V R).toArray 150 (0, 0)) ∧ Keep (fun j => j = M + 2 ∨ j = S) V wr) (fun i _ => 8 - (intOf i).toNat)
    case atStart => exact ⟨0, by omega, rfl, by rw [sumW, over_self cur (u32V s) o (by rw [u32V_length, Hs.out]; exact Hcur.out)]; exact HcS.out, HR.out, HK.out⟩
    case round => as_aux_lemma =>
      obtain ⟨q, hq, rfl, hA, hB, hk⟩ := hrel
      have HA := hide hA
      have HB := hide hB
      have Hk := hide hk
      clear hA hB hk
      by_cases h8 : q < 8
      · obtain ⟨y, hy⟩ : ∃ x, x = s[q]! := ⟨_, rfl⟩
        obtain ⟨x, hx⟩ : ∃ x, x = R[q]! := ⟨_, rfl⟩
        have hsl : (u32V (sumW s R q)).length = 8 := by rw [u32V_length, sumW_length, Hs.out]
        have cS : wr.cell? ⟨S, o + q, none⟩ = some (.int .u32 y) := by rw [blk_cell HA.out, over_get _ _ _ _ (by omega) (by have := Hlen.out; omega), u32V_get _ _ (by rw [sumW_length, Hs.out]; exact h8), sumW_at _ _ _ _ (Nat.le_refl _), hy]
        have cR : wr.cell? ⟨M + 2, q, none⟩ = some (.int .u32 x) := by rw [blk_cell HB.out, u32V_get _ _ (by rw [HRl.out]; exact h8), hx]
        have fS : wr.frozen? ⟨S, o + q, none⟩ = false := frozen_of_row _ _ _ _ _ HA.out
        have Hn := hide (show over cur o (u32V (sumW s R (q + 1))) = (over cur o (u32V (sumW s R q))).set (o + q) (.int .u32 ((y + x) % 4294967296)) by
          rw [over_set _ _ _ _ _ (by omega) (by have := Hlen.out; omega), u32V_set, sumW, sumW_at _ _ _ _ (Nat.le_refl _), hy, hx])
        clear hy hx hsl
        go_wp2_with (fail)
        go_still_tail 11, (by kernel_rfl)
        go_wp2_with (fail)
        refine ⟨⟨q + 1, by omega, by go_num, ?_, ?_, ?_⟩, by simp [intOf]; omega⟩
        · rw [Hn.out]; exact heap_set (w := wr.drew) HA.out (o + q) _
        · exact (heap_setCell_other wr.drew ⟨S, o + q, none⟩ (M + 2) _ (fun e => HSM.out e.symm)).trans HB.out
        · exact (Hk.out.drew).setCell (fun _ => .inr rfl) _
      · obtain rfl : q = 8 := by omega
        go_wp2_with (fail)
        refine bodyPost_end (results_none rfl _ _ _) rfl ?_
        refine ⟨rfl, ?_, ?_⟩
        · rw [takeW, ← HFe.out, ← HRe.out]; exact HA.out
        · exact ((Keep.of_none HbV.out).mono (fun _ _ f => f.elim)).step Hk.out (fun i h hi => by
            rcases h with h | h
            · have := HMw.out; omega
            · exact h)
end Go.Proofs.YtahhglhebcooaaaGreatDoor
