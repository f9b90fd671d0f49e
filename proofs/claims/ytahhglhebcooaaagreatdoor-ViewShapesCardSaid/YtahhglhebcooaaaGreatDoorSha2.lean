/- sha: the words of a block's rounds. -/
import Derived.Test.YtahhglhebcooaaaGreatDoorTool
import Derived.Test.YtahhglhebcooaaaGreatDoorSha1
import Derived.Test.YtahhglhebcooaaaGreatDoorMix
namespace Go.Proofs.YtahhglhebcooaaaGreatDoor
open Go.RowKit Go.Cof Go.Tol

/-- Words as cells. -/
def u32V (l : List Int) : List Value := l.map (.int .u32)
theorem u32V_length (l : List Int) : (u32V l).length = l.length := by simp [u32V]
theorem u32V_one (l : List Int) : ∀ u ∈ u32V l, u.oneCell' = true := by
  intro u hu
  obtain ⟨a, _, rfl⟩ := List.mem_map.1 hu
  rfl
theorem u32V_set (l : List Int) (k : Nat) (x : Int) : (u32V l).set k (.int .u32 x) = u32V (l.set k x) := by simp [u32V, List.map_set]
theorem u32V_get (l : List Int) (k : Nat) (h : k < l.length) : (u32V l)[k]? = some (.int .u32 l[k]!) := by
  simp [u32V, List.getElem?_eq_getElem h, getElem!_pos l k h]

def zerosW : List Int := List.replicate 64 0
/-- A word of four bytes. -/
def wordV (l : List UInt8) : Int := l.foldl (fun a c => bits .or .u32 (a * 256 % 4294967296) c.toNat) 0
theorem wordV_snoc (l : List UInt8) (c : UInt8) : wordV (l ++ [c]) = bits .or .u32 (wordV l * 256 % 4294967296) c.toNat := by simp [wordV]
def lowV (x : Int) : Int := bits .xor .u32 (bits .xor .u32 (rotV x 25) (rotV x 14)) (x / 8)
def highV (x : Int) : Int := bits .xor .u32 (bits .xor .u32 (rotV x 15) (rotV x 13)) (x / 1024)
/-- The word of a round, out of those ahead. -/
def nextW (blk : List UInt8) (F : List Int) (t : Nat) : Int :=
  if t < 16 then wordV ((blk.drop (4 * t)).take 4) else (F[t - 16]! + lowV F[t - 15]! + F[t - 7]! + highV F[t - 2]!) % 4294967296
def schedW (blk : List UInt8) : Nat → List Int
  | 0 => zerosW
  | t + 1 => (schedW blk t).set t (nextW blk (schedW blk t) t)
theorem schedW_length (blk : List UInt8) : ∀ t, (schedW blk t).length = 64
  | 0 => rfl
  | t + 1 => by rw [schedW, List.length_set, schedW_length blk t]
theorem schedW_zero (blk : List UInt8) : ∀ t i, t ≤ i → i < 64 → (schedW blk t)[i]! = 0
  | 0, i, _, h => by rw [schedW, zerosW, getElem!_pos _ i (by rw [List.length_replicate]; exact h), List.getElem_replicate]
  | t + 1, i, ht, h => by
    rw [schedW, getElem!_pos _ i (by rw [List.length_set, schedW_length]; exact h), List.getElem_set, if_neg (by omega), ← getElem!_pos _ i (by rw [schedW_length]; exact h)]
    exact schedW_zero blk t i (by omega) h

/-- A block of words. -/
def Words (w : World) (g : Nat) (F : List Int) (t : TypeId) : Prop := w.heap[g]? = some (.cells (u32V F).toArray t (0, 0))
theorem Words.row {w : World} {g : Nat} {F : List Int} {t : TypeId} (h : Words w g F t) : w.heap[g]? = some (.cells (u32V F).toArray t (0, 0)) := h
theorem Words.cell {w : World} {g : Nat} {F : List Int} {t : TypeId} (h : Words w g F t) (k : Nat) (hk : k < F.length) : w.cell? ⟨g, k, none⟩ = some (.int .u32 F[k]!) := by
  rw [blk_cell h, u32V_get F k hk]

theorem below_drewN {N : Nat} {w w' : World} (h : Below N w w') (q : Nat) : Below N w (w'.drewN q) := ⟨h.os, h.tape, h.output, h.size, h.block⟩

set_option maxHeartbeats 4000000 in
set_option maxRecDepth 100000 in
theorem schedule_any (B o : Nat) (blk : List UInt8) (w : World) (hb : blk.length = 64) (hr : w.rangeAt B o (bytesV blk)) (hB : B < w.heap.size) :
    Calls Tryz.prog 94 #[.pointer (some ⟨B, o, none⟩)] w fun e w' => e = .returned (.agg (u32V (schedW blk 64)).toArray) ∧ Below w.heap.size w w' := by
  have Hr := hide hr
  have Hb := hide hb
  obtain ⟨N, hN⟩ : ∃ N, N = w.heap.size := ⟨_, rfl⟩
  have HN := hide hN
  clear hr hb hN
  go_enter Tryz.func94, Tryz.ntmps94
  go_upto_region 2 with (fail)
  rw [← HN.out]
  have hz : (#[.int .u32 0, .int .u32 0, .int .u32 0, .int .u32 0, .int .u32 0, .int .u32 0, .int .u32 0, .int .u32 0, .int .u32 0, .int .u32 0, .int .u32 0, .int .u32 0, .int .u32 0, .int .u32 0, .int .u32 0, .int .u32 0, .int .u32 0, .int .u32 0, .int .u32 0, .int .u32 0, .int .u32 0, .int .u32 0, .int .u32 0, .int .u32 0, .int .u32 0, .int .u32 0, .int .u32 0, .int .u32 0, .int .u32 0, .int .u32 0, .int .u32 0, .int .u32 0, .int .u32 0, .int .u32 0, .int .u32 0, .int .u32 0, .int .u32 0, .int .u32 0, .int .u32 0, .int .u32 0, .int .u32 0, .int .u32 0, .int .u32 0, .int .u32 0, .int .u32 0, .int .u32 0, .int .u32 0, .int .u32 0, .int .u32 0, .int .u32 0, .int .u32 0, .int .u32 0, .int .u32 0, .int .u32 0, .int .u32 0, .int .u32 0, .int .u32 0, .int .u32 0, .int .u32 0, .int .u32 0, .int .u32 0, .int .u32 0, .int .u32 0, .int .u32 0] : Array Value) = (u32V zerosW).toArray := by kernel_rfl
  rw [hz]
  obtain ⟨W1, hW1⟩ : ∃ W : World, W = (w.alloc (.cells (u32V zerosW).toArray 167)).alloc (.cells (u32V zerosW).toArray 167) := ⟨_, rfl⟩
  have hbw : Below w.heap.size w W1 := by rw [hW1]; exact ((Below.refl _ _).alloc (Nat.le_refl _) _).alloc (by simp) _
  have hr0 : W1.heap[N]? = some (.cells (u32V zerosW).toArray 167 (0, 0)) := by rw [hW1, HN.out]; exact heap_old (heap_new _ _) _
  have hr1 : Words W1 (N + 1) zerosW 167 := by
    have h1 := heap_new (w.alloc (.cells (u32V zerosW).toArray 167)) (.cells (u32V zerosW).toArray 167)
    rw [show (w.alloc (.cells (u32V zerosW).toArray 167)).heap.size = N + 1 by rw [HN.out]; simp, ← hW1] at h1
    exact h1
  have Hbw := hide hbw
  have Hr0 := hide hr0
  have Hr1 := hide hr1
  rw [← hW1]
  clear hz hW1 hbw hr0 hr1
  go_wp2_with (fail)
  go_loopw [11] (fun i wr => ∃ t : Nat, t ≤ 64 ∧ i = .int .i64 t ∧ Words wr (N + 1) (schedW blk t) 167 ∧ wr.heap[N]? = some (.cells (u32V zerosW).toArray 167 (0, 0)) ∧ Below w.heap.size w wr) (fun i _ => 64 - (intOf i).toNat)
  case atStart => exact ⟨0, by omega, rfl, Hr1.out, Hr0.out, Hbw.out⟩
  case round => as_aux_lemma =>
    obtain ⟨t, ht, rfl, hF, h0, hbw⟩ := hrel
    have HF := hide hF
    have H0 := hide h0
    have Hb1 := hide hbw
    clear hF h0 hbw
    obtain ⟨F, hF⟩ : ∃ F, F = schedW blk t := ⟨_, rfl⟩
    have hFl : F.length = 64 := by rw [hF, schedW_length]
    have HFe := hide hF
    rw [← hF] at HF
    clear hF
    by_cases h64 : t < 64
    · by_cases h16 : t < 16
      · have hFt : F.set t (wordV ((blk.drop (4 * t)).take 0)) = F := by
          have h0 := schedW_zero blk t t (Nat.le_refl _) h64
          rw [← HFe.out, getElem!_pos _ t (by omega)] at h0
          rw [List.take_zero, show wordV [] = F[t] by rw [h0]; rfl, List.set_getElem_self]
        have HFt := hide hFt
        clear hFt
        obtain ⟨wo, hwo⟩ : ∃ wo : World, wo = wr := ⟨_, rfl⟩
        rw [← hwo] at HF H0 Hb1 ⊢
        clear hwo
        have hsl : ∀ w' : World, (Instr.sliceAt 152 (.pointer (some ⟨B, o, none⟩)) (some (.int .i64 (4 * (t : Int)))) (some (.int .i64 (4 * (t : Int) + 4))) none).run Tryz.prog w' = .ok (.slice (some ⟨B, o + 4 * t, none⟩) 4 (64 - 4 * t)) w' := fun w' => by
          have h1 := run_slice_arr (P := Tryz.prog) (t := 152) (s := 1) Tryz.underlying152 (by kernel_rfl) B o (4 * t) (4 * t + 4) (by omega) (by omega) (by omega) (4 * (t : Int)) (4 * (t : Int) + 4) (by omega) (by omega) w'
          rw [Nat.mul_one, show 4 * t + 4 - 4 * t = 4 by omega] at h1
          exact h1
        go_wp2_with (fail)
        clear hsl
        go_loopw [25] (fun i wr => ∃ j : Nat, j ≤ 4 ∧ i = .int .i64 j ∧ Words wr (N + 1) (F.set t (wordV ((blk.drop (4 * t)).take j))) 167 ∧ wr.heap[N]? = some (.cells (u32V zerosW).toArray 167 (0, 0)) ∧ Below w.heap.size w wr) (fun i _ => 4 - (intOf i).toNat)
        case atStart => exact ⟨0, by omega, rfl, by rw [HFt.out]; exact HF.out, H0.out, Hb1.out⟩
        case round => as_aux_lemma =>
          obtain ⟨j, hj, rfl, hG, h0, hbw⟩ := hrel
          have HG := hide hG
          have H0 := hide h0
          have Hb2 := hide hbw
          clear hG h0 hbw
          by_cases h4 : j < 4
          · obtain ⟨c, hc⟩ : ∃ c, c = blk[4 * t + j]'(by have := Hb.out; omega) := ⟨_, rfl⟩
            obtain ⟨x, hx⟩ : ∃ x, x = wordV ((blk.drop (4 * t)).take j) := ⟨_, rfl⟩
            have Hx := hide (show wordV ((blk.drop (4 * t)).take (j + 1)) = bits .or .u32 (x * 256 % 4294967296) c.toNat by
              rw [List.take_succ_eq_append_getElem (by rw [List.length_drop, Hb.out]; omega), wordV_snoc, ← hx, List.getElem_drop, hc])
            have cB : wr.cell? ⟨B, o + (4 * t + j), none⟩ = some (.int .u8 c.toNat) := by
              have h1 := Hr.out (4 * t + j) (.int .u8 c.toNat) (by rw [bytesV, List.getElem?_map, List.getElem?_eq_getElem (by have := Hb.out; omega), hc]; rfl)
              rw [Hb2.out.cell (p := ⟨B, o + (4 * t + j), none⟩) hB]; exact h1
            have cW : wr.cell? ⟨N + 1, t, none⟩ = some (.int .u32 x) := by
              rw [blk_cell HG.out.row, ← hx, ← u32V_set, List.getElem?_set_self (by rw [u32V_length]; omega)]
            have fW : wr.frozen? ⟨N + 1, t, none⟩ = false := frozen_of_row _ _ _ _ _ HG.out.row
            rw [← Nat.add_assoc] at cB
            clear hc hx
            go_wp2_with (fail)
            refine ⟨⟨j + 1, by omega, by go_num, ?_, (heap_setCell_other _ ⟨N + 1, t, none⟩ N _ (by simp)).trans H0.out, Hb2.out.setCell (by have := HN.out; show w.heap.size ≤ N + 1; omega) _⟩, by simp [intOf]; omega⟩
            show (World.setCell _ _ _).heap[N + 1]? = _
            rw [Hx.out, show ((c.toNat : Int) % 4294967296) = c.toNat by have := c.toNat_lt; omega]
            have h1 := heap_set HG.out.row t (.int .u32 (bits .or .u32 (x * 256 % 4294967296) c.toNat))
            rw [u32V_set, List.set_set] at h1
            exact h1
          · obtain rfl : j = 4 := by omega
            go_wp2_with (fail)
            refine ⟨⟨t + 1, by omega, by go_num, ?_, H0.out, Hb2.out⟩, by simp [intOf]; omega⟩
            rw [schedW, ← HFe.out, nextW, if_pos h16]
            exact HG.out
      · skip
        obtain ⟨x15, hx15⟩ : ∃ x, x = F[t - 15]! := ⟨_, rfl⟩
        obtain ⟨x2, hx2⟩ : ∃ x, x = F[t - 2]! := ⟨_, rfl⟩
        obtain ⟨x7, hx7⟩ : ∃ x, x = F[t - 7]! := ⟨_, rfl⟩
        obtain ⟨xg, hxg⟩ : ∃ x, x = F[t - 16]! := ⟨_, rfl⟩
        have c15 : wr.cell? ⟨N + 1, t - 15, none⟩ = some (.int .u32 x15) := by rw [hx15]; exact HF.out.cell (t - 15) (by omega)
        have c2 : wr.cell? ⟨N + 1, t - 2, none⟩ = some (.int .u32 x2) := by rw [hx2]; exact HF.out.cell (t - 2) (by omega)
        have c7 : wr.cell? ⟨N + 1, t - 7, none⟩ = some (.int .u32 x7) := by rw [hx7]; exact HF.out.cell (t - 7) (by omega)
        have cg : wr.cell? ⟨N + 1, t - 16, none⟩ = some (.int .u32 xg) := by rw [hxg]; exact HF.out.cell (t - 16) (by omega)
        have HE := hide (show nextW blk F t = (xg + bits .xor .u32 (bits .xor .u32 (rotV x15 25) (rotV x15 14)) (x15 / 8) + x7 + bits .xor .u32 (bits .xor .u32 (rotV x2 15) (rotV x2 13)) (x2 / 1024)) % 4294967296 by rw [nextW, if_neg h16, hx15, hx2, hx7, hxg]; rfl)
        have C7 := hide c7
        have Cg := hide cg
        clear hx15 hx2 hx7 hxg
        go_wp2_with (fail)
        go_quiet (fail)
        go_upto_region 14 with (first
          | (go_at_call 96; ((with_reducible refine (turned7 _ _).mono ?_)); rintro e w' ⟨rfl, rfl⟩)
          | (go_at_call 96; ((with_reducible refine (turned18 _ _).mono ?_)); rintro e w' ⟨rfl, rfl⟩)
          | (go_at_call 96; ((with_reducible refine (turned17 _ _).mono ?_)); rintro e w' ⟨rfl, rfl⟩)
          | (go_at_call 96; ((with_reducible refine (turned19 _ _).mono ?_)); rintro e w' ⟨rfl, rfl⟩)
          | fail)
        obtain ⟨C, hC⟩ : ∃ C : World → Prop, C = Keep (fun _ => False) wr := ⟨_, rfl⟩
        have HC1 := hide (show ∀ w', InC C w' → w'.cell? ⟨N + 1, t - 7, none⟩ = some (.int .u32 x7) from InC.of fun w' h => keep_cell C7.out (fun f => f) w' (hC ▸ h))
        have HC2 := hide (show ∀ w', InC C w' → w'.cell? ⟨N + 1, t - 16, none⟩ = some (.int .u32 xg) from InC.of fun w' h => keep_cell Cg.out (fun f => f) w' (hC ▸ h))
        have HC0 := hide (show C (wr.drewN nq).drew by rw [hC]; exact ((Keep.refl _ _).drewN _).drew)
        haveI : Nonempty (Wl C) := ⟨⟨_, HC0.out⟩⟩
        clear hC c15 c2 c7 cg
        refine wp_region_mix C (by kernel_rfl) (by kernel_rfl) ?_
        refine Mixed.batch [0, 1, 2, 3, 4, 5, 6, 7, 8, 9, 10, 11, 12, 13, 14] 1 (by kernel_rfl) (by kernel_rfl) (by kernel_rfl) (by kernel_rfl) HC0.out _ (by simp only [List.map_cons, List.map_nil, List.getElem?_toArray, List.getElem?_cons_zero, List.getElem?_cons_succ, Option.getD_some]; rfl) (fun R hR => ?_)
        repeat (first | go_big_quiet_skip | (go_big_quiet_want; first
          | (refine quiet_load 148 (.tmp 66) rfl ⟨N + 1, t - 16, none⟩ rfl _ HC2.out _ Tryz.underlying148 rfl ?_; go_simp; go_big_quiet_on)
          | (refine quiet_load 148 (.tmp 72) rfl ⟨N + 1, t - 7, none⟩ rfl _ HC1.out _ Tryz.underlying148 rfl ?_; go_simp; go_big_quiet_on)
          | (go_big_quiet_op; go_big_quiet_on)))
        refine wpQuiet_nil (hR.out _ ?_)
        clear hR R
        obtain ⟨v0, hv0⟩ : ∃ v0 : Value, wr.cell? ⟨N + 1, t, none⟩ = some v0 := ⟨_, HF.out.cell t (by omega)⟩
        have hf0 : wr.frozen? ⟨N + 1, t, none⟩ = false := frozen_of_row _ _ _ _ _ HF.out.row
        refine Mixed.one 15 0 (by kernel_rfl) (by kernel_rfl) (by simp only [List.getElem?_toArray, List.getElem?_cons_zero, List.getElem?_cons_succ]; rfl) (fun K hK => ?_)
        go_simp
        refine hK.out _ _ (fun h => absurd rfl h) ?_
        clear hK K
        refine Mixed.done (by kernel_rfl) ?_
        go_wp2_with fail
        refine ⟨⟨t + 1, by omega, by go_num, ?_, ?_, ?_⟩, by simp [intOf]; omega⟩
        · show (World.setCell _ _ _).heap[N + 1]? = _
          rw [schedW, ← HFe.out, HE.out, ← u32V_set]
          exact heap_set (w := wr.drewN (nq + 1)) HF.out.row t _
        · exact (heap_setCell_other (wr.drewN (nq + 1)) ⟨N + 1, t, none⟩ N _ (by simp)).trans H0.out
        · exact (below_drewN Hb1.out (nq + 1)).setCell (by have := HN.out; show w.heap.size ≤ N + 1; omega) _
    · obtain rfl : t = 64 := by omega
      have hsz : (Tryz.prog.info? 167).map (·.size) = some (u32V F).toArray.size := by rw [List.size_toArray, u32V_length, hFl]; kernel_rfl
      have Hsz := hide hsz
      clear hsz
      go_wp2_with (first
        | (refine wpList_load_row rfl 167 (.tmp 3) rfl (N + 1) rfl 167 (u32V F).toArray (0, 0) _ (HF.out.row) Tryz.underlying167 rfl Hsz.out ?_)
        | (refine wpList_store_all rfl 167 (.tmp 2) (.tmp 79) rfl N (u32V zerosW) (u32V F) 167 H0.out rfl rfl (by rw [u32V_length, u32V_length, hFl]; rfl) (by simpa using Hsz.out) (u32V_one F) ?_)
        | fail)
      refine bodyPost_ret (results_cell_row rfl _ _ N _ _ _ _ rfl (setRow_heap _ _ _ _ _ _ H0.out) Tryz.underlying167 rfl Hsz.out) rfl ?_
      exact ⟨by rw [HFe.out], below_setRow Hb1.out (by have := HN.out; omega) _⟩
end Go.Proofs.YtahhglhebcooaaaGreatDoor
