/- slices.Compact of names: is one there twice? -/
import Derived.Test.YtimfmbcihopaaaaGreatDoorMapR
import Derived.Test.YtimfmbcihopaaaaGreatDoorQuiet
import Derived.Deep.MidRow
import Derived.Deep.RegionHeld3
import Derived.Deep.QuietTactic
import Derived.BigQuiet
import Derived.Stop.BytesEq
import Derived.Lib.SliceRun
import Derived.Deep.WholeRow
namespace Go.Proofs.YtimfmbcihopaaaaGreatDoor
open Go.RowKit Go.Cof Go.Sort Go.Shelf

theorem Tryz.size1 : ∀ w : World, (sizeOf 5).run Tryz.prog w = .ok 1 w := fun w => by
  have hi : (Tryz.prog.info? 5).map (·.size) = some 1 := by kernel_rfl
  cases hq : Tryz.prog.info? 5 with
  | none => simp [hq] at hi
  | some i =>
    have : i.size = 1 := by simpa [hq] using hi
    simp [sizeOf, typeInfo, hq, this]

theorem eql_name (x y : Bv 16) : ∀ w : World, (binOp .eql 65 (.agg (encB x).toArray) (.agg (encB y).toArray)).run Tryz.prog w = .ok (.bool (x == y)) w := fun w => by
  have h := run_eql_bytes (P := Tryz.prog) w 65 5 16 Tryz.underlying65 Tryz.underlying5 Tryz.size1 x.toList y.toList (by simp) (by simp)
  have he : (x.toList == y.toList) = (x == y) := by
    rw [Bool.eq_iff_iff, beq_iff_eq, beq_iff_eq]
    exact ⟨fun h => Vector.toList_inj.1 h, fun h => by rw [h]⟩
  rw [he] at h
  exact h

theorem neq_name (x y : Bv 16) : ∀ w : World, (binOp .neq 65 (.agg (encB x).toArray) (.agg (encB y).toArray)).run Tryz.prog w = .ok (.bool (!(x == y))) w := fun w => by
  have h := run_equalIn_bytes (P := Tryz.prog) w 9998 65 5 16 Tryz.underlying65 Tryz.underlying5 Tryz.size1 x.toList y.toList (by simp) (by simp)
  have he : (x.toList == y.toList) = (x == y) := by
    rw [Bool.eq_iff_iff, beq_iff_eq, beq_iff_eq]
    exact ⟨fun h => Vector.toList_inj.1 h, fun h => by rw [h]⟩
  rw [he] at h
  rw [run_neq_struct]
  have h2 : (Op.equalIn 10000 65 (.agg (encB x).toArray) (.agg (encB y).toArray)).run Tryz.prog w = .ok (x == y) w := h
  rw [h2]
  rfl

theorem holds_range {w : World} {g o i : Nat} {d : Array (Bv 16)} (h : HoldsK encB 16 w g o d) (hi : i < d.size) : w.rangeAt g (o + i * 16) (encB d[i]!) := fun j v hj => by
  have hjl : j < 16 := by have := (List.getElem?_eq_some_iff.1 hj).1; rwa [encB_len] at this
  have h1 := (h (i * 16 + j) (by simp; omega)).1
  rw [← Nat.add_assoc] at h1
  rw [h1, id, get_flatK encB 16 d _ (by omega), show (i * 16 + j) / 16 = i by omega, show (i * 16 + j) % 16 = j by omega, getElem!_pos _ j (by rw [encB_len]; exact hjl)]
  rw [List.getElem?_eq_getElem (by rw [encB_len]; exact hjl)] at hj
  exact hj
theorem holds_there {w : World} {g o i : Nat} {d : Array (Bv 16)} (h : HoldsK encB 16 w g o d) (hi : i < d.size) : w.there g (o + i * 16) 16 := fun j hj => by
  have h1 := h (i * 16 + j) (by simp; omega)
  rw [← Nat.add_assoc] at h1
  exact ⟨by rw [h1.1]; rfl, h1.2⟩
theorem holds_drew {w : World} {g o : Nat} {d : Array (Bv 16)} (h : HoldsK encB 16 w g o d) : HoldsK encB 16 w.drew g o d := h

theorem keep_setCells {F : Nat → Prop} (b : Nat) (hF : F b) : ∀ (vs : List Value) (o : Nat) (w0 w : World), Keep F w0 w → Keep F w0 (w.setCells b o vs)
  | [], _, _, _, h => h
  | v :: vs, o, w0, w, h => keep_setCells b hF vs (o + 1) w0 _ (h.setCell (p := ⟨b, o, none⟩) (fun _ => hF) v)

theorem run_clear_names (w : World) (ty : TypeId) (b o n c : Nat) (hn : 0 < n) (ht : ∀ j, j < n * 16 → (w.cell? ⟨b, o + j, none⟩).isSome = true ∧ w.frozen? ⟨b, o + j, none⟩ = false) :
    (Builtin.clear_ #[62] ty #[.slice (some ⟨b, o, none⟩) n c]).run Tryz.prog w = .ok (.tuple #[]) (w.setCells b o (List.replicate (n * 16) (.int .u8 0))) := by
  have hz := (zero_of_info (P := Tryz.prog) (t := 65) (v := .agg (Array.replicate 16 (.int .u8 0))) (n := 16) (by kernel_rfl)).1
  have hzc : (Builtin.zeroCells (Value.agg (Array.replicate 16 (.int .u8 0))).cells n).toList = List.replicate (n * 16) (.int .u8 0) := by
    simp [Builtin.zeroCells, Value.cells]
    apply List.ext_getElem
    · simp
    · intro i h1 h2
      have h16 : i % 16 < 16 := by omega
      simp [getElem!_pos, h16]
  have hst := run_storeCells_cells (P := Tryz.prog) b o (List.replicate (n * 16) (.int .u8 0)) 0 w (fun j hj => by simpa using (ht j (by simpa using hj)).1) (fun j hj => by simpa using (ht j (by simpa using hj)).2) (by intro v hv'; rw [List.eq_of_mem_replicate hv']; rfl)
  simp only [Nat.add_zero] at hst
  obtain ⟨m, rfl⟩ : ∃ m, n = m + 1 := ⟨n - 1, by omega⟩
  simp [Builtin.clear_, run_underlying Tryz.underlying62, hz, hzc, hst]

/-- The cells of n names, whatever they are, that may be written. -/
def Some16 (w : World) (g o n : Nat) : Prop := ∀ i, i < n → (∃ x : Bv 16, w.rangeAt g (o + i * 16) (encB x)) ∧ w.there g (o + i * 16) 16
theorem Some16.of {w : World} {g o : Nat} {d : Array (Bv 16)} (h : HoldsK encB 16 w g o d) : Some16 w g o d.size := fun _ hi => ⟨⟨_, holds_range h hi⟩, holds_there h hi⟩
theorem Some16.put {w : World} {g o n m : Nat} (h : Some16 w g o n) (hm : m < n) (x : Bv 16) : Some16 (w.setCells g (o + m * 16) (encB x)) g o n := fun i hi => by
  refine ⟨?_, World.there_setCells (h i hi).2 _ _ _⟩
  by_cases e : i = m
  · subst e
    exact ⟨x, World.rangeAt_setCells_same _ _ _ _ (by rw [encB_len]; exact (h i hi).2)⟩
  · obtain ⟨y, hy⟩ := (h i hi).1
    exact ⟨y, World.rangeAt_setCells_apart hy _ _ _ (by rw [encB_len, encB_len]; omega)⟩
theorem Some16.drewN {w : World} {g o n : Nat} (h : Some16 w g o n) (q : Nat) : Some16 (w.drewN q) g o n := h
theorem Some16.cells {w : World} {g o n k : Nat} (h : Some16 w g o n) (hk : k ≤ n) : ∀ j, j < (n - k) * 16 → (w.cell? ⟨g, o + k * 16 + j, none⟩).isSome = true ∧ w.frozen? ⟨g, o + k * 16 + j, none⟩ = false := fun j hj => by
  have h1 := (h (k + j / 16) (by omega)).2 (j % 16) (by omega)
  rw [show o + (k + j / 16) * 16 + j % 16 = o + k * 16 + j by omega] at h1
  exact h1

/-- No name stands behind its like. -/
def NoTwice (d : Array (Bv 16)) : Prop := ∀ i, i + 1 < d.size → d[i + 1]! ≠ d[i]!

set_option maxHeartbeats 4000000 in
set_option maxRecDepth 100000 in
theorem compact_any (g o cap : Nat) (d : Array (Bv 16)) (w : World) (hH : HoldsK encB 16 w g o d) (hg : g < w.heap.size) (hd : d.size ≤ 1000000) (hc : d.size ≤ cap) :
    Calls Tryz.prog 24 #[.slice (some ⟨g, o, none⟩) d.size cap] w fun e w' => ∃ A n c, e = .returned (.slice A n c) ∧ (n = d.size ↔ NoTwice d) ∧ Keep (· = g) w w' := by
  by_cases h2 : d.size < 2
  · have hh : NoTwice d := fun i hi => by omega
    have Hh := hide hh
    clear hh hH
    go_enter Tryz.func24, Tryz.ntmps24
    go_wp2_with fail
    go_ret
    exact ⟨_, _, _, rfl, ⟨fun _ => Hh.out, fun _ => rfl⟩, Keep.refl _ _⟩
  · have HH := hide hH
    clear hH
    go_enter Tryz.func24, Tryz.ntmps24
    go_wp2_with fail
    go_loopw [3] (fun k wr => ∃ j : Nat, j < d.size ∧ k = .int .i64 ((j : Int) + 1) ∧ (∀ i, i < j → d[i + 1]! ≠ d[i]!) ∧ HoldsK encB 16 wr g o d ∧ Keep (fun _ => False) w wr) (fun k _ => d.size - (intOf k).toNat)
    case atStart => exact ⟨0, by omega, rfl, fun i hi => by omega, HH.out, Keep.refl _ _⟩
    case round =>
      obtain ⟨j, hj, rfl, hno, hH1, hk1⟩ := hrel
      have Hno := hide hno
      have Hk1 := hide hk1
      have hgr : g < wr.heap.size := Nat.lt_of_lt_of_le hg hk1.size
      clear hno hk1
      by_cases hlt : j + 1 < d.size
      · have hr1 := holds_range hH1 hlt
        have hr2 := holds_range hH1 (show j < d.size by omega)
        obtain ⟨x, hx⟩ : ∃ x, x = d[j + 1]! := ⟨_, rfl⟩
        obtain ⟨y, hy⟩ : ∃ y, y = d[j]! := ⟨_, rfl⟩
        have heq := eql_name x y
        have hu := Tryz.underlying65
        rw [← hx] at hr1
        rw [← hy] at hr2
        have hX : (encB x).length = 16 := encB_len x
        have hY : (encB y).length = 16 := encB_len y
        generalize encB x = X at hr1 heq hX
        generalize encB y = Y at hr2 heq hY
        have hi : (Tryz.prog.info? 65).map (·.size) = some X.length := by rw [hX]; kernel_rfl
        have hi2 : (Tryz.prog.info? 65).map (·.size) = some Y.length := by rw [hY]; kernel_rfl
        have Hr1 := hide (range_drewN hr1)
        have Hr2 := hide (range_drewN hr2)
        have Hi := hide hi
        have Hi2 := hide hi2
        clear hr1 hr2 hu hi hi2
        have HH1 := hide hH1
        have Hx := hide hx
        have Hy := hide hy
        clear hH1 hx hy
        have hw1 : wrap64 ((j : Int) + 1 - 1) = j := w64 _ (by omega) |>.trans (by omega)
        have hk0 : (0 : Int) ≤ (j : Int) := by omega
        have hk1 : (j : Int) < d.size := by omega
        have hk2 : (0 : Int) ≤ (j : Int) + 1 := by omega
        have hk3 : (j : Int) + 1 < d.size := by omega
        have hw2 : wrap64 (j : Int) = j := w64 _ (by omega)
        have hjn : j < d.size := by omega
        rcases hxy : x == y with _ | _
        · rw [hxy] at heq
          go_wp2_with fail
          refine wp_region_quiet_lit (by kernel_rfl) (by kernel_rfl) ?_
          repeat (first | (refine wpQuiet_load_mid rfl 65 (.tmp 18) rfl g (o + (j + 1) * 16) rfl X _ Hr1.out Tryz.underlying65 rfl Hi.out ?_; go_simp) | (refine wpQuiet_load_mid rfl 65 (.tmp 23) rfl g (o + j * 16) rfl Y _ Hr2.out Tryz.underlying65 rfl Hi2.out ?_; go_simp) | go_big_quiet_step (fail))
          refine wpQuiet_nil ?_
          intro nq
          go_wp2_with fail
          refine ⟨⟨j + 1, by omega, rfl, fun i hi => ?_, HH1.out, Hk1.out.drewN nq⟩, by simp [intOf]; omega⟩
          by_cases e : i = j
          · subst e
            rw [← Hx.out, ← Hy.out]
            simpa using hxy
          · exact Hno.out i (by omega)
        · rw [hxy] at heq
          have hno : ¬ NoTwice d := fun h => h j hlt (by rw [← Hx.out, ← Hy.out]; simpa using hxy)
          have Hnot := hide hno
          clear hno
          go_wp2_with fail
          refine wp_region_quiet_lit (by kernel_rfl) (by kernel_rfl) ?_
          repeat (first | (refine wpQuiet_load_mid rfl 65 (.tmp 18) rfl g (o + (j + 1) * 16) rfl X _ Hr1.out Tryz.underlying65 rfl Hi.out ?_; go_simp) | (refine wpQuiet_load_mid rfl 65 (.tmp 23) rfl g (o + j * 16) rfl Y _ Hr2.out Tryz.underlying65 rfl Hi2.out ?_; go_simp) | go_big_quiet_step (fail))
          refine wpQuiet_nil ?_
          intro nq
          go_wp2_with fail
          obtain ⟨wo, hwo⟩ : ∃ wo : World, wo = wr.drewN nq := ⟨_, rfl⟩
          have hs0 : Some16 wo g o d.size := by rw [hwo]; exact (Some16.of HH1.out).drewN nq
          have hk0' : Keep (· = g) w wo := by rw [hwo]; exact (Hk1.out.mono (fun _ _ f => f.elim)).drewN nq
          rw [← hwo]
          have Hs0 := hide hs0
          have Hk0 := hide hk0'
          clear hs0 hk0' hwo
          obtain ⟨M, hM⟩ : ∃ M, M = d.size - (j + 1) := ⟨_, rfl⟩
          rw [← hM]
          have HM := hide hM
          clear hM heq
          go_loopw [3, 5] (fun k k2 wr2 => ∃ m p : Nat, k = .int .i64 m ∧ k2 = .int .i64 ((p : Int) + 1) ∧ j + 1 ≤ m ∧ m ≤ j + 1 + p ∧ p < M ∧ Some16 wr2 g o d.size ∧ Keep (· = g) w wr2) (fun _ k2 _ => M - (intOf k2).toNat)
          case atStart => exact ⟨j + 1, 0, rfl, rfl, by omega, by omega, by have := HM.out; omega, Hs0.out, Hk0.out⟩
          case round =>
            obtain ⟨m, p, rfl, rfl, hm1, hm2, hp, hS, hK⟩ := hrel
            have HS := hide hS
            have HK := hide hK
            clear hS hK
            have hMa : j + 1 + M ≤ d.size := by have := HM.out; omega
            have hMb : d.size ≤ j + 1 + M := by have := HM.out; omega
            by_cases hlt2 : p + 1 < M
            · obtain ⟨⟨x2, hx2⟩, _⟩ := HS.out (j + 1 + (p + 1)) (by omega)
              obtain ⟨⟨y2, hy2⟩, _⟩ := HS.out (j + 1 + p) (by omega)
              rw [show o + (j + 1 + (p + 1)) * 16 = o + (j + 1) * 16 + (p + 1) * 16 by omega] at hx2
              rw [show o + (j + 1 + p) * 16 = o + (j + 1) * 16 + p * 16 by omega] at hy2
              have heq2 := neq_name x2 y2
              have hX2 : (encB x2).length = 16 := encB_len x2
              have hY2 : (encB y2).length = 16 := encB_len y2
              have hO2 := hide (encB_one x2)
              obtain ⟨X2, hXX⟩ : ∃ X2, X2 = encB x2 := ⟨_, rfl⟩
              obtain ⟨Y2, hYY⟩ : ∃ Y2, Y2 = encB y2 := ⟨_, rfl⟩
              rw [← hXX] at hx2 hX2 hO2 heq2
              rw [← hYY] at hy2 hY2 heq2
              have HXX := hide hXX
              clear hXX hYY
              have Hi3 := hide (show (Tryz.prog.info? 65).map (·.size) = some X2.length by rw [hX2]; kernel_rfl)
              have Hi4 := hide (show (Tryz.prog.info? 65).map (·.size) = some Y2.length by rw [hY2]; kernel_rfl)
              have Hx2 := hide hx2
              have Hr3 := hide (range_drewN hx2)
              have Hr4 := hide (range_drewN hy2)
              have hth := HS.out m (by omega)
              have Hth := hide hth.2
              clear hx2 hy2 hth hX2 hY2
              have hwp1 : wrap64 ((p : Int) + 1 - 1) = p := w64 _ (by omega) |>.trans (by omega)
              have hm3 : m < d.size := by omega
              rcases hxy2 : (!(x2 == y2)) with _ | _
              · rw [hxy2] at heq2
                go_wp2_with fail
                refine wp_region_quiet_lit (by kernel_rfl) (by kernel_rfl) ?_
                repeat (first | (refine wpQuiet_load_mid rfl 65 (.tmp 37) rfl g (o + (j + 1) * 16 + (p + 1) * 16) rfl X2 _ Hr3.out Tryz.underlying65 rfl Hi3.out ?_; go_simp) | (refine wpQuiet_load_mid rfl 65 (.tmp 42) rfl g (o + (j + 1) * 16 + p * 16) rfl Y2 _ Hr4.out Tryz.underlying65 rfl Hi4.out ?_; go_simp) | go_big_quiet_step (fail))
                refine wpQuiet_nil ?_
                intro nq2
                go_wp2_with fail
                exact ⟨⟨m, p + 1, rfl, by go_num, hm1, by omega, by omega, HS.out.drewN nq2, HK.out.drewN nq2⟩, by simp [intOf]; omega⟩
              · rw [hxy2] at heq2
                go_wp2_with fail
                refine wp_region_quiet_lit (by kernel_rfl) (by kernel_rfl) ?_
                repeat (first | (refine wpQuiet_load_mid rfl 65 (.tmp 37) rfl g (o + (j + 1) * 16 + (p + 1) * 16) rfl X2 _ Hr3.out Tryz.underlying65 rfl Hi3.out ?_; go_simp) | (refine wpQuiet_load_mid rfl 65 (.tmp 42) rfl g (o + (j + 1) * 16 + p * 16) rfl Y2 _ Hr4.out Tryz.underlying65 rfl Hi4.out ?_; go_simp) | go_big_quiet_step (fail))
                refine wpQuiet_nil ?_
                intro nq2
                go_wp2_with (first | (refine wpList_load_mid rfl 65 (.tmp 49) rfl g (o + (j + 1) * 16 + (p + 1) * 16) rfl X2 _ (by exact Hx2.out) Tryz.underlying65 rfl Hi3.out ?_) | (refine wpList_store_mid rfl 65 (.tmp 51) (.tmp 50) rfl g (o + m * 16) X2.toArray rfl rfl (by rw [List.size_toArray, HXX.out, encB_len]; exact Hth.out) (by simpa using Hi3.out) (all_oneCell_toArray hO2.out) ?_))
                refine ⟨⟨m + 1, p + 1, by go_num, by go_num, by omega, by omega, by omega, ?_, ?_⟩, by simp [intOf]; omega⟩
                · rw [HXX.out]
                  exact (HS.out.drewN nq2).put hm3 x2
                · exact keep_setCells (F := (· = g)) g rfl _ _ _ _ (HK.out.drewN nq2)
            · have hpM : p + 1 = M := by omega
              have hmd : m < d.size := by omega
              have hcl := run_clear_names wr 0 g (o + m * 16) (d.size - m) (cap - m) (by omega) (HS.out.cells (by omega))
              go_wp2_with fail
              go_ret
              exact ⟨_, m, cap, rfl, ⟨fun h => absurd h (by omega), fun h => absurd h Hnot.out⟩, keep_setCells (F := (· = g)) g rfl _ _ _ _ HK.out⟩
      · have hno2 : NoTwice d := fun i hi => Hno.out i (by omega)
        have Hno2 := hide hno2
        clear hno2
        go_wp2_with fail
        go_ret
        exact ⟨_, _, _, rfl, ⟨fun _ => Hno2.out, fun _ => rfl⟩, Hk1.out.mono (fun _ _ f => f.elim)⟩
end Go.Proofs.YtimfmbcihopaaaaGreatDoor
