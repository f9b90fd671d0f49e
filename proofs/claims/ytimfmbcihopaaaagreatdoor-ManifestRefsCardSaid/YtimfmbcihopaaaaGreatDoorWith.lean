/- manifest.Without: references without one. -/
import Derived.Test.YtimfmbcihopaaaaGreatDoorBlk
import Derived.Test.YtimfmbcihopaaaaGreatDoorRefsL
namespace Go.Proofs.YtimfmbcihopaaaaGreatDoor
open Go.RowKit Go.Cof

section
variable {w w' : World} {T T' : Nat → Prop}
theorem BodyC.wide {b : BodyA} {v : Value} (h : BodyC w T b v) (hT : ∀ i, T i → T' i) (hlt : ∀ i, T' i → i < w.heap.size) : BodyC w T' b v := by
  obtain ⟨AR, cR, xsR, AP, cP, xsP, e, r1, r2, r3, r4, r5, r6, r7⟩ := h
  exact ⟨AR, cR, xsR, AP, cP, xsP, e, r1.mono (fun i _ hi => hT i hi), r2, r3.mono (fun i _ hi => hT i hi), r4.imp (fun p c _ hc => PackC.mono (fun i _ hi => hT i hi) p c hc), r5, r6, hlt⟩
theorem BodyC.setRefs {b : BodyA} {AR AP A : Option Addr} {cR cP cap : Nat} {l : List RefA} {xs : List Value} (h : BodyC w T b (.agg #[.int .u64 b.gen, .int .u64 b.epoch, .int .i64 b.writer, .int .u64 b.stamp, .slice AR b.refs.length cR, .slice AP b.packs.length cP]))
    (hb : Below w.heap.size w w') (hr : Rd w' T' 33 A l.length xs) (he : Els RefC l xs) (hl : l.length ≤ 140737488351232) (hT : ∀ i, T i → T' i) (hlt : ∀ i, T' i → i < w'.heap.size) :
    BodyC w' T' { b with refs := l } (.agg #[.int .u64 b.gen, .int .u64 b.epoch, .int .i64 b.writer, .int .u64 b.stamp, .slice A l.length cap, .slice AP b.packs.length cP]) := by
  have h2 := (h.below hb).wide hT hlt
  obtain ⟨AR', cR', xsR, AP', cP', xsP, e, r1, r2, r3, r4, r5, r6, r7⟩ := h2
  simp only [Value.agg.injEq, Array.mk.injEq, List.cons.injEq, Value.slice.injEq, true_and, and_true] at e
  obtain ⟨_, rfl, rfl⟩ := e
  exact ⟨A, cap, xs, AP, cP, xsP, rfl, hr, he, r3, r4, hl, r6, r7⟩
end
def OutP (w w' : World) (T : Nat → Prop) (b : BodyA) (x : List UInt8) (e : Ending) : Prop :=
  ∃ v', e = .returned v' ∧ BodyC w' (fun i => T i ∨ (w.heap.size ≤ i ∧ i < w'.heap.size)) { b with refs := outR b.refs x } v' ∧ Below w.heap.size w w'

set_option maxHeartbeats 4000000 in
set_option maxRecDepth 100000 in
theorem without_any (T : Nat → Prop) (b : BodyA) (v : Value) (x : List UInt8) (w : World) (h : BodyC w T b v) (hn : b.refs.length ≤ 1000) :
    Calls Tryz.prog 17 #[v, .string ⟨x.toArray⟩] w fun e w' => OutP w w' T b x e := by
  have Hb := hide h
  obtain ⟨AR, cR, xsR, AP, cP, xsP, rfl, hrR, heR, hx1, hx2, hlR, hx3, hT⟩ := h
  clear hx1 hx2 hx3
  have HrR := hide hrR
  have HeR := hide heR
  have HT := hide hT
  clear hrR heR hT
  obtain ⟨N, hN⟩ : ∃ N, N = w.heap.size := ⟨_, rfl⟩
  have HN := hide hN
  clear hN
  go_enter Tryz.func17, Tryz.ntmps17
  go_upto_region 1 with (fail)
  rw [← HN.out]
  obtain ⟨W1, hW1⟩ : ∃ W : World, W = (w.alloc (.cells #[.int .u64 b.gen, .int .u64 b.epoch, .int .i64 b.writer, .int .u64 b.stamp, .slice AR b.refs.length cR, .slice AP b.packs.length cP] 26)).alloc (.cells #[.int .u64 0, .int .u64 0, .int .i64 0, .int .u64 0, .slice none 0 0, .slice none 0 0] 26) := ⟨_, rfl⟩
  have hbw : Below w.heap.size w W1 := by rw [hW1]; exact ((Below.refl _ _).alloc (Nat.le_refl _) _).alloc (by simp) _
  have hr0 : W1.heap[N]? = some (.cells #[.int .u64 b.gen, .int .u64 b.epoch, .int .i64 b.writer, .int .u64 b.stamp, .slice AR b.refs.length cR, .slice AP b.packs.length cP] 26 (0, 0)) := by
    rw [hW1, HN.out]; exact (Below.heap_alloc _ _ _ (by simp)).trans (heap_alloc_new _ _)
  have hr1 : W1.heap[N + 1]? = some (.cells zeroBody.toArray 26 (0, 0)) := by
    have := heap_alloc_new (w.alloc (.cells #[.int .u64 b.gen, .int .u64 b.epoch, .int .i64 b.writer, .int .u64 b.stamp, .slice AR b.refs.length cR, .slice AP b.packs.length cP] 26)) (.cells #[.int .u64 0, .int .u64 0, .int .i64 0, .int .u64 0, .slice none 0 0, .slice none 0 0] 26)
    rw [show (w.alloc (.cells #[.int .u64 b.gen, .int .u64 b.epoch, .int .i64 b.writer, .int .u64 b.stamp, .slice AR b.refs.length cR, .slice AP b.packs.length cP] 26)).heap.size = N + 1 by rw [HN.out]; simp] at this
    rw [hW1]; exact this
  have HB1 := hide (Hb.out.below hbw)
  have Hr0 := hide hr0
  have Hr1 := hide hr1
  have Hbw := hide hbw
  have HsB := hide (show ∀ c : Value, (Tryz.prog.info? 26).map (·.size) = some (#[.int .u64 b.gen, .int .u64 b.epoch, .int .i64 b.writer, .int .u64 b.stamp, c, .slice AP b.packs.length cP] : Array Value).size from fun _ => by kernel_rfl)
  have HsL := hide (show ∀ c : Value, (Tryz.prog.info? 26).map (·.size) = some ([.int .u64 b.gen, .int .u64 b.epoch, .int .i64 b.writer, .int .u64 b.stamp, c, .slice AP b.packs.length cP] : List Value).length from fun _ => by kernel_rfl)
  have HoL := hide (show ∀ (A : Option Addr) (n c : Nat), ∀ u ∈ ([.int .u64 b.gen, .int .u64 b.epoch, .int .i64 b.writer, .int .u64 b.stamp, .slice A n c, .slice AP b.packs.length cP] : List Value), u.oneCell' = true from fun A n c u hu => by simp at hu; rcases hu with rfl | rfl | rfl | rfl | rfl | rfl <;> rfl)
  rw [← hW1]
  clear hW1 hbw hr0 hr1
  rcases hat : atB b.refs x with _ | _
  case false => as_aux_lemma =>
    have Hat := hide hat
    have Hout := hide (show outR b.refs x = b.refs by rw [outR, hat]; rfl)
    clear hat
    go_wp2_with (first
      | (with_reducible refine wpList_load_row rfl 26 (.tmp 2) rfl N rfl 26 #[.int .u64 b.gen, .int .u64 b.epoch, .int .i64 b.writer, .int .u64 b.stamp, .slice AR b.refs.length cR, .slice AP b.packs.length cP] (0, 0) _ Hr0.out Tryz.underlying26 rfl (HsB.out _) ?_)
      | (with_reducible refine wpList_load_row rfl 26 (.tmp 2) rfl N rfl 26 #[.int .u64 b.gen, .int .u64 b.epoch, .int .i64 b.writer, .int .u64 b.stamp, .slice AR b.refs.length cR, .slice AP b.packs.length cP] (0, 0) _ Hr0b.out Tryz.underlying26 rfl (HsB.out _) ?_)
      | (go_at_call 45; ((with_reducible refine (at_any _ b _ x _ HB1.out).mono ?_)); rintro e w2 ⟨rfl, hb2⟩; rw [Hat.out]; have Hr0b := hide ((hb2.block N (Below.lt_of_row Hr0.out)).trans Hr0.out); have Hr2 := hide ((hb2.block (N + 1) (Below.lt_of_row Hr1.out)).trans Hr1.out); have Hb2 := hide hb2; clear hb2)
      | (refine wpList_store_all rfl 26 (.tmp 4) (.tmp 22) rfl (N + 1) zeroBody [.int .u64 b.gen, .int .u64 b.epoch, .int .i64 b.writer, .int .u64 b.stamp, .slice AR b.refs.length cR, .slice AP b.packs.length cP] 26 Hr2.out rfl rfl rfl (HsL.out _) (HoL.out _ _ _) ?_)
      | fail)
    refine bodyPost_ret (results_cell_row rfl _ _ (N + 1) _ _ _ _ rfl (setRow_heap _ _ _ _ _ _ Hr2.out) Tryz.underlying26 rfl (HsB.out _)) rfl ?_
    have hbb : Below w.heap.size w (w2.setRow (N + 1) [.int .u64 b.gen, .int .u64 b.epoch, .int .i64 b.writer, .int .u64 b.stamp, .slice AR b.refs.length cR, .slice AP b.packs.length cP].toArray) := below_setRow (Hbw.out.trans (Hb2.out.mono Hbw.out.size)) (by have := HN.out; omega) _
    refine ⟨_, rfl, ?_, hbb⟩
    rw [Hout.out]
    exact (Hb.out.below hbb).wide (fun i hi => .inl hi) (fun i hi => by
      rcases hi with hi | hi
      · exact Nat.lt_of_lt_of_le (HT.out i hi) hbb.size
      · exact hi.2)
  case true => as_aux_lemma =>
    have Hat := hide hat
    obtain ⟨hk, hnm⟩ := atB_lt b.refs x hat
    obtain ⟨k, hkk⟩ : ∃ k, k = atI b.refs x := ⟨_, rfl⟩
    have hlt : k < b.refs.length := by rw [hkk]; exact hk
    have Hk := hide hkk
    have Hout := hide (show outR b.refs x = b.refs.take k ++ b.refs.drop (k + 1) by rw [outR, hat, if_pos rfl, ← hkk])
    have hxl : xsR.length = b.refs.length * 33 := HrR.out.len
    have hone : ∀ u ∈ xsR, u.oneCell' = true := Els_one (fun r c h => RefC.one r c h) HeR.out
    have Hone := hide hone
    have hk0 : (0 : Int) ≤ (k : Int) := Int.natCast_nonneg k
    have hkn : (k : Int) < (b.refs.length : Int) := Int.ofNat_lt.2 hlt
    clear hat hk hnm hkk hone
    go_upto_region 4 with (first
      | (with_reducible refine wpList_load_row rfl 26 (.tmp 2) rfl N rfl 26 #[.int .u64 b.gen, .int .u64 b.epoch, .int .i64 b.writer, .int .u64 b.stamp, .slice AR b.refs.length cR, .slice AP b.packs.length cP] (0, 0) _ Hr0.out Tryz.underlying26 rfl (HsB.out _) ?_)
      | (go_at_call 45; ((with_reducible refine (at_any _ b _ x _ HB1.out).mono ?_)); rintro e w2 ⟨rfl, hb2⟩; rw [Hat.out, ← Hk.out]; have hrow2 := (hb2.block N (Below.lt_of_row Hr0.out)).trans Hr0.out; have b4 : w2.cell? ⟨N, 4, none⟩ = some (.slice AR b.refs.length cR) := cell_of_row _ _ 4 _ _ _ hrow2; have Hr0b := hide hrow2; have Hr2 := hide ((hb2.block (N + 1) (Below.lt_of_row Hr1.out)).trans Hr1.out); have HrR2 := hide (HrR.out.keep (Keep.of_none (Hbw.out.trans (hb2.mono Hbw.out.size))) (fun _ _ _ f => f)); have Hb2 := hide hb2; clear hb2 hrow2)
      | (go_at_call 46; ((with_reducible refine (cloneR_any _ AR cR b.refs.length xsR _ HrR2.out Hone.out hn).mono ?_)); rintro e w3 hcl; obtain ⟨A3, cap3, rfl, hown3, hb3⟩ := hcl; obtain ⟨g, capx, hv3, hgb, hglt⟩ := hown3.form (by omega); obtain rfl : A3 = some ⟨g, 0, none⟩ := (by injection hv3); have Hown3 := hide hown3; have Hb3 := hide hb3; have Hgb := hide hgb; have Hglt := hide hglt; clear hown3 hb3 hv3 hgb hglt b4)
      | (go_at_call 48; ((with_reducible refine (deleteR_any _ g b.refs.length cap3 k (k + 1) _ xsR _ Hown3.out Hone.out hn hlt (by push_cast; rfl) rfl).mono ?_)); rintro e w4 ⟨rfl, hown4, hk4⟩; have Hown4 := hide hown4; have Hk4 := hide hk4; have hrow4 := (hk4.block N (Nat.lt_of_lt_of_le (Below.lt_of_row Hr0b.out) Hb3.out.size) (by have := Hgb.out; have := Below.lt_of_row Hr0b.out; omega)).trans ((Hb3.out.block N (Below.lt_of_row Hr0b.out)).trans Hr0b.out); have b4 : w4.cell? ⟨N, 4, none⟩ = some (.slice AR b.refs.length cR) := cell_of_row _ _ 4 _ _ _ hrow4; have f4 : w4.frozen? ⟨N, 4, none⟩ = false := frozen_of_row _ _ _ _ _ hrow4; have Hrow4 := hide hrow4; clear hown4 hk4 hrow4)
      | fail)
    obtain ⟨W, hW⟩ : ∃ W : World, W = w4.setCell ⟨N, 4, none⟩ (.slice (some ⟨g, 0, none⟩) (b.refs.length - 1) cap3) := ⟨_, rfl⟩
    have hrN : W.heap[N]? = some (.cells #[.int .u64 b.gen, .int .u64 b.epoch, .int .i64 b.writer, .int .u64 b.stamp, .slice (some ⟨g, 0, none⟩) (b.refs.length - 1) cap3, .slice AP b.packs.length cP] 26 (0, 0)) := by
      rw [hW, heap_setCell_same _ _ _ _ _ _ Hrow4.out]; rfl
    have hgN : g ≠ N + 1 := by have h1 := Hgb.out; have h2 := Below.lt_of_row Hr2.out; omega
    have hgN2 : g ≠ N := by have h1 := Hgb.out; have h2 := Below.lt_of_row Hr0b.out; omega
    have hrZ : W.heap[N + 1]? = some (.cells zeroBody.toArray 26 (0, 0)) := by
      rw [hW]
      exact (Below.heap_setCell _ _ _ _ (by simp)).trans ((Hk4.out.block (N + 1) (Nat.lt_of_lt_of_le (Below.lt_of_row Hr2.out) Hb3.out.size) (Ne.symm hgN)).trans ((Hb3.out.block (N + 1) (Below.lt_of_row Hr2.out)).trans Hr2.out))
    have hkW : Keep (· = N) w4 W := by rw [hW]; exact (Keep.refl (· = N) w4).setCell (p := ⟨N, 4, none⟩) (fun _ => rfl) _
    have hb4 : Below w.heap.size w W := by
      have h1 := Hbw.out.trans (Hb2.out.mono Hbw.out.size)
      have h2 := h1.trans (Hb3.out.mono h1.size)
      have h3 : Below w.heap.size w3 w4 := Hk4.out.below h2.size (fun i hi => by have h9 : i = g := hi; have := Hgb.out; have := h1.size; omega)
      have h4 : Below w.heap.size w4 W := hkW.below (by have := h2.size; have := h3.size; omega) (fun i hi => by have h9 : i = N := hi; have := HN.out; omega)
      exact (h2.trans h3).trans h4
    have hown5 := ownsRow_keep Hown4.out hkW (fun j hj e => by have hj2 : g = j := Option.some.inj hj; have h9 : j = N := e; omega)
    have HrN := hide hrN
    have HrZ := hide hrZ
    have Hb4 := hide hb4
    have Hown5 := hide hown5
    rw [← hW]
    clear hW hrN hrZ hkW hb4 hown5 b4 f4
    go_wp2_with (first
      | (with_reducible refine wpList_load_row rfl 26 (.tmp 2) rfl N rfl 26 #[.int .u64 b.gen, .int .u64 b.epoch, .int .i64 b.writer, .int .u64 b.stamp, .slice (some ⟨g, 0, none⟩) (b.refs.length - 1) cap3, .slice AP b.packs.length cP] (0, 0) _ HrN.out Tryz.underlying26 rfl (HsB.out _) ?_)
      | (refine wpList_store_all rfl 26 (.tmp 4) (.tmp 22) rfl (N + 1) zeroBody [.int .u64 b.gen, .int .u64 b.epoch, .int .i64 b.writer, .int .u64 b.stamp, .slice (some ⟨g, 0, none⟩) (b.refs.length - 1) cap3, .slice AP b.packs.length cP] 26 HrZ.out rfl rfl rfl (HsL.out _) (HoL.out _ _ _) ?_)
      | fail)
    refine bodyPost_ret (results_cell_row rfl _ _ (N + 1) _ _ _ _ rfl (setRow_heap _ _ _ _ _ _ HrZ.out) Tryz.underlying26 rfl (HsB.out _)) rfl ?_
    have hbb := below_setRow (g := N + 1) Hb4.out (by have := HN.out; omega) [.int .u64 b.gen, .int .u64 b.epoch, .int .i64 b.writer, .int .u64 b.stamp, .slice (some ⟨g, 0, none⟩) (b.refs.length - 1) cap3, .slice AP b.packs.length cP].toArray
    have hkr := keep_setRow (F := (· = N + 1)) (g := N + 1) (Keep.refl _ W) (fun _ => rfl) [.int .u64 b.gen, .int .u64 b.epoch, .int .i64 b.writer, .int .u64 b.stamp, .slice (some ⟨g, 0, none⟩) (b.refs.length - 1) cap3, .slice AP b.packs.length cP].toArray
    have hown6 := ownsRow_keep Hown5.out hkr (fun j hj e => by have hj2 : g = j := Option.some.inj hj; have h9 : j = N + 1 := e; omega)
    have hol : (outR b.refs x).length = b.refs.length - 1 := by rw [Hout.out, List.length_append, List.length_take, List.length_drop]; omega
    have hels : Els RefC (outR b.refs x) (xsR.take (k * 33) ++ xsR.drop ((k + 1) * 33)) := by
      rw [Hout.out]
      exact (HeR.out.take (fun r c h => RefC.len r c h) k).append (HeR.out.drop (fun r c h => RefC.len r c h) (k + 1))
    refine ⟨_, rfl, ?_, hbb⟩
    have hgl : g < W.heap.size := Hown5.out.lt g rfl |>.2
    have hset := BodyC.setRefs (T' := fun i => T i ∨ (w.heap.size ≤ i ∧ i < (W.setRow (N + 1) [.int .u64 b.gen, .int .u64 b.epoch, .int .i64 b.writer, .int .u64 b.stamp, .slice (some ⟨g, 0, none⟩) (b.refs.length - 1) cap3, .slice AP b.packs.length cP].toArray).heap.size)) (l := outR b.refs x) (A := some ⟨g, 0, none⟩) (cap := cap3) (xs := xsR.take (k * 33) ++ xsR.drop ((k + 1) * 33)) Hb.out hbb (by
      rw [hol]
      exact Rd.of_own hown6 (fun q hq _ => .inr (by
        have hq2 : (⟨g, 0, none⟩ : Addr) = ⟨q, 0, none⟩ := Option.some.inj hq
        injection hq2 with hq3
        subst hq3
        have h1 := Hgb.out; have h2 := Hb2.out.size; have h3 := Hbw.out.size
        exact ⟨by omega, by simpa [World.setRow] using hgl⟩))) hels (by rw [hol]; omega) (fun i hi => .inl hi) (fun i hi => by
      rcases hi with hi | hi
      · exact Nat.lt_of_lt_of_le (HT.out i hi) hbb.size
      · exact hi.2)
    rw [hol] at hset
    exact hset
end Go.Proofs.YtimfmbcihopaaaaGreatDoor
