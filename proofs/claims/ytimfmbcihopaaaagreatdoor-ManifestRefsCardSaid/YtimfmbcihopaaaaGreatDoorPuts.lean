/- ManifestPuts: any body may be, or not, as the document says, and has its bytes; any bytes are a body's, or none's. -/
import Derived.Test.YtimfmbcihopaaaaGreatDoorOne
namespace Go.Proofs.YtimfmbcihopaaaaGreatDoor
open Go.RowKit Go.Cof

theorem mput_dput (b : BodyA) : dputL b.toD = mputL b := by rw [dputL, mputL, ok_toD, put_toD]
theorem not_few (b : BodyA) (h : ¬ fewB b = true) : codeB b = 2 := by
  rw [codeB]
  split
  · rename_i hk; exact absurd (fewB_ok b hk) h
  · rfl
theorem code_cases (b : BodyA) : codeB b = 0 ∨ codeB b = 2 := by rw [codeB]; split <;> simp
theorem Below.lt_of_row {w : World} {n : Nat} {o : Obj} (h : w.heap[n]? = some o) : n < w.heap.size := (Array.getElem?_eq_some_iff.1 h).1
def zeroA : BodyA := ⟨0, 0, 0, 0, [], []⟩
theorem zeroA_body (w : World) : BodyC w (fun _ => False) zeroA (.agg #[.int .u64 0, .int .u64 0, .int .i64 0, .int .u64 0, .slice none 0 0, .slice none 0 0]) :=
  ⟨none, 0, [], none, 0, [], rfl, Rd.nil _ _ _ _, rfl, Rd.nil _ _ _ _, rfl, by decide, by decide, fun _ f => f.elim⟩
theorem row6 {w : World} {n : Nat} {t : TypeId} {a b c d e f : Value} (h : w.heap[n]? = some (.cells #[a, b, c, d, e, f] t (0, 0))) : w.rangeAt n 0 [a, b, c, d, e, f] := fun j v hj => by
  rw [Nat.zero_add, cell_of_row _ _ _ _ _ _ h, List.getElem?_toArray]
  exact hj

set_option maxHeartbeats 4000000 in
set_option maxRecDepth 100000 in
theorem puts_any (T S : Nat → Prop) (b : BodyA) (v : Value) (A : Option Addr) (cap : Nat) (l : List UInt8) (m : Int) (w : World) (h : BodyC w T b v) (hn : NumsA b) (hr : Rd w S 1 A l.length (bytesV l)) (hl : l.length ≤ 140737488351232) (hm : w.cell? ⟨0, 0, none⟩ = some (.int .i64 m)) :
    Calls Tryz.prog 3 #[v, .slice A l.length cap] w fun e w' => e = .returned (.bool true) ∧ Below w.heap.size w w' := by
  obtain ⟨AR, cR, xsR, AP, cP, xsP, hv, hx1⟩ := id h
  clear hx1
  subst hv
  have Hb := hide h
  have Hn := hide hn
  have Hr := hide hr
  obtain ⟨N, hN⟩ : ∃ N, N = w.heap.size := ⟨_, rfl⟩
  have HN := hide hN
  have Hm0 := hide hm
  clear h hn hr hN hm
  go_enter Tryz.func3, Tryz.ntmps3
  go_upto_region 1 with (fail)
  rw [← HN.out]
  obtain ⟨W1, hW1⟩ : ∃ W : World, W = w.alloc (.cells #[.int .u64 b.gen, .int .u64 b.epoch, .int .i64 b.writer, .int .u64 b.stamp, .slice AR b.refs.length cR, .slice AP b.packs.length cP] 26) := ⟨_, rfl⟩
  have hbw : Below w.heap.size w W1 := by rw [hW1]; exact (Below.refl _ _).alloc (Nat.le_refl _) _
  have hsz : W1.heap.size = N + 1 := by rw [hW1, HN.out]; simp
  have hr1 : W1.heap[N]? = some (.cells #[.int .u64 b.gen, .int .u64 b.epoch, .int .i64 b.writer, .int .u64 b.stamp, .slice AR b.refs.length cR, .slice AP b.packs.length cP] 26 (0, 0)) := by
    rw [hW1, HN.out]; exact heap_alloc_new _ _
  have HB1 := hide (Hb.out.below hbw)
  have HR1 := hide (Hr.out.below hbw (fun i hi hlt => hlt))
  have Hm1 := hide (show W1.cell? ⟨0, 0, none⟩ = some (.int .i64 m) from keep_cell Hm0.out (fun f => f) W1 (Keep.of_none hbw))
  have Hbw := hide hbw
  have Hsz := hide hsz
  have Hrow1 := hide hr1
  have HsB := hide (show (Tryz.prog.info? 26).map (·.size) = some (#[.int .u64 b.gen, .int .u64 b.epoch, .int .i64 b.writer, .int .u64 b.stamp, .slice AR b.refs.length cR, .slice AP b.packs.length cP] : Array Value).size by kernel_rfl)
  rw [← hW1]
  clear hW1 hbw hsz hr1
  by_cases hfew : fewB b = true
  case neg => as_aux_lemma =>
    have Hfew := hide hfew
    have Hcode := hide (not_few b hfew)
    clear hfew
    go_wp2_with (first
      | (with_reducible refine wpList_load_row rfl 26 (.tmp 2) rfl N rfl 26 #[.int .u64 b.gen, .int .u64 b.epoch, .int .i64 b.writer, .int .u64 b.stamp, .slice AR b.refs.length cR, .slice AP b.packs.length cP] (0, 0) _ Hrow1.out Tryz.underlying26 rfl HsB.out ?_)
      | (go_at_call 5; ((with_reducible refine (own_any T b _ _ HB1.out).mono ?_)); rintro e w2 hown; unfold OwnP at hown; rw [if_neg Hfew.out] at hown; obtain ⟨A21, n21, c21, A22, n22, c22, rfl, hb2⟩ := hown; simp only [bodyI]; have Hb2 := hide hb2; have hN2 : N < w2.heap.size := (by have h1 := Hsz.out; have h3 := hb2.size; omega); have h02 : 0 < w2.heap.size := (by omega); have hrow3 := (hb2.block N (by have h1 := Hsz.out; omega)).trans Hrow1.out; have b0 : w2.cell? ⟨N, 0, none⟩ = some (.int .u64 b.gen) := cell_of_row _ _ 0 _ _ _ hrow3; have b1 : w2.cell? ⟨N, 1, none⟩ = some (.int .u64 b.epoch) := cell_of_row _ _ 1 _ _ _ hrow3; have b2 : w2.cell? ⟨N, 2, none⟩ = some (.int .i64 b.writer) := cell_of_row _ _ 2 _ _ _ hrow3; have b3 : w2.cell? ⟨N, 3, none⟩ = some (.int .u64 b.stamp) := cell_of_row _ _ 3 _ _ _ hrow3; have b4 : w2.cell? ⟨N, 4, none⟩ = some (.slice AR b.refs.length cR) := cell_of_row _ _ 4 _ _ _ hrow3; have b5 : w2.cell? ⟨N, 5, none⟩ = some (.slice AP b.packs.length cP) := cell_of_row _ _ 5 _ _ _ hrow3; have Hm2 := hide (show ∀ o, (w2.alloc o).cell? ⟨0, 0, none⟩ = some (.int .i64 m) from fun o => keep_cell Hm1.out (fun f => f) _ ((Keep.of_none hb2).trans ((Keep.refl _ _).alloc o))); clear hb2 hrow3)
      | (go_at_call 6; ((with_reducible refine (check_any _ b _ m _ ((HB1.out.below Hb2.out).below ((Below.refl _ _).alloc (Nat.le_refl _) _)) (Hm2.out _)).mono ?_)); rintro e w3 ⟨rfl, hb3⟩; rw [Hcode.out]; have Hb3 := hide (below_alloc hb3); clear hb3)
      | fail)
    go_ret
    exact ⟨rfl, Hbw.out.trans ((Hb2.out.trans (Hb3.out.mono Hb2.out.size)).mono Hbw.out.size)⟩
  case pos => as_aux_lemma =>
    have Hfew := hide hfew
    clear hfew
    by_cases h5 : l.length ≤ 5000
    case neg => as_aux_lemma =>
      have hd5 : decide ((5000 : Int) < (l.length : Int)) = true := by simp; omega
      go_wp2_with (first
        | (with_reducible refine wpList_load_row rfl 26 (.tmp 2) rfl N rfl 26 #[.int .u64 b.gen, .int .u64 b.epoch, .int .i64 b.writer, .int .u64 b.stamp, .slice AR b.refs.length cR, .slice AP b.packs.length cP] (0, 0) _ Hrow1.out Tryz.underlying26 rfl HsB.out ?_)
        | (go_at_call 5; ((with_reducible refine (own_any T b _ _ HB1.out).mono ?_)); rintro e w2 hown; unfold OwnP at hown; rw [if_pos Hfew.out] at hown; obtain ⟨v2, rfl, hd2, hb2⟩ := hown; obtain ⟨AR2, cR2, xsR2, AP2, cP2, xsP2, rfl, hx2⟩ := hd2; clear hx2; have Hb2 := hide hb2; clear hb2)
        | fail)
      go_ret
      exact ⟨rfl, Hbw.out.trans ((Hb2.out.trans ((Below.refl W1.heap.size w2).alloc Hb2.out.size _)).mono Hbw.out.size)⟩
    case pos => as_aux_lemma =>
      have hd5 : decide ((5000 : Int) < (l.length : Int)) = false := by simp; omega
      have hl1 : l.length ≤ 100000 := by omega
      have Hl := hide hl1
      obtain ⟨q, hq⟩ : ∃ q, q = mputL b := ⟨_, rfl⟩
      have hq2 : dputL b.toD = q := by rw [hq]; exact mput_dput b
      obtain ⟨cd, hcd⟩ : ∃ cd, cd = codeB b := ⟨_, rfl⟩
      have hcd2 : codeD b.toD = cd := by rw [hcd]; exact code_toD b
      have Hq := hide hq.symm
      have Hq2 := hide hq2
      have Hcd := hide hcd.symm
      have Hcd2 := hide hcd2
      have Hthin := hide (thin_A b)
      have Hnum := hide (show NumsD b.toD from Hn.out)
      clear hq hq2 hcd hcd2 h5 hl1 hl
      go_upto_region 6 with (first
        | (with_reducible refine wpList_load_row rfl 26 (.tmp 2) rfl N rfl 26 #[.int .u64 b.gen, .int .u64 b.epoch, .int .i64 b.writer, .int .u64 b.stamp, .slice AR b.refs.length cR, .slice AP b.packs.length cP] (0, 0) _ Hrow1.out Tryz.underlying26 rfl HsB.out ?_)
        | (go_at_call 5; ((with_reducible refine (own_any T b _ _ HB1.out).mono ?_)); rintro e w2 hown; unfold OwnP at hown; rw [if_pos Hfew.out] at hown; obtain ⟨v2, rfl, hd2, hb2⟩ := hown; have Hd2 := hide hd2; obtain ⟨AR2, cR2, xsR2, AP2, cP2, xsP2, rfl, hx2⟩ := hd2; clear hx2; have Hb2 := hide hb2; have hN2 : N < w2.heap.size := (by have h1 := Hsz.out; have h3 := hb2.size; omega); have hrow3 := (hb2.block N (by have h1 := Hsz.out; omega)).trans Hrow1.out; have HrowN2 := hide hrow3; have b0 : w2.cell? ⟨N, 0, none⟩ = some (.int .u64 b.gen) := cell_of_row _ _ 0 _ _ _ hrow3; have b1 : w2.cell? ⟨N, 1, none⟩ = some (.int .u64 b.epoch) := cell_of_row _ _ 1 _ _ _ hrow3; have b2 : w2.cell? ⟨N, 2, none⟩ = some (.int .i64 b.writer) := cell_of_row _ _ 2 _ _ _ hrow3; have b3 : w2.cell? ⟨N, 3, none⟩ = some (.int .u64 b.stamp) := cell_of_row _ _ 3 _ _ _ hrow3; have b4 : w2.cell? ⟨N, 4, none⟩ = some (.slice AR b.refs.length cR) := cell_of_row _ _ 4 _ _ _ hrow3; have b5 : w2.cell? ⟨N, 5, none⟩ = some (.slice AP b.packs.length cP) := cell_of_row _ _ 5 _ _ _ hrow3; have Hm2 := hide (show ∀ o, (w2.alloc o).cell? ⟨0, 0, none⟩ = some (.int .i64 m) from fun o => keep_cell Hm1.out (fun f => f) _ ((Keep.of_none hb2).trans ((Keep.refl _ _).alloc o))); clear hb2 hrow3)
        | (go_at_call 7; ((with_reducible refine (mput_any _ b _ m _ ((HB1.out.below Hb2.out).below ((Below.refl _ _).alloc (Nat.le_refl _) _)) (Hm2.out _) Hn.out).mono ?_)); rintro e w3 hput; obtain ⟨A3, cap3, rfl, hown3, hb3⟩ := hput; rw [Hq.out] at hown3; rw [Hq.out, Hcd.out]; have HR3 := hide (Rd.of_own (S := fun _ => True) hown3 (fun _ _ _ => trivial)); have hrowR := (hb3.block w2.heap.size (by simp)).trans (heap_alloc_new _ _); have HrowR := hide hrowR; have hrN := (hb3.block N (by simp; omega)).trans ((Below.heap_alloc _ _ N hN2).trans HrowN2.out); have HrowN3 := hide hrN; have c0 : w3.cell? ⟨w2.heap.size, 0, none⟩ = some (.int .u64 b.toD.gen) := cell_of_row _ _ 0 _ _ _ hrowR; have c1 : w3.cell? ⟨w2.heap.size, 1, none⟩ = some (.int .u64 b.toD.epoch) := cell_of_row _ _ 1 _ _ _ hrowR; have c2 : w3.cell? ⟨w2.heap.size, 2, none⟩ = some (.int .i64 b.toD.writer) := cell_of_row _ _ 2 _ _ _ hrowR; have c3 : w3.cell? ⟨w2.heap.size, 3, none⟩ = some (.int .u64 b.toD.stamp) := cell_of_row _ _ 3 _ _ _ hrowR; have c4 : w3.cell? ⟨w2.heap.size, 4, none⟩ = some (.slice AR2 b.toD.refs.length cR2) := cell_of_row _ _ 4 _ _ _ hrowR; have c5 : w3.cell? ⟨w2.heap.size, 5, none⟩ = some (.slice AP2 b.toD.packs.length cP2) := cell_of_row _ _ 5 _ _ _ hrowR; have Hb3 := hide (below_alloc hb3); clear b0 b1 b2 b3 b4 b5 hb3 hown3 hrowR hrN)
        | (go_at_call 8; ((with_reducible refine (dput_any _ b.toD _ _ (Hd2.out.below Hb3.out) Hthin.out Hnum.out).mono ?_)); rintro e w4 ⟨rfl, hb4⟩; rw [Hq2.out, Hcd2.out]; simp only [strV]; have Hb4 := hide hb4; clear c0 c1 c2 c3 c4 c5 hb4)
        | fail)
      have hN4 : w4.heap[N]? = some (.cells #[.int .u64 b.gen, .int .u64 b.epoch, .int .i64 b.writer, .int .u64 b.stamp, .slice AR b.refs.length cR, .slice AP b.packs.length cP] 26 (0, 0)) := (Hb4.out.block N (by have := Hb3.out.size; omega)).trans HrowN3.out
      have hR4 : w4.heap[w2.heap.size]? = some (.cells #[.int .u64 b.toD.gen, .int .u64 b.toD.epoch, .int .i64 b.toD.writer, .int .u64 b.toD.stamp, .slice AR2 b.toD.refs.length cR2, .slice AP2 b.toD.packs.length cP2] 31 (0, 0)) := (Hb4.out.block _ (Below.lt_of_row HrowR.out)).trans HrowR.out
      have hR3w : w2.heap.size < w3.heap.size := Below.lt_of_row HrowR.out
      have hbig : Below w.heap.size w w4 := Hbw.out.trans ((Hb2.out.trans ((Hb3.out.trans (Hb4.out.mono Hb3.out.size)).mono Hb2.out.size)).mono Hbw.out.size)
      have hB4 := (((HB1.out.below Hb2.out).below Hb3.out).below Hb4.out)
      have hD4 := ((Hd2.out.below Hb3.out).below Hb4.out)
      have hm4 : w4.cell? ⟨0, 0, none⟩ = some (.int .i64 m) := keep_cell Hm0.out (fun f => f) w4 (Keep.of_none hbig)
      have hR4r := HR3.out.keep (Keep.of_none Hb4.out) (fun _ _ _ f => f)
      obtain ⟨C, hC⟩ : ∃ C : World → Prop, C = Below w4.heap.size w4 := ⟨_, rfl⟩
      have HCe := hide hC
      have HC1 := hide (show ∀ w', InC C w' → w'.rangeAt N 0 [.int .u64 b.gen, .int .u64 b.epoch, .int .i64 b.writer, .int .u64 b.stamp, .slice AR b.refs.length cR, .slice AP b.packs.length cP] from InC.of fun w' h => row6 (((hC ▸ h : Below w4.heap.size w4 w').block N (Below.lt_of_row hN4)).trans hN4))
      have HC2 := hide (show ∀ w', InC C w' → w'.rangeAt w2.heap.size 0 [.int .u64 b.toD.gen, .int .u64 b.toD.epoch, .int .i64 b.toD.writer, .int .u64 b.toD.stamp, .slice AR2 b.toD.refs.length cR2, .slice AP2 b.toD.packs.length cP2] from InC.of fun w' h => row6 (((hC ▸ h : Below w4.heap.size w4 w').block _ (Below.lt_of_row hR4)).trans hR4))
      have HC3 := hide (show ∀ w', InC C w' → (convert 27 9 (.slice A3 q.length cap3)).run Tryz.prog w' = .ok (.string ⟨q.toArray⟩) w' from InC.of fun w' h => run_convert_rd (P := Tryz.prog) w' 27 9 5 Tryz.underlying27 Tryz.underlying5 Tryz.underlying9 _ A3 q cap3 (hR4r.keep (Keep.of_none (hC ▸ h)) (fun _ _ _ f => f)))
      have HC4 := hide (show ∀ w', C w' → Calls Tryz.prog 6 #[.agg #[.int .u64 b.gen, .int .u64 b.epoch, .int .i64 b.writer, .int .u64 b.stamp, .slice AR b.refs.length cR, .slice AP b.packs.length cP]] w' fun e w'' => e = .returned (.int .i64 cd) ∧ C w'' from fun w' h => by
        rw [hC] at h ⊢
        have h1 := check_any _ b _ m w' (hB4.below h) (keep_cell hm4 (fun f => f) w' (Keep.of_none h))
        rw [Hcd.out] at h1
        exact h1.mono fun e w'' hh => ⟨hh.1, h.trans (hh.2.mono h.size)⟩)
      have HC5 := hide (show ∀ w', C w' → Calls Tryz.prog 9 #[.agg #[.int .u64 b.toD.gen, .int .u64 b.toD.epoch, .int .i64 b.toD.writer, .int .u64 b.toD.stamp, .slice AR2 b.toD.refs.length cR2, .slice AP2 b.toD.packs.length cP2]] w' fun e w'' => e = .returned (.int .i64 cd) ∧ C w'' from fun w' h => by
        rw [hC] at h ⊢
        have h1 := dcheck_any _ b.toD _ w' (hD4.below h)
        rw [Hcd2.out] at h1
        exact h1.mono fun e w'' hh => ⟨hh.1, h.trans (hh.2.mono h.size)⟩)
      have HC0 := hide (show C w4.drew by rw [hC]; exact (Below.refl _ _).drew)
      have Hbig := hide hbig
      have Hm4 := hide hm4
      have hcq : ((cd : Int) != (cd : Int)) = false := bne_self_eq_false _
      haveI : Nonempty (Wl C) := ⟨⟨_, HC0.out⟩⟩
      clear hC hbig hm4 hN4 hR4 hB4 hD4 hR4r hR3w
      refine wp_region_mix C (by kernel_rfl) (by kernel_rfl) ?_
      refine Mixed.batch [0, 2] 14 (by kernel_rfl) (by kernel_rfl) (by kernel_rfl) (by kernel_rfl) HC0.out _ (by simp only [List.map_cons, List.map_nil, List.getElem?_toArray, List.getElem?_cons_zero, List.getElem?_cons_succ, Option.getD_some]; rfl) (fun R hR => ?_)
      repeat (first | go_big_quiet_skip | (go_big_quiet_want; first
        | (refine quiet_loads 26 (.tmp 2) rfl N 0 rfl _ HC1.out _ Tryz.underlying26 rfl (by kernel_rfl) ?_; go_simp; go_big_quiet_on)
        | (refine quiet_loads 31 (.tmp 5) rfl w2.heap.size 0 rfl _ HC2.out _ Tryz.underlying31 rfl (by kernel_rfl) ?_; go_simp; go_big_quiet_on)
        | (go_big_quiet_op; go_big_quiet_on)))
      refine wpQuiet_nil (hR.out _ ?_)
      clear hR R
      refine Mixed.one 1 13 (by kernel_rfl) (by kernel_rfl) (by simp only [List.getElem?_toArray, List.getElem?_cons_zero, List.getElem?_cons_succ]; rfl) (fun K hK => ?_)
      go_simp
      go_at_call 6
      refine (HC4.out _ HC0.out).mono ?_
      rintro e w5 ⟨rfl, hc5⟩
      refine hK.out _ _ (fun _ => hc5) ?_
      clear hK K
      try simp only [Act.put, List.setIfInBounds_toArray, List.set_cons_zero, List.set_cons_succ]
      refine Mixed.one 3 12 (by kernel_rfl) (by kernel_rfl) (by simp only [List.getElem?_toArray, List.getElem?_cons_zero, List.getElem?_cons_succ]; rfl) (fun K hK => ?_)
      go_simp
      go_at_call 9
      refine (HC5.out _ hc5).mono ?_
      rintro e w6 ⟨rfl, hc6⟩
      refine hK.out _ _ (fun _ => hc6) ?_
      clear hK K
      try simp only [Act.put, List.setIfInBounds_toArray, List.set_cons_zero, List.set_cons_succ]
      refine Mixed.batch [4, 5, 6, 7, 8, 9, 10, 11, 12, 13, 14, 15] 0 (by kernel_rfl) (by kernel_rfl) (by kernel_rfl) (by kernel_rfl) hc6 _ (by simp only [List.map_cons, List.map_nil, List.getElem?_toArray, List.getElem?_cons_zero, List.getElem?_cons_succ, Option.getD_some]; rfl) (fun R hR => ?_)
      repeat (first | go_big_quiet_skip | (go_big_quiet_want; first
        | (refine quiet_convert 27 9 (.tmp 50) rfl _ rfl _ HC3.out ?_; go_simp; go_big_quiet_on)
        | (go_big_quiet_op; go_big_quiet_on)))
      refine wpQuiet_nil (hR.out _ ?_)
      clear hR R
      refine Mixed.done (by kernel_rfl) ?_
      have hb6 : Below w.heap.size w w6 := Hbig.out.trans (((HCe.out ▸ hc6 : Below w4.heap.size w4 w6)).mono Hbig.out.size)
      have Hb6 := hide hb6
      have HR6 := hide (Hr.out.below hb6 (fun _ _ h => h))
      have Hm6 := hide (show w6.cell? ⟨0, 0, none⟩ = some (.int .i64 m) from keep_cell Hm0.out (fun f => f) w6 (Keep.of_none hb6))
      clear hc5 hc6 hb6 hcq hd5 this HC0 HC1 HC2 HC3 HC4 HC5
      rcases hro : readOkB l with _ | _
      case false => as_aux_lemma =>
        have Hno := hide (show ¬ readOkB l = true by rw [hro]; simp)
        have HnoD := hide (show ¬ readOkD l = true by rw [← read_same, hro]; simp)
        clear hro
        go_wp2_with (first
          | (go_at_call 10; ((with_reducible refine (mread_any _ A cap l m _ HR6.out Hl.out Hm6.out).mono ?_)); rintro e w7 hrd; unfold MRead at hrd; rw [if_neg Hno.out] at hrd; obtain ⟨rfl, hb7⟩ := hrd; simp only [zeroBody]; have HR7 := hide (HR6.out.keep (Keep.of_none hb7) (fun _ _ _ f => f)); have Hm7 := hide (show w7.cell? ⟨0, 0, none⟩ = some (.int .i64 m) from keep_cell Hm6.out (fun f => f) w7 (Keep.of_none hb7)); have Hb7 := hide hb7; clear hb7)
          | (refine wpList_conv_rd rfl (.tmp 66) rfl l rfl rfl (HR7.out.alloc _) ?_)
          | (go_at_call 11; ((with_reducible refine (dread_any l _ Hl.out).mono ?_)); rintro e w8 hrd; unfold DRead at hrd; rw [if_neg HnoD.out] at hrd; obtain ⟨rfl, hb8⟩ := hrd; simp only [zeroBody]; have hw7 : w7.heap.size < w8.heap.size := (by have := hb8.size; simp at this; omega); have hrow7 := (hb8.block w7.heap.size (by simp)).trans (heap_alloc_new _ _); have z0 : w8.cell? ⟨w7.heap.size, 0, none⟩ = some (.int .u64 0) := cell_of_row _ _ 0 _ _ _ hrow7; have z1 : w8.cell? ⟨w7.heap.size, 1, none⟩ = some (.int .u64 0) := cell_of_row _ _ 1 _ _ _ hrow7; have z2 : w8.cell? ⟨w7.heap.size, 2, none⟩ = some (.int .i64 0) := cell_of_row _ _ 2 _ _ _ hrow7; have z3 : w8.cell? ⟨w7.heap.size, 3, none⟩ = some (.int .u64 0) := cell_of_row _ _ 3 _ _ _ hrow7; have z4 : w8.cell? ⟨w7.heap.size, 4, none⟩ = some (.slice none 0 0) := cell_of_row _ _ 4 _ _ _ hrow7; have z5 : w8.cell? ⟨w7.heap.size, 5, none⟩ = some (.slice none 0 0) := cell_of_row _ _ 5 _ _ _ hrow7; have Hm8 := hide (show w8.cell? ⟨0, 0, none⟩ = some (.int .i64 m) from keep_cell Hm7.out (fun f => f) w8 (((Keep.refl _ _).alloc _).trans (Keep.of_none hb8))); have Hb8 := hide (below_alloc hb8); clear hb8 hrow7)
          | (go_at_call 12; ((with_reducible refine (same_like _ _ zeroA _ _ _ rfl (zeroA_body _) (zeroA_body _)).mono ?_)); rintro e w9 ⟨rfl, hb9⟩; have Hm9 := hide (show w9.cell? ⟨0, 0, none⟩ = some (.int .i64 m) from keep_cell Hm8.out (fun f => f) w9 (((Keep.refl _ _).alloc _).trans (Keep.of_none hb9))); have Hb9 := hide (below_alloc hb9); clear hb9)
          | (go_at_call 14; ((with_reducible refine (one_any m _ Hm9.out).mono ?_)); rintro e w10 ⟨rfl, hb10⟩; have Hb10 := hide hb10; clear hb10)
          | fail)
        go_ret
        exact ⟨rfl, Hb6.out.trans ((Hb7.out.trans ((Hb8.out.trans ((Hb9.out.trans (Hb10.out.mono Hb9.out.size)).mono Hb8.out.size)).mono Hb7.out.size)).mono Hb6.out.size)⟩
      case true => as_aux_lemma =>
        have Hyes := hide hro
        have HyesD := hide (show readOkD l = true by rw [← read_same, hro])
        clear hro
        go_wp2_with (first
          | (go_at_call 10; ((with_reducible refine (mread_any _ A cap l m _ HR6.out Hl.out Hm6.out).mono ?_)); rintro e w7 hrd; unfold MRead at hrd; rw [if_pos Hyes.out] at hrd; obtain ⟨v7, rfl, hb7c, hb7⟩ := hrd; have HB7 := hide hb7c; obtain ⟨AR7, cR7, xs7, AP7, cP7, xp7, rfl, hx7⟩ := hb7c; clear hx7; have HR7 := hide (HR6.out.keep (Keep.of_none hb7) (fun _ _ _ f => f)); have Hm7 := hide (show w7.cell? ⟨0, 0, none⟩ = some (.int .i64 m) from keep_cell Hm6.out (fun f => f) w7 (Keep.of_none hb7)); have Hb7 := hide hb7; clear hb7)
          | (refine wpList_conv_rd rfl (.tmp 66) rfl l rfl rfl (HR7.out.alloc _) ?_)
          | (go_at_call 11; ((with_reducible refine (dread_any l _ Hl.out).mono ?_)); rintro e w8 hrd; unfold DRead at hrd; rw [if_pos HyesD.out] at hrd; obtain ⟨v8, rfl, hb8c, hb8⟩ := hrd; have HD8 := hide hb8c; obtain ⟨AR8, cR8, xs8, AP8, cP8, xp8, rfl, hx8⟩ := hb8c; clear hx8; have hw7 : w7.heap.size < w8.heap.size := (by have := hb8.size; simp at this; omega); have hrow7 := (hb8.block w7.heap.size (by simp)).trans (heap_alloc_new _ _); have z0 : w8.cell? ⟨w7.heap.size, 0, none⟩ = some (.int .u64 (bodyR l).toA.gen) := cell_of_row _ _ 0 _ _ _ hrow7; have z1 : w8.cell? ⟨w7.heap.size, 1, none⟩ = some (.int .u64 (bodyR l).toA.epoch) := cell_of_row _ _ 1 _ _ _ hrow7; have z2 : w8.cell? ⟨w7.heap.size, 2, none⟩ = some (.int .i64 (bodyR l).toA.writer) := cell_of_row _ _ 2 _ _ _ hrow7; have z3 : w8.cell? ⟨w7.heap.size, 3, none⟩ = some (.int .u64 (bodyR l).toA.stamp) := cell_of_row _ _ 3 _ _ _ hrow7; have z4 : w8.cell? ⟨w7.heap.size, 4, none⟩ = some (.slice AR7 (bodyR l).toA.refs.length cR7) := cell_of_row _ _ 4 _ _ _ hrow7; have z5 : w8.cell? ⟨w7.heap.size, 5, none⟩ = some (.slice AP7 (bodyR l).toA.packs.length cP7) := cell_of_row _ _ 5 _ _ _ hrow7; have Hm8 := hide (show w8.cell? ⟨0, 0, none⟩ = some (.int .i64 m) from keep_cell Hm7.out (fun f => f) w8 (((Keep.refl _ _).alloc _).trans (Keep.of_none hb8))); have Hb8 := hide (below_alloc hb8); clear hb8 hrow7)
          | (go_at_call 13; ((with_reducible refine (like_any _ _ l _ _ _ ((HB7.out.below Hb8.out).below ((Below.refl _ _).alloc (Nat.le_refl _) _)) (HD8.out.below ((Below.refl _ _).alloc (Nat.le_refl _) _)) Hyes.out).mono ?_)); rintro e w9 ⟨rfl, hb9⟩; have Hm9 := hide (show w9.cell? ⟨0, 0, none⟩ = some (.int .i64 m) from keep_cell Hm8.out (fun f => f) w9 (((Keep.refl _ _).alloc _).trans (Keep.of_none hb9))); have Hb9 := hide (below_alloc hb9); clear hb9)
          | (go_at_call 14; ((with_reducible refine (one_any m _ Hm9.out).mono ?_)); rintro e w10 ⟨rfl, hb10⟩; have Hb10 := hide hb10; clear hb10)
          | fail)
        go_ret
        exact ⟨rfl, Hb6.out.trans ((Hb7.out.trans ((Hb8.out.trans ((Hb9.out.trans (Hb10.out.mono Hb9.out.size)).mono Hb8.out.size)).mono Hb7.out.size)).mono Hb6.out.size)⟩
end Go.Proofs.YtimfmbcihopaaaaGreatDoor
