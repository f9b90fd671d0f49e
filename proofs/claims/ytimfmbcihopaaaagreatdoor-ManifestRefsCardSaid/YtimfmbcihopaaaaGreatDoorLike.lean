/- law17's like and one: a body that was read is the document's; a body that is put, and read. -/
import Derived.Test.YtimfmbcihopaaaaGreatDoorOwn
namespace Go.Proofs.YtimfmbcihopaaaaGreatDoor
open Go.RowKit Go.Cof

section
variable {F : Nat → Prop} {w w' : World} {T : Nat → Prop}
theorem BodyC.keep {b : BodyA} {v : Value} (h : BodyC w T b v) (hk : Keep F w w') (hd : ∀ i, T i → i < w.heap.size → ¬ F i) : BodyC w' T b v := by
  obtain ⟨AR, cR, xsR, AP, cP, xsP, e, r1, r2, r3, r4, r5, r6, r7⟩ := h
  exact ⟨AR, cR, xsR, AP, cP, xsP, e, r1.keep hk hd, r2, r3.keep hk hd, r4.imp (fun p c _ hc => PackC.keep hk hd p c hc), r5, r6, fun i hi => Nat.lt_of_lt_of_le (r7 i hi) hk.size⟩
theorem DBodyC.keep {b : BodyD} {v : Value} (h : DBodyC w T b v) (hk : Keep F w w') (hd : ∀ i, T i → i < w.heap.size → ¬ F i) : DBodyC w' T b v := by
  obtain ⟨AR, cR, xsR, AP, cP, xsP, e, r1, r2, r3, r4, r5, r6, r7, r8⟩ := h
  exact ⟨AR, cR, xsR, AP, cP, xsP, e, r1.keep hk hd, r2, r3.keep hk hd, r4.imp (fun p c _ hc => DPackC.keep hk hd p c hc), r5, r6, fun i hi => Nat.lt_of_lt_of_le (r7 i hi) hk.size, r8⟩
end
theorem below_alloc {w w' : World} {o : Obj} (h : Below (w.alloc o).heap.size (w.alloc o) w') : Below w.heap.size w w' :=
  ((Below.refl _ w).alloc (Nat.le_refl _) o).trans (h.mono (by simp))
theorem fewB_ok (b : BodyA) (h : okB b = true) : fewB b = true := by
  have h1 := names_short b h
  simp only [okB, Bool.and_eq_true, decide_eq_true_eq, List.all_eq_true] at h
  simp only [fewB, Bool.and_eq_true, decide_eq_true_eq, List.all_eq_true]
  refine ⟨by omega, by omega, fun r hr => Nat.le_trans (h1 r hr) (by omega), fun p hp => ?_⟩
  have := h.2.2.1 p hp
  simp only [packOk, decide_eq_true_eq] at this
  omega
theorem nums_read (l : List UInt8) : NumsD (bodyR l) := by
  have h8 : ∀ s, (numR 8 s).1 < 18446744073709551616 := fun s => by have := beV_num 8 s (by omega); simpa using this
  exact ⟨h8 _, h8 _, h8 _⟩
theorem read_okB (l : List UInt8) (h : readOkB l = true) : okB (bodyR l).toA = true := by
  rw [readOkB, Bool.and_eq_true] at h
  exact h.1

set_option maxHeartbeats 4000000 in
set_option maxRecDepth 100000 in
theorem like_any (T T' : Nat → Prop) (l : List UInt8) (v v' : Value) (w : World) (h : BodyC w T (bodyR l).toA v) (h' : DBodyC w T' (bodyR l) v') (hok : readOkB l = true) :
    Calls Tryz.prog 13 #[v, v'] w fun e w' => e = .returned (.bool true) ∧ Below w.heap.size w w' := by
  have hbd := read_toD l hok
  have hokb := read_okB l hok
  have hthin := thin_read l
  have hnum := nums_read l
  generalize (bodyR l).toA = b at *
  generalize bodyR l = d at *
  have hfew := fewB_ok b hokb
  have hcode : codeD d = 0 := by rw [← hbd, code_toD, codeB, hokb]; rfl
  obtain ⟨AR, cR, xsR, AP, cP, xsP, hv, hx1⟩ := id h
  obtain ⟨AR', cR', xsR', AP', cP', xsP', hv', hx2⟩ := id h'
  clear hx1 hx2
  subst hv hv'
  have Hb := hide h
  have Hd := hide h'
  have Hbd := hide hbd
  have Hfew := hide hfew
  have Hcode := hide hcode
  have Hthin := hide hthin
  have Hnum := hide hnum
  clear h h' hbd hokb hthin hnum hfew hcode hok
  obtain ⟨N, hN⟩ : ∃ N, N = w.heap.size := ⟨_, rfl⟩
  obtain ⟨ca, hca⟩ : ∃ ca : List Value, ca = [.int .u64 d.gen, .int .u64 d.epoch, .int .i64 d.writer, .int .u64 d.stamp, .slice AR' d.refs.length cR', .slice AP' d.packs.length cP'] := ⟨_, rfl⟩
  have Hca := hide hca
  have HsA := hide (show (Tryz.prog.info? 31).map (·.size) = some ca.toArray.size by rw [hca]; kernel_rfl)
  have HN := hide hN
  clear hN hca
  go_enter Tryz.func13, Tryz.ntmps13
  go_upto_region 1 with (fail)
  rw [← HN.out]
  obtain ⟨W1, hW1⟩ : ∃ W : World, W = (w.alloc (.cells #[.int .u64 b.gen, .int .u64 b.epoch, .int .i64 b.writer, .int .u64 b.stamp, .slice AR b.refs.length cR, .slice AP b.packs.length cP] 26)).alloc (.cells #[.int .u64 d.gen, .int .u64 d.epoch, .int .i64 d.writer, .int .u64 d.stamp, .slice AR' d.refs.length cR', .slice AP' d.packs.length cP'] 31) := ⟨_, rfl⟩
  have hbw : Below w.heap.size w W1 := by rw [hW1]; exact ((Below.refl _ _).alloc (Nat.le_refl _) _).alloc (by simp) _
  have Hbw := hide hbw
  have HB1 := hide (Hb.out.below hbw)
  have HDc := hide (show DBodyC W1 T' d (.agg ca.toArray) by rw [Hca.out]; exact Hd.out.below hbw)
  have hszW : W1.heap.size = N + 2 := by rw [hW1, HN.out]; simp
  have hr1 : W1.heap[N + 1]? = some (.cells ca.toArray 31 (0, 0)) := by
    have := heap_alloc_new (w.alloc (.cells #[.int .u64 b.gen, .int .u64 b.epoch, .int .i64 b.writer, .int .u64 b.stamp, .slice AR b.refs.length cR, .slice AP b.packs.length cP] 26)) (.cells ca.toArray 31)
    rw [show (w.alloc (.cells #[.int .u64 b.gen, .int .u64 b.epoch, .int .i64 b.writer, .int .u64 b.stamp, .slice AR b.refs.length cR, .slice AP b.packs.length cP] 26)).heap.size = N + 1 by rw [HN.out]; simp] at this
    rw [hW1, HN.out, ← HN.out]
    rw [Hca.out] at this ⊢
    exact this
  have b0 : W1.cell? ⟨N, 0, none⟩ = some (.int .u64 b.gen) := by rw [hW1, HN.out]; go_simp
  have b1 : W1.cell? ⟨N, 1, none⟩ = some (.int .u64 b.epoch) := by rw [hW1, HN.out]; go_simp
  have b2 : W1.cell? ⟨N, 2, none⟩ = some (.int .i64 b.writer) := by rw [hW1, HN.out]; go_simp
  have b3 : W1.cell? ⟨N, 3, none⟩ = some (.int .u64 b.stamp) := by rw [hW1, HN.out]; go_simp
  have b4 : W1.cell? ⟨N, 4, none⟩ = some (.slice AR b.refs.length cR) := by rw [hW1, HN.out]; go_simp
  have b5 : W1.cell? ⟨N, 5, none⟩ = some (.slice AP b.packs.length cP) := by rw [hW1, HN.out]; go_simp
  have HW := hide hszW
  have Hr1 := hide hr1
  rw [← hW1]
  clear hW1 hbw hszW hr1
  go_wp2_with (first
    | (go_at_call 5; refine (own_any T b _ _ HB1.out).mono ?_; rintro e w2 hown; unfold OwnP at hown; rw [if_pos Hfew.out] at hown; obtain ⟨v2, rfl, hd2, hb2⟩ := hown; rw [Hbd.out] at hd2; have Hd2 := hide hd2; obtain ⟨AR2, cR2, xsR2, AP2, cP2, xsP2, rfl, hx2⟩ := hd2; clear hx2; have Hb2 := hide hb2; clear hb2)
    | (go_at_call 8; ((with_reducible refine (dput_any _ d _ _ (Hd2.out.below ((Below.refl _ _).alloc (Nat.le_refl _) _)) Hthin.out Hnum.out).mono ?_)); rintro e w3 ⟨rfl, hb3⟩; rw [Hcode.out]; simp only [strV]; have Hb3 := hide (Hb2.out.trans ((below_alloc hb3).mono Hb2.out.size)); have Hr3 := hide ((Hb3.out.block (N + 1) (by rw [HW.out]; omega)).trans Hr1.out); clear hb3)
    | (with_reducible refine wpList_load_row rfl 31 (.tmp 3) rfl (N + 1) rfl 31 ca.toArray (0, 0) _ Hr3.out Tryz.underlying31 rfl HsA.out ?_)
    | (go_at_call 8; ((with_reducible refine (dput_any _ d _ _ (HDc.out.below Hb3.out) Hthin.out Hnum.out).mono ?_)); rintro e w4 ⟨rfl, hb4⟩; rw [Hcode.out]; simp only [strV]; have Hb4 := hide hb4; clear hb4)
    | fail)
  go_ret
  exact ⟨rfl, Hbw.out.trans ((Hb3.out.mono Hbw.out.size).trans (Hb4.out.mono (Nat.le_trans Hbw.out.size Hb3.out.size)))⟩
end Go.Proofs.YtimfmbcihopaaaaGreatDoor
