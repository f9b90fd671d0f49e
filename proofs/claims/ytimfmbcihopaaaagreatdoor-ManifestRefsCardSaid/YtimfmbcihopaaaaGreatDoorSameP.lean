/- Same of like bodies, packs and all. -/
import Derived.Test.YtimfmbcihopaaaaGreatDoorLike
namespace Go.Proofs.YtimfmbcihopaaaaGreatDoor
open Go.RowKit Go.Cof

theorem Tryz.fields73 : Tryz.prog.underlying 73 = some (.struct (Tryz.prog.fieldsOf 73)) := by kernel_rfl
theorem Tryz.stood73 : Tryz.prog.stoodInHeld 73 = false := by kernel_rfl
theorem size_of_info {t n : Nat} (hz : (Tryz.prog.info? t).map (·.size) = some n) : ∀ w : World, (sizeOf t).run Tryz.prog w = .ok n w := fun w => by
  cases hq : Tryz.prog.info? t with
  | none => simp [hq] at hz
  | some i =>
    have : i.size = n := by simpa [hq] using hz
    simp [sizeOf, typeInfo, hq, this]
theorem isAgg_arr {t n e : Nat} (h : Tryz.prog.underlying t = some (.array n e)) (w : World) : (isAgg t).run Tryz.prog w = .ok true w := by
  unfold isAgg
  rw [Sem.run_bind, run_underlying h w]
  rfl
theorem part_arr {t n e : Nat} (h : Tryz.prog.underlying t = some (.array n e)) (hz : (Tryz.prog.info? t).map (·.size) = some n) (cs : Array Value) (o : Nat) (l : List UInt8) (he : cs.extract o (o + n) = (l.map Extern.Stop.cell).toArray) (w : World) :
    (part t cs o).run Tryz.prog w = .ok (.agg (l.map Extern.Stop.cell).toArray) w := by
  simp only [part, Sem.run_bind, isAgg_arr h, Result.andThen_ok, if_true, size_of_info hz, Sem.run_pure, he]
theorem eq_arr {n : Nat} {t : TypeId} (h : Tryz.prog.underlying t = some (.array n 5)) (x : Bv n) (d : Nat) (w : World) : (Op.equalIn (d + 2) t (.agg (x.toList.map Extern.Stop.cell).toArray) (.agg (x.toList.map Extern.Stop.cell).toArray)).run Tryz.prog w = .ok true w := by
  have hid := run_equalIn_bytes (P := Tryz.prog) w d t 5 n h Tryz.underlying5 Tryz.size1 x.toList x.toList (by simp) (by simp)
  rw [beq_self_eq_true] at hid
  exact hid
theorem blob_fields : (Tryz.prog.fieldsOf 73).toList = [{ name := "Name", type := 65, offset := 0, embedded := false, tag := "", pkgPath := "", byteOffset := 0 }, { name := "Sum", type := 49, offset := 16, embedded := false, tag := "", pkgPath := "", byteOffset := 16 }] := by kernel_rfl
theorem blob_p0 (x : BlobA) (c : List Value) (h : BlobC x c) (w : World) : (part 65 c.toArray 0).run Tryz.prog w = .ok (.agg (x.name.toList.map Extern.Stop.cell).toArray) w :=
  part_arr Tryz.underlying65 (by kernel_rfl) _ _ _ (by
    apply Array.toList_inj.1
    rw [Array.toList_extract, List.extract_eq_take_drop, h, List.drop_zero, List.take_append_of_le_length (by rw [encB_len]; decide), List.take_of_length_le (by rw [encB_len]; decide)]
    rfl) w
theorem blob_p1 (x : BlobA) (c : List Value) (h : BlobC x c) (w : World) : (part 49 c.toArray 16).run Tryz.prog w = .ok (.agg (x.sum.toList.map Extern.Stop.cell).toArray) w :=
  part_arr Tryz.underlying49 (by kernel_rfl) _ _ _ (by
    apply Array.toList_inj.1
    rw [Array.toList_extract, List.extract_eq_take_drop, h, List.drop_append, List.drop_eq_nil_of_le (by rw [encB_len]; decide), encB_len, Nat.sub_self, List.drop_zero, List.nil_append, List.take_of_length_le (by rw [encB_len]; decide)]
    rfl) w
theorem eq_blob (x : BlobA) (c : List Value) (h : BlobC x c) (d : Nat) (w : World) : (Op.equalIn (d + 3) 73 (.agg c.toArray) (.agg c.toArray)).run Tryz.prog w = .ok true w := by
  have h0 := run_equalIn_struct (P := Tryz.prog) w (d + 2) 73 c.toArray c.toArray Tryz.fields73 Tryz.stood73
  rw [blob_fields] at h0
  exact h0.trans (eq_two (d + 2) c.toArray _ _ w 65 49 0 16 _ _ (by decide) (by decide) rfl rfl rfl rfl (blob_p0 x c h w) (blob_p1 x c h w) (eq_arr Tryz.underlying65 x.name d w) (eq_arr Tryz.underlying49 x.sum d w))
theorem neq_blob (x : BlobA) (c : List Value) (h : BlobC x c) : ∀ w : World, (binOp .neq 73 (.agg c.toArray) (.agg c.toArray)).run Tryz.prog w = .ok (.bool false) w := fun w => by
  have h2 := eq_blob x c h 9997 w
  rw [run_neq_struct]
  have h3 : (Op.equalIn 10000 73 (.agg c.toArray) (.agg c.toArray)).run Tryz.prog w = .ok true w := h2
  rw [h3]
  rfl

set_option maxHeartbeats 4000000 in
set_option maxRecDepth 100000 in
/-- Two slices that read as one list of blobs are equal. -/
theorem equalB_same (A1 A2 : Option Addr) (c1 c2 : Nat) (l : List BlobA) (S1 S2 : Nat → Prop) (xs ys : List Value) (w : World) (hr1 : Rd w S1 48 A1 l.length xs) (he1 : Els BlobC l xs) (hr2 : Rd w S2 48 A2 l.length ys) (he2 : Els BlobC l ys) (hl : l.length ≤ 140737488351232) :
    Calls Tryz.prog 42 #[.slice A1 l.length c1, .slice A2 l.length c2] w fun e w' => e = .returned (.bool true) ∧ Below w.heap.size w w' := by
  have Hr1 := hide hr1
  have He1 := hide he1
  have Hr2 := hide hr2
  have He2 := hide he2
  clear hr1 he1 hr2 he2
  go_enter Tryz.func42, Tryz.ntmps42
  go_wp2_with fail
  go_loopw [13] (fun i wr => ∃ k : Nat, k ≤ l.length ∧ i = .int .i64 k ∧ Below w.heap.size w wr) (fun i _ => l.length - (intOf i).toNat)
  case atStart => exact ⟨0, Nat.zero_le _, rfl, Below.refl _ _⟩
  case round =>
    obtain ⟨k, hk, rfl, hb⟩ := hrel
    have Hb := hide hb
    clear hb
    by_cases hlt : k < l.length
    · obtain ⟨b1, o1, rfl, _, hbl1, _⟩ := Hr1.out.at_ (by omega)
      obtain ⟨b2, o2, rfl, _, hbl2, _⟩ := Hr2.out.at_ (by omega)
      obtain ⟨x1, hx1, hxl1, hg1⟩ := rd_range Hr1.out He1.out rfl (fun p c => BlobC.len p c) hlt
      obtain ⟨x2, hx2, _, hg2⟩ := rd_range Hr2.out He2.out rfl (fun p c => BlobC.len p c) hlt
      obtain rfl : x2 = x1 := by rw [hx1, hx2]
      have hne := neq_blob l[k] x2 hx1
      have Hs1 := hide (range_drewN (range_keep hg1 (Keep.of_none Hb.out) hbl1 (fun f => f)))
      have Hs2 := hide (range_drewN (range_keep hg2 (Keep.of_none Hb.out) hbl2 (fun f => f)))
      have Hi := hide (show (Tryz.prog.info? 73).map (·.size) = some x2.length by rw [hxl1]; kernel_rfl)
      clear hg1 hg2 hx1 hx2 hxl1
      go_wp2_with fail
      refine wp_region_quiet_lit (by kernel_rfl) (by kernel_rfl) ?_
      repeat (first | (refine wpQuiet_load_mid rfl 73 (.tmp 18) rfl b1 (o1 + k * 48) rfl x2 _ Hs1.out Tryz.underlying73 rfl Hi.out ?_; go_simp) | (refine wpQuiet_load_mid rfl 73 (.tmp 22) rfl b2 (o2 + k * 48) rfl x2 _ Hs2.out Tryz.underlying73 rfl Hi.out ?_; go_simp) | go_big_quiet_step (fail))
      refine wpQuiet_nil ?_
      intro nq
      go_wp2_with fail
      exact ⟨⟨k + 1, by omega, by go_num, below_drewN Hb.out nq⟩, by simp [intOf]; omega⟩
    · go_wp2_with fail
      go_ret
      exact ⟨rfl, Hb.out⟩

theorem eql_key (x : Bv 32) : ∀ w : World, (binOp .eql 58 (.agg (encB x).toArray) (.agg (encB x).toArray)).run Tryz.prog w = .ok (.bool true) w := fun w => by
  have h := run_eql_bytes (P := Tryz.prog) w 58 5 32 Tryz.underlying58 Tryz.underlying5 Tryz.size1 x.toList x.toList (by simp) (by simp)
  rw [beq_self_eq_true] at h
  exact h

set_option maxHeartbeats 4000000 in
set_option maxRecDepth 100000 in
theorem same1_any (p : PackA) (S1 S2 : Nat → Prop) (c1 c2 : List Value) (w : World) (h1 : PackC w S1 p c1) (h2 : PackC w S2 p c2) :
    Calls Tryz.prog 41 #[.agg c1.toArray, .agg c2.toArray] w fun e w' => e = .returned (.bool true) ∧ Below w.heap.size w w' := by
  obtain ⟨A1, k1, xs, hc1, hr1, he1, hl, _⟩ := h1
  obtain ⟨A2, k2, ys, hc2, hr2, he2, _, _⟩ := h2
  have hcount : ((p.count : Int) == p.count) = true := beq_self_eq_true _
  have hkey := eql_key p.key
  obtain ⟨N, hN⟩ : ∃ N, N = w.heap.size := ⟨_, rfl⟩
  have HN := hide hN
  obtain ⟨W, hW⟩ : ∃ W : World, W = (w.alloc (.cells c1.toArray 61)).alloc (.cells c2.toArray 61) := ⟨_, rfl⟩
  have hbW : Below w.heap.size w W := by rw [hW]; exact ((Below.refl _ _).alloc (Nat.le_refl _) _).alloc (by simp) _
  have hn1 : W.heap[N]? = some (.cells c1.toArray 61 (0, 0)) := by rw [hW, hN]; exact (Below.heap_alloc _ _ _ (by simp)).trans (heap_alloc_new _ _)
  have hn2 : W.heap[N + 1]? = some (.cells c2.toArray 61 (0, 0)) := by rw [hW, hN]; exact heap_alloc2_new _ _ _
  have g1 : W.rangeAt N 0 (encB p.key) := fun j v hj => by rw [Nat.zero_add, cell_of_row _ _ j _ _ _ hn1, List.getElem?_toArray, hc1, List.getElem?_append_left (List.getElem?_eq_some_iff.1 hj).1]; exact hj
  have g2 : W.rangeAt (N + 1) 0 (encB p.key) := fun j v hj => by rw [Nat.zero_add, cell_of_row _ _ j _ _ _ hn2, List.getElem?_toArray, hc2, List.getElem?_append_left (List.getElem?_eq_some_iff.1 hj).1]; exact hj
  have a32 : W.cell? ⟨N, 32, none⟩ = some (.int .i64 p.count) := by rw [cell_of_row _ _ 32 _ _ _ hn1, List.getElem?_toArray, hc1, List.getElem?_append_right (by rw [encB_len]; decide), encB_len]; rfl
  have a33 : W.cell? ⟨N, 33, none⟩ = some (.slice A1 p.blobs.length k1) := by rw [cell_of_row _ _ 33 _ _ _ hn1, List.getElem?_toArray, hc1, List.getElem?_append_right (by rw [encB_len]; decide), encB_len]; rfl
  have b32 : W.cell? ⟨N + 1, 32, none⟩ = some (.int .i64 p.count) := by rw [cell_of_row _ _ 32 _ _ _ hn2, List.getElem?_toArray, hc2, List.getElem?_append_right (by rw [encB_len]; decide), encB_len]; rfl
  have b33 : W.cell? ⟨N + 1, 33, none⟩ = some (.slice A2 p.blobs.length k2) := by rw [cell_of_row _ _ 33 _ _ _ hn2, List.getElem?_toArray, hc2, List.getElem?_append_right (by rw [encB_len]; decide), encB_len]; rfl
  have Hq := hide (equalB_same A1 A2 k1 k2 p.blobs S1 S2 xs ys W (hr1.keep (Keep.of_none hbW) (fun _ _ _ f => f)) he1 (hr2.keep (Keep.of_none hbW) (fun _ _ _ f => f)) he2 hl)
  have Hg1 := hide g1
  have Hg2 := hide g2
  have HbW := hide hbW
  have HW := hide hW
  have Hi := hide (show (Tryz.prog.info? 58).map (·.size) = some (encB p.key).length by rw [encB_len]; kernel_rfl)
  clear hN hbW hn1 hn2 g1 g2 hr1 he1 hr2 he2 hl hc1 hc2 hW
  go_enter Tryz.func41, Tryz.ntmps41
  go_upto_region 1 with (fail)
  rw [← HN.out, ← HW.out]
  go_wp2_with (first
    | (with_reducible refine wpList_load_mid rfl 58 (.tmp 5) rfl N 0 rfl (encB p.key) _ Hg1.out Tryz.underlying58 rfl Hi.out ?_)
    | (with_reducible refine wpList_load_mid rfl 58 (.tmp 7) rfl (N + 1) 0 rfl (encB p.key) _ Hg2.out Tryz.underlying58 rfl Hi.out ?_)
    | (go_at_call 42; refine Hq.out.mono ?_; rintro e w1 ⟨rfl, hb1⟩; have Hb1 := hide hb1; clear hb1)
    | fail)
  go_ret
  exact ⟨rfl, HbW.out.trans (Hb1.out.mono HbW.out.size)⟩

set_option maxHeartbeats 4000000 in
set_option maxRecDepth 100000 in
theorem equalF_same (A1 A2 : Option Addr) (c1 c2 : Nat) (l : List PackA) (S1 S2 T1 T2 : Nat → Prop) (xs ys : List Value) (w : World) (hr1 : Rd w S1 34 A1 l.length xs) (he1 : Els (PackC w T1) l xs) (hr2 : Rd w S2 34 A2 l.length ys) (he2 : Els (PackC w T2) l ys) (hl : l.length ≤ 140737488351232) :
    Calls Tryz.prog 44 #[.slice A1 l.length c1, .slice A2 l.length c2, .func (.func 41) #[] #[]] w fun e w' => e = .returned (.bool true) ∧ Below w.heap.size w w' := by
  have Hr1 := hide hr1
  have He1 := hide he1
  have Hr2 := hide hr2
  have He2 := hide he2
  clear hr1 he1 hr2 he2
  go_enter Tryz.func44, Tryz.ntmps44
  go_wp2_with fail
  go_loopw [17] (fun i wr => ∃ k : Nat, k ≤ l.length ∧ i = .int .i64 k ∧ Below w.heap.size w wr) (fun i _ => l.length - (intOf i).toNat)
  case atStart => exact ⟨0, Nat.zero_le _, rfl, Below.refl _ _⟩
  case round =>
    obtain ⟨k, hk, rfl, hb⟩ := hrel
    have Hb := hide hb
    clear hb
    by_cases hlt : k < l.length
    · obtain ⟨b1, o1, rfl, _, hbl1, _⟩ := Hr1.out.at_ (by omega)
      obtain ⟨b2, o2, rfl, _, hbl2, _⟩ := Hr2.out.at_ (by omega)
      obtain ⟨x1, hx1, hxl1, hg1⟩ := rd_range Hr1.out He1.out rfl (fun p c => PackC.len p c) hlt
      obtain ⟨x2, hx2, hxl2, hg2⟩ := rd_range Hr2.out He2.out rfl (fun p c => PackC.len p c) hlt
      have Hs1 := hide (range_keep hg1 (Keep.of_none Hb.out) hbl1 (fun f => f))
      have Hs2 := hide (range_keep hg2 (Keep.of_none Hb.out) hbl2 (fun f => f))
      have Hi1 := hide (show (Tryz.prog.info? 61).map (·.size) = some x1.length by rw [hxl1]; kernel_rfl)
      have Hi2 := hide (show (Tryz.prog.info? 61).map (·.size) = some x2.length by rw [hxl2]; kernel_rfl)
      have Hx1 := hide hx1
      have Hx2 := hide hx2
      have hst1 := store_new wr 61 34 x1 (by kernel_rfl) hxl1 (PackC.one _ _ hx1)
      have hst2 := store_new (wr.alloc (.cells x1.toArray 61)) 61 34 x2 (by kernel_rfl) hxl2 (PackC.one _ _ hx2)
      rw [show (wr.alloc (.cells x1.toArray 61)).heap.size = wr.heap.size + 1 by simp] at hst2
      have Hs2b := hide (range_keep Hs2.out ((Keep.refl (fun _ => False) wr).alloc (.cells x1.toArray 61)) (Nat.lt_of_lt_of_le hbl2 Hb.out.size) (fun f => f))
      obtain ⟨W2, hW2⟩ : ∃ W2, W2 = (wr.alloc (.cells x1.toArray 61)).alloc (.cells x2.toArray 61) := ⟨_, rfl⟩
      have HbW2 := hide (show Below w.heap.size w W2 by rw [hW2]; exact (Hb.out.alloc Hb.out.size _).alloc (by have := Hb.out.size; simp; omega) _)
      have hv1 : W2.rangeAt wr.heap.size 0 x1 := fun j v hj => by rw [hW2, Nat.zero_add, cell_of_row _ _ j _ _ _ ((Below.heap_alloc _ _ _ (by simp)).trans (heap_alloc_new _ _)), List.getElem?_toArray]; exact hj
      have hv2 : W2.rangeAt (wr.heap.size + 1) 0 x2 := fun j v hj => by rw [hW2, Nat.zero_add, cell_of_row _ _ j _ _ _ (heap_alloc2_new _ _ _), List.getElem?_toArray]; exact hj
      have Hv1 := hide hv1
      have Hv2 := hide hv2
      have HW2 := hide hW2
      clear hg1 hg2 hx1 hx2 hW2 hv1 hv2
      go_upto_region 7 with (first
        | (with_reducible refine wpList_load_mid rfl 61 (.tmp 20) rfl b1 (o1 + k * 34) rfl x1 _ Hs1.out Tryz.underlying61 rfl Hi1.out ?_)
        | (with_reducible refine wpList_load_mid rfl 61 (.tmp 24) rfl b2 (o2 + k * 34) rfl x2 _ Hs2b.out Tryz.underlying61 rfl Hi2.out ?_)
        | fail)
      rw [← HW2.out]
      go_wp2_with (first
        | (with_reducible refine wpList_load_mid rfl 61 (.tmp 8) rfl wr.heap.size 0 rfl x1 _ Hv1.out Tryz.underlying61 rfl Hi1.out ?_)
        | (with_reducible refine wpList_load_mid rfl 61 (.tmp 9) rfl (wr.heap.size + 1) 0 rfl x2 _ Hv2.out Tryz.underlying61 rfl Hi2.out ?_)
        | (go_at_call 41; ((with_reducible refine (same1_any l[k] T1 T2 x1 x2 W2 (PackC.keep (Keep.of_none HbW2.out) (fun _ _ _ f => f) _ _ Hx1.out) (PackC.keep (Keep.of_none HbW2.out) (fun _ _ _ f => f) _ _ Hx2.out)).mono ?_)); rintro e w9 ⟨rfl, hb9⟩; have Hb9 := hide (HbW2.out.trans (hb9.mono HbW2.out.size)); clear hb9)
        | fail)
      exact ⟨⟨k + 1, by omega, by go_num, Hb9.out⟩, by simp [intOf]; omega⟩
    · go_wp2_with fail
      go_ret
      exact ⟨rfl, Hb.out⟩
set_option maxHeartbeats 4000000 in
set_option maxRecDepth 100000 in
/-- Same, of one body twice. -/
theorem same_all (T1 T2 : Nat → Prop) (b : BodyA) (v1 v2 : Value) (w : World) (h1 : BodyC w T1 b v1) (h2 : BodyC w T2 b v2) :
    Calls Tryz.prog 12 #[v1, v2] w fun e w' => e = .returned (.bool true) ∧ Below w.heap.size w w' := by
  obtain ⟨A1, c1, xs, P1, p1, ps1, rfl, hr1, he1, hrp1, hep1, hl, hlp, hT1⟩ := h1
  obtain ⟨A2, c2, ys, P2, p2, ps2, rfl, hr2, he2, hrp2, hep2, _, _, hT2⟩ := h2
  obtain ⟨W, hW⟩ : ∃ W : World, W = (w.alloc (.cells #[.int .u64 b.gen, .int .u64 b.epoch, .int .i64 b.writer, .int .u64 b.stamp, .slice A1 b.refs.length c1, .slice P1 b.packs.length p1] 26)).alloc (.cells #[.int .u64 b.gen, .int .u64 b.epoch, .int .i64 b.writer, .int .u64 b.stamp, .slice A2 b.refs.length c2, .slice P2 b.packs.length p2] 26) := ⟨_, rfl⟩
  have hWb : Below w.heap.size w W := by rw [hW]; exact ((Below.refl _ _).alloc (Nat.le_refl _) _).alloc (by simp) _
  have hq := equalR_same A1 A2 c1 c2 b.refs T1 T2 xs ys W (hr1.keep (Keep.of_none hWb) (fun _ _ _ f => f)) he1 (hr2.keep (Keep.of_none hWb) (fun _ _ _ f => f)) he2 hl
  have hqp : ∀ w1, Below W.heap.size W w1 → Calls Tryz.prog 44 #[.slice P1 b.packs.length p1, .slice P2 b.packs.length p2, .func (.func 41) #[] #[]] w1 fun e w' => e = .returned (.bool true) ∧ Below w1.heap.size w1 w' := fun w1 hb1 => by
    have hk : Keep (fun _ => False) w w1 := Keep.of_none (hWb.trans (hb1.mono hWb.size))
    exact equalF_same P1 P2 p1 p2 b.packs T1 T2 T1 T2 ps1 ps2 w1 (hrp1.keep hk (fun _ _ _ f => f)) (hep1.imp (fun p c _ hc => PackC.keep hk (fun _ _ _ f => f) p c hc)) (hrp2.keep hk (fun _ _ _ f => f)) (hep2.imp (fun p c _ hc => PackC.keep hk (fun _ _ _ f => f) p c hc)) hlp
  rw [hW] at hq hWb hqp
  have hx1 : ∀ (a b : Obj) (cs : Array Value) (t : TypeId), a = .cells cs t → ((w.alloc a).alloc b).cell? ⟨w.heap.size, 5, none⟩ = cs[5]? := fun a b cs t ha => by
    subst ha
    exact cell_of_row _ _ 5 cs t (0, 0) ((Below.heap_alloc _ _ _ (by simp)).trans (heap_alloc_new _ _))
  have hx2 : ∀ (a b : Obj) (cs : Array Value) (t : TypeId), b = .cells cs t → ((w.alloc a).alloc b).cell? ⟨w.heap.size + 1, 5, none⟩ = cs[5]? := fun a b cs t hb => by
    subst hb
    exact cell_of_row _ _ 5 cs t (0, 0) (heap_alloc2_new _ _ _)
  have Hx1 := hide hx1
  have Hx2 := hide hx2
  have Hq := hide hq
  have Hqp := hide hqp
  have HWb := hide hWb
  clear hx1 hx2 hq hr1 he1 hr2 he2 hT1 hT2 hWb hW hl hqp hrp1 hep1 hrp2 hep2 hlp
  go_enter Tryz.func12, Tryz.ntmps12
  go_wp2_with (first
    | (go_at_call 43; refine Hq.out.mono ?_; rintro e w1 ⟨rfl, hb1⟩; have hc5 : w1.cell? ⟨w.heap.size, 5, none⟩ = some (.slice P1 b.packs.length p1) := (hb1.cell (p := ⟨w.heap.size, 5, none⟩) (by simp; omega)).trans (Hx1.out _ _ _ _ rfl); have hc5' : w1.cell? ⟨w.heap.size + 1, 5, none⟩ = some (.slice P2 b.packs.length p2) := (hb1.cell (p := ⟨w.heap.size + 1, 5, none⟩) (by simp)).trans (Hx2.out _ _ _ _ rfl); have Hb1 := hide hb1; clear hb1)
    | (go_at_call 44; refine (Hqp.out _ Hb1.out).mono ?_; rintro e w2 ⟨rfl, hb2⟩; have Hb2 := hide hb2; clear hb2))
  go_ret
  exact ⟨rfl, (HWb.out.trans (Hb1.out.mono HWb.out.size)).trans (Hb2.out.mono (HWb.out.trans (Hb1.out.mono HWb.out.size)).size)⟩
end Go.Proofs.YtimfmbcihopaaaaGreatDoor
