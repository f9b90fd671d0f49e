/- slices.Equal of like references; Same of like bodies without packs. -/
import Derived.Test.YtimfmbcihopaaaaGreatDoorMapW
namespace Go.Proofs.YtimfmbcihopaaaaGreatDoor
open Go.RowKit Go.Cof

theorem Tryz.fields57 : Tryz.prog.underlying 57 = some (.struct (Tryz.prog.fieldsOf 57)) := by kernel_rfl
theorem Tryz.stood57 : Tryz.prog.stoodInHeld 57 = false := by kernel_rfl
theorem Tryz.sizeOfId : ∀ w : World, (sizeOf 49).run Tryz.prog w = .ok 32 w := fun w => by
  have hz : (Tryz.prog.info? 49).map (·.size) = some 32 := by kernel_rfl
  cases hq : Tryz.prog.info? 49 with
  | none => simp [hq] at hz
  | some i =>
    have : i.size = 32 := by simpa [hq] using hz
    simp [sizeOf, typeInfo, hq, this]
theorem ref_ext (r : RefA) (c : List Value) (h : RefC r c) : c.toArray.extract 1 (1 + 32) = (r.id.toList.map Extern.Stop.cell).toArray := by
  apply Array.toList_inj.1
  rw [Array.toList_extract, List.extract_eq_take_drop, h.1, List.drop_succ_cons, List.drop_zero, List.take_of_length_le (by rw [encB_len]; decide)]
  rfl
theorem ref_p0 (r : RefA) (c : List Value) (h : RefC r c) (w : World) : (part 9 c.toArray 0).run Tryz.prog w = .ok (.string ⟨r.name.toArray⟩) w := by
  have hc0 : c.toArray[0]? = some (.string ⟨r.name.toArray⟩) := by rw [h.1]; rfl
  simp only [List.getElem?_toArray] at hc0
  simp [part, isAgg, run_underlying Tryz.underlying9, hc0]
theorem Tryz.isAggId (w : World) : (isAgg 49).run Tryz.prog w = .ok true w := by
  unfold isAgg
  rw [Sem.run_bind, run_underlying Tryz.underlying49 w]
  rfl
theorem ref_p1 (r : RefA) (c : List Value) (h : RefC r c) (w : World) : (part 49 c.toArray 1).run Tryz.prog w = .ok (.agg (r.id.toList.map Extern.Stop.cell).toArray) w := by
  have hext := ref_ext r c h
  simp only [part, Sem.run_bind, Tryz.isAggId, Result.andThen_ok, if_true, Tryz.sizeOfId, Sem.run_pure, hext]
theorem eq_str (l : List UInt8) (d : Nat) (w : World) : (Op.equalIn (d + 1) 9 (.string ⟨l.toArray⟩) (.string ⟨l.toArray⟩)).run Tryz.prog w = .ok true w := by
  have hs := run_equalIn_string (P := Tryz.prog) w d 9 ⟨l.toArray⟩ ⟨l.toArray⟩ Tryz.underlying9
  rw [beq_self_eq_true] at hs
  exact hs
theorem eq_id (x : Bv 32) (d : Nat) (w : World) : (Op.equalIn (d + 2) 49 (.agg (x.toList.map Extern.Stop.cell).toArray) (.agg (x.toList.map Extern.Stop.cell).toArray)).run Tryz.prog w = .ok true w := by
  have hid := run_equalIn_bytes (P := Tryz.prog) w d 49 5 32 Tryz.underlying49 Tryz.underlying5 Tryz.size1 x.toList x.toList (by simp) (by simp)
  rw [beq_self_eq_true] at hid
  exact hid
theorem ref_fields : (Tryz.prog.fieldsOf 57).toList = [{ name := "Name", type := 9, offset := 0, embedded := false, tag := "", pkgPath := "", byteOffset := 0 }, { name := "Id", type := 49, offset := 1, embedded := false, tag := "", pkgPath := "", byteOffset := 16 }] := by kernel_rfl
theorem eq_two (d : Nat) (cs : Array Value) (f1 f2 : Field) (w : World) (t1 t2 : TypeId) (o1 o2 : Nat) (v1 v2 : Value) (n1 : f1.name ≠ "_") (n2 : f2.name ≠ "_") (e1 : f1.type = t1) (e2 : f1.offset = o1) (e3 : f2.type = t2) (e4 : f2.offset = o2)
    (p1 : (part t1 cs o1).run Tryz.prog w = .ok v1 w) (p2 : (part t2 cs o2).run Tryz.prog w = .ok v2 w) (q1 : (Op.equalIn d t1 v1 v1).run Tryz.prog w = .ok true w) (q2 : (Op.equalIn d t2 v2 v2).run Tryz.prog w = .ok true w) :
    (Op.eqFields d cs cs [f1, f2]).run Tryz.prog w = .ok true w := by
  subst e1 e2 e3 e4
  simp [Op.eqFields, n1, n2, Sem.run_bind, p1, p2, q1, q2]
theorem eq_ref (r : RefA) (c : List Value) (h : RefC r c) (d : Nat) (w : World) : (Op.equalIn (d + 3) 57 (.agg c.toArray) (.agg c.toArray)).run Tryz.prog w = .ok true w := by
  have h0 := run_equalIn_struct (P := Tryz.prog) w (d + 2) 57 c.toArray c.toArray Tryz.fields57 Tryz.stood57
  rw [ref_fields] at h0
  exact h0.trans (eq_two (d + 2) c.toArray _ _ w 9 49 0 1 _ _ (by decide) (by decide) rfl rfl rfl rfl (ref_p0 r c h w) (ref_p1 r c h w) (eq_str r.name (d + 1) w) (eq_id r.id d w))
theorem neq_ref (r : RefA) (c : List Value) (h : RefC r c) : ∀ w : World, (binOp .neq 57 (.agg c.toArray) (.agg c.toArray)).run Tryz.prog w = .ok (.bool false) w := fun w => by
  have h2 := eq_ref r c h 9997 w
  rw [run_neq_struct]
  have h3 : (Op.equalIn 10000 57 (.agg c.toArray) (.agg c.toArray)).run Tryz.prog w = .ok true w := h2
  rw [h3]
  rfl

theorem below_drewN {N : Nat} {w w' : World} (h : Below N w w') (q : Nat) : Below N w (w'.drewN q) := ⟨h.os, h.tape, h.output, h.size, h.block⟩

set_option maxHeartbeats 4000000 in
set_option maxRecDepth 100000 in
/-- Two slices that read as one list of references are equal. -/
theorem equalR_same (A1 A2 : Option Addr) (c1 c2 : Nat) (l : List RefA) (S1 S2 : Nat → Prop) (xs ys : List Value) (w : World) (hr1 : Rd w S1 33 A1 l.length xs) (he1 : Els RefC l xs) (hr2 : Rd w S2 33 A2 l.length ys) (he2 : Els RefC l ys) (hl : l.length ≤ 140737488351232) :
    Calls Tryz.prog 43 #[.slice A1 l.length c1, .slice A2 l.length c2] w fun e w' => e = .returned (.bool true) ∧ Below w.heap.size w w' := by
  have Hr1 := hide hr1
  have He1 := hide he1
  have Hr2 := hide hr2
  have He2 := hide he2
  clear hr1 he1 hr2 he2
  go_enter Tryz.func43, Tryz.ntmps43
  go_wp2_with fail
  go_loopw [13] (fun i wr => ∃ k : Nat, k ≤ l.length ∧ i = .int .i64 k ∧ Below w.heap.size w wr) (fun i _ => l.length - (intOf i).toNat)
  case atStart => exact ⟨0, Nat.zero_le _, rfl, Below.refl _ _⟩
  case round =>
    obtain ⟨k, hk, rfl, hb⟩ := hrel
    have Hb := hide hb
    clear hb
    by_cases hlt : k < l.length
    · obtain ⟨b1, o1, rfl, _, hbl1, _⟩ := Hr1.out.at_ (by omega)
      obtain ⟨b2, o2, rfl, _, hbl2, _⟩ := Hr2.out.at_ (by omega)
      obtain ⟨x1, hx1, hxl1, hg1⟩ := rd_range Hr1.out He1.out rfl (fun p c => RefC.len p c) hlt
      obtain ⟨x2, hx2, _, hg2⟩ := rd_range Hr2.out He2.out rfl (fun p c => RefC.len p c) hlt
      obtain rfl : x2 = x1 := by rw [hx1.1, hx2.1]
      have hne := neq_ref l[k] x2 hx1
      have Hs1 := hide (range_drewN (range_keep hg1 (Keep.of_none Hb.out) hbl1 (fun f => f)))
      have Hs2 := hide (range_drewN (range_keep hg2 (Keep.of_none Hb.out) hbl2 (fun f => f)))
      have Hi := hide (show (Tryz.prog.info? 57).map (·.size) = some x2.length by rw [hxl1]; kernel_rfl)
      clear hg1 hg2 hx1 hx2 hxl1
      go_wp2_with fail
      refine wp_region_quiet_lit (by kernel_rfl) (by kernel_rfl) ?_
      repeat (first | (refine wpQuiet_load_mid rfl 57 (.tmp 18) rfl b1 (o1 + k * 33) rfl x2 _ Hs1.out Tryz.underlying57 rfl Hi.out ?_; go_simp) | (refine wpQuiet_load_mid rfl 57 (.tmp 22) rfl b2 (o2 + k * 33) rfl x2 _ Hs2.out Tryz.underlying57 rfl Hi.out ?_; go_simp) | go_big_quiet_step (fail))
      refine wpQuiet_nil ?_
      intro nq
      go_wp2_with fail
      exact ⟨⟨k + 1, by omega, by go_num, below_drewN Hb.out nq⟩, by simp [intOf]; omega⟩
    · go_wp2_with fail
      go_ret
      exact ⟨rfl, Hb.out⟩

set_option maxHeartbeats 4000000 in
set_option maxRecDepth 100000 in
/-- slices.EqualFunc of nothing with nothing. -/
theorem equalF_none (A1 A2 : Option Addr) (c1 c2 : Nat) (f : Value) (w : World) :
    Calls Tryz.prog 44 #[.slice A1 0 c1, .slice A2 0 c2, f] w fun e w' => e = .returned (.bool true) ∧ w' = w := by
  go_enter Tryz.func44, Tryz.ntmps44
  go_wp2_with fail
  refine wp_loop_rounds 1 ?_
  rw [rounds_succ]
  go_wp2
  go_ret
  exact ⟨rfl, rfl⟩

set_option maxHeartbeats 4000000 in
set_option maxRecDepth 100000 in
/-- Same, of one body twice, without packs. -/
theorem same_like (T1 T2 : Nat → Prop) (b : BodyA) (v1 v2 : Value) (w : World) (hp : b.packs = []) (h1 : BodyC w T1 b v1) (h2 : BodyC w T2 b v2) :
    Calls Tryz.prog 12 #[v1, v2] w fun e w' => e = .returned (.bool true) ∧ Below w.heap.size w w' := by
  obtain ⟨A1, c1, xs, P1, p1, ps1, rfl, hr1, he1, _, _, hl, _, hT1⟩ := h1
  obtain ⟨A2, c2, ys, P2, p2, ps2, rfl, hr2, he2, _, _, _, _, hT2⟩ := h2
  rw [hp]
  simp only [List.length_nil]
  obtain ⟨W, hW⟩ : ∃ W : World, W = (w.alloc (.cells #[.int .u64 b.gen, .int .u64 b.epoch, .int .i64 b.writer, .int .u64 b.stamp, .slice A1 b.refs.length c1, .slice P1 0 p1] 26)).alloc (.cells #[.int .u64 b.gen, .int .u64 b.epoch, .int .i64 b.writer, .int .u64 b.stamp, .slice A2 b.refs.length c2, .slice P2 0 p2] 26) := ⟨_, rfl⟩
  have hWb : Below w.heap.size w W := by rw [hW]; exact ((Below.refl _ _).alloc (Nat.le_refl _) _).alloc (by simp) _
  have hq := equalR_same A1 A2 c1 c2 b.refs T1 T2 xs ys W (hr1.keep (Keep.of_none hWb) (fun _ _ _ f => f)) he1 (hr2.keep (Keep.of_none hWb) (fun _ _ _ f => f)) he2 hl
  rw [hW] at hq hWb
  have hx1 : ∀ (a b : Obj) (cs : Array Value) (t : TypeId), a = .cells cs t → ((w.alloc a).alloc b).cell? ⟨w.heap.size, 5, none⟩ = cs[5]? := fun a b cs t ha => by
    subst ha
    exact cell_of_row _ _ 5 cs t (0, 0) ((Below.heap_alloc _ _ _ (by simp)).trans (heap_alloc_new _ _))
  have hx2 : ∀ (a b : Obj) (cs : Array Value) (t : TypeId), b = .cells cs t → ((w.alloc a).alloc b).cell? ⟨w.heap.size + 1, 5, none⟩ = cs[5]? := fun a b cs t hb => by
    subst hb
    exact cell_of_row _ _ 5 cs t (0, 0) (heap_alloc2_new _ _ _)
  have Hx1 := hide hx1
  have Hx2 := hide hx2
  have Hq := hide hq
  have HWb := hide hWb
  clear hx1 hx2 hq hr1 he1 hr2 he2 hT1 hT2 hWb hW hl
  go_enter Tryz.func12, Tryz.ntmps12
  go_wp2_with (first
    | (go_at_call 43; refine Hq.out.mono ?_; rintro e w1 ⟨rfl, hb1⟩; have hc5 : w1.cell? ⟨w.heap.size, 5, none⟩ = some (.slice P1 0 p1) := (hb1.cell (p := ⟨w.heap.size, 5, none⟩) (by simp; omega)).trans (Hx1.out _ _ _ _ rfl); have hc5' : w1.cell? ⟨w.heap.size + 1, 5, none⟩ = some (.slice P2 0 p2) := (hb1.cell (p := ⟨w.heap.size + 1, 5, none⟩) (by simp)).trans (Hx2.out _ _ _ _ rfl); have Hb1 := hide hb1; clear hb1)
    | (go_at_call 44; refine (equalF_none _ _ _ _ _ _).mono ?_; rintro e w2 ⟨rfl, rfl⟩))
  go_ret
  exact ⟨rfl, HWb.out.trans (Hb1.out.mono HWb.out.size)⟩
end Go.Proofs.YtimfmbcihopaaaaGreatDoor
