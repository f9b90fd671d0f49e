/- msg.name: 16 bytes read. -/
import Derived.Test.YtahhglhebcooaaaGreatDoorMs5
namespace Go.Proofs.YtahhglhebcooaaaGreatDoor
open Go.RowKit Go.Cof Go.Tol

section
variable {ops : Array Oper} {o : Oper} {a : Act} {w : World} {K : Act → World → Prop} {Q : Exit → Act → World → Prop} {E : Prop}
/-- copy of bytes into a part of a block that is known whole. -/
theorem step_copy_b (hgd : o.guard = none) (d s : Operand) (ho : o.op = .call { callee := .builtin .copy, args := #[d, s], argTypes := #[28, 28] })
    (g of L : Nat) (cur : List Value) (t : TypeId) (hg : w.heap[g]? = some (.cells cur.toArray t (0, 0))) (x : List UInt8) {A1 : Option Addr} {k c1 : Nat} {S : Nat → Prop} (hk : x.length = k) (hd : a.eval d = .slice (some ⟨g, of, none⟩) L L) (hs : a.eval s = .slice A1 k c1)
    (hr : Rd w S 1 A1 x.length (bytesV x)) (hx : x.length ≤ L) (hfit : of + L ≤ cur.length)
    (h : ∀ w', Hid (w'.heap[g]? = some (.cells (over cur of (bytesV x)).toArray t (0, 0))) → Keep (· = g) w w' → K (a.put o.dst (.int .i64 x.length)) w') :
    if Region.wanted o (yielded ops a.tmps) = true then Oper.wp Tryz.prog o a w K Q else E := by
  subst hk
  refine step_copy_sz w hgd d s 28 28 ho 5 1 Tryz.underlying28 (by have := Tryz.infoU8; cases hq : Tryz.prog.info? 5 with
    | none => simp [hq] at this
    | some i => rw [hq] at this; simp at this ⊢; exact this.2.1) (by decide) (some ⟨g, of, none⟩) A1 L L x.length c1 hd hs g of cur t hg (bytesV x) x.length (Nat.min_eq_left hx) (by simp) ?_ (by simp; omega) (bytesV_one x) h
  intro hpos
  refine ⟨rfl, ?_⟩
  obtain ⟨b, off, e, _, _, hc⟩ := hr.at_ (by simpa using hpos)
  refine ⟨⟨b, off, none⟩, e, fun j v hj => ?_⟩
  have hjl : j < x.length := by
    have := (List.getElem?_eq_some_iff.1 hj).1
    simpa using this
  rw [addr_plus, hc j (by omega), hj]
end

/-- 16 bytes, zeros behind. -/
def pad16 (x : List UInt8) : List UInt8 := x ++ List.replicate (16 - x.length) 0
theorem pad16_length (x : List UInt8) (h : x.length ≤ 16) : (pad16 x).length = 16 := by simp [pad16]; omega
def zero16 : List Value := List.replicate 16 (.int .u8 0)
theorem over_pad16 (x : List UInt8) (h : x.length ≤ 16) : over zero16 0 (bytesV x) = bytesV (pad16 x) := by
  simp only [over, List.take_zero, List.nil_append, Nat.zero_add, bytesV_length, pad16, bytesV_append, zero16, List.drop_replicate]
  simp [bytesV, List.map_replicate]
def nameR (s : Rs) : List UInt8 × Rs := (pad16 (takeR 16 s).1, (takeR 16 s).2)

set_option maxHeartbeats 8000000 in
set_option maxRecDepth 200000 in
theorem name_any (B : Nat → Prop) (rb : Nat) (l : List UInt8) (bad : Nat) (w : World) (h : RdrIn w B rb l bad) :
    Calls Tryz.prog 51 #[.pointer (some ⟨rb, 0, none⟩)] w fun e w' => e = .returned (.agg (bytesV (nameR (l, bad)).1).toArray) ∧ RdrIn w' B rb (nameR (l, bad)).2.1 (nameR (l, bad)).2.2 ∧ Keep (· = rb) w w' := by
  obtain ⟨A, cap, h0⟩ := h
  have H1 := hide (h0.mono (B' := fun i => B i ∧ i < w.heap.size) (fun i hi hb => ⟨hb, hi⟩))
  have hrb : rb < w.heap.size := h0.lt
  have hx := takeR_short 16 (l, bad) (by decide)
  obtain ⟨x, s, hT⟩ : ∃ x s, takeR 16 (l, bad) = (x, s) := ⟨_, _, rfl⟩
  rw [hT] at hx
  have hxl : x.length ≤ 16 := by simp only at hx; omega
  have hR : nameR (l, bad) = (pad16 x, s) := by unfold nameR; rw [hT]
  rw [hR]
  have HT := hide hT
  have Hxl := hide hxl
  obtain ⟨N, hN⟩ : ∃ N, N = w.heap.size := ⟨_, rfl⟩
  have HN := hide hN
  have Hrb := hide hrb
  obtain ⟨nv, hnv⟩ : ∃ nv, nv = bytesV (pad16 x) := ⟨_, rfl⟩
  have Hnv := hide hnv
  have Hov := hide (show over zero16 0 (bytesV x) = nv by rw [hnv]; exact over_pad16 x hxl)
  have Hnl := hide (show nv.length = 16 by rw [hnv, bytesV_length, pad16_length x hxl])
  have Hn1 := hide (show ∀ u ∈ nv, u.oneCell' = true by rw [hnv]; exact bytesV_one _)
  have Hsz := hide (show (Tryz.prog.info? 40).map (·.size) = some nv.length by rw [Hnl.out]; kernel_rfl)
  have Hsza := hide (show (Tryz.prog.info? 40).map (·.size) = some nv.toArray.size by rw [List.size_toArray, Hnl.out]; kernel_rfl)
  have Hzl := hide (show nv.length = zero16.length by rw [Hnl.out]; rfl)
  simp only
  rw [← hnv]
  clear h0 hrb hx hT hxl hR hN hnv
  go_enter Tryz.func51, Tryz.ntmps51
  go_upto_region 2 with (fail)
  obtain ⟨W, hW⟩ : ∃ W : World, W = (w.alloc (.cells #[.int .u8 0, .int .u8 0, .int .u8 0, .int .u8 0, .int .u8 0, .int .u8 0, .int .u8 0, .int .u8 0, .int .u8 0, .int .u8 0, .int .u8 0, .int .u8 0, .int .u8 0, .int .u8 0, .int .u8 0, .int .u8 0] 40)).alloc (.cells #[.int .u8 0, .int .u8 0, .int .u8 0, .int .u8 0, .int .u8 0, .int .u8 0, .int .u8 0, .int .u8 0, .int .u8 0, .int .u8 0, .int .u8 0, .int .u8 0, .int .u8 0, .int .u8 0, .int .u8 0, .int .u8 0] 40) := ⟨_, rfl⟩
  have HR := hide (show RdrAt W.drew (fun i => B i ∧ i < w.heap.size) rb A cap l bad by rw [hW]; exact ((H1.out.alloc _).alloc _).drew)
  have HQ := hide (show W.drew.heap[N]? = some (.cells zero16.toArray 40 (0, 0)) by rw [hW, HN.out]; exact heap_old (heap_new _ _) _)
  have HP := hide (show W.drew.heap[N + 1]? = some (.cells zero16.toArray 40 (0, 0)) by rw [hW, HN.out]; exact heap_alloc2_new _ _ _)
  have HkW := hide (show Keep (· = rb) w W.drew by rw [hW]; exact (((Keep.refl _ w).alloc _).alloc _).drew)
  have HWs := hide (show W.drew.heap.size = N + 2 by rw [hW, HN.out]; simp)
  rw [show w.heap.size = N from HN.out.symm, ← hW]
  try rw [show (w.alloc (.cells #[.int .u8 0, .int .u8 0, .int .u8 0, .int .u8 0, .int .u8 0, .int .u8 0, .int .u8 0, .int .u8 0, .int .u8 0, .int .u8 0, .int .u8 0, .int .u8 0, .int .u8 0, .int .u8 0, .int .u8 0, .int .u8 0] 40)).heap.size = N + 1 by rw [HN.out]; simp]
  have Hz16 := hide (show 0 + 16 ≤ zero16.length by decide)
  clear hW
  go_region_law (first
    | (go_simp; go_at_call 74; refine (rraw_any _ rb cap A l bad 16 _ HR.out (by decide)).mono ?_; rw [HT.out]; rintro e w1 ⟨A1, c1, rfl, hown1, hR1, hk1⟩; have Hown1 := hide (Rd.of_own (S := fun _ => True) hown1 (fun _ _ _ => trivial)); have HR1 := hide hR1; have Hk1 := hide hk1; have HP1 := hide ((hk1.block (N + 1) (by have := HWs.out; omega) (by have := HN.out; have := Hrb.out; omega)).trans HP.out); clear hown1 hR1 hk1)
    | (refine step_copy_b rfl (.tmp 4) (.tmp 6) rfl (N + 1) 0 16 zero16 40 HP1.out x rfl rfl rfl Hown1.out Hxl.out Hz16.out ?_; intro w2 hP2 hk2; have Hk2 := hide hk2; clear hk2)
    | fail)
  have Hr2 := hide (show w2.heap[N + 1]? = some (.cells nv.toArray 40 (0, 0)) by rw [hP2.out, Hov.out])
  have Hrg := hide (show w2.rangeAt (N + 1) 0 nv from part_range Hr2.out (by rw [List.drop_zero, List.take_length]))
  have HQ2 := hide (show w2.heap[N]? = some (.cells zero16.toArray 40 (0, 0)) from (Hk2.out.block N (by have h1 := HWs.out; have h2 := Hk1.out.size; omega) (fun e => by have : N = N + 1 := e; omega)).trans ((Hk1.out.block N (by have h1 := HWs.out; omega) (by have := HN.out; have := Hrb.out; omega)).trans HQ.out))
  clear hP2
  go_wp2_with (first
    | (refine wpList_load_mid rfl 40 (.tmp 3) rfl (N + 1) 0 rfl nv _ Hrg.out Tryz.underlying40 rfl Hsz.out ?_)
    | (refine wpList_store_all rfl 40 (.tmp 2) (.tmp 8) rfl N zero16 nv 40 HQ2.out rfl rfl Hzl.out Hsz.out Hn1.out ?_)
    | fail)
  refine bodyPost_ret (results_cell_row rfl _ _ N _ _ _ _ rfl (setRow_heap _ _ _ _ _ _ HQ2.out) Tryz.underlying40 rfl Hsza.out) rfl ?_
  obtain ⟨A2, c2, hR2⟩ := HR1.out
  have hK3 : Keep (fun i => i = N) w2 (w2.setRow N nv.toArray) := keep_setRow (Keep.refl (fun i => i = N) w2) (fun _ => rfl) _
  refine ⟨rfl, ⟨A2, c2, ?_⟩, ?_⟩
  · exact ((hR2.keep Hk2.out (fun i hi _ e => by have := hi.2; have := HN.out; omega)).keep hK3 (fun i hi _ e => by have := hi.2; have := HN.out; omega)).mono (fun _ _ hb => hb.1)
  · exact (((HkW.out.trans Hk1.out).step Hk2.out (fun i hi hlt => by have : i = N + 1 := hi; have := HN.out; omega))).step hK3 (fun i hi hlt => by have : i = N := hi; have := HN.out; omega)
end Go.Proofs.YtahhglhebcooaaaGreatDoor
