/- manifest.readPack. -/
import Derived.Test.YtimfmbcihopaaaaGreatDoorPutM
namespace Go.Proofs.YtimfmbcihopaaaaGreatDoor
open Go.RowKit Go.Cof

/-- The faults that a reader knows. -/
def OkS (s : Rs) : Prop := (s.2 = 0 ∨ s.2 = 3 ∨ s.2 = 10) ∧ s.1.length ≤ 1073741824
theorem OkS.take {s : Rs} (h : OkS s) (n : Int) : OkS (takeR n s).2 := by
  refine ⟨?_, takeR_big n s h.2⟩
  unfold takeR
  split
  · exact h.1
  · split <;> simp
theorem OkS.num {s : Rs} (h : OkS s) (n : Int) : OkS (numR n s).2 := h.take _
theorem OkS.sized {s : Rs} (h : OkS s) : OkS (sizedR s).2 := by
  unfold sizedR
  split
  · exact ⟨.inr (.inl rfl), by simp⟩
  · exact (h.num 4).take _
theorem OkS.blob {s : Rs} (h : OkS s) : OkS (blobR s).2 := (h.take 16).take 32
theorem OkS.ref {s : Rs} (h : OkS s) : OkS (refR s).2 := h.sized.take 32
theorem OkS.many {α : Type} {f : Rs → α × Rs} (hf : ∀ s, OkS s → OkS (f s).2) (n : Nat) : ∀ s, OkS s → OkS (manyR f n s).2 := by
  induction n with
  | zero => intro s h; exact h
  | succ n ih =>
    intro s h
    unfold manyR
    split
    · exact h
    · exact ih _ (hf s h)
theorem OkS.pack {s : Rs} (h : OkS s) : OkS (packR s).2 := OkS.many (fun _ => OkS.blob) _ _ (((h.take 32).num 2).num 1)

/-- One reading more. -/
theorem manyR_step {α : Type} (f : Rs → α × Rs) (n : Nat) (s : Rs) (h : s.2 = 0) : manyR f (n + 1) s = ((f s).1 :: (manyR f n (f s).2).1, (manyR f n (f s).2).2) := by
  conv => lhs; unfold manyR
  rw [if_neg (by simp [h])]
theorem manyR_over {α : Type} (f : Rs → α × Rs) (n : Nat) (s : Rs) (h : n = 0 ∨ s.2 ≠ 0) : manyR f n s = ([], s) := by
  rcases n with _ | n
  · rfl
  · unfold manyR
    rw [if_pos (by rcases h with h | h; · omega
                   · exact h)]

/-- A kept array with bytes laid over its zeros. -/
theorem over_pad (n : Nat) (x : List UInt8) (hx : x.length ≤ n) (rest : List Value) : over (List.replicate n (.int .u8 0) ++ rest) 0 (bytesV x) = encB (padB n x) ++ rest := by
  have h1 : (padB n x).toList = x ++ List.replicate (n - x.length) 0 := by
    show (x.take n ++ List.replicate (n - x.length) 0).toArray.toList = _
    rw [List.take_of_length_le hx]
  have h2 : (List.replicate n (Value.int .u8 0) ++ rest).drop x.length = List.replicate (n - x.length) (.int .u8 0) ++ rest := by
    rw [List.drop_append_of_le_length (by simpa using hx)]
    simp
  simp only [over, List.take_zero, List.nil_append, Nat.zero_add, bytesV_length, h2, encB, h1, bytesV_append, List.append_assoc]
  simp [bytesV]

section
variable {ops : Array Oper} {o : Oper} {a : Act} {w : World} {K : Act → World → Prop} {Q : Exit → Act → World → Prop} {E : Prop}
/-- copy of bytes into a part of a block that is known whole. -/
theorem step_copy_b (hgd : o.guard = none) (d s : Operand) (ho : o.op = .call { callee := .builtin .copy, args := #[d, s], argTypes := #[27, 27] })
    (g of L : Nat) (cur : List Value) (t : TypeId) (hg : w.heap[g]? = some (.cells cur.toArray t (0, 0))) (x : List UInt8) {A1 : Option Addr} {k c1 : Nat} {S : Nat → Prop} (hk : x.length = k) (hd : a.eval d = .slice (some ⟨g, of, none⟩) L L) (hs : a.eval s = .slice A1 k c1)
    (hr : Rd w S 1 A1 x.length (bytesV x)) (hx : x.length ≤ L) (hfit : of + L ≤ cur.length)
    (h : ∀ w', Hid (w'.heap[g]? = some (.cells (over cur of (bytesV x)).toArray t (0, 0))) → Keep (· = g) w w' → K (a.put o.dst (.int .i64 x.length)) w') :
    if Region.wanted o (yielded ops a.tmps) = true then Oper.wp Tryz.prog o a w K Q else E := by
  subst hk
  refine step_copy_sz w hgd d s 27 27 ho 5 1 Tryz.underlying27 (by have := Tryz.infoU8; cases hq : Tryz.prog.info? 5 with
    | none => simp [hq] at this
    | some i => rw [hq] at this; simp at this ⊢; exact this.2.1) (by decide) (some ⟨g, of, none⟩) A1 L L x.length c1 hd hs g of cur t hg (bytesV x) x.length (Nat.min_eq_left hx) (by simp) ?_ (by simp; omega) (bytesV_one x) h
  intro hpos
  refine ⟨rfl, ?_⟩
  obtain ⟨b, off, e, _, _, hc⟩ := hr.at_ (by simpa using hpos)
  refine ⟨⟨b, off, none⟩, e, fun j v hj => ?_⟩
  have hjl : j < x.length := by
    have := (List.getElem?_eq_some_iff.1 hj).1
    simpa using this
  rw [addr_plus, hc j (by omega), hj]
end
/-- A whole block stored. -/
theorem wpList_store_all {ops : Array Oper} {rest : List Oper} {o : Oper} {a : Act} {w : World} {Q : Exit → Act → World → Prop} (hgd : o.guard = none) (ty : TypeId) (x y : Operand) (ho : o.op = .store ty x y)
    (g : Nat) (cur cs : List Value) (t : TypeId) (hg : w.heap[g]? = some (.cells cur.toArray t (0, 0))) (hx : a.eval x = .pointer (some ⟨g, 0, none⟩)) (hy : a.eval y = .agg cs.toArray) (hl : cs.length = cur.length)
    (hi : (Tryz.prog.info? ty).map (·.size) = some cs.length) (h1 : ∀ v ∈ cs, v.oneCell' = true)
    (h : wpList Tryz.prog ops Q rest (a.put o.dst undef) (w.setRow g cs.toArray)) : wpList Tryz.prog ops Q (o :: rest) a w := by
  refine wpList_plain hgd fun _ hK => ?_
  have hst := run_storeCells_at Tryz.prog g 0 t cs 0 cur.toArray w hg (by simp; omega) h1
  have hrun : (Instr.storeAt ty (.pointer (some ⟨g, 0, none⟩)) (.agg cs.toArray)).run Tryz.prog w = .ok () (w.setRow g cs.toArray) := by
    cases hq : Tryz.prog.info? ty with
    | none => simp [hq] at hi
    | some i =>
      have hs : cs.length = i.size := by simp [hq] at hi; omega
      have e1 : (cur.toArray.toList.take (0 + 0) ++ cs ++ cur.toArray.toList.drop (0 + 0 + cs.length)).toArray = cs.toArray := by
        rw [hl]
        simp
      rw [e1] at hst
      simp [Instr.storeAt, Instr.sureAddr, storeVar, sizeOf, typeInfo, hq, Value.cells, hs, hst]
  unfold Oper.wp execOp
  simp only [ho, hx, hy, Sem.run_bind, hrun, Result.andThen_ok, Sem.run_pure]
  exact hK _ _ h
theorem Tryz.info73 : (Tryz.prog.info? 73).map (fun i => (i.zero, i.size, i.bytes)) = some (some (.agg (Array.replicate 48 (.int .u8 0))), 48, 48) := by kernel_rfl
/-- The cell 32 or 33 of a pack's block set. -/
theorem set32 (k : List Value) (a b x : Value) (h : k.length = 32) : (k ++ [a, b]).toArray.setIfInBounds 32 x = (k ++ [x, b]).toArray := by
  rw [List.setIfInBounds_toArray, List.set_append_right _ _ (by omega), h]
  rfl
theorem set33 (k : List Value) (a b x : Value) (h : k.length = 32) : (k ++ [a, b]).toArray.setIfInBounds 33 x = (k ++ [a, x]).toArray := by
  rw [List.setIfInBounds_toArray, List.set_append_right _ _ (by omega), h]
  rfl
/-- The reader's calls, in forms that fit by letters alone. -/
theorem rnum_b {B : Nat → Prop} {rb cap : Nat} {A : Option Addr} (n : Nat) {z : Int} (l : List UInt8) (bad v : Nat) (l2 : List UInt8) (b2 : Nat) {w : World} (h : RdrAt w B rb A cap l bad) (hz : z = n) (hn : n ≤ 8) (hN : numR z (l, bad) = (v, (l2, b2))) :
    Calls Tryz.prog 32 #[.pointer (some ⟨rb, 0, none⟩), .int .i64 z] w fun e w' => e = .returned (.int .u64 v) ∧ RdrIn w' B rb l2 b2 ∧ Keep (· = rb) w w' := by
  subst hz
  have h1 := rnum_any B rb cap A l bad n w h hn
  rw [hN] at h1
  exact h1
theorem rraw_b {B : Nat → Prop} {rb cap : Nat} {A : Option Addr} (n : Int) (l x : List UInt8) (bad : Nat) (l2 : List UInt8) (b2 : Nat) {w : World} (h : RdrAt w B rb A cap l bad) (hn : n ≤ 1073741824) (hN : takeR n (l, bad) = (x, (l2, b2))) :
    Calls Tryz.prog 35 #[.pointer (some ⟨rb, 0, none⟩), .int .i64 n] w fun e w' => Rawed w w' B rb x (l2, b2) e := by
  have h1 := rraw_any B rb cap A l bad n w h hn
  rw [hN] at h1
  exact h1
def zeroP : List Value := List.replicate 32 (.int .u8 0) ++ [.int .i64 0, .slice none 0 0]
def zero32 : List Value := List.replicate 32 (.int .u8 0)
def zeroB : List Value := List.replicate 16 (.int .u8 0) ++ zero32
/-- A pack's cells. -/
def packV (key : Bv 32) (ct : Int) (v : Value) : List Value := encB key ++ [.int .i64 ct, v]
theorem packV_len (key : Bv 32) (ct : Int) (v : Value) : (packV key ct v).length = 34 := by rw [packV, List.length_append, encB_len]; rfl
theorem ownsRow_keep {w w' : World} {F : Nat → Prop} {base sz n : Nat} {e : TypeId} {v : Value} {xs : List Value} (h : w.ownsRow base e sz v n xs) (hk : Keep F w w') (hf : ∀ j, v.ownBlock = some j → ¬ F j) : w'.ownsRow base e sz v n xs := by
  refine ⟨h.1, ?_⟩
  rcases h.2 with hh | ⟨g, cap3, cur, h3, h4, h5, h6⟩
  · exact .inl hh
  · refine .inr ⟨g, cap3, cur, h3, h4, ?_, h6⟩
    have hg : g < w.heap.size := (Array.getElem?_eq_some_iff.1 h5).1
    exact (hk.block g hg (hf g (by rw [h3]; rfl))).trans h5
/-- What stands while a pack is read: the reader, the pack's block, the result's block, the blobs. -/
structure PSt (w wr : World) (B : Nat → Prop) (rb M : Nat) (key : Bv 32) (ct : Nat) (ls : List UInt8) (bs : Nat) (acc : List BlobA) (Ab : Option Addr) (capb X : Nat) : Prop where
  rd : RdrIn wr (fun i => B i ∧ i < w.heap.size) rb ls bs
  hp : wr.heap[M + 1]? = some (.cells (packV key ct (.slice Ab acc.length capb)).toArray 61 (0, 0))
  hq : wr.heap[M]? = some (.cells zeroP.toArray 61 (0, 0))
  own : ∃ xs, wr.ownsRow (M + 2) 73 48 (.slice Ab acc.length capb) acc.length xs ∧ Els BlobC acc xs
  kp : Keep (· = rb) w wr
  hM : M = w.heap.size
  hr : rb < M
  mx : M + 2 ≤ X
  xs : X ≤ wr.heap.size
  ob : ∀ j, (Value.slice Ab acc.length capb).ownBlock = some j → j < X
section
variable {w wr w' : World} {B : Nat → Prop} {rb M ct bs capb X : Nat} {key : Bv 32} {ls : List UInt8} {acc : List BlobA} {Ab : Option Addr}
theorem PSt.own_keep {F : Nat → Prop} (h : PSt w wr B rb M key ct ls bs acc Ab capb X) (hk : Keep F wr w') (hf : ∀ j, (Value.slice Ab acc.length capb).ownBlock = some j → ¬ F j) : ∃ xs, w'.ownsRow (M + 2) 73 48 (.slice Ab acc.length capb) acc.length xs ∧ Els BlobC acc xs := by
  obtain ⟨xs, h1, h2⟩ := h.own
  refine ⟨xs, ⟨h1.1, ?_⟩, h2⟩
  rcases h1.2 with hh | ⟨g, cap3, cur, h3, h4, h5, h6⟩
  · exact .inl hh
  · refine .inr ⟨g, cap3, cur, h3, h4, ?_, h6⟩
    have hg : g < wr.heap.size := (Array.getElem?_eq_some_iff.1 h5).1
    exact (hk.block g hg (hf g (by rw [h3]; rfl))).trans h5
theorem PSt.ob_ge (h : PSt w wr B rb M key ct ls bs acc Ab capb X) : ∀ j, (Value.slice Ab acc.length capb).ownBlock = some j → M + 2 ≤ j := by
  intro j hj
  obtain ⟨xs, h1, _⟩ := h.own
  exact (h1.lt j hj).1
/-- A call of the reader's. -/
theorem PSt.call (h : PSt w wr B rb M key ct ls bs acc Ab capb X) (hk : Keep (· = rb) wr w') {l2 : List UInt8} {b2 : Nat} (hr : RdrIn w' (fun i => B i ∧ i < w.heap.size) rb l2 b2) : PSt w w' B rb M key ct l2 b2 acc Ab capb X :=
  ⟨hr, (hk.block _ (by have := h.mx; have := h.xs; omega) (by have := h.hr; omega)).trans h.hp, (hk.block _ (by have := h.mx; have := h.xs; omega) (by have := h.hr; omega)).trans h.hq,
    h.own_keep hk (fun j hj e => by have := h.ob_ge j hj; have := h.hr; omega), h.kp.trans hk, h.hM, h.hr, h.mx, Nat.le_trans h.xs hk.size, h.ob⟩
/-- A step that touches blocks from X on alone. -/
theorem PSt.step {F : Nat → Prop} (h : PSt w wr B rb M key ct ls bs acc Ab capb X) (hk : Keep F wr w') (hf : ∀ i, F i → X ≤ i) : PSt w w' B rb M key ct ls bs acc Ab capb X := by
  obtain ⟨A5, c5, h5⟩ := h.rd
  have hne : ∀ i, i < X → ¬ F i := fun i hi hh => by have := hf i hh; omega
  exact ⟨⟨A5, c5, h5.keep hk (fun i hi _ => hne i (by have := h.mx; have := h.hM; have := hi.2; omega))⟩, (hk.block _ (by have := h.mx; have := h.xs; omega) (hne _ (by have := h.mx; omega))).trans h.hp, (hk.block _ (by have := h.mx; have := h.xs; omega) (hne _ (by have := h.mx; omega))).trans h.hq,
    h.own_keep hk (fun j hj => hne j (h.ob j hj)), h.kp.step hk (fun i hi hlt => by have := hf i hi; have := h.mx; have := h.hM; omega), h.hM, h.hr, h.mx, Nat.le_trans h.xs hk.size, h.ob⟩
end
theorem over_shift (k L cs : List Value) : over (k ++ L) k.length cs = k ++ over L 0 cs := by
  simp only [over, List.take_zero, List.nil_append, Nat.zero_add]
  rw [List.take_left, List.drop_append]
  simp

set_option maxHeartbeats 4000000 in
set_option maxRecDepth 100000 in
theorem readP_any (B : Nat → Prop) (rb cap : Nat) (A : Option Addr) (l : List UInt8) (bad : Nat) (w : World) (h : RdrAt w B rb A cap l bad) (hs : OkS (l, bad)) :
    Calls Tryz.prog 36 #[.pointer (some ⟨rb, 0, none⟩)] w fun e w' => ∃ c, e = .returned (.agg c) ∧ PackC w' (fun i => w.heap.size ≤ i) (packR (l, bad)).1.toA c.toList ∧ RdrIn w' B rb (packR (l, bad)).2.1 (packR (l, bad)).2.2 ∧ Keep (· = rb) w w' := by
  have hrb := h.lt
  have h1 : RdrAt w (fun i => B i ∧ i < w.heap.size) rb A cap l bad := h.mono (fun i hi hb => ⟨hb, hi⟩)
  have H1 := hide h1
  clear h h1
  obtain ⟨x, l1, b1, hT⟩ : ∃ x l1 b1, takeR 32 (l, bad) = (x, (l1, b1)) := ⟨_, _, _, rfl⟩
  obtain ⟨ct, l2, b2, hN⟩ : ∃ ct l2 b2, numR 2 (l1, b1) = (ct, (l2, b2)) := ⟨_, _, _, rfl⟩
  obtain ⟨n0, l3, b3, hN2⟩ : ∃ n0 l3 b3, numR 1 (l2, b2) = (n0, (l3, b3)) := ⟨_, _, _, rfl⟩
  have HT := hide hT
  have hxl : x.length ≤ 32 := by have := takeR_short1 32 (l, bad); rw [show ((32 : Nat) : Int) = 32 from rfl, hT] at this; exact this
  have Hxl := hide hxl
  have hs1 : OkS (l1, b1) := by have := hs.take 32; rw [hT] at this; exact this
  have hs2 : OkS (l2, b2) := by have := hs1.num 2; rw [hN] at this; exact this
  have hs3 : OkS (l3, b3) := by have := hs2.num 1; rw [hN2] at this; exact this
  have hct : ct ≤ 65535 := by
    have h1 := beV_lt (takeR (min 2 8) (l1, b1)).1
    have h2 := takeR_short1 2 (l1, b1)
    have h3 : ct = beV (takeR (min 2 8) (l1, b1)).1 := (congrArg (·.1) hN).symm
    have h4 : (takeR (min 2 8) (l1, b1)).1.length ≤ 2 := h2
    have h5 : 256 ^ (takeR (min 2 8) (l1, b1)).1.length ≤ 256 ^ 2 := Nat.pow_le_pow_right (by decide) h4
    omega
  have hn0 : n0 ≤ 255 := by
    have h1 := beV_lt (takeR (min 1 8) (l2, b2)).1
    have h2 := takeR_short1 1 (l2, b2)
    have h3 : n0 = beV (takeR (min 1 8) (l2, b2)).1 := (congrArg (·.1) hN2).symm
    have h4 : (takeR (min 1 8) (l2, b2)).1.length ≤ 1 := h2
    have h5 : 256 ^ (takeR (min 1 8) (l2, b2)).1.length ≤ 256 ^ 1 := Nat.pow_le_pow_right (by decide) h4
    omega
  have hpack : packR (l, bad) = (⟨x, (ct : Nat), (manyR blobR n0 (l3, b3)).1⟩, (manyR blobR n0 (l3, b3)).2) := by
    have e1 : (takeR 32 (l, bad)).1 = x := by rw [hT]
    have e2 : (takeR 32 (l, bad)).2 = (l1, b1) := by rw [hT]
    simp only [packR]
    rw [e1, e2]
    simp only [hN, hN2]
  have Hpack := hide hpack
  have HN := hide hN
  have HN2 := hide hN2
  have Hs1 := hide hs1
  have Hs2 := hide hs2
  have Hs3 := hide hs3
  have Hs := hide hs
  clear hT hxl hs1 hs hs2 hs3 hN hN2 hpack
  go_enter Tryz.func36, Tryz.ntmps36
  go_wp2_with fail
  obtain ⟨M, hM⟩ : ∃ M, M = w.heap.size := ⟨_, rfl⟩
  obtain ⟨W, hW⟩ : ∃ W : World, W = (w.alloc (.cells zeroP.toArray 61)).alloc (.cells zeroP.toArray 61) := ⟨_, rfl⟩
  have hWs : W.heap.size = M + 2 := by rw [hW, hM]; simp
  have HR := hide (show RdrAt W.drew (fun i => B i ∧ i < w.heap.size) rb A cap l bad by rw [hW]; exact ((H1.out.alloc _).alloc _).drew)
  have HQ := hide (show W.drew.heap[M]? = some (.cells zeroP.toArray 61 (0, 0)) by rw [hW, hM]; exact (Below.heap_alloc _ _ _ (by simp)).trans (heap_alloc_new _ _))
  have HP := hide (show W.drew.heap[M + 1]? = some (.cells zeroP.toArray 61 (0, 0)) by rw [hW, hM]; exact heap_alloc2_new _ _ _)
  have HkW := hide (show Keep (· = rb) w W.drew by rw [hW]; exact (((Keep.refl _ w).alloc _).alloc _).drew)
  have HWs := hide hWs
  rw [show (w.alloc (.cells #[.int .u8 0, .int .u8 0, .int .u8 0, .int .u8 0, .int .u8 0, .int .u8 0, .int .u8 0, .int .u8 0, .int .u8 0, .int .u8 0, .int .u8 0, .int .u8 0, .int .u8 0, .int .u8 0, .int .u8 0, .int .u8 0, .int .u8 0, .int .u8 0, .int .u8 0, .int .u8 0, .int .u8 0, .int .u8 0, .int .u8 0, .int .u8 0, .int .u8 0, .int .u8 0, .int .u8 0, .int .u8 0, .int .u8 0, .int .u8 0, .int .u8 0, .int .u8 0, .int .i64 0, .slice none 0 0] 61)).alloc (.cells #[.int .u8 0, .int .u8 0, .int .u8 0, .int .u8 0, .int .u8 0, .int .u8 0, .int .u8 0, .int .u8 0, .int .u8 0, .int .u8 0, .int .u8 0, .int .u8 0, .int .u8 0, .int .u8 0, .int .u8 0, .int .u8 0, .int .u8 0, .int .u8 0, .int .u8 0, .int .u8 0, .int .u8 0, .int .u8 0, .int .u8 0, .int .u8 0, .int .u8 0, .int .u8 0, .int .u8 0, .int .u8 0, .int .u8 0, .int .u8 0, .int .u8 0, .int .u8 0, .int .i64 0, .slice none 0 0] 61) = W from by rw [hW]; rfl, ← hM]
  have Hzl := hide (show 0 + 32 ≤ zeroP.length by decide)
  have HM := hide hM
  clear hW hWs hM
  go_region_law (first
    | (go_simp; go_at_call 35; refine (rraw_any _ rb cap A l bad 32 _ HR.out (by decide)).mono ?_; rw [HT.out]; rintro e w1 ⟨A1, c1, rfl, hown1, hR1, hk1⟩; have Hown1 := hide (Rd.of_own (S := fun _ => True) hown1 (fun _ _ _ => trivial)); have HR1 := hide hR1; have Hk1 := hide hk1; have HP1 := hide ((hk1.block (M + 1) (by have := HWs.out; show M + 1 < W.heap.size; omega) (by have := HM.out; omega)).trans HP.out); clear hown1 hR1 hk1)
    | (refine step_copy_b rfl (.tmp 7) (.tmp 9) rfl (M + 1) 0 32 zeroP 61 HP1.out x rfl rfl rfl Hown1.out Hxl.out Hzl.out ?_; intro w2 hP2 hk2; have Hk2 := hide hk2; clear hk2)
    | fail)
  obtain ⟨key, hkey⟩ : ∃ key, key = padB 32 x := ⟨_, rfl⟩
  have hP2 : w2.heap[M + 1]? = some (.cells (packV key 0 (.slice none 0 0)).toArray 61 (0, 0)) := by
    rw [hP2.out, hkey, packV, ← over_pad 32 x Hxl.out]
    rfl
  obtain ⟨A2, c2, hR2⟩ := HR1.out
  have HR2 := hide (hR2.keep Hk2.out (fun i hi _ e => by have := hi.2; have := HM.out; omega))
  have HQ2 := hide ((Hk2.out.block M (by have h1 := HWs.out; have h2 := Hk1.out.size; have h3 : W.drew.heap.size = W.heap.size := rfl; omega) (fun e => by have : M = M + 1 := e; omega)).trans ((Hk1.out.block M (by have h1 := HWs.out; show M < W.heap.size; omega) (by have := HM.out; omega)).trans HQ.out))
  have Hkw2 := hide ((HkW.out.trans Hk1.out).step Hk2.out (fun i hi hlt => by have : i = M + 1 := hi; have := HM.out; omega))
  have hkc0 : w2.cell? ⟨M + 1, 32, none⟩ = some (.int .i64 0) := by
    rw [cell_of_row _ _ 32 _ _ _ hP2, List.getElem?_toArray]
    exact (at32 (encB key) _ _ (encB_len _)).1
  have hkf0 : w2.frozen? ⟨M + 1, 32, none⟩ = false := frozen_of_row _ _ _ _ _ hP2
  have Hkey := hide hkey
  have HPv := hide hP2
  have hM2 : M + 2 ≤ w2.heap.size := by have h1 := HWs.out; have h2 := Hk1.out.size; have h3 : W.drew.heap.size = W.heap.size := rfl; have h4 := Hk2.out.size; omega
  have HM2 := hide hM2
  clear hkey hP2 hM2 hkc0 hkf0
  have Z2 := hide (show (2 : Int) = ((2 : Nat) : Int) from rfl)
  have L2 := hide (show 2 ≤ 8 by omega)
  have Z1 := hide (show (1 : Int) = ((1 : Nat) : Int) from rfl)
  have L1 := hide (show 1 ≤ 8 by omega)
  have hct2 : (ct : Int) ≤ 65535 := by omega
  go_wp2_with (first
    | (go_at_call 32; ((with_reducible refine (rnum_b 2 l1 b1 ct l2 b2 HR2.out Z2.out L2.out HN.out).mono ?_)); rintro e w3 ⟨rfl, ⟨A3, c3, hR3⟩, hk3⟩; have hP3 := (hk3.block (M + 1) (by have := HM2.out; omega) (by have := HM.out; omega)).trans HPv.out; have hkc0 : w3.cell? ⟨M + 1, 32, none⟩ = some (.int .i64 0) := (by rw [cell_of_row _ _ 32 _ _ _ hP3, List.getElem?_toArray]; exact (at32 (encB key) _ _ (encB_len _)).1); have hkf0 : w3.frozen? ⟨M + 1, 32, none⟩ = false := frozen_of_row _ _ _ _ _ hP3; have HR3 := hide (hR3.keep ((Keep.refl (· = M + 1) w3).setCell (p := ⟨M + 1, 32, none⟩) (fun _ => rfl) (.int .i64 ct)) (fun i hi _ e => by have := hi.2; have := HM.out; omega)); have HP3 := hide (show (w3.setCell ⟨M + 1, 32, none⟩ (.int .i64 ct)).heap[M + 1]? = some (.cells (packV key ct (.slice none 0 0)).toArray 61 (0, 0)) by rw [heap_setCell_same _ _ _ _ _ _ hP3, packV, set32 _ _ _ _ (encB_len _)]; rfl); have HQ3 := hide ((heap_setCell_other w3 ⟨M + 1, 32, none⟩ M (.int .i64 ct) (by show M ≠ M + 1; omega)).trans ((hk3.block M (by have := HM2.out; omega) (by have := HM.out; omega)).trans HQ2.out)); have HkA := hide ((Hkw2.out.trans hk3).step ((Keep.refl (· = M + 1) w3).setCell (p := ⟨M + 1, 32, none⟩) (fun _ => rfl) (.int .i64 ct)) (fun i hi hlt => by have : i = M + 1 := hi; have := HM.out; omega)); have HM3 := hide (show M + 2 ≤ (w3.setCell ⟨M + 1, 32, none⟩ (.int .i64 ct)).heap.size by have h1 := HM2.out; have h2 := hk3.size; simp [World.setCell]; omega); clear hP3 hR3 hk3)
    | (go_at_call 32; ((with_reducible refine (rnum_b 1 l2 b2 n0 l3 b3 HR3.out Z1.out L1.out HN2.out).mono ?_)); rintro e w4 ⟨rfl, hR4, hk4⟩; have HR4 := hide hR4; have HP4 := hide ((hk4.block (M + 1) (by have := HM3.out; omega) (by have := HM.out; omega)).trans HP3.out); have HQ4 := hide ((hk4.block M (by have := HM3.out; omega) (by have := HM.out; omega)).trans HQ3.out); have HkB := hide (HkA.out.trans hk4); have HM4 := hide (Nat.le_trans HM3.out hk4.size); clear hR4 hk4)
    | fail)
  have HL := hide (show PSt w w4 B rb M key ct l3 b3 [] none 0 w4.heap.size from ⟨HR4.out, HP4.out, HQ4.out, ⟨[], World.ownsRow_nil _ _ _ _, rfl⟩, HkB.out, HM.out, by have := HM.out; omega, HM4.out, Nat.le_refl _, fun j hj => by simp [Value.ownBlock] at hj⟩)
  clear hkc0 hkf0 HR2 HR3 HR4 HP3 HP4 HQ2 HQ3 HQ4 HPv HkA HkB Hkw2 HM2 HM3 HM4 HR1 HP1 Hk1 Hk2 hP2 HR HQ HP HkW Hown1
  go_loopw [4] (fun nv wr => ∃ (n : Nat) (ls : List UInt8) (bs : Nat) (acc : List BlobA) (Ab : Option Addr) (capb : Nat), nv = .int .u64 n ∧ PSt w wr B rb M key ct ls bs acc Ab capb wr.heap.size ∧ OkS (ls, bs) ∧ (manyR blobR n0 (l3, b3)).1.map BlobD.toA = acc ++ (manyR blobR n (ls, bs)).1.map BlobD.toA ∧ (manyR blobR n0 (l3, b3)).2 = (manyR blobR n (ls, bs)).2 ∧ acc.length + n ≤ n0) (fun nv _ => (intOf nv).toNat)
  case atStart => exact ⟨n0, l3, b3, [], none, 0, rfl, HL.out, Hs3.out, rfl, rfl, by simp⟩
  case round =>
    obtain ⟨n, ls, bs, acc, Ab, capb, rfl, hst, hok, hm1, hm2, hlen⟩ := hrel
    have Hst := hide hst
    have Hok := hide hok
    have Hm1 := hide hm1
    have Hm2 := hide hm2
    have hP := hst.hp
    have HP := hide hP
    clear hst hok hm1 hm2 hP
    by_cases hover : n = 0 ∨ bs ≠ 0
    · have hmo := manyR_over blobR n (ls, bs) hover
      have hm1 := Hm1.out
      have hm2 := Hm2.out
      rw [hmo] at hm1 hm2
      rw [List.map_nil, List.append_nil] at hm1
      have Hm1b := hide hm1
      have Hm2b := hide hm2
      clear hmo hm1 hm2
      have HszA := hide (show (Tryz.prog.info? 61).map (·.size) = some (packV key ct (.slice Ab acc.length capb)).toArray.size by rw [List.size_toArray, packV_len]; kernel_rfl)
      have HszP := hide (show (Tryz.prog.info? 61).map (·.size) = some (packV key ct (.slice Ab acc.length capb)).length by rw [packV_len]; kernel_rfl)
      have HlP := hide (show (packV key ct (.slice Ab acc.length capb)).length = zeroP.length by rw [packV_len]; rfl)
      have HoP := hide (show ∀ v ∈ packV key ct (.slice Ab acc.length capb), v.oneCell' = true from fun v hv => by
        rcases List.mem_append.1 hv with hv | hv
        · exact encB_one _ v hv
        · simp at hv; rcases hv with rfl | rfl <;> rfl)
      by_cases hn : n = 0
      · subst hn
        go_wp2_with (first
          | (with_reducible refine wpList_load_row rfl 61 (.tmp 3) rfl (M + 1) rfl 61 (packV key ct (.slice Ab acc.length capb)).toArray (0, 0) _ HP.out Tryz.underlying61 rfl HszA.out ?_)
          | (refine wpList_store_all rfl 61 (.tmp 2) (.tmp 42) rfl M zeroP (packV key ct (.slice Ab acc.length capb)) 61 Hst.out.hq rfl rfl HlP.out HszP.out HoP.out ?_)
          | fail)
        refine bodyPost_ret (results_cell_row rfl _ _ M _ _ _ _ rfl (setRow_heap _ _ _ _ _ _ Hst.out.hq) Tryz.underlying61 rfl HszA.out) rfl ?_
        have hk9 : Keep (· = M) wr (wr.setRow M (packV key ct (.slice Ab acc.length capb)).toArray) := ⟨rfl, rfl, rfl, by simp [World.setRow], fun k _ hk => setRow_other wr M k _ hk⟩
        obtain ⟨xs, hx1, hx2⟩ := Hst.out.own_keep hk9 (fun j hj e => by have := Hst.out.ob_ge j hj; have : j = M := e; omega)
        obtain ⟨A9, c9, hr9⟩ := Hst.out.rd
        have hMe := HM.out
        refine ⟨_, rfl, ⟨Ab, capb, xs, ?_, Rd.of_own (by rw [Hpack.out]; simp only [PackD.toA, Hm1b.out]; exact hx1) (fun g _ hg => by show w.heap.size ≤ g; omega), by rw [Hpack.out]; simp only [PackD.toA, Hm1b.out]; exact hx2, ?_, ?_⟩, ?_, Hst.out.kp.step hk9 (fun i hi hlt => by have : i = M := hi; omega)⟩
        · rw [Hpack.out]
          simp only [PackD.toA, Hm1b.out, ← Hkey.out]
          rfl
        · rw [Hpack.out]
          simp only [PackD.toA, Hm1b.out]
          omega
        · rw [Hpack.out]
          simp only [PackD.toA]
          omega
        · rw [Hpack.out]
          simp only [Hm2b.out]
          exact ⟨A9, c9, (hr9.keep hk9 (fun i hi _ e => by have := hi.2; have : i = M := e; omega)).mono (fun i _ hi => hi.1)⟩
      · have hb0 : bs ≠ 0 := by rcases hover with h | h; · exact absurd h hn
                                · exact h
        obtain ⟨A9, c9, hr9⟩ := Hst.out.rd
        have HR9 := hide hr9
        have hnp : (0 : Int) < (n : Int) := by omega
        have hbz : ((bs : Int) == 0) = false := by rw [beq_eq_false_iff_ne]; omega
        have Hok2 := hide (show bs = 0 ∨ bs = 3 ∨ bs = 10 from Hok.out.1)
        clear hr9 hover
        go_wp2_with (first
          | (go_at_call 33; ((with_reducible refine (rwrong_any _ rb c9 A9 ls bs _ HR9.out Hok2.out).mono ?_)); rintro e w9 ⟨rfl, hw9⟩; obtain rfl : wr = w9 := hw9.symm)
          | (with_reducible refine wpList_load_row rfl 61 (.tmp 3) rfl (M + 1) rfl 61 (packV key ct (.slice Ab acc.length capb)).toArray (0, 0) _ HP.out Tryz.underlying61 rfl HszA.out ?_)
          | (refine wpList_store_all rfl 61 (.tmp 2) (.tmp 42) rfl M zeroP (packV key ct (.slice Ab acc.length capb)) 61 Hst.out.hq rfl rfl HlP.out HszP.out HoP.out ?_)
          | fail)
        refine bodyPost_ret (results_cell_row rfl _ _ M _ _ _ _ rfl (setRow_heap _ _ _ _ _ _ Hst.out.hq) Tryz.underlying61 rfl HszA.out) rfl ?_
        have hk9 : Keep (· = M) wr (wr.setRow M (packV key ct (.slice Ab acc.length capb)).toArray) := ⟨rfl, rfl, rfl, by simp [World.setRow], fun k _ hk => setRow_other wr M k _ hk⟩
        obtain ⟨xs, hx1, hx2⟩ := Hst.out.own_keep hk9 (fun j hj e => by have := Hst.out.ob_ge j hj; have : j = M := e; omega)
        have hr9 := HR9.out
        have hMe := HM.out
        refine ⟨_, rfl, ⟨Ab, capb, xs, ?_, Rd.of_own (by rw [Hpack.out]; simp only [PackD.toA, Hm1b.out]; exact hx1) (fun g _ hg => by show w.heap.size ≤ g; omega), by rw [Hpack.out]; simp only [PackD.toA, Hm1b.out]; exact hx2, ?_, ?_⟩, ?_, Hst.out.kp.step hk9 (fun i hi hlt => by have : i = M := hi; omega)⟩
        · rw [Hpack.out]
          simp only [PackD.toA, Hm1b.out, ← Hkey.out]
          rfl
        · rw [Hpack.out]
          simp only [PackD.toA, Hm1b.out]
          omega
        · rw [Hpack.out]
          simp only [PackD.toA]
          omega
        · rw [Hpack.out]
          simp only [Hm2b.out]
          exact ⟨A9, c9, (hr9.keep hk9 (fun i hi _ e => by have := hi.2; have : i = M := e; omega)).mono (fun i _ hi => hi.1)⟩
    · obtain ⟨m, rfl⟩ : ∃ m, n = m + 1 := ⟨n - 1, by omega⟩
      obtain rfl : bs = 0 := by omega
      obtain ⟨x1, l4, b4, hT1⟩ : ∃ x l b, takeR 16 (ls, 0) = (x, (l, b)) := ⟨_, _, _, rfl⟩
      obtain ⟨x2, l5, b5, hT2⟩ : ∃ x l b, takeR 32 (l4, b4) = (x, (l, b)) := ⟨_, _, _, rfl⟩
      have hblob : blobR (ls, 0) = (⟨x1, x2⟩, (l5, b5)) := by simp only [blobR, hT1, hT2]
      have hms := manyR_step blobR m (ls, 0) rfl
      rw [hblob] at hms
      have hm1 := Hm1.out
      have hm2 := Hm2.out
      rw [hms] at hm1 hm2
      rw [List.map_cons] at hm1
      have Hm1b := hide hm1
      have Hm2b := hide hm2
      have hok5 : OkS (l5, b5) := by have := Hok.out.blob; rw [hblob] at this; exact this
      have hx1 : x1.length ≤ 16 := by have := takeR_short1 16 (ls, 0); rw [show ((16 : Nat) : Int) = 16 from rfl, hT1] at this; exact this
      have hx2 : x2.length ≤ 32 := by have := takeR_short1 32 (l4, b4); rw [show ((32 : Nat) : Int) = 32 from rfl, hT2] at this; exact this
      have Hx1 := hide hx1
      have Hx2 := hide hx2
      have Hok5 := hide hok5
      have HT1 := hide hT1
      have HT2 := hide hT2
      have L16 := hide (show (16 : Int) ≤ 1073741824 by decide)
      have L32 := hide (show (32 : Int) ≤ 1073741824 by decide)
      have Z16 := hide (show 0 + 16 ≤ zeroB.length by decide)
      have HokW := hide (show 0 = 0 ∨ 0 = 3 ∨ 0 = 10 from .inl rfl)
      obtain ⟨A9, c9, hr9⟩ := Hst.out.rd
      have HR9 := hide hr9
      have hnp : (0 : Int) < (m : Int) + 1 := by omega
      clear hms hm1 hm2 hblob hT1 hT2 hx1 hx2 hok5 hr9 hover
      go_wp2_with (first
        | (go_at_call 33; ((with_reducible refine (rwrong_any _ rb c9 A9 ls 0 _ HR9.out HokW.out).mono ?_)); rintro e w9 ⟨rfl, hw9⟩; obtain rfl : wr = w9 := hw9.symm)
        | fail)
      obtain ⟨X, hX⟩ : ∃ X, X = wr.heap.size := ⟨_, rfl⟩
      obtain ⟨W, hW⟩ : ∃ W : World, W = wr.alloc (.cells zeroB.toArray 73) := ⟨_, rfl⟩
      have HSW := hide (show PSt w W.drew B rb M key ct ls 0 acc Ab capb X by rw [hW, hX]; exact Hst.out.step (((Keep.refl (fun _ => False) wr).alloc _).drew) (fun i f => f.elim))
      have HXW := hide (show W.drew.heap[X]? = some (.cells zeroB.toArray 73 (0, 0)) by rw [hW, hX]; exact heap_alloc_new _ _)
      have HXs := hide (show X < W.drew.heap.size by rw [hW, hX]; show wr.heap.size < (wr.alloc _).heap.size; simp)
      have HXr := hide (show X ≠ rb by have := Hst.out.mx; have := Hst.out.hr; omega)
      obtain ⟨AW, cW, hrW⟩ := HSW.out.rd
      have HRW := hide hrW
      change Code.wp Tryz.prog _ _ _ (wr.alloc (.cells zeroB.toArray 73))
      rw [← hW, ← hX]
      have HP33 := hide (show W.heap.size = X + 1 by rw [hW, hX]; simp)
      clear hrW hX hW
      go_region_law (first
        | (go_simp; go_at_call 35; ((with_reducible refine (rraw_b 16 ls x1 0 l4 b4 HRW.out L16.out HT1.out).mono ?_)); rintro e w5 ⟨A6, c6, rfl, hown6, hR6, hk6⟩; have Hown6 := hide (Rd.of_own (S := fun _ => True) hown6 (fun _ _ _ => trivial)); have HS5 := hide (HSW.out.call hk6 hR6); have HX5 := hide ((hk6.block X HXs.out HXr.out).trans HXW.out); have HXs5 := hide (Nat.lt_of_lt_of_le HXs.out hk6.size); clear hown6 hR6 hk6)
        | (refine step_copy_b rfl (.tmp 27) (.tmp 29) rfl X 0 16 zeroB 73 HX5.out x1 rfl rfl rfl Hown6.out Hx1.out Z16.out ?_; intro w6 hX6 hk7; have HS6 := hide (HS5.out.step hk7 (fun i hi => Nat.le_of_eq (Eq.symm hi))); have HXs6 := hide (Nat.lt_of_lt_of_le HXs5.out hk7.size); have HX6 := hide (show w6.heap[X]? = some (.cells (encB (padB 16 x1) ++ zero32).toArray 73 (0, 0)) by rw [hX6.out, zeroB, over_pad 16 x1 Hx1.out]); clear hX6 hk7)
        | fail)
      obtain ⟨nm, hnm⟩ : ∃ nm, nm = padB 16 x1 := ⟨_, rfl⟩
      have hX6 := HX6.out
      rw [← hnm] at hX6
      have HX6b := hide hX6
      have Hnm := hide hnm
      have HS6d := hide (HS6.out.step (Keep.drew (Keep.refl (fun _ => False) w6)) (fun i f => f.elim))
      obtain ⟨A7, c7, hr7⟩ := HS6d.out.rd
      have HR7 := hide hr7
      have Z32 := hide (show 16 + 32 ≤ (encB nm ++ zero32).length by rw [List.length_append, encB_len]; decide)
      clear hr7 hnm hX6
      go_wp2_with fail
      go_region_law (first
        | (go_simp; go_at_call 35; ((with_reducible refine (rraw_b 32 l4 x2 b4 l5 b5 HR7.out L32.out HT2.out).mono ?_)); rintro e w7 ⟨A8, c8, rfl, hown8, hR8, hk8⟩; have Hown8 := hide (Rd.of_own (S := fun _ => True) hown8 (fun _ _ _ => trivial)); have HS7 := hide (HS6d.out.call hk8 hR8); have HX7 := hide ((hk8.block X HXs6.out HXr.out).trans HX6b.out); have HXs7 := hide (Nat.lt_of_lt_of_le HXs6.out hk8.size); clear hown8 hR8 hk8)
        | (refine step_copy_b rfl (.tmp 32) (.tmp 34) rfl X 16 32 (encB nm ++ zero32) 73 HX7.out x2 rfl rfl rfl Hown8.out Hx2.out Z32.out ?_; intro w8 hX8 hk9; have HS8 := hide (HS7.out.step hk9 (fun i hi => Nat.le_of_eq (Eq.symm hi))); have HXs8 := hide (Nat.lt_of_lt_of_le HXs7.out hk9.size); have HX8 := hide (show w8.heap[X]? = some (.cells (encB nm ++ encB (padB 32 x2)).toArray 73 (0, 0)) by rw [hX8.out]; have e1 := over_shift (encB nm) (zero32) (bytesV x2); rw [encB_len] at e1; have e2 := over_pad 32 x2 Hx2.out []; rw [List.append_nil, List.append_nil] at e2; rw [e1, zero32, e2]); clear hX8 hk9)
        | fail)
      obtain ⟨bc, hbc⟩ : ∃ bc, bc = encB nm ++ encB (padB 32 x2) := ⟨_, rfl⟩
      have hbl : bc.length = 48 := by rw [hbc, List.length_append, encB_len, encB_len]
      have hX8 := HX8.out
      rw [← hbc] at hX8
      have HX8b := hide hX8
      have Hbc := hide (show BlobC (BlobD.toA ⟨x1, x2⟩) bc by rw [hbc, Hnm.out]; rfl)
      have Hbl := hide hbl
      have Hbo := hide (show ∀ u ∈ bc, u.oneCell' = true from BlobC.one _ _ Hbc.out)
      have hbu := build_eq bc 48 hbl
      obtain ⟨xs, hown8b, hels8⟩ := HS8.out.own
      have Hown8b := hide hown8b
      have Hels8 := hide hels8
      have p33 : w8.cell? ⟨M + 1, 33, none⟩ = some (.slice Ab acc.length capb) := by
        rw [cell_of_row _ _ 33 _ _ _ HS8.out.hp, List.getElem?_toArray]
        exact (at32 (encB key) _ _ (encB_len _)).2
      have HszX := hide (show (Tryz.prog.info? 73).map (·.size) = some bc.toArray.size by rw [List.size_toArray, hbl]; kernel_rfl)
      have Ls1 := hide (show acc.length + 1 ≤ maxLen by unfold maxLen; omega)
      have Ls2 := hide (show (acc.length + 1) * 48 ≤ 140737488355328 by omega)
      have Ls3 := hide (show M + 2 ≤ w8.heap.size from Nat.le_trans HS8.out.mx HS8.out.xs)
      have hMX : M + 2 ≤ X := HS8.out.mx
      clear hbc hX8 hown8b hels8
      go_wp2_with (first
        | (with_reducible refine wpList_load_row rfl 73 (.tmp 5) rfl X rfl 73 bc.toArray (0, 0) _ HX8b.out Tryz.underlying73 rfl HszX.out ?_)
        | (at_builtin; refine wpList_append_rd _ rfl (.tmp 37) (.tmp 39) 59 59 rfl (M + 2) 73 73 _ 48 48 Tryz.underlying59 Tryz.underlying59 Tryz.info73 rfl (by decide) (.slice Ab acc.length capb) acc.length xs rfl (own_below Hown8b.out ((Below.refl _ _).alloc (Nat.le_refl _) _)) _ _ 1 1 bc rfl (Rd.new_at _ _ _ _ rfl (by rw [Hbl.out])) Hbo.out Ls1.out Ls2.out (Nat.le_trans Ls3.out (by simp)) ?_; intro A10 cap10 w10 hown10 hgrow10 hat10; have hP10 := (hgrow10.block (M + 1) (by have := Ls3.out; simp; omega) (fun e => by have := HS8.out.ob_ge (M + 1) e.symm; omega)).trans ((Below.heap_alloc w8 _ (M + 1) (by have := Ls3.out; omega)).trans HS8.out.hp); have p33b : w10.cell? ⟨M + 1, 33, none⟩ = some (.slice Ab acc.length capb) := (by rw [cell_of_row _ _ 33 _ _ _ hP10, List.getElem?_toArray]; exact (at32 (encB key) _ _ (encB_len _)).2); have f33b : w10.frozen? ⟨M + 1, 33, none⟩ = false := frozen_of_row _ _ _ _ _ hP10; have HP10 := hide hP10; have Hown10 := hide hown10; have Hgr := hide hgrow10; have Hat := hide hat10; clear hP10 hown10 hgrow10 hat10)
        | fail)
      have hK : Keep (fun i => (Value.slice Ab acc.length capb).ownBlock = some i ∨ i = M + 1) w8 (w10.setCell ⟨M + 1, 33, none⟩ (.slice A10 (acc.length + 1) cap10)) :=
        (((Keep.refl _ w8).alloc _).grown Hgr.out (fun k hk _ => .inl hk)).setCell (p := ⟨M + 1, 33, none⟩) (fun _ => .inr rfl) _
      have hF : ∀ i, ((Value.slice Ab acc.length capb).ownBlock = some i ∨ i = M + 1) → M < i := by
        rintro i (h | h)
        · have := HS8.out.ob_ge i h; omega
        · omega
      have hMw := HS8.out.hM
      have hsz8 := hK.size
      obtain ⟨A11, c11, hr11⟩ := HS8.out.rd
      have hown11 := ownsRow_keep Hown10.out ((Keep.refl (· = M + 1) w10).setCell (p := ⟨M + 1, 33, none⟩) (fun _ => rfl) (.slice A10 (acc.length + 1) cap10)) (fun j hj e => by have := (Hown10.out.lt j hj).1; have : j = M + 1 := e; omega)
      have hlen1 : (acc ++ [BlobD.toA ⟨x1, x2⟩]).length = acc.length + 1 := by simp
      refine ⟨⟨m, l5, b5, acc ++ [BlobD.toA ⟨x1, x2⟩], A10, cap10, rfl, ⟨⟨A11, c11, hr11.keep hK (fun i hi _ h => by have := hF i h; have := hi.2; omega)⟩, ?_, ?_, ?_, ?_, hMw, HS8.out.hr, ?_, Nat.le_refl _, ?_⟩, Hok5.out, ?_, Hm2b.out, ?_⟩, ?_⟩
      · rw [heap_setCell_same _ _ _ _ _ _ HP10.out, packV, set33 _ _ _ _ (encB_len _), hlen1]
        rfl
      · exact (hK.block M (by have := Ls3.out; omega) (fun h => by have := hF M h; omega)).trans HS8.out.hq
      · rw [hlen1]
        exact ⟨xs ++ bc, hown11, Hels8.out.append (Els.one Hbc.out)⟩
      · exact HS8.out.kp.step hK (fun i h hlt => by have := hF i h; omega)
      · have := Ls3.out; omega
      · rw [hlen1]
        intro j hj
        exact (hown11.lt j hj).2
      · rw [Hm1b.out, List.append_assoc]
        rfl
      · rw [hlen1]; omega
      · simp [intOf]
end Go.Proofs.YtimfmbcihopaaaaGreatDoor
