/- manifest.Read. -/
import Derived.Test.YtimfmbcihopaaaaGreatDoorReadP
namespace Go.Proofs.YtimfmbcihopaaaaGreatDoor
open Go.RowKit Go.Cof

def zeroBody : List Value := [.int .u64 0, .int .u64 0, .int .i64 0, .int .u64 0, .slice none 0 0, .slice none 0 0]
/-- A body's cells. -/
def bodyV (g ep wt st : Nat) (R P : Value) : List Value := [.int .u64 g, .int .u64 ep, .int .i64 wt, .int .u64 st, R, P]
theorem beV_num (n : Nat) (s : Rs) (h : n ≤ 8) : (numR n s).1 < 256 ^ n := by
  have h1 := beV_lt (takeR (min (n : Int) 8) s).1
  have h2 := takeR_short1 n s
  have h3 : min (n : Int) 8 = n := by omega
  rw [h3] at h1
  have h4 : 256 ^ (takeR (n : Int) s).1.length ≤ 256 ^ n := Nat.pow_le_pow_right (by decide) h2
  have h5 : (numR n s).1 = beV (takeR (n : Int) s).1 := by unfold numR; rw [h3]
  omega
/-- What stands while a body is read. -/
structure BSt (w wr : World) (rb M P5 : Nat) (g ep wt st : Nat) (ls : List UInt8) (bs : Nat) (refs : List RefA) (AR : Option Addr) (cR : Nat) (packs : List PackA) (AP : Option Addr) (cP : Nat) : Prop where
  rd : RdrIn wr (fun i => M < i ∧ i < P5) rb ls bs
  hp : wr.heap[P5]? = some (.cells (bodyV g ep wt st (.slice AR refs.length cR) (.slice AP packs.length cP)).toArray 26 (0, 0))
  hq : wr.heap[M]? = some (.cells zeroBody.toArray 26 (0, 0))
  ownR : ∃ xs, wr.ownsRow (P5 + 1) 57 33 (.slice AR refs.length cR) refs.length xs ∧ Els RefC refs xs
  ownP : ∃ xs, wr.ownsRow (P5 + 1) 61 34 (.slice AP packs.length cP) packs.length xs ∧ Els (PackC wr (fun i => P5 < i ∧ (Value.slice AP packs.length cP).ownBlock ≠ some i)) packs xs
  dis : ∀ j, (Value.slice AR refs.length cR).ownBlock = some j → (Value.slice AP packs.length cP).ownBlock ≠ some j
  kp : Below M w wr
  hM : M = w.heap.size
  hr : M < rb ∧ rb < P5
  sz : P5 < wr.heap.size
section
variable {w wr w' : World} {rb M P5 g ep wt st bs cR cP : Nat} {ls : List UInt8} {refs : List RefA} {AR AP : Option Addr} {packs : List PackA}
theorem BSt.geR (h : BSt w wr rb M P5 g ep wt st ls bs refs AR cR packs AP cP) : ∀ j, (Value.slice AR refs.length cR).ownBlock = some j → P5 < j ∧ j < wr.heap.size := by
  intro j hj
  obtain ⟨xs, h1, _⟩ := h.ownR
  have := h1.lt j hj
  omega
theorem BSt.geP (h : BSt w wr rb M P5 g ep wt st ls bs refs AR cR packs AP cP) : ∀ j, (Value.slice AP packs.length cP).ownBlock = some j → P5 < j ∧ j < wr.heap.size := by
  intro j hj
  obtain ⟨xs, h1, _⟩ := h.ownP
  have := h1.lt j hj
  omega
/-- A step that touches neither what is read nor what was there. -/
theorem BSt.step {F : Nat → Prop} (h : BSt w wr rb M P5 g ep wt st ls bs refs AR cR packs AP cP) (hk : Keep F wr w') (hf : ∀ i, i < wr.heap.size → ¬ F i) : BSt w w' rb M P5 g ep wt st ls bs refs AR cR packs AP cP := by
  obtain ⟨A5, c5, h5⟩ := h.rd
  obtain ⟨xr, r1, r2⟩ := h.ownR
  obtain ⟨xp, p1, p2⟩ := h.ownP
  have hs := h.sz
  have hrr := h.hr
  exact ⟨⟨A5, c5, h5.keep hk (fun i _ hlt => hf i hlt)⟩, (hk.block _ hs (hf _ hs)).trans h.hp, (hk.block _ (by omega) (hf _ (by omega))).trans h.hq,
    ⟨xr, ownsRow_keep r1 hk (fun j hj => hf j (r1.lt j hj).2), r2⟩, ⟨xp, ownsRow_keep p1 hk (fun j hj => hf j (p1.lt j hj).2), p2.imp (fun p c _ hc => PackC.keep hk (fun b _ hlt => hf b hlt) p c hc)⟩,
    h.dis, h.kp.trans ((hk.mono (G := fun _ => False) (fun i hi hh => hf i hi hh)).none_below.mono (by have := h.kp.size; have := h.hM; omega)), h.hM, h.hr, Nat.lt_of_lt_of_le hs hk.size⟩
/-- A call of the reader's. -/
theorem BSt.call (h : BSt w wr rb M P5 g ep wt st ls bs refs AR cR packs AP cP) (hk : Keep (· = rb) wr w') {l2 : List UInt8} {b2 : Nat} (hr : RdrIn w' (fun i => M < i ∧ i < P5) rb l2 b2) : BSt w w' rb M P5 g ep wt st l2 b2 refs AR cR packs AP cP := by
  obtain ⟨xr, r1, r2⟩ := h.ownR
  obtain ⟨xp, p1, p2⟩ := h.ownP
  have hs := h.sz
  have hrr := h.hr
  exact ⟨hr, (hk.block _ hs (by omega)).trans h.hp, (hk.block _ (by omega) (by omega)).trans h.hq,
    ⟨xr, ownsRow_keep r1 hk (fun j hj e => by have := (r1.lt j hj).1; omega), r2⟩, ⟨xp, ownsRow_keep p1 hk (fun j hj e => by have := (p1.lt j hj).1; omega), p2.imp (fun p c _ hc => PackC.keep hk (fun b hb hlt e => by have := hb.1; omega) p c hc)⟩,
    h.dis, h.kp.trans (hk.below (B := M) (by have := h.kp.size; have := h.hM; omega) (fun i e => by have : i = rb := e; omega)), h.hM, h.hr, Nat.lt_of_lt_of_le hs hk.size⟩
end
theorem rsized_b {B : Nat → Prop} {rb cap : Nat} {A : Option Addr} (l x : List UInt8) (bad : Nat) (l2 : List UInt8) (b2 : Nat) {w : World} (h : RdrAt w B rb A cap l bad) (hN : sizedR (l, bad) = (x, (l2, b2))) :
    Calls Tryz.prog 34 #[.pointer (some ⟨rb, 0, none⟩)] w fun e w' => Rawed w w' B rb x (l2, b2) e := by
  have h1 := rsized_any B rb cap A l bad w h
  rw [hN] at h1
  exact h1
theorem sizedR_len (s : Rs) (h : s.1.length ≤ 1073741824) : (sizedR s).1.length ≤ 1073741824 := by
  unfold sizedR
  split
  · simp
  · exact takeR_len _ _ (takeR_big _ s h)
theorem Tryz.info57 : (Tryz.prog.info? 57).map (fun i => (i.zero, i.size, i.bytes)) = some (some (.agg (#[.string ⟨#[]⟩] ++ Array.replicate 32 (.int .u8 0))), 33, 48) := by kernel_rfl
/-- string(b), as one step. -/
theorem wpList_conv_rd {ops : Array Oper} {rest : List Oper} {o : Oper} {a : Act} {w : World} {Q : Exit → Act → World → Prop} {S : Nat → Prop} {A : Option Addr} {k c : Nat} (hgd : o.guard = none) (x : Operand) (ho : o.op = .convert 27 9 x) (l : List UInt8) (hk : l.length = k) (hx : a.eval x = .slice A k c) (hr : Rd w S 1 A l.length (bytesV l))
    (h : wpList Tryz.prog ops Q rest (a.put o.dst (.string ⟨l.toArray⟩)) w) : wpList Tryz.prog ops Q (o :: rest) a w := by
  subst hk
  refine wpList_plain hgd fun _ hK => ?_
  have hrun := run_convert_rd (P := Tryz.prog) w 27 9 5 Tryz.underlying27 Tryz.underlying5 Tryz.underlying9 S A l c hr
  unfold Oper.wp execOp
  simp only [ho, hx, Sem.run_bind, hrun, Result.andThen_ok, Sem.run_pure]
  exact hK _ _ h
theorem Tryz.info61 : (Tryz.prog.info? 61).map (fun i => (i.zero, i.size, i.bytes)) = some (some (.agg (Array.replicate 32 (.int .u8 0) ++ #[.int .i64 0, .slice none 0 0])), 34, 64) := by kernel_rfl
theorem readP_b {B : Nat → Prop} {rb cap : Nat} {A : Option Addr} (l : List UInt8) (bad : Nat) {w : World} (pk : PackD) (l2 : List UInt8) (b2 : Nat) (h : RdrAt w B rb A cap l bad) (hs : OkS (l, bad)) (hN : packR (l, bad) = (pk, (l2, b2))) :
    Calls Tryz.prog 36 #[.pointer (some ⟨rb, 0, none⟩)] w fun e w' => ∃ cs : List Value, e = .returned (.agg cs.toArray) ∧ PackC w' (fun i => w.heap.size ≤ i) pk.toA cs ∧ RdrIn w' B rb l2 b2 ∧ Keep (· = rb) w w' := by
  refine (readP_any B rb cap A l bad w h hs).mono ?_
  rintro e w' ⟨c, rfl, h1, h2, h3⟩
  rw [hN] at h1 h2
  exact ⟨c.toList, rfl, h1, h2, h3⟩
theorem below_setRow {B : Nat} {w w' : World} (h : Below B w w') {g : Nat} (hg : B ≤ g) (cs : Array Value) : Below B w (w'.setRow g cs) :=
  ⟨h.os, h.tape, h.output, by simpa [World.setRow] using h.size, fun k hk => (setRow_other w' g k cs (by omega)).trans (h.block k hk)⟩
theorem refV_one (x : List UInt8) : ∀ v ∈ strV x :: zero32, v.oneCell' = true := by
  intro v hv
  rcases List.mem_cons.1 hv with rfl | hv
  · rfl
  · rw [List.eq_of_mem_replicate hv]; rfl
theorem keep_setRow {F : Nat → Prop} {w w' : World} (h : Keep F w w') {g : Nat} (hg : g < w.heap.size → F g) (cs : Array Value) : Keep F w (w'.setRow g cs) :=
  ⟨h.os, h.tape, h.output, by simpa [World.setRow] using h.size, fun k hk hf => (setRow_other w' g k cs (fun e => hf (by rw [e]; exact hg (by omega)))).trans (h.block k hk hf)⟩
/-- A pack more. -/
theorem BSt.more {w w13 w14 : World} {rb M P5 g ep wt st bs cR cP : Nat} {ls : List UInt8} {refs : List RefA} {AR AP : Option Addr} {packs : List PackA} (h : BSt w w13 rb M P5 g ep wt st ls bs refs AR cR packs AP cP)
    (X : Nat) (hX5 : P5 < X) (hob : ∀ j, (Value.slice AP packs.length cP).ownBlock = some j → j < X) (hX : X ≤ w13.heap.size) (pk : PackA) (cs : List Value) (hpc : PackC w13 (fun i => X ≤ i) pk cs) (o : Obj) (A14 : Option Addr) (cap14 : Nat) (xp : List Value)
    (helsP : Els (PackC w13 (fun i => P5 < i ∧ (Value.slice AP packs.length cP).ownBlock ≠ some i)) packs xp)
    (hown : w14.ownsRow (P5 + 1) 61 34 (.slice A14 (packs.length + 1) cap14) (packs.length + 1) (xp ++ cs)) (hgr : (w13.alloc o).grownBy w14 (Value.slice AP packs.length cP).ownBlock)
    (hat : (Value.slice A14 (packs.length + 1) cap14).ownBlock = (Value.slice AP packs.length cP).ownBlock ∨ (Value.slice A14 (packs.length + 1) cap14).ownBlock = some (w13.alloc o).heap.size) :
    BSt w (w14.setCell ⟨P5, 5, none⟩ (.slice A14 (packs.length + 1) cap14)) rb M P5 g ep wt st ls bs refs AR cR (packs ++ [pk]) A14 cap14 := by
  have hs := h.sz
  have hrr := h.hr
  have hK : Keep (fun i => (Value.slice AP packs.length cP).ownBlock = some i ∨ i = P5) w13 (w14.setCell ⟨P5, 5, none⟩ (.slice A14 (packs.length + 1) cap14)) :=
    (((Keep.refl _ w13).alloc _).grown hgr (fun k hk _ => .inl hk)).setCell (p := ⟨P5, 5, none⟩) (fun _ => .inr rfl) _
  have hF : ∀ i, ((Value.slice AP packs.length cP).ownBlock = some i ∨ i = P5) → P5 ≤ i := by
    rintro i (hh | hh)
    · have := (h.geP i hh).1; omega
    · omega
  have hP14 : w14.heap[P5]? = some (.cells (bodyV g ep wt st (.slice AR refs.length cR) (.slice AP packs.length cP)).toArray 26 (0, 0)) :=
    (hgr.block P5 (by simp; omega) (fun e => by have := (h.geP P5 e.symm).1; omega)).trans ((Below.heap_alloc w13 _ P5 hs).trans h.hp)
  obtain ⟨A12, c12, hr12⟩ := h.rd
  obtain ⟨xr, r1, r2⟩ := h.ownR
  have hown12 := ownsRow_keep hown ((Keep.refl (· = P5) w14).setCell (p := ⟨P5, 5, none⟩) (fun _ => rfl) (.slice A14 (packs.length + 1) cap14)) (fun j hj e => by have := (hown.lt j hj).1; have : j = P5 := e; omega)
  have hlen1 : (packs ++ [pk]).length = packs.length + 1 := by simp
  have hkp := h.kp.size
  have hMw := h.hM
  have hnew : ∀ j, j < w13.heap.size → (Value.slice AP packs.length cP).ownBlock ≠ some j → (Value.slice A14 (packs.length + 1) cap14).ownBlock ≠ some j := by
    intro j hj hne e
    rcases hat with h8 | h8
    · rw [h8] at e; exact hne e
    · rw [h8] at e; simp at e; omega
  refine ⟨⟨A12, c12, hr12.keep hK (fun i hi _ hh => by have := hF i hh; have := hi.2; omega)⟩, ?_, ?_, ?_, ?_, ?_, ?_, hMw, hrr, ?_⟩
  · rw [heap_setCell_same _ _ _ _ _ _ hP14, hlen1]
    rfl
  · exact (hK.block M (by omega) (fun hh => by have := hF M hh; omega)).trans h.hq
  · exact ⟨xr, ownsRow_keep r1 hK (fun j hj hh => by
      rcases hh with hh | hh
      · exact h.dis j hj hh
      · have := (r1.lt j hj).1; omega), r2⟩
  · rw [hlen1]
    refine ⟨xp ++ cs, hown12, ?_⟩
    refine (helsP.imp (fun p c _ hc => ?_)).append (Els.one ?_)
    · exact PackC.mono (fun b _ hb => hb) p c (PackC.keep hK (fun b hb _ hh => by
        rcases hh with hh | hh
        · exact hb.2.1 hh
        · have := hb.1; omega) p c (PackC.mono (S' := fun i => P5 < i ∧ (Value.slice AP packs.length cP).ownBlock ≠ some i ∧ (Value.slice A14 (packs.length + 1) cap14).ownBlock ≠ some i) (fun b hb hh => ⟨hh.1, hh.2, hnew b hb hh.2⟩) p c hc)) |> PackC.mono (fun b _ hb => ⟨hb.1, hb.2.2⟩) p c
    · exact PackC.mono (fun b _ hb => ⟨hb.1, hb.2.2⟩) _ _ (PackC.keep hK (fun b hb _ hh => by
        rcases hh with hh | hh
        · exact hb.2.1 hh
        · have := hb.1; omega) _ _ (PackC.mono (S' := fun i => P5 < i ∧ (Value.slice AP packs.length cP).ownBlock ≠ some i ∧ (Value.slice A14 (packs.length + 1) cap14).ownBlock ≠ some i) (fun b hb hh => by
          have h1 : (Value.slice AP packs.length cP).ownBlock ≠ some b := fun e => by have := hob b e; omega
          exact ⟨by omega, h1, hnew b hb h1⟩) _ _ hpc))
  · rw [hlen1]
    intro j hj
    exact hnew j (h.geR j hj).2 (h.dis j hj)
  · exact h.kp.trans (hK.below (B := M) (by omega) (fun i hh => by have := hF i hh; omega))
  · have := hK.size; omega
/-- A step that touches one block of its own, apart from all that stands. -/
theorem BSt.put {w wr w' : World} {rb M P5 g ep wt st bs cR : Nat} {ls : List UInt8} {refs : List RefA} {AR : Option Addr} {X : Nat} (h : BSt w wr rb M P5 g ep wt st ls bs refs AR cR [] none 0) (hk : Keep (· = X) wr w') (hX : P5 < X) (hne : ∀ j, (Value.slice AR refs.length cR).ownBlock = some j → j < X) : BSt w w' rb M P5 g ep wt st ls bs refs AR cR [] none 0 := by
  obtain ⟨A5, c5, h5⟩ := h.rd
  obtain ⟨xr, r1, r2⟩ := h.ownR
  have hs := h.sz
  have hrr := h.hr
  exact ⟨⟨A5, c5, h5.keep hk (fun i hb hlt e => by have := hb.2; omega)⟩, (hk.block _ hs (by omega)).trans h.hp, (hk.block _ (by omega) (by omega)).trans h.hq,
    ⟨xr, ownsRow_keep r1 hk (fun j hj e => by have := hne j hj; omega), r2⟩, ⟨[], World.ownsRow_nil _ _ _ _, rfl⟩, h.dis, h.kp.trans (hk.below (B := M) (by have := h.kp.size; have := h.hM; omega) (fun i e => by have : i = X := e; omega)), h.hM, h.hr, Nat.lt_of_lt_of_le hs hk.size⟩
def MRead (w w' : World) (l : List UInt8) (e : Ending) : Prop :=
  if readOkB l = true then ∃ v, e = .returned (.tuple #[v, .int .i64 0]) ∧ BodyC w' (fun i => w.heap.size ≤ i ∧ i < w'.heap.size) (bodyR l).toA v ∧ Below w.heap.size w w'
  else e = .returned (.tuple #[.agg zeroBody.toArray, .int .i64 11]) ∧ Below w.heap.size w w'

set_option maxHeartbeats 4000000 in
set_option maxRecDepth 100000 in
theorem mread_any (S : Nat → Prop) (A : Option Addr) (cap : Nat) (l : List UInt8) (mx : Int) (w : World) (hr : Rd w S 1 A l.length (bytesV l)) (hl : l.length ≤ 100000) (hm : w.cell? ⟨0, 0, none⟩ = some (.int .i64 mx)) :
    Calls Tryz.prog 10 #[.slice A l.length cap] w fun e w' => MRead w w' l e := by
  have h0 := cell_lt hm
  have Hm := hide hm
  have Hrd := hide (hr.alloc (.cells zeroBody.toArray 26))
  have Hrd0 := hide hr
  have Ll := hide (show l.length ≤ 1073741824 by omega)
  clear hm hr
  obtain ⟨g, l1, b1, hN1⟩ : ∃ v lq bq, numR 8 (l, 0) = (v, (lq, bq)) := ⟨_, _, _, rfl⟩
  obtain ⟨ep, l2, b2, hN2⟩ : ∃ v lq bq, numR 8 (l1, b1) = (v, (lq, bq)) := ⟨_, _, _, rfl⟩
  obtain ⟨wt, l3, b3, hN3⟩ : ∃ v lq bq, numR 1 (l2, b2) = (v, (lq, bq)) := ⟨_, _, _, rfl⟩
  obtain ⟨st, l4, b4, hN4⟩ : ∃ v lq bq, numR 8 (l3, b3) = (v, (lq, bq)) := ⟨_, _, _, rfl⟩
  obtain ⟨nr, l5, b5, hN5⟩ : ∃ v lq bq, numR 1 (l4, b4) = (v, (lq, bq)) := ⟨_, _, _, rfl⟩
  obtain ⟨rfs, l6, b6, hM1⟩ : ∃ v lq bq, manyR refR nr (l5, b5) = (v, (lq, bq)) := ⟨_, _, _, rfl⟩
  obtain ⟨np, l7, b7, hN6⟩ : ∃ v lq bq, numR 1 (l6, b6) = (v, (lq, bq)) := ⟨_, _, _, rfl⟩
  obtain ⟨pks, sE, hM2⟩ : ∃ v s, manyR packR np (l7, b7) = (v, s) := ⟨_, _, rfl⟩
  have hbody : bodyR l = ⟨g, ep, (wt : Nat), st, rfs, pks⟩ := by
    have e1 : refsR l = (rfs, (l6, b6)) := by simp only [refsR, headR, hN1, hN2, hN3, hN4, hN5, hM1]
    have e2 : packsR l = (pks, sE) := by rw [packsR, e1]; simp only [hN6, hM2]
    rw [bodyR, e1, e2]
    simp only [headR, hN1, hN2, hN3, hN4]
  have o0 : OkS (l, 0) := ⟨.inl rfl, Ll.out⟩
  have o1 : OkS (l1, b1) := by have := o0.num 8; rw [hN1] at this; exact this
  have o2 : OkS (l2, b2) := by have := o1.num 8; rw [hN2] at this; exact this
  have o3 : OkS (l3, b3) := by have := o2.num 1; rw [hN3] at this; exact this
  have o4 : OkS (l4, b4) := by have := o3.num 8; rw [hN4] at this; exact this
  have o5 : OkS (l5, b5) := by have := o4.num 1; rw [hN5] at this; exact this
  have o6 : OkS (l6, b6) := by have := OkS.many (fun _ => OkS.ref) nr _ o5; rw [hM1] at this; exact this
  have o7 : OkS (l7, b7) := by have := o6.num 1; rw [hN6] at this; exact this
  have hg : g < 18446744073709551616 := by have := beV_num 8 (l, 0) (by omega); rw [show ((8 : Nat) : Int) = 8 from rfl, hN1] at this; exact this
  have hep : ep < 18446744073709551616 := by have := beV_num 8 (l1, b1) (by omega); rw [show ((8 : Nat) : Int) = 8 from rfl, hN2] at this; exact this
  have hwt : wt < 256 := by have := beV_num 1 (l2, b2) (by omega); rw [show ((1 : Nat) : Int) = 1 from rfl, hN3] at this; exact this
  have hst : st < 18446744073709551616 := by have := beV_num 8 (l3, b3) (by omega); rw [show ((8 : Nat) : Int) = 8 from rfl, hN4] at this; exact this
  have hnr : nr < 256 := by have := beV_num 1 (l4, b4) (by omega); rw [show ((1 : Nat) : Int) = 1 from rfl, hN5] at this; exact this
  have hnp : np < 256 := by have := beV_num 1 (l6, b6) (by omega); rw [show ((1 : Nat) : Int) = 1 from rfl, hN6] at this; exact this
  have Hbody := hide hbody
  have HN1 := hide hN1
  have HN2 := hide hN2
  have HN3 := hide hN3
  have HN4 := hide hN4
  have HN5 := hide hN5
  have HN6 := hide hN6
  have HM1 := hide hM1
  have HM2 := hide hM2
  have O5 := hide o5
  have O6 := hide o6
  have O7 := hide o7
  have Hg := hide (And.intro hg (And.intro hep hst))
  clear hbody hN1 hN2 hN3 hN4 hN5 hN6 hM1 hM2 o0 o1 o2 o3 o4 o5 o6 o7 hg hep hst
  have Z8 := hide (show (8 : Int) = ((8 : Nat) : Int) from rfl)
  have L8 := hide (show 8 ≤ 8 by omega)
  have Z1 := hide (show (1 : Int) = ((1 : Nat) : Int) from rfl)
  have L1 := hide (show 1 ≤ 8 by omega)
  go_enter Tryz.func10, Tryz.ntmps10
  obtain ⟨M, hM⟩ : ∃ M, M = w.heap.size := ⟨_, rfl⟩
  have HM := hide hM
  clear hM
  go_wp2_with (first
    | (go_at_call 31; refine (rnew_any S A cap l _ Hrd.out Ll.out).mono ?_; rintro e w1 ⟨rb, rfl, ⟨A1, c1, hR1⟩, hb1⟩; have HR1 := hide hR1; have Hb1 := hide hb1; clear hR1 hb1)
    | (go_at_call 32; ((with_reducible refine (rnum_b 8 l 0 g l1 b1 HR1.out Z8.out L8.out HN1.out).mono ?_)); rintro e w2 ⟨rfl, ⟨A2, c2, hR2⟩, hk2⟩; have HR2 := hide hR2; have Hk2 := hide hk2; clear hR2 hk2)
    | (go_at_call 32; ((with_reducible refine (rnum_b 8 l1 b1 ep l2 b2 HR2.out Z8.out L8.out HN2.out).mono ?_)); rintro e w3 ⟨rfl, ⟨A3, c3, hR3⟩, hk3⟩; have HR3 := hide hR3; have Hk3 := hide hk3; clear hR3 hk3)
    | (go_at_call 32; ((with_reducible refine (rnum_b 1 l2 b2 wt l3 b3 HR3.out Z1.out L1.out HN3.out).mono ?_)); rintro e w4 ⟨rfl, ⟨A4, c4, hR4⟩, hk4⟩; have HR4 := hide hR4; have Hk4 := hide hk4; clear hR4 hk4)
    | (go_at_call 32; ((with_reducible refine (rnum_b 8 l3 b3 st l4 b4 HR4.out Z8.out L8.out HN4.out).mono ?_)); rintro e w5 ⟨rfl, ⟨A5, c5, hR5⟩, hk5⟩; have HR5 := hide hR5; have Hk5 := hide hk5; clear hR5 hk5)
    | fail)
  have hrM : M < rb := by have := HR1.out.low; simp at this; have := HM.out; omega
  have hsz1 : M + 1 ≤ w1.heap.size := by have := Hb1.out.size; simp at this; have := HM.out; omega
  have hk25 : Keep (· = rb) w1 w5 := ((Hk2.out.trans Hk3.out).trans Hk4.out).trans Hk5.out
  have hbw1 : Below M w w1 := ((Below.refl _ w).alloc (by have := HM.out; omega) _).trans (Hb1.out.mono (by simp; have := HM.out; omega))
  obtain ⟨P5, hP5⟩ : ∃ P5, P5 = w5.heap.size := ⟨_, rfl⟩
  have hrP : rb < P5 := by rw [hP5]; exact HR5.out.lt
  obtain ⟨W, hW⟩ : ∃ W : World, W = w5.alloc (.cells #[.int .u64 g, .int .u64 ep, .int .i64 wt, .int .u64 st, .slice none 0 0, .slice none 0 0] 26) := ⟨_, rfl⟩
  have HS := hide (show BSt w W rb M P5 g ep wt st l4 b4 [] none 0 [] none 0 from by
    rw [hW]
    refine ⟨⟨A5, c5, (HR5.out.mono (fun i hi hb => ⟨by simp at hb; have := HM.out; omega, by omega⟩)).alloc _⟩, ?_, ?_, ⟨[], World.ownsRow_nil _ _ _ _, rfl⟩, ⟨[], World.ownsRow_nil _ _ _ _, rfl⟩, fun j hj => by simp [Value.ownBlock] at hj, ?_, HM.out, ⟨hrM, hrP⟩, by rw [hP5]; simp⟩
    · rw [hP5]; exact heap_alloc_new _ _
    · refine (Below.heap_alloc _ _ _ (by have := hk25.size; omega)).trans ((hk25.block M (by omega) (by omega)).trans ((Hb1.out.block M (by simp; have := HM.out; omega)).trans ?_))
      rw [HM.out]
      exact heap_alloc_new _ _
    · exact (hbw1.trans (hk25.below (by omega) (fun i e => by have : i = rb := e; omega))).alloc (by have := hk25.size; have := HM.out; omega) _)
  obtain ⟨A6, c6, hr6⟩ := HS.out.rd
  have HR6 := hide hr6
  have Hr0 := hide (And.intro hrM hrP)
  rw [← hW, ← hP5]
  rw [show (.pointer (some ⟨w.heap.size, 0, none⟩) : Value) = .pointer (some ⟨M, 0, none⟩) by rw [HM.out]]
  clear hr6 hrM hsz1 hk25 hbw1 hP5 hW hrP HR1 HR2 HR3 HR4 HR5 Hk2 Hk3 Hk4 Hk5 Hb1 Hrd
  go_wp2_with (first
    | (go_at_call 32; ((with_reducible refine (rnum_b 1 l4 b4 nr l5 b5 HR6.out Z1.out L1.out HN5.out).mono ?_)); rintro e w6 ⟨rfl, hR7, hk7⟩; have HS6 := hide (HS.out.call hk7 hR7); clear hR7 hk7)
    | fail)
  clear HS HR6
  go_loopw [6] (fun nv wr => ∃ (n : Nat) (ls : List UInt8) (bs : Nat) (refs : List RefA) (AR : Option Addr) (cR : Nat), nv = .int .u64 n ∧ BSt w wr rb M P5 g ep wt st ls bs refs AR cR [] none 0 ∧ OkS (ls, bs) ∧ rfs.map RefD.toA = refs ++ (manyR refR n (ls, bs)).1.map RefD.toA ∧ (l6, b6) = (manyR refR n (ls, bs)).2 ∧ refs.length + n ≤ nr) (fun nv _ => (intOf nv).toNat)
  case atStart => exact ⟨nr, l5, b5, [], none, 0, rfl, HS6.out, O5.out, by rw [HM1.out]; rfl, by rw [HM1.out], by simp⟩
  case round => as_aux_lemma =>
    obtain ⟨n, ls, bs, refs, AR, cR, rfl, hst, hok, hm1, hm2, hlen⟩ := hrel
    have Hst := hide hst
    have Hok := hide hok
    have Hm1 := hide hm1
    have Hm2 := hide hm2
    have Hok2 := hide (show bs = 0 ∨ bs = 3 ∨ bs = 10 from hok.1)
    obtain ⟨A9, c9, hr9⟩ := hst.rd
    have HR9 := hide hr9
    clear hst hok hm1 hm2 hr9 HS6
    by_cases hover : n = 0 ∨ bs ≠ 0
    case pos => as_aux_lemma =>
      have hmo := manyR_over refR n (ls, bs) hover
      have hm1 := Hm1.out
      have hm2 := Hm2.out
      rw [hmo] at hm1 hm2
      rw [List.map_nil, List.append_nil] at hm1
      have Hm1b := hide hm1
      have Hm2b := hide hm2
      clear hmo hm1 hm2
      go_upto_region 4 with (fail)
      go_cut [31] (fun b wx => b = .bool false ∧ wx = wr)
      case first => as_aux_lemma =>
        by_cases hn : n = 0
        · subst hn
          go_wp2_with fail
          go_meet
          exact ⟨rfl, rfl⟩
        · have hb0 : bs ≠ 0 := by omega
          have hnp : (0 : Int) < (n : Int) := by omega
          have hbz : ((bs : Int) == 0) = false := by rw [beq_eq_false_iff_ne]; omega
          go_wp2_with (first
            | (go_at_call 33; ((with_reducible refine (rwrong_any _ rb c9 A9 ls bs _ HR9.out Hok2.out).mono ?_)); rintro e w9 ⟨rfl, hw9⟩; obtain rfl : wr = w9 := hw9.symm)
            | fail)
          go_meet
          exact ⟨rfl, rfl⟩
      case rest => as_aux_lemma =>
        obtain ⟨rfl, rfl⟩ := hcut
        have hb6 : (ls, bs) = (l6, b6) := Hm2b.out.symm
        simp only [Prod.mk.injEq] at hb6
        obtain ⟨rfl, rfl⟩ := hb6
        go_wp2_with (first
          | (go_at_call 32; ((with_reducible refine (rnum_b 1 ls bs np l7 b7 HR9.out Z1.out L1.out HN6.out).mono ?_)); rintro e w12 ⟨rfl, hR12, hk12⟩; have HS12 := hide (Hst.out.call hk12 hR12); clear hR12 hk12)
          | fail)
        clear HR9 Hst Hok Hm1 Hm2 Hm2b Hok2
        have hrfl : refs.length ≤ 255 := by omega
        clear hlen hover
        go_loopw [8] (fun nv wr => ∃ (n : Nat) (ls : List UInt8) (bs : Nat) (packs : List PackA) (AP : Option Addr) (cP : Nat), nv = .int .u64 n ∧ BSt w wr rb M P5 g ep wt st ls bs refs AR cR packs AP cP ∧ OkS (ls, bs) ∧ pks.map PackD.toA = packs ++ (manyR packR n (ls, bs)).1.map PackD.toA ∧ packs.length + n ≤ np) (fun nv _ => (intOf nv).toNat)
        case atStart => exact ⟨np, l7, b7, [], none, 0, rfl, HS12.out, O7.out, by rw [HM2.out]; rfl, by simp⟩
        case round => as_aux_lemma =>
          obtain ⟨n2, ls2, bs2, packs, AP, cP, rfl, hst, hok, hm1, hlen⟩ := hrel
          have Hst := hide hst
          have Hok := hide hok
          have Hm1 := hide hm1
          have Hok2 := hide (show bs2 = 0 ∨ bs2 = 3 ∨ bs2 = 10 from hok.1)
          obtain ⟨A9, c9, hr9⟩ := hst.rd
          have HR9 := hide hr9
          clear hst hok hm1 hr9 HS12
          by_cases hover : n2 = 0 ∨ bs2 ≠ 0
          case pos => as_aux_lemma =>
            have hm1 := Hm1.out
            rw [manyR_over packR n2 (ls2, bs2) hover, List.map_nil, List.append_nil] at hm1
            have Hm3 := hide hm1
            clear hm1
            go_upto_region 10 with (fail)
            go_cut [57] (fun b wx => b = .bool false ∧ wx = wr)
            case first => as_aux_lemma =>
              by_cases hn : n2 = 0
              · subst hn
                go_wp2_with fail
                go_meet
                exact ⟨rfl, rfl⟩
              · have hb0 : bs2 ≠ 0 := by omega
                have hnp : (0 : Int) < (n2 : Int) := by omega
                have hbz : ((bs2 : Int) == 0) = false := by rw [beq_eq_false_iff_ne]; omega
                go_wp2_with (first
                  | (go_at_call 33; ((with_reducible refine (rwrong_any _ rb c9 A9 ls2 bs2 _ HR9.out Hok2.out).mono ?_)); rintro e w9 ⟨rfl, hw9⟩; obtain rfl : wr = w9 := hw9.symm)
                  | fail)
                go_meet
                exact ⟨rfl, rfl⟩
            case rest => as_aux_lemma =>
              obtain ⟨rfl, hwx⟩ := hcut
              have hwx2 := hwx.symm
              subst hwx2
              obtain ⟨b, hb⟩ : ∃ b, b = (bodyR l).toA := ⟨_, rfl⟩
              have hbv : b = ⟨g, ep, (wt : Nat), st, refs, packs⟩ := by
                rw [hb, Hbody.out]
                simp only [BodyD.toA, Hm1b.out, Hm3.out]
              obtain ⟨v, hv⟩ : ∃ v, v = Value.agg (bodyV g ep wt st (.slice AR refs.length cR) (.slice AP packs.length cP)).toArray := ⟨_, rfl⟩
              have hbody : BodyC wr (fun i => P5 < i ∧ i < wr.heap.size) b v := by
                obtain ⟨xr, r1, r2⟩ := Hst.out.ownR
                obtain ⟨xp, p1, p2⟩ := Hst.out.ownP
                rw [hbv, hv]
                refine ⟨AR, cR, xr, AP, cP, xp, rfl, Rd.of_own r1 (fun j e hj => ⟨by omega, (r1.lt j (by rw [e]; rfl)).2⟩), r2, Rd.of_own p1 (fun j e hj => ⟨by omega, (p1.lt j (by rw [e]; rfl)).2⟩), p2.imp (fun p c _ hc => PackC.mono (fun i hi hh => ⟨hh.1, hi⟩) p c hc), by show refs.length ≤ _; omega, by show packs.length ≤ _; omega, fun i hi => hi.2⟩
              have hnum : NumsA b := by rw [hbv]; exact Hg.out
              have hmx : wr.cell? ⟨0, 0, none⟩ = some (.int .i64 mx) := (Hst.out.kp.cell (p := ⟨0, 0, none⟩) (by have := HM.out; show 0 < M; omega)).trans Hm.out
              have Hput := hide (mput_any _ b v mx wr hbody hmx hnum)
              have HszB := hide (show (Tryz.prog.info? 26).map (·.size) = some (bodyV g ep wt st (.slice AR refs.length cR) (.slice AP packs.length cP)).toArray.size by kernel_rfl)
              have HP5 := hide Hst.out.hp
              have HbodyC := hide hbody
              have Hb := hide hb
              have Hv := hide hv
              have hrow : ∀ w', Below wr.heap.size wr w' → w'.heap[M]? = some (.cells zeroBody.toArray 26 (0, 0)) := fun w' h => (h.block M (by have := Hst.out.hr; have := Hst.out.sz; omega)).trans Hst.out.hq
              have Hrow := hide hrow
              have hrd : ∀ w', Below wr.heap.size wr w' → Rd w' S 1 A l.length (bytesV l) := fun w' h => Hrd0.out.keep (Keep.of_none (by have h1 := Hst.out.kp; rw [HM.out] at h1; exact h1.trans (h.mono h1.size))) (fun _ _ _ f => f)
              have Hrd := hide hrd
              clear hbody hnum hmx hb hv hbv hrow hrd hover
              have HszL := hide (show (Tryz.prog.info? 26).map (·.size) = some (bodyV g ep wt st (.slice AR refs.length cR) (.slice AP packs.length cP)).length by kernel_rfl)
              have HszZ := hide (show (Tryz.prog.info? 26).map (·.size) = some zeroBody.length by kernel_rfl)
              have HszA := hide (show (Tryz.prog.info? 26).map (·.size) = some zeroBody.toArray.size by kernel_rfl)
              have HoB := hide (show ∀ u ∈ bodyV g ep wt st (.slice AR refs.length cR) (.slice AP packs.length cP), u.oneCell' = true from fun u hu => by simp [bodyV] at hu; rcases hu with rfl | rfl | rfl | rfl | rfl | rfl <;> rfl)
              have HoZ := hide (show ∀ u ∈ zeroBody, u.oneCell' = true from fun u hu => by simp [zeroBody] at hu; rcases hu with rfl | rfl | rfl | rfl <;> rfl)
              have HlB := hide (show (bodyV g ep wt st (.slice AR refs.length cR) (.slice AP packs.length cP)).length = zeroBody.length from rfl)
              rcases hok : okB b with _ | _
              case false =>
                have Hc := hide (show codeB b = 2 by rw [codeB, hok]; rfl)
                have Hno := hide (show ¬ readOkB l = true by rw [readOkB, ← Hb.out, hok]; simp)
                clear hok
                go_wp2_with (first
                  | (with_reducible refine wpList_load_row rfl 26 (.tmp 5) rfl P5 rfl 26 (bodyV g ep wt st (.slice AR refs.length cR) (.slice AP packs.length cP)).toArray (0, 0) _ HP5.out Tryz.underlying26 rfl HszB.out ?_)
                  | (go_at_call 7; rw [← Hv.out]; refine Hput.out.mono ?_; rintro e w15 ⟨A15, cap15, rfl, hown15, hb15⟩; rw [Hc.out]; have Hb15 := hide hb15; clear hown15 hb15)
                  | (refine wpList_store_all rfl 26 (.tmp 2) (.tmp 80) rfl M zeroBody zeroBody 26 (Hrow.out _ Hb15.out) rfl rfl rfl HszZ.out HoZ.out ?_)
                  | fail)
                refine bodyPost_ret (results_cell_two rfl _ _ M _ _ _ _ rfl (setRow_heap _ _ _ _ _ _ (Hrow.out _ Hb15.out)) Tryz.underlying26 rfl HszA.out) rfl ?_
                unfold MRead
                rw [if_neg Hno.out]
                have hkp := Hst.out.kp
                have hb9 := (hkp.trans (Hb15.out.mono (by have := hkp.size; have := HM.out; omega)))
                exact ⟨rfl, by rw [HM.out] at hb9 ⊢; exact below_setRow hb9 (Nat.le_refl _) _⟩
              case true =>
                have Hc := hide (show codeB b = 0 by rw [codeB, hok]; rfl)
                have Hmp := hide (show mputL b = putL b by rw [mputL, hok]; rfl)
                rcases heq : (putL b == l) with _ | _
                case false =>
                  have HE := hide (show ((⟨(mputL b).toArray⟩ : ByteArray).toList == (⟨l.toArray⟩ : ByteArray).toList) = false by rw [ByteArray.toList_eq, ByteArray.toList_eq, Hmp.out]; simpa using heq)
                  have Hno := hide (show ¬ readOkB l = true by rw [readOkB, ← Hb.out, heq]; simp)
                  clear hok heq
                  go_wp2_with (first
                    | (with_reducible refine wpList_load_row rfl 26 (.tmp 5) rfl P5 rfl 26 (bodyV g ep wt st (.slice AR refs.length cR) (.slice AP packs.length cP)).toArray (0, 0) _ HP5.out Tryz.underlying26 rfl HszB.out ?_)
                    | (with_reducible refine wpList_load_row rfl 26 (.tmp 5) rfl P5 rfl 26 (bodyV g ep wt st (.slice AR refs.length cR) (.slice AP packs.length cP)).toArray (0, 0) _ HP5b.out Tryz.underlying26 rfl HszB.out ?_)
                    | (go_at_call 7; rw [← Hv.out]; refine Hput.out.mono ?_; rintro e w15 ⟨A15, cap15, rfl, hown15, hb15⟩; rw [Hc.out]; have Hb15 := hide hb15; have Hs1 := hide (run_convert_rd (P := Tryz.prog) w15 27 9 5 Tryz.underlying27 Tryz.underlying5 Tryz.underlying9 (fun _ => True) A15 (mputL b) cap15 (Rd.of_own hown15 (fun _ _ _ => trivial))); have Hs2 := hide (run_convert_rd (P := Tryz.prog) w15 27 9 5 Tryz.underlying27 Tryz.underlying5 Tryz.underlying9 S A l cap (Hrd.out _ hb15)); have HP5b := hide ((hb15.block P5 Hst.out.sz).trans HP5.out); clear hown15 hb15)
                    | (go_at_call 37; ((with_reducible refine (Tryz.bytes_Equal_strs _ _ _ _ _ Hs1.out Hs2.out).mono ?_)); rw [HE.out]; rintro e w16 ⟨rfl, hw16⟩; obtain rfl : w15 = w16 := hw16.symm)
                    | (refine wpList_store_all rfl 26 (.tmp 2) (.tmp 80) rfl M zeroBody zeroBody 26 (Hrow.out _ Hb15.out) rfl rfl rfl HszZ.out HoZ.out ?_)
                    | fail)
                  refine bodyPost_ret (results_cell_two rfl _ _ M _ _ _ _ rfl (setRow_heap _ _ _ _ _ _ (Hrow.out _ Hb15.out)) Tryz.underlying26 rfl HszA.out) rfl ?_
                  unfold MRead
                  rw [if_neg Hno.out]
                  have hkp := Hst.out.kp
                  have hb9 := (hkp.trans (Hb15.out.mono (by have := hkp.size; have := HM.out; omega)))
                  exact ⟨rfl, by rw [HM.out] at hb9 ⊢; exact below_setRow hb9 (Nat.le_refl _) _⟩
                case true =>
                  have HE := hide (show ((⟨(mputL b).toArray⟩ : ByteArray).toList == (⟨l.toArray⟩ : ByteArray).toList) = true by rw [ByteArray.toList_eq, ByteArray.toList_eq, Hmp.out]; simpa using heq)
                  have Hyes := hide (show readOkB l = true by rw [readOkB, ← Hb.out, heq, hok]; rfl)
                  clear hok heq
                  go_wp2_with (first
                    | (with_reducible refine wpList_load_row rfl 26 (.tmp 5) rfl P5 rfl 26 (bodyV g ep wt st (.slice AR refs.length cR) (.slice AP packs.length cP)).toArray (0, 0) _ HP5.out Tryz.underlying26 rfl HszB.out ?_)
                    | (with_reducible refine wpList_load_row rfl 26 (.tmp 5) rfl P5 rfl 26 (bodyV g ep wt st (.slice AR refs.length cR) (.slice AP packs.length cP)).toArray (0, 0) _ HP5b.out Tryz.underlying26 rfl HszB.out ?_)
                    | (go_at_call 7; rw [← Hv.out]; refine Hput.out.mono ?_; rintro e w15 ⟨A15, cap15, rfl, hown15, hb15⟩; rw [Hc.out]; have Hb15 := hide hb15; have Hs1 := hide (run_convert_rd (P := Tryz.prog) w15 27 9 5 Tryz.underlying27 Tryz.underlying5 Tryz.underlying9 (fun _ => True) A15 (mputL b) cap15 (Rd.of_own hown15 (fun _ _ _ => trivial))); have Hs2 := hide (run_convert_rd (P := Tryz.prog) w15 27 9 5 Tryz.underlying27 Tryz.underlying5 Tryz.underlying9 S A l cap (Hrd.out _ hb15)); have HP5b := hide ((hb15.block P5 Hst.out.sz).trans HP5.out); clear hown15 hb15)
                    | (go_at_call 37; ((with_reducible refine (Tryz.bytes_Equal_strs _ _ _ _ _ Hs1.out Hs2.out).mono ?_)); rw [HE.out]; rintro e w16 ⟨rfl, hw16⟩; obtain rfl : w15 = w16 := hw16.symm)
                    | (refine wpList_store_all rfl 26 (.tmp 2) (.tmp 81) rfl M zeroBody (bodyV g ep wt st (.slice AR refs.length cR) (.slice AP packs.length cP)) 26 (Hrow.out _ Hb15.out) rfl rfl HlB.out HszL.out HoB.out ?_)
                    | fail)
                  refine bodyPost_ret (results_cell_two rfl _ _ M _ _ _ _ rfl (setRow_heap _ _ _ _ _ _ (Hrow.out _ Hb15.out)) Tryz.underlying26 rfl HszB.out) rfl ?_
                  unfold MRead
                  rw [if_pos Hyes.out]
                  have hkp := Hst.out.kp
                  have hb9 := (hkp.trans (Hb15.out.mono (by have := hkp.size; have := HM.out; omega)))
                  have hk9 : Keep (fun i => i = M) wr (w15.setRow M (bodyV g ep wt st (.slice AR refs.length cR) (.slice AP packs.length cP)).toArray) := keep_setRow (g := M) ((Keep.of_none Hb15.out).mono (G := fun i => i = M) (fun _ _ f => f.elim)) (fun _ => rfl) _
                  refine ⟨v, by rw [Hv.out]; rfl, ?_, by rw [HM.out] at hb9 ⊢; exact below_setRow hb9 (Nat.le_refl _) _⟩
                  rw [← Hb.out]
                  have hMP := Hst.out.hr
                  have h1 := HbodyC.out
                  obtain ⟨B1, B2, B3, B4, B5, B6, e1, r1, r2, r3, r4, r5, r6, r7⟩ := h1
                  have hd : ∀ i, (P5 < i ∧ i < wr.heap.size) → i < wr.heap.size → ¬ (i = M) := fun i hi _ e => by omega
                  have hT : ∀ i, i < (w15.setRow M (bodyV g ep wt st (.slice AR refs.length cR) (.slice AP packs.length cP)).toArray).heap.size → (P5 < i ∧ i < wr.heap.size) → w.heap.size ≤ i ∧ i < (w15.setRow M (bodyV g ep wt st (.slice AR refs.length cR) (.slice AP packs.length cP)).toArray).heap.size := fun i hi hh => ⟨by have := HM.out; omega, hi⟩
                  exact ⟨B1, B2, B3, B4, B5, B6, e1, (r1.keep hk9 hd).mono hT, r2, (r3.keep hk9 hd).mono hT, r4.imp (fun p c _ hc => PackC.mono hT p c (PackC.keep hk9 hd p c hc)), r5, r6, fun i hi => hi.2⟩
          case neg => as_aux_lemma =>
            obtain ⟨m, rfl⟩ : ∃ m, n2 = m + 1 := ⟨n2 - 1, by omega⟩
            obtain rfl : bs2 = 0 := by omega
            obtain ⟨pk, l9, b9, hT⟩ : ∃ x lq bq, packR (ls2, 0) = (x, (lq, bq)) := ⟨_, _, _, rfl⟩
            have hms := manyR_step packR m (ls2, 0) rfl
            rw [hT] at hms
            have hm1 := Hm1.out
            rw [hms, List.map_cons] at hm1
            have Hm1b := hide hm1
            have hok9 : OkS (l9, b9) := by have := Hok.out.pack; rw [hT] at this; exact this
            have Hok9 := hide hok9
            have HT := hide hT
            have HokW := hide (show 0 = 0 ∨ 0 = 3 ∨ 0 = 10 from .inl rfl)
            have hnp : (0 : Int) < (m : Int) + 1 := by omega
            clear hms hm1 hT hok9 hover
            go_wp2_with (first
              | (go_at_call 33; ((with_reducible refine (rwrong_any _ rb c9 A9 ls2 0 _ HR9.out HokW.out).mono ?_)); rintro e w9 ⟨rfl, hw9⟩; obtain rfl : wr = w9 := hw9.symm)
              | fail)
            have HSd := hide (Hst.out.step ((Keep.refl (fun _ => False) wr).drew) (fun i _ f => f))
            have HRd := hide HR9.out.drew
            have p5 : wr.cell? ⟨P5, 5, none⟩ = some (.slice AP packs.length cP) := cell_of_row _ _ 5 _ _ _ Hst.out.hp
            have Ls1 := hide (show packs.length + 1 ≤ maxLen by unfold maxLen; omega)
            have Ls2 := hide (show (packs.length + 1) * 64 ≤ 140737488355328 by omega)
            go_region_law (first
              | (go_simp; go_at_call 36; go_loud ((with_reducible refine (readP_b ls2 0 pk l9 b9 HRd.out Hok.out HT.out).mono ?_)); rintro e w13 ⟨cs, rfl, hpc, hR13, hk13⟩; have Hpc := hide hpc; have HS13 := hide (HSd.out.call hk13 hR13); have hcl := PackC.len _ _ hpc; have hbu := build_eq cs 34 hcl; have Hcl := hide hcl; have Hco := hide (PackC.one _ _ hpc); obtain ⟨xp, hownP, helsP⟩ := HS13.out.ownP; have HownP := hide hownP; have HelsP := hide helsP; have p5 : w13.cell? ⟨P5, 5, none⟩ = some (.slice AP packs.length cP) := cell_of_row _ _ 5 _ _ _ HS13.out.hp; have hP5l : P5 < w13.heap.size := HS13.out.sz; have Ls3 := hide (show P5 + 1 ≤ w13.heap.size from HS13.out.sz); have Hk13 := hide hk13; clear hpc hR13 hk13 hownP helsP)
              | (go_loud (refine step_append_rd _ rfl (.tmp 61) (.tmp 64) 24 24 rfl (P5 + 1) 61 61 _ 34 64 Tryz.underlying24 Tryz.underlying24 Tryz.info61 rfl (by decide) (.slice AP packs.length cP) packs.length xp rfl (own_below HownP.out ((Below.refl _ _).alloc (Nat.le_refl _) _)) _ _ 1 1 cs rfl (Rd.new_at _ _ _ _ rfl (by rw [Hcl.out])) Hco.out Ls1.out Ls2.out (Nat.le_trans Ls3.out (by simp)) ?_); intro A14 cap14 w14 hown14 hgrow14 hat14; have hP14 := (hgrow14.block P5 (by have := Ls3.out; simp; omega) (fun e => by have := (HS13.out.geP P5 e.symm).1; omega)).trans ((Below.heap_alloc w13 _ P5 (by have := Ls3.out; omega)).trans HS13.out.hp); have p5b : w14.cell? ⟨P5, 5, none⟩ = some (.slice AP packs.length cP) := cell_of_row _ _ 5 _ _ _ hP14; have f5b : w14.frozen? ⟨P5, 5, none⟩ = false := frozen_of_row _ _ _ _ _ hP14; have HP14 := hide hP14; have Hown14 := hide hown14; have Hgr := hide hgrow14; have Hat := hide hat14; clear hP14 hown14 hgrow14 hat14)
              | fail)
            all_goals go_wp2_with fail
            all_goals
              have hX5 : P5 < wr.heap.size := Hst.out.sz
              have hm := HS13.out.more wr.heap.size hX5 (fun j hj => (Hst.out.geP j hj).2) Hk13.out.size pk.toA cs Hpc.out _ A14 cap14 xp HelsP.out Hown14.out Hgr.out Hat.out
              exact ⟨⟨m, l9, b9, packs ++ [pk.toA], A14, cap14, rfl, hm, Hok9.out, by rw [Hm1b.out, List.append_assoc]; rfl, by rw [List.length_append]; simp; omega⟩, by simp [intOf]⟩
    case neg => as_aux_lemma =>
      obtain ⟨m, rfl⟩ : ∃ m, n = m + 1 := ⟨n - 1, by omega⟩
      obtain rfl : bs = 0 := by omega
      obtain ⟨x1, l8, b8, hT1⟩ : ∃ x lq bq, sizedR (ls, 0) = (x, (lq, bq)) := ⟨_, _, _, rfl⟩
      obtain ⟨x2, l9, b9, hT2⟩ : ∃ x lq bq, takeR 32 (l8, b8) = (x, (lq, bq)) := ⟨_, _, _, rfl⟩
      have href : refR (ls, 0) = (⟨x1, x2⟩, (l9, b9)) := by simp only [refR, hT1, hT2]
      have hms := manyR_step refR m (ls, 0) rfl
      rw [href] at hms
      have hm1 := Hm1.out
      have hm2 := Hm2.out
      rw [hms] at hm1 hm2
      rw [List.map_cons] at hm1
      have Hm1b := hide hm1
      have Hm2b := hide hm2
      have hok9 : OkS (l9, b9) := by have := Hok.out.ref; rw [href] at this; exact this
      have hx1 : x1.length ≤ 1073741824 := by have := sizedR_len (ls, 0) Hok.out.2; rw [hT1] at this; exact this
      have hx2 : x2.length ≤ 32 := by have := takeR_short1 32 (l8, b8); rw [show ((32 : Nat) : Int) = 32 from rfl, hT2] at this; exact this
      have Hx1 := hide hx1
      have Hx2 := hide hx2
      have Hok9 := hide hok9
      have HT1 := hide hT1
      have HT2 := hide hT2
      have L32 := hide (show (32 : Int) ≤ 1073741824 by decide)
      have HokW := hide (show 0 = 0 ∨ 0 = 3 ∨ 0 = 10 from .inl rfl)
      have hnp : (0 : Int) < (m : Int) + 1 := by omega
      clear hms hm1 hm2 href hT1 hT2 hx1 hx2 hok9 hover
      go_upto_region 6 with (first
        | (go_at_call 33; ((with_reducible refine (rwrong_any _ rb c9 A9 ls 0 _ HR9.out HokW.out).mono ?_)); rintro e w9 ⟨rfl, hw9⟩; obtain rfl : wr = w9 := hw9.symm)
        | fail)
      go_wp2_with (first
        | (go_at_call 34; ((with_reducible refine (rsized_b ls x1 0 l8 b8 HR9.out HT1.out).mono ?_)); rintro e w7 ⟨A7, c7, rfl, hown7, hR7, hk7⟩; have Hcv := hide (Rd.of_own (S := fun _ => True) hown7 (fun _ _ _ => trivial)); have HS7 := hide (Hst.out.call hk7 hR7); clear hown7 hR7 hk7)
        | (refine wpList_conv_rd rfl (.tmp 35) rfl x1 rfl rfl Hcv.out ?_)
        | (refine wpList_store_all rfl 57 (.tmp 7) (.tmp 37) rfl w7.heap.size (strV [] :: zero32) (strV x1 :: zero32) 57 (heap_alloc_new w7 _) rfl rfl rfl (by kernel_rfl) (refV_one x1) ?_)
        | fail)
      obtain ⟨Rb, hRb⟩ : ∃ Rb, Rb = w7.heap.size := ⟨_, rfl⟩
      obtain ⟨W, hW⟩ : ∃ W : World, W = (w7.alloc (.cells (strV [] :: zero32).toArray 57)).setRow w7.heap.size (strV x1 :: zero32).toArray := ⟨_, rfl⟩
      have HSW := hide (show BSt w W.drew rb M P5 g ep wt st l8 b8 refs AR cR [] none 0 by rw [hW]; exact HS7.out.step (F := fun i => i = w7.heap.size) (Keep.drew (keep_setRow ((Keep.refl _ w7).alloc _) (fun h => by omega) _)) (fun i hi e => by omega))
      have HXW := hide (show W.drew.heap[Rb]? = some (.cells (strV x1 :: zero32).toArray 57 (0, 0)) by rw [hW, hRb]; exact setRow_heap _ _ _ _ _ _ (heap_alloc_new w7 _))
      have HXs := hide (show Rb < W.drew.heap.size by rw [hW, hRb]; show w7.heap.size < ((w7.alloc _).setRow _ _).heap.size; simp [World.setRow])
      have HXr := hide (show P5 < Rb by rw [hRb]; exact HS7.out.sz)
      obtain ⟨AW, cW, hrW⟩ := HSW.out.rd
      have HRW := hide hrW
      have HneR := hide (show ∀ j, (Value.slice AR refs.length cR).ownBlock = some j → j < Rb from fun j hj => by rw [hRb]; exact (HS7.out.geR j hj).2)
      change Code.wp Tryz.prog _ _ _ ((w7.alloc (.cells (strV [] :: zero32).toArray 57)).setRow w7.heap.size (strV x1 :: zero32).toArray)
      rw [← hW, ← hRb]
      have Z32 := hide (show 1 + 32 ≤ (strV x1 :: zero32).length by simp [zero32])
      clear hrW hRb hW
      go_region_law (first
        | (go_simp; go_at_call 35; ((with_reducible refine (rraw_b 32 l8 x2 b8 l9 b9 HRW.out L32.out HT2.out).mono ?_)); rintro e w8 ⟨A8, c8, rfl, hown8, hR8, hk8⟩; have Hown8 := hide (Rd.of_own (S := fun _ => True) hown8 (fun _ _ _ => trivial)); have HS8 := hide (HSW.out.call hk8 hR8); have HX8 := hide ((hk8.block Rb HXs.out (by have := HXr.out; have := Hr0.out.2; omega)).trans HXW.out); have HXs8 := hide (Nat.lt_of_lt_of_le HXs.out hk8.size); clear hown8 hR8 hk8)
        | (refine step_copy_b rfl (.tmp 39) (.tmp 41) rfl Rb 1 32 (strV x1 :: zero32) 57 HX8.out x2 rfl rfl rfl Hown8.out Hx2.out Z32.out ?_; intro w10 hX10 hk10; have HS10 := hide (HS8.out.put hk10 HXr.out HneR.out); have HX10 := hide (show w10.heap[Rb]? = some (.cells (strV x1 :: encB (padB 32 x2)).toArray 57 (0, 0)) by rw [hX10.out]; have e1 := over_shift [strV x1] zero32 (bytesV x2); have e2 := over_pad 32 x2 Hx2.out []; rw [List.append_nil, List.append_nil] at e2; rw [zero32, e2] at e1; rw [zero32]; exact congrArg (fun q : List Value => some (Obj.cells q.toArray 57 (0, 0))) e1); have Hs10 := hide hk10.size; clear hX10 hk10)
        | fail)
      obtain ⟨rc, hrc⟩ : ∃ rc, rc = strV x1 :: encB (padB 32 x2) := ⟨_, rfl⟩
      have hrl : rc.length = 33 := by rw [hrc, List.length_cons, encB_len]
      have hX10 := HX10.out
      rw [← hrc] at hX10
      have HX10b := hide hX10
      have Hrc := hide (show RefC (RefD.toA ⟨x1, x2⟩) rc from ⟨by rw [hrc]; rfl, by have := Hx1.out; show x1.length ≤ _; omega⟩)
      have Hrl := hide hrl
      have Hro := hide (show ∀ u ∈ rc, u.oneCell' = true from RefC.one _ _ Hrc.out)
      have hbu := build_eq rc 33 hrl
      obtain ⟨xs, hownR, helsR⟩ := HS10.out.ownR
      have HownR := hide hownR
      have HelsR := hide helsR
      have p4 : w10.cell? ⟨P5, 4, none⟩ = some (.slice AR refs.length cR) := cell_of_row _ _ 4 _ _ _ HS10.out.hp
      have HszX := hide (show (Tryz.prog.info? 57).map (·.size) = some rc.toArray.size by rw [List.size_toArray, hrl]; kernel_rfl)
      have Ls1 := hide (show refs.length + 1 ≤ maxLen by unfold maxLen; omega)
      have Ls2 := hide (show (refs.length + 1) * 48 ≤ 140737488355328 by omega)
      have Ls3 := hide (show P5 + 1 ≤ w10.heap.size from HS10.out.sz)
      clear hrc hX10 hownR helsR
      go_wp2_with (first
        | (with_reducible refine wpList_load_row rfl 57 (.tmp 7) rfl Rb rfl 57 rc.toArray (0, 0) _ HX10b.out Tryz.underlying57 rfl HszX.out ?_)
        | (at_builtin; refine wpList_append_rd _ rfl (.tmp 44) (.tmp 46) 23 23 rfl (P5 + 1) 57 57 _ 33 48 Tryz.underlying23 Tryz.underlying23 Tryz.info57 rfl (by decide) (.slice AR refs.length cR) refs.length xs rfl (own_below HownR.out ((Below.refl _ _).alloc (Nat.le_refl _) _)) _ _ 1 1 rc rfl (Rd.new_at _ _ _ _ rfl (by rw [Hrl.out])) Hro.out Ls1.out Ls2.out (Nat.le_trans Ls3.out (by simp)) ?_; intro A11 cap11 w11 hown11 hgrow11 hat11; have hP11 := (hgrow11.block P5 (by have := Ls3.out; simp; omega) (fun e => by have := (HS10.out.geR P5 e.symm).1; omega)).trans ((Below.heap_alloc w10 _ P5 (by have := Ls3.out; omega)).trans HS10.out.hp); have p4b : w11.cell? ⟨P5, 4, none⟩ = some (.slice AR refs.length cR) := cell_of_row _ _ 4 _ _ _ hP11; have f4b : w11.frozen? ⟨P5, 4, none⟩ = false := frozen_of_row _ _ _ _ _ hP11; have HP11 := hide hP11; have Hown11 := hide hown11; have Hgr := hide hgrow11; clear hP11 hown11 hgrow11 hat11)
        | fail)
      have hK : Keep (fun i => (Value.slice AR refs.length cR).ownBlock = some i ∨ i = P5) w10 (w11.setCell ⟨P5, 4, none⟩ (.slice A11 (refs.length + 1) cap11)) :=
        (((Keep.refl _ w10).alloc _).grown Hgr.out (fun k hk _ => .inl hk)).setCell (p := ⟨P5, 4, none⟩) (fun _ => .inr rfl) _
      have hF : ∀ i, ((Value.slice AR refs.length cR).ownBlock = some i ∨ i = P5) → P5 ≤ i := by
        rintro i (h | h)
        · have := (HS10.out.geR i h).1; omega
        · omega
      have hMr := HS10.out.hr
      have hMw := HS10.out.hM
      have hkp := HS10.out.kp.size
      obtain ⟨A12, c12, hr12⟩ := HS10.out.rd
      have hown12 := ownsRow_keep Hown11.out ((Keep.refl (· = P5) w11).setCell (p := ⟨P5, 4, none⟩) (fun _ => rfl) (.slice A11 (refs.length + 1) cap11)) (fun j hj e => by have := (Hown11.out.lt j hj).1; have : j = P5 := e; omega)
      have hlen1 : (refs ++ [RefD.toA ⟨x1, x2⟩]).length = refs.length + 1 := by simp
      refine ⟨⟨m, l9, b9, refs ++ [RefD.toA ⟨x1, x2⟩], A11, cap11, rfl, ⟨⟨A12, c12, hr12.keep hK (fun i hi _ h => by have := hF i h; have := hi.2; omega)⟩, ?_, ?_, ?_, ⟨[], World.ownsRow_nil _ _ _ _, rfl⟩, ?_, ?_, hMw, hMr, ?_⟩, Hok9.out, ?_, Hm2b.out, ?_⟩, ?_⟩
      · rw [heap_setCell_same _ _ _ _ _ _ HP11.out, hlen1]
        rfl
      · exact (hK.block M (by have := Ls3.out; omega) (fun h => by have := hF M h; omega)).trans HS10.out.hq
      · rw [hlen1]
        exact ⟨xs ++ rc, hown12, HelsR.out.append (Els.one Hrc.out)⟩
      · intro j _ e
        simp [Value.ownBlock] at e
      · exact HS10.out.kp.trans (hK.below (B := M) (by omega) (fun i h => by have := hF i h; omega))
      · have := Ls3.out; have := hK.size; omega
      · rw [Hm1b.out, List.append_assoc]
        rfl
      · rw [hlen1]; omega
      · simp [intOf]
end Go.Proofs.YtimfmbcihopaaaaGreatDoor
