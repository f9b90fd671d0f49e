/- 17.Read. -/
import Derived.Test.YtimfmbcihopaaaaGreatDoorReadM
namespace Go.Proofs.YtimfmbcihopaaaaGreatDoor
open Go.RowKit Go.Cof

/-- The document's reader's calls, in forms that fit by letters alone. -/
theorem dnum_b (n : Nat) {z : Int} (l : List UInt8) (b v : Nat) (l2 : List UInt8) (b2 : Nat) {w : World} {zb : Int} (hs : OkS (l, b)) (hzb : zb = b) (hz : z = n) (hn : n ≤ 8 ∧ 1 ≤ n) (hN : numR z (l, b) = (v, (l2, b2))) :
    Calls Tryz.prog 38 #[.agg #[.string ⟨l.toArray⟩, .int .i64 zb], .int .i64 z] w fun e w' => e = .returned (.tuple #[.agg #[.string ⟨l2.toArray⟩, .int .i64 b2], .int .u64 v]) ∧ Below w.heap.size w w' := by
  subst hz hzb
  have h1 := dnum_any (l, b) n w hs.2 hn.1 hn.2
  rw [hN] at h1
  exact h1
theorem draw_b (n : Int) (l x : List UInt8) (b : Nat) (l2 : List UInt8) (b2 : Nat) {w : World} {zb : Int} (hs : OkS (l, b)) (hzb : zb = b) (hn : n ≤ 1073741824) (hN : takeR n (l, b) = (x, (l2, b2))) :
    Calls Tryz.prog 40 #[.agg #[.string ⟨l.toArray⟩, .int .i64 zb], .int .i64 n] w fun e w' => e = .returned (.tuple #[.agg #[.string ⟨l2.toArray⟩, .int .i64 b2], .string ⟨x.toArray⟩]) ∧ Below w.heap.size w w' := by
  subst hzb
  have h1 := draw_any (l, b) n w hs.2 hn (by have := hs.1; simp only at this ⊢; omega)
  rw [hN] at h1
  exact h1
theorem dsized_b (l x : List UInt8) (b : Nat) (l2 : List UInt8) (b2 : Nat) {w : World} {zb : Int} (hs : OkS (l, b)) (hzb : zb = b) (hN : sizedR (l, b) = (x, (l2, b2))) :
    Calls Tryz.prog 39 #[.agg #[.string ⟨l.toArray⟩, .int .i64 zb]] w fun e w' => e = .returned (.tuple #[.agg #[.string ⟨l2.toArray⟩, .int .i64 b2], .string ⟨x.toArray⟩]) ∧ Below w.heap.size w w' := by
  subst hzb
  have h1 := dsized_any (l, b) w hs.2 (by have := hs.1; simp only at this ⊢; omega)
  rw [hN] at h1
  exact h1

/-- What stands while 17.Read reads. -/
structure DSt (w wr : World) (M g ep wt st : Nat) (ls : List UInt8) (bs : Nat) (refs : List RefD) (AR : Option Addr) (cR : Nat) (packs : List PackD) (AP : Option Addr) (cP : Nat) : Prop where
  rd : wr.heap[M + 2]? = some (.cells #[.string ⟨ls.toArray⟩, .int .i64 bs] 94 (0, 0))
  hp : wr.heap[M + 1]? = some (.cells (bodyV g ep wt st (.slice AR refs.length cR) (.slice AP packs.length cP)).toArray 31 (0, 0))
  hq : wr.heap[M]? = some (.cells zeroBody.toArray 31 (0, 0))
  ownR : ∃ xs, wr.ownsRow (M + 3) 68 2 (.slice AR refs.length cR) refs.length xs ∧ Els DRefC refs xs
  ownP : ∃ xs, wr.ownsRow (M + 3) 71 3 (.slice AP packs.length cP) packs.length xs ∧ Els (DPackC wr (fun i => M + 2 < i ∧ (Value.slice AP packs.length cP).ownBlock ≠ some i)) packs xs
  dis : ∀ j, (Value.slice AR refs.length cR).ownBlock = some j → (Value.slice AP packs.length cP).ownBlock ≠ some j
  kp : Below M w wr
  hM : M = w.heap.size
  sz : M + 3 ≤ wr.heap.size
section
variable {w wr w' : World} {M g ep wt st bs cR cP : Nat} {ls : List UInt8} {refs : List RefD} {AR AP : Option Addr} {packs : List PackD}
theorem DSt.geR (h : DSt w wr M g ep wt st ls bs refs AR cR packs AP cP) : ∀ j, (Value.slice AR refs.length cR).ownBlock = some j → M + 3 ≤ j ∧ j < wr.heap.size := by
  intro j hj
  obtain ⟨xs, h1, _⟩ := h.ownR
  exact h1.lt j hj
theorem DSt.geP (h : DSt w wr M g ep wt st ls bs refs AR cR packs AP cP) : ∀ j, (Value.slice AP packs.length cP).ownBlock = some j → M + 3 ≤ j ∧ j < wr.heap.size := by
  intro j hj
  obtain ⟨xs, h1, _⟩ := h.ownP
  exact h1.lt j hj
theorem DSt.below (h : DSt w wr M g ep wt st ls bs refs AR cR packs AP cP) (hb : Below wr.heap.size wr w') : DSt w w' M g ep wt st ls bs refs AR cR packs AP cP := by
  obtain ⟨xr, r1, r2⟩ := h.ownR
  obtain ⟨xp, p1, p2⟩ := h.ownP
  have hs := h.sz
  have hk := Keep.of_none hb
  exact ⟨(hb.block _ (by omega)).trans h.rd, (hb.block _ (by omega)).trans h.hp, (hb.block _ (by omega)).trans h.hq, ⟨xr, own_below r1 hb, r2⟩, ⟨xp, own_below p1 hb, p2.imp (fun p c _ hc => DPackC.keep hk (fun _ _ _ f => f) p c hc)⟩,
    h.dis, h.kp.trans (hb.mono (by omega)), h.hM, Nat.le_trans hs hb.size⟩
/-- A step that touches the reader's block, or the body's, alone. -/
theorem DSt.own2 (h : DSt w wr M g ep wt st ls bs refs AR cR packs AP cP) {F : Nat → Prop} (hk : Keep F wr w') (hF : ∀ i, F i → i = M + 1 ∨ i = M + 2) :
    (∃ xs, w'.ownsRow (M + 3) 68 2 (.slice AR refs.length cR) refs.length xs ∧ Els DRefC refs xs) ∧ (∃ xs, w'.ownsRow (M + 3) 71 3 (.slice AP packs.length cP) packs.length xs ∧ Els (DPackC w' (fun i => M + 2 < i ∧ (Value.slice AP packs.length cP).ownBlock ≠ some i)) packs xs) ∧ Below M w w' ∧ M + 3 ≤ w'.heap.size ∧ w'.heap[M]? = some (.cells zeroBody.toArray 31 (0, 0)) := by
  obtain ⟨xr, r1, r2⟩ := h.ownR
  obtain ⟨xp, p1, p2⟩ := h.ownP
  have hs := h.sz
  have hn : ∀ i, M + 3 ≤ i → ¬ F i := fun i hi hh => by have := hF i hh; omega
  refine ⟨⟨xr, ownsRow_keep r1 hk (fun j hj => hn j (r1.lt j hj).1), r2⟩, ⟨xp, ownsRow_keep p1 hk (fun j hj => hn j (p1.lt j hj).1), p2.imp (fun p c _ hc => DPackC.keep hk (fun b hb _ => hn b (by omega)) p c hc)⟩, h.kp.trans (hk.below (by omega) (fun i hh => by have := hF i hh; omega)), Nat.le_trans hs hk.size, (hk.block M (by omega) (fun hh => by have := hF M hh; omega)).trans h.hq⟩
theorem DSt.setRd (h : DSt w wr M g ep wt st ls bs refs AR cR packs AP cP) (l2 : List UInt8) (b2 : Nat) : DSt w ((wr.setCell ⟨M + 2, 0, none⟩ (.string ⟨l2.toArray⟩)).setCell ⟨M + 2, 1, none⟩ (.int .i64 b2)) M g ep wt st l2 b2 refs AR cR packs AP cP := by
  have hk : Keep (fun i => i = M + 2) wr ((wr.setCell ⟨M + 2, 0, none⟩ (.string ⟨l2.toArray⟩)).setCell ⟨M + 2, 1, none⟩ (.int .i64 b2)) := ((Keep.refl (fun i => i = M + 2) wr).setCell (p := ⟨M + 2, 0, none⟩) (fun _ => rfl) _).setCell (p := ⟨M + 2, 1, none⟩) (fun _ => rfl) _
  obtain ⟨h1, h2, h3, h4, h5⟩ := h.own2 hk (fun i hi => .inr hi)
  exact ⟨set_two h.rd, (hk.block _ (by have := h.sz; omega) (by simp)).trans h.hp, h5, h1, h2, h.dis, h3, h.hM, h4⟩
theorem DSt.fld (h : DSt w wr M g ep wt st ls bs refs AR cR packs AP cP) {g' ep' wt' st' : Nat} (j : Nat) (v : Value) (hset : (bodyV g ep wt st (.slice AR refs.length cR) (.slice AP packs.length cP)).toArray.setIfInBounds j v = (bodyV g' ep' wt' st' (.slice AR refs.length cR) (.slice AP packs.length cP)).toArray) :
    DSt w (wr.setCell ⟨M + 1, j, none⟩ v) M g' ep' wt' st' ls bs refs AR cR packs AP cP := by
  have hk : Keep (fun i => i = M + 1) wr (wr.setCell ⟨M + 1, j, none⟩ v) := (Keep.refl (fun i => i = M + 1) wr).setCell (p := ⟨M + 1, j, none⟩) (fun _ => rfl) _
  obtain ⟨h1, h2, h3, h4, h5⟩ := h.own2 hk (fun i hi => .inl hi)
  exact ⟨(hk.block _ (by have := h.sz; omega) (by simp)).trans h.rd, by rw [heap_setCell_same _ _ _ _ _ _ h.hp, hset], h5, h1, h2, h.dis, h3, h.hM, h4⟩
/-- A reference more. -/
theorem DSt.addRef (h : DSt w wr M g ep wt st ls bs refs AR cR [] none 0) (r : RefD) (cs : List Value) (hc : DRefC r cs) (o : Obj) (A14 : Option Addr) (cap14 : Nat) (xr : List Value) (hels : Els DRefC refs xr) {w14 : World}
    (hown : w14.ownsRow (M + 3) 68 2 (.slice A14 (refs.length + 1) cap14) (refs.length + 1) (xr ++ cs)) (hgr : (wr.alloc o).grownBy w14 (Value.slice AR refs.length cR).ownBlock) :
    DSt w (w14.setCell ⟨M + 1, 4, none⟩ (.slice A14 (refs.length + 1) cap14)) M g ep wt st ls bs (refs ++ [r]) A14 cap14 [] none 0 := by
  have hs := h.sz
  have hK : Keep (fun i => (Value.slice AR refs.length cR).ownBlock = some i ∨ i = M + 1) wr (w14.setCell ⟨M + 1, 4, none⟩ (.slice A14 (refs.length + 1) cap14)) :=
    (((Keep.refl _ wr).alloc _).grown hgr (fun k hk _ => .inl hk)).setCell (p := ⟨M + 1, 4, none⟩) (fun _ => .inr rfl) _
  have hF : ∀ i, ((Value.slice AR refs.length cR).ownBlock = some i ∨ i = M + 1) → i = M + 1 ∨ M + 3 ≤ i := by
    rintro i (hh | hh)
    · exact .inr (h.geR i hh).1
    · exact .inl hh
  have hP14 : w14.heap[M + 1]? = some (.cells (bodyV g ep wt st (.slice AR refs.length cR) (.slice none 0 0)).toArray 31 (0, 0)) :=
    (hgr.block (M + 1) (by simp; omega) (fun e => by have := (h.geR (M + 1) e.symm).1; omega)).trans ((Below.heap_alloc wr _ (M + 1) (by omega)).trans h.hp)
  have hown12 := ownsRow_keep hown ((Keep.refl (· = M + 1) w14).setCell (p := ⟨M + 1, 4, none⟩) (fun _ => rfl) (.slice A14 (refs.length + 1) cap14)) (fun j hj e => by have := (hown.lt j hj).1; have : j = M + 1 := e; omega)
  have hlen1 : (refs ++ [r]).length = refs.length + 1 := by simp
  have hMw := h.hM
  have hkp := h.kp.size
  refine ⟨(hK.block _ (by omega) (fun hh => by have := hF _ hh; omega)).trans h.rd, ?_, (hK.block M (by omega) (fun hh => by have := hF M hh; omega)).trans h.hq, ?_, ⟨[], World.ownsRow_nil _ _ _ _, rfl⟩, ?_, ?_, hMw, ?_⟩
  · rw [heap_setCell_same _ _ _ _ _ _ hP14, hlen1]
    rfl
  · rw [hlen1]
    exact ⟨xr ++ cs, hown12, hels.append (Els.one hc)⟩
  · intro j _ e
    simp [Value.ownBlock] at e
  · exact h.kp.trans (hK.below (B := M) (by omega) (fun i hh => by have := hF i hh; omega))
  · have := hK.size; omega
/-- A pack more. -/
theorem DSt.addPack (h : DSt w wr M g ep wt st ls bs refs AR cR packs AP cP) (X : Nat) (hX5 : M + 3 ≤ X) (hob : ∀ j, (Value.slice AP packs.length cP).ownBlock = some j → j < X) (hX : X ≤ wr.heap.size)
    (pk : PackD) (cs : List Value) (hpc : DPackC wr (fun i => X ≤ i) pk cs) (o : Obj) (A14 : Option Addr) (cap14 : Nat) (xp : List Value) {w14 : World}
    (helsP : Els (DPackC wr (fun i => M + 2 < i ∧ (Value.slice AP packs.length cP).ownBlock ≠ some i)) packs xp)
    (hown : w14.ownsRow (M + 3) 71 3 (.slice A14 (packs.length + 1) cap14) (packs.length + 1) (xp ++ cs)) (hgr : (wr.alloc o).grownBy w14 (Value.slice AP packs.length cP).ownBlock)
    (hat : (Value.slice A14 (packs.length + 1) cap14).ownBlock = (Value.slice AP packs.length cP).ownBlock ∨ (Value.slice A14 (packs.length + 1) cap14).ownBlock = some (wr.alloc o).heap.size) :
    DSt w (w14.setCell ⟨M + 1, 5, none⟩ (.slice A14 (packs.length + 1) cap14)) M g ep wt st ls bs refs AR cR (packs ++ [pk]) A14 cap14 := by
  have hs := h.sz
  have hK : Keep (fun i => (Value.slice AP packs.length cP).ownBlock = some i ∨ i = M + 1) wr (w14.setCell ⟨M + 1, 5, none⟩ (.slice A14 (packs.length + 1) cap14)) :=
    (((Keep.refl _ wr).alloc _).grown hgr (fun k hk _ => .inl hk)).setCell (p := ⟨M + 1, 5, none⟩) (fun _ => .inr rfl) _
  have hF : ∀ i, ((Value.slice AP packs.length cP).ownBlock = some i ∨ i = M + 1) → i = M + 1 ∨ M + 3 ≤ i := by
    rintro i (hh | hh)
    · exact .inr (h.geP i hh).1
    · exact .inl hh
  have hP14 : w14.heap[M + 1]? = some (.cells (bodyV g ep wt st (.slice AR refs.length cR) (.slice AP packs.length cP)).toArray 31 (0, 0)) :=
    (hgr.block (M + 1) (by simp; omega) (fun e => by have := (h.geP (M + 1) e.symm).1; omega)).trans ((Below.heap_alloc wr _ (M + 1) (by omega)).trans h.hp)
  obtain ⟨xr, r1, r2⟩ := h.ownR
  have hown12 := ownsRow_keep hown ((Keep.refl (· = M + 1) w14).setCell (p := ⟨M + 1, 5, none⟩) (fun _ => rfl) (.slice A14 (packs.length + 1) cap14)) (fun j hj e => by have := (hown.lt j hj).1; have : j = M + 1 := e; omega)
  have hlen1 : (packs ++ [pk]).length = packs.length + 1 := by simp
  have hkp := h.kp.size
  have hMw := h.hM
  have hnew : ∀ j, j < wr.heap.size → (Value.slice AP packs.length cP).ownBlock ≠ some j → (Value.slice A14 (packs.length + 1) cap14).ownBlock ≠ some j := by
    intro j hj hne e
    rcases hat with h8 | h8
    · rw [h8] at e; exact hne e
    · rw [h8] at e; simp at e; omega
  have hmono : ∀ {S S' : Nat → Prop} {wx : World}, (∀ b, b < wx.heap.size → S b → S' b) → ∀ (p : PackD) (c : List Value), DPackC wx S p c → DPackC wx S' p c := by
    intro S S' wx hs p c hc
    obtain ⟨A, cap, xs, rfl, hr, h2⟩ := hc
    exact ⟨A, cap, xs, rfl, hr.mono hs, h2⟩
  refine ⟨(hK.block _ (by omega) (fun hh => by have := hF _ hh; omega)).trans h.rd, ?_, (hK.block M (by omega) (fun hh => by have := hF M hh; omega)).trans h.hq, ?_, ?_, ?_, ?_, hMw, ?_⟩
  · rw [heap_setCell_same _ _ _ _ _ _ hP14, hlen1]
    rfl
  · exact ⟨xr, ownsRow_keep r1 hK (fun j hj hh => by
      rcases hh with hh | hh
      · exact h.dis j hj hh
      · have := (r1.lt j hj).1; omega), r2⟩
  · rw [hlen1]
    refine ⟨xp ++ cs, hown12, ?_⟩
    refine (helsP.imp (fun p c _ hc => ?_)).append (Els.one ?_)
    · exact hmono (fun b _ hb => ⟨hb.1, hb.2.2⟩) p c (DPackC.keep hK (fun b hb _ hh => by
        rcases hh with hh | hh
        · exact hb.2.1 hh
        · have := hb.1; omega) p c (hmono (S' := fun i => M + 2 < i ∧ (Value.slice AP packs.length cP).ownBlock ≠ some i ∧ (Value.slice A14 (packs.length + 1) cap14).ownBlock ≠ some i) (fun b hb hh => ⟨hh.1, hh.2, hnew b hb hh.2⟩) p c hc))
    · exact hmono (fun b _ hb => ⟨hb.1, hb.2.2⟩) _ _ (DPackC.keep hK (fun b hb _ hh => by
        rcases hh with hh | hh
        · exact hb.2.1 hh
        · have := hb.1; omega) _ _ (hmono (S' := fun i => M + 2 < i ∧ (Value.slice AP packs.length cP).ownBlock ≠ some i ∧ (Value.slice A14 (packs.length + 1) cap14).ownBlock ≠ some i) (fun b hb hh => by
          have h1 : (Value.slice AP packs.length cP).ownBlock ≠ some b := fun e => by have := hob b e; omega
          exact ⟨by omega, h1, hnew b hb h1⟩) _ _ hpc))
  · rw [hlen1]
    intro j hj
    exact hnew j (h.geR j hj).2 (h.dis j hj)
  · exact h.kp.trans (hK.below (B := M) (by omega) (fun i hh => by have := hF i hh; omega))
  · have := hK.size; omega
end
/-- A pack's cells, as the document has them. -/
def dpackV (key : List UInt8) (ct : Nat) (v : Value) : List Value := [.string ⟨key.toArray⟩, .int .i64 ct, v]
/-- What stands while a pack is read, behind the world w0 in which that began. -/
structure QSt (w0 wr : World) (M P : Nat) (key : List UInt8) (ct : Nat) (ls : List UInt8) (bs : Nat) (bl : List BlobD) (Ab : Option Addr) (cb : Nat) : Prop where
  rd : wr.heap[M + 2]? = some (.cells #[.string ⟨ls.toArray⟩, .int .i64 bs] 94 (0, 0))
  hp : wr.heap[P]? = some (.cells (dpackV key ct (.slice Ab bl.length cb)).toArray 71 (0, 0))
  own : ∃ xs, wr.ownsRow (P + 1) 75 2 (.slice Ab bl.length cb) bl.length xs ∧ Els DBlobC bl xs
  kp : Keep (fun i => i = M + 2) w0 wr
  sz : P < wr.heap.size
  hP : P = w0.heap.size
  lt : M + 2 < P
section
variable {w w0 wr w' : World} {M P ct bs cb : Nat} {key ls : List UInt8} {bl : List BlobD} {Ab : Option Addr}
theorem QSt.ge (h : QSt w0 wr M P key ct ls bs bl Ab cb) : ∀ j, (Value.slice Ab bl.length cb).ownBlock = some j → P + 1 ≤ j ∧ j < wr.heap.size := by
  intro j hj
  obtain ⟨xs, h1, _⟩ := h.own
  exact h1.lt j hj
theorem QSt.below (h : QSt w0 wr M P key ct ls bs bl Ab cb) (hb : Below wr.heap.size wr w') : QSt w0 w' M P key ct ls bs bl Ab cb := by
  obtain ⟨xr, r1, r2⟩ := h.own
  have hs := h.sz
  have hl := h.lt
  exact ⟨(hb.block _ (by omega)).trans h.rd, (hb.block _ (by omega)).trans h.hp, ⟨xr, own_below r1 hb, r2⟩, h.kp.trans ((Keep.of_none hb).mono (fun _ _ f => f.elim)), Nat.lt_of_lt_of_le hs hb.size, h.hP, hl⟩
theorem QSt.setRd (h : QSt w0 wr M P key ct ls bs bl Ab cb) (l2 : List UInt8) (b2 : Nat) : QSt w0 ((wr.setCell ⟨M + 2, 0, none⟩ (.string ⟨l2.toArray⟩)).setCell ⟨M + 2, 1, none⟩ (.int .i64 b2)) M P key ct l2 b2 bl Ab cb := by
  have hk : Keep (fun i => i = M + 2) wr ((wr.setCell ⟨M + 2, 0, none⟩ (.string ⟨l2.toArray⟩)).setCell ⟨M + 2, 1, none⟩ (.int .i64 b2)) := ((Keep.refl (fun i => i = M + 2) wr).setCell (p := ⟨M + 2, 0, none⟩) (fun _ => rfl) _).setCell (p := ⟨M + 2, 1, none⟩) (fun _ => rfl) _
  obtain ⟨xr, r1, r2⟩ := h.own
  have hs := h.sz
  have hl := h.lt
  exact ⟨set_two h.rd, (hk.block _ hs (by omega)).trans h.hp, ⟨xr, ownsRow_keep r1 hk (fun j hj e => by have := (r1.lt j hj).1; omega), r2⟩, h.kp.trans hk, Nat.lt_of_lt_of_le hs hk.size, h.hP, hl⟩
theorem QSt.fld (h : QSt w0 wr M P key ct ls bs bl Ab cb) {key' : List UInt8} {ct' : Nat} (j : Nat) (v : Value) (hset : (dpackV key ct (.slice Ab bl.length cb)).toArray.setIfInBounds j v = (dpackV key' ct' (.slice Ab bl.length cb)).toArray) :
    QSt w0 (wr.setCell ⟨P, j, none⟩ v) M P key' ct' ls bs bl Ab cb := by
  have hk : Keep (fun i => i = P) wr (wr.setCell ⟨P, j, none⟩ v) := (Keep.refl (fun i => i = P) wr).setCell (p := ⟨P, j, none⟩) (fun _ => rfl) _
  obtain ⟨xr, r1, r2⟩ := h.own
  have hs := h.sz
  have hl := h.lt
  have hPq := h.hP
  exact ⟨(hk.block _ (by omega) (by omega)).trans h.rd, by rw [heap_setCell_same _ _ _ _ _ _ h.hp, hset], ⟨xr, ownsRow_keep r1 hk (fun j hj e => by have := (r1.lt j hj).1; omega), r2⟩, h.kp.step hk (fun i hi hlt => by have : i = P := hi; omega), Nat.lt_of_lt_of_le hs hk.size, h.hP, hl⟩
theorem QSt.add (h : QSt w0 wr M P key ct ls bs bl Ab cb) (x : BlobD) (cs : List Value) (hc : DBlobC x cs) (o : Obj) (A14 : Option Addr) (cap14 : Nat) (xr : List Value) (hels : Els DBlobC bl xr) {w14 : World}
    (hown : w14.ownsRow (P + 1) 75 2 (.slice A14 (bl.length + 1) cap14) (bl.length + 1) (xr ++ cs)) (hgr : (wr.alloc o).grownBy w14 (Value.slice Ab bl.length cb).ownBlock) :
    QSt w0 (w14.setCell ⟨P, 2, none⟩ (.slice A14 (bl.length + 1) cap14)) M P key ct ls bs (bl ++ [x]) A14 cap14 := by
  have hs := h.sz
  have hl := h.lt
  have hPq := h.hP
  have hK : Keep (fun i => (Value.slice Ab bl.length cb).ownBlock = some i ∨ i = P) wr (w14.setCell ⟨P, 2, none⟩ (.slice A14 (bl.length + 1) cap14)) :=
    (((Keep.refl _ wr).alloc _).grown hgr (fun k hk _ => .inl hk)).setCell (p := ⟨P, 2, none⟩) (fun _ => .inr rfl) _
  have hF : ∀ i, ((Value.slice Ab bl.length cb).ownBlock = some i ∨ i = P) → P ≤ i := by
    rintro i (hh | hh)
    · have := (h.ge i hh).1; omega
    · omega
  have hP14 : w14.heap[P]? = some (.cells (dpackV key ct (.slice Ab bl.length cb)).toArray 71 (0, 0)) :=
    (hgr.block P (by simp; omega) (fun e => by have := (h.ge P e.symm).1; omega)).trans ((Below.heap_alloc wr _ P hs).trans h.hp)
  have hown12 := ownsRow_keep hown ((Keep.refl (· = P) w14).setCell (p := ⟨P, 2, none⟩) (fun _ => rfl) (.slice A14 (bl.length + 1) cap14)) (fun j hj e => by have := (hown.lt j hj).1; have : j = P := e; omega)
  have hlen1 : (bl ++ [x]).length = bl.length + 1 := by simp
  refine ⟨(hK.block _ (by omega) (fun hh => by have := hF _ hh; omega)).trans h.rd, ?_, ?_, h.kp.step hK (fun i hh hlt => by have := hF i hh; omega), ?_, hPq, hl⟩
  · rw [heap_setCell_same _ _ _ _ _ _ hP14, hlen1]
    rfl
  · rw [hlen1]
    exact ⟨xr ++ cs, hown12, hels.append (Els.one hc)⟩
  · have := hK.size; omega
theorem QSt.rc0 (h : QSt w0 wr M P key ct ls bs bl Ab cb) : wr.cell? ⟨M + 2, 0, none⟩ = some (.string ⟨ls.toArray⟩) := cell_of_row _ _ 0 _ _ _ h.rd
theorem QSt.rc1 (h : QSt w0 wr M P key ct ls bs bl Ab cb) : wr.cell? ⟨M + 2, 1, none⟩ = some (.int .i64 bs) := cell_of_row _ _ 1 _ _ _ h.rd
theorem QSt.rf0 (h : QSt w0 wr M P key ct ls bs bl Ab cb) : wr.frozen? ⟨M + 2, 0, none⟩ = false := frozen_of_row _ _ _ _ _ h.rd
theorem QSt.rf1 (h : QSt w0 wr M P key ct ls bs bl Ab cb) : wr.frozen? ⟨M + 2, 1, none⟩ = false := frozen_of_row _ _ _ _ _ h.rd
theorem QSt.pc (h : QSt w0 wr M P key ct ls bs bl Ab cb) (j : Nat) : wr.cell? ⟨P, j, none⟩ = (dpackV key ct (.slice Ab bl.length cb))[j]? := by
  rw [cell_of_row _ _ j _ _ _ h.hp, List.getElem?_toArray]
theorem QSt.pf (h : QSt w0 wr M P key ct ls bs bl Ab cb) (j : Nat) : wr.frozen? ⟨P, j, none⟩ = false := frozen_of_row _ _ _ _ _ h.hp
theorem DSt.jump {g ep wt st cR cP ls0 : Nat} {l0 : List UInt8} {refs : List RefD} {AR AP : Option Addr} {packs : List PackD} (h : DSt w w0 M g ep wt st l0 ls0 refs AR cR packs AP cP) (q : QSt w0 wr M P key ct ls bs bl Ab cb) : DSt w wr M g ep wt st ls bs refs AR cR packs AP cP := by
  obtain ⟨h1, h2, h3, h4, h5⟩ := h.own2 q.kp (fun i hi => .inr hi)
  exact ⟨q.rd, (q.kp.block _ (by have := h.sz; omega) (by simp)).trans h.hp, h5, h1, h2, h.dis, h3, h.hM, h4⟩
end
theorem Tryz.info68 : (Tryz.prog.info? 68).map (fun i => (i.zero, i.size, i.bytes)) = some (some (.agg #[.string ⟨#[]⟩, .string ⟨#[]⟩]), 2, 32) := by kernel_rfl
theorem Tryz.info75 : (Tryz.prog.info? 75).map (fun i => (i.zero, i.size, i.bytes)) = some (some (.agg #[.string ⟨#[]⟩, .string ⟨#[]⟩]), 2, 32) := by kernel_rfl
theorem Tryz.info71 : (Tryz.prog.info? 71).map (fun i => (i.zero, i.size, i.bytes)) = some (some (.agg #[.string ⟨#[]⟩, .int .i64 0, .slice none 0 0]), 3, 48) := by kernel_rfl
theorem manyR_size {α : Type} (f : Rs → α × Rs) (Q : α → Prop) (N : Nat) (hf : ∀ s : Rs, s.1.length ≤ N → Q (f s).1 ∧ (f s).2.1.length ≤ N) (n : Nat) : ∀ s : Rs, s.1.length ≤ N → ∀ x ∈ (manyR f n s).1, Q x := by
  induction n with
  | zero => intro s _ x hx; simp [manyR] at hx
  | succ n ih =>
    intro s hs x hx
    unfold manyR at hx
    split at hx
    · simp at hx
    · rcases List.mem_cons.1 hx with rfl | hx
      · exact (hf s hs).1
      · exact ih _ (hf s hs).2 x hx
theorem sizedR_short (s : Rs) : (sizedR s).1.length ≤ s.1.length ∧ (sizedR s).2.1.length ≤ s.1.length := by
  have h1 := takeR_short2 (min 4 8) s
  unfold sizedR
  split
  · simp
  · have h2 := takeR_short2 (numR 4 s).1 (numR 4 s).2
    have h3 : (numR 4 s).2 = (takeR (min 4 8) s).2 := rfl
    rw [h3] at h2 ⊢
    omega
theorem names_read (l : List UInt8) : ∀ r ∈ (bodyR l).refs, r.name.length ≤ l.length := by
  rw [bodyR_refs]
  have hr : ∃ n s, refsR l = manyR refR n s ∧ s = (headR l).2.2 := ⟨(headR l).2.1, (headR l).2.2, by rw [refsR], rfl⟩
  obtain ⟨n, s, hr, hs⟩ := hr
  rw [hr]
  refine manyR_size refR (fun r => r.name.length ≤ l.length) l.length (fun s hs => ?_) n s ?_
  · have h1 := sizedR_short s
    have h2 := takeR_short2 32 (sizedR s).2
    simp only [refR]
    omega
  · have h1 := takeR_short2 (min 8 8) (l, 0)
    have h2 := takeR_short2 (min 8 8) (numR 8 (l, 0)).2
    have h3 := takeR_short2 (min 1 8) (numR 8 (numR 8 (l, 0)).2).2
    have h4 := takeR_short2 (min 8 8) (numR 1 (numR 8 (numR 8 (l, 0)).2).2).2
    have h5 := takeR_short2 (min 1 8) (numR 8 (numR 1 (numR 8 (numR 8 (l, 0)).2).2).2).2
    rw [hs]
    simp only [headR]
    exact Nat.le_trans h5.2 (Nat.le_trans h4.2 (Nat.le_trans h3.2 (Nat.le_trans h2.2 h1.2)))
def DRead (w w' : World) (l : List UInt8) (e : Ending) : Prop :=
  if readOkD l = true then ∃ v, e = .returned (.tuple #[v, .int .i64 0]) ∧ DBodyC w' (fun i => w.heap.size ≤ i ∧ i < w'.heap.size) (bodyR l) v ∧ Below w.heap.size w w'
  else e = .returned (.tuple #[.agg zeroBody.toArray, .int .i64 11]) ∧ Below w.heap.size w w'

section
variable {w wr : World} {M g ep wt st bs cR cP : Nat} {ls : List UInt8} {refs : List RefD} {AR AP : Option Addr} {packs : List PackD}
theorem DSt.rc0 (h : DSt w wr M g ep wt st ls bs refs AR cR packs AP cP) : wr.cell? ⟨M + 2, 0, none⟩ = some (.string ⟨ls.toArray⟩) := cell_of_row _ _ 0 _ _ _ h.rd
theorem DSt.rc1 (h : DSt w wr M g ep wt st ls bs refs AR cR packs AP cP) : wr.cell? ⟨M + 2, 1, none⟩ = some (.int .i64 bs) := cell_of_row _ _ 1 _ _ _ h.rd
theorem DSt.rf0 (h : DSt w wr M g ep wt st ls bs refs AR cR packs AP cP) : wr.frozen? ⟨M + 2, 0, none⟩ = false := frozen_of_row _ _ _ _ _ h.rd
theorem DSt.rf1 (h : DSt w wr M g ep wt st ls bs refs AR cR packs AP cP) : wr.frozen? ⟨M + 2, 1, none⟩ = false := frozen_of_row _ _ _ _ _ h.rd
theorem DSt.bc (h : DSt w wr M g ep wt st ls bs refs AR cR packs AP cP) (j : Nat) : wr.cell? ⟨M + 1, j, none⟩ = (bodyV g ep wt st (.slice AR refs.length cR) (.slice AP packs.length cP))[j]? := by
  rw [cell_of_row _ _ j _ _ _ h.hp, List.getElem?_toArray]
theorem DSt.bf (h : DSt w wr M g ep wt st ls bs refs AR cR packs AP cP) (j : Nat) : wr.frozen? ⟨M + 1, j, none⟩ = false := frozen_of_row _ _ _ _ _ h.hp
end
set_option maxHeartbeats 4000000 in
set_option maxRecDepth 2000000 in
theorem dread_any (l : List UInt8) (w : World) (hl : l.length ≤ 100000) :
    Calls Tryz.prog 11 #[.string ⟨l.toArray⟩] w fun e w' => DRead w w' l e := by
  have Ll := hide (show l.length ≤ 1073741824 by omega)
  obtain ⟨g, l1, b1, hN1⟩ : ∃ v lq bq, numR 8 (l, 0) = (v, (lq, bq)) := ⟨_, _, _, rfl⟩
  obtain ⟨ep, l2, b2, hN2⟩ : ∃ v lq bq, numR 8 (l1, b1) = (v, (lq, bq)) := ⟨_, _, _, rfl⟩
  obtain ⟨wt, l3, b3, hN3⟩ : ∃ v lq bq, numR 1 (l2, b2) = (v, (lq, bq)) := ⟨_, _, _, rfl⟩
  obtain ⟨st, l4, b4, hN4⟩ : ∃ v lq bq, numR 8 (l3, b3) = (v, (lq, bq)) := ⟨_, _, _, rfl⟩
  obtain ⟨nr, l5, b5, hN5⟩ : ∃ v lq bq, numR 1 (l4, b4) = (v, (lq, bq)) := ⟨_, _, _, rfl⟩
  obtain ⟨rfs, l6, b6, hM1⟩ : ∃ v lq bq, manyR refR nr (l5, b5) = (v, (lq, bq)) := ⟨_, _, _, rfl⟩
  obtain ⟨np, l7, b7, hN6⟩ : ∃ v lq bq, numR 1 (l6, b6) = (v, (lq, bq)) := ⟨_, _, _, rfl⟩
  obtain ⟨pks, sE, hM2⟩ : ∃ v s, manyR packR np (l7, b7) = (v, s) := ⟨_, _, rfl⟩
  have hbody : bodyR l = ⟨g, ep, (wt : Nat), st, rfs, pks⟩ := by
    have e1 : refsR l = (rfs, (l6, b6)) := by simp only [refsR, headR, hN1, hN2, hN3, hN4, hN5, hM1]
    have e2 : packsR l = (pks, sE) := by rw [packsR, e1]; simp only [hN6, hM2]
    rw [bodyR, e1, e2]
    simp only [headR, hN1, hN2, hN3, hN4]
  have o0 : OkS (l, 0) := ⟨.inl rfl, Ll.out⟩
  have o1 : OkS (l1, b1) := by have := o0.num 8; rw [hN1] at this; exact this
  have o2 : OkS (l2, b2) := by have := o1.num 8; rw [hN2] at this; exact this
  have o3 : OkS (l3, b3) := by have := o2.num 1; rw [hN3] at this; exact this
  have o4 : OkS (l4, b4) := by have := o3.num 8; rw [hN4] at this; exact this
  have o5 : OkS (l5, b5) := by have := o4.num 1; rw [hN5] at this; exact this
  have o6 : OkS (l6, b6) := by have := OkS.many (fun _ => OkS.ref) nr _ o5; rw [hM1] at this; exact this
  have o7 : OkS (l7, b7) := by have := o6.num 1; rw [hN6] at this; exact this
  have hg : g < 18446744073709551616 := by have := beV_num 8 (l, 0) (by omega); rw [show ((8 : Nat) : Int) = 8 from rfl, hN1] at this; exact this
  have hep : ep < 18446744073709551616 := by have := beV_num 8 (l1, b1) (by omega); rw [show ((8 : Nat) : Int) = 8 from rfl, hN2] at this; exact this
  have hwt : wt < 256 := by have := beV_num 1 (l2, b2) (by omega); rw [show ((1 : Nat) : Int) = 1 from rfl, hN3] at this; exact this
  have hst : st < 18446744073709551616 := by have := beV_num 8 (l3, b3) (by omega); rw [show ((8 : Nat) : Int) = 8 from rfl, hN4] at this; exact this
  have hnr : nr < 256 := by have := beV_num 1 (l4, b4) (by omega); rw [show ((1 : Nat) : Int) = 1 from rfl, hN5] at this; exact this
  have hnp : np < 256 := by have := beV_num 1 (l6, b6) (by omega); rw [show ((1 : Nat) : Int) = 1 from rfl, hN6] at this; exact this
  have Hbody := hide hbody
  have HN1 := hide hN1
  have HN2 := hide hN2
  have HN3 := hide hN3
  have HN4 := hide hN4
  have HN5 := hide hN5
  have HN6 := hide hN6
  have HM1 := hide hM1
  have HM2 := hide hM2
  have O0 := hide o0
  have O1 := hide o1
  have O2 := hide o2
  have O3 := hide o3
  have O4 := hide o4
  have O5 := hide o5
  have O6 := hide o6
  have O7 := hide o7
  have Hg := hide (And.intro hg (And.intro hep hst))
  clear hbody hN1 hN2 hN3 hN4 hN5 hN6 hM1 hM2 o0 o1 o2 o3 o4 o5 o6 o7 hg hep hst
  have Z8 := hide (show (8 : Int) = ((8 : Nat) : Int) from rfl)
  have L8 := hide (show 8 ≤ 8 ∧ 1 ≤ 8 by omega)
  have Z1 := hide (show (1 : Int) = ((1 : Nat) : Int) from rfl)
  have L1 := hide (show 1 ≤ 8 ∧ 1 ≤ 1 by omega)
  obtain ⟨M, hM⟩ : ∃ M, M = w.heap.size := ⟨_, rfl⟩
  have HM := hide hM
  clear hM
  go_enter Tryz.func11, Tryz.ntmps11
  have B1 := hide (show (0 : Int) = ((0 : Nat) : Int) from rfl)
  go_upto_region 3 with (fail)
  rw [← HM.out]
  rw [show M + 1 + 1 = M + 2 from rfl]
  obtain ⟨W0, hW0⟩ : ∃ W : World, W = ((w.alloc (.cells #[.int .u64 0, .int .u64 0, .int .i64 0, .int .u64 0, .slice none 0 0, .slice none 0 0] 31)).alloc (.cells #[.int .u64 0, .int .u64 0, .int .i64 0, .int .u64 0, .slice none 0 0, .slice none 0 0] 31)).alloc (.cells #[.string ⟨l.toArray⟩, .int .i64 0] 94) := ⟨_, rfl⟩
  have HS0 := hide (show DSt w W0 M 0 0 0 0 l 0 [] none 0 [] none 0 by
    rw [hW0, HM.out]
    refine ⟨?_, ?_, ?_, ⟨[], World.ownsRow_nil _ _ _ _, rfl⟩, ⟨[], World.ownsRow_nil _ _ _ _, rfl⟩, fun j hj => by simp [Value.ownBlock] at hj, (((Below.refl _ w).alloc (Nat.le_refl _) _).alloc (by simp) _).alloc (by simp; omega) _, rfl, by simp⟩
    · have := heap_alloc_new ((w.alloc (.cells #[.int .u64 0, .int .u64 0, .int .i64 0, .int .u64 0, .slice none 0 0, .slice none 0 0] 31)).alloc (.cells #[.int .u64 0, .int .u64 0, .int .i64 0, .int .u64 0, .slice none 0 0, .slice none 0 0] 31)) (.cells #[.string ⟨l.toArray⟩, .int .i64 0] 94)
      simpa using this
    · exact (Below.heap_alloc _ _ _ (by simp)).trans (heap_alloc2_new _ _ _)
    · exact (Below.heap_alloc _ _ _ (by simp; omega)).trans ((Below.heap_alloc _ _ _ (by simp)).trans (heap_alloc_new _ _)))
  rw [← hW0]
  clear hW0
  have cS0 := HS0.out.rc0
  have cS1 := HS0.out.rc1
  go_upto_region 4 with (first
    | (go_at_call 38; ((with_reducible refine (dnum_b 8 l 0 g l1 b1 O0.out B1.out Z8.out L8.out HN1.out).mono ?_)); rintro e w1 ⟨rfl, hb1⟩; have HT1 := hide (HS0.out.below hb1); have c0 := HT1.out.rc0; have c1 := HT1.out.rc1; have f0 := HT1.out.rf0; have f1 := HT1.out.rf1; have cF := HT1.out.bc 0; have fF := HT1.out.bf 0; clear hb1)
    | fail)
  obtain ⟨W1, hW1⟩ : ∃ W : World, W = ((w1.setCell ⟨M + 2, 0, none⟩ (.string ⟨l1.toArray⟩)).setCell ⟨M + 2, 1, none⟩ (.int .i64 b1)).setCell ⟨M + 1, 0, none⟩ (.int .u64 g) := ⟨_, rfl⟩
  have HS1 := hide (show DSt w W1 M g 0 0 0 l1 b1 [] none 0 [] none 0 by rw [hW1]; exact ((HT1.out.setRd l1 b1).fld 0 (.int .u64 g) rfl))
  rw [← hW1]
  clear cS0 cS1 c0 c1 f0 f1 cF fF hW1 HS0 HT1
  have cS0 := HS1.out.rc0
  have cS1 := HS1.out.rc1
  go_upto_region 5 with (first
    | (go_at_call 38; ((with_reducible refine (dnum_b 8 l1 b1 ep l2 b2 O1.out rfl Z8.out L8.out HN2.out).mono ?_)); rintro e w2 ⟨rfl, hb2⟩; have HT2 := hide (HS1.out.below hb2); have c0 := HT2.out.rc0; have c1 := HT2.out.rc1; have f0 := HT2.out.rf0; have f1 := HT2.out.rf1; have cF := HT2.out.bc 1; have fF := HT2.out.bf 1; clear hb2)
    | fail)
  obtain ⟨W2, hW2⟩ : ∃ W : World, W = ((w2.setCell ⟨M + 2, 0, none⟩ (.string ⟨l2.toArray⟩)).setCell ⟨M + 2, 1, none⟩ (.int .i64 b2)).setCell ⟨M + 1, 1, none⟩ (.int .u64 ep) := ⟨_, rfl⟩
  have HS2 := hide (show DSt w W2 M g ep 0 0 l2 b2 [] none 0 [] none 0 by rw [hW2]; exact ((HT2.out.setRd l2 b2).fld 1 (.int .u64 ep) rfl))
  rw [← hW2]
  clear cS0 cS1 c0 c1 f0 f1 cF fF hW2 HS1 HT2
  have cS0 := HS2.out.rc0
  have cS1 := HS2.out.rc1
  go_upto_region 6 with (first
    | (go_at_call 38; ((with_reducible refine (dnum_b 1 l2 b2 wt l3 b3 O2.out rfl Z1.out L1.out HN3.out).mono ?_)); rintro e w3 ⟨rfl, hb3⟩; have HT3 := hide (HS2.out.below hb3); have c0 := HT3.out.rc0; have c1 := HT3.out.rc1; have f0 := HT3.out.rf0; have f1 := HT3.out.rf1; clear hb3)
    | fail)
  obtain ⟨W3, hW3⟩ : ∃ W : World, W = (w3.setCell ⟨M + 2, 0, none⟩ (.string ⟨l3.toArray⟩)).setCell ⟨M + 2, 1, none⟩ (.int .i64 b3) := ⟨_, rfl⟩
  have HS3 := hide (show DSt w W3 M g ep 0 0 l3 b3 [] none 0 [] none 0 by rw [hW3]; exact (HT3.out.setRd l3 b3))
  rw [← hW3]
  clear cS0 cS1 c0 c1 f0 f1 hW3 HS2 HT3
  have cF := HS3.out.bc 2
  have fF := HS3.out.bf 2
  have hwt2 : (wt : Int) < 256 := by omega
  go_upto_region 7 with (fail)
  obtain ⟨W3b, hW3b⟩ : ∃ W : World, W = W3.setCell ⟨M + 1, 2, none⟩ (.int .i64 wt) := ⟨_, rfl⟩
  have HS3b := hide (show DSt w W3b M g ep wt 0 l3 b3 [] none 0 [] none 0 by rw [hW3b]; exact HS3.out.fld 2 (.int .i64 wt) rfl)
  rw [← hW3b]
  clear cF fF hW3b HS3
  have HS3 := hide HS3b.out
  clear HS3b
  have cS0 := HS3.out.rc0
  have cS1 := HS3.out.rc1
  go_upto_region 8 with (first
    | (go_at_call 38; ((with_reducible refine (dnum_b 8 l3 b3 st l4 b4 O3.out rfl Z8.out L8.out HN4.out).mono ?_)); rintro e w4 ⟨rfl, hb4⟩; have HT4 := hide (HS3.out.below hb4); have c0 := HT4.out.rc0; have c1 := HT4.out.rc1; have f0 := HT4.out.rf0; have f1 := HT4.out.rf1; have cF := HT4.out.bc 3; have fF := HT4.out.bf 3; clear hb4)
    | fail)
  obtain ⟨W4, hW4⟩ : ∃ W : World, W = ((w4.setCell ⟨M + 2, 0, none⟩ (.string ⟨l4.toArray⟩)).setCell ⟨M + 2, 1, none⟩ (.int .i64 b4)).setCell ⟨M + 1, 3, none⟩ (.int .u64 st) := ⟨_, rfl⟩
  have HS4 := hide (show DSt w W4 M g ep wt st l4 b4 [] none 0 [] none 0 by rw [hW4]; exact ((HT4.out.setRd l4 b4).fld 3 (.int .u64 st) rfl))
  rw [← hW4]
  clear cS0 cS1 c0 c1 f0 f1 cF fF hW4 HS3 HT4
  have cS0 := HS4.out.rc0
  have cS1 := HS4.out.rc1
  go_upto_region 9 with (first
    | (go_at_call 38; ((with_reducible refine (dnum_b 1 l4 b4 nr l5 b5 O4.out rfl Z1.out L1.out HN5.out).mono ?_)); rintro e w5 ⟨rfl, hb5⟩; have HT5 := hide (HS4.out.below hb5); have c0 := HT5.out.rc0; have c1 := HT5.out.rc1; have f0 := HT5.out.rf0; have f1 := HT5.out.rf1; clear hb5)
    | fail)
  obtain ⟨W5, hW5⟩ : ∃ W : World, W = (w5.setCell ⟨M + 2, 0, none⟩ (.string ⟨l5.toArray⟩)).setCell ⟨M + 2, 1, none⟩ (.int .i64 b5) := ⟨_, rfl⟩
  have HS5 := hide (show DSt w W5 M g ep wt st l5 b5 [] none 0 [] none 0 by rw [hW5]; exact (HT5.out.setRd l5 b5))
  rw [← hW5]
  clear cS0 cS1 c0 c1 f0 f1 hW5 HS4 HT5
  go_wp2_with fail
  go_loopw [8] (fun nv wr => ∃ (k n : Nat) (ls : List UInt8) (bs : Nat) (refs : List RefD) (AR : Option Addr) (cR : Nat), nv = .int .u64 k ∧ k + n = nr ∧ DSt w wr M g ep wt st ls bs refs AR cR [] none 0 ∧ OkS (ls, bs) ∧ rfs = refs ++ (manyR refR n (ls, bs)).1 ∧ (l6, b6) = (manyR refR n (ls, bs)).2 ∧ refs.length ≤ k) (fun nv _ => nr - (intOf nv).toNat)
  case atStart => exact ⟨0, nr, l5, b5, [], none, 0, rfl, by simp, HS5.out, O5.out, by rw [HM1.out]; rfl, by rw [HM1.out], Nat.le_refl _⟩
  case round => as_aux_lemma =>
    obtain ⟨k, n, ls, bs, refs, AR, cR, rfl, hkn, hst, hok, hm1, hm2, hlen⟩ := hrel
    have Hst := hide hst
    have Hok := hide hok
    have Hm1 := hide hm1
    have Hm2 := hide hm2
    have hc1 := hst.rc1
    have hk0 : (0 : Int) ≤ (k : Int) := by omega
    clear hst hok hm1 hm2 HS5
    by_cases hover : n = 0 ∨ bs ≠ 0
    case pos => as_aux_lemma =>
      have hm1 := Hm1.out
      have hm2 := Hm2.out
      rw [manyR_over refR n (ls, bs) hover] at hm1 hm2
      rw [List.append_nil] at hm1
      have Hm1b := hide hm1
      have Hm2b := hide hm2
      clear hm1 hm2
      go_upto_region 10 with (fail)
      go_cut [69] (fun b wx => b = .bool false ∧ wx = wr)
      case first => as_aux_lemma =>
        by_cases hn : n = 0
        · subst hn
          have hlt : ¬ k < nr := by omega
          have hd : decide (k < nr) = false := decide_eq_false hlt
          go_wp2_with fail
          go_meet
          exact ⟨rfl, rfl⟩
        · have hb0 : bs ≠ 0 := by omega
          have hlt : k < nr := by omega
          have hbz : ((bs : Int) == 0) = false := by rw [beq_eq_false_iff_ne]; omega
          go_wp2_with fail
          go_meet
          exact ⟨rfl, rfl⟩
      case rest => as_aux_lemma =>
        obtain ⟨rfl, hwx⟩ := hcut
        have hwx2 := hwx.symm
        subst hwx2
        have hb6 : (ls, bs) = (l6, b6) := Hm2b.out.symm
        simp only [Prod.mk.injEq] at hb6
        obtain ⟨rfl, rfl⟩ := hb6
        have hc0 := Hst.out.rc0
        have hrfl : refs.length ≤ 255 := by omega
        have hk0b := hk0
        clear hk0 hlen hover hkn
        go_upto_region 17 with (first
          | (go_at_call 38; ((with_reducible refine (dnum_b 1 ls bs np l7 b7 Hok.out rfl Z1.out L1.out HN6.out).mono ?_)); rintro e w6 ⟨rfl, hb6⟩; have HT6 := hide (Hst.out.below hb6); have d0 := HT6.out.rc0; have d1 := HT6.out.rc1; have e0 := HT6.out.rf0; have e1 := HT6.out.rf1; clear hb6)
          | fail)
        obtain ⟨W6, hW6⟩ : ∃ W : World, W = (w6.setCell ⟨M + 2, 0, none⟩ (.string ⟨l7.toArray⟩)).setCell ⟨M + 2, 1, none⟩ (.int .i64 b7) := ⟨_, rfl⟩
        have HS6 := hide (show DSt w W6 M g ep wt st l7 b7 refs AR cR [] none 0 by rw [hW6]; exact HT6.out.setRd l7 b7)
        rw [← hW6]
        clear d0 d1 e0 e1 hc0 hc1 HT6 hW6 Hst Hok Hm1 Hm2 Hm2b hk0b
        go_wp2_with fail
        go_loopw [13] (fun nv wr => ∃ (k n : Nat) (ls : List UInt8) (bs : Nat) (packs : List PackD) (AP : Option Addr) (cP : Nat), nv = .int .u64 k ∧ k + n = np ∧ DSt w wr M g ep wt st ls bs refs AR cR packs AP cP ∧ OkS (ls, bs) ∧ pks = packs ++ (manyR packR n (ls, bs)).1 ∧ packs.length ≤ k) (fun nv _ => np - (intOf nv).toNat)
        case atStart => exact ⟨0, np, l7, b7, [], none, 0, rfl, by simp, HS6.out, O7.out, by rw [HM2.out]; rfl, Nat.le_refl _⟩
        case round => as_aux_lemma =>
          obtain ⟨k2, n2, ls2, bs2, packs, AP, cP, rfl, hkn, hst, hok, hm1, hlen⟩ := hrel
          have Hst := hide hst
          have Hok := hide hok
          have Hm1 := hide hm1
          have hc1 := hst.rc1
          have hk0 : (0 : Int) ≤ (k2 : Int) := by omega
          clear hst hok hm1 HS6
          by_cases hover : n2 = 0 ∨ bs2 ≠ 0
          case pos => as_aux_lemma =>
            have hm1 := Hm1.out
            rw [manyR_over packR n2 (ls2, bs2) hover, List.append_nil] at hm1
            have Hm3 := hide hm1
            clear hm1
            go_upto_region 18 with (fail)
            go_cut [103] (fun b wx => b = .bool false ∧ wx = wr)
            case first => as_aux_lemma =>
              by_cases hn : n2 = 0
              · subst hn
                have hlt : ¬ k2 < np := by omega
                have hd : decide (k2 < np) = false := decide_eq_false hlt
                go_wp2_with fail
                go_meet
                exact ⟨rfl, rfl⟩
              · have hb0 : bs2 ≠ 0 := by omega
                have hlt : k2 < np := by omega
                have hbz : ((bs2 : Int) == 0) = false := by rw [beq_eq_false_iff_ne]; omega
                go_wp2_with fail
                go_meet
                exact ⟨rfl, rfl⟩
            case rest => as_aux_lemma =>
              obtain ⟨rfl, hwx⟩ := hcut
              have hwx2 := hwx.symm
              subst hwx2
              obtain ⟨b, hb⟩ : ∃ b, b = bodyR l := ⟨_, rfl⟩
              have hbv : b = ⟨g, ep, (wt : Nat), st, refs, packs⟩ := by rw [hb, Hbody.out, Hm1b.out, Hm3.out]
              obtain ⟨v, hv⟩ : ∃ v, v = Value.agg (bodyV g ep wt st (.slice AR refs.length cR) (.slice AP packs.length cP)).toArray := ⟨_, rfl⟩
              have hnames : ∀ r ∈ b.refs, r.name.length ≤ 100000 := fun r hr => by rw [hb] at hr; exact Nat.le_trans (names_read l r hr) hl
              have hbody : DBodyC wr (fun i => M + 2 < i ∧ i < wr.heap.size) b v := by
                obtain ⟨xr, r1, r2⟩ := Hst.out.ownR
                obtain ⟨xp, p1, p2⟩ := Hst.out.ownP
                rw [hbv] at hnames ⊢
                rw [hv]
                refine ⟨AR, cR, xr, AP, cP, xp, rfl, Rd.of_own r1 (fun j e hj => ⟨by omega, (r1.lt j (by rw [e]; rfl)).2⟩), r2, Rd.of_own p1 (fun j e hj => ⟨by omega, (p1.lt j (by rw [e]; rfl)).2⟩), p2.imp (fun p c _ hc => by
                  obtain ⟨A, cap, xs, rfl, hr, h2⟩ := hc
                  exact ⟨A, cap, xs, rfl, hr.mono (fun i hi hh => ⟨hh.1, hi⟩), h2⟩), by show refs.length ≤ _; omega, by show packs.length ≤ _; omega, fun i hi => hi.2, hnames⟩
              have hnum : NumsD b := by rw [hbv]; exact Hg.out
              have hthin : ThinD b := by rw [hb]; exact thin_read l
              have Hput := hide (dput_any _ b v wr hbody hthin hnum)
              have HszB := hide (show (Tryz.prog.info? 31).map (·.size) = some (bodyV g ep wt st (.slice AR refs.length cR) (.slice AP packs.length cP)).toArray.size by kernel_rfl)
              have HP5 := hide Hst.out.hp
              have HbodyC := hide hbody
              have Hb := hide hb
              have Hv := hide hv
              have hrow : ∀ w', Below wr.heap.size wr w' → w'.heap[M]? = some (.cells zeroBody.toArray 31 (0, 0)) := fun w' h => (h.block M (by have := Hst.out.sz; omega)).trans Hst.out.hq
              have Hrow := hide hrow
              clear hbody hnum hthin hb hv hbv hrow hover hnames hc1 hk0
              have HszL := hide (show (Tryz.prog.info? 31).map (·.size) = some (bodyV g ep wt st (.slice AR refs.length cR) (.slice AP packs.length cP)).length by kernel_rfl)
              have HszZ := hide (show (Tryz.prog.info? 31).map (·.size) = some zeroBody.length by kernel_rfl)
              have HszA := hide (show (Tryz.prog.info? 31).map (·.size) = some zeroBody.toArray.size by kernel_rfl)
              have HoB := hide (show ∀ u ∈ bodyV g ep wt st (.slice AR refs.length cR) (.slice AP packs.length cP), u.oneCell' = true from fun u hu => by simp [bodyV] at hu; rcases hu with rfl | rfl | rfl | rfl | rfl | rfl <;> rfl)
              have HoZ := hide (show ∀ u ∈ zeroBody, u.oneCell' = true from fun u hu => by simp [zeroBody] at hu; rcases hu with rfl | rfl | rfl | rfl <;> rfl)
              have HlB := hide (show (bodyV g ep wt st (.slice AR refs.length cR) (.slice AP packs.length cP)).length = zeroBody.length from rfl)
              rcases hok : okD b with _ | _
              case false =>
                have Hc := hide (show codeD b = 2 by rw [codeD, hok]; rfl)
                have Hno := hide (show ¬ readOkD l = true by rw [readOkD, ← Hb.out, hok]; simp)
                clear hok
                go_wp2_with (first
                  | (with_reducible refine wpList_load_row rfl 31 (.tmp 4) rfl (M + 1) rfl 31 (bodyV g ep wt st (.slice AR refs.length cR) (.slice AP packs.length cP)).toArray (0, 0) _ HP5.out Tryz.underlying31 rfl HszB.out ?_)
                  | (with_reducible refine wpList_load_row rfl 31 (.tmp 4) rfl (M + 1) rfl 31 (bodyV g ep wt st (.slice AR refs.length cR) (.slice AP packs.length cP)).toArray (0, 0) _ HP5b.out Tryz.underlying31 rfl HszB.out ?_)
                  | (go_at_call 8; rw [← Hv.out]; refine Hput.out.mono ?_; rintro e w15 ⟨rfl, hb15⟩; rw [Hc.out]; simp only [strV]; have Hb15 := hide hb15; have HP5b := hide ((hb15.block (M + 1) (by have := Hst.out.sz; omega)).trans HP5.out); clear hb15)
                  | (refine wpList_store_all rfl 31 (.tmp 2) (.tmp 175) rfl M zeroBody zeroBody 31 (Hrow.out _ Hb15.out) rfl rfl rfl HszZ.out HoZ.out ?_)
                  | fail)
                refine bodyPost_ret (results_cell_two rfl _ _ M _ _ _ _ rfl (setRow_heap _ _ _ _ _ _ (Hrow.out _ Hb15.out)) Tryz.underlying31 rfl HszA.out) rfl ?_
                unfold DRead
                rw [if_neg Hno.out]
                have hkp := Hst.out.kp
                have hb9 := (hkp.trans (Hb15.out.mono (by have := hkp.size; have := HM.out; omega)))
                exact ⟨rfl, by rw [HM.out] at hb9 ⊢; exact below_setRow hb9 (Nat.le_refl _) _⟩
              case true =>
                have Hc := hide (show codeD b = 0 by rw [codeD, hok]; rfl)
                obtain ⟨q, hq⟩ : ∃ q, q = dputL b := ⟨_, rfl⟩
                have hq2 : q = putD b := by rw [hq, dputL, hok]; rfl
                have Hq := hide hq
                rw [← hq] at Hput
                by_cases heq : q = l
                case neg =>
                  have Hno := hide (show ¬ readOkD l = true by rw [readOkD, ← Hb.out, hok, ← hq2]; simpa using heq)
                  have hb1 : (q == l) = false := beq_eq_false_iff_ne.2 heq
                  have hb2 : (q != l) = true := bne_iff_ne.2 heq
                  have hb3 : decide (q = l) = false := decide_eq_false heq
                  have hb4 : (q = l) = False := eq_false heq
                  clear hok hq hq2
                  go_wp2_with (first
                    | (with_reducible refine wpList_load_row rfl 31 (.tmp 4) rfl (M + 1) rfl 31 (bodyV g ep wt st (.slice AR refs.length cR) (.slice AP packs.length cP)).toArray (0, 0) _ HP5.out Tryz.underlying31 rfl HszB.out ?_)
                    | (with_reducible refine wpList_load_row rfl 31 (.tmp 4) rfl (M + 1) rfl 31 (bodyV g ep wt st (.slice AR refs.length cR) (.slice AP packs.length cP)).toArray (0, 0) _ HP5b.out Tryz.underlying31 rfl HszB.out ?_)
                    | (go_at_call 8; rw [← Hv.out]; refine Hput.out.mono ?_; rintro e w15 ⟨rfl, hb15⟩; rw [Hc.out]; simp only [strV]; have Hb15 := hide hb15; have HP5b := hide ((hb15.block (M + 1) (by have := Hst.out.sz; omega)).trans HP5.out); clear hb15)
                    | (refine wpList_store_all rfl 31 (.tmp 2) (.tmp 175) rfl M zeroBody zeroBody 31 (Hrow.out _ Hb15.out) rfl rfl rfl HszZ.out HoZ.out ?_)
                    | fail)
                  refine bodyPost_ret (results_cell_two rfl _ _ M _ _ _ _ rfl (setRow_heap _ _ _ _ _ _ (Hrow.out _ Hb15.out)) Tryz.underlying31 rfl HszA.out) rfl ?_
                  unfold DRead
                  rw [if_neg Hno.out]
                  have hkp := Hst.out.kp
                  have hb9 := (hkp.trans (Hb15.out.mono (by have := hkp.size; have := HM.out; omega)))
                  exact ⟨rfl, by rw [HM.out] at hb9 ⊢; exact below_setRow hb9 (Nat.le_refl _) _⟩
                case pos =>
                  have Hyes := hide (show readOkD l = true by rw [readOkD, ← Hb.out, hok, ← hq2, heq]; simp)
                  subst heq
                  clear hok hq hq2
                  go_wp2_with (first
                    | (with_reducible refine wpList_load_row rfl 31 (.tmp 4) rfl (M + 1) rfl 31 (bodyV g ep wt st (.slice AR refs.length cR) (.slice AP packs.length cP)).toArray (0, 0) _ HP5.out Tryz.underlying31 rfl HszB.out ?_)
                    | (with_reducible refine wpList_load_row rfl 31 (.tmp 4) rfl (M + 1) rfl 31 (bodyV g ep wt st (.slice AR refs.length cR) (.slice AP packs.length cP)).toArray (0, 0) _ HP5b.out Tryz.underlying31 rfl HszB.out ?_)
                    | (go_at_call 8; rw [← Hv.out]; refine Hput.out.mono ?_; rintro e w15 ⟨rfl, hb15⟩; rw [Hc.out]; simp only [strV]; have Hb15 := hide hb15; have HP5b := hide ((hb15.block (M + 1) (by have := Hst.out.sz; omega)).trans HP5.out); clear hb15)
                    | (refine wpList_store_all rfl 31 (.tmp 2) (.tmp 176) rfl M zeroBody (bodyV g ep wt st (.slice AR refs.length cR) (.slice AP packs.length cP)) 31 (Hrow.out _ Hb15.out) rfl rfl HlB.out HszL.out HoB.out ?_)
                    | fail)
                  refine bodyPost_ret (results_cell_two rfl _ _ M _ _ _ _ rfl (setRow_heap _ _ _ _ _ _ (Hrow.out _ Hb15.out)) Tryz.underlying31 rfl HszB.out) rfl ?_
                  unfold DRead
                  rw [if_pos Hyes.out]
                  have hkp := Hst.out.kp
                  have hb9 := (hkp.trans (Hb15.out.mono (by have := hkp.size; have := HM.out; omega)))
                  have hk9 : Keep (fun i => i = M) wr (w15.setRow M (bodyV g ep wt st (.slice AR refs.length cR) (.slice AP packs.length cP)).toArray) := keep_setRow (g := M) ((Keep.of_none Hb15.out).mono (G := fun i => i = M) (fun _ _ f => f.elim)) (fun _ => rfl) _
                  refine ⟨v, by rw [Hv.out]; rfl, ?_, by rw [HM.out] at hb9 ⊢; exact below_setRow hb9 (Nat.le_refl _) _⟩
                  rw [← Hb.out]
                  have h1 := HbodyC.out
                  obtain ⟨B1, B2, B3, B4, B5, B6, e1, r1, r2, r3, r4, r5, r6, r7, r8⟩ := h1
                  have hd : ∀ i, (M + 2 < i ∧ i < wr.heap.size) → i < wr.heap.size → ¬ (i = M) := fun i hi _ e => by omega
                  have hT : ∀ i, i < (w15.setRow M (bodyV g ep wt st (.slice AR refs.length cR) (.slice AP packs.length cP)).toArray).heap.size → (M + 2 < i ∧ i < wr.heap.size) → w.heap.size ≤ i ∧ i < (w15.setRow M (bodyV g ep wt st (.slice AR refs.length cR) (.slice AP packs.length cP)).toArray).heap.size := fun i hi hh => ⟨by have := HM.out; omega, hi⟩
                  exact ⟨B1, B2, B3, B4, B5, B6, e1, (r1.keep hk9 hd).mono hT, r2, (r3.keep hk9 hd).mono hT, r4.imp (fun p c _ hc => by
                    obtain ⟨A, cap, xs, rfl, hr, h2⟩ := DPackC.keep hk9 hd p c hc
                    exact ⟨A, cap, xs, rfl, hr.mono hT, h2⟩), r5, r6, fun i hi => hi.2, r8⟩
          case neg => as_aux_lemma =>
            obtain ⟨m, rfl⟩ : ∃ m, n2 = m + 1 := ⟨n2 - 1, by omega⟩
            obtain rfl : bs2 = 0 := by omega
            have hlt : k2 < np := by omega
            obtain ⟨x, la, ba, hT1⟩ : ∃ x lq bq, takeR 32 (ls2, 0) = (x, (lq, bq)) := ⟨_, _, _, rfl⟩
            obtain ⟨ct, lb, bb, hT2⟩ : ∃ x lq bq, numR 2 (la, ba) = (x, (lq, bq)) := ⟨_, _, _, rfl⟩
            obtain ⟨nb, lc, bc, hT3⟩ : ∃ x lq bq, numR 1 (lb, bb) = (x, (lq, bq)) := ⟨_, _, _, rfl⟩
            obtain ⟨bls, lF, bF, hT4⟩ : ∃ x lq bq, manyR blobR nb (lc, bc) = (x, (lq, bq)) := ⟨_, _, _, rfl⟩
            have hpack : packR (ls2, 0) = (⟨x, (ct : Nat), bls⟩, (lF, bF)) := by
              have e1 : (takeR 32 (ls2, 0)).1 = x := by rw [hT1]
              have e2 : (takeR 32 (ls2, 0)).2 = (la, ba) := by rw [hT1]
              simp only [packR]
              rw [e1, e2]
              simp only [hT2, hT3, hT4]
            have hms := manyR_step packR m (ls2, 0) rfl
            rw [hpack] at hms
            have hm1 := Hm1.out
            rw [hms] at hm1
            have Hm1b := hide hm1
            have oa : OkS (la, ba) := by have := Hok.out.take 32; rw [hT1] at this; exact this
            have ob : OkS (lb, bb) := by have := oa.num 2; rw [hT2] at this; exact this
            have oc : OkS (lc, bc) := by have := ob.num 1; rw [hT3] at this; exact this
            have oF : OkS (lF, bF) := by have := Hok.out.pack; rw [hpack] at this; exact this
            have hct : ct < 65536 := by have := beV_num 2 (la, ba) (by omega); rw [show ((2 : Nat) : Int) = 2 from rfl, hT2] at this; exact this
            have hnb : nb < 256 := by have := beV_num 1 (lb, bb) (by omega); rw [show ((1 : Nat) : Int) = 1 from rfl, hT3] at this; exact this
            have hcti : (ct : Int) < 65536 := by omega
            have Oa := hide oa
            have Ob := hide ob
            have Oc := hide oc
            have OF := hide oF
            have HT1 := hide hT1
            have HT2 := hide hT2
            have HT3 := hide hT3
            have HT4 := hide hT4
            have Z2 := hide (show (2 : Int) = ((2 : Nat) : Int) from rfl)
            have L2 := hide (show 2 ≤ 8 ∧ 1 ≤ 2 by omega)
            clear hms hm1 hpack hT1 hT2 hT3 hT4 oa ob oc oF hover
            go_upto_region 21 with (fail)
            obtain ⟨P, hP⟩ : ∃ P, P = wr.heap.size := ⟨_, rfl⟩
            obtain ⟨W20, hW20⟩ : ∃ W : World, W = wr.alloc (.cells #[.string ⟨#[]⟩, .int .i64 0, .slice none 0 0] 71) := ⟨_, rfl⟩
            have HQ := hide (show QSt wr W20 M P [] 0 ls2 0 [] none 0 by
              have hs := Hst.out.sz
              rw [hW20, hP]
              exact ⟨(Below.heap_alloc _ _ _ (by omega)).trans Hst.out.rd, heap_alloc_new _ _, ⟨[], World.ownsRow_nil _ _ _ _, rfl⟩, (Keep.refl _ _).alloc _, by simp, rfl, by omega⟩)
            rw [← hW20, ← hP]
            have c0 := HQ.out.rc0
            have c1 := HQ.out.rc1
            clear hW20 hP hc1
            go_upto_region 27 with (first
              | (go_at_call 40; ((with_reducible refine (draw_b 32 ls2 x 0 la ba Hok.out B1.out (by decide) HT1.out).mono ?_)); rintro e w21 ⟨rfl, hb21⟩; have HQ21 := hide (HQ.out.below hb21); have hM21 : M + 2 < w21.heap.size := (Nat.lt_trans HQ21.out.lt HQ21.out.sz); clear hb21)
              | (go_at_call 38; ((with_reducible refine (dnum_b 2 la ba ct lb bb Oa.out rfl Z2.out L2.out HT2.out).mono ?_)); rintro e w22 ⟨rfl, hb22⟩; have HQ22 := hide ((HQ21.out.below ((Below.refl _ _).alloc (Nat.le_refl _) _)).below hb22); have hM22 : M + 2 < w22.heap.size := (Nat.lt_trans HQ22.out.lt HQ22.out.sz); clear hb22)
              | (go_at_call 38; ((with_reducible refine (dnum_b 1 lb bb nb lc bc Ob.out rfl Z1.out L1.out HT3.out).mono ?_)); rintro e w23 ⟨rfl, hb23⟩; have HQ23 := hide ((HQ22.out.below ((Below.refl _ _).alloc (Nat.le_refl _) _)).below hb23); have hM23 : M + 2 < w23.heap.size := (Nat.lt_trans HQ23.out.lt HQ23.out.sz); have hP23 : P < w23.heap.size := HQ23.out.sz; have d0 := HQ23.out.rc0; have d1 := HQ23.out.rc1; have e0 := HQ23.out.rf0; have e1 := HQ23.out.rf1; have p0 : w23.cell? ⟨P, 0, none⟩ = some (.string ⟨#[]⟩) := HQ23.out.pc 0; have p1 : w23.cell? ⟨P, 1, none⟩ = some (.int .i64 0) := HQ23.out.pc 1; have g0 := HQ23.out.pf 0; have g1 := HQ23.out.pf 1; have hPM := HQ23.out.lt; clear hb23)
              | fail)
            obtain ⟨W24, hW24⟩ : ∃ W : World, W = ((((w23.setCell ⟨M + 2, 0, none⟩ (.string ⟨lc.toArray⟩)).setCell ⟨M + 2, 1, none⟩ (.int .i64 bc)).setCell ⟨P, 0, none⟩ (.string ⟨x.toArray⟩)).setCell ⟨P, 1, none⟩ (.int .i64 ct)).alloc (.cells #[.string ⟨lc.toArray⟩, .int .i64 bc] 94) := ⟨_, rfl⟩
            have HQ24 := hide (show QSt wr W24 M P x ct lc bc [] none 0 by rw [hW24]; exact (((HQ23.out.setRd lc bc).fld (key' := x) (ct' := 0) 0 (.string ⟨x.toArray⟩) rfl).fld (key' := x) (ct' := ct) 1 (.int .i64 ct) rfl).below ((Below.refl _ _).alloc (Nat.le_refl _) _))
            rw [← hW24]
            clear c0 c1 d0 d1 e0 e1 p0 p1 g0 g1 hPM hM21 hM22 hM23 hP23 HQ HQ21 HQ22 HQ23 hW24
            go_wp2_with fail
            obtain ⟨w0, hw0⟩ : ∃ w0 : World, w0 = wr := ⟨_, rfl⟩
            subst hw0
            have H16 := hide (show (16 : Int) ≤ 1073741824 by decide)
            have H32 := hide (show (32 : Int) ≤ 1073741824 by decide)
            go_loopw [21] (fun nv wr => ∃ (k n : Nat) (ls : List UInt8) (bs : Nat) (bl : List BlobD) (Ab : Option Addr) (cb : Nat), nv = .int .u64 k ∧ k + n = nb ∧ QSt w0 wr M P x ct ls bs bl Ab cb ∧ OkS (ls, bs) ∧ bls = bl ++ (manyR blobR n (ls, bs)).1 ∧ (lF, bF) = (manyR blobR n (ls, bs)).2 ∧ bl.length ≤ k) (fun nv _ => nb - (intOf nv).toNat)
            case atStart => exact ⟨0, nb, lc, bc, [], none, 0, rfl, by simp, HQ24.out, Oc.out, by rw [HT4.out]; rfl, by rw [HT4.out], Nat.le_refl _⟩
            case round => as_aux_lemma =>
              obtain ⟨k3, n3, ls3, bs3, bl, Ab, cb, rfl, hkn3, hq, hok, hm1, hm2, hlen3⟩ := hrel
              have Hq := hide hq
              have Hok3 := hide hok
              have Hm13 := hide hm1
              have Hm23 := hide hm2
              have hc1 := hq.rc1
              have hk03 : (0 : Int) ≤ (k3 : Int) := by omega
              clear hq hok hm1 hm2 HQ24
              by_cases hover : n3 = 0 ∨ bs3 ≠ 0
              case pos => as_aux_lemma =>
                have hm1 := Hm13.out
                have hm2 := Hm23.out
                rw [manyR_over blobR n3 (ls3, bs3) hover] at hm1 hm2
                rw [List.append_nil] at hm1
                have Hm3 := hide hm1
                have Hm4 := hide hm2
                clear hm1 hm2
                go_upto_region 28 with (fail)
                go_cut [135] (fun b wx => b = .bool false ∧ wx = wr)
                case first => as_aux_lemma =>
                  by_cases hn : n3 = 0
                  · subst hn
                    have hlt3 : ¬ k3 < nb := by omega
                    have hd : decide (k3 < nb) = false := decide_eq_false hlt3
                    go_wp2_with fail
                    go_meet
                    exact ⟨rfl, rfl⟩
                  · have hb0 : bs3 ≠ 0 := by omega
                    have hlt3 : k3 < nb := by omega
                    have hbz : ((bs3 : Int) == 0) = false := by rw [beq_eq_false_iff_ne]; omega
                    go_wp2_with fail
                    go_meet
                    exact ⟨rfl, rfl⟩
                case rest => as_aux_lemma =>
                  obtain ⟨rfl, hwx⟩ := hcut
                  have hwx2 := hwx.symm
                  subst hwx2
                  have hbF : (ls3, bs3) = (lF, bF) := Hm4.out.symm
                  simp only [Prod.mk.injEq] at hbF
                  obtain ⟨rfl, rfl⟩ := hbF
                  have hD := Hst.out.jump Hq.out
                  have HD := hide hD
                  obtain ⟨xp, hownP, helsP⟩ := hD.ownP
                  have HownP := hide hownP
                  have HelsP := hide helsP
                  have p5 : wr.cell? ⟨M + 1, 5, none⟩ = some (.slice AP packs.length cP) := hD.bc 5
                  have Hpr := hide Hq.out.hp
                  have HszP := hide (show (Tryz.prog.info? 71).map (·.size) = some (dpackV x ct (.slice Ab bl.length cb)).toArray.size by kernel_rfl)
                  obtain ⟨cs, hcs⟩ : ∃ cs, cs = dpackV x ct (.slice Ab bl.length cb) := ⟨_, rfl⟩
                  have hcl : cs.length = 3 := by rw [hcs]; rfl
                  have hco : ∀ u ∈ cs, u.oneCell' = true := fun u hu => by rw [hcs] at hu; simp [dpackV] at hu; rcases hu with rfl | rfl | rfl <;> rfl
                  have hpc : DPackC wr (fun i => P ≤ i) ⟨x, (ct : Nat), bls⟩ cs := by
                    obtain ⟨xb, ob1, ob2⟩ := Hq.out.own
                    rw [hcs, Hm3.out]
                    exact ⟨Ab, cb, xb, rfl, Rd.of_own ob1 (fun g _ hg => by show P ≤ g; omega), ob2, by show bl.length ≤ 1000; omega, by show (-9223372036854775808 : Int) ≤ (ct : Int) ∧ (ct : Int) ≤ 9223372036854775807; omega⟩
                  have hbu := build_eq cs 3 hcl
                  rw [← hcs] at Hpr HszP
                  have Hcl := hide hcl
                  have Hco := hide hco
                  have Hpc := hide hpc
                  have Ls1 := hide (show packs.length + 1 ≤ maxLen by unfold maxLen; omega)
                  have Ls2 := hide (show (packs.length + 1) * 48 ≤ 140737488355328 by omega)
                  have Ls3 := hide (show M + 3 ≤ wr.heap.size from hD.sz)
                  clear hD hownP helsP hcs hco hpc hc1 hk03 hover
                  have hkw : IntKind.u64.wrap ((k2 : Int) + 1) = (k2 : Int) + 1 := by rw [IntKind.wrap_u64]; omega
                  have Hkw := hide hkw
                  clear hkw
                  go_wp2_with (first
                    | (with_reducible refine wpList_load_row rfl 71 (.tmp 14) rfl P rfl 71 cs.toArray (0, 0) _ Hpr.out Tryz.underlying71 rfl HszP.out ?_)
                    | (at_builtin; refine wpList_append_rd _ rfl (.tmp 158) (.tmp 160) 29 29 rfl (M + 3) 71 71 _ 3 48 Tryz.underlying29 Tryz.underlying29 Tryz.info71 rfl (by decide) (.slice AP packs.length cP) packs.length xp rfl (own_below HownP.out ((Below.refl _ _).alloc (Nat.le_refl _) _)) _ _ 1 1 cs rfl (Rd.new_at _ _ _ _ rfl (by rw [Hcl.out])) Hco.out Ls1.out Ls2.out (Nat.le_trans Ls3.out (by simp)) ?_; intro A14 cap14 w14 hown14 hgrow14 hat14; have hP14 := (hgrow14.block (M + 1) (by have := Ls3.out; simp; omega) (fun e => by have := (HD.out.geP (M + 1) e.symm).1; omega)).trans ((Below.heap_alloc wr _ (M + 1) (by have := Ls3.out; omega)).trans HD.out.hp); have p5b : w14.cell? ⟨M + 1, 5, none⟩ = some (.slice AP packs.length cP) := cell_of_row _ _ 5 _ _ _ hP14; have f5b : w14.frozen? ⟨M + 1, 5, none⟩ = false := frozen_of_row _ _ _ _ _ hP14; have Hown14 := hide hown14; have Hgr := hide hgrow14; have Hat := hide hat14; clear hP14 hown14 hgrow14 hat14)
                    | fail)
                  have hm := HD.out.addPack P (by have := Hq.out.lt; omega) (fun j hj => by have := (Hst.out.geP j hj).2; have := Hq.out.hP; omega) (by have := Hq.out.sz; omega) ⟨x, (ct : Nat), bls⟩ cs Hpc.out _ A14 cap14 xp HelsP.out Hown14.out Hgr.out Hat.out
                  exact ⟨⟨k2 + 1, m, ls3, bs3, packs ++ [⟨x, (ct : Nat), bls⟩], A14, cap14, by go_num, by omega, hm, OF.out, by rw [Hm1b.out, List.append_assoc]; rfl, by rw [List.length_append]; simp; omega⟩, by simp [intOf]; omega⟩
              case neg => as_aux_lemma =>
                obtain ⟨m3, rfl⟩ : ∃ m, n3 = m + 1 := ⟨n3 - 1, by omega⟩
                obtain rfl : bs3 = 0 := by omega
                have hlt3 : k3 < nb := by omega
                obtain ⟨x1, l8, b8, hT1⟩ : ∃ x lq bq, takeR 16 (ls3, 0) = (x, (lq, bq)) := ⟨_, _, _, rfl⟩
                obtain ⟨x2, l9, b9, hT2⟩ : ∃ x lq bq, takeR 32 (l8, b8) = (x, (lq, bq)) := ⟨_, _, _, rfl⟩
                have hblob : blobR (ls3, 0) = (⟨x1, x2⟩, (l9, b9)) := by simp only [blobR, hT1, hT2]
                have hms := manyR_step blobR m3 (ls3, 0) rfl
                rw [hblob] at hms
                have hm1 := Hm13.out
                have hm2 := Hm23.out
                rw [hms] at hm1 hm2
                have Hm1c := hide hm1
                have Hm2c := hide hm2
                have hok8 : OkS (l8, b8) := by have := Hok3.out.take 16; rw [hT1] at this; exact this
                have hok9 : OkS (l9, b9) := by have := Hok3.out.blob; rw [hblob] at this; exact this
                have Hok8 := hide hok8
                have Hok9 := hide hok9
                have HU1 := hide hT1
                have HU2 := hide hT2
                have hc0 := Hq.out.rc0
                clear hms hm1 hm2 hblob hT1 hT2 hok8 hok9 hover
                go_upto_region 33 with (first
                  | (go_at_call 40; ((with_reducible refine (draw_b 16 ls3 x1 0 l8 b8 Hok3.out B1.out H16.out HU1.out).mono ?_)); rintro e w7 ⟨rfl, hb7⟩; have HT7 := hide (Hq.out.below hb7); have hM7 : M + 2 < w7.heap.size := (Nat.lt_trans HT7.out.lt HT7.out.sz); clear hb7)
                  | (go_at_call 40; ((with_reducible refine (draw_b 32 l8 x2 b8 l9 b9 Hok8.out rfl H32.out HU2.out).mono ?_)); rintro e w8 ⟨rfl, hb8⟩; have HT8 := hide ((HT7.out.below ((Below.refl _ _).alloc (Nat.le_refl _) _)).below hb8); have hM8 : M + 2 < w8.heap.size := (Nat.lt_trans HT8.out.lt HT8.out.sz); have d0 := HT8.out.rc0; have d1 := HT8.out.rc1; have e0 := HT8.out.rf0; have e1 := HT8.out.rf1; clear hb8)
                  | fail)
                obtain ⟨W9, hW9⟩ : ∃ W : World, W = ((w8.setCell ⟨M + 2, 0, none⟩ (.string ⟨l9.toArray⟩)).setCell ⟨M + 2, 1, none⟩ (.int .i64 b9)).alloc (.cells #[.string ⟨l9.toArray⟩, .int .i64 b9] 94) := ⟨_, rfl⟩
                have HS9 := hide (show QSt w0 W9 M P x ct l9 b9 bl Ab cb by rw [hW9]; exact (HT8.out.setRd l9 b9).below ((Below.refl _ _).alloc (Nat.le_refl _) _))
                rw [← hW9]
                obtain ⟨xr, hownR, helsR⟩ := HS9.out.own
                have HownR := hide hownR
                have HelsR := hide helsR
                have p2 : W9.cell? ⟨P, 2, none⟩ = some (.slice Ab bl.length cb) := HS9.out.pc 2
                have Ls1 := hide (show bl.length + 1 ≤ maxLen by unfold maxLen; omega)
                have Ls2 := hide (show (bl.length + 1) * 32 ≤ 140737488355328 by omega)
                have Ls3 := hide (show P + 1 ≤ W9.heap.size from HS9.out.sz)
                have Hc2 := hide (show DBlobC ⟨x1, x2⟩ [.string ⟨x1.toArray⟩, .string ⟨x2.toArray⟩] from rfl)
                clear hM7 hM8 d0 d1 e0 e1 hc0 hc1 HT7 HT8 hW9 hownR helsR
                go_wp2_with (first
                  | (at_builtin; refine wpList_append_rd _ rfl (.tmp 150) (.tmp 154) 69 69 rfl (P + 1) 75 75 _ 2 32 Tryz.underlying69 Tryz.underlying69 Tryz.info75 rfl (by decide) (.slice Ab bl.length cb) bl.length xr rfl (own_below HownR.out ((Below.refl _ _).alloc (Nat.le_refl _) _)) _ _ 1 1 [.string ⟨x1.toArray⟩, .string ⟨x2.toArray⟩] rfl (Rd.new_at _ _ _ _ rfl rfl) (by simp [Value.oneCell']) Ls1.out Ls2.out (Nat.le_trans Ls3.out (by simp)) ?_; intro A11 cap11 w11 hown11 hgrow11 hat11; have hP11 := (hgrow11.block P (by have := Ls3.out; simp; omega) (fun e => by have := (HS9.out.ge P e.symm).1; omega)).trans ((Below.heap_alloc W9 _ P (by have := Ls3.out; omega)).trans HS9.out.hp); have p2b : w11.cell? ⟨P, 2, none⟩ = some (.slice Ab bl.length cb) := cell_of_row _ _ 2 _ _ _ hP11; have f2b : w11.frozen? ⟨P, 2, none⟩ = false := frozen_of_row _ _ _ _ _ hP11; have Hown11 := hide hown11; have Hgr := hide hgrow11; clear hP11 hown11 hgrow11 hat11)
                  | fail)
                have hm := HS9.out.add ⟨x1, x2⟩ _ Hc2.out _ A11 cap11 xr HelsR.out Hown11.out Hgr.out
                exact ⟨⟨k3 + 1, m3, l9, b9, bl ++ [⟨x1, x2⟩], A11, cap11, by go_num, by omega, hm, Hok9.out, by rw [Hm1c.out, List.append_assoc]; rfl, Hm2c.out, by rw [List.length_append]; simp; omega⟩, by simp [intOf]; omega⟩
    case neg => as_aux_lemma =>
      obtain ⟨m, rfl⟩ : ∃ m, n = m + 1 := ⟨n - 1, by omega⟩
      obtain rfl : bs = 0 := by omega
      have hlt : k < nr := by omega
      obtain ⟨x1, l8, b8, hT1⟩ : ∃ x lq bq, sizedR (ls, 0) = (x, (lq, bq)) := ⟨_, _, _, rfl⟩
      obtain ⟨x2, l9, b9, hT2⟩ : ∃ x lq bq, takeR 32 (l8, b8) = (x, (lq, bq)) := ⟨_, _, _, rfl⟩
      have href : refR (ls, 0) = (⟨x1, x2⟩, (l9, b9)) := by simp only [refR, hT1, hT2]
      have hms := manyR_step refR m (ls, 0) rfl
      rw [href] at hms
      have hm1 := Hm1.out
      have hm2 := Hm2.out
      rw [hms] at hm1 hm2
      have Hm1b := hide hm1
      have Hm2b := hide hm2
      have hok8 : OkS (l8, b8) := by have := Hok.out.sized; rw [hT1] at this; exact this
      have hok9 : OkS (l9, b9) := by have := Hok.out.ref; rw [href] at this; exact this
      have Hok8 := hide hok8
      have Hok9 := hide hok9
      have HT1 := hide hT1
      have HT2 := hide hT2
      have hc0 := Hst.out.rc0
      have hkw : IntKind.u64.wrap ((k : Int) + 1) = (k : Int) + 1 := by rw [IntKind.wrap_u64]; omega
      have Hkw := hide hkw
      clear hms hm1 hm2 href hT1 hT2 hok8 hok9 hover hkw
      go_upto_region 15 with (first
        | (go_at_call 39; ((with_reducible refine (dsized_b ls x1 0 l8 b8 Hok.out B1.out HT1.out).mono ?_)); rintro e w7 ⟨rfl, hb7⟩; have HT7 := hide (Hst.out.below hb7); have hM7 : M + 2 < w7.heap.size := HT7.out.sz; clear hb7)
        | (go_at_call 40; ((with_reducible refine (draw_b 32 l8 x2 b8 l9 b9 Hok8.out rfl (by decide) HT2.out).mono ?_)); rintro e w8 ⟨rfl, hb8⟩; have HT8 := hide ((HT7.out.below ((Below.refl _ _).alloc (Nat.le_refl _) _)).below hb8); have hM8 : M + 2 < w8.heap.size := HT8.out.sz; have d0 := HT8.out.rc0; have d1 := HT8.out.rc1; have e0 := HT8.out.rf0; have e1 := HT8.out.rf1; clear hb8)
        | fail)
      obtain ⟨W9, hW9⟩ : ∃ W : World, W = ((w8.setCell ⟨M + 2, 0, none⟩ (.string ⟨l9.toArray⟩)).setCell ⟨M + 2, 1, none⟩ (.int .i64 b9)).alloc (.cells #[.string ⟨l9.toArray⟩, .int .i64 b9] 94) := ⟨_, rfl⟩
      have HS9 := hide (show DSt w W9 M g ep wt st l9 b9 refs AR cR [] none 0 by rw [hW9]; exact (HT8.out.setRd l9 b9).below ((Below.refl _ _).alloc (Nat.le_refl _) _))
      rw [← hW9]
      obtain ⟨xr, hownR, helsR⟩ := HS9.out.ownR
      have HownR := hide hownR
      have HelsR := hide helsR
      have p4 : W9.cell? ⟨M + 1, 4, none⟩ = some (.slice AR refs.length cR) := HS9.out.bc 4
      have Ls1 := hide (show refs.length + 1 ≤ maxLen by unfold maxLen; omega)
      have Ls2 := hide (show (refs.length + 1) * 32 ≤ 140737488355328 by omega)
      have Ls3 := hide (show M + 3 ≤ W9.heap.size from HS9.out.sz)
      have Hc2 := hide (show DRefC ⟨x1, x2⟩ [.string ⟨x1.toArray⟩, .string ⟨x2.toArray⟩] from rfl)
      clear hM7 hM8 d0 d1 e0 e1 hc0 hc1 HT7 HT8 hW9 hownR helsR
      go_wp2_with (first
        | (at_builtin; refine wpList_append_rd _ rfl (.tmp 84) (.tmp 88) 28 28 rfl (M + 3) 68 68 _ 2 32 Tryz.underlying28 Tryz.underlying28 Tryz.info68 rfl (by decide) (.slice AR refs.length cR) refs.length xr rfl (own_below HownR.out ((Below.refl _ _).alloc (Nat.le_refl _) _)) _ _ 1 1 [.string ⟨x1.toArray⟩, .string ⟨x2.toArray⟩] rfl (Rd.new_at _ _ _ _ rfl rfl) (by simp [Value.oneCell']) Ls1.out Ls2.out (Nat.le_trans Ls3.out (by simp)) ?_; intro A11 cap11 w11 hown11 hgrow11 hat11; have hP11 := (hgrow11.block (M + 1) (by have := Ls3.out; simp; omega) (fun e => by have := (HS9.out.geR (M + 1) e.symm).1; omega)).trans ((Below.heap_alloc W9 _ (M + 1) (by have := Ls3.out; omega)).trans HS9.out.hp); have p4b : w11.cell? ⟨M + 1, 4, none⟩ = some (.slice AR refs.length cR) := cell_of_row _ _ 4 _ _ _ hP11; have f4b : w11.frozen? ⟨M + 1, 4, none⟩ = false := frozen_of_row _ _ _ _ _ hP11; have HP11 := hide hP11; have Hown11 := hide hown11; have Hgr := hide hgrow11; clear hP11 hown11 hgrow11 hat11)
        | fail)
      have hm := HS9.out.addRef ⟨x1, x2⟩ _ Hc2.out _ A11 cap11 xr HelsR.out Hown11.out Hgr.out
      refine ⟨⟨k + 1, m, l9, b9, refs ++ [⟨x1, x2⟩], A11, cap11, by go_num, by omega, hm, Hok9.out, by rw [Hm1b.out, List.append_assoc]; rfl, Hm2b.out, by rw [List.length_append]; simp; omega⟩, by simp [intOf]; omega⟩
end Go.Proofs.YtimfmbcihopaaaaGreatDoor
