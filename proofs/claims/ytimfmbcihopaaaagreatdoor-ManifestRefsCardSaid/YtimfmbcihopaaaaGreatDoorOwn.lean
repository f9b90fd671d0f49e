/- law17's Own: a body, for the reference. -/
import Derived.Test.YtimfmbcihopaaaaGreatDoorReadD
import Derived.Test.YtimfmbcihopaaaaGreatDoorMix
namespace Go.Proofs.YtimfmbcihopaaaaGreatDoor
open Go.RowKit Go.Cof

/-- A body's cells, the writer any number. -/
def bodyI (g ep : Nat) (wt : Int) (st : Nat) (R P : Value) : List Value := [.int .u64 g, .int .u64 ep, .int .i64 wt, .int .u64 st, R, P]
/-- What stands while Own makes the document's body. -/
structure OSt (w wr : World) (bx : Array Value) (M g ep : Nat) (wt : Int) (st : Nat) (refs : List RefD) (AR : Option Addr) (cR : Nat) (packs : List PackD) (AP : Option Addr) (cP : Nat) : Prop where
  hb : wr.heap[M]? = some (.cells bx 26 (0, 0))
  hp : wr.heap[M + 2]? = some (.cells (bodyI g ep wt st (.slice AR refs.length cR) (.slice AP packs.length cP)).toArray 31 (0, 0))
  hq : wr.heap[M + 1]? = some (.cells zeroBody.toArray 31 (0, 0))
  ownR : ∃ xs, wr.ownsRow (M + 3) 68 2 (.slice AR refs.length cR) refs.length xs ∧ Els DRefC refs xs
  ownP : ∃ xs, wr.ownsRow (M + 3) 71 3 (.slice AP packs.length cP) packs.length xs ∧ Els (DPackC wr (fun i => M + 2 < i ∧ (Value.slice AP packs.length cP).ownBlock ≠ some i)) packs xs
  dis : ∀ j, (Value.slice AR refs.length cR).ownBlock = some j → (Value.slice AP packs.length cP).ownBlock ≠ some j
  kp : Below M w wr
  hM : M = w.heap.size
  sz : M + 3 ≤ wr.heap.size
section
variable {w wr w' : World} {bx : Array Value} {M g ep st cR cP : Nat} {wt : Int} {refs : List RefD} {AR AP : Option Addr} {packs : List PackD}
theorem OSt.geR (h : OSt w wr bx M g ep wt st refs AR cR packs AP cP) : ∀ j, (Value.slice AR refs.length cR).ownBlock = some j → M + 3 ≤ j ∧ j < wr.heap.size := by
  intro j hj
  obtain ⟨xs, h1, _⟩ := h.ownR
  exact h1.lt j hj
theorem OSt.geP (h : OSt w wr bx M g ep wt st refs AR cR packs AP cP) : ∀ j, (Value.slice AP packs.length cP).ownBlock = some j → M + 3 ≤ j ∧ j < wr.heap.size := by
  intro j hj
  obtain ⟨xs, h1, _⟩ := h.ownP
  exact h1.lt j hj
theorem OSt.below (h : OSt w wr bx M g ep wt st refs AR cR packs AP cP) (hb : Below wr.heap.size wr w') : OSt w w' bx M g ep wt st refs AR cR packs AP cP := by
  obtain ⟨xr, r1, r2⟩ := h.ownR
  obtain ⟨xp, p1, p2⟩ := h.ownP
  have hs := h.sz
  have hk := Keep.of_none hb
  exact ⟨(hb.block _ (by omega)).trans h.hb, (hb.block _ (by omega)).trans h.hp, (hb.block _ (by omega)).trans h.hq, ⟨xr, own_below r1 hb, r2⟩, ⟨xp, own_below p1 hb, p2.imp (fun p c _ hc => DPackC.keep hk (fun _ _ _ f => f) p c hc)⟩,
    h.dis, h.kp.trans (hb.mono (by omega)), h.hM, Nat.le_trans hs hb.size⟩
/-- A reference more. -/
theorem OSt.addRef (h : OSt w wr bx M g ep wt st refs AR cR [] none 0) (r : RefD) (cs : List Value) (hc : DRefC r cs) (o : Obj) (A14 : Option Addr) (cap14 : Nat) (xr : List Value) (hels : Els DRefC refs xr) {w14 : World}
    (hown : w14.ownsRow (M + 3) 68 2 (.slice A14 (refs.length + 1) cap14) (refs.length + 1) (xr ++ cs)) (hgr : (wr.alloc o).grownBy w14 (Value.slice AR refs.length cR).ownBlock) :
    OSt w (w14.setCell ⟨M + 2, 4, none⟩ (.slice A14 (refs.length + 1) cap14)) bx M g ep wt st (refs ++ [r]) A14 cap14 [] none 0 := by
  have hs := h.sz
  have hK : Keep (fun i => (Value.slice AR refs.length cR).ownBlock = some i ∨ i = M + 2) wr (w14.setCell ⟨M + 2, 4, none⟩ (.slice A14 (refs.length + 1) cap14)) :=
    (((Keep.refl _ wr).alloc _).grown hgr (fun k hk _ => .inl hk)).setCell (p := ⟨M + 2, 4, none⟩) (fun _ => .inr rfl) _
  have hF : ∀ i, ((Value.slice AR refs.length cR).ownBlock = some i ∨ i = M + 2) → i = M + 2 ∨ M + 3 ≤ i := by
    rintro i (hh | hh)
    · exact .inr (h.geR i hh).1
    · exact .inl hh
  have hP14 : w14.heap[M + 2]? = some (.cells (bodyI g ep wt st (.slice AR refs.length cR) (.slice none 0 0)).toArray 31 (0, 0)) :=
    (hgr.block (M + 2) (by simp; omega) (fun e => by have := (h.geR (M + 2) e.symm).1; omega)).trans ((Below.heap_alloc wr _ (M + 2) (by omega)).trans h.hp)
  have hown12 := ownsRow_keep hown ((Keep.refl (· = M + 2) w14).setCell (p := ⟨M + 2, 4, none⟩) (fun _ => rfl) (.slice A14 (refs.length + 1) cap14)) (fun j hj e => by have := (hown.lt j hj).1; have : j = M + 2 := e; omega)
  have hlen1 : (refs ++ [r]).length = refs.length + 1 := by simp
  have hMw := h.hM
  have hkp := h.kp.size
  refine ⟨(hK.block _ (by omega) (fun hh => by have := hF _ hh; omega)).trans h.hb, ?_, (hK.block (M + 1) (by omega) (fun hh => by have := hF (M + 1) hh; omega)).trans h.hq, ?_, ⟨[], World.ownsRow_nil _ _ _ _, rfl⟩, ?_, ?_, hMw, ?_⟩
  · rw [heap_setCell_same _ _ _ _ _ _ hP14, hlen1]
    rfl
  · rw [hlen1]
    exact ⟨xr ++ cs, hown12, hels.append (Els.one hc)⟩
  · intro j _ e
    simp [Value.ownBlock] at e
  · exact h.kp.trans (hK.below (B := M) (by omega) (fun i hh => by have := hF i hh; omega))
  · have := hK.size; omega
/-- A pack more. -/
theorem OSt.addPack (h : OSt w wr bx M g ep wt st refs AR cR packs AP cP) (X : Nat) (hX5 : M + 3 ≤ X) (hob : ∀ j, (Value.slice AP packs.length cP).ownBlock = some j → j < X) (hX : X ≤ wr.heap.size)
    (pk : PackD) (cs : List Value) (hpc : DPackC wr (fun i => X ≤ i) pk cs) (o : Obj) (A14 : Option Addr) (cap14 : Nat) (xp : List Value) {w14 : World}
    (helsP : Els (DPackC wr (fun i => M + 2 < i ∧ (Value.slice AP packs.length cP).ownBlock ≠ some i)) packs xp)
    (hown : w14.ownsRow (M + 3) 71 3 (.slice A14 (packs.length + 1) cap14) (packs.length + 1) (xp ++ cs)) (hgr : (wr.alloc o).grownBy w14 (Value.slice AP packs.length cP).ownBlock)
    (hat : (Value.slice A14 (packs.length + 1) cap14).ownBlock = (Value.slice AP packs.length cP).ownBlock ∨ (Value.slice A14 (packs.length + 1) cap14).ownBlock = some (wr.alloc o).heap.size) :
    OSt w (w14.setCell ⟨M + 2, 5, none⟩ (.slice A14 (packs.length + 1) cap14)) bx M g ep wt st refs AR cR (packs ++ [pk]) A14 cap14 := by
  have hs := h.sz
  have hK : Keep (fun i => (Value.slice AP packs.length cP).ownBlock = some i ∨ i = M + 2) wr (w14.setCell ⟨M + 2, 5, none⟩ (.slice A14 (packs.length + 1) cap14)) :=
    (((Keep.refl _ wr).alloc _).grown hgr (fun k hk _ => .inl hk)).setCell (p := ⟨M + 2, 5, none⟩) (fun _ => .inr rfl) _
  have hF : ∀ i, ((Value.slice AP packs.length cP).ownBlock = some i ∨ i = M + 2) → i = M + 2 ∨ M + 3 ≤ i := by
    rintro i (hh | hh)
    · exact .inr (h.geP i hh).1
    · exact .inl hh
  have hP14 : w14.heap[M + 2]? = some (.cells (bodyI g ep wt st (.slice AR refs.length cR) (.slice AP packs.length cP)).toArray 31 (0, 0)) :=
    (hgr.block (M + 2) (by simp; omega) (fun e => by have := (h.geP (M + 2) e.symm).1; omega)).trans ((Below.heap_alloc wr _ (M + 2) (by omega)).trans h.hp)
  obtain ⟨xr, r1, r2⟩ := h.ownR
  have hown12 := ownsRow_keep hown ((Keep.refl (· = M + 2) w14).setCell (p := ⟨M + 2, 5, none⟩) (fun _ => rfl) (.slice A14 (packs.length + 1) cap14)) (fun j hj e => by have := (hown.lt j hj).1; have : j = M + 2 := e; omega)
  have hlen1 : (packs ++ [pk]).length = packs.length + 1 := by simp
  have hkp := h.kp.size
  have hMw := h.hM
  have hnew : ∀ j, j < wr.heap.size → (Value.slice AP packs.length cP).ownBlock ≠ some j → (Value.slice A14 (packs.length + 1) cap14).ownBlock ≠ some j := by
    intro j hj hne e
    rcases hat with h8 | h8
    · rw [h8] at e; exact hne e
    · rw [h8] at e; simp at e; omega
  have hmono : ∀ {S S' : Nat → Prop} {wx : World}, (∀ b, b < wx.heap.size → S b → S' b) → ∀ (p : PackD) (c : List Value), DPackC wx S p c → DPackC wx S' p c := by
    intro S S' wx hs p c hc
    obtain ⟨A, cap, xs, rfl, hr, h2⟩ := hc
    exact ⟨A, cap, xs, rfl, hr.mono hs, h2⟩
  refine ⟨(hK.block _ (by omega) (fun hh => by have := hF _ hh; omega)).trans h.hb, ?_, (hK.block (M + 1) (by omega) (fun hh => by have := hF (M + 1) hh; omega)).trans h.hq, ?_, ?_, ?_, ?_, hMw, ?_⟩
  · rw [heap_setCell_same _ _ _ _ _ _ hP14, hlen1]
    rfl
  · exact ⟨xr, ownsRow_keep r1 hK (fun j hj hh => by
      rcases hh with hh | hh
      · exact h.dis j hj hh
      · have := (r1.lt j hj).1; omega), r2⟩
  · rw [hlen1]
    refine ⟨xp ++ cs, hown12, ?_⟩
    refine (helsP.imp (fun p c _ hc => ?_)).append (Els.one ?_)
    · exact hmono (fun b _ hb => ⟨hb.1, hb.2.2⟩) p c (DPackC.keep hK (fun b hb _ hh => by
        rcases hh with hh | hh
        · exact hb.2.1 hh
        · have := hb.1; omega) p c (hmono (S' := fun i => M + 2 < i ∧ (Value.slice AP packs.length cP).ownBlock ≠ some i ∧ (Value.slice A14 (packs.length + 1) cap14).ownBlock ≠ some i) (fun b hb hh => ⟨hh.1, hh.2, hnew b hb hh.2⟩) p c hc))
    · exact hmono (fun b _ hb => ⟨hb.1, hb.2.2⟩) _ _ (DPackC.keep hK (fun b hb _ hh => by
        rcases hh with hh | hh
        · exact hb.2.1 hh
        · have := hb.1; omega) _ _ (hmono (S' := fun i => M + 2 < i ∧ (Value.slice AP packs.length cP).ownBlock ≠ some i ∧ (Value.slice A14 (packs.length + 1) cap14).ownBlock ≠ some i) (fun b hb hh => by
          have h1 : (Value.slice AP packs.length cP).ownBlock ≠ some b := fun e => by have := hob b e; omega
          exact ⟨by omega, h1, hnew b hb h1⟩) _ _ hpc))
  · rw [hlen1]
    intro j hj
    exact hnew j (h.geR j hj).2 (h.dis j hj)
  · exact h.kp.trans (hK.below (B := M) (by omega) (fun i hh => by have := hF i hh; omega))
  · have := hK.size; omega
end
def dpackI (key : List UInt8) (ct : Int) (v : Value) : List Value := [.string ⟨key.toArray⟩, .int .i64 ct, v]
/-- What stands while a pack is made for the reference, behind the world w0 in which that began. -/
structure QOt (w0 wr : World) (P : Nat) (key : List UInt8) (ct : Int) (bl : List BlobD) (Ab : Option Addr) (cb : Nat) : Prop where
  hp : wr.heap[P]? = some (.cells (dpackI key ct (.slice Ab bl.length cb)).toArray 71 (0, 0))
  own : ∃ xs, wr.ownsRow (P + 1) 75 2 (.slice Ab bl.length cb) bl.length xs ∧ Els DBlobC bl xs
  kp : Below P w0 wr
  sz : P < wr.heap.size
  hP : P = w0.heap.size
section
variable {w0 wr w' : World} {P cb : Nat} {ct : Int} {key : List UInt8} {bl : List BlobD} {Ab : Option Addr}
theorem QOt.ge (h : QOt w0 wr P key ct bl Ab cb) : ∀ j, (Value.slice Ab bl.length cb).ownBlock = some j → P + 1 ≤ j ∧ j < wr.heap.size := by
  intro j hj
  obtain ⟨xs, h1, _⟩ := h.own
  exact h1.lt j hj
theorem QOt.below (h : QOt w0 wr P key ct bl Ab cb) (hb : Below wr.heap.size wr w') : QOt w0 w' P key ct bl Ab cb := by
  obtain ⟨xr, r1, r2⟩ := h.own
  have hs := h.sz
  exact ⟨(hb.block _ (by omega)).trans h.hp, ⟨xr, own_below r1 hb, r2⟩, h.kp.trans (hb.mono (by omega)), Nat.lt_of_lt_of_le hs hb.size, h.hP⟩
theorem QOt.add (h : QOt w0 wr P key ct bl Ab cb) (x : BlobD) (cs : List Value) (hc : DBlobC x cs) (o : Obj) (A14 : Option Addr) (cap14 : Nat) (xr : List Value) (hels : Els DBlobC bl xr) {w14 : World}
    (hown : w14.ownsRow (P + 1) 75 2 (.slice A14 (bl.length + 1) cap14) (bl.length + 1) (xr ++ cs)) (hgr : (wr.alloc o).grownBy w14 (Value.slice Ab bl.length cb).ownBlock) :
    QOt w0 (w14.setCell ⟨P, 2, none⟩ (.slice A14 (bl.length + 1) cap14)) P key ct (bl ++ [x]) A14 cap14 := by
  have hs := h.sz
  have hPq := h.hP
  have hK : Keep (fun i => (Value.slice Ab bl.length cb).ownBlock = some i ∨ i = P) wr (w14.setCell ⟨P, 2, none⟩ (.slice A14 (bl.length + 1) cap14)) :=
    (((Keep.refl _ wr).alloc _).grown hgr (fun k hk _ => .inl hk)).setCell (p := ⟨P, 2, none⟩) (fun _ => .inr rfl) _
  have hF : ∀ i, ((Value.slice Ab bl.length cb).ownBlock = some i ∨ i = P) → P ≤ i := by
    rintro i (hh | hh)
    · have := (h.ge i hh).1; omega
    · omega
  have hP14 : w14.heap[P]? = some (.cells (dpackI key ct (.slice Ab bl.length cb)).toArray 71 (0, 0)) :=
    (hgr.block P (by simp; omega) (fun e => by have := (h.ge P e.symm).1; omega)).trans ((Below.heap_alloc wr _ P hs).trans h.hp)
  have hown12 := ownsRow_keep hown ((Keep.refl (· = P) w14).setCell (p := ⟨P, 2, none⟩) (fun _ => rfl) (.slice A14 (bl.length + 1) cap14)) (fun j hj e => by have := (hown.lt j hj).1; have : j = P := e; omega)
  have hlen1 : (bl ++ [x]).length = bl.length + 1 := by simp
  refine ⟨?_, ?_, h.kp.trans (hK.below (B := P) (by omega) hF), ?_, hPq⟩
  · rw [heap_setCell_same _ _ _ _ _ _ hP14, hlen1]
    rfl
  · rw [hlen1]
    exact ⟨xr ++ cs, hown12, hels.append (Els.one hc)⟩
  · have := hK.size; omega
theorem QOt.pc (h : QOt w0 wr P key ct bl Ab cb) (j : Nat) : wr.cell? ⟨P, j, none⟩ = (dpackI key ct (.slice Ab bl.length cb))[j]? := by
  rw [cell_of_row _ _ j _ _ _ h.hp, List.getElem?_toArray]
theorem QOt.pf (h : QOt w0 wr P key ct bl Ab cb) (j : Nat) : wr.frozen? ⟨P, j, none⟩ = false := frozen_of_row _ _ _ _ _ h.hp
end
/-- Is a body not too great for the reference? -/
def fewB (b : BodyA) : Bool := decide (b.refs.length ≤ 12) && (decide (b.packs.length ≤ 16) && (b.refs.all (fun r => decide (r.name.length ≤ 200)) && b.packs.all (fun p => decide (p.blobs.length ≤ 60))))
def OwnP (w w' : World) (b : BodyA) (e : Ending) : Prop :=
  if fewB b = true then ∃ v, e = .returned (.tuple #[v, .int .i64 1]) ∧ DBodyC w' (fun i => w.heap.size ≤ i ∧ i < w'.heap.size) b.toD v ∧ Below w.heap.size w w'
  else ∃ A1 n1 c1 A2 n2 c2, e = .returned (.tuple #[.agg (bodyI b.gen b.epoch b.writer b.stamp (.slice A1 n1 c1) (.slice A2 n2 c2)).toArray, .int .i64 0]) ∧ Below w.heap.size w w'

set_option maxHeartbeats 4000000 in
set_option maxRecDepth 2000000 in
theorem own_any (T : Nat → Prop) (b : BodyA) (v : Value) (w : World) (h : BodyC w T b v) :
    Calls Tryz.prog 5 #[v] w fun e w' => OwnP w w' b e := by
  obtain ⟨AR, cR, xsR, AP, cP, xsP, rfl, hrR, heR, hrP, heP, hlR, hlP, hT⟩ := h
  have HrR := hide hrR
  have HeR := hide heR
  have HrP := hide hrP
  have HeP := hide heP
  have HT := hide hT
  clear hrR heR hrP heP hT
  obtain ⟨bx, hbx⟩ : ∃ bx : Array Value, bx = #[.int .u64 b.gen, .int .u64 b.epoch, .int .i64 b.writer, .int .u64 b.stamp, .slice AR b.refs.length cR, .slice AP b.packs.length cP] := ⟨_, rfl⟩
  have Hbx := hide hbx
  have HsB := hide (show ∀ R P : Value, (Tryz.prog.info? 31).map (·.size) = some (bodyI b.gen b.epoch b.writer b.stamp R P).toArray.size from fun R P => by kernel_rfl)
  have HsL := hide (show ∀ R P : Value, (Tryz.prog.info? 31).map (·.size) = some (bodyI b.gen b.epoch b.writer b.stamp R P).length from fun R P => by kernel_rfl)
  have HoB := hide (show ∀ (A : Option Addr) (n c : Nat) (A2 : Option Addr) (n2 c2 : Nat), ∀ u ∈ bodyI b.gen b.epoch b.writer b.stamp (.slice A n c) (.slice A2 n2 c2), u.oneCell' = true from fun A n c A2 n2 c2 u hu => by simp [bodyI] at hu; rcases hu with rfl | rfl | rfl | rfl | rfl | rfl <;> rfl)
  obtain ⟨M, hM⟩ : ∃ M, M = w.heap.size := ⟨_, rfl⟩
  have HM := hide hM
  clear hM hbx
  go_enter Tryz.func5, Tryz.ntmps5
  go_upto_region 2 with (fail)
  rw [← HM.out]
  rw [show M + 1 + 1 = M + 2 from rfl]
  obtain ⟨W0, hW0⟩ : ∃ W : World, W = ((w.alloc (.cells #[.int .u64 b.gen, .int .u64 b.epoch, .int .i64 b.writer, .int .u64 b.stamp, .slice AR b.refs.length cR, .slice AP b.packs.length cP] 26)).alloc (.cells #[.int .u64 0, .int .u64 0, .int .i64 0, .int .u64 0, .slice none 0 0, .slice none 0 0] 31)).alloc (.cells #[.int .u64 b.gen, .int .u64 b.epoch, .int .i64 b.writer, .int .u64 b.stamp, .slice none 0 0, .slice none 0 0] 31) := ⟨_, rfl⟩
  have HS0 := hide (show OSt w W0 bx M b.gen b.epoch b.writer b.stamp [] none 0 [] none 0 by
    rw [hW0, HM.out, Hbx.out]
    refine ⟨?_, ?_, ?_, ⟨[], World.ownsRow_nil _ _ _ _, rfl⟩, ⟨[], World.ownsRow_nil _ _ _ _, rfl⟩, fun j hj => by simp [Value.ownBlock] at hj, (((Below.refl _ w).alloc (Nat.le_refl _) _).alloc (by simp) _).alloc (by simp; omega) _, rfl, by simp⟩
    · exact (Below.heap_alloc _ _ _ (by simp; omega)).trans ((Below.heap_alloc _ _ _ (by simp)).trans (heap_alloc_new _ _))
    · have := heap_alloc_new ((w.alloc (.cells #[.int .u64 b.gen, .int .u64 b.epoch, .int .i64 b.writer, .int .u64 b.stamp, .slice AR b.refs.length cR, .slice AP b.packs.length cP] 26)).alloc (.cells #[.int .u64 0, .int .u64 0, .int .i64 0, .int .u64 0, .slice none 0 0, .slice none 0 0] 31)) (.cells #[.int .u64 b.gen, .int .u64 b.epoch, .int .i64 b.writer, .int .u64 b.stamp, .slice none 0 0, .slice none 0 0] 31)
      rw [show ((w.alloc (.cells #[.int .u64 b.gen, .int .u64 b.epoch, .int .i64 b.writer, .int .u64 b.stamp, .slice AR b.refs.length cR, .slice AP b.packs.length cP] 26)).alloc (.cells #[.int .u64 0, .int .u64 0, .int .i64 0, .int .u64 0, .slice none 0 0, .slice none 0 0] 31)).heap.size = w.heap.size + 2 by simp] at this
      exact this
    · exact (Below.heap_alloc _ _ _ (by simp)).trans (heap_alloc2_new _ _ _))
  rw [← hW0]
  clear hW0
  have hb4 : ∀ wr, OSt w wr bx M b.gen b.epoch b.writer b.stamp [] none 0 [] none 0 → True := fun _ _ => trivial
  clear hb4
  have b4 : W0.cell? ⟨M, 4, none⟩ = some (.slice AR b.refs.length cR) := by rw [cell_of_row _ _ 4 _ _ _ HS0.out.hb, Hbx.out]; rfl
  have b5 : W0.cell? ⟨M, 5, none⟩ = some (.slice AP b.packs.length cP) := by rw [cell_of_row _ _ 5 _ _ _ HS0.out.hb, Hbx.out]; rfl
  by_cases h12 : b.refs.length ≤ 12
  case neg => as_aux_lemma =>
    have Hno := hide (show ¬ fewB b = true by simp [fewB, h12])
    go_wp2_with (first
      | (with_reducible refine wpList_load_row rfl 31 (.tmp 4) rfl (M + 2) rfl 31 (bodyI b.gen b.epoch b.writer b.stamp (.slice none ([] : List RefD).length 0) (.slice none ([] : List PackD).length 0)).toArray (0, 0) _ HS0.out.hp Tryz.underlying31 rfl (HsB.out _ _) ?_)
      | (refine wpList_store_all rfl 31 (.tmp 2) (.tmp 29) rfl (M + 1) zeroBody (bodyI b.gen b.epoch b.writer b.stamp (.slice none ([] : List RefD).length 0) (.slice none ([] : List PackD).length 0)) 31 HS0.out.hq rfl rfl rfl (HsL.out _ _) (HoB.out _ _ _ _ _ _) ?_)
      | fail)
    refine bodyPost_ret (results_cell_two rfl _ _ (M + 1) _ _ _ _ rfl (setRow_heap _ _ _ _ _ _ HS0.out.hq) Tryz.underlying31 rfl (HsB.out _ _)) rfl ?_
    unfold OwnP
    rw [if_neg Hno.out]
    exact ⟨_, _, _, _, _, _, rfl, by have hk := HS0.out.kp; rw [HM.out] at hk ⊢; exact below_setRow hk (by omega) _⟩
  case pos => as_aux_lemma =>
    by_cases h16 : b.packs.length ≤ 16
    case neg => as_aux_lemma =>
      have Hno := hide (show ¬ fewB b = true by simp [fewB, h16])
      go_wp2_with (first
        | (with_reducible refine wpList_load_row rfl 31 (.tmp 4) rfl (M + 2) rfl 31 (bodyI b.gen b.epoch b.writer b.stamp (.slice none ([] : List RefD).length 0) (.slice none ([] : List PackD).length 0)).toArray (0, 0) _ HS0.out.hp Tryz.underlying31 rfl (HsB.out _ _) ?_)
        | (refine wpList_store_all rfl 31 (.tmp 2) (.tmp 29) rfl (M + 1) zeroBody (bodyI b.gen b.epoch b.writer b.stamp (.slice none ([] : List RefD).length 0) (.slice none ([] : List PackD).length 0)) 31 HS0.out.hq rfl rfl rfl (HsL.out _ _) (HoB.out _ _ _ _ _ _) ?_)
        | fail)
      refine bodyPost_ret (results_cell_two rfl _ _ (M + 1) _ _ _ _ rfl (setRow_heap _ _ _ _ _ _ HS0.out.hq) Tryz.underlying31 rfl (HsB.out _ _)) rfl ?_
      unfold OwnP
      rw [if_neg Hno.out]
      exact ⟨_, _, _, _, _, _, rfl, by have hk := HS0.out.kp; rw [HM.out] at hk ⊢; exact below_setRow hk (by omega) _⟩
    case pos => as_aux_lemma =>
      go_wp2_with fail
      go_loopw [5] (fun nv wr => ∃ (k : Nat) (rs : List RefD) (A2 : Option Addr) (c2 : Nat), nv = .int .i64 k ∧ k ≤ b.refs.length ∧ OSt w wr bx M b.gen b.epoch b.writer b.stamp rs A2 c2 [] none 0 ∧ rs = (b.refs.take k).map RefA.toD ∧ (∀ r ∈ b.refs.take k, r.name.length ≤ 200)) (fun nv _ => b.refs.length - (intOf nv).toNat)
      case atStart => exact ⟨0, [], none, 0, rfl, Nat.zero_le _, HS0.out, rfl, by simp⟩
      case round => as_aux_lemma =>
        obtain ⟨k, rs, A2, c2, rfl, hk, hst, hrs, hno⟩ := hrel
        have Hst := hide hst
        have Hrs := hide hrs
        have Hno2 := hide hno
        have b4 : wr.cell? ⟨M, 4, none⟩ = some (.slice AR b.refs.length cR) := by rw [cell_of_row _ _ 4 _ _ _ hst.hb, Hbx.out]; rfl
        have b5 : wr.cell? ⟨M, 5, none⟩ = some (.slice AP b.packs.length cP) := by rw [cell_of_row _ _ 5 _ _ _ hst.hb, Hbx.out]; rfl
        have hrl : rs.length = k := by rw [hrs, List.length_map, List.length_take]; omega
        have Hrl := hide hrl
        have hk0 : (0 : Int) ≤ (k : Int) := Int.natCast_nonneg k
        clear hst hrs hno HS0 hrl
        by_cases hlt : k < b.refs.length
        case pos => as_aux_lemma =>
          obtain ⟨bb, off, rfl, hTb, hbl, _⟩ := HrR.out.at_ (by omega)
          obtain ⟨c, hc, _, hrg⟩ := rd_range HrR.out HeR.out rfl (fun p c => RefC.len p c) hlt
          have hkp := Hst.out.kp
          rw [HM.out] at hkp
          have hrg2 := range_keep hrg (Keep.of_none hkp) hbl (fun f => f)
          have hblw : bb < wr.heap.size := Nat.lt_of_lt_of_le hbl hkp.size
          obtain ⟨r, hr⟩ : ∃ r, r = b.refs[k] := ⟨_, rfl⟩
          rw [← hr] at hc
          obtain ⟨x, hx⟩ : ∃ x, x = r.name := ⟨_, rfl⟩
          obtain ⟨y, hy⟩ : ∃ y, y = r.id.toList := ⟨_, rfl⟩
          have hyl : y.length = 32 := by rw [hy]; simp
          have hcv : c = .string ⟨x.toArray⟩ :: bytesV y := by rw [hc.1, hx, hy]; rfl
          have n0 : wr.cell? ⟨bb, off + k * 33, none⟩ = some (.string ⟨x.toArray⟩) := by
            have := hrg2 0 (.string ⟨x.toArray⟩) (by rw [hcv]; rfl)
            simpa using this
          have Hid2 := hide (rd_part (w := wr) (b := bb) (o := off + k * 33 + 1) (l := y) (fun j v hv => by
            have := hrg2 (j + 1) v (by rw [hcv, List.getElem?_cons_succ]; exact hv)
            rw [show off + k * 33 + 1 + j = off + k * 33 + (j + 1) by omega]
            exact this) hblw)
          have hj1 : (k : Int) < b.refs.length := Int.ofNat_lt.2 hlt
          have hxs : (⟨x.toArray⟩ : ByteArray).size = x.length := rfl
          have Hx := hide hx
          have Hy := hide hy
          have Hr := hide hr
          have Hyl := hide hyl
          clear hTb hc hrg hrg2 hkp hx hy hr hyl hcv
          by_cases h200 : x.length ≤ 200
          case neg => as_aux_lemma =>
            have Hno := hide (show ¬ fewB b = true by
              intro h
              simp only [fewB, Bool.and_eq_true, List.all_eq_true, decide_eq_true_eq] at h
              exact h200 (by rw [Hx.out, Hr.out]; exact h.2.2.1 _ (List.getElem_mem hlt)))
            go_wp2_with (first
              | (with_reducible refine wpList_load_row rfl 31 (.tmp 4) rfl (M + 2) rfl 31 (bodyI b.gen b.epoch b.writer b.stamp (.slice A2 rs.length c2) (.slice none ([] : List PackD).length 0)).toArray (0, 0) _ Hst.out.hp Tryz.underlying31 rfl (HsB.out _ _) ?_)
              | (refine wpList_store_all rfl 31 (.tmp 2) (.tmp 45) rfl (M + 1) zeroBody (bodyI b.gen b.epoch b.writer b.stamp (.slice A2 rs.length c2) (.slice none ([] : List PackD).length 0)) 31 Hst.out.hq rfl rfl rfl (HsL.out _ _) (HoB.out _ _ _ _ _ _) ?_)
              | fail)
            refine bodyPost_ret (results_cell_two rfl _ _ (M + 1) _ _ _ _ rfl (setRow_heap _ _ _ _ _ _ Hst.out.hq) Tryz.underlying31 rfl (HsB.out _ _)) rfl ?_
            unfold OwnP
            rw [if_neg Hno.out]
            exact ⟨_, _, _, _, _, _, rfl, by have hk := Hst.out.kp; rw [HM.out] at hk ⊢; exact below_setRow hk (by omega) _⟩
          case pos => as_aux_lemma =>
            go_upto_region 9 with (fail)
            obtain ⟨xr, hownR, helsR⟩ := Hst.out.ownR
            have HownR := hide hownR
            have HelsR := hide helsR
            have p4 : wr.cell? ⟨M + 2, 4, none⟩ = some (.slice A2 rs.length c2) := cell_of_row _ _ 4 _ _ _ Hst.out.hp
            have hM2 : M + 2 < wr.heap.size := Hst.out.sz
            have Ls1 := hide (show rs.length + 1 ≤ maxLen by have := Hrl.out; unfold maxLen; omega)
            have Ls2 := hide (show (rs.length + 1) * 32 ≤ 140737488355328 by have := Hrl.out; omega)
            have Ls3 := hide (show M + 3 ≤ wr.heap.size from Hst.out.sz)
            have HoR := hide Hst.out.geR
            have H200 := hide h200
            clear hownR helsR hxs h200
            obtain ⟨C, hC⟩ : ∃ C : World → Prop, C = Keep (fun i => (Value.slice A2 rs.length c2).ownBlock = some i) wr := ⟨_, rfl⟩
            have HCe := hide hC
            have HnF := hide (show ∀ i, i < M + 3 → ¬ (Value.slice A2 rs.length c2).ownBlock = some i from fun i hi e => by have := (HoR.out i e).1; omega)
            have HC1 := hide (show ∀ w', InC C w' → w'.cell? ⟨M + 2, 4, none⟩ = some (.slice A2 rs.length c2) from InC.of fun w' h => keep_cell p4 (HnF.out (M + 2) (by omega)) w' (hC ▸ h))
            have HC2 := hide (show ∀ w', InC C w' → w'.cell? ⟨M, 4, none⟩ = some (.slice (some ⟨bb, off, none⟩) b.refs.length cR) from InC.of fun w' h => keep_cell b4 (HnF.out M (by omega)) w' (hC ▸ h))
            have HC3 := hide (show ∀ w', InC C w' → w'.cell? ⟨bb, off + k * 33, none⟩ = some (.string ⟨x.toArray⟩) from InC.of fun w' h => keep_cell n0 (HnF.out bb (by have := HM.out; omega)) w' (hC ▸ h))
            have HC4 := hide (show ∀ w', InC C w' → (convert 27 9 (.slice (some ⟨bb, off + k * 33 + 1, none⟩) 32 32)).run Tryz.prog w' = .ok (.string ⟨y.toArray⟩) w' from InC.of fun w' h => by
              have := run_convert_rd (P := Tryz.prog) w' 27 9 5 Tryz.underlying27 Tryz.underlying5 Tryz.underlying9 (· = bb) (some ⟨bb, off + k * 33 + 1, none⟩) y 32 (Hid2.out.keep (hC ▸ h) (fun i hi _ => HnF.out i (by have := HM.out; omega)))
              rw [Hyl.out] at this
              exact this)
            have HC0 := hide (show C wr.drew by rw [hC]; exact (Keep.refl _ _).drew)
            haveI : Nonempty (Wl C) := ⟨⟨_, HC0.out⟩⟩
            clear hC p4 b4 n0 b5
            refine wp_region_mix C (by kernel_rfl) (by kernel_rfl) ?_
            refine Mixed.batch [0, 1, 2, 3, 4, 5, 6, 7, 8, 9, 10, 11, 12, 13, 14, 15] 4 (by kernel_rfl) (by kernel_rfl) (by kernel_rfl) (by kernel_rfl) HC0.out _ (by simp only [List.map_cons, List.map_nil, List.getElem?_toArray, List.getElem?_cons_zero, List.getElem?_cons_succ, Option.getD_some]; rfl) (fun R hR => ?_)
            repeat (first | go_big_quiet_skip | (go_big_quiet_want; first
              | (refine quiet_load 28 (.tmp 46) rfl ⟨M + 2, 4, none⟩ rfl _ HC1.out _ Tryz.underlying28 rfl ?_; go_simp; go_big_quiet_on)
              | (refine quiet_load 23 (.tmp 48) rfl ⟨M, 4, none⟩ rfl _ HC2.out _ Tryz.underlying23 rfl ?_; go_simp; go_big_quiet_on)
              | (refine quiet_load 23 (.tmp 54) rfl ⟨M, 4, none⟩ rfl _ HC2.out _ Tryz.underlying23 rfl ?_; go_simp; go_big_quiet_on)
              | (refine quiet_load 9 (.tmp 52) rfl ⟨bb, off + k * 33, none⟩ rfl _ HC3.out _ Tryz.underlying9 rfl ?_; go_simp; go_big_quiet_on)
              | (refine quiet_convert 27 9 (.tmp 59) rfl _ rfl _ HC4.out ?_; go_simp; go_big_quiet_on)
              | (go_big_quiet_op; go_big_quiet_on)))
            refine wpQuiet_nil (hR.out _ ?_)
            clear hR R
            refine Mixed.one 16 3 (by kernel_rfl) (by kernel_rfl) (by simp only [List.getElem?_toArray, List.getElem?_cons_zero, List.getElem?_cons_succ]; rfl) (fun K hK => ?_)
            go_simp
            refine hK.out _ _ (fun _ => ?_) ?_
            · rw [HCe.out]; exact ((Keep.refl _ _).alloc _).drew
            clear hK K
            refine Mixed.one 17 2 (by kernel_rfl) (by kernel_rfl) (by simp only [List.getElem?_toArray, List.getElem?_cons_zero, List.getElem?_cons_succ]; rfl) (fun K hK => ?_)
            refine step_append_rd _ rfl (.tmp 47) (.tmp 62) 28 28 rfl (M + 3) 68 68 _ 2 32 Tryz.underlying28 Tryz.underlying28 Tryz.info68 rfl (by decide) (.slice A2 rs.length c2) rs.length xr rfl (own_below HownR.out (((Below.refl _ _).alloc (Nat.le_refl _) _).drew)) _ _ 1 1 [.string ⟨x.toArray⟩, .string ⟨y.toArray⟩] rfl ((Rd.new_at wr _ _ _ rfl rfl).drew) (by simp [Value.oneCell']) Ls1.out Ls2.out (Nat.le_trans Ls3.out (by show wr.heap.size ≤ (World.alloc wr _).heap.size; simp)) ?_
            intro A11 cap11 w11 hown11 hgrow11 hat11
            have hP11 := (hgrow11.block (M + 2) (by have := Ls3.out; show M + 2 < (World.alloc wr _).heap.size; simp; omega) (fun e => by have := (HoR.out (M + 2) e.symm).1; omega)).trans ((Below.heap_alloc wr _ (M + 2) (by have := Ls3.out; omega)).trans Hst.out.hp)
            have p4b : w11.cell? ⟨M + 2, 4, none⟩ = some (.slice A2 rs.length c2) := cell_of_row _ _ 4 _ _ _ hP11
            have f4b : w11.frozen? ⟨M + 2, 4, none⟩ = false := frozen_of_row _ _ _ _ _ hP11
            have Hown11 := hide hown11
            have Hgr := hide (show (wr.alloc (.cells #[.string ⟨x.toArray⟩, .string ⟨y.toArray⟩] 68)).grownBy w11 (Value.slice A2 rs.length c2).ownBlock from ⟨hgrow11.os, hgrow11.tape, hgrow11.output, hgrow11.size, hgrow11.block⟩)
            refine hK.out _ _ (fun _ => ?_) ?_
            · rw [HCe.out]; exact ((Keep.refl _ _).alloc _).grown Hgr.out (fun k hk _ => hk.symm ▸ rfl)
            clear hP11 hown11 hgrow11 hat11 hK K
            have HC5 := hide (show C w11 by rw [HCe.out]; exact ((Keep.refl _ _).alloc _).grown Hgr.out (fun k hk _ => hk.symm ▸ rfl))
            simp only [Act.put, List.setIfInBounds_toArray, List.set_cons_zero, List.set_cons_succ]
            refine Mixed.batch [18] 1 (by kernel_rfl) (by kernel_rfl) (by kernel_rfl) (by kernel_rfl) HC5.out _ (by simp only [List.map_cons, List.map_nil, List.getElem?_toArray, List.getElem?_cons_zero, List.getElem?_cons_succ, Option.getD_some]; rfl) (fun R hR => ?_)
            repeat (first | go_big_quiet_skip | (go_big_quiet_want; go_big_quiet_op; go_big_quiet_on))
            refine wpQuiet_nil (hR.out _ ?_)
            clear hR R
            refine Mixed.one 19 0 (by kernel_rfl) (by kernel_rfl) (by simp only [List.getElem?_toArray, List.getElem?_cons_zero, List.getElem?_cons_succ]; rfl) (fun K hK => ?_)
            go_simp
            refine hK.out _ _ (fun h => absurd rfl h) ?_
            clear hK K
            refine Mixed.done (by kernel_rfl) ?_
            go_wp2_with fail
            obtain ⟨W9, hW9⟩ : ∃ W : World, W = w11.setCell ⟨M + 2, 4, none⟩ (.slice A11 (rs.length + 1) cap11) := ⟨_, rfl⟩
            have hm := Hst.out.addRef ⟨x, y⟩ [.string ⟨x.toArray⟩, .string ⟨y.toArray⟩] rfl _ A11 cap11 xr HelsR.out Hown11.out Hgr.out
            have hrs2 : rs ++ [⟨x, y⟩] = (b.refs.take (k + 1)).map RefA.toD := by rw [List.take_succ_eq_append_getElem hlt, List.map_append, ← Hrs.out, ← Hr.out, Hx.out, Hy.out]; rfl
            have hno2 : ∀ r ∈ b.refs.take (k + 1), r.name.length ≤ 200 := by
              intro q hq
              rw [List.take_succ_eq_append_getElem hlt, List.mem_append] at hq
              rcases hq with hq | hq
              · exact Hno2.out q hq
              · rw [List.mem_singleton.1 hq, ← Hr.out, ← Hx.out]; exact H200.out
            refine ⟨⟨k + 1, rs ++ [⟨x, y⟩], A11, cap11, by go_num, by omega, ?_, hrs2, hno2⟩, by simp [intOf]; omega⟩
            exact hm
        case neg => as_aux_lemma =>
          have hk9 : k = b.refs.length := by omega
          have Hrs2 := hide (show rs = b.refs.map RefA.toD by rw [Hrs.out, List.take_of_length_le (by omega)])
          have HnR := hide (show ∀ r ∈ b.refs, r.name.length ≤ 200 from fun r hr => Hno2.out r (by rw [List.take_of_length_le (by omega)]; exact hr))
          have hd9 : decide ((k : Int) < (b.refs.length : Int)) = false := by rw [hk9]; simp
          clear hk9
          go_wp2_with fail
          obtain ⟨wR, hwR⟩ : ∃ wR : World, wR = wr := ⟨_, rfl⟩
          subst hwR
          clear b4 b5
          go_loopw [6] (fun nv wr => ∃ (k2 : Nat) (ps : List PackD) (A3 : Option Addr) (c3 : Nat), nv = .int .i64 k2 ∧ k2 ≤ b.packs.length ∧ OSt w wr bx M b.gen b.epoch b.writer b.stamp rs A2 c2 ps A3 c3 ∧ ps = (b.packs.take k2).map PackA.toD ∧ (∀ p ∈ b.packs.take k2, p.blobs.length ≤ 60)) (fun nv _ => b.packs.length - (intOf nv).toNat)
          case atStart => exact ⟨0, [], none, 0, rfl, Nat.zero_le _, Hst.out, rfl, by simp⟩
          case round => as_aux_lemma =>
            obtain ⟨k2, ps, A3, c3, rfl, hk2, hst2, hps, hnp⟩ := hrel
            have Hst2 := hide hst2
            have Hps := hide hps
            have Hnp := hide hnp
            have b5 : wr.cell? ⟨M, 5, none⟩ = some (.slice AP b.packs.length cP) := by rw [cell_of_row _ _ 5 _ _ _ hst2.hb, Hbx.out]; rfl
            have hpl : ps.length = k2 := by rw [hps, List.length_map, List.length_take]; omega
            have Hpl := hide hpl
            have hk02 : (0 : Int) ≤ (k2 : Int) := Int.natCast_nonneg k2
            clear hst2 hps hnp hpl Hst
            by_cases hlt2 : k2 < b.packs.length
            case neg => as_aux_lemma =>
              have hk8 : k2 = b.packs.length := by omega
              have hbd : b.toD = ⟨b.gen, b.epoch, b.writer, b.stamp, rs, ps⟩ := by rw [Hrs2.out, Hps.out, List.take_of_length_le (by omega)]; rfl
              have Hbd := hide hbd
              have Hyes := hide (show fewB b = true by
                have h1 := HnR.out
                have h2 := Hnp.out
                rw [List.take_of_length_le (by omega)] at h2
                simp only [fewB, Bool.and_eq_true, List.all_eq_true, decide_eq_true_eq]
                exact ⟨h12, h16, h1, h2⟩)
              have hd8 : decide ((k2 : Int) < (b.packs.length : Int)) = false := by rw [hk8]; simp
              have Hk8 := hide hk8
              clear hbd hk8
              go_wp2_with (first
                | (with_reducible refine wpList_load_row rfl 31 (.tmp 4) rfl (M + 2) rfl 31 (bodyI b.gen b.epoch b.writer b.stamp (.slice A2 rs.length c2) (.slice A3 ps.length c3)).toArray (0, 0) _ Hst2.out.hp Tryz.underlying31 rfl (HsB.out _ _) ?_)
                | (refine wpList_store_all rfl 31 (.tmp 2) (.tmp 133) rfl (M + 1) zeroBody (bodyI b.gen b.epoch b.writer b.stamp (.slice A2 rs.length c2) (.slice A3 ps.length c3)) 31 Hst2.out.hq rfl rfl rfl (HsL.out _ _) (HoB.out _ _ _ _ _ _) ?_)
                | fail)
              refine bodyPost_ret (results_cell_two rfl _ _ (M + 1) _ _ _ _ rfl (setRow_heap _ _ _ _ _ _ Hst2.out.hq) Tryz.underlying31 rfl (HsB.out _ _)) rfl ?_
              unfold OwnP
              rw [if_pos Hyes.out]
              have hkp := Hst2.out.kp
              have hk9 : Keep (fun i => i = M + 1) wr (wr.setRow (M + 1) (bodyI b.gen b.epoch b.writer b.stamp (.slice A2 rs.length c2) (.slice A3 ps.length c3)).toArray) := keep_setRow (F := fun i => i = M + 1) (g := M + 1) (Keep.refl _ _) (fun _ => rfl) _
              obtain ⟨xr, r1, r2⟩ := Hst2.out.ownR
              obtain ⟨xp, p1, p2⟩ := Hst2.out.ownP
              refine ⟨_, rfl, ?_, by rw [HM.out] at hkp ⊢; exact below_setRow hkp (by omega) _⟩
              rw [Hbd.out]
              have hT : ∀ i, i < (wr.setRow (M + 1) (bodyI b.gen b.epoch b.writer b.stamp (.slice A2 rs.length c2) (.slice A3 ps.length c3)).toArray).heap.size → M + 2 < i → w.heap.size ≤ i ∧ i < (wr.setRow (M + 1) (bodyI b.gen b.epoch b.writer b.stamp (.slice A2 rs.length c2) (.slice A3 ps.length c3)).toArray).heap.size := fun i hi hh => ⟨by have := HM.out; omega, hi⟩
              have hnot : ∀ i, M + 2 < i → i < wr.heap.size → ¬ i = M + 1 := fun i hi _ e => by omega
              have hrl : rs.length ≤ 12 := by rw [Hrs2.out, List.length_map]; exact h12
              have hpl : ps.length ≤ 16 := by rw [Hpl.out, Hk8.out]; exact h16
              exact ⟨A2, c2, xr, A3, c3, xp, rfl, ((Rd.of_own (S := fun i => M + 2 < i) r1 (fun j e hj => by omega)).keep hk9 hnot).mono hT, r2, ((Rd.of_own (S := fun i => M + 2 < i) p1 (fun j e hj => by omega)).keep hk9 hnot).mono hT, p2.imp (fun p c _ hc => by
                obtain ⟨A, cap, xs, rfl, hr, h2⟩ := DPackC.keep hk9 (fun i hi hl => hnot i hi.1 hl) p c hc
                exact ⟨A, cap, xs, rfl, hr.mono (fun i hi hh => hT i hi hh.1), h2⟩), by show rs.length ≤ 1000; omega, by show ps.length ≤ 1000; omega, fun i hi => hi.2, fun r hr => by
                have hr2 : r ∈ b.refs.map RefA.toD := Hrs2.out ▸ hr
                obtain ⟨q, hq, rfl⟩ := List.mem_map.1 hr2
                exact Nat.le_trans (HnR.out q hq) (by omega)⟩
            case pos => as_aux_lemma =>
              obtain ⟨bb, off, rfl, hTb, hbl, _⟩ := HrP.out.at_ (by omega)
              obtain ⟨c, hc, _, hrg⟩ := rd_range HrP.out HeP.out rfl (fun p c => PackC.len p c) hlt2
              have hkp := Hst2.out.kp
              rw [HM.out] at hkp
              have hrg2 := range_keep hrg (Keep.of_none hkp) hbl (fun f => f)
              have hblw : bb < wr.heap.size := Nat.lt_of_lt_of_le hbl hkp.size
              obtain ⟨Ab, capb, xsb, hcv, hrb, heb, hlb, hcnt⟩ := hc
              obtain ⟨p, hp⟩ : ∃ p, p = b.packs[k2] := ⟨_, rfl⟩
              rw [← hp] at hcv hrb heb hlb hcnt
              obtain ⟨y, hy⟩ : ∃ y, y = p.key.toList := ⟨_, rfl⟩
              obtain ⟨ct, hct⟩ : ∃ ct, ct = p.count := ⟨_, rfl⟩
              have hyl : y.length = 32 := by rw [hy]; simp
              have hcv2 : c = bytesV y ++ [.int .i64 ct, .slice Ab p.blobs.length capb] := by rw [hcv, hy, hct]; rfl
              have n32 : wr.cell? ⟨bb, off + k2 * 34 + 32, none⟩ = some (.int .i64 ct) := hrg2 32 _ (by rw [hcv2, List.getElem?_append_right (by simp [hyl]), bytesV_length, hyl]; rfl)
              have n33 : wr.cell? ⟨bb, off + k2 * 34 + 33, none⟩ = some (.slice Ab p.blobs.length capb) := hrg2 33 _ (by rw [hcv2, List.getElem?_append_right (by simp [hyl]), bytesV_length, hyl]; rfl)
              have Hkey := hide (rd_part (w := wr) (b := bb) (o := off + k2 * 34) (l := y) (fun j v hv => hrg2 j v (by
                have hj := (List.getElem?_eq_some_iff.1 hv).1
                rw [hcv2, List.getElem?_append_left hj]; exact hv)) hblw)
              have hj2 : (k2 : Int) < b.packs.length := Int.ofNat_lt.2 hlt2
              have Hp := hide hp
              have Hy := hide hy
              have Hct := hide hct
              have Hyl := hide hyl
              have Hrb := hide hrb
              have Heb := hide heb
              have Hcnt := hide hcnt
              have Hkp := hide hkp
              obtain ⟨nb, hnb⟩ : ∃ nb, nb = p.blobs.length := ⟨_, rfl⟩
              rw [← hnb] at n33 hlb
              have Hnb := hide hnb
              clear hTb hrg hrg2 hkp hp hy hct hyl hcv hcv2 hrb heb hcnt hnb
              go_upto_region 13 with (fail)
              obtain ⟨C, hC⟩ : ∃ C : World → Prop, C = Keep (fun _ => False) wr := ⟨_, rfl⟩
              have HCe := hide hC
              have HC1 := hide (show ∀ w', InC C w' → w'.cell? ⟨M, 5, none⟩ = some (.slice (some ⟨bb, off, none⟩) b.packs.length cP) from InC.of fun w' h => keep_cell b5 (fun f => f) w' (hC ▸ h))
              have HC2 := hide (show ∀ w', InC C w' → w'.cell? ⟨bb, off + k2 * 34 + 32, none⟩ = some (.int .i64 ct) from InC.of fun w' h => keep_cell n32 (fun f => f) w' (hC ▸ h))
              have HC3 := hide (show ∀ w', InC C w' → (convert 27 9 (.slice (some ⟨bb, off + k2 * 34, none⟩) 32 32)).run Tryz.prog w' = .ok (.string ⟨y.toArray⟩) w' from InC.of fun w' h => by
                have := run_convert_rd (P := Tryz.prog) w' 27 9 5 Tryz.underlying27 Tryz.underlying5 Tryz.underlying9 (· = bb) (some ⟨bb, off + k2 * 34, none⟩) y 32 (Hkey.out.keep (hC ▸ h) (fun i hi _ f => f))
                rw [Hyl.out] at this
                exact this)
              have HC0 := hide (show C wr.drew by rw [hC]; exact (Keep.refl _ _).drew)
              haveI : Nonempty (Wl C) := ⟨⟨_, HC0.out⟩⟩
              clear hC
              refine wp_region_mix C (by kernel_rfl) (by kernel_rfl) ?_
              refine Mixed.batch [0, 1, 2, 3, 4, 5, 6, 7, 8, 9, 10, 11, 12, 13] 2 (by kernel_rfl) (by kernel_rfl) (by kernel_rfl) (by kernel_rfl) HC0.out _ (by simp only [List.map_cons, List.map_nil, List.getElem?_toArray, List.getElem?_cons_zero, List.getElem?_cons_succ, Option.getD_some]; rfl) (fun R hR => ?_)
              repeat (first | go_big_quiet_skip | (go_big_quiet_want; first
                | (refine quiet_load 24 (.tmp 72) rfl ⟨M, 5, none⟩ rfl _ HC1.out _ Tryz.underlying24 rfl ?_; go_simp; go_big_quiet_on)
                | (refine quiet_load 24 (.tmp 79) rfl ⟨M, 5, none⟩ rfl _ HC1.out _ Tryz.underlying24 rfl ?_; go_simp; go_big_quiet_on)
                | (refine quiet_load 3 (.tmp 83) rfl ⟨bb, off + k2 * 34 + 32, none⟩ rfl _ HC2.out _ Tryz.underlying3 rfl ?_; go_simp; go_big_quiet_on)
                | (refine quiet_convert 27 9 (.tmp 77) rfl _ rfl _ HC3.out ?_; go_simp; go_big_quiet_on)
                | (go_big_quiet_op; go_big_quiet_on)))
              refine wpQuiet_nil (hR.out _ ?_)
              clear hR R
              refine Mixed.one 14 1 (by kernel_rfl) (by kernel_rfl) (by simp only [List.getElem?_toArray, List.getElem?_cons_zero, List.getElem?_cons_succ]; rfl) (fun K hK => ?_)
              go_simp
              refine hK.out _ _ (fun _ => ?_) ?_
              · rw [HCe.out]; exact ((Keep.refl _ _).alloc _).drew
              clear hK K
              refine Mixed.one 15 0 (by kernel_rfl) (by kernel_rfl) (by simp only [List.getElem?_toArray, List.getElem?_cons_zero, List.getElem?_cons_succ]; rfl) (fun K hK => ?_)
              go_simp
              refine hK.out _ _ (fun h => absurd rfl h) ?_
              clear hK K
              refine Mixed.done (by kernel_rfl) ?_
              obtain ⟨P, hP⟩ : ∃ P, P = wr.heap.size := ⟨_, rfl⟩
              obtain ⟨W1, hW1⟩ : ∃ W : World, W = (wr.alloc (.cells #[.string ⟨y.toArray⟩, .int .i64 ct, .slice none 0 0] 71)).drew := ⟨_, rfl⟩
              have hq0 : QOt wr W1 P y ct [] none 0 := by
                rw [hW1, hP]
                exact ⟨heap_alloc_new wr _, ⟨[], World.ownsRow_nil _ _ _ _, rfl⟩, ((Below.refl _ wr).alloc (Nat.le_refl _) _).drew, by show wr.heap.size < (World.alloc wr _).heap.size; simp, rfl⟩
              have Hq0 := hide hq0
              rw [← hW1, ← hP]
              have HP := hide hP
              clear hq0 hW1 hP
              have hb1 : Below wr.heap.size wr W1 := by have := Hq0.out.kp; rw [HP.out] at this; exact this
              have HS1 := hide (Hst2.out.below hb1)
              have b5w : W1.cell? ⟨M, 5, none⟩ = some (.slice (some ⟨bb, off, none⟩) b.packs.length cP) := keep_cell b5 (fun f => f) W1 (Keep.of_none hb1)
              have n33w : W1.cell? ⟨bb, off + k2 * 34 + 33, none⟩ = some (.slice Ab nb capb) := keep_cell n33 (fun f => f) W1 (Keep.of_none hb1)
              clear hb1
              by_cases h60 : nb ≤ 60
              case neg => as_aux_lemma =>
                have Hno := hide (show ¬ fewB b = true by
                  intro h
                  simp only [fewB, Bool.and_eq_true, List.all_eq_true, decide_eq_true_eq] at h
                  exact h60 (by rw [Hnb.out, Hp.out]; exact h.2.2.2 _ (List.getElem_mem hlt2)))
                go_wp2_with (first
                  | (with_reducible refine wpList_load_row rfl 31 (.tmp 4) rfl (M + 2) rfl 31 (bodyI b.gen b.epoch b.writer b.stamp (.slice A2 rs.length c2) (.slice A3 ps.length c3)).toArray (0, 0) _ HS1.out.hp Tryz.underlying31 rfl (HsB.out _ _) ?_)
                  | (refine wpList_store_all rfl 31 (.tmp 2) (.tmp 94) rfl (M + 1) zeroBody (bodyI b.gen b.epoch b.writer b.stamp (.slice A2 rs.length c2) (.slice A3 ps.length c3)) 31 HS1.out.hq rfl rfl rfl (HsL.out _ _) (HoB.out _ _ _ _ _ _) ?_)
                  | fail)
                refine bodyPost_ret (results_cell_two rfl _ _ (M + 1) _ _ _ _ rfl (setRow_heap _ _ _ _ _ _ HS1.out.hq) Tryz.underlying31 rfl (HsB.out _ _)) rfl ?_
                unfold OwnP
                rw [if_neg Hno.out]
                exact ⟨_, _, _, _, _, _, rfl, by have hk := HS1.out.kp; rw [HM.out] at hk ⊢; exact below_setRow hk (by omega) _⟩
              case pos => as_aux_lemma =>
                have H60 := hide h60
                have hd60 : decide ((60 : Int) < (nb : Int)) = false := by simp; omega
                go_wp2_with fail
                obtain ⟨w0, hw0⟩ : ∃ w0 : World, w0 = wr := ⟨_, rfl⟩
                subst hw0
                clear b5 b5w n33w h60 hd60 n32
                go_loopw [8] (fun nv wr => ∃ (k3 : Nat) (bl : List BlobD) (A4 : Option Addr) (c4 : Nat), nv = .int .i64 k3 ∧ k3 ≤ nb ∧ QOt w0 wr P y ct bl A4 c4 ∧ bl = (p.blobs.take k3).map BlobA.toD) (fun nv _ => nb - (intOf nv).toNat)
                case atStart => exact ⟨0, [], none, 0, rfl, Nat.zero_le _, Hq0.out, rfl⟩
                case round => as_aux_lemma =>
                  obtain ⟨k3, bl, A4, c4, rfl, hk3, hq, hbl3⟩ := hrel
                  have Hq := hide hq
                  have Hbl := hide hbl3
                  have hbw : Below w0.heap.size w0 wr := by have := hq.kp; rw [HP.out] at this; exact this
                  have HS3 := hide (Hst2.out.below hbw)
                  have b5 : wr.cell? ⟨M, 5, none⟩ = some (.slice (some ⟨bb, off, none⟩) b.packs.length cP) := by rw [cell_of_row _ _ 5 _ _ _ HS3.out.hb, Hbx.out]; rfl
                  have n33b : wr.cell? ⟨bb, off + k2 * 34 + 33, none⟩ = some (.slice Ab nb capb) := keep_cell n33 (fun f => f) wr (Keep.of_none hbw)
                  have hbll : bl.length = k3 := by rw [hbl3, List.length_map, List.length_take]; have := Hnb.out; omega
                  have Hbll := hide hbll
                  have Hbw := hide hbw
                  have hk03 : (0 : Int) ≤ (k3 : Int) := Int.natCast_nonneg k3
                  clear hq hbl3 hbll hbw Hq0 HS1
                  by_cases hlt3 : k3 < nb
                  case neg => as_aux_lemma =>
                    have hk9 : k3 = nb := by omega
                    have hblp : bl = p.blobs.map BlobA.toD := by rw [Hbl.out, List.take_of_length_le (by have := Hnb.out; omega)]
                    have hd9 : decide ((k3 : Int) < (nb : Int)) = false := by rw [hk9]; simp
                    obtain ⟨xp, hownP, helsP⟩ := HS3.out.ownP
                    have HownP := hide hownP
                    have HelsP := hide helsP
                    have p5 : wr.cell? ⟨M + 2, 5, none⟩ = some (.slice A3 ps.length c3) := cell_of_row _ _ 5 _ _ _ HS3.out.hp
                    have Hpr := hide Hq.out.hp
                    have HszP := hide (show (Tryz.prog.info? 71).map (·.size) = some (dpackI y ct (.slice A4 bl.length c4)).toArray.size by kernel_rfl)
                    obtain ⟨cs, hcs⟩ : ∃ cs, cs = dpackI y ct (.slice A4 bl.length c4) := ⟨_, rfl⟩
                    have hcl : cs.length = 3 := by rw [hcs]; rfl
                    have hco : ∀ u ∈ cs, u.oneCell' = true := fun u hu => by rw [hcs] at hu; simp [dpackI] at hu; rcases hu with rfl | rfl | rfl <;> rfl
                    have hpd : p.toD = ⟨y, ct, bl⟩ := by rw [hblp, Hy.out, Hct.out]; rfl
                    have hpc : DPackC wr (fun i => P ≤ i) ⟨y, ct, bl⟩ cs := by
                      obtain ⟨xb, ob1, ob2⟩ := Hq.out.own
                      rw [hcs]
                      exact ⟨A4, c4, xb, rfl, Rd.of_own ob1 (fun g _ hg => by show P ≤ g; omega), ob2, by show bl.length ≤ 1000; have := Hbll.out; have := H60.out; omega, by have := Hcnt.out; rw [← Hct.out] at this; exact this⟩
                    have hbu := build_eq cs 3 hcl
                    rw [← hcs] at Hpr HszP
                    have Hcl := hide hcl
                    have Hco := hide hco
                    have Hpc := hide hpc
                    have Hpd := hide hpd
                    have Ls1 := hide (show ps.length + 1 ≤ maxLen by have := Hpl.out; unfold maxLen; omega)
                    have Ls2 := hide (show (ps.length + 1) * 48 ≤ 140737488355328 by have := Hpl.out; omega)
                    have Ls3 := hide (show M + 3 ≤ wr.heap.size from HS3.out.sz)
                    have H60b := hide (show p.blobs.length ≤ 60 by rw [← Hnb.out]; exact H60.out)
                    clear hownP helsP hcs hco hpc hpd hblp hk9
                    go_wp2_with (first
                      | (with_reducible refine wpList_load_row rfl 71 (.tmp 7) rfl P rfl 71 cs.toArray (0, 0) _ Hpr.out Tryz.underlying71 rfl HszP.out ?_)
                      | (at_builtin; refine wpList_append_rd _ rfl (.tmp 128) (.tmp 130) 29 29 rfl (M + 3) 71 71 _ 3 48 Tryz.underlying29 Tryz.underlying29 Tryz.info71 rfl (by decide) (.slice A3 ps.length c3) ps.length xp rfl (own_below HownP.out ((Below.refl _ _).alloc (Nat.le_refl _) _)) _ _ 1 1 cs rfl (Rd.new_at _ _ _ _ rfl (by rw [Hcl.out])) Hco.out Ls1.out Ls2.out (Nat.le_trans Ls3.out (by simp)) ?_; intro A14 cap14 w14 hown14 hgrow14 hat14; have hP14 := (hgrow14.block (M + 2) (by have := Ls3.out; simp; omega) (fun e => by have := (HS3.out.geP (M + 2) e.symm).1; omega)).trans ((Below.heap_alloc wr _ (M + 2) (by have := Ls3.out; omega)).trans HS3.out.hp); have p5b : w14.cell? ⟨M + 2, 5, none⟩ = some (.slice A3 ps.length c3) := cell_of_row _ _ 5 _ _ _ hP14; have f5b : w14.frozen? ⟨M + 2, 5, none⟩ = false := frozen_of_row _ _ _ _ _ hP14; have Hown14 := hide hown14; have Hgr := hide hgrow14; have Hat := hide hat14; clear hP14 hown14 hgrow14 hat14)
                      | fail)
                    have hm := HS3.out.addPack P (by have := Hst2.out.sz; have := HP.out; omega) (fun j hj => by have := (Hst2.out.geP j hj).2; have := HP.out; omega) (by have := Hq.out.sz; omega) ⟨y, ct, bl⟩ cs Hpc.out _ A14 cap14 xp HelsP.out Hown14.out Hgr.out Hat.out
                    have hps9 : ps ++ [⟨y, ct, bl⟩] = (b.packs.take (k2 + 1)).map PackA.toD := by rw [List.take_succ_eq_append_getElem hlt2, List.map_append, ← Hps.out, ← Hp.out, ← Hpd.out]; rfl
                    have hnp9 : ∀ q ∈ b.packs.take (k2 + 1), q.blobs.length ≤ 60 := by
                      intro q hq
                      rw [List.take_succ_eq_append_getElem hlt2, List.mem_append] at hq
                      rcases hq with hq | hq
                      · exact Hnp.out q hq
                      · rw [List.mem_singleton.1 hq, ← Hp.out]; exact H60b.out
                    exact ⟨⟨k2 + 1, ps ++ [⟨y, ct, bl⟩], A14, cap14, by go_num, by omega, hm, hps9, hnp9⟩, by simp [intOf]; omega⟩
                  case pos => as_aux_lemma =>
                    obtain ⟨b2, off2, rfl, hTb2, hbl2, _⟩ := Hrb.out.at_ (by have := Hnb.out; omega)
                    obtain ⟨d, hd, hdl, hrgd⟩ := rd_range Hrb.out Heb.out rfl (fun p c => BlobC.len p c) (show k3 < p.blobs.length by have := Hnb.out; omega)
                    have hkw := (Keep.of_none Hkp.out).trans (Keep.of_none Hbw.out)
                    have hrg3 := hide (range_keep hrgd hkw hbl2 (fun f => f))
                    obtain ⟨x1, hx1⟩ : ∃ x1, x1 = (p.blobs[k3]'(show k3 < p.blobs.length by have := Hnb.out; omega)).name.toList := ⟨_, rfl⟩
                    obtain ⟨x2, hx2⟩ : ∃ x2, x2 = (p.blobs[k3]'(show k3 < p.blobs.length by have := Hnb.out; omega)).sum.toList := ⟨_, rfl⟩
                    have hxl1 : x1.length = 16 := by rw [hx1]; simp
                    have hxl2 : x2.length = 32 := by rw [hx2]; simp
                    have hdv : d = bytesV x1 ++ bytesV x2 := by rw [hd, hx1, hx2]; rfl
                    have hszd := hide (show (Tryz.prog.info? 73).map (·.size) = some d.length by rw [hdl]; kernel_rfl)
                    have hst2 := store_new wr 73 48 d (by kernel_rfl) hdl (fun v hv => BlobC.one _ d hd v hv)
                    have hj3 : (k3 : Int) < nb := Int.ofNat_lt.2 hlt3
                    have Hxl1 := hide hxl1
                    have Hxl2 := hide hxl2
                    have Hdv := hide hdv
                    have Hx1 := hide hx1
                    have Hx2 := hide hx2
                    clear hTb2 hrgd hd hkw hx1 hx2 hxl1 hxl2 hdv
                    go_upto_region 20 with (first
                      | (refine wpList_load_mid rfl 73 (.tmp 113) rfl b2 (off2 + k3 * 48) rfl d _ hrg3.out Tryz.underlying73 rfl hszd.out ?_)
                      | fail)
                    obtain ⟨X, hX⟩ : ∃ X, X = wr.heap.size := ⟨_, rfl⟩
                    obtain ⟨WX, hWX⟩ : ∃ W : World, W = wr.alloc (.cells d.toArray 73) := ⟨_, rfl⟩
                    have hrow : WX.heap[X]? = some (.cells d.toArray 73 (0, 0)) := by rw [hWX, hX]; exact heap_alloc_new wr _
                    have hbx1 : Below wr.heap.size wr WX := by rw [hWX]; exact (Below.refl _ _).alloc (Nat.le_refl _) _
                    have HQX := hide (Hq.out.below hbx1)
                    have hXsz : X < WX.heap.size := by rw [hWX, hX]; simp
                    have HR1 := hide (rd_part (w := WX) (b := X) (o := 0) (l := x1) (fun j v hv => by
                      have hj := (List.getElem?_eq_some_iff.1 hv).1
                      rw [cell_of_row _ _ _ _ _ _ hrow, Hdv.out, Nat.zero_add, List.getElem?_toArray, List.getElem?_append_left hj]; exact hv) hXsz)
                    have HR2 := hide (rd_part (w := WX) (b := X) (o := 16) (l := x2) (fun j v hv => by
                      have h16 : (bytesV x1).length = 16 := by rw [bytesV_length, Hxl1.out]
                      rw [cell_of_row _ _ _ _ _ _ hrow, Hdv.out, List.getElem?_toArray, List.getElem?_append_right (by omega), h16, Nat.add_sub_cancel_left]; exact hv) hXsz)
                    have HX := hide hX
                    have p2 : WX.cell? ⟨P, 2, none⟩ = some (.slice A4 bl.length c4) := HQX.out.pc 2
                    rw [← hWX, ← hX]
                    clear hWX hX hrow hbx1 hXsz hst2
                    obtain ⟨xr, hownR, helsR⟩ := HQX.out.own
                    have HownR := hide hownR
                    have HelsR := hide helsR
                    have Ls1 := hide (show bl.length + 1 ≤ maxLen by have := Hbll.out; have := H60.out; unfold maxLen; omega)
                    have Ls2 := hide (show (bl.length + 1) * 32 ≤ 140737488355328 by have := Hbll.out; have := H60.out; omega)
                    have Ls3 := hide (show P + 1 ≤ WX.heap.size from HQX.out.sz)
                    have HoR := hide (show ∀ j, (Value.slice A4 bl.length c4).ownBlock = some j → P + 1 ≤ j ∧ j < X from fun j hj => ⟨(HQX.out.ge j hj).1, by rw [HX.out]; exact (Hq.out.ge j hj).2⟩)
                    clear hownR helsR hdl
                    obtain ⟨C, hC⟩ : ∃ C : World → Prop, C = Keep (fun i => (Value.slice A4 bl.length c4).ownBlock = some i) WX := ⟨_, rfl⟩
                    have HCe := hide hC
                    have HC1 := hide (show ∀ w', InC C w' → w'.cell? ⟨P, 2, none⟩ = some (.slice A4 bl.length c4) from InC.of fun w' h => keep_cell p2 (fun e => by have := (HoR.out P e).1; omega) w' (hC ▸ h))
                    have HC2 := hide (show ∀ w', InC C w' → (convert 27 9 (.slice (some ⟨X, 0, none⟩) 16 16)).run Tryz.prog w' = .ok (.string ⟨x1.toArray⟩) w' from InC.of fun w' h => by
                      have := run_convert_rd (P := Tryz.prog) w' 27 9 5 Tryz.underlying27 Tryz.underlying5 Tryz.underlying9 (· = X) (some ⟨X, 0, none⟩) x1 16 (HR1.out.keep (hC ▸ h) (fun i hi _ e => by have h9 : i = X := hi; rw [h9] at e; have := (HoR.out X e).2; omega))
                      rw [Hxl1.out] at this
                      exact this)
                    have HC3 := hide (show ∀ w', InC C w' → (convert 27 9 (.slice (some ⟨X, 16, none⟩) 32 32)).run Tryz.prog w' = .ok (.string ⟨x2.toArray⟩) w' from InC.of fun w' h => by
                      have := run_convert_rd (P := Tryz.prog) w' 27 9 5 Tryz.underlying27 Tryz.underlying5 Tryz.underlying9 (· = X) (some ⟨X, 16, none⟩) x2 32 (HR2.out.keep (hC ▸ h) (fun i hi _ e => by have h9 : i = X := hi; rw [h9] at e; have := (HoR.out X e).2; omega))
                      rw [Hxl2.out] at this
                      exact this)
                    have HC0 := hide (show C WX.drew by rw [hC]; exact (Keep.refl _ _).drew)
                    haveI : Nonempty (Wl C) := ⟨⟨_, HC0.out⟩⟩
                    clear hC p2
                    refine wp_region_mix C (by kernel_rfl) (by kernel_rfl) ?_
                    refine Mixed.batch [0, 1, 2, 3, 4, 5, 6, 7, 8] 4 (by kernel_rfl) (by kernel_rfl) (by kernel_rfl) (by kernel_rfl) HC0.out _ (by simp only [List.map_cons, List.map_nil, List.getElem?_toArray, List.getElem?_cons_zero, List.getElem?_cons_succ, Option.getD_some]; rfl) (fun R hR => ?_)
                    repeat (first | go_big_quiet_skip | (go_big_quiet_want; first
                      | (refine quiet_load 69 (.tmp 115) rfl ⟨P, 2, none⟩ rfl _ HC1.out _ Tryz.underlying69 rfl ?_; go_simp; go_big_quiet_on)
                      | (refine quiet_convert 27 9 (.tmp 118) rfl _ rfl _ HC2.out ?_; go_simp; go_big_quiet_on)
                      | (refine quiet_convert 27 9 (.tmp 121) rfl _ rfl _ HC3.out ?_; go_simp; go_big_quiet_on)
                      | (go_big_quiet_op; go_big_quiet_on)))
                    refine wpQuiet_nil (hR.out _ ?_)
                    clear hR R
                    refine Mixed.one 9 3 (by kernel_rfl) (by kernel_rfl) (by simp only [List.getElem?_toArray, List.getElem?_cons_zero, List.getElem?_cons_succ]; rfl) (fun K hK => ?_)
                    go_simp
                    refine hK.out _ _ (fun _ => ?_) ?_
                    · rw [HCe.out]; exact ((Keep.refl _ _).alloc _).drew
                    clear hK K
                    refine Mixed.one 10 2 (by kernel_rfl) (by kernel_rfl) (by simp only [List.getElem?_toArray, List.getElem?_cons_zero, List.getElem?_cons_succ]; rfl) (fun K hK => ?_)
                    refine step_append_rd _ rfl (.tmp 116) (.tmp 124) 69 69 rfl (P + 1) 75 75 _ 2 32 Tryz.underlying69 Tryz.underlying69 Tryz.info75 rfl (by decide) (.slice A4 bl.length c4) bl.length xr rfl (own_below HownR.out (((Below.refl _ _).alloc (Nat.le_refl _) _).drew)) _ _ 1 1 [.string ⟨x1.toArray⟩, .string ⟨x2.toArray⟩] rfl ((Rd.new_at WX _ _ _ rfl rfl).drew) (by simp [Value.oneCell']) Ls1.out Ls2.out (Nat.le_trans Ls3.out (by show WX.heap.size ≤ (World.alloc WX _).heap.size; simp)) ?_
                    intro A11 cap11 w11 hown11 hgrow11 hat11
                    have Hgr := hide (show (WX.alloc (.cells #[.string ⟨x1.toArray⟩, .string ⟨x2.toArray⟩] 75)).grownBy w11 (Value.slice A4 bl.length c4).ownBlock from ⟨hgrow11.os, hgrow11.tape, hgrow11.output, hgrow11.size, hgrow11.block⟩)
                    have hP11 := (hgrow11.block P (by have := Ls3.out; show P < (World.alloc WX _).heap.size; simp; omega) (fun e => by have := (HoR.out P e.symm).1; omega)).trans ((Below.heap_alloc WX _ P (by have := Ls3.out; omega)).trans HQX.out.hp)
                    have p2b : w11.cell? ⟨P, 2, none⟩ = some (.slice A4 bl.length c4) := cell_of_row _ _ 2 _ _ _ hP11
                    have f2b : w11.frozen? ⟨P, 2, none⟩ = false := frozen_of_row _ _ _ _ _ hP11
                    have Hown11 := hide hown11
                    have HC5 := hide (show C w11 by rw [HCe.out]; exact ((Keep.refl _ _).alloc _).grown Hgr.out (fun k hk _ => hk.symm ▸ rfl))
                    refine hK.out _ _ (fun _ => HC5.out) ?_
                    clear hP11 hown11 hgrow11 hat11 hK K
                    simp only [Act.put, List.setIfInBounds_toArray, List.set_cons_zero, List.set_cons_succ]
                    refine Mixed.batch [11] 1 (by kernel_rfl) (by kernel_rfl) (by kernel_rfl) (by kernel_rfl) HC5.out _ (by simp only [List.map_cons, List.map_nil, List.getElem?_toArray, List.getElem?_cons_zero, List.getElem?_cons_succ, Option.getD_some]; rfl) (fun R hR => ?_)
                    repeat (first | go_big_quiet_skip | (go_big_quiet_want; go_big_quiet_op; go_big_quiet_on))
                    refine wpQuiet_nil (hR.out _ ?_)
                    clear hR R
                    refine Mixed.one 12 0 (by kernel_rfl) (by kernel_rfl) (by simp only [List.getElem?_toArray, List.getElem?_cons_zero, List.getElem?_cons_succ]; rfl) (fun K hK => ?_)
                    go_simp
                    refine hK.out _ _ (fun h => absurd rfl h) ?_
                    clear hK K
                    refine Mixed.done (by kernel_rfl) ?_
                    go_wp2_with fail
                    have hm := HQX.out.add ⟨x1, x2⟩ [.string ⟨x1.toArray⟩, .string ⟨x2.toArray⟩] rfl _ A11 cap11 xr HelsR.out Hown11.out Hgr.out
                    have hk9 : k3 < p.blobs.length := by have := Hnb.out; omega
                    have hbl9 : bl ++ [⟨x1, x2⟩] = (p.blobs.take (k3 + 1)).map BlobA.toD := by rw [List.take_succ_eq_append_getElem hk9, List.map_append, ← Hbl.out, Hx1.out, Hx2.out]; rfl
                    exact ⟨⟨k3 + 1, bl ++ [⟨x1, x2⟩], A11, cap11, by go_num, by omega, hm, hbl9⟩, by simp [intOf]; omega⟩
end Go.Proofs.YtimfmbcihopaaaaGreatDoor
