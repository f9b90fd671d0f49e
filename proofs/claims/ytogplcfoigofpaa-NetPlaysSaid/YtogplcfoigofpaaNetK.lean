/- NetPlays: what the law holds. -/
import Derived.Test.YtogplcfoigofpaaNetF
import Derived.Test.YtogplcfoigofpaaNetJ
namespace Go.Proofs.Ytogplcfoigofpaa
open Go.RowKit Go.Cof

/-- A step of the law. -/
structure AcD where
  kind : Int
  at_ : Int
  l : List Pk

/-- Its three cells. -/
def AcC (w : World) (S : Nat → Prop) (a : AcD) (c : List Value) : Prop :=
  ∃ A cap ys, c = [.int .i64 a.kind, .int .i64 a.at_, .slice A a.l.length cap] ∧ Rd w S 3 A a.l.length ys ∧ Els (PkC w S) a.l ys ∧ a.l.length ≤ 140737488351232
theorem AcC.len {w : World} {S : Nat → Prop} (a : AcD) (c : List Value) (h : AcC w S a c) : c.length = 3 := by obtain ⟨A, cap, ys, rfl, _⟩ := h; rfl

theorem Try.cells43 : Try.prog.cellsOf 43 = 3 := by kernel_rfl
theorem Try.cells22 : Try.prog.cellsOf 22 = 1 := by kernel_rfl
theorem Try.bytes43 : Try.prog.bytesOf 43 = 40 := by kernel_rfl

theorem opens_act (w : World) : Opens Try.prog w 43 (AcC w (fun b => b < w.heap.size)) := by
  intro H enc base spare held fuel cs x h hw
  have hl := open_len Try.underlying43 h
  rw [Try.cells43] at hl
  obtain ⟨c0, c1, c2, rfl⟩ := list3 hl
  obtain ⟨f, e0, _⟩ := open_field Try.underlying43 h hw 0 3 0 1 rfl Try.cells3 (opens_int (w := w) Try.underlying3)
  obtain ⟨t, e1, _⟩ := open_field Try.underlying43 h hw 1 3 1 1 rfl Try.cells3 (opens_int (w := w) Try.underlying3)
  obtain ⟨l, A, cap, ys, e2, hr, he, _, _, hb⟩ := open_field Try.underlying43 h hw 2 22 2 1 rfl Try.cells22 (opens_pks w)
  simp at e0 e1 e2
  subst e0 e1 e2
  exact ⟨⟨f, t, l⟩, A, cap, ys, rfl, hr, he, by simp only; omega⟩

theorem opens_acts (w : World) : Opens Try.prog w 39 (SlC w 3 40 (AcC w (fun b => b < w.heap.size))) :=
  opens_slice Try.underlying39 Try.cells43 (by omega) Try.bytes43 (opens_act w) (fun p c h => AcC.len p c h)

theorem own_below {w w' : World} {base size n : Nat} {e : TypeId} {v : Value} {xs : List Value} (h : w.ownsRow base e size v n xs) (hb : Below w.heap.size w w') : w'.ownsRow base e size v n xs :=
  h.kept (row := none) ⟨hb.os, hb.tape, hb.output, hb.size, fun k hk _ => hb.block k hk⟩ (by cases hv : v.ownBlock <;> simp)

/-- The inner loop's head: j packets are in the reference's list, and s bytes are counted. -/
def InRel (wo : World) (O : Obj) (ps : List Pk) (inn sm ii : Value) (wx : World) : Prop :=
  ∃ (j : Nat) (s : Int) (z : List Value), j ≤ ps.length ∧ ii = .int .i64 j ∧ sm = .int .i64 s ∧ 0 ≤ s ∧ s ≤ j * 70000 ∧ wx.ownsRow (wo.heap.size + 1) 34 3 inn j z ∧ Els RkC (ps.take j) z ∧ Below (wo.heap.size + 1) (wo.alloc O) wx

/-- The net and the reference's list hold the same packets. -/
structure Hold (w wx : World) (v : Value) (l : List Pk) (xs zs : List Value) (A : Option Addr) (cap : Nat) : Prop where
  net : NetAt wx w.heap.size w.heap.size v l xs
  rd : Rd wx (fun i => ¬ Foot w.heap.size v i) 3 A l.length zs
  els : Els RkC l zs
  caps : l.length ≤ cap ∧ cap ≤ maxLen
  below : Below w.heap.size w wx

section
variable {w wx wy : World} {v : Value} {l : List Pk} {xs zs : List Value} {A : Option Addr} {cap : Nat}
theorem Hold.keep (h : Hold w wx v l xs zs A cap) (hb : Below wx.heap.size wx wy) : Hold w wy v l xs zs A cap :=
  ⟨h.net.below hb, h.rd.below hb (fun _ _ h => h), h.els, h.caps, h.below.trans (hb.mono h.below.size)⟩
theorem Hold.alloc (h : Hold w wx v l xs zs A cap) (o : Obj) : Hold w (wx.alloc o) v l xs zs A cap := h.keep ((Below.refl _ _).alloc (Nat.le_refl _) _)
theorem Hold.low (h : Hold w wx v l xs zs A cap) : ∀ i, Foot w.heap.size v i → w.heap.size ≤ i := fun i hi => by
  rcases hi with rfl | hi
  · exact Nat.le_refl _
  · exact (h.net.row.lt i hi).1
theorem Hold.fresh (h : Hold w wx v l xs zs A cap) : ∀ i, wx.heap.size ≤ i → ¬ Foot w.heap.size v i := fun i hi hf => by
  rcases hf with rfl | hf
  · have := h.net.lt; omega
  · have := (h.net.row.lt i hf).2; omega
theorem Hold.old (h : Hold w wx v l xs zs A cap) : ∀ i, i < w.heap.size → ¬ Foot w.heap.size v i := fun i hi hf => by have := h.low i hf; omega
end

/-- Behind a call of the reference, and then one of the net that writes its own blocks alone. -/
theorem Hold.next {w wx wy wz : World} {v v' : Value} {l l' : List Pk} {xs zs xs' zs' : List Value} {A A' : Option Addr} {cap cap' : Nat} (h : Hold w wx v l xs zs A cap)
    (hr : Rd wy (fun i => ¬ Foot w.heap.size v i) 3 A' l'.length zs') (he : Els RkC l' zs') (hc : l'.length ≤ cap' ∧ cap' ≤ maxLen) (hb : Below wx.heap.size wx wy)
    (hN : NetAt wz w.heap.size w.heap.size v' l' xs') (hv : v'.ownBlock = v.ownBlock ∨ ∀ g, v'.ownBlock = some g → wy.heap.size ≤ g) (hk : Keep (Foot w.heap.size v) wy wz) : Hold w wz v' l' xs' zs' A' cap' := by
  have hby := h.below.trans (hb.mono h.below.size)
  refine ⟨hN, ?_, he, hc, hby.trans (hk.below hby.size h.low)⟩
  refine Rd.keep (hr.mono (S' := fun i => ¬ Foot w.heap.size v i ∧ ¬ Foot w.heap.size v' i) fun i hi hf => ⟨hf, fun hf' => ?_⟩) hk (fun i hi _ => hi.1) |>.mono (fun i _ hi => hi.2)
  rcases hf' with rfl | hf'
  · exact hf (.inl rfl)
  · rcases hv with hv | hv
    · exact hf (.inr (by rw [← hv]; exact hf'))
    · have := hv i hf'; omega

/-- Behind a call of the net that writes its own blocks alone, and then one of the reference. -/
theorem Hold.next2 {w wx wy wz : World} {v v' : Value} {l l' : List Pk} {xs zs xs' zs' : List Value} {A A' : Option Addr} {cap cap' : Nat} (h : Hold w wx v l xs zs A cap)
    (hN : NetAt wy w.heap.size w.heap.size v' l' xs') (hv : v'.ownBlock = v.ownBlock) (hk : Keep (Foot w.heap.size v) wx wy)
    (hr : Rd wz (fun i => ¬ Foot w.heap.size v i) 3 A' l'.length zs') (he : Els RkC l' zs') (hc : l'.length ≤ cap' ∧ cap' ≤ maxLen) (hb : Below wy.heap.size wy wz) : Hold w wz v' l' xs' zs' A' cap' := by
  have hby := h.below.trans (hk.below h.below.size h.low)
  refine ⟨hN.below hb, hr.mono fun i _ hi hf => hi ?_, he, hc, hby.trans (hb.mono hby.size)⟩
  rcases hf with rfl | hf
  · exact .inl rfl
  · exact .inr (by rw [← hv]; exact hf)

theorem places_more (l : List Pk) (t : Int) (i n : Nat) (h : i ≤ n) : ∃ r, places l t n = places l t i ++ r := by
  induction n with
  | zero => obtain rfl : i = 0 := by omega
            exact ⟨[], by simp⟩
  | succ n ih =>
    rcases Nat.lt_or_ge n i with hlt | hge
    · obtain rfl : i = n + 1 := by omega
      exact ⟨[], by simp⟩
    · obtain ⟨r, hr⟩ := ih hge
      exact ⟨r ++ (if (l.map Pk.t)[n]? = some t then [n] else []), by rw [places, hr, List.append_assoc]⟩

theorem places_at (l : List Pk) (t : Int) (i : Nat) (hi : i < l.length) (ht : l[i].t = t) :
    places l t (i + 1) = places l t i ++ [i] ∧ (places l t i).length < (places l t l.length).length ∧ (places l t l.length)[(places l t i).length]? = some i := by
  have h1 : places l t (i + 1) = places l t i ++ [i] := by simp [places, hi, ht]
  obtain ⟨r, hr⟩ := places_more l t (i + 1) l.length hi
  refine ⟨h1, ?_, ?_⟩
  · rw [hr, h1]; simp
  · rw [hr, h1, List.append_assoc, List.getElem?_append_right (Nat.le_refl _)]; simp

theorem places_not (l : List Pk) (t : Int) (i : Nat) (hi : i < l.length) (ht : l[i].t ≠ t) : places l t (i + 1) = places l t i := by simp [places, hi, ht]

theorem Hold.keepO {w wo wc : World} {O : Obj} {v : Value} {l : List Pk} {xs zs : List Value} {A : Option Addr} {cap : Nat} (h : Hold w (wo.alloc O) v l xs zs A cap) (hb : Below (wo.heap.size + 1) (wo.alloc O) wc) : Hold w wc v l xs zs A cap :=
  h.keep (by rw [World.size_alloc]; exact hb)
end Go.Proofs.Ytogplcfoigofpaa
