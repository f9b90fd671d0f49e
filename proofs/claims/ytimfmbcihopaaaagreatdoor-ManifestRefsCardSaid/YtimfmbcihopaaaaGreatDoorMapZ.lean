/- A body's bytes, as a list. -/
import Derived.Test.YtimfmbcihopaaaaGreatDoorMapY
namespace Go.Proofs.YtimfmbcihopaaaaGreatDoor
open Go.RowKit Go.Cof

def byteL (n : Nat) : List UInt8 := [UInt8.ofNat n]
def putRef (r : RefA) : List UInt8 := beL r.name.length 4 ++ r.name ++ r.id.toList
def putBlob (x : BlobA) : List UInt8 := x.name.toList ++ x.sum.toList
def putPack (p : PackA) : List UInt8 := p.key.toList ++ beL p.count.toNat 2 ++ byteL p.blobs.length ++ p.blobs.flatMap putBlob
def headL (b : BodyA) : List UInt8 := beL b.gen 8 ++ beL b.epoch 8 ++ byteL b.writer.toNat ++ beL b.stamp 8
/-- The bytes ahead of the zeros. -/
def saidL (b : BodyA) : List UInt8 := headL b ++ byteL b.refs.length ++ b.refs.flatMap putRef ++ byteL b.packs.length ++ b.packs.flatMap putPack
def putL (b : BodyA) : List UInt8 := saidL b ++ List.replicate (3584 - (saidL b).length) 0

theorem headL_length (b : BodyA) : (headL b).length = 25 := by simp [headL, beL_length, byteL]
theorem putBlob_length (x : BlobA) : (putBlob x).length = 48 := by simp [putBlob]
theorem putRef_length (r : RefA) : (putRef r).length = 36 + r.name.length := by simp [putRef, beL_length]; omega
theorem blobs_length (l : List BlobA) : (l.flatMap putBlob).length = 48 * l.length := by
  induction l with
  | nil => rfl
  | cons x l ih => rw [List.flatMap_cons, List.length_append, ih, putBlob_length, List.length_cons]; omega
theorem putPack_length (p : PackA) : (putPack p).length = 35 + 48 * p.blobs.length := by
  simp only [putPack, List.length_append, beL_length, byteL, List.length_singleton, blobs_length]
  simp
theorem packs_length (l : List PackA) : (l.flatMap putPack).length = 35 * l.length + 48 * (namesOf l).length := by
  induction l with
  | nil => rfl
  | cons p l ih =>
    have h : (namesOf (p :: l)).length = p.blobs.length + (namesOf l).length := by simp [namesOf, blobsOf]
    rw [List.flatMap_cons, List.length_append, ih, putPack_length, List.length_cons, h]; omega
theorem refs_length (l : List RefA) (h : ∀ r ∈ l, r.name.length ≤ 64) : (l.flatMap putRef).length ≤ 100 * l.length := by
  induction l with
  | nil => simp
  | cons r l ih =>
    have h1 := ih (fun q hq => h q (List.mem_cons_of_mem _ hq))
    have h2 := h r List.mem_cons_self
    rw [List.flatMap_cons, List.length_append, putRef_length, List.length_cons]; omega
theorem names_short (b : BodyA) (h : okB b = true) : ∀ r ∈ b.refs, r.name.length ≤ 64 := by
  intro r hr
  simp only [okB, Bool.and_eq_true] at h
  obtain ⟨i, hi, rfl⟩ := List.getElem_of_mem hr
  have h1 := (refsOk_iff _).1 h.2.1 i hi
  simp only [refOkAt, Bool.and_eq_true, bne_iff_ne, ne_eq] at h1
  have h2 := kindL_short _ h1.1
  rwa [nameAt_of _ _ hi] at h2
theorem said_short (b : BodyA) (h : okB b = true) : (saidL b).length ≤ 3551 := by
  have h0 := names_short b h
  simp only [okB, Bool.and_eq_true, decide_eq_true_eq] at h
  obtain ⟨⟨_, _, h3, h4⟩, _, _, h5, _⟩ := h
  have h6 := refs_length b.refs h0
  have h7 := packs_length b.packs
  simp only [saidL, List.length_append, headL_length, byteL, List.length_singleton, h7]
  omega
/-- What is read, as the document reads it. -/
def blobR (s : Rs) : BlobD × Rs := (⟨(takeR 16 s).1, (takeR 32 (takeR 16 s).2).1⟩, (takeR 32 (takeR 16 s).2).2)
def refR (s : Rs) : RefD × Rs := (⟨(sizedR s).1, (takeR 32 (sizedR s).2).1⟩, (takeR 32 (sizedR s).2).2)
/-- n readings, as long as nothing is wrong. -/
def manyR {α : Type} (f : Rs → α × Rs) : Nat → Rs → List α × Rs
  | 0, s => ([], s)
  | n + 1, s => if s.2 ≠ 0 then ([], s) else ((f s).1 :: (manyR f n (f s).2).1, (manyR f n (f s).2).2)
def packR (s : Rs) : PackD × Rs :=
  (⟨(takeR 32 s).1, ((numR 2 (takeR 32 s).2).1 : Nat), (manyR blobR (numR 1 (numR 2 (takeR 32 s).2).2).1 (numR 1 (numR 2 (takeR 32 s).2).2).2).1⟩, (manyR blobR (numR 1 (numR 2 (takeR 32 s).2).2).1 (numR 1 (numR 2 (takeR 32 s).2).2).2).2)
def headR (l : List UInt8) : BodyD × Nat × Rs :=
  (⟨(numR 8 (l, 0)).1, (numR 8 (numR 8 (l, 0)).2).1, ((numR 1 (numR 8 (numR 8 (l, 0)).2).2).1 : Nat), (numR 8 (numR 1 (numR 8 (numR 8 (l, 0)).2).2).2).1, [], []⟩, numR 1 (numR 8 (numR 1 (numR 8 (numR 8 (l, 0)).2).2).2).2)
def refsR (l : List UInt8) : List RefD × Rs := manyR refR (headR l).2.1 (headR l).2.2
def packsR (l : List UInt8) : List PackD × Rs := manyR packR (numR 1 (refsR l).2).1 (numR 1 (refsR l).2).2
def bodyR (l : List UInt8) : BodyD := { (headR l).1 with refs := (refsR l).1, packs := (packsR l).1 }

/-- The first n bytes, or zeros behind those that are there. -/
def padB (n : Nat) (l : List UInt8) : Bv n := ⟨(l.take n ++ List.replicate (n - l.length) 0).toArray, by simp; omega⟩
theorem padB_full (n : Nat) (l : List UInt8) (h : l.length = n) : (padB n l).toList = l := by
  subst h
  show (l.take l.length ++ List.replicate (l.length - l.length) 0).toArray.toList = l
  simp
def BlobD.toA (x : BlobD) : BlobA := ⟨padB 16 x.name, padB 32 x.sum⟩
def PackD.toA (p : PackD) : PackA := ⟨padB 32 p.key, p.count, p.blobs.map BlobD.toA⟩
def RefD.toA (r : RefD) : RefA := ⟨r.name, padB 32 r.id⟩
def BodyD.toA (b : BodyD) : BodyA := ⟨b.gen, b.epoch, b.writer, b.stamp, b.refs.map RefD.toA, b.packs.map PackD.toA⟩

theorem takeR_zero (n : Int) (s : Rs) (h : (takeR n s).2.2 = 0) : s.2 = 0 := by
  unfold takeR at h
  split at h
  · exact h
  · rename_i h1
    by_cases e : s.2 = 0
    · exact e
    · exact absurd (.inr e) h1
theorem takeR_full (n : Nat) (s : Rs) (h1 : s.2 = 0) (hn : 1 ≤ n) (h : n ≤ s.1.length) : takeR n s = (s.1.take n, (s.1.drop n, 0)) := by
  unfold takeR
  rw [if_neg (by omega), if_neg (by omega)]
  simp
theorem takeR_none (n : Int) (s : Rs) (h1 : s.2 ≠ 0) : takeR n s = ([], s) := by
  unfold takeR
  rw [if_pos (.inr h1)]
/-- Without a fault n bytes were taken. -/
theorem takeR_len_ok (n : Nat) (s : Rs) (h : (takeR n s).2.2 = 0) : (takeR n s).1.length = n := by
  have h0 := takeR_zero _ _ h
  unfold takeR at h ⊢
  split
  · rename_i h1
    have : n = 0 := by omega
    simp [this]
  · rename_i h1
    rw [if_neg h1] at h
    split
    · rename_i h2
      rw [if_pos h2] at h
      simp at h
    · simp; omega
theorem takeR_short1 (n : Nat) (s : Rs) : (takeR n s).1.length ≤ n := by
  unfold takeR
  split
  · simp
  · split
    · simp
    · simp; omega
theorem takeR_short2 (n : Int) (s : Rs) : (takeR n s).1.length ≤ s.1.length ∧ (takeR n s).2.1.length ≤ s.1.length := by
  unfold takeR
  split
  · simp
  · split
    · simp
    · simp; omega
theorem numR_zero (n : Int) (s : Rs) (h : (numR n s).2.2 = 0) : s.2 = 0 := takeR_zero _ _ h
theorem sizedR_zero (s : Rs) (h : (sizedR s).2.2 = 0) : s.2 = 0 := by
  unfold sizedR at h
  split at h
  · simp at h
  · exact numR_zero _ _ (takeR_zero _ _ h)
theorem blobR_zero (s : Rs) (h : (blobR s).2.2 = 0) : s.2 = 0 := takeR_zero _ _ (takeR_zero _ _ h)
theorem refR_zero (s : Rs) (h : (refR s).2.2 = 0) : s.2 = 0 := sizedR_zero _ (takeR_zero _ _ h)
theorem manyR_zero {α : Type} (f : Rs → α × Rs) (n : Nat) : ∀ s, (manyR f n s).2.2 = 0 → s.2 = 0 := by
  induction n with
  | zero => intro s h; exact h
  | succ n ih =>
    intro s h
    unfold manyR at h
    split at h
    · exact h
    · rename_i h1; simpa using h1
theorem packR_zero (s : Rs) (h : (packR s).2.2 = 0) : s.2 = 0 :=
  takeR_zero _ _ (numR_zero _ _ (numR_zero _ _ (manyR_zero _ _ _ h)))

/-- Whatever holds of each reading holds of all. -/
theorem manyR_all {α : Type} (f : Rs → α × Rs) (Q : α → Prop) (n : Nat) : ∀ s, (∀ s, s.2 = 0 → Q (f s).1) → ∀ x ∈ (manyR f n s).1, Q x := by
  induction n with
  | zero => intro s _ x hx; simp [manyR] at hx
  | succ n ih =>
    intro s hq x hx
    unfold manyR at hx
    split at hx
    · simp at hx
    · rename_i h1
      rcases List.mem_cons.1 hx with rfl | hx
      · exact hq s (by simpa using h1)
      · exact ih _ hq x hx
theorem manyR_all0 {α : Type} (f : Rs → α × Rs) (Q : α → Prop) (hq : ∀ s, (f s).2.2 = 0 → Q (f s).1) (n : Nat) : ∀ s, (manyR f n s).2.2 = 0 → ∀ x ∈ (manyR f n s).1, Q x := by
  induction n with
  | zero => intro s _ x hx; simp [manyR] at hx
  | succ n ih =>
    intro s h x hx
    unfold manyR at hx h
    split at hx
    · simp at hx
    · rename_i h1
      rw [if_neg h1] at h
      rcases List.mem_cons.1 hx with rfl | hx
      · exact hq s (manyR_zero f n _ h)
      · exact ih _ h x hx
theorem manyR_len {α : Type} (f : Rs → α × Rs) (n : Nat) : ∀ s, (manyR f n s).1.length ≤ n := by
  induction n with
  | zero => intro s; simp [manyR]
  | succ n ih =>
    intro s
    unfold manyR
    split
    · simp
    · have := ih (f s).2
      simp; omega

/-- Readings that are few enough for the bytes that are there go without a fault. -/
theorem manyR_fine {α : Type} (f : Rs → α × Rs) (c : α → Nat) (Q : α → Prop) (hq : ∀ l, Q (f (l, 0)).1 → c (f (l, 0)).1 ≤ l.length → (f (l, 0)).2.2 = 0 ∧ l.length ≤ (f (l, 0)).2.1.length + c (f (l, 0)).1) (n : Nat) :
    ∀ l, (∀ x ∈ (manyR f n (l, 0)).1, Q x) → ((manyR f n (l, 0)).1.map c).sum ≤ l.length → (manyR f n (l, 0)).2.2 = 0 ∧ l.length ≤ (manyR f n (l, 0)).2.1.length + ((manyR f n (l, 0)).1.map c).sum := by
  induction n with
  | zero => intro l _ _; exact ⟨rfl, by simp [manyR]⟩
  | succ n ih =>
    intro l hQ hc
    unfold manyR at hQ hc ⊢
    rw [if_neg (by simp)] at hQ hc ⊢
    obtain ⟨h1, h2⟩ := hq l (hQ _ List.mem_cons_self) (by simp at hc; omega)
    obtain ⟨l1, hl1⟩ : ∃ l1, (f (l, 0)).2 = (l1, 0) := ⟨(f (l, 0)).2.1, Prod.ext rfl h1⟩
    rw [hl1] at h2 hQ hc ⊢
    simp only [List.map_cons, List.sum_cons] at hc ⊢
    obtain ⟨h3, h4⟩ := ih l1 (fun x hx => hQ x (List.mem_cons_of_mem _ hx)) (by simp only at h2; omega)
    exact ⟨h3, by simp only at h2; omega⟩

theorem numR_fine (n : Nat) (l : List UInt8) (hn : 1 ≤ n) (hn8 : n ≤ 8) (h : n ≤ l.length) : (numR n (l, 0)).2 = (l.drop n, 0) := by
  have : min (n : Int) 8 = n := by omega
  unfold numR
  rw [this, takeR_full n (l, 0) rfl hn h]
theorem sizedR_fine (l : List UInt8) (h0 : (sizedR (l, 0)).1 ≠ []) (h : 4 + (sizedR (l, 0)).1.length ≤ l.length) : (sizedR (l, 0)).2.2 = 0 ∧ l.length = (sizedR (l, 0)).2.1.length + (4 + (sizedR (l, 0)).1.length) := by
  have h4 : 4 ≤ l.length := by omega
  have hn : (numR 4 (l, 0)).2 = (l.drop 4, 0) := numR_fine 4 l (by omega) (by omega) h4
  unfold sizedR at h0 h ⊢
  rw [hn] at h0 h ⊢
  generalize (numR 4 (l, 0)).1 = v at h0 h ⊢
  split
  · rename_i h1; rw [if_pos h1] at h0; exact absurd rfl h0
  · rename_i h1
    rw [if_neg h1] at h0 h
    unfold takeR at h0 h ⊢
    split
    · rename_i h2; rw [if_pos h2] at h0; exact absurd rfl h0
    · rename_i h2
      rw [if_neg h2] at h0 h
      split
      · rename_i h3; rw [if_pos h3] at h0; exact absurd rfl h0
      · rename_i h3
        rw [if_neg h3] at h
        simp only [List.length_drop, Int.toNat_natCast, List.length_take, true_and] at h3 h ⊢
        omega
theorem refR_fine (l : List UInt8) (h0 : (refR (l, 0)).1.name ≠ [] ∧ (refR (l, 0)).1.name.length ≤ 64) (h : 100 ≤ l.length) : (refR (l, 0)).2.2 = 0 ∧ l.length ≤ (refR (l, 0)).2.1.length + 100 := by
  simp only [refR] at h0 ⊢
  obtain ⟨h1, h2⟩ := sizedR_fine l h0.1 (by omega)
  have h3 := takeR_full 32 (sizedR (l, 0)).2 h1 (by omega) (by omega)
  rw [show ((32 : Nat) : Int) = 32 from rfl] at h3
  rw [h3]
  simp only [List.length_drop, true_and]
  omega
theorem blobR_fine (l : List UInt8) (h : 48 ≤ l.length) : (blobR (l, 0)).2.2 = 0 ∧ l.length ≤ (blobR (l, 0)).2.1.length + 48 := by
  have h1 := takeR_full 16 (l, 0) rfl (by omega) (by simp only; omega)
  rw [show ((16 : Nat) : Int) = 16 from rfl] at h1
  have h2 := takeR_full 32 (l.drop 16, 0) rfl (by omega) (by simp; omega)
  rw [show ((32 : Nat) : Int) = 32 from rfl] at h2
  simp only [blobR]
  rw [h1, h2]
  simp only [List.length_drop, true_and]
  omega
theorem packR_fine (l : List UInt8) (h0 : 0 < (packR (l, 0)).1.blobs.length) (h : 35 + 48 * (packR (l, 0)).1.blobs.length ≤ l.length) : (packR (l, 0)).2.2 = 0 ∧ l.length ≤ (packR (l, 0)).2.1.length + (35 + 48 * (packR (l, 0)).1.blobs.length) := by
  have h1 := takeR_full 32 (l, 0) rfl (by omega) (by simp only; omega)
  rw [show ((32 : Nat) : Int) = 32 from rfl] at h1
  have h2 : (numR 2 (l.drop 32, 0)).2 = ((l.drop 32).drop 2, 0) := numR_fine 2 _ (by omega) (by omega) (by simp; omega)
  have h3 : (numR 1 ((l.drop 32).drop 2, 0)).2 = (((l.drop 32).drop 2).drop 1, 0) := numR_fine 1 _ (by omega) (by omega) (by simp; omega)
  simp only [packR] at h0 h ⊢
  rw [h1] at h0 h ⊢
  simp only at h0 h ⊢
  rw [h2] at h0 h ⊢
  rw [h3] at h0 h ⊢
  generalize (numR 1 ((l.drop 32).drop 2, 0)).1 = k at h0 h ⊢
  obtain ⟨m, hm⟩ : ∃ m, m = ((l.drop 32).drop 2).drop 1 := ⟨_, rfl⟩
  rw [← hm] at h0 h ⊢
  have hml : m.length = l.length - 35 := by rw [hm]; simp only [List.length_drop]; omega
  have hc : ∀ x : List BlobD, (x.map (fun _ => 48)).sum = 48 * x.length := fun x => by
    induction x with
    | nil => rfl
    | cons a x ih => rw [List.map_cons, List.sum_cons, ih, List.length_cons]; omega
  have h5 := manyR_fine blobR (fun _ => 48) (fun _ => True) (fun l _ h => blobR_fine l h) k m (fun _ _ => trivial) (by rw [hc]; omega)
  rw [hc] at h5
  refine ⟨h5.1, ?_⟩
  have := h5.2
  omega

/-- Few enough of all. -/
def Few (b : BodyD) : Prop := b.refs.length ≤ 8 ∧ b.packs.length ≤ 12 ∧ (∀ r ∈ b.refs, r.name ≠ [] ∧ r.name.length ≤ 64) ∧ (∀ p ∈ b.packs, 0 < p.blobs.length) ∧ (b.packs.map (fun p => p.blobs.length)).sum ≤ 48

theorem read_fine (l : List UInt8) (hl : l.length = 3584) (h : Few (bodyR l)) : (packsR l).2.2 = 0 := by
  obtain ⟨h1, h2, h3, h4, h5⟩ := h
  simp only [bodyR] at h1 h2 h3 h4 h5
  have e1 : (numR 8 (l, 0)).2 = (l.drop 8, 0) := numR_fine 8 l (by omega) (by omega) (by omega)
  have e2 : (numR 8 (l.drop 8, 0)).2 = ((l.drop 8).drop 8, 0) := numR_fine 8 _ (by omega) (by omega) (by simp; omega)
  have e3 : (numR 1 ((l.drop 8).drop 8, 0)).2 = (((l.drop 8).drop 8).drop 1, 0) := numR_fine 1 _ (by omega) (by omega) (by simp; omega)
  have e4 : (numR 8 (((l.drop 8).drop 8).drop 1, 0)).2 = ((((l.drop 8).drop 8).drop 1).drop 8, 0) := numR_fine 8 _ (by omega) (by omega) (by simp; omega)
  have e5 : (numR 1 ((((l.drop 8).drop 8).drop 1).drop 8, 0)).2 = (((((l.drop 8).drop 8).drop 1).drop 8).drop 1, 0) := numR_fine 1 _ (by omega) (by omega) (by simp; omega)
  have e6 : (headR l).2.2 = (((((l.drop 8).drop 8).drop 1).drop 8).drop 1, 0) := by
    simp only [headR]
    rw [e1, e2, e3, e4, e5]
  obtain ⟨m, hm⟩ : ∃ m, m = (((((l.drop 8).drop 8).drop 1).drop 8).drop 1) := ⟨_, rfl⟩
  have hml : m.length = 3558 := by rw [hm]; simp; omega
  rw [← hm] at e6
  have hc : ∀ x : List RefD, (x.map (fun _ => 100)).sum = 100 * x.length := fun x => by
    induction x with
    | nil => rfl
    | cons a x ih => rw [List.map_cons, List.sum_cons, ih, List.length_cons]; omega
  have e7 : refsR l = manyR refR (headR l).2.1 (m, 0) := by rw [refsR, e6]
  have h6 := manyR_fine refR (fun _ => 100) (fun r => r.name ≠ [] ∧ r.name.length ≤ 64) (fun l h0 h => refR_fine l h0 h) (headR l).2.1 m (by rw [← e7]; exact h3) (by rw [hc, ← e7]; omega)
  rw [hc, ← e7] at h6
  obtain ⟨m2, hm2⟩ : ∃ m2, (refsR l).2 = (m2, 0) := ⟨(refsR l).2.1, Prod.ext rfl h6.1⟩
  have hm2l : 2758 ≤ m2.length := by
    have := h6.2
    rw [hm2] at this
    simp only at this
    omega
  have e8 : (numR 1 (m2, 0)).2 = (m2.drop 1, 0) := numR_fine 1 _ (by omega) (by omega) (by omega)
  have e9 : packsR l = manyR packR (numR 1 (m2, 0)).1 (m2.drop 1, 0) := by rw [packsR, hm2, e8]
  have hc2 : ∀ x : List PackD, (x.map (fun p => 35 + 48 * p.blobs.length)).sum = 35 * x.length + 48 * (x.map (fun p => p.blobs.length)).sum := fun x => by
    induction x with
    | nil => rfl
    | cons a x ih => rw [List.map_cons, List.sum_cons, ih, List.length_cons, List.map_cons, List.sum_cons]; omega
  have h7 := manyR_fine packR (fun p => 35 + 48 * p.blobs.length) (fun p => 0 < p.blobs.length) (fun l h0 h => packR_fine l h0 h) (numR 1 (m2, 0)).1 (m2.drop 1) (by rw [← e9]; exact h4) (by rw [hc2, ← e9]; simp only [List.length_drop]; omega)
  rw [← e9] at h7
  exact h7.1

theorem toD_toA_blob (s : Rs) (h : (blobR s).2.2 = 0) : (blobR s).1.toA.toD = (blobR s).1 := by
  have h1 : (takeR 16 s).2.2 = 0 := takeR_zero _ _ h
  have h2 : (takeR 16 s).1.length = 16 := takeR_len_ok 16 s h1
  have h3 : (takeR 32 (takeR 16 s).2).1.length = 32 := takeR_len_ok 32 _ h
  simp only [blobR, BlobD.toA, BlobA.toD]
  rw [padB_full _ _ h2, padB_full _ _ h3]
theorem toD_toA_ref (s : Rs) (h : (refR s).2.2 = 0) : (refR s).1.toA.toD = (refR s).1 := by
  have h3 : (takeR 32 (sizedR s).2).1.length = 32 := takeR_len_ok 32 _ h
  simp only [refR, RefD.toA, RefA.toD]
  rw [padB_full _ _ h3]
theorem map_same {α : Type} (f : α → α) (l : List α) (h : ∀ x ∈ l, f x = x) : l.map f = l := by
  induction l with
  | nil => rfl
  | cons a l ih => rw [List.map_cons, h a List.mem_cons_self, ih (fun x hx => h x (List.mem_cons_of_mem _ hx))]
theorem toD_toA_pack (s : Rs) (h : (packR s).2.2 = 0) : (packR s).1.toA.toD = (packR s).1 := by
  have h1 : (takeR 32 s).2.2 = 0 := numR_zero _ _ (numR_zero _ _ (manyR_zero _ _ _ h))
  have h2 : (takeR 32 s).1.length = 32 := takeR_len_ok 32 s h1
  simp only [packR, PackD.toA, PackA.toD]
  rw [padB_full _ _ h2, List.map_map, map_same]
  exact manyR_all0 blobR (fun x => x.toA.toD = x) toD_toA_blob _ _ h
/-- Without a fault nothing is lost. -/
theorem toD_toA (l : List UInt8) (h : (packsR l).2.2 = 0) : (bodyR l).toA.toD = bodyR l := by
  have hp : ∃ n s, packsR l = manyR packR n s ∧ s = (numR 1 (refsR l).2).2 := ⟨_, _, rfl, rfl⟩
  have hr : ∃ n s, refsR l = manyR refR n s := ⟨(headR l).2.1, (headR l).2.2, by rw [refsR]⟩
  obtain ⟨n, s, hp, hs⟩ := hp
  obtain ⟨k, t, hr⟩ := hr
  have h1 : (refsR l).2.2 = 0 := by
    rw [hp] at h
    have h2 := manyR_zero packR n s h
    rw [hs] at h2
    exact numR_zero 1 _ h2
  have e3 : (packsR l).1.map (PackA.toD ∘ PackD.toA) = (packsR l).1 := map_same _ _ (by
    rw [hp] at h ⊢
    exact manyR_all0 packR (fun x => x.toA.toD = x) toD_toA_pack n s h)
  have e4 : (refsR l).1.map (RefA.toD ∘ RefD.toA) = (refsR l).1 := map_same _ _ (by
    rw [hr] at h1 ⊢
    exact manyR_all0 refR (fun x => x.toA.toD = x) toD_toA_ref k t h1)
  simp only [bodyR, BodyD.toA, BodyA.toD, List.map_map]
  rw [e3, e4]

/-- The document's bytes of a body. -/
def putRefD (r : RefD) : List UInt8 := beL r.name.length 4 ++ r.name ++ r.id
def putBlobD (x : BlobD) : List UInt8 := x.name ++ x.sum
def putPackD (p : PackD) : List UInt8 := p.key ++ beL p.count.toNat 2 ++ byteL p.blobs.length ++ p.blobs.flatMap putBlobD
def headD (b : BodyD) : List UInt8 := beL b.gen 8 ++ beL b.epoch 8 ++ byteL b.writer.toNat ++ beL b.stamp 8
def saidD (b : BodyD) : List UInt8 := headD b ++ byteL b.refs.length ++ b.refs.flatMap putRefD ++ byteL b.packs.length ++ b.packs.flatMap putPackD
def putD (b : BodyD) : List UInt8 := saidD b ++ List.replicate (3584 - (saidD b).length) 0
theorem flatMap_map_same {α β γ : Type} (f : α → β) (g : β → List γ) (k : α → List γ) (h : ∀ a, g (f a) = k a) (l : List α) : (l.map f).flatMap g = l.flatMap k := by
  induction l with
  | nil => rfl
  | cons a l ih => rw [List.map_cons, List.flatMap_cons, List.flatMap_cons, ih, h]
theorem said_toD (b : BodyA) : saidD b.toD = saidL b := by
  have h1 : (b.refs.map RefA.toD).flatMap putRefD = b.refs.flatMap putRef := flatMap_map_same _ _ _ (fun r => rfl) _
  have h2 : ∀ p : PackA, putPackD p.toD = putPack p := fun p => by
    have h3 : (p.blobs.map BlobA.toD).flatMap putBlobD = p.blobs.flatMap putBlob := flatMap_map_same _ _ _ (fun r => rfl) _
    simp only [putPackD, PackA.toD, putPack, h3, List.length_map]
  have h4 : (b.packs.map PackA.toD).flatMap putPackD = b.packs.flatMap putPack := flatMap_map_same _ _ _ h2 _
  simp only [saidD, saidL, headD, headL, BodyA.toD, h1, h4, List.length_map]
theorem put_toD (b : BodyA) : putD b.toD = putL b := by rw [putD, putL, said_toD]

/-- No text of a body is longer than what is kept. -/
def ThinD (b : BodyD) : Prop := (∀ r ∈ b.refs, r.id.length ≤ 32) ∧ (∀ p ∈ b.packs, p.key.length ≤ 32 ∧ ∀ x ∈ p.blobs, x.name.length ≤ 16 ∧ x.sum.length ≤ 32)
theorem sum_map_le {α : Type} (l : List α) (f : α → List UInt8) (c : α → Nat) (h : ∀ x ∈ l, (f x).length ≤ c x) : (l.flatMap f).length ≤ (l.map c).sum := by
  induction l with
  | nil => simp
  | cons a l ih =>
    have h1 := h a List.mem_cons_self
    have h2 := ih (fun x hx => h x (List.mem_cons_of_mem _ hx))
    rw [List.flatMap_cons, List.length_append, List.map_cons, List.sum_cons]; omega
theorem sum_const {α : Type} (l : List α) (n : Nat) : (l.map (fun _ => n)).sum = n * l.length := by
  induction l with
  | nil => rfl
  | cons a l ih => rw [List.map_cons, List.sum_cons, ih, List.length_cons, Nat.mul_add]; omega
theorem sum_lin (l : List PackD) : (l.map (fun p => 35 + 48 * p.blobs.length)).sum = 35 * l.length + 48 * (l.map (fun p => p.blobs.length)).sum := by
  induction l with
  | nil => rfl
  | cons a l ih => rw [List.map_cons, List.sum_cons, ih, List.length_cons, List.map_cons, List.sum_cons]; omega
theorem putPackD_length (p : PackD) (h : p.key.length ≤ 32 ∧ ∀ x ∈ p.blobs, x.name.length ≤ 16 ∧ x.sum.length ≤ 32) : (putPackD p).length ≤ 35 + 48 * p.blobs.length := by
  have h1 := sum_map_le p.blobs putBlobD (fun _ => 48) (fun x hx => by have := h.2 x hx; simp only [putBlobD, List.length_append]; omega)
  rw [sum_const] at h1
  simp only [putPackD, List.length_append, beL_length, byteL, List.length_singleton]
  have := h.1
  omega
theorem names_sum (l : List PackD) : (namesOfD l).length = (l.map (fun p => p.blobs.length)).sum := by
  induction l with
  | nil => rfl
  | cons p l ih =>
    simp only [namesOfD, blobsOfD, List.length_map] at ih
    simp only [namesOfD, blobsOfD, List.flatMap_cons, List.map_append, List.length_append, List.length_map, List.map_cons, List.sum_cons, ih]
theorem kindL_nil : kindL [] = 0 := by
  unfold kindL
  rw [if_pos]
  right
  rfl
theorem few_ok (b : BodyD) (h : okD b = true) : Few b := by
  simp only [okD, Bool.and_eq_true, decide_eq_true_eq] at h
  obtain ⟨⟨_, _, h3, h4⟩, h5, h6, h7, _⟩ := h
  refine ⟨h3, h4, ?_, ?_, by rw [← names_sum]; exact h7⟩
  · intro r hr
    obtain ⟨i, hi, rfl⟩ := List.getElem_of_mem hr
    have h1 := (refsOkD_iff _).1 h5 i hi
    simp only [refOkD, Bool.and_eq_true, bne_iff_ne, ne_eq, nameAtD_of _ _ hi] at h1
    exact ⟨fun e => h1.1 (by rw [e]; exact kindL_nil), kindL_short _ h1.1⟩
  · intro p hp
    have h1 := List.all_eq_true.1 h6 p hp
    unfold packOkD at h1
    exact (of_decide_eq_true h1).2.2.1
theorem few_back (b : BodyD) (h : Few b.toA.toD) : Few b := by
  obtain ⟨h1, h2, h3, h4, h5⟩ := h
  simp only [BodyD.toA, BodyA.toD, List.map_map, List.length_map, List.mem_map, forall_exists_index, and_imp, forall_apply_eq_imp_iff₂] at h1 h2 h3 h4 h5
  refine ⟨h1, h2, h3, ?_, ?_⟩
  · intro p hp
    have := h4 p hp
    simpa [PackD.toA, PackA.toD] using this
  · have e : ((fun p : PackD => p.blobs.length) ∘ PackA.toD ∘ PackD.toA) = fun p => p.blobs.length := by
      funext p
      simp [PackD.toA, PackA.toD]
    rw [e] at h5
    exact h5
theorem saidD_short (b : BodyD) (hf : Few b) (ht : ThinD b) : (saidD b).length ≤ 3551 := by
  obtain ⟨h1, h2, h3, h4, h5⟩ := hf
  have h6 := sum_map_le b.refs putRefD (fun _ => 100) (fun r hr => by have := h3 r hr; have := ht.1 r hr; simp only [putRefD, List.length_append, beL_length]; omega)
  have h7 := sum_map_le b.packs putPackD (fun p => 35 + 48 * p.blobs.length) (fun p hp => putPackD_length p (ht.2 p hp))
  rw [sum_const] at h6
  rw [sum_lin] at h7
  simp only [saidD, headD, List.length_append, beL_length, byteL, List.length_singleton]
  omega
theorem putD_length (b : BodyD) (hf : Few b) (ht : ThinD b) : (putD b).length = 3584 := by
  have := saidD_short b hf ht
  rw [putD, List.length_append, List.length_replicate]
  omega
theorem bodyR_refs (l : List UInt8) : (bodyR l).refs = (refsR l).1 := by rw [bodyR]
theorem bodyR_packs (l : List UInt8) : (bodyR l).packs = (packsR l).1 := by rw [bodyR]
theorem thin_read (l : List UInt8) : ThinD (bodyR l) := by
  have hp : ∃ n s, packsR l = manyR packR n s := ⟨(numR 1 (refsR l).2).1, (numR 1 (refsR l).2).2, by rw [packsR]⟩
  have hr : ∃ n s, refsR l = manyR refR n s := ⟨(headR l).2.1, (headR l).2.2, by rw [refsR]⟩
  obtain ⟨n, s, hp⟩ := hp
  obtain ⟨k, t, hr⟩ := hr
  have h1 : ∀ r ∈ (refsR l).1, r.id.length ≤ 32 := by
    rw [hr]
    exact manyR_all refR (fun r => r.id.length ≤ 32) k t (fun s _ => takeR_short1 32 _)
  have h2 : ∀ p ∈ (packsR l).1, p.key.length ≤ 32 ∧ ∀ x ∈ p.blobs, x.name.length ≤ 16 ∧ x.sum.length ≤ 32 := by
    rw [hp]
    refine manyR_all packR (fun p => p.key.length ≤ 32 ∧ ∀ x ∈ p.blobs, x.name.length ≤ 16 ∧ x.sum.length ≤ 32) n s (fun s _ => ⟨takeR_short1 32 _, ?_⟩)
    simp only [packR]
    generalize (numR 1 (numR 2 (takeR 32 s).2).2).1 = j
    generalize (numR 1 (numR 2 (takeR 32 s).2).2).2 = u
    exact manyR_all blobR (fun x => x.name.length ≤ 16 ∧ x.sum.length ≤ 32) j u (fun s _ => ⟨takeR_short1 16 _, takeR_short1 32 _⟩)
  unfold ThinD
  rw [bodyR_refs, bodyR_packs]
  generalize (refsR l).1 = a at h1
  generalize (packsR l).1 = c at h2
  exact ⟨h1, h2⟩
theorem thin_A (b : BodyA) : ThinD b.toD := by
  constructor
  · intro r hr
    simp only [BodyA.toD, List.mem_map] at hr
    obtain ⟨r, _, rfl⟩ := hr
    simp [RefA.toD]
  · intro p hp
    simp only [BodyA.toD, List.mem_map] at hp
    obtain ⟨p, _, rfl⟩ := hp
    refine ⟨by simp [PackA.toD], ?_⟩
    intro x hx
    simp only [PackA.toD, List.mem_map] at hx
    obtain ⟨x, _, rfl⟩ := hx
    simp [BlobA.toD]

/-- Are bytes a body's? -/
def readOkD (l : List UInt8) : Bool := okD (bodyR l) && (putD (bodyR l) == l)
def readOkB (l : List UInt8) : Bool := okB (bodyR l).toA && (putL (bodyR l).toA == l)
theorem read_same (l : List UInt8) : readOkB l = readOkD l := by
  by_cases hw : (packsR l).2.2 = 0
  · have h1 := toD_toA l hw
    rw [readOkB, readOkD, ← ok_toD, ← put_toD, h1]
  · have hD : readOkD l = false := by
      rw [Bool.eq_false_iff]
      intro h
      rw [readOkD, Bool.and_eq_true, beq_iff_eq] at h
      have h1 := few_ok _ h.1
      have h2 := putD_length _ h1 (thin_read l)
      rw [h.2] at h2
      exact hw (read_fine l h2 h1)
    have hB : readOkB l = false := by
      rw [Bool.eq_false_iff]
      intro h
      rw [readOkB, Bool.and_eq_true, beq_iff_eq, ← ok_toD, ← put_toD] at h
      have h1 := few_ok _ h.1
      have h2 := putD_length _ h1 (thin_A _)
      rw [h.2] at h2
      exact hw (read_fine l h2 (few_back _ h1))
    rw [hD, hB]
/-- Bytes that are a body's are read as it was. -/
theorem read_toD (l : List UInt8) (h : readOkB l = true) : (bodyR l).toA.toD = bodyR l := by
  refine toD_toA l ?_
  rw [read_same, readOkD, Bool.and_eq_true, beq_iff_eq] at h
  have h1 := few_ok _ h.1
  have h2 := putD_length _ h1 (thin_read l)
  rw [h.2] at h2
  exact read_fine l h2 h1
end Go.Proofs.YtimfmbcihopaaaaGreatDoor
