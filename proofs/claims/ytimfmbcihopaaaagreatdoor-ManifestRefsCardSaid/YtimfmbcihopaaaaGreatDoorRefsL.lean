/- References put, and taken out: the plain law. -/
import Derived.Test.YtimfmbcihopaaaaGreatDoorFind
namespace Go.Proofs.YtimfmbcihopaaaaGreatDoor
open Go.RowKit Go.Cof

/-- References in their order, each name once. -/
def Srt (l : List RefA) : Prop := l.Pairwise (fun a b => lessL a.name b.name = true)
theorem srt_of_adj (l : List RefA) (h : ∀ i (hi : i + 1 < l.length), lessL l[i].name l[i + 1].name = true) : Srt l := by
  have key : ∀ (d i : Nat) (hi : i + d + 1 < l.length), lessL (l[i]'(by omega)).name l[i + d + 1].name = true := by
    intro d
    induction d with
    | zero => intro i hi; exact h i hi
    | succ d ih =>
      intro i hi
      exact lessL_trans _ _ _ (ih i (by omega)) (h (i + d + 1) hi)
  refine List.pairwise_iff_getElem.2 fun i j hi hj hij => ?_
  obtain ⟨d, rfl⟩ : ∃ d, j = i + d + 1 := ⟨j - i - 1, by omega⟩
  exact key d i hj
theorem refsOk_srt (l : List RefA) : refsOk l = true ↔ (∀ r ∈ l, kindL r.name ≠ 0) ∧ Srt l := by
  rw [refsOk_iff]
  constructor
  · intro h
    refine ⟨fun r hr => ?_, srt_of_adj l fun i hi => ?_⟩
    · obtain ⟨i, hi, rfl⟩ := List.getElem_of_mem hr
      have := h i hi
      simp only [refOkAt, Bool.and_eq_true, bne_iff_ne, ne_eq, nameAt_of _ _ hi] at this
      exact this.1
    · have := h (i + 1) hi
      simp only [refOkAt, Bool.and_eq_true, Bool.or_eq_true, beq_iff_eq, Nat.add_sub_cancel, nameAt_of _ _ hi, nameAt_of _ _ (show i < l.length by omega)] at this
      rcases this.2 with h9 | h9
      · omega
      · exact h9
  · rintro ⟨h1, h2⟩ i hi
    simp only [refOkAt, Bool.and_eq_true, bne_iff_ne, ne_eq, Bool.or_eq_true, beq_iff_eq, nameAt_of _ _ hi]
    refine ⟨h1 _ (List.getElem_mem hi), ?_⟩
    rcases Nat.eq_zero_or_pos i with h0 | h0
    · exact .inl h0
    · refine .inr ?_
      rw [nameAt_of _ _ (show i - 1 < l.length by omega)]
      exact List.pairwise_iff_getElem.1 h2 (i - 1) i (by omega) hi (by omega)
theorem srt_at (l : List RefA) (hs : Srt l) (k : Nat) (hk : k < l.length) : atI l l[k].name = k :=
  atI_at l _ k hk (lessL_irrefl _) (fun j hj h => List.pairwise_iff_getElem.1 hs j k hj hk h)
theorem srt_find (l : List RefA) (hs : Srt l) (r : RefA) (hr : r ∈ l) : atB l r.name = true ∧ findL l r.name = r.id := by
  obtain ⟨k, hk, rfl⟩ := List.getElem_of_mem hr
  have h := srt_at l hs k hk
  have h1 : atB l l[k].name = true := by unfold atB; rw [h, List.getElem?_eq_getElem hk]; simp
  exact ⟨h1, by unfold findL; rw [h1, if_pos rfl, h, List.getElem?_eq_getElem hk]; rfl⟩
theorem not_find (l : List RefA) (x : List UInt8) (h : ∀ r ∈ l, r.name ≠ x) : atB l x = false := by
  rcases hb : atB l x with _ | _
  · rfl
  · obtain ⟨hk, hn⟩ := atB_lt l x hb
    exact absurd hn (h _ (List.getElem_mem hk))
/-- Where a name is not, the one at its place is behind it. -/
theorem at_behind (l : List RefA) (x : List UInt8) (hb : atB l x = false) (hk : atI l x < l.length) : lessL x l[atI l x].name = true := by
  have h1 : lessL l[atI l x].name x = false := by
    have h9 : (!lessL (l[atI l x]).name x) = true := List.findIdx_getElem (xs := l) (p := fun r : RefA => !lessL r.name x) (w := hk)
    simpa using h9
  have h2 : l[atI l x].name ≠ x := by
    unfold atB at hb
    rw [List.getElem?_eq_getElem hk] at hb
    simpa using hb
  rcases lessL_total x l[atI l x].name with h | h | h
  · exact h
  · exact absurd h.symm h2
  · rw [h1] at h; cases h
theorem at_ahead (l : List RefA) (x : List UInt8) (j : Nat) (hj : j < l.length) (h : j < atI l x) : lessL l[j].name x = true := by
  have := List.not_of_lt_findIdx h
  simpa using this

/-- The references with another one, and without one. -/
def putR (l : List RefA) (x : List UInt8) (id : Bv 32) : List RefA := if atB l x then l.set (atI l x) ⟨x, id⟩ else l.take (atI l x) ++ ⟨x, id⟩ :: l.drop (atI l x)
def outR (l : List RefA) (x : List UInt8) : List RefA := if atB l x then l.take (atI l x) ++ l.drop (atI l x + 1) else l
def okW (l : List RefA) (x : List UInt8) : Bool := kindL x != 0 && (atB l x || decide (l.length < 8))
def withR (l : List RefA) (x : List UInt8) (id : Bv 32) : List RefA := if okW l x then putR l x id else l

theorem put_parts (l : List RefA) (x : List UInt8) (id : Bv 32) (hb : atB l x = true) : putR l x id = l.take (atI l x) ++ ⟨x, id⟩ :: l.drop (atI l x + 1) := by
  obtain ⟨hk, _⟩ := atB_lt l x hb
  rw [putR, hb, if_pos rfl, List.set_eq_take_append_cons_drop, if_pos hk]
theorem srt_mid (a c : List RefA) (r : RefA) (ha : Srt a) (hc : Srt c) (h1 : ∀ q ∈ a, lessL q.name r.name = true) (h2 : ∀ q ∈ c, lessL r.name q.name = true) : Srt (a ++ r :: c) := by
  refine List.pairwise_append.2 ⟨ha, List.pairwise_cons.2 ⟨h2, hc⟩, fun p hp q hq => ?_⟩
  rcases List.mem_cons.1 hq with rfl | hq
  · exact h1 p hp
  · exact lessL_trans _ _ _ (h1 p hp) (h2 q hq)
theorem mem_take_at (l : List RefA) (n : Nat) (q : RefA) (h : q ∈ l.take n) : ∃ j, ∃ hj : j < l.length, j < n ∧ l[j] = q := by
  obtain ⟨j, hj, rfl⟩ := List.getElem_of_mem h
  rw [List.length_take] at hj
  exact ⟨j, by omega, by omega, by rw [List.getElem_take]⟩
theorem mem_drop_at (l : List RefA) (n : Nat) (q : RefA) (h : q ∈ l.drop n) : ∃ j, ∃ hj : j < l.length, n ≤ j ∧ l[j] = q := by
  obtain ⟨j, hj, rfl⟩ := List.getElem_of_mem h
  rw [List.length_drop] at hj
  exact ⟨n + j, by omega, by omega, by rw [List.getElem_drop]⟩
theorem put_srt (l : List RefA) (x : List UInt8) (id : Bv 32) (hs : Srt l) : Srt (putR l x id) := by
  have hlt := List.pairwise_iff_getElem.1 hs
  have h1 : ∀ q ∈ l.take (atI l x), lessL q.name x = true := fun q hq => by
    obtain ⟨j, hj, hji, rfl⟩ := mem_take_at l _ q hq
    exact at_ahead l x j hj hji
  rcases hb : atB l x with _ | _
  · rw [putR, hb]
    refine srt_mid _ _ _ (hs.sublist (List.take_sublist _ _)) (hs.sublist (List.drop_sublist _ _)) h1 (fun q hq => ?_)
    obtain ⟨j, hj, hji, rfl⟩ := mem_drop_at l _ q hq
    have hk : atI l x < l.length := by omega
    have h2 := at_behind l x hb hk
    rcases Nat.lt_or_ge (atI l x) j with h | h
    · exact lessL_trans _ _ _ h2 (hlt _ _ hk hj h)
    · obtain rfl : j = atI l x := by omega
      exact h2
  · rw [put_parts l x id hb]
    obtain ⟨hk, hn⟩ := atB_lt l x hb
    refine srt_mid _ _ _ (hs.sublist (List.take_sublist _ _)) (hs.sublist (List.drop_sublist _ _)) h1 (fun q hq => ?_)
    obtain ⟨j, hj, hji, rfl⟩ := mem_drop_at l _ q hq
    have := hlt _ _ hk hj (by omega)
    rw [hn] at this
    exact this
theorem put_mem (l : List RefA) (x : List UInt8) (id : Bv 32) : ⟨x, id⟩ ∈ putR l x id := by
  rcases hb : atB l x with _ | _
  · rw [putR, hb]; simp
  · rw [put_parts l x id hb]; simp
theorem mem_around (l : List RefA) (n : Nat) (r : RefA) (hr : r ∈ l) : r ∈ l.take n ∨ r ∈ l.drop n := by
  rw [← List.mem_append, List.take_append_drop]; exact hr
theorem put_other (l : List RefA) (x : List UInt8) (id : Bv 32) (r : RefA) (hr : r ∈ l) (hn : r.name ≠ x) : r ∈ putR l x id := by
  rcases hb : atB l x with _ | _
  · rw [putR, hb]
    rcases mem_around l (atI l x) r hr with h | h
    · simp [h]
    · simp [h]
  · rw [put_parts l x id hb]
    obtain ⟨hk, hn2⟩ := atB_lt l x hb
    rcases mem_around l (atI l x) r hr with h | h
    · simp [h]
    · rw [List.drop_eq_getElem_cons hk] at h
      rcases List.mem_cons.1 h with rfl | h
      · exact absurd hn2 hn
      · simp [h]
theorem put_from (l : List RefA) (x : List UInt8) (id : Bv 32) (r : RefA) (hr : r ∈ putR l x id) : r ∈ l ∨ r = ⟨x, id⟩ := by
  rcases hb : atB l x with _ | _
  · rw [putR, hb] at hr
    simp only [Bool.false_eq_true, if_false, List.mem_append, List.mem_cons] at hr
    rcases hr with h | h | h
    · exact .inl (List.mem_of_mem_take h)
    · exact .inr h
    · exact .inl (List.mem_of_mem_drop h)
  · rw [put_parts l x id hb] at hr
    simp only [List.mem_append, List.mem_cons] at hr
    rcases hr with h | h | h
    · exact .inl (List.mem_of_mem_take h)
    · exact .inr h
    · exact .inl (List.mem_of_mem_drop h)
theorem put_length (l : List RefA) (x : List UInt8) (id : Bv 32) : (putR l x id).length = if atB l x then l.length else l.length + 1 := by
  rcases hb : atB l x with _ | _
  · rw [putR, hb]
    have := atI_le l x
    simp only [Bool.false_eq_true, if_false, List.length_append, List.length_take, List.length_cons, List.length_drop]
    omega
  · rw [putR, hb]; simp
theorem out_srt (l : List RefA) (x : List UInt8) (hs : Srt l) : Srt (outR l x) := by
  rcases hb : atB l x with _ | _
  · rw [outR, hb]; exact hs
  · rw [outR, hb, if_pos rfl]
    refine hs.sublist ?_
    have h := List.Sublist.append (List.Sublist.refl (l.take (atI l x))) (List.drop_sublist_drop_left l (Nat.le_succ (atI l x)))
    rw [List.take_append_drop] at h
    exact h
theorem out_from (l : List RefA) (x : List UInt8) (r : RefA) (hr : r ∈ outR l x) : r ∈ l := by
  rcases hb : atB l x with _ | _
  · rw [outR, hb] at hr; exact hr
  · rw [outR, hb, if_pos rfl, List.mem_append] at hr
    rcases hr with h | h
    · exact List.mem_of_mem_take h
    · exact List.mem_of_mem_drop h
theorem out_other (l : List RefA) (x : List UInt8) (r : RefA) (hr : r ∈ l) (hn : r.name ≠ x) : r ∈ outR l x := by
  rcases hb : atB l x with _ | _
  · rw [outR, hb]; exact hr
  · rw [outR, hb, if_pos rfl, List.mem_append]
    obtain ⟨hk, hn2⟩ := atB_lt l x hb
    rcases mem_around l (atI l x) r hr with h | h
    · exact .inl h
    · rw [List.drop_eq_getElem_cons hk] at h
      rcases List.mem_cons.1 h with rfl | h
      · exact absurd hn2 hn
      · exact .inr h
theorem out_gone (l : List RefA) (x : List UInt8) (hs : Srt l) : atB (outR l x) x = false := by
  rcases hb : atB l x with _ | _
  · rw [outR, hb]; exact hb
  · refine not_find _ _ fun r hr he => ?_
    obtain ⟨hk, hn⟩ := atB_lt l x hb
    have hlt := List.pairwise_iff_getElem.1 hs
    rw [outR, hb, if_pos rfl, List.mem_append] at hr
    rcases hr with h | h
    · obtain ⟨j, hj, hji, rfl⟩ := mem_take_at l _ r h
      have := hlt _ _ hj hk hji
      rw [he, hn, lessL_irrefl] at this
      cases this
    · obtain ⟨j, hj, hji, rfl⟩ := mem_drop_at l _ r h
      have := hlt _ _ hk hj (by omega)
      rw [he, hn, lessL_irrefl] at this
      cases this
theorem out_length (l : List RefA) (x : List UInt8) : (outR l x).length ≤ l.length := by
  rw [outR]
  split
  · rw [List.length_append, List.length_take, List.length_drop]; omega
  · exact Nat.le_refl _

/-- A body that may be is one still. -/
theorem okB_refs (b : BodyA) (l : List RefA) (h : okB b = true) (h1 : l.length ≤ 8) (h2 : ∀ r ∈ l, kindL r.name ≠ 0) (h3 : Srt l) : okB { b with refs := l } = true := by
  simp only [okB, Bool.and_eq_true, decide_eq_true_eq] at h ⊢
  exact ⟨⟨h.1.1, h.1.2.1, h1, h.1.2.2.2⟩, (refsOk_srt l).2 ⟨h2, h3⟩, h.2.2⟩
theorem ok_parts (b : BodyA) (h : okB b = true) : b.refs.length ≤ 8 ∧ (∀ r ∈ b.refs, kindL r.name ≠ 0) ∧ Srt b.refs := by
  simp only [okB, Bool.and_eq_true, decide_eq_true_eq] at h
  exact ⟨h.1.2.2.1, (refsOk_srt _).1 h.2.1⟩
theorem with_ok (b : BodyA) (x : List UInt8) (id : Bv 32) (h : okB b = true) : okB { b with refs := withR b.refs x id } = true := by
  obtain ⟨h1, h2, h3⟩ := ok_parts b h
  rcases hw : okW b.refs x with _ | _
  · rw [withR, hw]; exact h
  · rw [withR, hw, if_pos rfl]
    simp only [okW, Bool.and_eq_true, bne_iff_ne, ne_eq, Bool.or_eq_true, decide_eq_true_eq] at hw
    refine okB_refs b _ h ?_ (fun r hr => ?_) (put_srt _ _ _ h3)
    · rw [put_length]
      split
      · exact h1
      · rename_i hb
        rcases hw.2 with h9 | h9
        · exact absurd h9 hb
        · omega
    · rcases put_from _ _ _ r hr with h9 | rfl
      · exact h2 r h9
      · exact hw.1
theorem out_ok (b : BodyA) (x : List UInt8) (h : okB b = true) : okB { b with refs := outR b.refs x } = true := by
  obtain ⟨h1, h2, h3⟩ := ok_parts b h
  exact okB_refs b _ h (Nat.le_trans (out_length _ _) h1) (fun r hr => h2 r (out_from _ _ r hr)) (out_srt _ _ h3)
theorem with_srt (l : List RefA) (x : List UInt8) (id : Bv 32) (hs : Srt l) : Srt (withR l x id) := by
  rw [withR]; split
  · exact put_srt _ _ _ hs
  · exact hs
theorem with_new (l : List RefA) (x : List UInt8) (id : Bv 32) (hs : Srt l) (hw : okW l x = true) : atB (withR l x id) x = true ∧ findL (withR l x id) x = id := by
  rw [withR, hw, if_pos rfl]
  exact srt_find _ (put_srt l x id hs) ⟨x, id⟩ (put_mem l x id)
theorem with_other (l : List RefA) (x : List UInt8) (id : Bv 32) (hs : Srt l) (r : RefA) (hr : r ∈ l) (hn : r.name ≠ x) : atB (withR l x id) r.name = true ∧ findL (withR l x id) r.name = r.id := by
  refine srt_find _ (with_srt l x id hs) r ?_
  rw [withR]; split
  · exact put_other l x id r hr hn
  · exact hr
theorem out_find (l : List RefA) (x : List UInt8) (hs : Srt l) (r : RefA) (hr : r ∈ l) (hn : r.name ≠ x) : atB (outR l x) r.name = true ∧ findL (outR l x) r.name = r.id :=
  srt_find _ (out_srt l x hs) r (out_other l x r hr hn)
end Go.Proofs.YtimfmbcihopaaaaGreatDoor
