/- ManifestRefs: plain laws, and loads under a guard. -/
import Derived.Test.YtimfmbcihopaaaaGreatDoorRefs
import Derived.Test.YtimfmbcihopaaaaGreatDoorMix
namespace Go.Proofs.YtimfmbcihopaaaaGreatDoor
open Go.RowKit Go.Cof Go.Sort Go.Lib

theorem cmp_less : ∀ l k : List UInt8, compareBytes l k < 0 → Op.bytesLess l k = true
  | [], [], h => by simp [compareBytes] at h
  | [], _ :: _, _ => by simp [Op.bytesLess]
  | _ :: _, [], h => by simp [compareBytes] at h
  | a :: l, b :: k, h => by
    unfold compareBytes at h
    unfold Op.bytesLess
    split at h
    · rename_i h1; simp [h1]
    · rename_i h1
      split at h
      · omega
      · rename_i h2
        have h3 : a = b := UInt8.le_antisymm (UInt8.not_lt.1 h2) (UInt8.not_lt.1 h1)
        have h4 := cmp_less l k h
        simp [h3, h4]
theorem cmp_anti : ∀ l k : List UInt8, compareBytes l k = - compareBytes k l
  | [], [] => rfl
  | [], _ :: _ => rfl
  | _ :: _, [] => rfl
  | a :: l, b :: k => by
    unfold compareBytes
    by_cases h1 : a < b
    · have h2 : ¬ b < a := fun h => absurd (UInt8.lt_trans h1 h) (UInt8.lt_irrefl a)
      rw [if_pos h1, if_neg h2, if_pos h1]
    · by_cases h2 : b < a
      · rw [if_neg h1, if_pos h2, if_pos h2]; decide
      · rw [if_neg h1, if_neg h2, if_neg h2, if_neg h1]; exact cmp_anti l k
/-- Names in order, none twice, rise. -/
theorem names_rise (d : Array (Bv 16)) (N : List (Bv 16)) (hp : d.toList.Perm N) (hs : SortedIn (ltOf cfB) 0 d.size d) (hn : N.Nodup) (j : Nat) (hj : j + 1 < d.size) : Op.bytesLess d[j]!.toList d[j + 1]!.toList = true := by
  have h1 := (noTwice_iff d N hp hs).2 hn j hj
  have h2 := hs j (j + 1) (Nat.zero_le _) (Nat.lt_succ_self _) hj
  rw [ltB] at h2
  have h3 : ¬ cfB d[j + 1]! d[j]! < 0 := by simpa using h2
  have h4 : cfB d[j + 1]! d[j]! ≠ 0 := fun h => h1 (Vector.toList_inj.1 (cmpB_eq _ _ h))
  refine cmp_less _ _ ?_
  have h5 := cmp_anti d[j]!.toList d[j + 1]!.toList
  unfold cfB at h3 h4
  omega
theorem BodyC.parts {w : World} {T : Nat → Prop} {b : BodyA} {AR AP : Option Addr} {cR cP n m : Nat} {g e wt st : Value} (h : BodyC w T b (.agg #[g, e, wt, st, .slice AR n cR, .slice AP m cP])) :
    ∃ xsR xsP, Rd w T 33 AR b.refs.length xsR ∧ Els RefC b.refs xsR ∧ Rd w T 34 AP b.packs.length xsP ∧ Els (PackC w T) b.packs xsP ∧ (∀ i, T i → i < w.heap.size) := by
  obtain ⟨AR', cR', xsR, AP', cP', xsP, hv, h1, h2, h3, h4, h5, h6, h7⟩ := h
  simp only [Value.agg.injEq, Array.mk.injEq, List.cons.injEq, Value.slice.injEq, and_true] at hv
  obtain ⟨_, _, _, _, ⟨rfl, _, _⟩, rfl, _, _⟩ := hv
  exact ⟨xsR, xsP, h1, h2, h3, h4, h7⟩
/-- A value of many cells read, at an operation that a guard lets through. -/
theorem wpList_load_mid_g {P : Program} {ops : Array Oper} {rest : List Oper} {o : Oper} {a : Act} {w : World} {Q : Exit → Act → World → Prop} (hw : Region.wanted o (yielded ops a.tmps) = true) (ty : TypeId) (x : Operand) (ho : o.op = .load ty x)
    (b of : Nat) (hx : a.eval x = .pointer (some ⟨b, of, none⟩)) (cs : List Value) (d : TypeDesc) (hc : w.rangeAt b of cs)
    (hu : P.underlying ty = some d) (hd : d.isRow = true) (hi : (P.info? ty).map (·.size) = some cs.length)
    (h : wpList P ops Q rest (a.put o.dst (.agg cs.toArray)) w) : wpList P ops Q (o :: rest) a w :=
  wpList_step fun K hK => by
    rw [if_pos hw]
    exact wp_load_mid ty x ho b of hx cs d hc hu hd hi (hK _ _ h)

end Go.Proofs.YtimfmbcihopaaaaGreatDoor
