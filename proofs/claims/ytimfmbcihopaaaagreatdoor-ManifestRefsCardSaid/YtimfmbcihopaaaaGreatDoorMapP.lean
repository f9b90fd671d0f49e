/- The plain law of a reference's name's parts. -/
import Derived.Test.YtimfmbcihopaaaaGreatDoorMapB
import Derived.Lib.IndexMore
namespace Go.Proofs.YtimfmbcihopaaaaGreatDoor
open Go.RowKit Go.Cof

theorem marks_iff (u : UInt8) : 0 ≤ Lib.indexByte [45, 46] u ↔ (u.toNat : Int) = 45 ∨ (u.toNat : Int) = 46 := by
  have h : ∀ k : UInt8, (k == u) = true ↔ (u.toNat : Int) = k.toNat := fun k => by
    rw [beq_iff_eq, ← UInt8.toNat_inj]; omega
  by_cases h1 : (45 : UInt8) == u
  · simp [Lib.indexByte, h1, (h 45).1 h1]
  · by_cases h2 : (46 : UInt8) == u
    · simp [Lib.indexByte, h1, h2, (h 46).1 h2]
    · have a1 := mt (h 45).2 h1
      have a2 := mt (h 46).2 h2
      simp only [UInt8.reduceToNat] at a1 a2
      simp [Lib.indexByte, h1, h2]
      omega

theorem dots_iff (l : List UInt8) : Lib.contains l [46, 46] = true ↔ ∃ i : Nat, l[i]? = some 46 ∧ l[i + 1]? = some 46 := by
  have ho : ∀ i : Nat, Lib.occAt l [46, 46] i = true ↔ (l[i]? = some 46 ∧ l[i + 1]? = some 46) := fun i => by
    have e0 : (l.drop i)[0]? = l[i]? := by simp
    have e1 : (l.drop i)[1]? = l[i + 1]? := by simp
    rw [← e0, ← e1, Lib.occAt]
    rcases l.drop i with _ | ⟨a, _ | ⟨b, k⟩⟩
    · simp
    · simp [List.isPrefixOf]
    · simp [List.isPrefixOf, eq_comm (a := (46 : UInt8))]
  rw [Lib.contains, decide_eq_true_iff]
  rcases Lib.index_spec l [46, 46] with ⟨h1, h2⟩ | ⟨i, h1, -, h3, -⟩
  · rw [h1]
    refine ⟨fun h => absurd h (by omega), fun ⟨i, hi⟩ => ?_⟩
    have := h2 i (by have := (List.getElem?_eq_some_iff.1 hi.1).1; omega)
    rw [(ho i).2 hi] at this
    cases this
  · rw [h1]
    exact ⟨fun _ => ⟨i, (ho i).1 h3⟩, fun _ => by omega⟩

theorem last_iff (c : UInt8) (r : List UInt8) : Lib.hasSuffix (c :: r) [46] = true ↔ (c :: r)[r.length]? = some 46 := by
  rw [Lib.hasSuffix, List.isSuffixOf_iff_suffix]
  have hl : (c :: r)[r.length]? = (c :: r).getLast? := by rw [List.getLast?_eq_getElem?]; simp
  rw [hl]
  constructor
  · rintro ⟨k, hk⟩
    rw [← hk]; simp
  · intro h
    obtain ⟨ys, hy⟩ := List.getLast?_eq_some_iff.1 h
    exact ⟨ys, hy.symm⟩

theorem lock_iff (l : List UInt8) : Lib.hasSuffix l [46, 108, 111, 99, 107] = true ↔ l.drop (l.length - 5) = [46, 108, 111, 99, 107] := by
  rw [Lib.hasSuffix, List.isSuffixOf_iff_suffix]
  constructor
  · rintro ⟨k, hk⟩
    rw [← hk]; simp
  · intro h
    rw [← h]; exact List.drop_suffix _ _
theorem lock_short (l : List UInt8) (h : l.length < 5) : Lib.hasSuffix l [46, 108, 111, 99, 107] = false := by
  rw [Lib.hasSuffix, Bool.eq_false_iff]
  intro h2
  have := (List.isSuffixOf_iff_suffix.1 h2).length_le
  simp at this; omega

/-- As the reference tests it. -/
theorem goodL_iff (c : UInt8) (r : List UInt8) : goodL (c :: r) = true ↔
    ¬ ((c.toNat : Int) = 45 ∨ (c.toNat : Int) = 46) ∧ (c :: r)[r.length]? ≠ some 46 ∧ (∀ (i : Nat) (x : UInt8), (c :: r)[i]? = some x → letterB x = true) ∧ (∀ i : Nat, ¬ ((c :: r)[i]? = some 46 ∧ (c :: r)[i + 1]? = some 46)) ∧ Lib.hasSuffix (c :: r) [46, 108, 111, 99, 107] = false := by
  have h1 : (decide (0 ≤ Lib.indexByte [45, 46] c)) = true ↔ _ := decide_eq_true_iff.trans (marks_iff c)
  have h2 := last_iff c r
  have h3 := dots_iff (c :: r)
  have h4 : (c :: r).all letterB = true ↔ ∀ (i : Nat) (x : UInt8), (c :: r)[i]? = some x → letterB x = true := by
    rw [List.all_eq_true]
    exact ⟨fun h i x hx => h x (List.mem_of_getElem? hx), fun h x hx => by obtain ⟨i, hi⟩ := List.getElem?_of_mem hx; exact h i x hi⟩
  show (!false && (!(decide (0 ≤ Lib.indexByte [45, 46] c)) && (!(Lib.hasSuffix (c :: r) [46]) && ((c :: r).all letterB && (!(Lib.contains (c :: r) [46, 46]) && !(Lib.hasSuffix (c :: r) [46, 108, 111, 99, 107])))))) = true ↔ _
  simp only [Bool.and_eq_true, Bool.not_eq_true', Bool.not_false, true_and]
  rw [← Bool.not_eq_true (decide _), h1, ← Bool.not_eq_true (Lib.hasSuffix (c :: r) [46]), h2, h4, ← Bool.not_eq_true (Lib.contains _ _), h3]
  simp only [not_exists]
end Go.Proofs.YtimfmbcihopaaaaGreatDoor
