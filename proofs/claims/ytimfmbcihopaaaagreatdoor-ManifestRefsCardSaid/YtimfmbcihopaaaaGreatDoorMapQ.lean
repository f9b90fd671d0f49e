/- The plain law of the parts of a text. -/
import Derived.Test.YtimfmbcihopaaaaGreatDoorMapC
import Derived.Lib.Split
namespace Go.Proofs.YtimfmbcihopaaaaGreatDoor
open Go.RowKit Go.Cof

def stepR (out : List (List UInt8)) (c : UInt8) : List (List UInt8) := if c = 47 then out ++ [[]] else out.dropLast ++ [out.getLastD [] ++ [c]]
def partsR (l : List UInt8) : List (List UInt8) := l.foldl stepR [[]]

theorem stepR_pre (p out : List (List UInt8)) (h : out ≠ []) (c : UInt8) : stepR (p ++ out) c = p ++ stepR out c := by
  unfold stepR
  split
  · rw [List.append_assoc]
  · rw [List.dropLast_append_of_ne_nil h, List.append_assoc]
    congr 2
    rw [List.getLastD_eq_getLast?, List.getLastD_eq_getLast?, List.getLast?_append, List.getLast?_eq_some_getLast h]
    rfl
theorem stepR_ne (out : List (List UInt8)) (c : UInt8) : stepR out c ≠ [] := by
  unfold stepR
  split <;> simp
theorem foldR_pre (p : List (List UInt8)) (l : List UInt8) : ∀ out, out ≠ [] → l.foldl stepR (p ++ out) = p ++ l.foldl stepR out := by
  induction l with
  | nil => intro out _; rfl
  | cons c l ih => intro out h; rw [List.foldl_cons, List.foldl_cons, stepR_pre p out h, ih _ (stepR_ne _ _)]
theorem foldR_plain (a : List UInt8) (h : ∀ x ∈ a, x ≠ 47) : ∀ x : List UInt8, a.foldl stepR [x] = [x ++ a] := by
  induction a with
  | nil => intro x; simp
  | cons c a ih =>
    intro x
    have hc : stepR [x] c = [x ++ [c]] := by simp [stepR, h c List.mem_cons_self]
    rw [List.foldl_cons, hc, ih (fun y hy => h y (List.mem_cons_of_mem _ hy))]
    simp

theorem index_miss (a : List UInt8) (h : ∀ x ∈ a, x ≠ 47) : Lib.index a [47] = -1 := by
  induction a with
  | nil => rfl
  | cons c a ih =>
    have hc : (47 : UInt8) ≠ c := fun e => h c List.mem_cons_self e.symm
    rw [Lib.index, ih (fun y hy => h y (List.mem_cons_of_mem _ hy))]
    simp [List.isPrefixOf, hc]
theorem index_at (a b : List UInt8) (h : ∀ x ∈ a, x ≠ 47) : Lib.index (a ++ 47 :: b) [47] = a.length := by
  induction a with
  | nil => simp [Lib.index, List.isPrefixOf]
  | cons c a ih =>
    have hc : (47 : UInt8) ≠ c := fun e => h c List.mem_cons_self e.symm
    rw [List.cons_append, Lib.index, ih (fun y hy => h y (List.mem_cons_of_mem _ hy))]
    have : ((a.length : Int) == -1) = false := by rw [beq_eq_false_iff_ne]; omega
    simp [List.isPrefixOf, hc, this]

theorem first_slash (l : List UInt8) : (∀ x ∈ l, x ≠ 47) ∨ ∃ a b, l = a ++ 47 :: b ∧ ∀ x ∈ a, x ≠ 47 := by
  induction l with
  | nil => exact .inl (by simp)
  | cons c l ih =>
    by_cases hc : c = 47
    · subst hc; exact .inr ⟨[], l, rfl, by simp⟩
    · rcases ih with h | ⟨a, b, rfl, h⟩
      · exact .inl (by simpa using ⟨hc, h⟩)
      · exact .inr ⟨c :: a, b, rfl, by simpa using ⟨hc, h⟩⟩

theorem split_parts (n : Nat) : ∀ (l : List UInt8), l.length ≤ n → Lib.splitK [47] 0 (Lib.count l [47]) l = partsR l := by
  induction n with
  | zero =>
    intro l hn
    obtain rfl : l = [] := List.eq_nil_of_length_eq_zero (by omega)
    rfl
  | succ n ihn =>
    intro l hn
    rcases first_slash l with h | ⟨a, b, rfl, h⟩
    · rw [Lib.count_miss (index_miss l h), Lib.splitK, partsR, foldR_plain l h]
      simp
    · have ih := ihn b (by simp at hn; omega)
      have hp : partsR (a ++ 47 :: b) = a :: partsR b := by
        rw [partsR, List.foldl_append, foldR_plain a h, List.foldl_cons]
        have : stepR [[] ++ a] 47 = [a] ++ [[]] := by simp [stepR]
        rw [this, foldR_pre [a] b _ (by simp)]
        rfl
      rw [hp, ← ih]
      have hi := index_at a b h
      have hd : (a ++ 47 :: b).drop (a.length + 1) = b := by simp
      have hm : ((a.length : Int) == -1) = false := by rw [beq_eq_false_iff_ne]; omega
      rw [Lib.count_hit (i := a.length) (by simp) hi, List.length_singleton, hd, Nat.add_comm 1, Lib.splitK, hi, hm]
      simp [hd]

theorem splitB_parts (s : ByteArray) : (Lib.splitB ⟨#[47]⟩ 0 (Lib.countB s ⟨#[47]⟩) s).map (·.data.toList) = partsR s.data.toList := by
  rw [Lib.splitB_data]
  exact split_parts _ _ (Nat.le_refl _)
end Go.Proofs.YtimfmbcihopaaaaGreatDoor
