/- names.Kind. -/
import Derived.Test.YtimfmbcihopaaaaGreatDoorMapD
namespace Go.Proofs.YtimfmbcihopaaaaGreatDoor
open Go.RowKit Go.Cof

def kindL (l : List UInt8) : Nat :=
  if 64 < l.length ∨ (partsR l).all goodL = false then 0 else if Lib.hasPrefix l [104, 101, 97, 100, 115, 47] then 1 else if Lib.hasPrefix l [116, 97, 103, 115, 47] then 2 else 0

set_option maxHeartbeats 4000000 in
set_option maxRecDepth 100000 in
theorem nkind_any (w : World) (s : ByteArray) (m : Int) (hs : s.size < 4294967281) (hm : w.cell? ⟨0, 0, none⟩ = some (.int .i64 m)) :
    Calls Tryz.prog 18 #[.string s] w fun e w' => e = .returned (.int .i64 (kindL s.data.toList)) ∧ Below w.heap.size w w' := by
  have hl : s.data.toList.length = s.size := by rw [Array.length_toList]; rfl
  have Hm := hide hm
  clear hm
  by_cases h64 : 64 < s.size
  · have Hk := hide (show kindL s.data.toList = 0 by rw [kindL, hl, if_pos (.inl h64)])
    clear hl
    go_enter Tryz.func18, Tryz.ntmps18
    go_wp2_with (first | (go_at_call 49; refine (nall_any _ s m hs Hm.out).mono ?_; rintro e w3 ⟨rfl, hb3⟩) | (go_at_call 51; refine (Tryz.strings_HasPrefix s _ _).mono ?_; rintro e w4 ⟨rfl, rfl⟩))
    go_ret
    exact ⟨by rw [Hk.out]; rfl, by first | exact Below.refl _ _ | exact hb3⟩
  · rcases hg : (partsR s.data.toList).all goodL with _ | _
    · have Hk := hide (show kindL s.data.toList = 0 by rw [kindL, if_pos (.inr hg)])
      clear hl
      go_enter Tryz.func18, Tryz.ntmps18
      go_wp2_with (first | (go_at_call 49; refine (nall_any _ s m hs Hm.out).mono ?_; rintro e w3 ⟨rfl, hb3⟩) | (go_at_call 51; refine (Tryz.strings_HasPrefix s _ _).mono ?_; rintro e w4 ⟨rfl, rfl⟩))
      go_ret
      exact ⟨by rw [Hk.out]; rfl, by first | exact Below.refl _ _ | exact hb3⟩
    · rcases h1 : Lib.hasPrefix s.data.toList [104, 101, 97, 100, 115, 47] with _ | _
      · rcases h2 : Lib.hasPrefix s.data.toList [116, 97, 103, 115, 47] with _ | _
        · have Hk := hide (show kindL s.data.toList = 0 by rw [kindL, hl, if_neg (by rw [hg]; simp; omega), h1, h2]; rfl)
          clear hl
          go_enter Tryz.func18, Tryz.ntmps18
          go_wp2_with (first | (go_at_call 49; refine (nall_any _ s m hs Hm.out).mono ?_; rintro e w3 ⟨rfl, hb3⟩) | (go_at_call 51; refine (Tryz.strings_HasPrefix s _ _).mono ?_; rintro e w4 ⟨rfl, rfl⟩))
          go_ret
          exact ⟨by rw [Hk.out]; rfl, by first | exact Below.refl _ _ | exact hb3⟩
        · have Hk := hide (show kindL s.data.toList = 2 by rw [kindL, hl, if_neg (by rw [hg]; simp; omega), h1, h2]; rfl)
          clear hl
          go_enter Tryz.func18, Tryz.ntmps18
          go_wp2_with (first | (go_at_call 49; refine (nall_any _ s m hs Hm.out).mono ?_; rintro e w3 ⟨rfl, hb3⟩) | (go_at_call 51; refine (Tryz.strings_HasPrefix s _ _).mono ?_; rintro e w4 ⟨rfl, rfl⟩))
          go_ret
          exact ⟨by rw [Hk.out]; rfl, by first | exact Below.refl _ _ | exact hb3⟩
      · have Hk := hide (show kindL s.data.toList = 1 by rw [kindL, hl, if_neg (by rw [hg]; simp; omega), h1]; rfl)
        clear hl
        go_enter Tryz.func18, Tryz.ntmps18
        go_wp2_with (first | (go_at_call 49; refine (nall_any _ s m hs Hm.out).mono ?_; rintro e w3 ⟨rfl, hb3⟩) | (go_at_call 51; refine (Tryz.strings_HasPrefix s _ _).mono ?_; rintro e w4 ⟨rfl, rfl⟩))
        go_ret
        exact ⟨by rw [Hk.out]; rfl, by first | exact Below.refl _ _ | exact hb3⟩

theorem slash_same : ∀ (a a' b b' : List UInt8), (∀ x ∈ a, x ≠ 47) → (∀ x ∈ a', x ≠ 47) → a ++ 47 :: b = a' ++ 47 :: b' → a = a'
  | [], [], _, _, _, _, _ => rfl
  | [], c :: a', _, _, _, h, e => by
    simp only [List.nil_append, List.cons_append, List.cons.injEq] at e
    exact absurd e.1.symm (h c List.mem_cons_self)
  | c :: a, [], _, _, h, _, e => by
    simp only [List.nil_append, List.cons_append, List.cons.injEq] at e
    exact absurd e.1 (h c List.mem_cons_self)
  | c :: a, d :: a', b, b', h, h', e => by
    simp only [List.cons_append, List.cons.injEq] at e
    rw [e.1, slash_same a a' b b' (fun x hx => h x (List.mem_cons_of_mem _ hx)) (fun x hx => h' x (List.mem_cons_of_mem _ hx)) e.2]

/-- The first part of more than one. -/
theorem prefix_parts (l p : List UInt8) (hp : ∀ x ∈ p, x ≠ 47) : Lib.hasPrefix l (p ++ [47]) = true ↔ 1 < (partsR l).length ∧ (partsR l)[0]? = some p := by
  rw [Lib.hasPrefix, List.isPrefixOf_iff_prefix]
  rcases first_slash l with h | ⟨a, b, rfl, h⟩
  · have hpl : partsR l = [l] := by rw [partsR, foldR_plain l h]; simp
    rw [hpl]
    constructor
    · rintro ⟨t, ht⟩
      exact absurd rfl (h 47 (by rw [← ht]; simp))
    · rintro ⟨h1, _⟩
      simp at h1
  · have hpl : partsR (a ++ 47 :: b) = a :: partsR b := by
      rw [partsR, List.foldl_append, foldR_plain a h, List.foldl_cons]
      have : stepR [[] ++ a] 47 = [a] ++ [[]] := by simp [stepR]
      rw [this, foldR_pre [a] b _ (by simp)]
      rfl
    have hne : partsR b ≠ [] := by
      rw [partsR]
      have : ∀ (l : List UInt8) (o : List (List UInt8)), o ≠ [] → l.foldl stepR o ≠ [] := fun l => by
        induction l with
        | nil => intro o ho; exact ho
        | cons c l ih => intro o _; exact ih _ (stepR_ne _ _)
      exact this b _ (by simp)
    rw [hpl]
    constructor
    · rintro ⟨t, ht⟩
      have : p = a := slash_same p a t b hp h (by rw [← ht]; simp)
      subst this
      have := List.length_pos_iff.2 hne
      exact ⟨by simp; omega, rfl⟩
    · rintro ⟨_, h1⟩
      simp only [List.getElem?_cons_zero, Option.some.injEq] at h1
      subst h1
      exact ⟨b, by simp⟩
end Go.Proofs.YtimfmbcihopaaaaGreatDoor
