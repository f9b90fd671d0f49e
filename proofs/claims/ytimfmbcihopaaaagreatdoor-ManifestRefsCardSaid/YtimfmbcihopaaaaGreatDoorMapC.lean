/- What may be a part of a reference's name: the reference's answer. -/
import Derived.Test.YtimfmbcihopaaaaGreatDoorMapP
namespace Go.Proofs.YtimfmbcihopaaaaGreatDoor
open Go.RowKit Go.Cof

theorem w64 (n : Int) (h : -9223372036854775808 ≤ n ∧ n ≤ 9223372036854775807) : wrap64 n = n := by unfold wrap64; omega

theorem get_of (s : ByteArray) (l : List UInt8) (hl : s.data.toList = l) (i : Nat) (h : i < s.size) : l[i]? = some (s[i]'h) := by
  subst hl
  rw [List.getElem?_eq_getElem (by rw [Array.length_toList]; exact h)]
  rfl

set_option maxHeartbeats 4000000 in
set_option maxRecDepth 100000 in
theorem rgood_any (w : World) (l : List UInt8) (hs : l.length < 4294967281) :
    Calls Tryz.prog 57 #[.string ⟨l.toArray⟩] w fun e w' => e = .returned (.bool (goodL l)) ∧ Below w.heap.size w w' := by
  rcases l with _ | ⟨c, r⟩
  · go_enter Tryz.func57, Tryz.ntmps57
    go_wp2_with fail
    all_goals go_ret
    all_goals exact ⟨rfl, Below.refl _ _⟩
  · have he := nonempty_of c r
    obtain ⟨s, hsd⟩ : ∃ s : ByteArray, s = ⟨(c :: r).toArray⟩ := ⟨_, rfl⟩
    rw [← hsd] at he ⊢
    have hl : s.data.toList = c :: r := by rw [hsd]
    have hz : s.size = r.length + 1 := by rw [hsd]; rfl
    rw [← hl]
    have Hl := hide hl
    clear hl hsd
    have hget := hide (fun (i : Nat) (h : i < s.size) => get_of s _ Hl.out i h)
    have h0 : s[0]'(by omega) = c := by have := hget.out 0 (by omega); simpa using this.symm
    obtain ⟨z, hz2⟩ : ∃ z, s[r.length]'(by omega) = z := ⟨_, rfl⟩
    have hlast : (c :: r)[r.length]? = some z := by rw [← hz2]; exact hget.out _ _
    have hwl : wrap64 (r.length : Int) = r.length := w64 _ (by simp at hs; omega)
    have Hlast := hide hlast
    clear hlast
    go_enter Tryz.func57, Tryz.ntmps57
    by_cases hc : (c.toNat : Int) = 45 ∨ (c.toNat : Int) = 46
    · have hg : goodL s.data.toList = false := by
        rw [Hl.out, Bool.eq_false_iff]; intro h; exact ((goodL_iff c r).1 h).1 hc
      go_wp2_with fail
      all_goals (try (go_ret; exact ⟨by rw [hg]; rfl, Below.refl _ _⟩))
      all_goals (exfalso; omega)
    · by_cases hzz : (z.toNat : Int) = 46
      · have hg : goodL s.data.toList = false := by
          rw [Hl.out, Bool.eq_false_iff]; intro h; refine ((goodL_iff c r).1 h).2.1 ?_
          rw [Hlast.out, show z = 46 from UInt8.toNat_inj.1 (by show z.toNat = 46; omega)]
        have hc1 : ¬ (c.toNat : Int) = 45 := fun h => hc (.inl h)
        have hc2 : ¬ (c.toNat : Int) = 46 := fun h => hc (.inr h)
        clear hc
        go_wp2_with fail
        all_goals (try (go_ret; exact ⟨by rw [hg]; rfl, Below.refl _ _⟩))
        all_goals (exfalso; omega)
      · have hc1 : ((c.toNat : Int) == 45) = false := by simp; omega
        have hc2 : ((c.toNat : Int) == 46) = false := by simp; omega
        have hz3 : ((z.toNat : Int) == 46) = false := by simp; omega
        have Hc := hide hc
        have Hz := hide hzz
        clear hc hzz
        go_wp2_with fail
        have Hwl := hide hwl
        clear hwl
        go_loopw [3] (fun i wr => ∃ k : Nat, i = .int .i64 k ∧ k ≤ s.size ∧ wr = w ∧ (∀ (j : Nat) (x : UInt8), j < k → (c :: r)[j]? = some x → letterB x = true) ∧ (∀ j : Nat, j + 1 < k → ¬ ((c :: r)[j]? = some 46 ∧ (c :: r)[j + 1]? = some 46))) (fun i _ => s.size - (intOf i).toNat)
        case atStart => exact ⟨0, rfl, Nat.zero_le _, rfl, fun j _ h => by omega, fun j h => by omega⟩
        case round =>
          obtain ⟨k, rfl, hk, rfl, hall, hdots⟩ := hrel
          have HA := hide hall
          have HD := hide hdots
          clear hall hdots
          by_cases hlt : k < s.size
          · rcases k with _ | k
            · by_cases hlet : letterI (c.toNat : Int) = true
              · go_wp2_with (go_at_call 73; refine (rletter_any _ (c.toNat : Int) (by omega) (by have := c.toNat_lt; omega)).mono ?_; rintro e w3 ⟨rfl, rfl⟩)
                refine ⟨⟨1, rfl, by omega, trivial, fun j x hj hx => ?_, fun j hj => by omega⟩, by simp [intOf]; omega⟩
                obtain rfl : j = 0 := by omega
                obtain rfl : c = x := by simpa using hx
                exact hlet
              · have hlf : letterI (c.toNat : Int) = false := by simpa using hlet
                have hg : goodL s.data.toList = false := by
                  rw [Hl.out, Bool.eq_false_iff]; intro h; exact hlet (((goodL_iff c r).1 h).2.2.1 0 c rfl)
                go_wp2_with (go_at_call 73; refine (rletter_any _ (c.toNat : Int) (by omega) (by have := c.toNat_lt; omega)).mono ?_; rintro e w3 ⟨rfl, rfl⟩)
                go_ret
                exact ⟨by rw [hg]; rfl, Below.refl _ _⟩
            · obtain ⟨x, hx⟩ : ∃ x, s[k + 1]'hlt = x := ⟨_, rfl⟩
              obtain ⟨y, hy⟩ : ∃ y, s[k]'(by omega) = y := ⟨_, rfl⟩
              have hgx : (c :: r)[k + 1]? = some x := by rw [← hx]; exact hget.out _ _
              have hgy : (c :: r)[k]? = some y := by rw [← hy]; exact hget.out _ _
              have hwk : wrap64 (k : Int) = k := w64 _ (by simp at hs; omega)
              have Hw2 := hide (w64 ((k : Int) + 1 + 1) (by simp at hs; omega))
              have Hgx := hide hgx
              have Hgy := hide hgy
              clear hgx hgy
              by_cases hlet : letterI (x.toNat : Int) = true
              · by_cases hdd : (x.toNat : Int) = 46 ∧ (y.toNat : Int) = 46
                · have hg : goodL s.data.toList = false := by
                    rw [Hl.out, Bool.eq_false_iff]; intro h
                    refine ((goodL_iff c r).1 h).2.2.2.1 k ⟨?_, ?_⟩
                    · rw [Hgy.out, show y = 46 from UInt8.toNat_inj.1 (by show y.toNat = 46; omega)]
                    · rw [Hgx.out, show x = 46 from UInt8.toNat_inj.1 (by show x.toNat = 46; omega)]
                  obtain ⟨hd1, hd2⟩ := hdd
                  go_wp2_with (go_at_call 73; refine (rletter_any _ _ (by omega) (by have := x.toNat_lt; omega)).mono ?_; rintro e w3 ⟨rfl, rfl⟩)
                  all_goals go_ret
                  all_goals exact ⟨by rw [hg]; rfl, Below.refl _ _⟩
                · have Hdd := hide hdd
                  clear hdd
                  go_wp2_with (go_at_call 73; refine (rletter_any _ _ (by omega) (by have := x.toNat_lt; omega)).mono ?_; rintro e w3 ⟨rfl, rfl⟩)
                  any_goals (exfalso; refine Hdd.out ⟨?_, ?_⟩ <;> first | assumption | (refine eq_of_beq ?_; assumption))
                  all_goals
                    refine ⟨⟨k + 2, by rw [Hw2.out]; congr 1, by omega, trivial, fun j x' hj hx' => ?_, fun j hj hx' => ?_⟩, by rw [Hw2.out]; simp only [intOf]; omega⟩
                    · rcases Nat.lt_or_ge j (k + 1) with h | h
                      · exact HA.out j x' h hx'
                      · obtain rfl : j = k + 1 := by omega
                        rw [Hgx.out] at hx'
                        obtain rfl := Option.some.inj hx'
                        exact hlet
                    · rcases Nat.lt_or_ge (j + 1) (k + 1) with h | h
                      · exact HD.out j h hx'
                      · obtain rfl : j = k := by omega
                        rw [Hgx.out, Hgy.out] at hx'
                        exact Hdd.out ⟨by rw [Option.some.inj hx'.2]; rfl, by rw [Option.some.inj hx'.1]; rfl⟩
              · have hlf : letterI (x.toNat : Int) = false := by simpa using hlet
                have hg : goodL s.data.toList = false := by
                  rw [Hl.out, Bool.eq_false_iff]; intro h; exact hlet (((goodL_iff c r).1 h).2.2.1 _ x Hgx.out)
                go_wp2_with (go_at_call 73; refine (rletter_any _ _ (by omega) (by have := x.toNat_lt; omega)).mono ?_; rintro e w3 ⟨rfl, rfl⟩)
                go_ret
                exact ⟨by rw [hg]; rfl, Below.refl _ _⟩
          · have hk2 : k = r.length + 1 := by omega
            have hyes : goodL s.data.toList = !Lib.hasSuffix (c :: r) [46, 108, 111, 99, 107] := by
              rw [Hl.out]
              have h1 : (∀ (i : Nat) (x : UInt8), (c :: r)[i]? = some x → letterB x = true) := fun i x hx => HA.out i x (by have := (List.getElem?_eq_some_iff.1 hx).1; simp at this; omega) hx
              have h2 : (∀ i : Nat, ¬ ((c :: r)[i]? = some 46 ∧ (c :: r)[i + 1]? = some 46)) := fun i hx => HD.out i (by have := (List.getElem?_eq_some_iff.1 hx.2).1; simp at this; omega) hx
              have h3 : (c :: r)[r.length]? ≠ some 46 := by
                rw [Hlast.out]; intro h; exact Hz.out (by rw [Option.some.inj h]; rfl)
              rw [Bool.eq_iff_iff, goodL_iff, Bool.not_eq_true']
              exact ⟨fun h => h.2.2.2.2, fun h => ⟨Hc.out, h3, h1, h2, h⟩⟩
            have Hy := hide hyes
            clear hyes
            by_cases h5 : r.length + 1 < 5
            · go_wp2_with fail
              go_ret
              exact ⟨by rw [Hy.out, lock_short _ (by simpa using h5)]; rfl, Below.refl _ _⟩
            · have hw5 : wrap64 ((r.length : Int) + 1 - 5) = ((r.length - 4 : Nat) : Int) := by rw [w64 _ (by simp at hs; omega)]; omega
              have hex : (s.extract (r.length - 4) (r.length + 1)).toList = (c :: r).drop (r.length - 4) := by
                rw [ByteArray.toList_eq, ByteArray.data_extract, Array.toList_extract, Hl.out]
                simp only [List.extract_eq_take_drop]
                rw [List.take_of_length_le (by simp)]
              have hl5 := lock_iff (c :: r)
              rw [show (c :: r).length - 5 = r.length - 4 by simp] at hl5
              have Hex := hide hex
              have Hl5 := hide hl5
              clear hex hl5
              go_wp2_with fail
              go_ret
              refine ⟨congrArg (fun b => Ending.returned (Value.bool b)) ?_, Below.refl _ _⟩
              rw [Hy.out, Hex.out]
              have h5' : ¬ (r.length : Int) + 1 < 5 := by omega
              rw [decide_eq_false h5', Bool.false_or]
              exact congrArg not (Bool.eq_iff_iff.2 (beq_iff_eq.trans Hl5.out.symm))
end Go.Proofs.YtimfmbcihopaaaaGreatDoor
