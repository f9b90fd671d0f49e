/- 09.Kind. -/
import Derived.Test.YtimfmbcihopaaaaGreatDoorMapF
namespace Go.Proofs.YtimfmbcihopaaaaGreatDoor
open Go.RowKit Go.Cof

/-- The kind by the parts. -/
theorem kind_parts (l p : List UInt8) (h : ¬ 64 < l.length) (hall : (partsR l).all goodL = true) (h0 : (partsR l)[0]? = some p) :
    kindL l = if 1 < (partsR l).length ∧ p = [104, 101, 97, 100, 115] then 1 else if 1 < (partsR l).length ∧ p = [116, 97, 103, 115] then 2 else 0 := by
  have h1 := prefix_parts l [104, 101, 97, 100, 115] (by decide)
  have h2 := prefix_parts l [116, 97, 103, 115] (by decide)
  rw [h0, Option.some.injEq] at h1 h2
  rw [kindL, if_neg (by rw [hall]; simp; omega)]
  simp only [List.cons_append, List.nil_append] at h1 h2
  by_cases e1 : 1 < (partsR l).length ∧ p = [104, 101, 97, 100, 115]
  · rw [if_pos (h1.2 e1), if_pos e1]
  · rw [if_neg (fun h => e1 (h1.1 h)), if_neg e1]
    by_cases e2 : 1 < (partsR l).length ∧ p = [116, 97, 103, 115]
    · rw [if_pos (h2.2 e2), if_pos e2]
    · rw [if_neg (fun h => e2 (h2.1 h)), if_neg e2]

set_option maxHeartbeats 4000000 in
set_option maxRecDepth 100000 in
theorem rkind_any (w : World) (s : ByteArray) (hs : s.size < 4294967281) :
    Calls Tryz.prog 29 #[.string s] w fun e w' => e = .returned (.int .i64 (kindL s.data.toList)) ∧ Below w.heap.size w w' := by
  have hl : s.data.toList.length = s.size := by rw [Array.length_toList]; rfl
  have hparts := hide (rparts_any w s hs)
  have hplen := hide (parts_len s.data.toList)
  have hpcnt := parts_count s.data.toList
  have hpne := List.length_pos_iff.2 (parts_ne s.data.toList)
  have hk := hide (show kindL s.data.toList = _ from rfl)
  have Hl := hide hl
  obtain ⟨ps, hps⟩ : ∃ ps, ps = partsR s.data.toList := ⟨_, rfl⟩
  rw [← hps] at hparts hplen hpcnt hpne
  have Hps := hide hps
  rw [hl] at hpcnt
  clear hl hps
  go_enter Tryz.func29, Tryz.ntmps29
  by_cases h64 : 64 < s.size
  · go_wp2_with fail
    go_ret
    exact ⟨by rw [kindL, if_pos (.inl (by rw [Hl.out]; exact h64))]; rfl, Below.refl _ _⟩
  · go_wp2_with (go_at_call 56; refine hparts.out.mono ?_; rintro e w1 ⟨A, cap, rfl, hrd, hb1⟩)
    obtain ⟨b, off, rfl, hgb, hgl, hcells⟩ := hrd.at_ hpne
    have hcells' := hide hcells
    have Hb1 := hide hb1
    have hs1 := hb1.size
    clear hcells hrd hb1
    go_loopw [4] (fun i wr => ∃ k : Nat, i = .int .i64 k ∧ k ≤ ps.length ∧ (ps.take k).all goodL = true ∧ Below w1.heap.size w1 wr) (fun i _ => ps.length - (intOf i).toNat)
    case atStart => exact ⟨0, rfl, Nat.zero_le _, rfl, Below.refl _ _⟩
    case round =>
      obtain ⟨k, rfl, hk1, hall, hb⟩ := hrel
      have HB := hide hb
      have HA := hide hall
      clear hall
      by_cases hlt : k < ps.length
      · have hcell := (hb.cell (p := ⟨b, off + k, none⟩) hgl).trans (hcells'.out k (by omega))
        have hget : ps[k]? = some ps[k] := List.getElem?_eq_getElem hlt
        rw [List.getElem?_map, hget, Option.map_some, strV] at hcell
        have hpl := hplen.out _ (List.getElem_mem hlt)
        generalize ps[k] = p at hcell hget hpl
        have Hget := hide hget
        have hsz := hb.size
        have hpz : p.length < 4294967281 := by have := Hl.out; omega
        have Hpz := hide hpz
        have hmem := List.mem_of_getElem? hget
        have Hmem := hide hmem
        clear hb hget hpl hpz hmem
        rcases hgp : goodL p with _ | _
        · have Hgp := hide hgp
          go_wp2_with (go_at_call 57; refine (rgood_any _ p Hpz.out).mono ?_; rintro e w3 ⟨rfl, hb3⟩)
          go_ret
          have hno : (partsR s.data.toList).all goodL = false := by
            rw [← Hps.out, Bool.eq_false_iff]; intro h
            have := List.all_eq_true.1 h p Hmem.out
            rw [Hgp.out] at this; cases this
          exact ⟨by rw [kindL, if_pos (.inr hno)]; rfl, Hb1.out.trans ((HB.out.trans (hb3.mono hsz)).mono hs1)⟩
        · have Hgp := hide hgp
          go_wp2_with (go_at_call 57; refine (rgood_any _ p Hpz.out).mono ?_; rintro e w3 ⟨rfl, hb3⟩)
          refine ⟨⟨k + 1, by go_num, by omega, ?_, HB.out.trans (hb3.mono hsz)⟩, by simp only [intOf]; omega⟩
          rw [List.take_add_one, Hget.out, List.all_append, HA.out]
          simp [Hgp.out]
      · obtain rfl : k = ps.length := by omega
        have hall := HA.out
        rw [List.take_length] at hall
        have Hall := hide hall
        have c0 := (hb.cell (p := ⟨b, off + 0, none⟩) hgl).trans (hcells'.out 0 (by omega))
        have hget0 : ps[0]? = some ps[0] := List.getElem?_eq_getElem hpne
        rw [List.getElem?_map, hget0, Option.map_some, strV, Nat.add_zero] at c0
        generalize ps[0] = p at c0 hget0
        have Hget := hide hget0
        have hkind := hide (kind_parts s.data.toList p (by rw [Hl.out]; exact h64) (by rw [← Hps.out]; exact Hall.out) (by rw [← Hps.out]; exact hget0))
        rw [← Hps.out] at hkind
        clear hall hb hget0
        go_wp2_with fail
        all_goals go_ret
        all_goals refine ⟨?_, Hb1.out.trans (HB.out.mono hs1)⟩
        · rw [hkind.out, if_pos ⟨by omega, eq_of_beq (by assumption)⟩]; rfl
        · have e : p = [116, 97, 103, 115] := eq_of_beq (by assumption)
          rw [hkind.out, if_neg (fun h => by rw [e] at h; exact absurd h.2 (by decide)), if_pos ⟨by omega, e⟩]; rfl
        · have e1 : (p == [104, 101, 97, 100, 115]) = false := by assumption
          have e2 : (p == [116, 97, 103, 115]) = false := by assumption
          rw [hkind.out, if_neg (fun h => by rw [h.2] at e1; exact absurd e1 (by decide)), if_neg (fun h => by rw [h.2] at e2; exact absurd e2 (by decide))]; rfl
        · rw [hkind.out, if_neg (by omega), if_neg (by omega)]; rfl
end Go.Proofs.YtimfmbcihopaaaaGreatDoor
