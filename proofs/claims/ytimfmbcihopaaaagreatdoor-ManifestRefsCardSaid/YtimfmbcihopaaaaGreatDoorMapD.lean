/- The kind of a reference's name. -/
import Derived.Test.YtimfmbcihopaaaaGreatDoorMapQ
import Derived.Lib.SplitLaws
namespace Go.Proofs.YtimfmbcihopaaaaGreatDoor
open Go.RowKit Go.Cof

theorem ngood_b (w : World) (s : ByteArray) (m : Int) (hs : s.size < 4294967281) (hm : w.cell? ⟨0, 0, none⟩ = some (.int .i64 m)) :
    Calls Tryz.prog 50 #[.string s] w fun e w' => e = .returned (.bool (goodL s.data.toList)) ∧ Below w.heap.size w w' :=
  ngood_any w s.data.toList m (by rw [Array.length_toList]; exact hs) hm
theorem rgood_b (w : World) (s : ByteArray) (hs : s.size < 4294967281) :
    Calls Tryz.prog 57 #[.string s] w fun e w' => e = .returned (.bool (goodL s.data.toList)) ∧ Below w.heap.size w w' :=
  rgood_any w s.data.toList (by rw [Array.length_toList]; exact hs)

theorem stepR_len (n : Nat) (out : List (List UInt8)) (c : UInt8) (h : ∀ p ∈ out, p.length ≤ n) : ∀ p ∈ stepR out c, p.length ≤ n + 1 := by
  intro p hp
  unfold stepR at hp
  split at hp
  · rcases List.mem_append.1 hp with hp | hp
    · have := h p hp; omega
    · simp at hp; subst hp; simp
  · rcases List.mem_append.1 hp with hp | hp
    · have := h p (List.dropLast_subset out hp); omega
    · simp only [List.mem_singleton] at hp
      subst hp
      have hg : out.getLastD [] = [] ∨ out.getLastD [] ∈ out := by
        rw [List.getLastD_eq_getLast?]
        cases hv : out.getLast? with
        | none => exact .inl rfl
        | some v => exact .inr (List.mem_of_getLast? hv)
      rw [List.length_append, List.length_singleton]
      rcases hg with hg | hg
      · rw [hg]; simp
      · have := h _ hg; omega
theorem foldR_len (l : List UInt8) : ∀ (n : Nat) (out : List (List UInt8)), (∀ p ∈ out, p.length ≤ n) → ∀ p ∈ l.foldl stepR out, p.length ≤ n + l.length := by
  induction l with
  | nil => intro n out h p hp; exact h p hp
  | cons c l ih =>
    intro n out h p hp
    have := ih (n + 1) _ (stepR_len n out c h) p hp
    simp only [List.length_cons]; omega
theorem parts_len (l : List UInt8) : ∀ p ∈ partsR l, p.length ≤ l.length := fun p hp => by
  have := foldR_len l 0 [[]] (by simp) p hp
  omega

set_option maxHeartbeats 4000000 in
set_option maxRecDepth 100000 in
theorem nall_any (w : World) (s : ByteArray) (m : Int) (hs : s.size < 4294967281) (hm : w.cell? ⟨0, 0, none⟩ = some (.int .i64 m)) :
    Calls Tryz.prog 49 #[.string s, .func (.func 50) #[] #[]] w fun e w' => e = .returned (.bool ((partsR s.data.toList).all goodL)) ∧ Below w.heap.size w w' := by
  obtain ⟨ps, hps⟩ : ∃ ps, ps = Lib.splitB ⟨#[47]⟩ 0 (Lib.countB s ⟨#[47]⟩) s := ⟨_, rfl⟩
  have hn : Lib.countB s ⟨#[47]⟩ + 1 = ps.length := by rw [hps, Lib.splitB_all _ (by decide) 0 _ s rfl]
  have hmap := splitB_parts s
  rw [← hps] at hmap
  have Hmap := hide hmap
  have hsp := Tryz.strings_Split s ⟨#[47]⟩ m w hs hm (by decide)
  rw [hn, ← hps] at hsp
  have Hsp := hide hsp
  have Hps := hide hps
  have hw : 0 < w.heap.size := cell_lt hm
  have hlens : ∀ (k : Nat) (h : k < ps.length), (ps[k]).size < 4294967281 := fun k h => by
    have h1 : ps[k].data.toList ∈ partsR s.data.toList := by rw [← hmap]; exact List.mem_map_of_mem (List.getElem_mem h)
    have h2 := parts_len _ _ h1
    rw [Array.length_toList, Array.length_toList] at h2
    exact Nat.lt_of_le_of_lt h2 hs
  have Hlens := hide hlens
  have hpl : ps.length ≤ s.size + 1 := by rw [← hn]; have := Lib.countB_le ⟨#[47]⟩ (by decide) s.size s (Nat.le_refl _); omega
  clear hmap hsp hps hn hlens
  have hm1 : (w.alloc (.cells (ps.map Value.string).toArray 9)).cell? ⟨0, 0, none⟩ = some (.int .i64 m) := (((Below.refl w.heap.size w).alloc (Nat.le_refl _) _).cell (p := ⟨0, 0, none⟩) hw).trans hm
  have Hm1 := hide hm1
  clear hm1 hm
  go_enter Tryz.func49, Tryz.ntmps49
  go_wp2_with (go_at_call 65; refine Hsp.out.mono ?_; rintro e w1 ⟨rfl, rfl⟩)
  go_loopw [10] (fun i wr => ∃ k : Nat, i = .int .i64 k ∧ k ≤ ps.length ∧ ((ps.take k).all fun p => goodL p.data.toList) = true ∧ Below (w.heap.size + 1) (w.alloc (.cells (ps.map Value.string).toArray 9)) wr) (fun i _ => ps.length - (intOf i).toNat)
  case atStart => exact ⟨0, rfl, Nat.zero_le _, rfl, Below.refl _ _⟩
  case round =>
    obtain ⟨k, rfl, hk, hall, hb⟩ := hrel
    have HA := hide hall
    have HB := hide hb
    have hb0 : Below w.heap.size w wr := ((Below.refl w.heap.size w).alloc (Nat.le_refl _) _).trans (hb.mono (Nat.le_succ _))
    have HB0 := hide hb0
    have hsz := hb.size
    simp only [World.size_alloc] at hsz
    clear hall
    by_cases hlt : k < ps.length
    · have hcell : wr.cell? ⟨w.heap.size, k, none⟩ = some (.string ps[k]) := (hb.cell (p := ⟨w.heap.size, k, none⟩) (Nat.lt_succ_self _)).trans (by simp [hlt])
      have hmr : wr.cell? ⟨0, 0, none⟩ = some (.int .i64 m) := (hb.cell (p := ⟨0, 0, none⟩) (Nat.succ_pos _)).trans Hm1.out
      have Hmr := hide hmr
      have hpz := Hlens.out k hlt
      have hgk : ps[k]? = some ps[k] := List.getElem?_eq_getElem hlt
      generalize ps[k] = p at hcell hpz hgk
      have Hgk := hide hgk
      have Hpz := hide hpz
      clear hb hb0 hmr hgk hpz
      go_wp2_with (go_at_call 50; refine (ngood_b _ p m Hpz.out Hmr.out).mono ?_; rintro e w3 ⟨rfl, hb3⟩)
      · have hf : goodL p.data.toList = false := by
          have : (!goodL p.data.toList) = true := by assumption
          simpa using this
        go_ret
        refine ⟨?_, HB0.out.trans (hb3.mono (by omega))⟩
        have : (partsR s.data.toList).all goodL = false := by
          rw [Bool.eq_false_iff]; intro h
          rw [← Hmap.out, List.all_map, List.all_eq_true] at h
          have := h p (List.mem_of_getElem? Hgk.out)
          simp only [Function.comp_apply, hf] at this
          cases this
        rw [this]; rfl
      · have ht : goodL p.data.toList = true := by
          have : (!goodL p.data.toList) = false := by assumption
          simpa using this
        refine ⟨⟨k + 1, by congr 1, by omega, ?_, HB.out.trans (hb3.mono (by omega))⟩, by simp only [intOf]; omega⟩
        rw [List.take_add_one, Hgk.out, List.all_append, HA.out]
        simp [ht]
    · have hb' := hb
      clear hb hb0
      go_wp2_with fail
      go_ret
      obtain rfl : k = ps.length := by omega
      have hall := HA.out
      rw [List.take_length] at hall
      refine ⟨?_, HB0.out⟩
      rw [← Hmap.out, List.all_map]
      exact congrArg (fun b => Ending.returned (Value.bool b)) hall.symm
end Go.Proofs.YtimfmbcihopaaaaGreatDoor
