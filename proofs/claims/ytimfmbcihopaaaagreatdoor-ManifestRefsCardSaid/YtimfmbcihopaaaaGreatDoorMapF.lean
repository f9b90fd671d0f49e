/- 09.parts and 09.Kind. -/
import Derived.Test.YtimfmbcihopaaaaGreatDoorMapE
namespace Go.Proofs.YtimfmbcihopaaaaGreatDoor
open Go.RowKit Go.Cof

theorem Tryz.info9 : (Tryz.prog.info? 9).map (fun i => (i.zero, i.size, i.bytes)) = some (some (.string ⟨#[]⟩), 1, 16) := by kernel_rfl

def strV (l : List UInt8) : Value := .string ⟨l.toArray⟩

theorem own_get {w : World} {base g n cap : Nat} {e : TypeId} {xs : List Value} (h : w.ownsRow base e 1 (.slice (some ⟨g, 0, none⟩) n cap) n xs) (j : Nat) (hj : j < n) : w.cell? ⟨g, j, none⟩ = xs[j]? := by
  have := (Rd.of_own (S := fun _ => True) h (fun _ _ _ => trivial)).cell rfl (j := j) (by omega)
  simpa using this
theorem own_at {w : World} {base g n cap : Nat} {e : TypeId} {xs : List Value} (h : w.ownsRow base e 1 (.slice (some ⟨g, 0, none⟩) n cap) n xs) : base ≤ g ∧ g < w.heap.size ∧ ∃ cur, w.heap[g]? = some (.cells cur e (0, 0)) ∧ n ≤ cap ∧ cap ≤ maxLen ∧ cur.size = cap ∧ cur.toList.take n = xs := by
  rcases h.2 with ⟨hv, _⟩ | ⟨g', cap', cur, hv, hb, hg, h1, h2, h3, h4⟩
  · simp at hv
  · simp only [Value.slice.injEq, Option.some.injEq, Addr.mk.injEq, true_and, and_true] at hv
    obtain ⟨rfl, rfl⟩ := hv
    exact ⟨hb, (Array.getElem?_eq_some_iff.1 hg).1, cur, hg, h1, h2, by simpa using h3, by simpa using h4⟩
theorem own_set {w : World} {base g n cap : Nat} {e : TypeId} {xs : List Value} (h : w.ownsRow base e 1 (.slice (some ⟨g, 0, none⟩) n cap) n xs) (j : Nat) (u : Value) : (w.setCell ⟨g, j, none⟩ u).ownsRow base e 1 (.slice (some ⟨g, 0, none⟩) n cap) n (xs.set j u) := by
  obtain ⟨hb, _, cur, hg, h1, h2, h3, h4⟩ := own_at h
  refine ⟨by rw [List.length_set]; exact h.1, .inr ⟨g, cap, _, rfl, hb, heap_setCell_same w g j cur e u hg, h1, h2, by simpa using h3, ?_⟩⟩
  rw [Nat.mul_one, Array.toList_setIfInBounds, ← h4, List.take_set]

theorem parts_take (l : List UInt8) (k : Nat) (c : UInt8) (h : l[k]? = some c) : partsR (l.take (k + 1)) = stepR (partsR (l.take k)) c := by
  rw [List.take_add_one, h, partsR, List.foldl_append]
  rfl
theorem parts_ne (l : List UInt8) : partsR l ≠ [] := by
  have : ∀ (l : List UInt8) (o : List (List UInt8)), o ≠ [] → l.foldl stepR o ≠ [] := fun l => by
    induction l with
    | nil => intro o ho; exact ho
    | cons c l ih => intro o _; exact ih _ (stepR_ne _ _)
  exact this l _ (by simp)
theorem parts_count (l : List UInt8) : (partsR l).length ≤ l.length + 1 := by
  have : ∀ (l : List UInt8) (o : List (List UInt8)), (l.foldl stepR o).length ≤ o.length + l.length + 1 - (if o = [] then 0 else 1) := fun l => by
    induction l with
    | nil => intro o; split <;> simp_all
    | cons c l ih =>
      intro o
      have h1 := ih (stepR o c)
      rw [if_neg (stepR_ne _ _)] at h1
      have h2 : (stepR o c).length ≤ o.length + 1 := by
        unfold stepR
        split <;> simp
      rw [List.foldl_cons, List.length_cons]
      split <;> simp_all <;> omega
  have := this l [[]]
  simp only [partsR]
  simp at this
  omega

theorem extract_one (s : ByteArray) (k : Nat) (h : k < s.size) : s.extract k (k + 1) = ⟨#[s[k]'h]⟩ := by
  apply ByteArray.ext
  apply Array.toList_inj.1
  rw [ByteArray.data_extract, Array.toList_extract, List.extract_eq_take_drop, Nat.add_sub_cancel_left]
  have hk : k < s.data.toList.length := by rw [Array.length_toList]; exact h
  rw [List.take_one, List.head?_drop, List.getElem?_eq_getElem hk]
  rfl

theorem own_first (w : World) (e : TypeId) (u : Value) : (w.alloc (.cells #[u] e)).ownsRow w.heap.size e 1 (.slice (some ⟨w.heap.size, 0, none⟩) 1 1) 1 [u] :=
  ⟨rfl, .inr ⟨_, 1, #[u], rfl, Nat.le_refl _, by show (w.heap.push _)[w.heap.size]? = _; simp, Nat.le_refl _, by unfold maxLen; omega, rfl, rfl⟩⟩

/-- The loop's head. -/
def PRel (w : World) (s : ByteArray) (out : Value) (k : Nat) (wr : World) : Prop :=
  ∃ g cap, out = .slice (some ⟨g, 0, none⟩) (partsR (s.data.toList.take k)).length cap ∧ wr.ownsRow w.heap.size 9 1 out (partsR (s.data.toList.take k)).length ((partsR (s.data.toList.take k)).map strV) ∧ Below w.heap.size w wr

set_option maxHeartbeats 4000000 in
set_option maxRecDepth 100000 in
theorem rparts_any (w : World) (s : ByteArray) (hs : s.size < 4294967281) :
    Calls Tryz.prog 56 #[.string s] w fun e w' => ∃ A cap, e = .returned (.slice A (partsR s.data.toList).length cap) ∧ Rd w' (fun b => w.heap.size ≤ b) 1 A (partsR s.data.toList).length ((partsR s.data.toList).map strV) ∧ Below w.heap.size w w' := by
  have hl : s.data.toList.length = s.size := by rw [Array.length_toList]; rfl
  go_enter Tryz.func56, Tryz.ntmps56
  go_wp2_with fail
  go_loopw [3, 4] (fun out i wr => ∃ k : Nat, i = .int .i64 k ∧ k ≤ s.size ∧ PRel w s out k wr) (fun _ i _ => s.size - (intOf i).toNat)
  case atStart =>
    refine ⟨0, rfl, Nat.zero_le _, w.heap.size, 1, rfl, own_first w _ _, (Below.refl _ _).alloc (Nat.le_refl _) _⟩
  case round =>
    obtain ⟨k, rfl, hk, g, cap, rfl, hown, hb⟩ := hrel
    by_cases hlt : k < s.size
    · obtain ⟨c, hc⟩ : ∃ c, s[k]'hlt = c := ⟨_, rfl⟩
      have hget := get_of s _ rfl k hlt
      rw [hc] at hget
      have hstep := hide (parts_take _ _ _ hget)
      have hex := extract_one s k hlt
      rw [hc] at hex
      have hcnt := parts_count (s.data.toList.take k)
      rw [List.length_take, hl, Nat.min_eq_left hk] at hcnt
      have hne := hide (parts_ne (s.data.toList.take k))
      have hpos := List.length_pos_iff.2 hne.out
      obtain ⟨ps, hps⟩ : ∃ ps, ps = partsR (s.data.toList.take k) := ⟨_, rfl⟩
      have hplen := hide (parts_len (s.data.toList.take k))
      rw [← hps] at hown hstep hcnt hne hpos hplen ⊢
      have Hown := hide hown
      have Hb := hide hb
      have Hl := hide hl
      have hsz := hb.size
      clear hown hb hget hps hl
      by_cases h47 : (c.toNat : Int) = 47
      · have hst : stepR ps c = ps ++ [[]] := by rw [stepR, if_pos (UInt8.toNat_inj.1 (by show c.toNat = 47; omega))]
        go_wp2_with (at_builtin; refine wpList_append_rd _ rfl (.tmp 16) (.tmp 17) 84 84 rfl w.heap.size 9 9 _ 1 16 Tryz.underlying84 Tryz.underlying84 Tryz.info9 rfl (by decide) (.slice (some ⟨g, 0, none⟩) ps.length cap) ps.length (ps.map strV) rfl (by exact Hown.out.kept (row := none) ⟨rfl, rfl, rfl, by simp, fun k hk _ => Below.heap_alloc _ _ _ hk⟩ (by simp [Value.ownBlock])) _ _ 1 1 [.string ⟨#[]⟩] rfl (by exact Rd.new_at _ _ _ _ rfl rfl) (by simp [Value.oneCell']) (by unfold maxLen; omega) (by omega) (by simp; omega) ?_; intro A3 cap3 w3 hown3 hgrow3 hat3)
        obtain ⟨g3, rfl⟩ : ∃ g3, A3 = some ⟨g3, 0, none⟩ := by
          rcases hown3.2 with ⟨_, h0⟩ | ⟨g3, _, _, hv, _⟩
          · omega
          · simp only [Value.slice.injEq] at hv
            exact ⟨g3, hv.1⟩
        have hlen : (ps ++ [[]]).length = ps.length + 1 := by simp
        refine ⟨⟨k + 1, by congr 1, by omega, g3, cap3, ?_, ?_, ?_⟩, by simp only [intOf]; omega⟩
        · rw [hstep.out, hst, hlen]
        · rw [hstep.out, hst, hlen, List.map_append]; exact hown3
        · exact (Hb.out.alloc hsz _).grown hgrow3 (by simp; omega) (fun q hq => by simp [Value.ownBlock] at hq; subst hq; exact (own_at Hown.out).1)
      · obtain ⟨qs, z, rfl⟩ : ∃ qs z, ps = qs ++ [z] := ⟨ps.dropLast, ps.getLast hne.out, (List.dropLast_concat_getLast hne.out).symm⟩
        have hst : stepR (qs ++ [z]) c = qs ++ [z ++ [c]] := by rw [stepR, if_neg (fun e => h47 (by rw [e]; rfl))]; simp
        have hlen : (qs ++ [z]).length = qs.length + 1 := by simp
        have hcell : wr.cell? ⟨g, qs.length, none⟩ = some (.string ⟨z.toArray⟩) := by
          rw [own_get Hown.out qs.length (by simp)]
          simp [strV]
        have hw1 : wrap64 (qs.length : Int) = qs.length := w64 _ (by rw [hlen] at hcnt; omega)
        have hw2 : wrap64 ((qs.length : Int) + 1 - 1) = qs.length := by rw [Int.add_sub_cancel]; exact hw1
        have hw3 : wrap64 (((qs.length + 1 : Nat) : Int) - 1) = qs.length := by rw [Int.natCast_add, Int.natCast_one]; exact hw2
        have hw4 : wrap64 ((k : Int) + 1) = k + 1 := w64 _ (by omega)
        have hq1 : (qs.length : Int) < qs.length + 1 := by omega
        have hq2 : (0 : Int) ≤ qs.length := by omega
        rw [hlen] at hcnt ⊢
        have Hst := hide hst
        have hg := own_at Hown.out
        have hgl := hg.2.1
        have hgb := hg.1
        have hzl : z.length ≤ s.size := by
          have h1 := hplen.out z (by simp)
          rw [List.length_take] at h1
          have h2 := Hl.out
          omega
        have hadd : ∀ w', (Op.stringOp .add ⟨z.toArray⟩ ⟨#[c]⟩).run Tryz.prog w' = .ok (.string ⟨(z ++ [c]).toArray⟩) w' := fun w' => by
          rw [run_string_add_sum w' _ _ (by show z.toArray.size + 1 ≤ _; rw [List.size_toArray]; omega)]
          congr 2
        have hfz : wr.frozen? ⟨g, qs.length, none⟩ = false := by
          obtain ⟨_, _, cur, hgg, _⟩ := hg
          simp [World.frozen?, hgg]
        have hgl := hg.2.1
        clear hst hlen hg hpos
        go_wp2_with fail
        go_region
        go_wp2_with fail
        refine ⟨⟨k + 1, by congr 1, by omega, g, cap, ?_, ?_, ?_⟩, by simp only [intOf]; omega⟩
        · rw [hstep.out, Hst.out]; simp
        · rw [hstep.out, Hst.out]
          have h1 := own_set Hown.out qs.length (strV (z ++ [c]))
          have h2 : (List.map strV (qs ++ [z])).set qs.length (strV (z ++ [c])) = List.map strV (qs ++ [z ++ [c]]) := by simp
          rw [h2] at h1
          have h3 : (qs ++ [z ++ [c]]).length = qs.length + 1 := by simp
          have h4 : (qs ++ [z]).length = qs.length + 1 := by simp
          rw [h3]
          rw [h4] at h1
          exact h1
        · exact (Hb.out.setCell (p := ⟨g, qs.length, none⟩) hgb _).drew
    · obtain rfl : k = s.size := by omega
      rw [List.take_of_length_le (by omega)] at hown ⊢
      have Hown := hide hown
      clear hown
      go_wp2_with fail
      go_ret
      exact ⟨_, _, rfl, Rd.of_own Hown.out (fun _ hg hb => by cases hg; exact hb), hb⟩
end Go.Proofs.YtimfmbcihopaaaaGreatDoor
