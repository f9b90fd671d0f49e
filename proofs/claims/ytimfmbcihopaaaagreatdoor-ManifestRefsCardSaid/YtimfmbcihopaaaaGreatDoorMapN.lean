/- The document's reader: wrong, Num, Raw, Sized. -/
import Derived.Test.YtimfmbcihopaaaaGreatDoorMapM
import Derived.Laws.ResultCell
import Derived.Laws.Rows
namespace Go.Proofs.YtimfmbcihopaaaaGreatDoor
open Go.RowKit Go.Cof

theorem results_cell_two {P : Program} {fn : Func} {p u : Tmp} {ty : TypeId} (h : fn.results = #[.cell p ty, .tmp u]) (tmps : Array Value) (w : World) (g : Nat) (t : TypeId) (cs : Array Value) (fr : Nat × Nat) (d : TypeDesc)
    (hp : tmps.getD p undef = .pointer (some ⟨g, 0, none⟩)) (hg : w.heap[g]? = some (.cells cs t fr))
    (hu : P.underlying ty = some d) (hd : (match d with | .struct _ | .array _ _ => true | _ => false) = true) (hi : (P.info? ty).map (·.size) = some cs.size) :
    (results fn tmps).run P w = .ok (.tuple #[.agg cs, tmps.getD u undef]) w := by
  rw [results_cell_tmp h, hp]
  simp only [asAddr, Sem.run_pure, Result.andThen_ok, run_loadVar_row w g t ty cs fr d hg hu hd hi]

theorem set_two {w : World} {g : Nat} {a b x y : Value} {t : TypeId} (h : w.heap[g]? = some (.cells #[a, b] t)) : ((w.setCell ⟨g, 0, none⟩ x).setCell ⟨g, 1, none⟩ y).heap[g]? = some (.cells #[x, y] t) := by
  rw [heap_setCell_same _ _ _ _ _ _ (heap_setCell_same _ _ _ _ _ _ h)]
  rfl

theorem ext_take (l : List UInt8) (k : Nat) : (⟨l.toArray⟩ : ByteArray).extract 0 k = ⟨(l.take k).toArray⟩ := by
  apply ByteArray.ext
  apply Array.toList_inj.1
  rw [ByteArray.data_extract, Array.toList_extract, List.extract_eq_take_drop]
  simp
theorem ext_drop (l : List UInt8) (k : Nat) : (⟨l.toArray⟩ : ByteArray).extract k l.length = ⟨(l.drop k).toArray⟩ := by
  apply ByteArray.ext
  apply Array.toList_inj.1
  rw [ByteArray.data_extract, Array.toList_extract, List.extract_eq_take_drop, List.take_of_length_le (by simp)]
/-- A row of two cells that can be written. -/
structure Two (w : World) (g : Nat) (a b : Value) (t : TypeId) : Prop where
  row : w.heap[g]? = some (.cells #[a, b] t)
  c0 : w.cell? ⟨g, 0, none⟩ = some a
  c1 : w.cell? ⟨g, 1, none⟩ = some b
  f0 : w.frozen? ⟨g, 0, none⟩ = false
  f1 : w.frozen? ⟨g, 1, none⟩ = false
theorem Two.of {w : World} {g : Nat} {a b : Value} {t : TypeId} (h : w.heap[g]? = some (.cells #[a, b] t)) : Two w g a b t :=
  ⟨h, cell_of_row w g 0 _ _ _ h, cell_of_row w g 1 _ _ _ h, frozen_of_row w g 0 _ _ h, frozen_of_row w g 1 _ _ h⟩
theorem Two.alloc {w : World} {g : Nat} {a b : Value} {t : TypeId} (h : Two w g a b t) (o : Obj) : Two (w.alloc o) g a b t :=
  .of ((Below.heap_alloc w o g (Array.getElem?_eq_some_iff.1 h.row).1).trans h.row)
theorem Two.below {w w' : World} {g N : Nat} {a b : Value} {t : TypeId} (h : Two w g a b t) (hb : Below N w w') (hg : g < N) : Two w' g a b t := .of ((hb.block g hg).trans h.row)
theorem heap_drew (w : World) : w.drew.heap = w.heap := rfl

/-- The document's reader, as a value. -/
def rdV (s : Rs) : Value := .agg #[strV s.1, .int .i64 s.2]
theorem Tryz.size94 : (Tryz.prog.info? 94).map (·.size) = some 2 := by kernel_rfl

set_option maxHeartbeats 4000000 in
set_option maxRecDepth 100000 in
theorem dwrong_any (s : Rs) (n : Nat) (w : World) :
    Calls Tryz.prog 62 #[rdV s, .int .i64 n] w fun e w' => e = .returned (rdV ([], n)) ∧ Below w.heap.size w w' := by
  simp only [rdV, strV]
  go_enter Tryz.func62, Tryz.ntmps62
  go_wp2_with fail
  refine bodyPost_ret (results_cell_row rfl _ _ (w.heap.size + 1) _ _ _ _ rfl (heap_alloc2_new _ _ _) Tryz.underlying94 rfl Tryz.size94) rfl ?_
  exact ⟨rfl, ((Below.refl _ _).alloc (Nat.le_refl _) _).alloc (by simp) _⟩

set_option maxHeartbeats 4000000 in
set_option maxRecDepth 100000 in
theorem draw_any (s : Rs) (n : Int) (w : World) (hs : s.1.length ≤ 1073741824) (hn : n ≤ 1073741824) (hb : s.2 ≤ 1000) :
    Calls Tryz.prog 40 #[rdV s, .int .i64 n] w fun e w' => e = .returned (.tuple #[rdV (takeR n s).2, strV (takeR n s).1]) ∧ Below w.heap.size w w' := by
  obtain ⟨l, bad⟩ := s
  simp only at hs hb
  have hsz : (⟨l.toArray⟩ : ByteArray).size = l.length := rfl
  rcases hbd : (bad : Int) == 0 with _ | _
  · have hb2 : bad ≠ 0 := by intro e; simp [e] at hbd
    have ht : takeR n (l, bad) = ([], (l, bad)) := if_pos (.inr hb2)
    have hbn : ((bad : Int) = 0) = False := by simpa using hb2
    rw [ht]
    simp only [rdV, strV]
    go_enter Tryz.func40, Tryz.ntmps40
    go_wp2_with fail
    refine bodyPost_ret (results_cell_two rfl _ _ (w.heap.size + 1) _ _ _ _ rfl (heap_alloc2_new _ _ _) Tryz.underlying94 rfl Tryz.size94) rfl ?_
    exact ⟨rfl, ((Below.refl _ _).alloc (Nat.le_refl _) _).alloc (by simp) _⟩
  · obtain rfl : bad = 0 := by
      have : (bad : Int) = 0 := by simpa using hbd
      omega
    clear hbd
    by_cases h1 : n < 1
    · have ht : takeR n (l, 0) = ([], (l, 0)) := if_pos (.inl h1)
      rw [ht]
      simp only [rdV, strV]
      go_enter Tryz.func40, Tryz.ntmps40
      go_wp2_with fail
      refine bodyPost_ret (results_cell_two rfl _ _ (w.heap.size + 1) _ _ _ _ rfl (heap_alloc2_new _ _ _) Tryz.underlying94 rfl Tryz.size94) rfl ?_
      exact ⟨rfl, ((Below.refl _ _).alloc (Nat.le_refl _) _).alloc (by simp) _⟩
    · by_cases h2 : (l.length : Int) < n
      · have ht : takeR n (l, 0) = ([], ([], 10)) := by unfold takeR; rw [if_neg (by simp; omega), if_pos h2]
        rw [ht]
        simp only [rdV, strV]
        clear ht
        go_enter Tryz.func40, Tryz.ntmps40
        go_wp2_with (go_at_call 62; refine (dwrong_any (l, 0) 10 _).mono ?_; simp only [rdV, strV]; rintro e w1 ⟨rfl, hb1⟩; have hh := hb1.block (w.heap.size + 1) (by simp); rw [heap_alloc2_new] at hh; have hc0 := cell_of_row w1 (w.heap.size + 1) 0 _ _ _ hh; have hc1 := cell_of_row w1 (w.heap.size + 1) 1 _ _ _ hh; have hf0 := frozen_of_row w1 (w.heap.size + 1) 0 _ _ hh; have hf1 := frozen_of_row w1 (w.heap.size + 1) 1 _ _ hh; have Hb1 := hide hb1; clear hb1)
        refine bodyPost_ret (results_cell_two rfl _ _ (w.heap.size + 1) _ _ _ _ rfl (set_two hh) Tryz.underlying94 rfl Tryz.size94) rfl ?_
        have hB : Below w.heap.size w w1 := (((Below.refl _ w).alloc (Nat.le_refl _) _).alloc (by simp) _).trans (Hb1.out.mono (by simp; omega))
        exact ⟨rfl, (hB.setCell (p := ⟨w.heap.size + 1, 0, none⟩) (by simp) _).setCell (p := ⟨w.heap.size + 1, 1, none⟩) (by simp) _⟩
      · have ht : takeR n (l, 0) = (l.take n.toNat, (l.drop n.toNat, 0)) := by unfold takeR; rw [if_neg (by simp; omega), if_neg h2]
        rw [ht]
        clear ht
        obtain ⟨k, rfl⟩ : ∃ k : Nat, n = k := ⟨n.toNat, by omega⟩
        rw [Int.toNat_natCast]
        simp only [rdV, strV]
        go_enter Tryz.func40, Tryz.ntmps40
        have hx1 := ext_take l k
        have hx2 := ext_drop l k
        go_wp2_with fail
        go_region
        go_wp2_with fail
        refine bodyPost_ret (results_cell_two rfl _ _ (w.heap.size + 1) _ _ _ _ rfl ((congrArg (fun h => h[w.heap.size + 1]?) (heap_drew _)).trans (heap_alloc2_new _ _ _)) Tryz.underlying94 rfl Tryz.size94) rfl ?_
        exact ⟨rfl, (((Below.refl _ _).alloc (Nat.le_refl _) _).alloc (by simp) _).drew⟩

set_option maxHeartbeats 4000000 in
set_option maxRecDepth 100000 in
theorem dnum_any (s : Rs) (n : Nat) (w : World) (hs : s.1.length ≤ 1073741824) (hn : n ≤ 8) (hn1 : 1 ≤ n) :
    Calls Tryz.prog 38 #[rdV s, .int .i64 n] w fun e w' => e = .returned (.tuple #[rdV (numR n s).2, .int .u64 (numR n s).1]) ∧ Below w.heap.size w w' := by
  obtain ⟨l, bad⟩ := s
  simp only at hs
  have hsz : (⟨l.toArray⟩ : ByteArray).size = l.length := rfl
  have hmin : min (n : Int) 8 = n := by omega
  have hN : numR n (l, bad) = (beV (takeR n (l, bad)).1, (takeR n (l, bad)).2) := by unfold numR; rw [hmin]
  rw [hN]
  clear hN hmin
  rcases hbd : (bad : Int) == 0 with _ | _
  · have hb2 : bad ≠ 0 := by intro e; simp [e] at hbd
    have ht : takeR n (l, bad) = ([], (l, bad)) := if_pos (.inr hb2)
    have hbn : ((bad : Int) = 0) = False := by simpa using hb2
    rw [ht]
    simp only [rdV, strV]
    rw [show beV [] = 0 from rfl]
    go_enter Tryz.func38, Tryz.ntmps38
    go_wp2_with fail
    refine bodyPost_ret (results_cell_two rfl _ _ (w.heap.size + 1) _ _ _ _ rfl (heap_alloc2_new _ _ _) Tryz.underlying94 rfl Tryz.size94) rfl ?_
    exact ⟨rfl, ((Below.refl _ _).alloc (Nat.le_refl _) _).alloc (by simp) _⟩
  · obtain rfl : bad = 0 := by
      have : (bad : Int) = 0 := by simpa using hbd
      omega
    clear hbd
    by_cases h2 : (l.length : Int) < n
    · have ht : takeR n (l, 0) = ([], ([], 10)) := by unfold takeR; rw [if_neg (by simp; omega), if_pos h2]
      rw [ht]
      simp only [rdV, strV]
      rw [show beV [] = 0 from rfl]
      clear ht
      go_enter Tryz.func38, Tryz.ntmps38
      go_wp2_with (go_at_call 62; refine (dwrong_any (l, 0) 10 _).mono ?_; simp only [rdV, strV]; rintro e w1 ⟨rfl, hb1⟩; have hh := hb1.block (w.heap.size + 1) (by simp); rw [heap_alloc2_new] at hh; have hc0 := cell_of_row w1 (w.heap.size + 1) 0 _ _ _ hh; have hc1 := cell_of_row w1 (w.heap.size + 1) 1 _ _ _ hh; have hf0 := frozen_of_row w1 (w.heap.size + 1) 0 _ _ hh; have hf1 := frozen_of_row w1 (w.heap.size + 1) 1 _ _ hh; have Hb1 := hide hb1; clear hb1)
      refine bodyPost_ret (results_cell_two rfl _ _ (w.heap.size + 1) _ _ _ _ rfl (set_two hh) Tryz.underlying94 rfl Tryz.size94) rfl ?_
      have hB : Below w.heap.size w w1 := (((Below.refl _ w).alloc (Nat.le_refl _) _).alloc (by simp) _).trans (Hb1.out.mono (by simp; omega))
      exact ⟨rfl, (hB.setCell (p := ⟨w.heap.size + 1, 0, none⟩) (by simp) _).setCell (p := ⟨w.heap.size + 1, 1, none⟩) (by simp) _⟩
    · have ht : takeR n (l, 0) = (l.take n, (l.drop n, 0)) := by unfold takeR; rw [if_neg (by simp; omega), if_neg h2]; rfl
      rw [ht]
      clear ht
      simp only [rdV, strV]
      have hx2 := ext_drop l n
      obtain ⟨V, hV⟩ : ∃ V : List UInt8 → Nat, V = beV := ⟨_, rfl⟩
      rw [← hV]
      have HV := hide hV
      clear hV
      go_enter Tryz.func38, Tryz.ntmps38
      go_wp2_with fail
      go_loopw [6, 7] (fun v i wr => ∃ k : Nat, k ≤ n ∧ v = .int .u64 (V (l.take k)) ∧ i = .int .i64 k ∧ wr = (w.alloc (.cells #[.string ⟨l.toArray⟩, .int .i64 0] 94)).alloc (.cells #[.string ⟨#[]⟩, .int .i64 0] 94)) (fun _ i _ => n - (intOf i).toNat)
      case atStart => exact ⟨0, Nat.zero_le _, by rw [HV.out]; rfl, rfl, rfl⟩
      case round =>
        obtain ⟨k, hk, rfl, rfl, rfl⟩ := hrel
        by_cases hlt : k < n
        · have hkl : k < l.length := by omega
          have hv1 : V (l.take k) < 72057594037927936 := by rw [HV.out]; exact beV_small (l.take k) (by rw [List.length_take]; omega)
          have hb1 := l[k].toNat_lt
          have hg : (⟨l.toArray⟩ : ByteArray)[k]'(by show k < l.toArray.size; simpa using hkl) = l[k] := by simp [ByteArray.getElem_eq_getElem_data]
          go_wp2_with fail
          refine ⟨⟨k + 1, by omega, ?_, by go_num, trivial⟩, by simp [intOf]; omega⟩
          rw [HV.out, beV_take l k hkl]
          exact congrArg (Value.int .u64) (by omega)
        · obtain rfl : k = n := by omega
          go_wp2_with fail
          refine bodyPost_ret (results_cell_two rfl _ _ (w.heap.size + 1) _ _ _ _ rfl (heap_alloc2_new _ _ _) Tryz.underlying94 rfl Tryz.size94) rfl ?_
          exact ⟨rfl, ((Below.refl _ _).alloc (Nat.le_refl _) _).alloc (by simp) _⟩

theorem takeR_bad (n : Int) (s : Rs) (h : (takeR n s).2.2 ≠ 0) : (takeR n s).1 = [] := by
  unfold takeR at h ⊢
  split at h
  · rename_i h1; rw [if_pos h1]
  · rename_i h1
    rw [if_neg h1]
    split at h
    · rename_i h2; rw [if_pos h2]
    · exact absurd rfl h
theorem takeR_big (n : Int) (s : Rs) (h : s.1.length ≤ 1073741824) : (takeR n s).2.1.length ≤ 1073741824 := by
  unfold takeR
  split
  · exact h
  · split
    · simp
    · simp; omega
theorem takeR_code (n : Int) (s : Rs) (h : s.2 ≤ 1000) : (takeR n s).2.2 ≤ 1000 := by
  unfold takeR
  split
  · exact h
  · split <;> simp

set_option maxHeartbeats 4000000 in
set_option maxRecDepth 100000 in
theorem dsized_any (s : Rs) (w : World) (hs : s.1.length ≤ 1073741824) (hs2 : s.2 ≤ 1000) :
    Calls Tryz.prog 39 #[rdV s] w fun e w' => e = .returned (.tuple #[rdV (sizedR s).2, strV (sizedR s).1]) ∧ Below w.heap.size w w' := by
  have hB1 := takeR_bad (min 4 8) s
  have hB2 := takeR_big (min 4 8) s hs
  have hB3 := takeR_code (min 4 8) s hs2
  obtain ⟨v, x, bad, hN⟩ : ∃ v x bad, numR 4 s = (v, (x, bad)) := ⟨_, _, _, rfl⟩
  have h1 : beV (takeR (min 4 8) s).1 = v := congrArg (·.1) hN
  have h2 : (takeR (min 4 8) s).2 = (x, bad) := congrArg (·.2) hN
  rw [h2] at hB1 hB2 hB3
  simp only at hB1 hB2 hB3
  have HN := hide hN
  rcases hbd : (bad : Int) == 0 with _ | _
  · have hb2 : bad ≠ 0 := by intro e; simp [e] at hbd
    have hbn : ((bad : Int) = 0) = False := by simpa using hb2
    obtain rfl : v = 0 := by rw [← h1, hB1 hb2]; rfl
    have hS : sizedR s = ([], (x, bad)) := by
      unfold sizedR
      rw [hN, if_neg (show ¬ 65536 < 0 by decide)]
      exact if_pos (.inl (show ((0 : Nat) : Int) < 1 by decide))
    rw [hS]
    clear hS hN h1 h2 hB1 hB2 hB3
    simp only [rdV, strV]
    go_enter Tryz.func39, Tryz.ntmps39
    go_wp2_with (go_at_call 38; refine (dnum_any s 4 _ hs (by decide) (by decide)).mono ?_; rw [show ((4 : Nat) : Int) = 4 from rfl, HN.out]; simp only [rdV, strV]; rintro e w1 ⟨rfl, hb1⟩; have hh := hb1.block (w.heap.size + 1) (by simp); rw [heap_alloc2_new] at hh; have hsz := hb1.size; simp only [World.size_alloc] at hsz; have Hb1 := hide hb1; clear hb1; have T1 := hide ((Two.of hh).alloc (.cells #[.string ⟨x.toArray⟩, .int .i64 bad] 94)); clear hh; obtain ⟨-, hc0, hc1, hf0, hf1⟩ := T1.out)
    refine bodyPost_ret (results_cell_two rfl _ _ (w.heap.size + 1) _ _ _ _ rfl (set_two T1.out.row) Tryz.underlying94 rfl Tryz.size94) rfl ?_
    have hB : Below w.heap.size w w1 := (((Below.refl _ w).alloc (Nat.le_refl _) _).alloc (by simp) _).trans (Hb1.out.mono (by simp; omega))
    have hB2 := hB.alloc (by omega) (.cells #[.string ⟨x.toArray⟩, .int .i64 bad] 94)
    exact ⟨rfl, (hB2.setCell (p := ⟨w.heap.size + 1, 0, none⟩) (by simp) _).setCell (p := ⟨w.heap.size + 1, 1, none⟩) (by simp) _⟩
  · obtain rfl : bad = 0 := by
      have : (bad : Int) = 0 := by simpa using hbd
      omega
    clear hbd
    by_cases hv : 65536 < v
    · have hS : sizedR s = ([], ([], 3)) := by
        unfold sizedR
        rw [hN, if_pos (show 65536 < v from hv)]
      rw [hS]
      clear hS hN h1 h2 hB1 hB2 hB3
      simp only [rdV, strV]
      go_enter Tryz.func39, Tryz.ntmps39
      go_wp2_with (first | (go_at_call 38; refine (dnum_any s 4 _ hs (by decide) (by decide)).mono ?_; rw [show ((4 : Nat) : Int) = 4 from rfl, HN.out]; simp only [rdV, strV]; rintro e w1 ⟨rfl, hb1⟩; have hh := hb1.block (w.heap.size + 1) (by simp); rw [heap_alloc2_new] at hh; have hsz := hb1.size; simp only [World.size_alloc] at hsz; have Hb1 := hide hb1; clear hb1; have T1 := hide ((Two.of hh).alloc (.cells #[.string ⟨x.toArray⟩, .int .i64 0] 94)); clear hh) | (go_at_call 62; refine (dwrong_any (x, 0) 3 _).mono ?_; simp only [rdV, strV]; rintro e w2 ⟨rfl, hb2⟩; have T2 := hide (T1.out.below hb2 (by simp; omega)); obtain ⟨-, hc0, hc1, hf0, hf1⟩ := T2.out; have Hb2 := hide hb2; clear hb2))
      refine bodyPost_ret (results_cell_two rfl _ _ (w.heap.size + 1) _ _ _ _ rfl (set_two T2.out.row) Tryz.underlying94 rfl Tryz.size94) rfl ?_
      have hB : Below w.heap.size w w1 := (((Below.refl _ w).alloc (Nat.le_refl _) _).alloc (by simp) _).trans (Hb1.out.mono (by simp; omega))
      have hB2 := hB.alloc (by omega) (.cells #[.string ⟨x.toArray⟩, .int .i64 0] 94)
      have hB3 := hB2.trans (Hb2.out.mono (by simp; omega))
      exact ⟨rfl, (hB3.setCell (p := ⟨w.heap.size + 1, 0, none⟩) (by simp) _).setCell (p := ⟨w.heap.size + 1, 1, none⟩) (by simp) _⟩
    · have hS : sizedR s = takeR v (x, 0) := by
        unfold sizedR
        rw [hN, if_neg (show ¬ 65536 < v from hv)]
      rw [hS]
      clear hS hN h1 h2 hB1 hB3
      simp only [rdV, strV]
      go_enter Tryz.func39, Tryz.ntmps39
      go_wp2_with (first | (go_at_call 38; refine (dnum_any s 4 _ hs (by decide) (by decide)).mono ?_; rw [show ((4 : Nat) : Int) = 4 from rfl, HN.out]; simp only [rdV, strV]; rintro e w1 ⟨rfl, hb1⟩; have hh := hb1.block (w.heap.size + 1) (by simp); rw [heap_alloc2_new] at hh; have hsz := hb1.size; simp only [World.size_alloc] at hsz; have Hb1 := hide hb1; clear hb1; have T1 := hide ((Two.of hh).alloc (.cells #[.string ⟨x.toArray⟩, .int .i64 0] 94)); clear hh) | (go_at_call 40; refine (draw_any (x, 0) v _ hB2 (by omega) (by simp)).mono ?_; simp only [rdV, strV]; rintro e w2 ⟨rfl, hb2⟩; have T2 := hide (T1.out.below hb2 (by simp; omega)); obtain ⟨-, hc0, hc1, hf0, hf1⟩ := T2.out; have Hb2 := hide hb2; clear hb2))
      refine bodyPost_ret (results_cell_two rfl _ _ (w.heap.size + 1) _ _ _ _ rfl (set_two T2.out.row) Tryz.underlying94 rfl Tryz.size94) rfl ?_
      have hB : Below w.heap.size w w1 := (((Below.refl _ w).alloc (Nat.le_refl _) _).alloc (by simp) _).trans (Hb1.out.mono (by simp; omega))
      have hB2 := hB.alloc (by omega) (.cells #[.string ⟨x.toArray⟩, .int .i64 0] 94)
      have hB3 := hB2.trans (Hb2.out.mono (by simp; omega))
      exact ⟨rfl, (hB3.setCell (p := ⟨w.heap.size + 1, 0, none⟩) (by simp) _).setCell (p := ⟨w.heap.size + 1, 1, none⟩) (by simp) _⟩
end Go.Proofs.YtimfmbcihopaaaaGreatDoor
