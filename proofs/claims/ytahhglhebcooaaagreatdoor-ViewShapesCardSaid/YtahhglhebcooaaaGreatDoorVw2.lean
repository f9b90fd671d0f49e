/- view.Shapes: how many are requests. -/
import Derived.Test.YtahhglhebcooaaaGreatDoorVw1
namespace Go.Proofs.YtahhglhebcooaaaGreatDoor
open Go.RowKit Go.Cof Go.Tol

/-- How many of these are requests. -/
def goodN (ls : List (List UInt8)) : Nat := (ls.filter fun l => decide ((readQ l).2 = 0)).length
theorem goodN_next (ls : List (List UInt8)) (k : Nat) (h : k < ls.length) : goodN (ls.take (k + 1)) = goodN (ls.take k) + (if decide ((readQ ls[k]).2 = 0) = true then 1 else 0) := by
  rw [List.take_succ_eq_append_getElem h, goodN, List.filter_append, List.length_append, ← goodN]
  by_cases h1 : (readQ ls[k]).2 = 0 <;> simp [h1]
theorem goodN_le (ls : List (List UInt8)) : goodN ls ≤ ls.length := List.length_filter_le _ _
theorem Tryz.info47 : (Tryz.prog.info? 47).map (fun i => (i.zero, i.size, i.bytes)) = some (some (.agg #[.int .i64 0, .int .i64 0, .int .i64 0, .int .i64 0]), 4, 32) := by kernel_rfl

set_option maxHeartbeats 8000000 in
set_option maxRecDepth 200000 in
theorem shapes_any (B cap : Nat) (R : Nat → Prop) (ls : List (List UInt8)) (vs : List Value) (w : World) (hv : vs.length = ls.length) (hr : w.rangeAt B 0 vs) (hB : B < w.heap.size) (hR : ∀ b, R b → b < w.heap.size)
    (hs : ∀ i (h : i < ls.length), ls[i].length ≤ 100000 ∧ ∃ v, vs[i]? = some v ∧ SlB w R ls[i] v) (hm : ls.length ≤ 1000) :
    Calls Tryz.prog 15 #[.slice (some ⟨B, 0, none⟩) ls.length cap] w fun e w' => (∃ A c, e = .returned (.slice A (goodN ls) c)) ∧ Below w.heap.size w w' := by
  have Hr := hide hr
  have HB := hide hB
  have HR := hide hR
  have Hs := hide hs
  have Hm := hide hm
  obtain ⟨N, hN⟩ : ∃ N, N = w.heap.size := ⟨_, rfl⟩
  have HN := hide hN
  clear hv hr hB hR hs hN
  have hm0 : (ls.length : Int) ≤ 1000 := by omega
  go_enter Tryz.func15, Tryz.ntmps15
  go_wp2_with (fail)
  go_loopw [3, 10] (fun v i wr => ∃ (j m c : Nat) (A : Option Addr) (xs : List Value), j ≤ ls.length ∧ i = .int .i64 j ∧ v = .slice A m c ∧ m = goodN (ls.take j) ∧ wr.ownsRow N 47 4 (.slice A m c) m xs ∧ Below N w wr) (fun _ i _ => ls.length - (intOf i).toNat)
  case atStart => exact ⟨0, 0, 0, none, [], Nat.zero_le _, rfl, rfl, rfl, World.ownsRow_nil _ _ _ _, Below.refl _ _⟩
  case round => as_aux_lemma =>
    obtain ⟨j, m, c, A, xs, hj, rfl, rfl, hmg, hown, hb⟩ := hrel
    have Hown := hide hown
    have Hb := hide hb
    have Hmg := hide hmg
    have hml : m ≤ 1000 := by rw [hmg]; have := goodN_le (ls.take j); rw [List.length_take] at this; omega
    clear hown hb hmg
    have hj0 : (0 : Int) ≤ (j : Int) := Int.natCast_nonneg j
    have hsz : N ≤ wr.heap.size := by have := Hb.out.size; have := HN.out; omega
    by_cases hlt : j < ls.length
    · have hj1 : (j : Int) < ls.length := Int.ofNat_lt.2 hlt
      obtain ⟨hll, v, hvj, A2, c2, hve, hrd, hc⟩ := Hs.out j hlt
      have hnx := goodN_next ls j hlt
      obtain ⟨l, hl⟩ : ∃ l, l = ls[j] := ⟨_, rfl⟩
      rw [← hl] at hve hrd hc hll hnx
      have hbw : Below w.heap.size w wr := by have := Hb.out; rw [HN.out] at this; exact this
      have ce : wr.cell? ⟨B, j, none⟩ = some (.slice A2 l.length c2) := by
        have h1 := Hr.out j _ hvj
        rw [Nat.zero_add, hve] at h1
        exact (hbw.cell (p := ⟨B, j, none⟩) HB.out).trans h1
      obtain ⟨gd, hgd⟩ : ∃ gd, decide ((readQ l).2 = 0) = gd := ⟨_, rfl⟩
      obtain ⟨T, hT⟩ : ∃ T, toldV (readQ l).1 = T := ⟨_, rfl⟩
      have Hshape := hide (show Calls Tryz.prog 13 #[.slice A2 l.length c2] wr fun e w' => e = .returned (.tuple #[.agg T.toArray, .bool gd]) ∧ Below wr.heap.size wr w' by
        rw [← hT, ← hgd]; exact shape_any R A2 c2 l wr (hrd.keep (Keep.of_none hbw) (fun _ _ _ f => f)) hc hll (fun b hb => by have h1 := HR.out b hb; have h2 := hbw.size; omega))
      rw [hgd] at hnx
      have hTl : T.length = 4 := by rw [← hT]; rfl
      have hT1 : ∀ u ∈ T, u.oneCell' = true := by rw [← hT]; intro u hu; simp only [toldV, List.mem_cons, List.not_mem_nil, or_false] at hu; rcases hu with rfl | rfl | rfl | rfl <;> rfl
      have hst : ∀ (u : World) (z : Array Value), z.size = 4 → (storeCells ⟨u.heap.size, 0, none⟩ T).run Tryz.prog (u.alloc (.cells z 47)) = .ok () (u.alloc (.cells T.toArray 47)) := fun u => store_new (P := Tryz.prog) u 47 4 T (by kernel_rfl) hTl hT1
      have hbu := build_eq T 4 hTl
      have HT1 := hide hT1
      have Hnx := hide hnx
      have HTs := hide (show (Tryz.prog.info? 47).map (·.size) = some T.length by rw [hTl]; kernel_rfl)
      have HTl := hide (show T.length = 1 * 4 by rw [hTl])
      have Ls1 := hide (show m + 1 ≤ maxLen by unfold maxLen; omega)
      have Ls2 := hide (show (m + 1) * 32 ≤ 140737488355328 by omega)
      clear hve hvj hrd hc hl hgd hT hT1 hnx hll hbw
      go_upto_region 6 with (first
        | (go_at_call 13; ((with_reducible refine Hshape.out.mono ?_)); rintro e w6 ⟨rfl, hb6⟩; have Hb6 := hide hb6; have HK6 := hide (own_below Hown.out hb6); clear hb6)
        | fail)
      obtain ⟨X, hX⟩ : ∃ X, X = w6.heap.size := ⟨_, rfl⟩
      rw [← hX]
      obtain ⟨W7, hW7⟩ : ∃ W : World, W = w6.alloc (.cells T.toArray 47) := ⟨_, rfl⟩
      have Hrg := hide (show W7.rangeAt X 0 T from part_range (t := 47) (by rw [hW7, hX]; exact heap_new _ _) (by rw [List.drop_zero, List.take_length]))
      have HK7 := hide (show W7.ownsRow N 47 4 (.slice A m c) m xs by rw [hW7]; exact own_below HK6.out ((Below.refl _ _).alloc (Nat.le_refl _) _))
      have Hb7 := hide (show Below N w W7 by rw [hW7]; exact (Hb.out.trans (Hb6.out.mono hsz)).alloc (by have := Hb6.out.size; omega) _)
      have hs7 : N ≤ W7.heap.size := by rw [hW7]; have := Hb6.out.size; simp; omega
      rw [← hW7]
      clear hW7 hX hst
      rcases gd with _ | _
      · go_wp2_with (fail)
        exact ⟨⟨j + 1, m, c, A, xs, by omega, by go_num, rfl, by rw [Hnx.out, ← Hmg.out]; rfl, HK7.out, Hb7.out⟩, by simp only [intOf]; omega⟩
      · go_wp2_with (first
          | (refine wpList_load_mid rfl 47 (.tmp 6) rfl X 0 rfl T _ Hrg.out Tryz.underlying47 rfl HTs.out ?_)
          | (at_builtin; refine wpList_append_rd _ rfl (.tmp 20) (.tmp 22) 52 52 rfl N 47 47 _ 4 32 Tryz.underlying52 Tryz.underlying52 Tryz.info47 rfl (by decide) (.slice A m c) m xs rfl (own_below HK7.out ((Below.refl _ _).alloc (Nat.le_refl _) _)) _ _ 1 1 T rfl (Rd.new_at _ _ _ _ rfl HTl.out) HT1.out Ls1.out Ls2.out (Nat.le_trans hs7 (by simp)) ?_; intro A14 cap14 w14 hown14 hgrow14 hat14; have Ho14 := hide hown14; have Hg14 := hide hgrow14; clear hown14 hgrow14 hat14)
          | fail)
        exact ⟨⟨j + 1, m + 1, cap14, A14, xs ++ T, by omega, by go_num, rfl, by rw [Hnx.out, ← Hmg.out]; rfl, Ho14.out, (Hb7.out.alloc hs7 _).grown Hg14.out (by simp; omega) (fun k hk => (HK7.out.lt k hk).1)⟩, by simp only [intOf]; omega⟩
    · obtain rfl : j = ls.length := by omega
      have hmx : m = goodN ls := by rw [Hmg.out, List.take_length]
      subst hmx
      go_wp2_with (fail)
      go_ret
      exact ⟨⟨A, c, rfl⟩, by rw [← HN.out]; exact Hb.out⟩
end Go.Proofs.YtahhglhebcooaaaGreatDoor
