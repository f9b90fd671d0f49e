/- sha: Of, Sum. -/
import Derived.Test.YtahhglhebcooaaaGreatDoorSha7
namespace Go.Proofs.YtahhglhebcooaaaGreatDoor
open Go.RowKit Go.Cof Go.Tol

/-- A slice of bytes, as a value. -/
def SlB (w : World) (R : Nat → Prop) (l : List UInt8) (v : Value) : Prop := ∃ A c, v = .slice A l.length c ∧ Rd w R 1 A l.length (bytesV l) ∧ l.length ≤ c
theorem SlB.keep {w w' : World} {R F : Nat → Prop} {l : List UInt8} {v : Value} (h : SlB w R l v) (hk : Keep F w w') (hd : ∀ b, R b → b < w.heap.size → ¬ F b) : SlB w' R l v := by
  obtain ⟨A, c, h1, h2, h3⟩ := h
  exact ⟨A, c, h1, h2.keep hk hd, h3⟩
theorem St.step {w wr w2 : World} {N g : Nat} {hh h2 : HashA} (h : St w wr N g hh) (hk : Keep (· = g) wr w2) (h9 : w2.heap[g]? = some (.cells (hashV h2).toArray 154 (0, 0))) : St w w2 N g h2 := by
  have h1 := h.ord
  have h3 := h.lt
  exact ⟨h9, (hk.block N (by omega) (by omega)).trans h.out, h.bel.trans (hk.below h.bel.size (fun i e => by omega)), h.ord⟩

/-- What texts, one behind the other, come to. -/
def ofH (ls : List (List UInt8)) : HashA := ls.foldl absorb hash0
theorem ofH_snoc (ls : List (List UInt8)) (l : List UInt8) : ofH (ls ++ [l]) = absorb (ofH ls) l := by simp [ofH]
def total (ls : List (List UInt8)) : Nat := (ls.map List.length).sum
theorem ofH_from (ls : List (List UInt8)) : ∀ h : HashA, h.Ok → (ls.foldl absorb h).Ok ∧ (ls.foldl absorb h).n = h.n + total ls := by
  induction ls with
  | nil => intro h hk; exact ⟨hk, rfl⟩
  | cons l ls ih =>
    intro h hk
    have h1 := ih (absorb h l) (absorb_ok _ _ hk)
    refine ⟨h1.1, ?_⟩
    rw [List.foldl_cons, h1.2, absorb_n _ _ hk]
    simp [total]
    omega
theorem ofH_facts (ls : List (List UInt8)) : (ofH ls).Ok ∧ (ofH ls).n = total ls := by
  have h := ofH_from ls hash0 hash0_ok
  exact ⟨h.1, by rw [ofH, h.2]; show 0 + _ = _; omega⟩
theorem total_take (ls : List (List UInt8)) (i : Nat) (h : i < ls.length) : total (ls.take i) + ls[i].length ≤ total ls := by
  have e : ls = ls.take i ++ ls[i] :: ls.drop (i + 1) := by rw [← List.drop_eq_getElem_cons h, List.take_append_drop]
  have h2 : ∀ a b : List (List UInt8), total (a ++ b) = total a + total b := fun a b => by simp [total]
  have h1 : total ls = total (ls.take i ++ ls[i] :: ls.drop (i + 1)) := congrArg total e
  have h3 : total (ls[i] :: ls.drop (i + 1)) = ls[i].length + total (ls.drop (i + 1)) := by simp only [total, List.map_cons, List.sum_cons]
  rw [h2, h3] at h1
  omega

set_option maxHeartbeats 8000000 in
set_option maxRecDepth 200000 in
theorem of_any (B cap : Nat) (R : Nat → Prop) (ls : List (List UInt8)) (vs : List Value) (w : World) (hv : vs.length = ls.length) (hr : w.rangeAt B 0 vs) (hB : B < w.heap.size) (hR : ∀ b, R b → b < w.heap.size)
    (hs : ∀ i (h : i < ls.length), ∃ v, vs[i]? = some v ∧ SlB w R ls[i] v) (hn : total ls ≤ 900000000000000) (hm : ls.length ≤ 1000) :
    Calls Tryz.prog 38 #[.slice (some ⟨B, 0, none⟩) ls.length cap] w fun e w' => e = .returned (.agg (bytesV (sumH (ofH ls))).toArray) ∧ Below w.heap.size w w' := by
  have Hv := hide hv
  have Hr := hide hr
  have HB := hide hB
  have HR := hide hR
  have Hs := hide hs
  have Hn := hide hn
  obtain ⟨N, hN⟩ : ∃ N, N = w.heap.size := ⟨_, rfl⟩
  have HN := hide hN
  clear hv hr hB hR hs hn hN
  have hm0 : (ls.length : Int) ≤ 1000 := by omega
  go_enter Tryz.func38, Tryz.ntmps38
  go_upto_region 2 with (first
    | (go_at_call 58; ((with_reducible refine (new_any _).mono ?_)); rintro e w1 hnew; obtain ⟨g, rfl, hg1, hg2, hb1⟩ := hnew; have Hg1 := hide hg1; have Hg2 := hide hg2; have Hb1 := hide hb1; clear hg1 hg2 hb1)
    | fail)
  have hSt : St w w1 N g hash0 := by
    have h1 := Hg1.out
    have h2 := HN.out
    simp at h1
    refine ⟨Hg2.out, ?_, ((Below.refl w.heap.size w).alloc (Nat.le_refl _) _).trans (Hb1.out.mono (by simp)), by omega, by omega⟩
    rw [h2]
    exact (Hb1.out.block w.heap.size (by simp)).trans (heap_new _ _)
  have HSt := hide hSt
  rw [← HN.out]
  clear hSt
  go_wp2_with (fail)
  go_loopw [9] (fun i wr => ∃ j : Nat, j ≤ ls.length ∧ i = .int .i64 j ∧ St w wr N g (ofH (ls.take j))) (fun i _ => ls.length - (intOf i).toNat)
  case atStart => exact ⟨0, Nat.zero_le _, rfl, HSt.out⟩
  case round => as_aux_lemma =>
    obtain ⟨j, hj, rfl, hst⟩ := hrel
    have Hst := hide hst
    clear hst
    have hj0 : (0 : Int) ≤ (j : Int) := Int.natCast_nonneg j
    by_cases hlt : j < ls.length
    · have hj1 : (j : Int) < ls.length := Int.ofNat_lt.2 hlt
      obtain ⟨v, hvj, A, c, hve, hrd, hc⟩ := Hs.out j hlt
      obtain ⟨l, hl⟩ : ∃ l, l = ls[j] := ⟨_, rfl⟩
      rw [← hl] at hve hrd hc
      have ce : wr.cell? ⟨B, j, none⟩ = some (.slice A l.length c) := by
        have h1 := Hr.out j _ hvj
        rw [Nat.zero_add, hve] at h1
        exact (Hst.out.bel.cell (p := ⟨B, j, none⟩) HB.out).trans h1
      have Hrd := hide (show Rd wr R 1 A l.length (bytesV l) from hrd.keep (Keep.of_none Hst.out.bel) (fun _ _ _ f => f))
      have Hc := hide hc
      obtain ⟨hok, hcn⟩ := ofH_facts (ls.take j)
      have Hok := hide hok
      have Hcn := hide (show (ofH (ls.take j)).n + l.length ≤ 1000000000000000 by rw [hcn, hl]; have := total_take ls j hlt; have := Hn.out; omega)
      have Hsn := hide (show absorb (ofH (ls.take j)) l = ofH (ls.take (j + 1)) by rw [List.take_succ_eq_append_getElem hlt, ofH_snoc, hl])
      have HRg := hide (show ∀ b, R b → b ≠ g from fun b hb e => by have h1 := HR.out b hb; have h2 := Hst.out.ord; omega)
      clear hve hvj hrd hc hl hok hcn
      go_wp2_with (first
        | (go_at_call 59; ((with_reducible refine (write_any g R A c (ofH (ls.take j)) l wr Hok.out Hst.out.hash Hrd.out HRg.out Hc.out Hcn.out).mono ?_)); rintro e w6 ⟨rfl, hr6, hk6⟩; have Hs6 := hide (Hst.out.step hk6 hr6); clear hr6 hk6)
        | fail)
      exact ⟨⟨j + 1, by omega, by go_num, by rw [← Hsn.out]; exact Hs6.out⟩, by simp [intOf]; omega⟩
    · obtain rfl : j = ls.length := by omega
      rw [List.take_of_length_le (Nat.le_refl _)] at Hst
      have Hok := hide (ofH_facts ls).1
      have Hcn := hide (show (ofH ls).n ≤ 900000000000000 by rw [(ofH_facts ls).2]; exact Hn.out)
      have Hszl := hide (show (Tryz.prog.info? 59).map (·.size) = some (bytesV (sumH (ofH ls))).length by rw [bytesV_length, sumH_length]; kernel_rfl)
      have Hsza := hide (show (Tryz.prog.info? 59).map (·.size) = some (bytesV (sumH (ofH ls))).toArray.size by rw [List.size_toArray, bytesV_length, sumH_length]; kernel_rfl)
      have Hlen := hide (show (bytesV (sumH (ofH ls))).length = z32L.length by rw [bytesV_length, sumH_length]; rfl)
      go_wp2_with (first
        | (go_at_call 60; ((with_reducible refine (hsum_any g (ofH ls) wr Hok.out Hst.out.hash Hcn.out).mono ?_)); rintro e w7 ⟨rfl, hb7⟩; have Hb7 := hide hb7; have HrN := hide ((hb7.block N (blk_lt Hst.out.out)).trans Hst.out.out); clear hb7)
        | (refine wpList_store_all rfl 59 (.tmp 2) (.tmp 18) rfl N z32L (bytesV (sumH (ofH ls))) 59 HrN.out rfl rfl Hlen.out Hszl.out (bytesV_one _) ?_)
        | fail)
      refine bodyPost_ret (results_cell_row rfl _ _ N _ _ _ _ rfl (setRow_heap _ _ _ _ _ _ HrN.out) Tryz.underlying59 rfl Hsza.out) rfl ?_
      exact ⟨rfl, below_setRow (Hst.out.bel.trans (Hb7.out.mono Hst.out.bel.size)) (by have := Hst.out.ord; omega) _⟩
end Go.Proofs.YtahhglhebcooaaaGreatDoor
