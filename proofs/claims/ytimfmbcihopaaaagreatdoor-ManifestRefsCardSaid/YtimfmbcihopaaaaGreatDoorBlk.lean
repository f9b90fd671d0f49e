/- A block of one's own, known whole; references cloned, one taken out. -/
import Derived.Test.YtimfmbcihopaaaaGreatDoorFind
namespace Go.Cof
open Go.RowKit

theorem over_cons (cur cs : List Value) (o : Nat) (v : Value) (ho : o < cur.length) : over (cur.set o v) (o + 1) cs = over cur o (v :: cs) := by
  have e : cur.set o v = cur.take o ++ v :: cur.drop (o + 1) := List.set_eq_take_append_cons_drop.trans (if_pos ho)
  have hl : (cur.take o).length = o := by rw [List.length_take]; omega
  rw [e, over, over]
  have h1 : (cur.take o ++ v :: cur.drop (o + 1)).take (o + 1) = cur.take o ++ [v] := by
    rw [List.take_append, hl, show o + 1 - o = 1 by omega, List.take_of_length_le (by omega)]; rfl
  have h2 : (cur.take o ++ v :: cur.drop (o + 1)).drop (o + 1 + cs.length) = cur.drop (o + (v :: cs).length) := by
    rw [List.drop_append, hl, List.drop_eq_nil_of_le (by omega), show o + 1 + cs.length - o = cs.length + 1 by omega, List.drop_succ_cons, List.drop_drop, List.length_cons, List.nil_append]
    congr 1
    omega
  rw [h1, h2]
  simp
theorem heap_setCells (b : Nat) (t : TypeId) : ∀ (cs cur : List Value) (o : Nat) (w : World), w.heap[b]? = some (.cells cur.toArray t (0, 0)) → o + cs.length ≤ cur.length → (w.setCells b o cs).heap[b]? = some (.cells (over cur o cs).toArray t (0, 0))
  | [], cur, o, w, h, _ => by simpa [World.setCells, over] using h
  | v :: cs, cur, o, w, h, hl => by
    rw [List.length_cons] at hl
    have h1 := heap_setCell_same w b o cur.toArray t v h
    rw [show cur.toArray.setIfInBounds o v = (cur.set o v).toArray by simp] at h1
    rw [World.setCells, heap_setCells b t cs (cur.set o v) (o + 1) _ h1 (by rw [List.length_set]; omega), over_cons _ _ _ _ (by omega)]
theorem own_blk {w : World} {base g n cap sz : Nat} {e : TypeId} {xs : List Value} (h : w.ownsRow base e sz (.slice (some ⟨g, 0, none⟩) n cap) n xs) :
    base ≤ g ∧ g < w.heap.size ∧ ∃ cur : List Value, w.heap[g]? = some (.cells cur.toArray e (0, 0)) ∧ n ≤ cap ∧ cap ≤ maxLen ∧ cur.length = cap * sz ∧ cur.take (n * sz) = xs := by
  rcases h.2 with ⟨hv, _⟩ | ⟨g', cap', cur, hv, hb, hg, h1, h2, h3, h4⟩
  · simp at hv
  · simp only [Value.slice.injEq, Option.some.injEq, Addr.mk.injEq, true_and, and_true] at hv
    obtain ⟨rfl, rfl⟩ := hv
    exact ⟨hb, (Array.getElem?_eq_some_iff.1 hg).1, cur.toList, by simpa using hg, h1, h2, by simpa using h3, by simpa using h4⟩
theorem blk_own {w : World} {base g n cap sz : Nat} {e : TypeId} {cur xs : List Value} (hb : base ≤ g) (hg : w.heap[g]? = some (.cells cur.toArray e (0, 0))) (h1 : n ≤ cap) (h2 : cap ≤ maxLen) (h3 : cur.length = cap * sz) (h4 : cur.take (n * sz) = xs) :
    w.ownsRow base e sz (.slice (some ⟨g, 0, none⟩) n cap) n xs := by
  refine ⟨?_, .inr ⟨g, cap, cur.toArray, rfl, hb, hg, h1, h2, by simpa using h3, by simpa using h4⟩⟩
  rw [← h4, List.length_take, h3]
  have := Nat.mul_le_mul_right sz h1
  omega
theorem blk_cell {w : World} {g : Nat} {t : TypeId} {cur : List Value} (h : w.heap[g]? = some (.cells cur.toArray t (0, 0))) (j : Nat) : w.cell? ⟨g, j, none⟩ = cur[j]? := by
  rw [cell_of_row _ _ j _ _ _ h, List.getElem?_toArray]
theorem over_del (cur xs news z : List Value) (a b m : Nat) (hx : cur.take m = xs) (ha : a ≤ m) (hnl : a + news.length = b) (hb : b ≤ cur.length) : (over (over cur a news) b z).take b = xs.take a ++ news := by
  have hl : (over cur a news).length = cur.length := over_length _ _ _ (by omega)
  have h1 : (over (over cur a news) b z).take b = (over cur a news).take b := by
    rw [over, List.take_append_of_le_length (by rw [List.length_take, hl]; omega), List.take_take, Nat.min_self]
  have h2 : (over cur a news).take b = cur.take a ++ news := by
    rw [over, ← List.append_assoc, List.take_append_of_le_length (by simp only [List.length_append, List.length_take]; omega), List.take_of_length_le (by simp only [List.length_append, List.length_take]; omega)]
  rw [h1, h2, ← hx, List.take_take, Nat.min_eq_left ha]
theorem setCells_keep (b : Nat) : ∀ (vs : List Value) (o : Nat) (w0 w : World), Keep (· = b) w0 w → Keep (· = b) w0 (w.setCells b o vs)
  | [], _, _, _, h => h
  | v :: vs, o, w0, w, h => setCells_keep b vs (o + 1) w0 _ (h.setCell (p := ⟨b, o, none⟩) (fun _ => rfl) v)
end Go.Cof
namespace Go.Proofs.YtimfmbcihopaaaaGreatDoor
open Go.RowKit Go.Cof

/-- Cloned references. -/
def CloneP (w w' : World) (n : Nat) (xs : List Value) (e : Ending) : Prop :=
  ∃ A' cap', e = .returned (.slice A' n cap') ∧ w'.ownsRow w.heap.size 57 33 (.slice A' n cap') n xs ∧ Below w.heap.size w w'
set_option maxHeartbeats 4000000 in
set_option maxRecDepth 100000 in
theorem cloneR_any (S : Nat → Prop) (A : Option Addr) (cap n : Nat) (xs : List Value) (w : World) (hr : Rd w S 33 A n xs) (h1 : ∀ u ∈ xs, u.oneCell' = true) (hn : n ≤ 1000) :
    Calls Tryz.prog 46 #[.slice A n cap] w fun e w' => CloneP w w' n xs e := by
  have Hr := hide hr
  have H1 := hide h1
  clear hr h1
  rcases A with _ | ad
  · have hn0 : n = 0 := by
      rcases Nat.eq_zero_or_pos n with h0 | h0
      · exact h0
      · obtain ⟨_, _, h, _⟩ := Hr.out.at_ h0
        cases h
    subst hn0
    have hxs : xs = [] := List.eq_nil_of_length_eq_zero (by have := Hr.out.len; simpa using this)
    have Hxs := hide hxs
    clear hxs
    have hnil := fun w : World => Lib.run_eql_slice_nil (P := Tryz.prog) w 23 57 none 0 cap 0 0 Tryz.underlying23
    go_enter Tryz.func46, Tryz.ntmps46
    go_wp2_with fail
    go_ret
    exact ⟨none, 0, rfl, by rw [Hxs.out]; exact World.ownsRow_nil _ _ _ _, Below.refl _ _⟩
  · have hnil := fun w : World => Lib.run_eql_slice_nil (P := Tryz.prog) w 23 57 (some ad) n cap 0 0 Tryz.underlying23
    have Ls1 := hide (show 0 + n ≤ maxLen by unfold maxLen; omega)
    have Ls2 := hide (show (0 + n) * 48 ≤ 140737488355328 by omega)
    go_enter Tryz.func46, Tryz.ntmps46
    go_wp2_with (first
      | (at_builtin; refine wpList_append_rd _ rfl (.tmp 5) (.tmp 6) 23 23 rfl w.heap.size 57 57 _ 33 48 Tryz.underlying23 Tryz.underlying23 Tryz.info57 rfl (by decide) _ 0 [] rfl ⟨rfl, .inr ⟨w.heap.size, 0, #[], rfl, Nat.le_refl _, heap_alloc_new _ _, Nat.le_refl _, by unfold maxLen; omega, rfl, rfl⟩⟩ _ _ n cap xs rfl (Hr.out.alloc _) H1.out Ls1.out Ls2.out (by simp) ?_; intro A14 cap14 w14 hown14 hgrow14 hat14; have Hown14 := hide hown14; have Hgr := hide hgrow14; clear hown14 hgrow14 hat14)
      | fail)
    go_ret
    refine ⟨_, cap14, rfl, ?_, ?_⟩
    · have := Hown14.out
      rw [Nat.zero_add, List.nil_append] at this
      exact this
    · exact ((Below.refl _ w).alloc (Nat.le_refl _) _).grown Hgr.out (by simp) (fun j hj => by have hj2 : w.heap.size = j := Option.some.inj hj; omega)

/-- The zeros of one reference. -/
def zeroR : List Value := .string ⟨#[]⟩ :: zero32
theorem run_clear_ref (w : World) (ty : TypeId) (b o c : Nat) (ht : ∀ j, j < 33 → (w.cell? ⟨b, o + j, none⟩).isSome = true ∧ w.frozen? ⟨b, o + j, none⟩ = false) :
    (Builtin.clear_ #[23] ty #[.slice (some ⟨b, o, none⟩) 1 c]).run Tryz.prog w = .ok (.tuple #[]) (w.setCells b o zeroR) := by
  have hz := (zero_of_info (P := Tryz.prog) (t := 57) (v := .agg (#[.string ⟨#[]⟩] ++ Array.replicate 32 (.int .u8 0))) (n := 33) (by kernel_rfl)).1
  have hzc : (Builtin.zeroCells (Value.agg (#[.string ⟨#[]⟩] ++ Array.replicate 32 (.int .u8 0))).cells 1).toList = zeroR := by kernel_rfl
  have hst := run_storeCells_cells (P := Tryz.prog) b o zeroR 0 w (fun j hj => by simpa using (ht j (by simpa [zeroR, zero32] using hj)).1) (fun j hj => by simpa using (ht j (by simpa [zeroR, zero32] using hj)).2) (by intro v hv; simp [zeroR, zero32] at hv; rcases hv with rfl | rfl <;> rfl)
  simp only [Nat.add_zero] at hst
  simp [Builtin.clear_, run_underlying Tryz.underlying23, hz, hzc, hst]

set_option maxHeartbeats 4000000 in
set_option maxRecDepth 100000 in
theorem deleteR_any (B g n cap i jn : Nat) (z : Int) (xs : List Value) (w : World) (hown : w.ownsRow B 57 33 (.slice (some ⟨g, 0, none⟩) n cap) n xs) (h1 : ∀ u ∈ xs, u.oneCell' = true) (hn : n ≤ 1000) (hi : i < n) (hz : z = (jn : Nat)) (hj : jn = i + 1) :
    Calls Tryz.prog 48 #[.slice (some ⟨g, 0, none⟩) n cap, .int .i64 i, .int .i64 z] w fun e w' =>
      e = .returned (.slice (some ⟨g, 0, none⟩) (n - 1) cap) ∧ w'.ownsRow B 57 33 (.slice (some ⟨g, 0, none⟩) (n - 1) cap) (n - 1) (xs.take (i * 33) ++ xs.drop (jn * 33)) ∧ Keep (· = g) w w' := by
  subst hz
  obtain ⟨hBg, hg, cur, hcur, hnc, hcm, hcl, htk⟩ := own_blk hown
  have hxl : xs.length = n * 33 := hown.1
  obtain ⟨news, hnews⟩ : ∃ news, news = xs.drop (jn * 33) := ⟨_, rfl⟩
  have hnl : news.length = (n - jn) * 33 := by rw [hnews, List.length_drop, hxl]; omega
  have hcap2 : cap ≤ 9223372036854775807 := hcm
  have hfr : ∀ j, w.frozen? ⟨g, j, none⟩ = false := fun j => frozen_of_row _ _ _ _ _ hcur
  have hcell : ∀ j, w.cell? ⟨g, j, none⟩ = cur[j]? := blk_cell hcur
  obtain ⟨ad, hifs⟩ : ∃ ad : Addr, (if cap = jn then some (⟨g, 0, none⟩ : Addr) else some ⟨g, jn * 33, none⟩) = some ad := by split <;> exact ⟨_, rfl⟩
  have Hcells := hide (show ∀ k u, news[k]? = some u → w.drew.cell? (ad.add k) = some u by
    intro k u hk
    have hkl := (List.getElem?_eq_some_iff.1 hk).1
    have hne9 : ¬ cap = jn := by omega
    rw [if_neg hne9] at hifs
    obtain rfl : (⟨g, jn * 33, none⟩ : Addr) = ad := by injection hifs
    have hadd : (⟨g, jn * 33, none⟩ : Addr).add k = ⟨g, jn * 33 + k, none⟩ := by unfold Addr.add; split <;> simp_all
    rw [hadd]
    show w.cell? _ = _
    rw [hcell, ← hk, hnews, List.getElem?_drop, ← htk, List.getElem?_take, if_pos (by omega)])
  have Hone := hide (show ∀ u ∈ news, u.oneCell' = true by rw [hnews]; exact fun u hu => h1 u (List.mem_of_mem_drop hu))
  have Hspare := hide (show ∀ k, k < news.length → (w.drew.cell? ⟨g, 0 + i * 33 + k, none⟩).isSome = true ∧ w.drew.frozen? ⟨g, 0 + i * 33 + k, none⟩ = false by
    intro k hk
    refine ⟨?_, hfr _⟩
    show (w.cell? _).isSome = true
    have h3 : 0 + i * 33 + k < cur.length := by
      rw [hcl]
      have : n * 33 ≤ cap * 33 := Nat.mul_le_mul_right _ hnc
      omega
    rw [hcell, List.getElem?_eq_getElem h3]; rfl)
  obtain ⟨i0, hq, hsz⟩ : ∃ q, Tryz.prog.info? 57 = some q ∧ q.size = 33 := by
    have h9 := Tryz.info57
    cases hq : Tryz.prog.info? 57 with
    | none => rw [hq] at h9; simp at h9
    | some q => rw [hq] at h9; simp at h9; exact ⟨q, rfl, h9.2.1⟩
  have Hq := hide hq
  have Hsz := hide hsz
  have Hnl := hide hnl
  have Hcur := hide hcur
  have Hcl := hide hcl
  have Htk := hide htk
  have Hnews := hide hnews
  have Hj := hide hj
  have hi0 : (0 : Int) ≤ (i : Int) := Int.natCast_nonneg i
  have hj0 : (0 : Int) ≤ (jn : Int) := Int.natCast_nonneg jn
  have hij : (i : Int) ≤ (jn : Int) := by omega
  have hjn : (jn : Int) ≤ (n : Int) := by omega
  have hin : (i : Int) ≤ (n : Int) := by omega
  have hncI : (n : Int) ≤ (cap : Int) := Int.ofNat_le.2 hnc
  have hicI : (i : Int) ≤ (cap : Int) := by omega
  have hjcI : (jn : Int) ≤ (cap : Int) := by omega
  have hne : ((i : Int) == (jn : Int)) = false := by rw [beq_eq_false_iff_ne]; omega
  clear hown hcur hcl htk hnews hnl hq hsz hfr hcell h1 hj
  go_enter Tryz.func48, Tryz.ntmps48
  go_upto_region 5 with (fail)
  have Hhalf := hide (show i + (n - jn) ≤ cap by have := Hj.out; omega)
  have hsum : i + (n - jn) = n - 1 := by have := Hj.out; omega
  refine wp_region_mix (fun _ => True) (by kernel_rfl) (by kernel_rfl) ?_
  haveI : Nonempty (Wl fun _ : World => True) := ⟨⟨w, trivial⟩⟩
  refine Mixed.batch [0, 1, 2, 3, 4, 5] 2 (by kernel_rfl) (by kernel_rfl) (by kernel_rfl) (by kernel_rfl) trivial _ (by simp only [List.map_cons, List.map_nil, List.getElem?_toArray, List.getElem?_cons_zero, List.getElem?_cons_succ, Option.getD_some]; rfl) (fun R hR => ?_)
  repeat (first | go_big_quiet_skip | (go_big_quiet_want; go_big_quiet_op; go_big_quiet_on))
  refine wpQuiet_nil (hR.out _ ?_)
  clear hR R
  refine Mixed.one 6 1 (by kernel_rfl) (by kernel_rfl) (by simp only [List.getElem?_toArray, List.getElem?_cons_zero, List.getElem?_cons_succ]; rfl) (fun K hK => ?_)
  refine step_append_room rfl (.tmp 22) (.tmp 25) 23 rfl 57 i0 33 Tryz.underlying23 Hq.out Hsz.out g 0 i cap rfl ad (n - jn) (cap - jn) news rfl Hnl.out Hcells.out Hone.out Hhalf.out Hspare.out ?_
  refine hK.out _ _ (fun _ => trivial) ?_
  clear hK K
  simp only [Act.put, List.setIfInBounds_toArray, List.set_cons_zero, List.set_cons_succ]
  refine Mixed.batch [7] 0 (by kernel_rfl) (by kernel_rfl) (by kernel_rfl) (by kernel_rfl) trivial _ (by simp only [List.map_cons, List.map_nil, List.getElem?_toArray, List.getElem?_cons_zero, List.getElem?_cons_succ, Option.getD_some]; rfl) (fun R hR => ?_)
  repeat (first | go_big_quiet_skip | (go_big_quiet_want; go_big_quiet_op; go_big_quiet_on))
  refine wpQuiet_nil (hR.out _ ?_)
  clear hR R
  refine Mixed.done (by kernel_rfl) ?_
  rw [hsum]
  have hfit : 0 + i * 33 + news.length ≤ cur.length := by
    rw [Hnl.out, Hcl.out]
    omega
  obtain ⟨W, hW⟩ : ∃ W : World, W = w.drew.setCells g (0 + i * 33) news := ⟨_, rfl⟩
  have hWr : W.heap[g]? = some (.cells (over cur (0 + i * 33) news).toArray 57 (0, 0)) := by rw [hW]; exact heap_setCells g _ news cur _ _ Hcur.out hfit
  have hWk : Keep (· = g) w W := by rw [hW]; exact setCells_keep g news _ _ _ (Keep.refl _ _).drew
  rw [← hW]
  have hol : (over cur (0 + i * 33) news).length = cap * 33 := by rw [over_length _ _ _ hfit, Hcl.out]
  have hcl9 := run_clear_ref W 0 g ((n - 1) * 33) (cap - (n - 1)) (fun j hj => by
    refine ⟨?_, frozen_of_row _ _ _ _ _ hWr⟩
    rw [blk_cell hWr, List.getElem?_eq_getElem (by rw [hol]; omega)]; rfl)
  have HWr := hide hWr
  have HWk := hide hWk
  have Hol := hide hol
  have Hfit := hide hfit
  have hn1 : n - (n - 1) = 1 := by omega
  have h90 : (0 : Int) ≤ ((n - 1 : Nat) : Int) := Int.natCast_nonneg _
  have h91 : ((n - 1 : Nat) : Int) ≤ (n : Int) := by omega
  have h92 : ((n - 1 : Nat) : Int) ≤ (cap : Int) := by omega
  have h93 : ¬ (cap = n - 1) := by omega
  clear hW hWr hWk hol hfit hsum
  go_wp2_with fail
  go_ret
  have hzl : zeroR.length = 33 := rfl
  have hfit2 : (n - 1) * 33 + zeroR.length ≤ (over cur (0 + i * 33) news).length := by rw [hzl, Hol.out]; omega
  have hW2 := heap_setCells g 57 zeroR _ ((n - 1) * 33) W HWr.out hfit2
  have hjo := Hj.out
  have hnl := Hnl.out
  have hcu := Hcl.out
  have htake := over_del cur xs news zeroR (0 + i * 33) ((n - 1) * 33) (n * 33) Htk.out (by omega) (by omega) (by omega)
  rw [Hnews.out, Nat.zero_add] at htake
  rw [Hnews.out, Nat.zero_add] at hW2
  have hlen2 : (over (over cur (i * 33) (xs.drop (jn * 33))) ((n - 1) * 33) zeroR).length = cap * 33 := by
    have h9 := over_length _ _ _ hfit2
    rw [Hnews.out, Nat.zero_add] at h9
    have h8 := Hol.out
    rw [Hnews.out, Nat.zero_add] at h8
    rw [h9, h8]
  exact ⟨rfl, blk_own hBg hW2 (by omega) hcm hlen2 htake, HWk.out.trans (setCells_keep g zeroR _ _ _ (Keep.refl _ _))⟩
end Go.Proofs.YtimfmbcihopaaaaGreatDoor
