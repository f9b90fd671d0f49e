/- object.Id. -/
import Derived.Test.YtahhglhebcooaaaGreatDoorVw7
namespace Go.Proofs.YtahhglhebcooaaaGreatDoor
open Go.RowKit Go.Cof Go.Tol

/-- An object's name. -/
def idL (k : UInt8) (dt : List UInt8) : List UInt8 := sumH (ofH [[k] ++ beL dt.length 4, dt])

set_option maxHeartbeats 8000000 in
set_option maxRecDepth 200000 in
theorem id_any (S : Nat → Prop) (AD : Option Addr) (cD : Nat) (k : UInt8) (dt : List UInt8) (w : World) (hr : Rd w S 1 AD dt.length (bytesV dt)) (hc : dt.length ≤ cD) (hl : dt.length ≤ 1000000) :
    Calls Tryz.prog 19 #[.agg #[.int .i64 (k.toNat : Int), .slice AD dt.length cD]] w fun e w' => e = .returned (.agg (bytesV (idL k dt)).toArray) ∧ Below w.heap.size w w' := by
  obtain ⟨N, hN⟩ : ∃ N, N = w.heap.size := ⟨_, rfl⟩
  have HN := hide hN
  obtain ⟨d, hd⟩ : ∃ d, d = dt.length := ⟨_, rfl⟩
  obtain ⟨hd2, hhd⟩ : ∃ hd, hd = [k] ++ beL d 4 := ⟨_, rfl⟩
  have HDa := hide (show ∀ w', Below w.heap.size w w' → Rd w' S 1 AD d (bytesV dt) from fun w' hb => by rw [hd]; exact hr.keep (Keep.of_none hb) (fun _ _ _ f => f))
  obtain ⟨sv, hsv⟩ : ∃ sv, sv = bytesV (idL k dt) := ⟨_, rfl⟩
  have hhl : hd2.length = 5 := by rw [hhd]; simp [beL_length]
  have Hof := hide (show ∀ (B cap c : Nat) (A : Option Addr) (w' : World), w'.rangeAt B 0 [.slice A hd2.length c, .slice AD d cD] → B < w'.heap.size → Rd w' (fun i => i < w'.heap.size) 1 A hd2.length (bytesV hd2) → hd2.length ≤ c → Rd w' (fun i => i < w'.heap.size) 1 AD d (bytesV dt) →
      Calls Tryz.prog 38 #[.slice (some ⟨B, 0, none⟩) 2 cap] w' fun e w'' => e = .returned (.agg sv.toArray) ∧ Below w'.heap.size w' w'' from fun B cap c A w' h1 h2 h3 h4 h5 => by
    rw [hsv, idL, ← hd, ← hhd]; rw [hd] at h1 h5
    exact of_two B cap c cD A AD (fun i => i < w'.heap.size) hd2 dt w' h1 h2 (fun b hb => hb) h3 h4 h5 hc (by omega))
  have Hhd := hide (show [k] ++ beL d 4 = hd2 from hhd.symm)
  have Hd64 := hide (show d < 18446744073709551616 by omega)
  have hsl : sv.length = 32 := by rw [hsv, bytesV_length, idL, sumH_length]
  have Hs1 := hide (show ∀ u ∈ sv, u.oneCell' = true by rw [hsv]; exact bytesV_one _)
  have Hszl := hide (show (Tryz.prog.info? 60).map (·.size) = some sv.length by rw [hsl]; kernel_rfl)
  have Hsza := hide (show (Tryz.prog.info? 60).map (·.size) = some sv.toArray.size by rw [List.size_toArray, hsl]; kernel_rfl)
  have Hzl := hide (show 0 + sv.length ≤ z32L.length by rw [hsl]; decide)
  have Hov := hide (show over z32L 0 sv = sv from over_all _ _ (by rw [hsl]; rfl))
  have hd0 : (0 : Int) ≤ (d : Int) := Int.natCast_nonneg _
  have hd1 : (d : Int) ≤ 1000000 := by omega
  have hk0 : (0 : Int) ≤ (k.toNat : Int) := Int.natCast_nonneg _
  have hk1 : (k.toNat : Int) % 256 = (k.toNat : Int) := by have := k.toNat_lt; omega
  rw [← hd, ← hsv]
  clear hN hd hhd hr hc hl hsv hsl hhl
  obtain ⟨hd, rfl⟩ : ∃ hd, hd = hd2 := ⟨_, rfl⟩
  go_enter Tryz.func19, Tryz.ntmps19
  go_upto_region 1 with (fail)
  rw [← HN.out]
  try rw [show (w.alloc (.cells #[.int .i64 (k.toNat : Int), .slice AD d cD] 30)).heap.size = N + 1 by rw [HN.out]; simp]
  obtain ⟨W, hW⟩ : ∃ W : World, W = (w.alloc (.cells #[.int .i64 (k.toNat : Int), .slice AD d cD] 30)).alloc (.cells #[.int .u8 0, .int .u8 0, .int .u8 0, .int .u8 0, .int .u8 0, .int .u8 0, .int .u8 0, .int .u8 0, .int .u8 0, .int .u8 0, .int .u8 0, .int .u8 0, .int .u8 0, .int .u8 0, .int .u8 0, .int .u8 0, .int .u8 0, .int .u8 0, .int .u8 0, .int .u8 0, .int .u8 0, .int .u8 0, .int .u8 0, .int .u8 0, .int .u8 0, .int .u8 0, .int .u8 0, .int .u8 0, .int .u8 0, .int .u8 0, .int .u8 0, .int .u8 0] 60) := ⟨_, rfl⟩
  have Hr0 := hide (show W.heap[N]? = some (.cells #[.int .i64 (k.toNat : Int), .slice AD d cD] 30 (0, 0)) by rw [hW, HN.out]; exact heap_old (heap_new _ _) _)
  have Hr1 := hide (show W.heap[N + 1]? = some (.cells z32L.toArray 60 (0, 0)) by rw [hW, HN.out]; exact heap_alloc2_new _ _ _)
  have HbW := hide (show Below w.heap.size w W by rw [hW]; exact ((Below.refl _ _).alloc (Nat.le_refl _) _).alloc (by simp) _)
  have HWs := hide (show W.heap.size = N + 2 by rw [hW, HN.out]; simp)
  rw [← hW]
  clear hW
  obtain ⟨C, hC⟩ : ∃ C : World → Prop, C = Below W.heap.size W := ⟨_, rfl⟩
  have HC1 := hide (show ∀ w', InC C w' → w'.cell? ⟨N, 0, none⟩ = some (.int .i64 (k.toNat : Int)) from InC.of fun w' h => by rw [cell_of_row _ _ 0 _ _ _ (((hC ▸ h : Below W.heap.size W w').block N (by rw [HWs.out]; omega)).trans Hr0.out)]; rfl)
  have HC2 := hide (show ∀ w', InC C w' → w'.cell? ⟨N, 1, none⟩ = some (.slice AD d cD) from InC.of fun w' h => by rw [cell_of_row _ _ 1 _ _ _ (((hC ▸ h : Below W.heap.size W w').block N (by rw [HWs.out]; omega)).trans Hr0.out)]; rfl)
  have HZ := hide (show ∀ w', Below W.heap.size W w' → w'.heap[N + 1]? = some (.cells z32L.toArray 60 (0, 0)) from fun w' h => (h.block (N + 1) (by rw [HWs.out]; omega)).trans Hr1.out)
  have HC := hide (show ∀ w', Below W.heap.size W w' → C w' from fun w' h => by rw [hC]; exact h)
  have HC0 := hide (HC.out _ (Below.refl W.heap.size W).drew)
  haveI : Nonempty (Wl C) := ⟨⟨_, HC0.out⟩⟩
  clear hC
  refine wp_region_mix C (by kernel_rfl) (by kernel_rfl) ?_
  refine Mixed.batch [0, 1, 2, 4, 5, 9, 10] 7 (by kernel_rfl) (by kernel_rfl) (by kernel_rfl) (by kernel_rfl) HC0.out _ (by simp only [List.map_cons, List.map_nil, List.getElem?_toArray, List.getElem?_cons_zero, List.getElem?_cons_succ, Option.getD_some]; rfl) (fun R hR => ?_)
  repeat (first | go_big_quiet_skip | (go_big_quiet_want; first
    | (refine quiet_load 3 (.tmp 3) rfl ⟨N, 0, none⟩ rfl _ HC1.out _ Tryz.underlying3 rfl ?_; go_simp; go_big_quiet_on)
    | (refine quiet_load 28 (.tmp 7) rfl ⟨N, 1, none⟩ rfl _ HC2.out _ Tryz.underlying28 rfl ?_; go_simp; go_big_quiet_on)
    | (refine quiet_load 28 (.tmp 12) rfl ⟨N, 1, none⟩ rfl _ HC2.out _ Tryz.underlying28 rfl ?_; go_simp; go_big_quiet_on)
    | (go_big_quiet_op; go_big_quiet_on)))
  refine wpQuiet_nil (hR.out _ ?_)
  clear hR R
  refine Mixed.fork 3 6 6 (by kernel_rfl) (by kernel_rfl) (by simp only [List.getElem?_toArray, List.getElem?_cons_zero, List.getElem?_cons_succ]; rfl) (by simp only [List.getElem?_toArray, List.getElem?_cons_zero, List.getElem?_cons_succ]; rfl) (fun K hK => ?_) (fun K hK => ?_)
  · go_simp
    obtain ⟨X1, hX1⟩ : ∃ X : World, X = (W.alloc (.cells #[.int .u8 (k.toNat : Int)] 5)).drew := ⟨_, rfl⟩
    have HX1b := hide (show Below W.heap.size W X1 by rw [hX1]; exact ((Below.refl W.heap.size W).alloc (Nat.le_refl _) _).drew)
    have HX1r := hide (show Rd X1 (fun _ => True) 1 (some ⟨W.heap.size, 0, none⟩) 1 (bytesV [k]) by rw [hX1]; exact ((Rd.new (n := 1) (sz := 1) W 5 [.int .u8 (k.toNat : Int)] (0, 0) rfl).mono (fun _ _ _ => trivial)).drew)
    rw [← hX1]
    clear hX1
    refine hK.out _ _ (fun _ => HC.out _ HX1b.out) ?_
    clear hK K
    try simp only [Act.put, List.setIfInBounds_toArray, List.set_cons_zero, List.set_cons_succ]
    refine Mixed.one 6 5 (by kernel_rfl) (by kernel_rfl) (by simp only [List.getElem?_toArray, List.getElem?_cons_zero, List.getElem?_cons_succ]; rfl) (fun K hK => ?_)
    go_simp
    refine hK.out _ _ (fun _ => HC.out _ HX1b.out) ?_
    clear hK K
    try simp only [Act.put, List.setIfInBounds_toArray, List.set_cons_zero, List.set_cons_succ]
    refine Mixed.batch [7] 4 (by kernel_rfl) (by kernel_rfl) (by kernel_rfl) (by kernel_rfl) (HC.out _ HX1b.out) _ (by simp only [List.map_cons, List.map_nil, List.getElem?_toArray, List.getElem?_cons_zero, List.getElem?_cons_succ, Option.getD_some]; rfl) (fun R hR => ?_)
    repeat (first | go_big_quiet_skip | (go_big_quiet_want; first
      | (go_big_quiet_op; go_big_quiet_on)))
    refine wpQuiet_nil (hR.out _ ?_)
    clear hR R
    refine Mixed.one 8 3 (by kernel_rfl) (by kernel_rfl) (by simp only [List.getElem?_toArray, List.getElem?_cons_zero, List.getElem?_cons_succ]; rfl) (fun K hK => ?_)
    go_simp
    go_at_call 31
    refine (wput_b [k] d 4 rfl rfl rfl HX1r.out (by simp) (by decide) Hd64.out).mono ?_
    rw [Hhd.out]
    rintro e w6 ⟨A6, c6, rfl, hown6, hb6⟩
    have Ho6 := hide hown6
    have Hb6 := hide (HX1b.out.trans (hb6.mono HX1b.out.size))
    clear hown6 hb6
    refine hK.out _ _ (fun _ => HC.out _ Hb6.out) ?_
    clear hK K
    try simp only [Act.put, List.setIfInBounds_toArray, List.set_cons_zero, List.set_cons_succ]
    refine Mixed.one 11 2 (by kernel_rfl) (by kernel_rfl) (by simp only [List.getElem?_toArray, List.getElem?_cons_zero, List.getElem?_cons_succ]; rfl) (fun K hK => ?_)
    go_simp
    obtain ⟨X7, hX7⟩ : ∃ X : World, X = w6.alloc (.cells #[.slice A6 hd.length c6, .slice AD d cD] 28) := ⟨_, rfl⟩
    have Hb7 := hide (show Below W.heap.size W X7 by rw [hX7]; exact Hb6.out.alloc Hb6.out.size _)
    have Hr7 := hide (show X7.rangeAt w6.heap.size 0 [.slice A6 hd.length c6, .slice AD d cD] from part_range (t := 28) (by rw [hX7]; exact heap_new _ _) rfl)
    have Hlt7 := hide (show w6.heap.size < X7.heap.size by rw [hX7]; simp)
    have Ho7 := hide (show Rd X7 (fun i => i < X7.heap.size) 1 A6 hd.length (bytesV hd) from (by rw [hX7]; exact ((own_rd Ho6.out).alloc _).mono (fun i hi _ => hi)))
    have Hd7 := hide (show Rd X7 (fun i => i < X7.heap.size) 1 AD d (bytesV dt) from ((HDa.out _ (HbW.out.trans (Hb7.out.mono HbW.out.size)))).mono (fun i hi _ => hi))
    have Hc6 := hide (own_caps Ho6.out).1
    rw [← hX7]
    clear hX7
    refine hK.out _ _ (fun _ => HC.out _ Hb7.out) ?_
    clear hK K
    try simp only [Act.put, List.setIfInBounds_toArray, List.set_cons_zero, List.set_cons_succ]
    refine Mixed.one 12 1 (by kernel_rfl) (by kernel_rfl) (by simp only [List.getElem?_toArray, List.getElem?_cons_zero, List.getElem?_cons_succ]; rfl) (fun K hK => ?_)
    go_simp
    go_at_call 38
    refine (Hof.out _ _ _ _ _ Hr7.out Hlt7.out Ho7.out Hc6.out Hd7.out).mono ?_
    rintro e w8 ⟨rfl, hb8⟩
    have Hb8 := hide (Hb7.out.trans (hb8.mono Hb7.out.size))
    clear hb8
    refine hK.out _ _ (fun _ => HC.out _ Hb8.out) ?_
    clear hK K
    try simp only [Act.put, List.setIfInBounds_toArray, List.set_cons_zero, List.set_cons_succ]
    refine Mixed.one 13 0 (by kernel_rfl) (by kernel_rfl) (by simp only [List.getElem?_toArray, List.getElem?_cons_zero, List.getElem?_cons_succ]; rfl) (fun K hK => ?_)
    refine step_store_over rfl 60 (.tmp 2) (.tmp 15) rfl (N + 1) 0 z32L sv 60 (HZ.out _ Hb8.out) rfl rfl Hzl.out Hszl.out Hs1.out ?_
    intro w9 hc9 hk9
    have Hc9 := hide (show w9.heap[N + 1]? = some (.cells sv.toArray 60 (0, 0)) by rw [hc9.out, Hov.out])
    have Hk9 := hide hk9
    clear hc9 hk9
    refine hK.out _ _ (fun h => absurd rfl h) ?_
    clear hK K
    try simp only [Act.put, List.setIfInBounds_toArray, List.set_cons_zero, List.set_cons_succ]
    refine Mixed.done (by kernel_rfl) ?_
    go_wp2_with (fail)
    refine bodyPost_ret (results_cell_row rfl _ _ (N + 1) _ _ _ _ rfl Hc9.out Tryz.underlying60 rfl Hsza.out) rfl ?_
    exact ⟨rfl, (HbW.out.trans (Hb8.out.mono HbW.out.size)).trans (Hk9.out.below (by have := HbW.out.size; have := Hb8.out.size; omega) (fun i e => by have : i = N + 1 := e; have := HN.out; omega))⟩
  · go_simp
    refine hK.out _ _ (fun _ => HC0.out) ?_
    clear hK K
    try simp only [Act.put, List.setIfInBounds_toArray, List.set_cons_zero, List.set_cons_succ]
    refine Mixed.batch [7] 5 (by kernel_rfl) (by kernel_rfl) (by kernel_rfl) (by kernel_rfl) HC0.out _ (by simp only [List.map_cons, List.map_nil, List.getElem?_toArray, List.getElem?_cons_zero, List.getElem?_cons_succ, Option.getD_some]; rfl) (fun R hR => ?_)
    repeat (first | go_big_quiet_skip | (go_big_quiet_want; first
      | (go_big_quiet_op; go_big_quiet_on)))
    refine wpQuiet_nil (hR.out _ ?_)
    clear hR R
    refine Mixed.one 3 4 (by kernel_rfl) (by kernel_rfl) (by simp only [List.getElem?_toArray, List.getElem?_cons_zero, List.getElem?_cons_succ]; rfl) (fun K hK => ?_)
    go_simp
    obtain ⟨X1, hX1⟩ : ∃ X : World, X = (W.alloc (.cells #[.int .u8 (k.toNat : Int)] 5)).drew := ⟨_, rfl⟩
    have HX1b := hide (show Below W.heap.size W X1 by rw [hX1]; exact ((Below.refl W.heap.size W).alloc (Nat.le_refl _) _).drew)
    have HX1r := hide (show Rd X1 (fun _ => True) 1 (some ⟨W.heap.size, 0, none⟩) 1 (bytesV [k]) by rw [hX1]; exact ((Rd.new (n := 1) (sz := 1) W 5 [.int .u8 (k.toNat : Int)] (0, 0) rfl).mono (fun _ _ _ => trivial)).drew)
    rw [← hX1]
    clear hX1
    refine hK.out _ _ (fun _ => HC.out _ HX1b.out) ?_
    clear hK K
    try simp only [Act.put, List.setIfInBounds_toArray, List.set_cons_zero, List.set_cons_succ]
    refine Mixed.one 8 3 (by kernel_rfl) (by kernel_rfl) (by simp only [List.getElem?_toArray, List.getElem?_cons_zero, List.getElem?_cons_succ]; rfl) (fun K hK => ?_)
    go_simp
    go_at_call 31
    refine (wput_b [k] d 4 rfl rfl rfl HX1r.out (by simp) (by decide) Hd64.out).mono ?_
    rw [Hhd.out]
    rintro e w6 ⟨A6, c6, rfl, hown6, hb6⟩
    have Ho6 := hide hown6
    have Hb6 := hide (HX1b.out.trans (hb6.mono HX1b.out.size))
    clear hown6 hb6
    refine hK.out _ _ (fun _ => HC.out _ Hb6.out) ?_
    clear hK K
    try simp only [Act.put, List.setIfInBounds_toArray, List.set_cons_zero, List.set_cons_succ]
    refine Mixed.one 11 2 (by kernel_rfl) (by kernel_rfl) (by simp only [List.getElem?_toArray, List.getElem?_cons_zero, List.getElem?_cons_succ]; rfl) (fun K hK => ?_)
    go_simp
    obtain ⟨X7, hX7⟩ : ∃ X : World, X = w6.alloc (.cells #[.slice A6 hd.length c6, .slice AD d cD] 28) := ⟨_, rfl⟩
    have Hb7 := hide (show Below W.heap.size W X7 by rw [hX7]; exact Hb6.out.alloc Hb6.out.size _)
    have Hr7 := hide (show X7.rangeAt w6.heap.size 0 [.slice A6 hd.length c6, .slice AD d cD] from part_range (t := 28) (by rw [hX7]; exact heap_new _ _) rfl)
    have Hlt7 := hide (show w6.heap.size < X7.heap.size by rw [hX7]; simp)
    have Ho7 := hide (show Rd X7 (fun i => i < X7.heap.size) 1 A6 hd.length (bytesV hd) from (by rw [hX7]; exact ((own_rd Ho6.out).alloc _).mono (fun i hi _ => hi)))
    have Hd7 := hide (show Rd X7 (fun i => i < X7.heap.size) 1 AD d (bytesV dt) from ((HDa.out _ (HbW.out.trans (Hb7.out.mono HbW.out.size)))).mono (fun i hi _ => hi))
    have Hc6 := hide (own_caps Ho6.out).1
    rw [← hX7]
    clear hX7
    refine hK.out _ _ (fun _ => HC.out _ Hb7.out) ?_
    clear hK K
    try simp only [Act.put, List.setIfInBounds_toArray, List.set_cons_zero, List.set_cons_succ]
    refine Mixed.one 12 1 (by kernel_rfl) (by kernel_rfl) (by simp only [List.getElem?_toArray, List.getElem?_cons_zero, List.getElem?_cons_succ]; rfl) (fun K hK => ?_)
    go_simp
    go_at_call 38
    refine (Hof.out _ _ _ _ _ Hr7.out Hlt7.out Ho7.out Hc6.out Hd7.out).mono ?_
    rintro e w8 ⟨rfl, hb8⟩
    have Hb8 := hide (Hb7.out.trans (hb8.mono Hb7.out.size))
    clear hb8
    refine hK.out _ _ (fun _ => HC.out _ Hb8.out) ?_
    clear hK K
    try simp only [Act.put, List.setIfInBounds_toArray, List.set_cons_zero, List.set_cons_succ]
    refine Mixed.one 13 0 (by kernel_rfl) (by kernel_rfl) (by simp only [List.getElem?_toArray, List.getElem?_cons_zero, List.getElem?_cons_succ]; rfl) (fun K hK => ?_)
    refine step_store_over rfl 60 (.tmp 2) (.tmp 15) rfl (N + 1) 0 z32L sv 60 (HZ.out _ Hb8.out) rfl rfl Hzl.out Hszl.out Hs1.out ?_
    intro w9 hc9 hk9
    have Hc9 := hide (show w9.heap[N + 1]? = some (.cells sv.toArray 60 (0, 0)) by rw [hc9.out, Hov.out])
    have Hk9 := hide hk9
    clear hc9 hk9
    refine hK.out _ _ (fun h => absurd rfl h) ?_
    clear hK K
    try simp only [Act.put, List.setIfInBounds_toArray, List.set_cons_zero, List.set_cons_succ]
    refine Mixed.done (by kernel_rfl) ?_
    go_wp2_with (fail)
    refine bodyPost_ret (results_cell_row rfl _ _ (N + 1) _ _ _ _ rfl Hc9.out Tryz.underlying60 rfl Hsza.out) rfl ?_
    exact ⟨rfl, (HbW.out.trans (Hb8.out.mono HbW.out.size)).trans (Hk9.out.below (by have := HbW.out.size; have := Hb8.out.size; omega) (fun i e => by have : i = N + 1 := e; have := HN.out; omega))⟩
end Go.Proofs.YtahhglhebcooaaaGreatDoor
