/- msg.PutRequest. -/
import Derived.Test.YtahhglhebcooaaaGreatDoorMs4
namespace Go.Proofs.YtahhglhebcooaaaGreatDoor
open Go.RowKit Go.Cof Go.Tol

/-- What a request is at its widest. -/
structure ReqOk (q : ReqA) : Prop where
  name : q.name.length = 16
  names : ∀ x ∈ q.names, x.length = 16
  id : q.id < 18446744073709551616
  gen : q.gen < 18446744073709551616
  client : -9223372036854775808 ≤ q.client ∧ q.client ≤ 9223372036854775807
def reqHd (q : ReqA) : List UInt8 := headL (UInt8.ofNat q.client.toNat) (UInt8.ofNat q.kind.toNat) q.id q.gen q.name
def reqTl (q : ReqA) : List UInt8 := tailL (reqHd q) q.names q.data
def reqL (q : ReqA) : List UInt8 := frameL (reqTl q)
def PutQ (w w' : World) (q : ReqA) (e : Ending) : Prop :=
  if mayB q = true then Put2 w w' (reqL q) e else e = .returned (.tuple #[.slice none 0 0, .int .i64 2]) ∧ Below w.heap.size w w'
theorem reqHd_length (q : ReqA) (h : q.name.length = 16) : (reqHd q).length = 34 := by simp [reqHd, headL, beL_length, h]
theorem reqTl_length (q : ReqA) (h : ReqOk q) : (reqTl q).length = 40 + q.names.length * 16 + q.data.length := by
  rw [reqTl, tailL]
  simp only [List.length_append, reqHd_length q h.name, beL_length, flat16_length q.names h.names]
  omega
theorem mayB_of (q : ReqA) (h : mayB q = true) : 1 ≤ q.client ∧ q.client ≤ 255 ∧ 1 ≤ q.kind ∧ q.kind ≤ 6 ∧ q.names.length ≤ 128 ∧ q.data.length ≤ 8192 := by simpa [mayB] using h
theorem coreW_eq (q : ReqA) (h : mayB q = true) : coreW (UInt8.ofNat q.client.toNat) (UInt8.ofNat q.kind.toNat) q.id q.gen q.name = coreV q := by
  obtain ⟨h1, h2, h3, h4, _, _⟩ := mayB_of q h
  have e1 : ((UInt8.ofNat q.client.toNat).toNat : Int) = q.client := by rw [UInt8.toNat_ofNat']; omega
  have e2 : ((UInt8.ofNat q.kind.toNat).toNat : Int) = q.kind := by rw [UInt8.toNat_ofNat']; omega
  rw [coreW, coreV, e1, e2]

set_option maxHeartbeats 8000000 in
set_option maxRecDepth 200000 in
theorem putreq_any {S2 S3 : Nat → Prop} (q : ReqA) (AN AD : Option Addr) (cN cD : Nat) (w : World) (hq : ReqOk q) (hN : Rd w S2 16 AN q.names.length (bytesV q.names.flatten)) (hD : Rd w S3 1 AD q.data.length (bytesV q.data)) (hl1 : q.names.length ≤ 100000) (hl2 : q.data.length ≤ 100000) :
    Calls Tryz.prog 12 #[.agg (reqV q AN cN AD cD).toArray] w fun e w' => PutQ w w' q e := by
  obtain ⟨N, hNn⟩ : ∃ N, N = w.heap.size := ⟨_, rfl⟩
  have HN := hide hNn
  obtain ⟨X, hX⟩ : ∃ X, X = reqV q AN cN AD cD := ⟨_, rfl⟩
  obtain ⟨Y, hY⟩ : ∃ Y, Y = coreV q := ⟨_, rfl⟩
  obtain ⟨n, hn⟩ : ∃ n, n = q.names.length := ⟨_, rfl⟩
  obtain ⟨d, hd0⟩ : ∃ d, d = q.data.length := ⟨_, rfl⟩
  obtain ⟨ok, hok⟩ : ∃ ok, ok = mayB q := ⟨_, rfl⟩
  obtain ⟨hd, hhd⟩ : ∃ hd, hd = reqHd q := ⟨_, rfl⟩
  obtain ⟨tl, htl⟩ : ∃ tl, tl = reqTl q := ⟨_, rfl⟩
  obtain ⟨fl, hfl⟩ : ∃ fl, fl = reqL q := ⟨_, rfl⟩
  have Hcore := hide (show ∀ w', Calls Tryz.prog 24 #[.agg X.toArray] w' fun e w'' => e = .returned (.agg Y.toArray) ∧ Below w'.heap.size w' w'' by rw [hX, hY]; exact fun w' => core_any q AN AD cN cD w' hq.name)
  have Hmay := hide (show ∀ w', Calls Tryz.prog 25 #[.agg Y.toArray, .int .i64 1, .int .i64 6, .slice AN n cN, .slice AD d cD] w' fun e w'' => e = .returned (.bool ok) ∧ Below w'.heap.size w' w'' by rw [hY, hn, hd0, hok]; exact fun w' => may_any q AN AD cN cD w' (by omega) (by omega) hq.client)
  have Hhead := hide (show ok = true → ∀ w', Calls Tryz.prog 28 #[.agg Y.toArray, .bool true] w' fun e w'' => Cloned w' w'' hd e from fun h w' => by rw [hY, hhd, ← coreW_eq q (by rw [← hok]; exact h)]; exact head_any _ _ _ _ _ w' hq.name hq.id hq.gen)
  have Hlim := hide (show ok = true → n ≤ 128 ∧ d ≤ 8192 from fun h => by rw [hn, hd0]; exact (mayB_of q (by rw [← hok]; exact h)).2.2.2.2)
  have Htl := hide (show tailL hd q.names q.data = tl by rw [hhd, htl]; rfl)
  have Htll := hide (show ok = true → tl.length ≤ 65536 from fun h => by rw [htl, reqTl_length q hq]; have := (mayB_of q (by rw [← hok]; exact h)).2.2.2.2; omega)
  have Hfl := hide (show frameL tl = fl by rw [htl, hfl]; rfl)
  have Hhl := hide (show hd.length ≤ 1000 by rw [hhd, reqHd_length q hq.name]; decide)
  have HNm := hide (show ∀ w', Below w.heap.size w w' → Rd w' S2 16 AN n (bytesV q.names.flatten) from fun w' hb => by rw [hn]; exact hN.keep (Keep.of_none hb) (fun _ _ _ f => f))
  have HDa := hide (show ∀ w', Below w.heap.size w w' → Rd w' S3 1 AD d (bytesV q.data) from fun w' hb => by rw [hd0]; exact hD.keep (Keep.of_none hb) (fun _ _ _ f => f))
  have H16 := hide hq.names
  have Hnn := hide hn
  have Hdd := hide hd0
  obtain ⟨h19, h20, h21⟩ := reqV_tail q AN AD cN cD hq.name
  rw [← hX] at h20 h21
  rw [← hn] at h20
  rw [← hd0] at h21
  have H20 := hide h20
  have H21 := hide h21
  have HXl := hide (show X.length = 22 by rw [hX]; exact reqV_length q AN AD cN cD hq.name)
  have HszX := hide (show (Tryz.prog.info? 43).map (·.size) = some X.length by rw [HXl.out]; kernel_rfl)
  have Hpost := hide (show ∀ w' e, PutQ w w' q e ↔ if ok = true then Put2 w w' fl e else e = .returned (.tuple #[.slice none 0 0, .int .i64 2]) ∧ Below w.heap.size w w' from fun w' e => by rw [hok, hfl]; exact Iff.rfl)
  rw [← hX]
  clear hNn hX hY hn hd0 hok hhd htl hfl hN hD hl1 hl2 h19 h20 h21 hq
  go_enter Tryz.func12, Tryz.ntmps12
  go_upto_region 1 with (fail)
  rw [← HN.out]
  obtain ⟨W, hW⟩ : ∃ W : World, W = w.alloc (.cells X.toArray 43) := ⟨_, rfl⟩
  have hr0 : W.heap[N]? = some (.cells X.toArray 43 (0, 0)) := by rw [hW, HN.out]; exact heap_new _ _
  have HbW := hide (show Below w.heap.size w W by rw [hW]; exact (Below.refl _ _).alloc (Nat.le_refl _) _)
  have Hr0 := hide hr0
  rw [← hW]
  clear hW hr0
  obtain ⟨C, hC⟩ : ∃ C : World → Prop, C = Below W.heap.size W := ⟨_, rfl⟩
  have HR := hide (show ∀ w', InC C w' → w'.rangeAt N 0 X from InC.of fun w' h => part_range (((hC ▸ h : Below W.heap.size W w').block N (blk_lt Hr0.out)).trans Hr0.out) (by rw [List.drop_zero, List.take_length]))
  have HC1 := hide (show ∀ w', InC C w' → w'.cell? ⟨N, 20, none⟩ = some (.slice AN n cN) from InC.of fun w' h => by rw [blk_cell (((hC ▸ h : Below W.heap.size W w').block N (blk_lt Hr0.out)).trans Hr0.out)]; exact H20.out)
  have HC2 := hide (show ∀ w', InC C w' → w'.cell? ⟨N, 21, none⟩ = some (.slice AD d cD) from InC.of fun w' h => by rw [blk_cell (((hC ▸ h : Below W.heap.size W w').block N (blk_lt Hr0.out)).trans Hr0.out)]; exact H21.out)
  have HC := hide (show ∀ w', Below W.heap.size W w' → C w' from fun w' h => by rw [hC]; exact h)
  have HC0 := hide (HC.out _ (Below.refl W.heap.size W).drew)
  haveI : Nonempty (Wl C) := ⟨⟨_, HC0.out⟩⟩
  clear hC
  refine wp_region_mix C (by kernel_rfl) (by kernel_rfl) ?_
  refine Mixed.batch [0, 2, 3, 4, 5] 3 (by kernel_rfl) (by kernel_rfl) (by kernel_rfl) (by kernel_rfl) HC0.out _ (by simp only [List.map_cons, List.map_nil, List.getElem?_toArray, List.getElem?_cons_zero, List.getElem?_cons_succ, Option.getD_some]; rfl) (fun R hR => ?_)
  repeat (first | go_big_quiet_skip | (go_big_quiet_want; first
    | (refine quiet_loads 43 (.tmp 1) rfl N 0 rfl X HR.out _ Tryz.underlying43 rfl HszX.out ?_; go_simp; go_big_quiet_on)
    | (refine quiet_load 41 (.tmp 6) rfl ⟨N, 20, none⟩ rfl _ HC1.out _ Tryz.underlying41 rfl ?_; go_simp; go_big_quiet_on)
    | (refine quiet_load 28 (.tmp 8) rfl ⟨N, 21, none⟩ rfl _ HC2.out _ Tryz.underlying28 rfl ?_; go_simp; go_big_quiet_on)
    | (go_big_quiet_op; go_big_quiet_on)))
  refine wpQuiet_nil (hR.out _ ?_)
  clear hR R
  refine Mixed.one 1 2 (by kernel_rfl) (by kernel_rfl) (by simp only [List.getElem?_toArray, List.getElem?_cons_zero, List.getElem?_cons_succ]; rfl) (fun K hK => ?_)
  go_simp
  go_at_call 24
  refine (Hcore.out _).mono ?_
  rintro e w4 ⟨rfl, hb⟩
  have Hbw4 := hide (show Below W.heap.size W w4 from below_undrew hb)
  clear hb
  refine hK.out _ _ (fun _ => HC.out _ Hbw4.out) ?_
  clear hK K
  try simp only [Act.put, List.setIfInBounds_toArray, List.set_cons_zero, List.set_cons_succ]
  refine Mixed.one 6 1 (by kernel_rfl) (by kernel_rfl) (by simp only [List.getElem?_toArray, List.getElem?_cons_zero, List.getElem?_cons_succ]; rfl) (fun K hK => ?_)
  go_simp
  go_at_call 25
  refine (Hmay.out _).mono ?_
  rintro e w5 ⟨rfl, hb⟩
  have Hbw5 := hide (Hbw4.out.trans (hb.mono Hbw4.out.size))
  clear hb
  refine hK.out _ _ (fun _ => HC.out _ Hbw5.out) ?_
  clear hK K
  try simp only [Act.put, List.setIfInBounds_toArray, List.set_cons_zero, List.set_cons_succ]
  refine Mixed.batch [7] 0 (by kernel_rfl) (by kernel_rfl) (by kernel_rfl) (by kernel_rfl) (HC.out _ Hbw5.out) _ (by simp only [List.map_cons, List.map_nil, List.getElem?_toArray, List.getElem?_cons_zero, List.getElem?_cons_succ, Option.getD_some]; rfl) (fun R hR => ?_)
  repeat (first | go_big_quiet_skip | (go_big_quiet_want; first
    | (go_big_quiet_op; go_big_quiet_on)))
  refine wpQuiet_nil (hR.out _ ?_)
  clear hR R
  refine Mixed.done (by kernel_rfl) ?_
  rcases hokv : ok with _ | _
  · have hpo := Hpost.out
    rw [hokv] at hpo
    have Hpo := hide hpo
    subst hokv
    clear hpo
    go_wp2_with (fail)
    go_ret2
    rw [Hpo.out, if_neg (by decide)]
    exact ⟨rfl, HbW.out.trans (Hbw5.out.mono HbW.out.size)⟩
  · have hokk : ok = true := hokv
    have hpo := Hpost.out
    rw [hokv] at hpo
    have Hpo := hide hpo
    have hokk : true = true := rfl
    subst hokv
    clear hpo
    have HC5 := hide (HC.out _ Hbw5.out.drew)
    go_upto_region 3 with (fail)
    refine wp_region_mix C (by kernel_rfl) (by kernel_rfl) ?_
    refine Mixed.batch [0, 3, 4, 5, 6] 8 (by kernel_rfl) (by kernel_rfl) (by kernel_rfl) (by kernel_rfl) HC5.out _ (by simp only [List.map_cons, List.map_nil, List.getElem?_toArray, List.getElem?_cons_zero, List.getElem?_cons_succ, Option.getD_some]; rfl) (fun R hR => ?_)
    repeat (first | go_big_quiet_skip | (go_big_quiet_want; first
      | (refine quiet_loads 43 (.tmp 1) rfl N 0 rfl X HR.out _ Tryz.underlying43 rfl HszX.out ?_; go_simp; go_big_quiet_on)
      | (refine quiet_load 41 (.tmp 15) rfl ⟨N, 20, none⟩ rfl _ HC1.out _ Tryz.underlying41 rfl ?_; go_simp; go_big_quiet_on)
      | (refine quiet_load 28 (.tmp 17) rfl ⟨N, 21, none⟩ rfl _ HC2.out _ Tryz.underlying28 rfl ?_; go_simp; go_big_quiet_on)
      | (go_big_quiet_op; go_big_quiet_on)))
    refine wpQuiet_nil (hR.out _ ?_)
    clear hR R
    refine Mixed.one 1 7 (by kernel_rfl) (by kernel_rfl) (by simp only [List.getElem?_toArray, List.getElem?_cons_zero, List.getElem?_cons_succ]; rfl) (fun K hK => ?_)
    go_simp
    go_at_call 24
    refine (Hcore.out _).mono ?_
    rintro e w6 ⟨rfl, hb⟩
    have Hbw6 := hide (show Below W.heap.size W w6 from Hbw5.out.trans ((below_undrew hb).mono Hbw5.out.size))
    clear hb
    refine hK.out _ _ (fun _ => HC.out _ Hbw6.out) ?_
    clear hK K
    try simp only [Act.put, List.setIfInBounds_toArray, List.set_cons_zero, List.set_cons_succ]
    refine Mixed.one 2 6 (by kernel_rfl) (by kernel_rfl) (by simp only [List.getElem?_toArray, List.getElem?_cons_zero, List.getElem?_cons_succ]; rfl) (fun K hK => ?_)
    go_simp
    go_at_call 28
    refine (Hhead.out hokk _).mono ?_
    rintro e w7 ⟨A7, c7, rfl, hown7, hb7⟩
    have Hbw7 := hide (Hbw6.out.trans (hb7.mono Hbw6.out.size))
    have Ho7 := hide hown7
    clear hb7 hown7
    refine hK.out _ _ (fun _ => HC.out _ Hbw7.out) ?_
    clear hK K
    try simp only [Act.put, List.setIfInBounds_toArray, List.set_cons_zero, List.set_cons_succ]
    refine Mixed.one 7 5 (by kernel_rfl) (by kernel_rfl) (by simp only [List.getElem?_toArray, List.getElem?_cons_zero, List.getElem?_cons_succ]; rfl) (fun K hK => ?_)
    go_simp
    go_at_call 27
    refine (tail_any hd q.names q.data rfl Hnn.out Hdd.out (own_rd Ho7.out) (HNm.out _ (HbW.out.trans (Hbw7.out.mono HbW.out.size))) (HDa.out _ (HbW.out.trans (Hbw7.out.mono HbW.out.size))) H16.out Hhl.out (by have := Hlim.out hokk; omega) (by have := Hlim.out hokk; omega)).mono ?_
    rw [Htl.out]
    rintro e w8 ⟨A8, c8, rfl, hown8, hb8⟩
    have Hbw8 := hide (Hbw7.out.trans (hb8.mono Hbw7.out.size))
    have Ho8 := hide hown8
    clear hb8 hown8
    refine hK.out _ _ (fun _ => HC.out _ Hbw8.out) ?_
    clear hK K
    try simp only [Act.put, List.setIfInBounds_toArray, List.set_cons_zero, List.set_cons_succ]
    refine Mixed.one 8 4 (by kernel_rfl) (by kernel_rfl) (by simp only [List.getElem?_toArray, List.getElem?_cons_zero, List.getElem?_cons_succ]; rfl) (fun K hK => ?_)
    go_simp
    go_at_call 26
    refine (fput_any _ A8 c8 tl _ (own_rd Ho8.out) (Htll.out hokk)).mono ?_
    rw [Hfl.out]
    rintro e w9 ⟨A9, c9, rfl, hown9, hb9⟩
    have Hbw9 := hide (Hbw8.out.trans (hb9.mono Hbw8.out.size))
    have Ho9 := hide (own_mono hown9 (Nat.le_trans HbW.out.size Hbw8.out.size))
    clear hb9 hown9
    refine hK.out _ _ (fun _ => HC.out _ Hbw9.out) ?_
    clear hK K
    try simp only [Act.put, List.setIfInBounds_toArray, List.set_cons_zero, List.set_cons_succ]
    refine Mixed.batch [9, 10, 11, 12] 0 (by kernel_rfl) (by kernel_rfl) (by kernel_rfl) (by kernel_rfl) (HC.out _ Hbw9.out) _ (by simp only [List.map_cons, List.map_nil, List.getElem?_toArray, List.getElem?_cons_zero, List.getElem?_cons_succ, Option.getD_some]; rfl) (fun R hR => ?_)
    repeat (first | go_big_quiet_skip | (go_big_quiet_want; first
      | (go_big_quiet_op; go_big_quiet_on)))
    refine wpQuiet_nil (hR.out _ ?_)
    clear hR R
    refine Mixed.done (by kernel_rfl) ?_
    go_wp2_with (fail)
    go_ret2
    rw [Hpo.out, if_pos (by trivial)]
    exact ⟨A9, c9, rfl, Ho9.out, HbW.out.trans (Hbw9.out.mono HbW.out.size)⟩
end Go.Proofs.YtahhglhebcooaaaGreatDoor
