/- view's turner: turn, at a blob. -/
import Derived.Test.YtahhglhebcooaaaGreatDoorVw8
namespace Go.Proofs.YtahhglhebcooaaaGreatDoor
open Go.RowKit Go.Cof Go.Tol

def TurnP (w w' : World) (k : UInt8) (dt : List UInt8) (e : Ending) : Prop :=
  ∃ A c, e = .returned (.tuple #[.agg #[.int .i64 1, .slice A dt.length c], .int .i64 0]) ∧ Rd w' (fun i => w.heap.size ≤ i) 1 A dt.length (bytesV (addL k dt)) ∧ dt.length ≤ c ∧ Below w.heap.size w w'

set_option maxHeartbeats 8000000 in
set_option maxRecDepth 200000 in
theorem turn_blob (S : Nat → Prop) (AD : Option Addr) (cD tb : Nat) (k : UInt8) (dt : List UInt8) (w : World) (hr : Rd w S 1 AD dt.length (bytesV dt)) (hl : dt.length ≤ 1000000) (ht : w.cell? ⟨tb, 0, none⟩ = some (.int .u8 (k.toNat : Int))) (htb : tb < w.heap.size) :
    Calls Tryz.prog 39 #[.pointer (some ⟨tb, 0, none⟩), .agg #[.int .i64 1, .slice AD dt.length cD]] w fun e w' => TurnP w w' k dt e := by
  obtain ⟨N, hN⟩ : ∃ N, N = w.heap.size := ⟨_, rfl⟩
  have HN := hide hN
  obtain ⟨d, hd⟩ : ∃ d, d = dt.length := ⟨_, rfl⟩
  have Hby := hide (show ∀ w', Below w.heap.size w w' → Calls Tryz.prog 61 #[.slice AD d cD, .int .u8 k.toNat] w' fun e w'' => ∃ A c, e = .returned (.slice A d c) ∧ w''.ownsRow w'.heap.size 5 1 (.slice A d c) d (bytesV (addL k dt)) ∧ Below w'.heap.size w' w'' from fun w' hb => by
    have hal : (addL k dt).length = d := by rw [addL, List.length_map, hd]
    have h := vbytes_any S AD cD dt k w' (hr.keep (Keep.of_none hb) (fun _ _ _ f => f)) hl
    rw [← hd] at h
    refine h.mono ?_
    rintro e w2 ⟨A, c, h1, h2, h3⟩
    rw [hal] at h1 h2
    exact ⟨A, c, h1, h2, h3⟩)
  have Ht := hide ht
  have Htb := hide htb
  rw [show TurnP w = fun w' k dt e => TurnP w w' k dt e from rfl]
  have Hfin := hide (show ∀ (w' : World) (A : Option Addr) (c : Nat), Rd w' (fun i => w.heap.size ≤ i) 1 A d (bytesV (addL k dt)) → d ≤ c → Below w.heap.size w w' → TurnP w w' k dt (.returned (.tuple #[.agg #[.int .i64 1, .slice A d c], .int .i64 0])) from fun w' A c h1 h2 h3 => by
    rw [hd] at h1 h2 ⊢
    exact ⟨A, c, rfl, h1, h2, h3⟩)
  rw [← hd]
  clear hN hd hr hl ht htb
  go_enter Tryz.func39, Tryz.ntmps39
  go_upto_region 1 with (fail)
  rw [← HN.out]
  try rw [show (w.alloc (.cells #[.int .i64 1, .slice AD d cD] 30)).heap.size = N + 1 by rw [HN.out]; simp]
  obtain ⟨W, hW⟩ : ∃ W : World, W = (w.alloc (.cells #[.int .i64 1, .slice AD d cD] 30)).alloc (.cells #[.int .i64 0, .slice none 0 0] 30) := ⟨_, rfl⟩
  have Hr0 := hide (show W.heap[N]? = some (.cells #[.int .i64 1, .slice AD d cD] 30 (0, 0)) by rw [hW, HN.out]; exact heap_old (heap_new _ _) _)
  have Hr1 := hide (show W.heap[N + 1]? = some (.cells #[.int .i64 0, .slice none 0 0] 30 (0, 0)) by rw [hW, HN.out]; exact heap_alloc2_new _ _ _)
  have HbW := hide (show Below w.heap.size w W by rw [hW]; exact ((Below.refl _ _).alloc (Nat.le_refl _) _).alloc (by simp) _)
  have HWs := hide (show W.heap.size = N + 2 by rw [hW, HN.out]; simp)
  have c0 : W.cell? ⟨N, 0, none⟩ = some (.int .i64 1) := by rw [cell_of_row _ _ 0 _ _ _ Hr0.out]; rfl
  rw [← hW]
  clear hW
  go_upto_region 4 with (fail)
  clear c0
  obtain ⟨C, hC⟩ : ∃ C : World → Prop, C = fun w' => w'.cell? ⟨N, 0, none⟩ = some (.int .i64 1) ∧ w'.cell? ⟨N, 1, none⟩ = some (.slice AD d cD) ∧ w'.cell? ⟨tb, 0, none⟩ = some (.int .u8 (k.toNat : Int)) := ⟨_, rfl⟩
  have HC1 := hide (show ∀ w', InC C w' → w'.cell? ⟨N, 0, none⟩ = some (.int .i64 1) from InC.of fun w' h => by rw [hC] at h; exact h.1)
  have HC2 := hide (show ∀ w', InC C w' → w'.cell? ⟨N, 1, none⟩ = some (.slice AD d cD) from InC.of fun w' h => by rw [hC] at h; exact h.2.1)
  have HC3 := hide (show ∀ w', InC C w' → w'.cell? ⟨tb, 0, none⟩ = some (.int .u8 (k.toNat : Int)) from InC.of fun w' h => by rw [hC] at h; exact h.2.2)
  have HZ := hide (show ∀ w', Below W.heap.size W w' → w'.heap[N + 1]? = some (.cells ([.int .i64 0, .slice none 0 0] : List Value).toArray 30 (0, 0)) from fun w' h => (h.block (N + 1) (by rw [HWs.out]; omega)).trans Hr1.out)
  have HCk := hide (show ∀ w', Below W.heap.size W w' → ∀ w'', Keep (· = N + 1) w' w'' → C w'' from fun w' h w'' hk => by
    rw [hC]
    have hs := h.size
    have hN2 := HWs.out
    have hNe := HN.out
    have htb := Htb.out
    have hb0 : w''.heap[N]? = some (.cells #[.int .i64 1, .slice AD d cD] 30 (0, 0)) := (hk.block N (by omega) (fun e => by have : N = N + 1 := e; omega)).trans ((h.block N (by omega)).trans Hr0.out)
    refine ⟨by rw [cell_of_row _ _ 0 _ _ _ hb0]; rfl, by rw [cell_of_row _ _ 1 _ _ _ hb0]; rfl, ?_⟩
    exact (hk.cell (p := ⟨tb, 0, none⟩) (by show tb < w'.heap.size; omega) (fun e => by have : tb = N + 1 := e; omega)).trans (((HbW.out.trans (h.mono HbW.out.size)).cell (p := ⟨tb, 0, none⟩) htb).trans Ht.out))
  have HC := hide (show ∀ w', Below W.heap.size W w' → C w' from fun w' h => HCk.out w' h w' (Keep.refl _ _))
  have HC0 := hide (HC.out _ (Below.refl W.heap.size W).drew)
  haveI : Nonempty (Wl C) := ⟨⟨_, HC0.out⟩⟩
  clear hC
  refine wp_region_mix C (by kernel_rfl) (by kernel_rfl) ?_
  refine Mixed.batch [0, 1, 2, 3, 4, 5, 6, 7] 4 (by kernel_rfl) (by kernel_rfl) (by kernel_rfl) (by kernel_rfl) HC0.out _ (by simp only [List.map_cons, List.map_nil, List.getElem?_toArray, List.getElem?_cons_zero, List.getElem?_cons_succ, Option.getD_some]; rfl) (fun R hR => ?_)
  repeat (first | go_big_quiet_skip | (go_big_quiet_want; first
    | (refine quiet_load 3 (.tmp 13) rfl ⟨N, 0, none⟩ rfl _ HC1.out _ Tryz.underlying3 rfl ?_; go_simp; go_big_quiet_on)
    | (refine quiet_load 28 (.tmp 15) rfl ⟨N, 1, none⟩ rfl _ HC2.out _ Tryz.underlying28 rfl ?_; go_simp; go_big_quiet_on)
    | (refine quiet_load 5 (.tmp 19) rfl ⟨tb, 0, none⟩ rfl _ HC3.out _ Tryz.underlying5 rfl ?_; go_simp; go_big_quiet_on)
    | (go_big_quiet_op; go_big_quiet_on)))
  refine wpQuiet_nil (hR.out _ ?_)
  clear hR R
  refine Mixed.one 8 3 (by kernel_rfl) (by kernel_rfl) (by simp only [List.getElem?_toArray, List.getElem?_cons_zero, List.getElem?_cons_succ]; rfl) (fun K hK => ?_)
  go_simp
  go_at_call 61
  refine (Hby.out _ (HbW.out.drew)).mono ?_
  rintro e w6 ⟨A6, c6, rfl, hown6, hb6⟩
  have Ho6 := hide hown6
  have Hb6 := hide (show Below W.heap.size W w6 from below_undrew hb6)
  clear hown6 hb6
  refine hK.out _ _ (fun _ => HC.out _ Hb6.out) ?_
  clear hK K
  try simp only [Act.put, List.setIfInBounds_toArray, List.set_cons_zero, List.set_cons_succ]
  refine Mixed.batch [9] 2 (by kernel_rfl) (by kernel_rfl) (by kernel_rfl) (by kernel_rfl) (HC.out _ Hb6.out) _ (by simp only [List.map_cons, List.map_nil, List.getElem?_toArray, List.getElem?_cons_zero, List.getElem?_cons_succ, Option.getD_some]; rfl) (fun R hR => ?_)
  repeat (first | go_big_quiet_skip | (go_big_quiet_want; first
    | (go_big_quiet_op; go_big_quiet_on)))
  refine wpQuiet_nil (hR.out _ ?_)
  clear hR R
  refine Mixed.one 10 1 (by kernel_rfl) (by kernel_rfl) (by simp only [List.getElem?_toArray, List.getElem?_cons_zero, List.getElem?_cons_succ]; rfl) (fun K hK => ?_)
  refine step_store_over rfl 30 (.tmp 4) (.tmp 22) rfl (N + 1) 0 [.int .i64 0, .slice none 0 0] [.int .i64 1, .slice A6 d c6] 30 (HZ.out _ Hb6.out) rfl rfl (Nat.le_refl 2) (by kernel_rfl) (by simp [Value.oneCell']) ?_
  intro w9 hc9 hk9
  have Hc9 := hide (show w9.heap[N + 1]? = some (.cells #[.int .i64 1, .slice A6 d c6] 30 (0, 0)) by rw [hc9.out]; rfl)
  have Hk9 := hide hk9
  have HD9 := hide (HCk.out _ Hb6.out _ hk9)
  clear hc9 hk9
  refine hK.out _ _ (fun _ => HD9.out) ?_
  clear hK K
  try simp only [Act.put, List.setIfInBounds_toArray, List.set_cons_zero, List.set_cons_succ]
  refine Mixed.batch [11] 0 (by kernel_rfl) (by kernel_rfl) (by kernel_rfl) (by kernel_rfl) HD9.out _ (by simp only [List.map_cons, List.map_nil, List.getElem?_toArray, List.getElem?_cons_zero, List.getElem?_cons_succ, Option.getD_some]; rfl) (fun R hR => ?_)
  repeat (first | go_big_quiet_skip | (go_big_quiet_want; first
    | (go_big_quiet_op; go_big_quiet_on)))
  refine wpQuiet_nil (hR.out _ ?_)
  clear hR R
  refine Mixed.done (by kernel_rfl) ?_
  go_wp2_with (fail)
  refine bodyPost_ret (results_row_tmp rfl _ _ (N + 1) rfl Hc9.out Tryz.underlying30 rfl (by kernel_rfl)) rfl ?_
  have hs6 := Hb6.out.size
  have hNe := HN.out
  have hN2 := HWs.out
  refine Hfin.out w9 A6 c6 ?_ (own_caps Ho6.out).1 ((HbW.out.trans (Hb6.out.mono HbW.out.size)).trans (Hk9.out.below (by have := HbW.out.size; omega) (fun i e => by have : i = N + 1 := e; omega)))
  have h1 := (own_rd Ho6.out).keep Hk9.out (fun i hi _ e => by have h4 : W.drew.heap.size = W.heap.size := rfl; have h3 : W.drew.heap.size ≤ i := hi; have : i = N + 1 := e; omega)
  exact h1.mono (fun i _ hi => by have h4 : W.drew.heap.size = W.heap.size := rfl; have h3 : W.drew.heap.size ≤ i := hi; omega)
end Go.Proofs.YtahhglhebcooaaaGreatDoor
