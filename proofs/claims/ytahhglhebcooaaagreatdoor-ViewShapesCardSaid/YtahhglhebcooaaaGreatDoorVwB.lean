/- view's turner: all, at one blob. -/
import Derived.Test.YtahhglhebcooaaaGreatDoorVwA
namespace Go.Proofs.YtahhglhebcooaaaGreatDoor
open Go.RowKit Go.Cof Go.Tol

theorem Tryz.info30 : (Tryz.prog.info? 30).map (fun i => (i.zero, i.size, i.bytes)) = some (some (.agg #[.int .i64 0, .slice none 0 0]), 2, 32) := by kernel_rfl
def AllP (w w' : World) (mb : Nat) (k : UInt8) (dt : List UInt8) (v : Value) : Prop :=
  ∃ A c A2 c2, v = .slice A 1 c ∧ Rd w' (fun i => w.heap.size ≤ i) 2 A 1 [.int .i64 1, .slice A2 dt.length c2] ∧ Rd w' (fun i => w.heap.size ≤ i) 1 A2 dt.length (bytesV (addL k dt)) ∧ dt.length ≤ c2 ∧ Keep (· = mb) w w'

set_option maxHeartbeats 8000000 in
set_option maxRecDepth 200000 in
theorem all_one (S : Nat → Prop) (AD : Option Addr) (cD tb mb nm B cap : Nat) (k : UInt8) (dt : List UInt8) (D : DataW Unit) (w : World) (hr : Rd w S 1 AD dt.length (bytesV dt)) (hc : dt.length ≤ cD) (hl : dt.length ≤ 16384)
    (hB : w.rangeAt B 0 [.int .i64 1, .slice AD dt.length cD]) (hBl : B < w.heap.size) (ht : w.cell? ⟨tb, 0, none⟩ = some (.int .u8 (k.toNat : Int))) (ht1 : w.cell? ⟨tb, 1, none⟩ = some (.map (some mb))) (htb : tb < w.heap.size)
    (hm : w.ownsMap Tryz.prog 60 (fun _ => some (.lit (.bool true), [])) mb nm D) (hnm : nm < 1000000) :
    Calls Tryz.prog 20 #[.pointer (some ⟨tb, 0, none⟩), .slice (some ⟨B, 0, none⟩) 1 cap] w fun e w' => ∃ v, e = .returned v ∧ AllP w w' mb k dt v := by
  obtain ⟨d, hd⟩ : ∃ d, d = dt.length := ⟨_, rfl⟩
  have Hturn := hide (show ∀ w', Below w.heap.size w w' → Calls Tryz.prog 39 #[.pointer (some ⟨tb, 0, none⟩), .agg #[.int .i64 1, .slice AD d cD]] w' fun e w'' => ∃ A c, e = .returned (.tuple #[.agg #[.int .i64 1, .slice A d c], .int .i64 0]) ∧ Rd w'' (fun i => w'.heap.size ≤ i) 1 A d (bytesV (addL k dt)) ∧ d ≤ c ∧ Below w'.heap.size w' w'' from fun w' hb => by
    rw [hd]; exact turn_blob S AD cD tb k dt w' (hr.keep (Keep.of_none hb) (fun _ _ _ f => f)) (by omega) ((hb.cell (p := ⟨tb, 0, none⟩) htb).trans ht) (Nat.lt_of_lt_of_le htb hb.size))
  obtain ⟨i1, hi1⟩ : ∃ i, i = idL 1 dt := ⟨_, rfl⟩
  obtain ⟨i2, hi2⟩ : ∃ i, i = idL 1 (addL k dt) := ⟨_, rfl⟩
  have hil : ∀ (z : UInt8) (l : List UInt8), (idL z l).length = 32 := fun z l => by rw [idL, sumH_length]
  have Hi1 := hide (show i1.length = 32 by rw [hi1]; exact hil _ _)
  have Hidk := hide (show ∀ w', Below w.heap.size w w' → Calls Tryz.prog 19 #[.agg #[.int .i64 1, .slice AD d cD]] w' fun e w'' => e = .returned (.agg (bytesV i1).toArray) ∧ Below w'.heap.size w' w'' from fun w' hb => by
    rw [hd, hi1]; exact id_any S AD cD 1 dt w' (hr.keep (Keep.of_none hb) (fun _ _ _ f => f)) hc (by omega))
  have hal : (addL k dt).length = d := by rw [addL, List.length_map, hd]
  have Hidk2 := hide (show ∀ (S2 : Nat → Prop) (A : Option Addr) (c : Nat) (w' : World), Rd w' S2 1 A d (bytesV (addL k dt)) → d ≤ c → Calls Tryz.prog 19 #[.agg #[.int .i64 1, .slice A d c]] w' fun e w'' => e = .returned (.agg (bytesV i2).toArray) ∧ Below w'.heap.size w' w'' from fun S2 A c w' h1 h2 => by
    have h := id_any S2 A c 1 (addL k dt) w' (by rw [hal]; exact h1) (by rw [hal]; exact h2) (by rw [hal]; omega)
    rw [hal] at h
    rw [hi2]
    exact h)
  have Hmap0 := hide (show ∀ w', Below w.heap.size w w' → w'.ownsMap Tryz.prog 60 (fun _ => some (.lit (.bool true), [])) mb nm D from fun w' hb => hm.kept (row := none) ⟨hb.os, hb.tape, hb.output, hb.size, fun k hk _ => hb.block k hk⟩ (by simp))
  have Hmb := hide (show mb < w.heap.size from hm.lt)
  have Hnm := hide (show nm < maxLen by unfold maxLen; omega)
  have HrB := hide hB
  have HBl := hide hBl
  have Ht1 := hide ht1
  have Htb := hide htb
  have Hd := hide hd
  have hd16 : d ≤ 16384 := by omega
  have Hd16 := hide hd16
  rw [← hd] at HrB
  clear hr hc hl hB hBl ht ht1 htb hm hnm hd hi1 hi2 hil hal hd16
  go_enter Tryz.func20, Tryz.ntmps20
  go_wp2_with (fail)
  go_loopw [5, 12] (fun v i wr => (i = .int .i64 0 ∧ v = .slice none 0 0 ∧ wr = w) ∨ (i = .int .i64 1 ∧ AllP w wr mb k dt v)) (fun _ i _ => (1 - intOf i).toNat)
  case atStart => exact .inl ⟨rfl, rfl, rfl⟩
  case round => as_aux_lemma =>
    rcases hrel with ⟨rfl, rfl, rfl⟩ | ⟨rfl, hall⟩
    · go_upto_region 5 with (first
        | (refine wpList_load_mid rfl 30 (.tmp 14) rfl B 0 rfl [.int .i64 1, .slice AD d cD] _ HrB.out Tryz.underlying30 rfl (by kernel_rfl) ?_)
        | fail)
      obtain ⟨X, hX⟩ : ∃ X, X = wr.heap.size := ⟨_, rfl⟩
      rw [← hX]
      obtain ⟨W1, hW1⟩ : ∃ W : World, W = wr.alloc (.cells #[.int .i64 1, .slice AD d cD] 30) := ⟨_, rfl⟩
      have Hx1 := hide (show W1.heap[X]? = some (.cells #[.int .i64 1, .slice AD d cD] 30 (0, 0)) by rw [hW1, hX]; exact heap_new _ _)
      have Hb1 := hide (show Below wr.heap.size wr W1 by rw [hW1]; exact (Below.refl _ _).alloc (Nat.le_refl _) _)
      have HW1 := hide (show W1.heap.size = X + 1 by rw [hW1, hX]; simp)
      have HX := hide hX
      have Hrg1 := hide (show W1.rangeAt X 0 [.int .i64 1, .slice AD d cD] from part_range (cur := [.int .i64 1, .slice AD d cD]) Hx1.out rfl)
      rw [← hW1]
      clear hX hW1
      go_upto_region 6 with (first
        | (refine wpList_load_mid rfl 30 (.tmp 7) rfl X 0 rfl [.int .i64 1, .slice AD d cD] _ Hrg1.out Tryz.underlying30 rfl (by kernel_rfl) ?_)
        | (go_at_call 39; ((with_reducible refine (Hturn.out _ Hb1.out).mono ?_)); rintro e w5 htp; obtain ⟨A6, c6, rfl, hr5, hc5, hb5⟩ := htp; have Hr5 := hide hr5; have Hc5 := hide hc5; have Hb5 := hide (show Below W1.heap.size W1 w5 from hb5); clear hr5 hc5 hb5)
        | fail)
      obtain ⟨Y, hY⟩ : ∃ Y, Y = w5.heap.size := ⟨_, rfl⟩
      rw [← hY]
      obtain ⟨W7, hW7⟩ : ∃ W : World, W = w5.alloc (.cells #[.int .i64 1, .slice A6 d c6] 30) := ⟨_, rfl⟩
      have Hy7 := hide (show W7.heap[Y]? = some (.cells #[.int .i64 1, .slice A6 d c6] 30 (0, 0)) by rw [hW7, hY]; exact heap_new _ _)
      have Hb7 := hide (show Below W1.heap.size W1 W7 by rw [hW7]; exact Hb5.out.alloc Hb5.out.size _)
      have Hr7 := hide (show Rd W7 (fun i => W1.heap.size ≤ i) 1 A6 d (bytesV (addL k dt)) by rw [hW7]; exact Hr5.out.alloc _)
      have Hx7 := hide (show W7.heap[X]? = some (.cells #[.int .i64 1, .slice AD d cD] 30 (0, 0)) from (Hb7.out.block X (by rw [HW1.out]; omega)).trans Hx1.out)
      have cX0 : W7.cell? ⟨X, 0, none⟩ = some (.int .i64 1) := by rw [cell_of_row _ _ 0 _ _ _ Hx7.out]; rfl
      have cX1 : W7.cell? ⟨X, 1, none⟩ = some (.slice AD d cD) := by rw [cell_of_row _ _ 1 _ _ _ Hx7.out]; rfl
      have HYg := hide (show W1.heap.size ≤ Y by rw [hY]; exact Hb5.out.size)
      rw [← hW7]
      clear hY hW7
      go_upto_region 8 with (first
        | (go_at_call 7; ((with_reducible refine (check_blob AD d cD _ Hd16.out).mono ?_)); rintro e w6 ⟨rfl, hb6⟩; have Hb6 := hide (show Below W7.heap.size W7 w6 from hb6); clear hb6)
        | fail)
      clear cX0 cX1
      have HbR := hide (show ∀ w', Below W7.heap.size W7 w' → Below wr.heap.size wr w' from fun w' hb => Hb1.out.trans ((Hb7.out.trans (hb.mono Hb7.out.size)).mono Hb1.out.size))
      obtain ⟨C, hC⟩ : ∃ C : World → Prop, C = Below W7.heap.size W7 := ⟨_, rfl⟩
      have HC1 := hide (show ∀ w', InC C w' → w'.cell? ⟨tb, 1, none⟩ = some (.map (some mb)) from InC.of fun w' h => by rw [hC] at h; exact ((HbR.out w' h).cell (p := ⟨tb, 1, none⟩) Htb.out).trans Ht1.out)
      have HC2 := hide (show ∀ w', InC C w' → w'.rangeAt X 0 [.int .i64 1, .slice AD d cD] from InC.of fun w' h => by rw [hC] at h; exact part_range (cur := [.int .i64 1, .slice AD d cD]) ((h.block X (Nat.lt_of_lt_of_le (by rw [HW1.out]; omega) Hb7.out.size)).trans Hx7.out) rfl)
      have HC3 := hide (show ∀ w', InC C w' → w'.rangeAt Y 0 [.int .i64 1, .slice A6 d c6] from InC.of fun w' h => by rw [hC] at h; exact part_range (cur := [.int .i64 1, .slice A6 d c6]) ((h.block Y (Array.getElem?_eq_some_iff.1 Hy7.out).1).trans Hy7.out) rfl)
      have HC := hide (show ∀ w', Below W7.heap.size W7 w' → C w' from fun w' h => by rw [hC]; exact h)
      have HC0 := hide (HC.out _ Hb6.out.drew)
      have Hmap := hide (show ∀ w', Below W7.heap.size W7 w' → w'.ownsMap Tryz.prog 60 (fun _ => some (.lit (.bool true), [])) mb nm D from fun w' h => Hmap0.out w' (HbR.out w' h))
      haveI : Nonempty (Wl C) := ⟨⟨_, HC0.out⟩⟩
      clear hC
      refine wp_region_mix C (by kernel_rfl) (by kernel_rfl) ?_
      refine Mixed.batch [0, 1, 2, 3, 4, 6] 3 (by kernel_rfl) (by kernel_rfl) (by kernel_rfl) (by kernel_rfl) HC0.out _ (by simp only [List.map_cons, List.map_nil, List.getElem?_toArray, List.getElem?_cons_zero, List.getElem?_cons_succ, Option.getD_some]; rfl) (fun R hR => ?_)
      repeat (first | go_big_quiet_skip | (go_big_quiet_want; first
        | (refine quiet_load 74 (.tmp 37) rfl ⟨tb, 1, none⟩ rfl _ HC1.out _ Tryz.underlying74 rfl ?_; go_simp; go_big_quiet_on)
        | (refine quiet_loads 30 (.tmp 7) rfl X 0 rfl [.int .i64 1, .slice AD d cD] HC2.out _ Tryz.underlying30 rfl (by kernel_rfl) ?_; go_simp; go_big_quiet_on)
        | (refine quiet_loads 30 (.tmp 8) rfl Y 0 rfl [.int .i64 1, .slice A6 d c6] HC3.out _ Tryz.underlying30 rfl (by kernel_rfl) ?_; go_simp; go_big_quiet_on)
        | (go_big_quiet_op; go_big_quiet_on)))
      refine wpQuiet_nil (hR.out _ ?_)
      clear hR R
      refine Mixed.one 5 2 (by kernel_rfl) (by kernel_rfl) (by simp only [List.getElem?_toArray, List.getElem?_cons_zero, List.getElem?_cons_succ]; rfl) (fun K hK => ?_)
      go_simp
      go_at_call 19
      refine (Hidk.out _ (HbR.out _ Hb6.out.drew)).mono ?_
      rintro e w8 ⟨rfl, hb8⟩
      have Hb8 := hide (show Below W7.heap.size W7 w8 from Hb6.out.trans ((below_undrew hb8).mono Hb6.out.size))
      clear hb8
      refine hK.out _ _ (fun _ => HC.out _ Hb8.out) ?_
      clear hK K
      try simp only [Act.put, List.setIfInBounds_toArray, List.set_cons_zero, List.set_cons_succ]
      refine Mixed.one 7 1 (by kernel_rfl) (by kernel_rfl) (by simp only [List.getElem?_toArray, List.getElem?_cons_zero, List.getElem?_cons_succ]; rfl) (fun K hK => ?_)
      go_simp
      go_at_call 19
      refine (Hidk2.out _ _ _ _ (Hr7.out.keep (Keep.of_none Hb8.out) (fun _ _ _ f => f)) Hc5.out).mono ?_
      rintro e w9 ⟨rfl, hb9⟩
      have Hb9 := hide (show Below W7.heap.size W7 w9 from Hb8.out.trans (hb9.mono Hb8.out.size))
      clear hb9
      refine hK.out _ _ (fun _ => HC.out _ Hb9.out) ?_
      clear hK K
      try simp only [Act.put, List.setIfInBounds_toArray, List.set_cons_zero, List.set_cons_succ]
      refine Mixed.one 8 0 (by kernel_rfl) (by kernel_rfl) (by simp only [List.getElem?_toArray, List.getElem?_cons_zero, List.getElem?_cons_succ]; rfl) (fun K hK => ?_)
      refine step_mapUpdate_id rfl (.tmp 38) (.tmp 40) (.tmp 42) 74 60 Tryz.underlying74 rfl mb nm D rfl (Hmap.out _ Hb9.out) Hnm.out i1 Hi1.out rfl ?_
      intro w10 D10 hmap10 hg10
      have Hg10 := hide hg10
      have Hm10 := hide hmap10
      clear hg10 hmap10
      refine hK.out _ _ (fun h => absurd rfl h) ?_
      clear hK K
      try simp only [Act.put, List.setIfInBounds_toArray, List.set_cons_zero, List.set_cons_succ]
      refine Mixed.done (by kernel_rfl) ?_
      have Hk10 := hide (show Keep (· = mb) w9 w10 from (Keep.refl _ w9).grown Hg10.out (fun j hj _ => by simpa using hj.symm))
      have hYm : mb < W1.heap.size := Nat.lt_of_lt_of_le Hmb.out Hb1.out.size
      have hYl : Y < W7.heap.size := (Array.getElem?_eq_some_iff.1 Hy7.out).1
      have hYg : W1.heap.size ≤ Y := HYg.out
      have Hy10 := hide (show w10.heap[Y]? = some (.cells #[.int .i64 1, .slice A6 d c6] 30 (0, 0)) from (Hk10.out.block Y (Nat.lt_of_lt_of_le hYl Hb9.out.size) (fun e => by have : Y = mb := e; omega)).trans ((Hb9.out.block Y hYl).trans Hy7.out))
      have Hrg10 := hide (show w10.rangeAt Y 0 [.int .i64 1, .slice A6 d c6] from part_range (cur := [.int .i64 1, .slice A6 d c6]) Hy10.out rfl)
      have Hs10 := hide (show wr.heap.size ≤ w10.heap.size from Nat.le_trans (HbR.out _ Hb9.out).size Hk10.out.size)
      clear hYm hYl hYg
      go_wp2_with (first
        | (refine wpList_load_mid rfl 30 (.tmp 8) rfl Y 0 rfl [.int .i64 1, .slice A6 d c6] _ Hrg10.out Tryz.underlying30 rfl (by kernel_rfl) ?_)
        | (at_builtin; refine wpList_append_rd _ rfl (.tmp 43) (.tmp 45) 23 23 rfl wr.heap.size 30 30 _ 2 32 Tryz.underlying23 Tryz.underlying23 Tryz.info30 rfl (by decide) (.slice none 0 0) 0 [] rfl (World.ownsRow_nil _ _ _ _) _ _ 1 1 [.int .i64 1, .slice A6 d c6] rfl (Rd.new_at _ _ _ _ rfl rfl) (by simp [Value.oneCell']) (by decide) (by decide) (Nat.le_trans Hs10.out (by simp)) ?_; intro A14 cap14 w14 hown14 hgrow14 hat14; have Ho14 := hide hown14; have Hg14 := hide hgrow14; clear hown14 hgrow14 hat14)
        | fail)
      have hK : Keep (fun i => i = mb) w10 w14 := ((Keep.refl _ w10).alloc _).grown Hg14.out (fun j hj _ => by simp [Value.ownBlock] at hj)
      have hK9 : Keep (fun i => i = mb) W7 w14 := (((Keep.of_none Hb9.out).mono (fun _ _ f => f.elim)).trans Hk10.out).trans hK
      have hmb := Hmb.out
      have hs1 := Hb1.out.size
      have hKr : Keep (fun i => i = mb) wr w14 := ((Keep.of_none (HbR.out _ Hb9.out)).mono (fun _ _ f => f.elim) |>.trans Hk10.out).trans hK
      refine ⟨.inr ⟨rfl, A14, cap14, A6, c6, by simp, ?_, ?_, ?_, hKr⟩, by decide⟩
      · rw [← Hd.out]
        exact own_rd Ho14.out
      · rw [← Hd.out]
        exact (Hr7.out.keep hK9 (fun i hi _ e => by have : i = mb := e; have : W1.heap.size ≤ i := hi; omega)).mono (fun i _ hi => Nat.le_trans hs1 hi)
      · rw [← Hd.out]; exact Hc5.out
    · obtain ⟨A, c, A2, c2, rfl, h1, h2, h3, h4⟩ := hall
      go_wp2_with (fail)
      go_ret
      exact ⟨_, rfl, A, c, A2, c2, rfl, h1, h2, h3, h4⟩
end Go.Proofs.YtahhglhebcooaaaGreatDoor
