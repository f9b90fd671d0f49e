/- msg: the head of a request. -/
import Derived.Test.YtahhglhebcooaaaGreatDoorMs2
import Derived.Test.YtahhglhebcooaaaGreatDoorMixF
namespace Go.Proofs.YtahhglhebcooaaaGreatDoor
open Go.RowKit Go.Cof Go.Tol

def headL (cl kd : UInt8) (id gen : Nat) (nm : List UInt8) : List UInt8 := [cl] ++ beL id 8 ++ [kd] ++ nm ++ beL gen 8
def coreW (cl kd : UInt8) (id gen : Nat) (nm : List UInt8) : List Value := [.int .i64 (cl.toNat : Int), .int .i64 (kd.toNat : Int), .int .u64 id, .int .u64 gen] ++ bytesV nm

set_option maxHeartbeats 8000000 in
set_option maxRecDepth 200000 in
theorem head_any (cl kd : UInt8) (id gen : Nat) (nm : List UInt8) (w : World) (hn : nm.length = 16) (hid : id < 18446744073709551616) (hgen : gen < 18446744073709551616) :
    Calls Tryz.prog 28 #[.agg (coreW cl kd id gen nm).toArray, .bool true] w fun e w' => Cloned w w' (headL cl kd id gen nm) e := by
  have HId := hide hid
  have Hgen := hide hgen
  have Hn := hide hn
  obtain ⟨N, hN⟩ : ∃ N, N = w.heap.size := ⟨_, rfl⟩
  have HN := hide hN
  obtain ⟨Y, hY⟩ : ∃ Y, Y = coreW cl kd id gen nm := ⟨_, rfl⟩
  have Hy := hide (show Y[0]? = some (.int .i64 (cl.toNat : Int)) ∧ Y[1]? = some (.int .i64 (kd.toNat : Int)) ∧ Y[2]? = some (.int .u64 id) ∧ Y[3]? = some (.int .u64 gen) by rw [hY]; exact ⟨rfl, rfl, rfl, rfl⟩)
  have Hyn := hide (show (Y.drop 4).take 16 = bytesV nm by rw [hY, coreW, List.drop_left' (by rfl), List.take_of_length_le (by rw [bytesV_length, hn]; exact Nat.le_refl _)])
  rw [← hY]
  clear hN hY hn hid hgen
  have hcl : ((cl.toNat : Int) % 256) = (cl.toNat : Int) := by have := cl.toNat_lt; omega
  have hkd : ((kd.toNat : Int) % 256) = (kd.toNat : Int) := by have := kd.toNat_lt; omega
  go_enter Tryz.func28, Tryz.ntmps28
  go_upto_region 1 with (fail)
  rw [← HN.out]
  obtain ⟨W, hW⟩ : ∃ W : World, W = w.alloc (.cells Y.toArray 83) := ⟨_, rfl⟩
  have hr0 : W.heap[N]? = some (.cells Y.toArray 83 (0, 0)) := by rw [hW, HN.out]; exact heap_new _ _
  have HWz := hide (show W.heap.size = N + 1 by rw [hW, HN.out]; simp)
  have HbW := hide (show Below w.heap.size w W by rw [hW]; exact (Below.refl _ _).alloc (Nat.le_refl _) _)
  have Hr0 := hide hr0
  rw [← hW]
  clear hW hr0
  go_cut [5] (fun v wx => ∃ A c, v = .slice A 10 c ∧ wx.ownsRow W.heap.size 5 1 (.slice A 10 c) 10 (bytesV ([cl] ++ beL id 8 ++ [kd])) ∧ Below W.heap.size W wx)
  case first => as_aux_lemma =>
    obtain ⟨C, hC⟩ : ∃ C : World → Prop, C = Below W.heap.size W := ⟨_, rfl⟩
    have HC1 := hide (show ∀ w', InC C w' → w'.cell? ⟨N, 0, none⟩ = some (.int .i64 (cl.toNat : Int)) from InC.of fun w' h => by rw [blk_cell (((hC ▸ h : Below W.heap.size W w').block N (blk_lt Hr0.out)).trans Hr0.out)]; exact Hy.out.1)
    have HC2 := hide (show ∀ w', InC C w' → w'.cell? ⟨N, 1, none⟩ = some (.int .i64 (kd.toNat : Int)) from InC.of fun w' h => by rw [blk_cell (((hC ▸ h : Below W.heap.size W w').block N (blk_lt Hr0.out)).trans Hr0.out)]; exact Hy.out.2.1)
    have HC3 := hide (show ∀ w', InC C w' → w'.cell? ⟨N, 2, none⟩ = some (.int .u64 id) from InC.of fun w' h => by rw [blk_cell (((hC ▸ h : Below W.heap.size W w').block N (blk_lt Hr0.out)).trans Hr0.out)]; exact Hy.out.2.2.1)
    have HCe := hide hC
    have HC := hide (show ∀ w', Below W.heap.size W w' → C w' from fun w' h => by rw [hC]; exact h)
    have HC0 := hide (show C W.drew by rw [hC]; exact (Below.refl _ _).drew)
    haveI : Nonempty (Wl C) := ⟨⟨_, HC0.out⟩⟩
    clear hC
    refine wp_region_mix C (by kernel_rfl) (by kernel_rfl) ?_
    refine Mixed.batch [0, 1, 2, 4, 5, 7, 8, 9] 5 (by kernel_rfl) (by kernel_rfl) (by kernel_rfl) (by kernel_rfl) HC0.out _ (by simp only [List.map_cons, List.map_nil, List.getElem?_toArray, List.getElem?_cons_zero, List.getElem?_cons_succ, Option.getD_some]; rfl) (fun R hR => ?_)
    repeat (first | go_big_quiet_skip | (go_big_quiet_want; first
      | (refine quiet_load 3 (.tmp 6) rfl ⟨N, 0, none⟩ rfl _ HC1.out _ Tryz.underlying3 rfl ?_; go_simp; go_big_quiet_on)
      | (refine quiet_load 38 (.tmp 10) rfl ⟨N, 2, none⟩ rfl _ HC3.out _ Tryz.underlying38 rfl ?_; go_simp; go_big_quiet_on)
      | (refine quiet_load 3 (.tmp 13) rfl ⟨N, 1, none⟩ rfl _ HC2.out _ Tryz.underlying3 rfl ?_; go_simp; go_big_quiet_on)
      | (go_big_quiet_op; go_big_quiet_on)))
    refine wpQuiet_nil (hR.out _ ?_)
    clear hR R
    refine Mixed.fork 3 10 4 (by kernel_rfl) (by kernel_rfl) (by simp only [List.getElem?_toArray, List.getElem?_cons_zero, List.getElem?_cons_succ]; rfl) (by simp only [List.getElem?_toArray, List.getElem?_cons_zero, List.getElem?_cons_succ]; rfl) (fun K hK => ?_) (fun K hK => ?_)
    · go_simp
      obtain ⟨X1, hX1⟩ : ∃ X : World, X = (W.alloc (.cells #[.int .u8 (cl.toNat : Int)] 5)).drew := ⟨_, rfl⟩
      have HX1b := hide (show Below W.heap.size W X1 by rw [hX1]; exact ((Below.refl W.heap.size W).alloc (Below.refl W.heap.size W).size _).drew)
      have HX1r := hide (show Rd X1 (fun _ => True) 1 (some ⟨W.heap.size, 0, none⟩) 1 (bytesV [cl]) by rw [hX1]; exact ((Rd.new (n := 1) (sz := 1) W 5 [.int .u8 (cl.toNat : Int)] (0, 0) rfl).mono (fun _ _ _ => trivial)).drew)
      have HX1k := hide (show Below W.heap.size W X1 by rw [hX1]; exact ((Below.refl _ _).alloc (Nat.le_refl _) _).drew)
      rw [← hX1]
      clear hX1
      refine hK.out _ _ (fun _ => HC.out _ HX1b.out) ?_
      clear hK K
      try simp only [Act.put, List.setIfInBounds_toArray, List.set_cons_zero, List.set_cons_succ]
      refine Mixed.fork 6 10 3 (by kernel_rfl) (by kernel_rfl) (by simp only [List.getElem?_toArray, List.getElem?_cons_zero, List.getElem?_cons_succ]; rfl) (by simp only [List.getElem?_toArray, List.getElem?_cons_zero, List.getElem?_cons_succ]; rfl) (fun K hK => ?_) (fun K hK => ?_)
      · go_simp
        go_at_call 31
        refine (wput_b [cl] id 8 rfl rfl rfl HX1r.out (by simp) (by decide) HId.out).mono ?_
        rintro e w6 ⟨A6, c6, rfl, hown6, hb6⟩
        rw [show ([cl] ++ beL id 8).length = 9 from rfl] at hown6 ⊢
        have H6o := hide (own_mono hown6 HX1b.out.size)
        have H6b := hide (HX1b.out.trans (hb6.mono HX1b.out.size))
        have H6k := hide hb6
        clear hown6 hb6
        refine hK.out _ _ (fun _ => HC.out _ H6b.out) ?_
        clear hK K
        try simp only [Act.put, List.setIfInBounds_toArray, List.set_cons_zero, List.set_cons_succ]
        refine Mixed.one 10 2 (by kernel_rfl) (by kernel_rfl) (by simp only [List.getElem?_toArray, List.getElem?_cons_zero, List.getElem?_cons_succ]; rfl) (fun K hK => ?_)
        go_simp
        obtain ⟨X7, hX7⟩ : ∃ X : World, X = (w6.alloc (.cells #[.int .u8 (kd.toNat : Int)] 5)) := ⟨_, rfl⟩
        have HX7b := hide (show Below W.heap.size W X7 by rw [hX7]; exact (H6b.out.alloc H6b.out.size _))
        have HX7r := hide (show Rd X7 (fun _ => True) 1 (some ⟨w6.heap.size, 0, none⟩) 1 (bytesV [kd]) by rw [hX7]; exact ((Rd.new (n := 1) (sz := 1) w6 5 [.int .u8 (kd.toNat : Int)] (0, 0) rfl).mono (fun _ _ _ => trivial)))
        have HX7k := hide (show Below w6.heap.size w6 X7 by rw [hX7]; exact ((Below.refl _ _).alloc (Nat.le_refl _) _))
        rw [← hX7]
        clear hX7
        refine hK.out _ _ (fun _ => HC.out _ HX7b.out) ?_
        clear hK K
        try simp only [Act.put, List.setIfInBounds_toArray, List.set_cons_zero, List.set_cons_succ]
        refine Mixed.one 11 1 (by kernel_rfl) (by kernel_rfl) (by simp only [List.getElem?_toArray, List.getElem?_cons_zero, List.getElem?_cons_succ]; rfl) (fun K hK => ?_)
        refine step_append_rd _ rfl (.tmp 12) (.tmp 16) 28 28 rfl W.heap.size 5 5 (.int .u8 0) 1 1 Tryz.underlying28 Tryz.underlying28 Tryz.infoU8 rfl (by decide) (.slice A6 9 c6) 9 (bytesV ([cl] ++ beL id 8)) rfl (by exact (own_below H6o.out HX7k.out)) (fun _ => True) (some ⟨w6.heap.size, 0, none⟩) 1 1 (bytesV [kd]) rfl (by exact HX7r.out) (bytesV_one _) (by unfold maxLen; decide) (by decide) HX7b.out.size ?_
        intro A8 c8 w8 hown8 hgrow8 hat8
        have H8o := hide (show w8.ownsRow W.heap.size 5 1 (.slice A8 10 c8) 10 (bytesV ([cl] ++ beL id 8 ++ [kd])) by rw [bytesV_append ([cl] ++ beL id 8)]; exact hown8)
        have H8b := hide (show Below W.heap.size W w8 from HX7b.out.grown hgrow8 HX7b.out.size (fun k h => ((show World.ownsRow _ _ _ _ _ _ _ from (own_below H6o.out HX7k.out)).lt k h).1))
        clear hown8 hgrow8 hat8
        refine hK.out _ _ (fun _ => HC.out _ H8b.out) ?_
        clear hK K
        try simp only [Act.put, List.setIfInBounds_toArray, List.set_cons_zero, List.set_cons_succ]
        refine Mixed.batch [12] 0 (by kernel_rfl) (by kernel_rfl) (by kernel_rfl) (by kernel_rfl) (HC.out _ H8b.out) _ (by simp only [List.map_cons, List.map_nil, List.getElem?_toArray, List.getElem?_cons_zero, List.getElem?_cons_succ, Option.getD_some]; rfl) (fun R hR => ?_)
        repeat (first | go_big_quiet_skip | (go_big_quiet_want; first
          | (go_big_quiet_op; go_big_quiet_on)))
        refine wpQuiet_nil (hR.out _ ?_)
        clear hR R
        refine Mixed.done (by kernel_rfl) ?_
        go_wp2_with (fail)
        go_meet
        exact ⟨A8, c8, rfl, H8o.out, H8b.out⟩
      · go_simp
        obtain ⟨X7, hX7⟩ : ∃ X : World, X = (X1.alloc (.cells #[.int .u8 (kd.toNat : Int)] 5)) := ⟨_, rfl⟩
        have HX7b := hide (show Below W.heap.size W X7 by rw [hX7]; exact (HX1b.out.alloc HX1b.out.size _))
        have HX7r := hide (show Rd X7 (fun _ => True) 1 (some ⟨X1.heap.size, 0, none⟩) 1 (bytesV [kd]) by rw [hX7]; exact ((Rd.new (n := 1) (sz := 1) X1 5 [.int .u8 (kd.toNat : Int)] (0, 0) rfl).mono (fun _ _ _ => trivial)))
        have HX7k := hide (show Below X1.heap.size X1 X7 by rw [hX7]; exact ((Below.refl _ _).alloc (Nat.le_refl _) _))
        rw [← hX7]
        clear hX7
        refine hK.out _ _ (fun _ => HC.out _ HX7b.out) ?_
        clear hK K
        try simp only [Act.put, List.setIfInBounds_toArray, List.set_cons_zero, List.set_cons_succ]
        refine Mixed.one 6 2 (by kernel_rfl) (by kernel_rfl) (by simp only [List.getElem?_toArray, List.getElem?_cons_zero, List.getElem?_cons_succ]; rfl) (fun K hK => ?_)
        go_simp
        go_at_call 31
        refine (wput_b [cl] id 8 rfl rfl rfl (HX1r.out.keep (Keep.of_none HX7k.out) (fun _ _ _ f => f)) (by simp) (by decide) HId.out).mono ?_
        rintro e w6 ⟨A6, c6, rfl, hown6, hb6⟩
        rw [show ([cl] ++ beL id 8).length = 9 from rfl] at hown6 ⊢
        have H6o := hide (own_mono hown6 HX7b.out.size)
        have H6b := hide (HX7b.out.trans (hb6.mono HX7b.out.size))
        have H6k := hide hb6
        clear hown6 hb6
        refine hK.out _ _ (fun _ => HC.out _ H6b.out) ?_
        clear hK K
        try simp only [Act.put, List.setIfInBounds_toArray, List.set_cons_zero, List.set_cons_succ]
        refine Mixed.one 11 1 (by kernel_rfl) (by kernel_rfl) (by simp only [List.getElem?_toArray, List.getElem?_cons_zero, List.getElem?_cons_succ]; rfl) (fun K hK => ?_)
        refine step_append_rd _ rfl (.tmp 12) (.tmp 16) 28 28 rfl W.heap.size 5 5 (.int .u8 0) 1 1 Tryz.underlying28 Tryz.underlying28 Tryz.infoU8 rfl (by decide) (.slice A6 9 c6) 9 (bytesV ([cl] ++ beL id 8)) rfl (by exact H6o.out) (fun _ => True) (some ⟨X1.heap.size, 0, none⟩) 1 1 (bytesV [kd]) rfl (by exact (HX7r.out.keep (Keep.of_none H6k.out) (fun _ _ _ f => f))) (bytesV_one _) (by unfold maxLen; decide) (by decide) H6b.out.size ?_
        intro A8 c8 w8 hown8 hgrow8 hat8
        have H8o := hide (show w8.ownsRow W.heap.size 5 1 (.slice A8 10 c8) 10 (bytesV ([cl] ++ beL id 8 ++ [kd])) by rw [bytesV_append ([cl] ++ beL id 8)]; exact hown8)
        have H8b := hide (show Below W.heap.size W w8 from H6b.out.grown hgrow8 H6b.out.size (fun k h => ((show World.ownsRow _ _ _ _ _ _ _ from H6o.out).lt k h).1))
        clear hown8 hgrow8 hat8
        refine hK.out _ _ (fun _ => HC.out _ H8b.out) ?_
        clear hK K
        try simp only [Act.put, List.setIfInBounds_toArray, List.set_cons_zero, List.set_cons_succ]
        refine Mixed.batch [12] 0 (by kernel_rfl) (by kernel_rfl) (by kernel_rfl) (by kernel_rfl) (HC.out _ H8b.out) _ (by simp only [List.map_cons, List.map_nil, List.getElem?_toArray, List.getElem?_cons_zero, List.getElem?_cons_succ, Option.getD_some]; rfl) (fun R hR => ?_)
        repeat (first | go_big_quiet_skip | (go_big_quiet_want; first
          | (go_big_quiet_op; go_big_quiet_on)))
        refine wpQuiet_nil (hR.out _ ?_)
        clear hR R
        refine Mixed.done (by kernel_rfl) ?_
        go_wp2_with (fail)
        go_meet
        exact ⟨A8, c8, rfl, H8o.out, H8b.out⟩
    · go_simp
      obtain ⟨X1, hX1⟩ : ∃ X : World, X = (W.alloc (.cells #[.int .u8 (kd.toNat : Int)] 5)).drew := ⟨_, rfl⟩
      have HX1b := hide (show Below W.heap.size W X1 by rw [hX1]; exact ((Below.refl W.heap.size W).alloc (Below.refl W.heap.size W).size _).drew)
      have HX1r := hide (show Rd X1 (fun _ => True) 1 (some ⟨W.heap.size, 0, none⟩) 1 (bytesV [kd]) by rw [hX1]; exact ((Rd.new (n := 1) (sz := 1) W 5 [.int .u8 (kd.toNat : Int)] (0, 0) rfl).mono (fun _ _ _ => trivial)).drew)
      have HX1k := hide (show Below W.heap.size W X1 by rw [hX1]; exact ((Below.refl _ _).alloc (Nat.le_refl _) _).drew)
      rw [← hX1]
      clear hX1
      refine hK.out _ _ (fun _ => HC.out _ HX1b.out) ?_
      clear hK K
      try simp only [Act.put, List.setIfInBounds_toArray, List.set_cons_zero, List.set_cons_succ]
      refine Mixed.one 3 3 (by kernel_rfl) (by kernel_rfl) (by simp only [List.getElem?_toArray, List.getElem?_cons_zero, List.getElem?_cons_succ]; rfl) (fun K hK => ?_)
      go_simp
      obtain ⟨X7, hX7⟩ : ∃ X : World, X = (X1.alloc (.cells #[.int .u8 (cl.toNat : Int)] 5)) := ⟨_, rfl⟩
      have HX7b := hide (show Below W.heap.size W X7 by rw [hX7]; exact (HX1b.out.alloc HX1b.out.size _))
      have HX7r := hide (show Rd X7 (fun _ => True) 1 (some ⟨X1.heap.size, 0, none⟩) 1 (bytesV [cl]) by rw [hX7]; exact ((Rd.new (n := 1) (sz := 1) X1 5 [.int .u8 (cl.toNat : Int)] (0, 0) rfl).mono (fun _ _ _ => trivial)))
      have HX7k := hide (show Below X1.heap.size X1 X7 by rw [hX7]; exact ((Below.refl _ _).alloc (Nat.le_refl _) _))
      rw [← hX7]
      clear hX7
      refine hK.out _ _ (fun _ => HC.out _ HX7b.out) ?_
      clear hK K
      try simp only [Act.put, List.setIfInBounds_toArray, List.set_cons_zero, List.set_cons_succ]
      refine Mixed.one 6 2 (by kernel_rfl) (by kernel_rfl) (by simp only [List.getElem?_toArray, List.getElem?_cons_zero, List.getElem?_cons_succ]; rfl) (fun K hK => ?_)
      go_simp
      go_at_call 31
      refine (wput_b [cl] id 8 rfl rfl rfl HX7r.out (by simp) (by decide) HId.out).mono ?_
      rintro e w6 ⟨A6, c6, rfl, hown6, hb6⟩
      rw [show ([cl] ++ beL id 8).length = 9 from rfl] at hown6 ⊢
      have H6o := hide (own_mono hown6 HX7b.out.size)
      have H6b := hide (HX7b.out.trans (hb6.mono HX7b.out.size))
      have H6k := hide hb6
      clear hown6 hb6
      refine hK.out _ _ (fun _ => HC.out _ H6b.out) ?_
      clear hK K
      try simp only [Act.put, List.setIfInBounds_toArray, List.set_cons_zero, List.set_cons_succ]
      refine Mixed.one 11 1 (by kernel_rfl) (by kernel_rfl) (by simp only [List.getElem?_toArray, List.getElem?_cons_zero, List.getElem?_cons_succ]; rfl) (fun K hK => ?_)
      refine step_append_rd _ rfl (.tmp 12) (.tmp 16) 28 28 rfl W.heap.size 5 5 (.int .u8 0) 1 1 Tryz.underlying28 Tryz.underlying28 Tryz.infoU8 rfl (by decide) (.slice A6 9 c6) 9 (bytesV ([cl] ++ beL id 8)) rfl (by exact H6o.out) (fun _ => True) (some ⟨W.heap.size, 0, none⟩) 1 1 (bytesV [kd]) rfl (by exact ((HX1r.out.keep (Keep.of_none HX7k.out) (fun _ _ _ f => f)).keep (Keep.of_none H6k.out) (fun _ _ _ f => f))) (bytesV_one _) (by unfold maxLen; decide) (by decide) H6b.out.size ?_
      intro A8 c8 w8 hown8 hgrow8 hat8
      have H8o := hide (show w8.ownsRow W.heap.size 5 1 (.slice A8 10 c8) 10 (bytesV ([cl] ++ beL id 8 ++ [kd])) by rw [bytesV_append ([cl] ++ beL id 8)]; exact hown8)
      have H8b := hide (show Below W.heap.size W w8 from H6b.out.grown hgrow8 H6b.out.size (fun k h => ((show World.ownsRow _ _ _ _ _ _ _ from H6o.out).lt k h).1))
      clear hown8 hgrow8 hat8
      refine hK.out _ _ (fun _ => HC.out _ H8b.out) ?_
      clear hK K
      try simp only [Act.put, List.setIfInBounds_toArray, List.set_cons_zero, List.set_cons_succ]
      refine Mixed.batch [12] 0 (by kernel_rfl) (by kernel_rfl) (by kernel_rfl) (by kernel_rfl) (HC.out _ H8b.out) _ (by simp only [List.map_cons, List.map_nil, List.getElem?_toArray, List.getElem?_cons_zero, List.getElem?_cons_succ, Option.getD_some]; rfl) (fun R hR => ?_)
      repeat (first | go_big_quiet_skip | (go_big_quiet_want; first
        | (go_big_quiet_op; go_big_quiet_on)))
      refine wpQuiet_nil (hR.out _ ?_)
      clear hR R
      refine Mixed.done (by kernel_rfl) ?_
      go_wp2_with (fail)
      go_meet
      exact ⟨A8, c8, rfl, H8o.out, H8b.out⟩
  case rest => as_aux_lemma =>
    obtain ⟨A, c, rfl, hown, hb⟩ := hcut
    have hrow := (hb.block N (blk_lt Hr0.out)).trans Hr0.out
    have Hown := hide hown
    have Hb := hide hb
    have Hsrc := hide (show Rd wc (fun _ => True) 1 (some ⟨N, 4, none⟩) 16 (bytesV nm) from by
      have h1 := part_range (o := 4) (cs := bytesV nm) hrow (by rw [bytesV_length, Hn.out]; exact Hyn.out)
      exact ⟨by rw [bytesV_length, Hn.out], fun _ => ⟨N, 4, rfl, trivial, blk_lt hrow, fun j hj => by
        have hl : j < (bytesV nm).length := by rw [bytesV_length, Hn.out]; omega
        rw [List.getElem?_eq_getElem hl]
        exact h1 j _ (List.getElem?_eq_getElem hl)⟩⟩)
    have Hrow := hide hrow
    clear hown hb hrow
    go_wp2_with (first
      | (at_builtin; refine wpList_append_rd _ rfl (.tmp 19) (.tmp 21) 28 28 rfl W.heap.size 5 5 (.int .u8 0) 1 1 Tryz.underlying28 Tryz.underlying28 Tryz.infoU8 rfl (by decide) (.slice A 10 c) 10 (bytesV ([cl] ++ beL id 8 ++ [kd])) rfl (by exact Hown.out) (fun _ => True) (some ⟨N, 4, none⟩) 16 16 (bytesV nm) rfl (by exact Hsrc.out) (bytesV_one _) (by unfold maxLen; decide) (by decide) (by have := Hb.out.size; omega) ?_; intro A8 c8 w8 hown8 hgrow8 hat8; have H8o := hide (show w8.ownsRow W.heap.size 5 1 (.slice A8 26 c8) 26 (bytesV ([cl] ++ beL id 8 ++ [kd] ++ nm)) by rw [bytesV_append ([cl] ++ beL id 8 ++ [kd])]; exact hown8); have H8b := hide (show Below W.heap.size W w8 from Hb.out.grown hgrow8 Hb.out.size (fun k h => (Hown.out.lt k h).1)); have c3 : w8.cell? ⟨N, 3, none⟩ = some (.int .u64 gen) := (by rw [blk_cell ((H8b.out.block N (blk_lt Hr0.out)).trans Hr0.out)]; exact Hy.out.2.2.2); clear hown8 hgrow8 hat8)
      | (go_at_call 31; refine (wput_b ([cl] ++ beL id 8 ++ [kd] ++ nm) gen 8 (by simp [beL_length, Hn.out]) rfl rfl (own_rd H8o.out) (by decide) (by decide) Hgen.out).mono ?_; rintro e w9 hcl9; obtain ⟨A9, c9, rfl, hown9, hb9⟩ := hcl9; obtain ⟨out, hout⟩ : ∃ out, out = headL cl kd id gen nm := ⟨_, rfl⟩; have Hout := hide hout; rw [show [cl] ++ beL id 8 ++ [kd] ++ nm ++ beL gen 8 = out by rw [hout]; rfl] at hown9 ⊢; clear hout; have H9o := hide (own_mono hown9 (Nat.le_trans HbW.out.size H8b.out.size)); have H9b := hide (HbW.out.trans ((H8b.out.trans (hb9.mono H8b.out.size)).mono HbW.out.size)); clear hown9 hb9)
      | fail)
    go_ret
    rw [← Hout.out]
    exact ⟨A9, c9, rfl, H9o.out, H9b.out⟩
end Go.Proofs.YtahhglhebcooaaaGreatDoor
