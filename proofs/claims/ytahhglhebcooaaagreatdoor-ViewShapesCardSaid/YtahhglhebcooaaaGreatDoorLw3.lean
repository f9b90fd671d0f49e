/- ViewShapes: the law, where nothing is too wide. -/
import Derived.Test.YtahhglhebcooaaaGreatDoorLw2
namespace Go.Proofs.YtahhglhebcooaaaGreatDoor
open Go.RowKit Go.Cof Go.Tol

/-- A value of many cells read, at an operation that a guard lets through. -/
theorem wpList_load_mid_g {P : Program} {ops : Array Oper} {rest : List Oper} {o : Oper} {a : Act} {w : World} {Q : Exit → Act → World → Prop} (hw : Region.wanted o (yielded ops a.tmps) = true) (ty : TypeId) (x : Operand) (ho : o.op = .load ty x)
    (b of : Nat) (hx : a.eval x = .pointer (some ⟨b, of, none⟩)) (cs : List Value) (d : TypeDesc) (hc : w.rangeAt b of cs)
    (hu : P.underlying ty = some d) (hd : d.isRow = true) (hi : (P.info? ty).map (·.size) = some cs.length)
    (h : wpList P ops Q rest (a.put o.dst (.agg cs.toArray)) w) : wpList P ops Q (o :: rest) a w :=
  wpList_step fun K hK => by
    rw [if_pos hw]
    exact wp_load_mid ty x ho b of hx cs d hc hu hd hi (hK _ _ h)
theorem goodN_three (l x : List UInt8) : goodN [l, x, l] = (if (readQ x).2 = 0 then 1 else 0) + (if (readQ l).2 = 0 then 2 else 0) := by
  unfold goodN
  by_cases h1 : (readQ l).2 = 0 <;> by_cases h2 : (readQ x).2 = 0 <;> simp [h1, h2]

set_option maxHeartbeats 8000000 in
set_option maxRecDepth 200000 in
theorem law_small {S2 S3 S : Nat → Prop} (q : ReqA) (AN AD Ab : Option Addr) (cN cD cb : Nat) (l : List UInt8) (w : World) (hq : ReqOk q) (hN : Rd w S2 16 AN q.names.length (bytesV q.names.flatten)) (hD : Rd w S3 1 AD q.data.length (bytesV q.data)) (hB : Rd w S 1 Ab l.length (bytesV l)) (hcb : l.length ≤ cb)
    (h1 : q.data.length ≤ 9000) (h2 : q.names.length ≤ 200) (h3 : l.length ≤ 9000) :
    Calls Tryz.prog 4 #[.agg (reqV q AN cN AD cD).toArray, .slice Ab l.length cb] w fun e w' => e = .returned (.bool true) ∧ Below w.heap.size w w' := by
  obtain ⟨N, hNn⟩ : ∃ N, N = w.heap.size := ⟨_, rfl⟩
  obtain ⟨h19, h20, h21⟩ := reqV_tail q AN AD cN cD hq.name
  have hXl := reqV_length q AN AD cN cD hq.name
  obtain ⟨X, hX⟩ : ∃ X, X = reqV q AN cN AD cD := ⟨_, rfl⟩
  obtain ⟨m, hm⟩ : ∃ m, m = q.names.length := ⟨_, rfl⟩
  obtain ⟨d, hd⟩ : ∃ d, d = q.data.length := ⟨_, rfl⟩
  have Hput := hide (show ∀ w', Below w.heap.size w w' → Calls Tryz.prog 12 #[.agg X.toArray] w' fun e w'' => PutC w' w'' q e from fun w' hb => by
    rw [hX]; exact putreq_c q AN AD cN cD w' hq (hN.keep (Keep.of_none hb) (fun _ _ _ f => f)) (hD.keep (Keep.of_none hb) (fun _ _ _ f => f)) (by omega) (by omega))
  have Hshape := hide (show ∀ (x : List UInt8) (A : Option Addr) (c : Nat) (S' : Nat → Prop) (w' : World), Rd w' S' 1 A x.length (bytesV x) → x.length ≤ c → x.length ≤ 100000 → Calls Tryz.prog 13 #[.slice A x.length c] w' fun e w'' => e = .returned (.tuple #[.agg (toldV (readQ x).1).toArray, .bool (decide ((readQ x).2 = 0))]) ∧ Below w'.heap.size w' w'' from fun x A c S' w' h1 h2 h3 =>
    shape_any (fun i => i < w'.heap.size) A c x w' (h1.mono (fun i hi _ => hi)) h2 h3 (fun b hb => hb))
  obtain ⟨b2, hb2q⟩ : ∃ b : Int, b = ((readQ l).2 : Nat) := ⟨_, rfl⟩
  have Hread := hide (show ∀ w', Below w.heap.size w w' → Calls Tryz.prog 14 #[.slice Ab l.length cb] w' fun e w'' => (∃ X2 : List Value, X2.length = 22 ∧ (∀ u ∈ X2, u.oneCell' = true) ∧ e = .returned (.tuple #[.agg X2.toArray, .int .i64 b2])) ∧ Below w'.heap.size w' w'' from fun w' hb => by
    rw [hb2q]
    refine (readreq_any (fun i => i < w'.heap.size) Ab cb l w' ((hB.keep (Keep.of_none hb) (fun _ _ _ f => f)).mono (fun i hi _ => hi)) hcb (by omega) (fun b hb => hb)).mono ?_
    rintro e w'' ⟨AN, cN, AD, cD, rfl, _, _, hb2⟩
    exact ⟨⟨_, reqV_length _ _ _ _ _ (readQ_ok l).1.name, reqV_one _ _ _ _ _, rfl⟩, hb2⟩)
  have HrB := hide (show ∀ w', Below w.heap.size w w' → Rd w' (fun i => i < w'.heap.size) 1 Ab l.length (bytesV l) from fun w' hb => (hB.keep (Keep.of_none hb) (fun _ _ _ f => f)).mono (fun i hi _ => hi))
  rw [← hX] at h20 h21 hXl
  rw [← hm] at h20
  rw [← hd] at h21
  have hd1 : ¬ (9000 : Int) < (d : Int) := by omega
  have hd2 : ¬ (200 : Int) < (m : Int) := by omega
  have hd3 : ¬ (9000 : Int) < (l.length : Int) := by omega
  have c00 : X[0]? = some (.int .i64 q.client) := by rw [hX]; rfl
  have c02 : X[2]? = some (.int .i64 q.kind) := by rw [hX]; rfl
  have Hx := hide (show X[0]? = some (.int .i64 q.client) ∧ X[2]? = some (.int .i64 q.kind) ∧ X[20]? = some (.slice AN m cN) ∧ X[21]? = some (.slice AD d cD) from ⟨c00, c02, h20, h21⟩)
  have HszX := hide (show (Tryz.prog.info? 43).map (·.size) = some X.length by rw [hXl]; kernel_rfl)
  have HN := hide hNn
  have Hb2q := hide hb2q
  have Hm := hide hm
  have Hd := hide hd
  have Hcb := hide hcb
  have Hl := hide (show l.length ≤ 9000 from h3)
  rw [← hX]
  clear hb2q hNn hX hm hd h19 h20 h21 hXl hq hN hD hB h1 h2 h3 c00 c02 hcb
  go_enter Tryz.func4, Tryz.ntmps4
  go_upto_region 1 with (fail)
  rw [← HN.out]
  obtain ⟨W, hW⟩ : ∃ W : World, W = w.alloc (.cells X.toArray 43) := ⟨_, rfl⟩
  have hr0 : W.heap[N]? = some (.cells X.toArray 43 (0, 0)) := by rw [hW, HN.out]; exact heap_new _ _
  have c20 : W.cell? ⟨N, 20, none⟩ = some (.slice AN m cN) := by rw [blk_cell hr0]; exact Hx.out.2.2.1
  have c21 : W.cell? ⟨N, 21, none⟩ = some (.slice AD d cD) := by rw [blk_cell hr0]; exact Hx.out.2.2.2
  have HbW := hide (show Below w.heap.size w W by rw [hW]; exact (Below.refl _ _).alloc (Nat.le_refl _) _)
  have Hr0 := hide hr0
  have Hrg := hide (show W.rangeAt N 0 X from part_range hr0 (by rw [List.drop_zero, List.take_length]))
  rw [← hW]
  clear hW hr0
  go_upto_region 3 with (fail)
  clear c20 c21
  go_upto_region 4 with (first
    | (refine wpList_load_mid rfl 43 (.tmp 2) rfl N 0 rfl X _ Hrg.out Tryz.underlying43 rfl HszX.out ?_)
    | (go_at_call 12; ((with_reducible refine (Hput.out _ HbW.out).mono ?_)); rintro e w3 hp; obtain ⟨x, A3, c3, bad, rfl, hr3, hc3, hl3, hb3, hor⟩ := hp; have Hr3 := hide hr3; have Hc3 := hide hc3; have Hl3 := hide hl3; have Hb3W := hide hb3; have Hb3 := hide (HbW.out.trans (hb3.mono HbW.out.size)); have Hor := hide hor; clear hr3 hc3 hl3 hb3 hor)
    | fail)
  have hstT : ∀ (T : List Value), T.length = 4 → (∀ u ∈ T, u.oneCell' = true) → ∀ (u : World) (z : Array Value), z.size = 4 → (storeCells ⟨u.heap.size, 0, none⟩ T).run Tryz.prog (u.alloc (.cells z 47)) = .ok () (u.alloc (.cells T.toArray 47)) := fun T h1 h2 u => store_new (P := Tryz.prog) u 47 4 T (by kernel_rfl) h1 h2
  have htold : ∀ q' : ReqA, (toldV q').length = 4 ∧ ∀ u ∈ toldV q', u.oneCell' = true := fun q' => ⟨rfl, by intro u hu; simp only [toldV, List.mem_cons, List.not_mem_nil, or_false] at hu; rcases hu with rfl | rfl | rfl | rfl <;> rfl⟩
  obtain ⟨T1, hT1⟩ : ∃ T, T = toldV (readQ x).1 := ⟨_, rfl⟩
  obtain ⟨g1, hg1⟩ : ∃ g, g = decide ((readQ x).2 = 0) := ⟨_, rfl⟩
  have Hsh1 := hide (Hshape.out x A3 c3 _ w3 Hr3.out Hc3.out Hl3.out)
  rw [← hT1, ← hg1] at Hsh1
  have hst1 := hstT T1 (by rw [hT1]; exact (htold _).1) (by rw [hT1]; exact (htold _).2)
  have hT1l : T1.length = 4 := by rw [hT1]; rfl
  have HT1 := hide hT1
  have Hg1 := hide hg1
  have HstT := hide hstT
  clear hstT hT1 hg1
  go_upto_region 5 with (first
    | (go_at_call 13; ((with_reducible refine Hsh1.out.mono ?_)); rintro e w4 ⟨rfl, hb4⟩; have Hb4 := hide hb4; clear hb4)
    | fail)
  obtain ⟨N7, hN7⟩ : ∃ n, n = w4.heap.size := ⟨_, rfl⟩
  obtain ⟨W5, hW5⟩ : ∃ V : World, V = w4.alloc (.cells T1.toArray 47) := ⟨_, rfl⟩
  have Hr7 := hide (show W5.heap[N7]? = some (.cells T1.toArray 47 (0, 0)) by rw [hW5, hN7]; exact heap_new _ _)
  have H45 := hide (show Below w4.heap.size w4 W5 by rw [hW5]; exact (Below.refl _ _).alloc (Nat.le_refl _) _)
  have HbW5 := hide (show Below w.heap.size w W5 from (Hb3.out.trans (Hb4.out.mono Hb3.out.size)).trans (H45.out.mono (Nat.le_trans Hb3.out.size Hb4.out.size)))
  have H35 := hide (show Below w3.heap.size w3 W5 from Hb4.out.trans (H45.out.mono Hb4.out.size))
  rw [← hN7, ← hW5]
  clear hW5 hN7 hst1 hT1l
  go_upto_region 6 with (first
    | (go_at_call 14; ((with_reducible refine (Hread.out _ HbW5.out).mono ?_)); rintro e w5 ⟨⟨X2, hX2, hX2o, rfl⟩, hb5⟩; have Hb5 := hide hb5; have hst2 := (fun (u : World) => store_new (P := Tryz.prog) u 43 22 X2 (by kernel_rfl) hX2 hX2o); clear hb5 hX2o)
    | fail)
  obtain ⟨N9, hN9⟩ : ∃ n, n = w5.heap.size := ⟨_, rfl⟩
  obtain ⟨W6, hW6⟩ : ∃ V : World, V = w5.alloc (.cells X2.toArray 43) := ⟨_, rfl⟩
  have H56 := hide (show Below W5.heap.size W5 W6 by rw [hW6]; exact Hb5.out.alloc Hb5.out.size _)
  have HbW6 := hide (show Below w.heap.size w W6 from HbW5.out.trans (H56.out.mono HbW5.out.size))
  rw [← hN9, ← hW6]
  clear hW6 hN9 hst2 hX2
  obtain ⟨T2, hT2⟩ : ∃ T, T = toldV (readQ l).1 := ⟨_, rfl⟩
  obtain ⟨g2, hg2⟩ : ∃ g, g = decide ((readQ l).2 = 0) := ⟨_, rfl⟩
  have Hsh2 := hide (Hshape.out l Ab cb _ W6 (HrB.out _ HbW6.out) Hcb.out (by have := Hl.out; omega))
  rw [← hT2, ← hg2] at Hsh2
  have hst3 := HstT.out T2 (by rw [hT2]; exact (htold _).1) (by rw [hT2]; exact (htold _).2)
  have hT2l : T2.length = 4 := by rw [hT2]; rfl
  have Hg2 := hide hg2
  clear hT2 hg2
  go_upto_region 7 with (first
    | (go_at_call 13; ((with_reducible refine Hsh2.out.mono ?_)); rintro e w6 ⟨rfl, hb6⟩; have Hb6 := hide hb6; clear hb6)
    | fail)
  obtain ⟨N11, hN11⟩ : ∃ n, n = w6.heap.size := ⟨_, rfl⟩
  obtain ⟨W7, hW7⟩ : ∃ V : World, V = w6.alloc (.cells T2.toArray 47) := ⟨_, rfl⟩
  have H57 := hide (show Below W5.heap.size W5 W7 by rw [hW7]; exact (H56.out.trans (Hb6.out.mono H56.out.size)).alloc (Nat.le_trans H56.out.size Hb6.out.size) _)
  have HbW7 := hide (show Below w.heap.size w W7 from HbW5.out.trans (H57.out.mono HbW5.out.size))
  rw [← hN11, ← hW7]
  clear hW7 hN11 hst3 hT2l
  obtain ⟨k, hk⟩ : ∃ k, k = goodN [l, x, l] := ⟨_, rfl⟩
  obtain ⟨N8, hN8⟩ : ∃ n, n = W7.heap.size := ⟨_, rfl⟩
  obtain ⟨V, hV⟩ : ∃ V : World, V = W7.alloc (.cells #[.slice Ab l.length cb, .slice A3 x.length c3, .slice Ab l.length cb] 28) := ⟨_, rfl⟩
  have hr8 : V.heap[N8]? = some (.cells [.slice Ab l.length cb, .slice A3 x.length c3, .slice Ab l.length cb].toArray 28 (0, 0)) := by rw [hV, hN8]; exact heap_new _ _
  have H5V := hide (show Below W5.heap.size W5 V by rw [hV]; exact H57.out.alloc H57.out.size _)
  have HbV := hide (show Below w.heap.size w V from HbW5.out.trans (H5V.out.mono HbW5.out.size))
  have Hsps := hide (show Calls Tryz.prog 15 #[.slice (some ⟨N8, 0, none⟩) 3 3] V fun e w' => (∃ A c, e = .returned (.slice A k c)) ∧ Below V.heap.size V w' by
    rw [hk]
    have hl := Hl.out
    have hcb := Hcb.out
    have hxV : Rd V (fun i => i < V.heap.size) 1 A3 x.length (bytesV x) := (Hr3.out.keep (Keep.of_none (H35.out.trans (H5V.out.mono H35.out.size))) (fun _ _ _ f => f)).mono (fun i hi _ => hi)
    have hlV : Rd V (fun i => i < V.heap.size) 1 Ab l.length (bytesV l) := HrB.out _ HbV.out
    refine shapes_any N8 3 (fun i => i < V.heap.size) [l, x, l] [.slice Ab l.length cb, .slice A3 x.length c3, .slice Ab l.length cb] V rfl (blk_range hr8) (blk_lt hr8) (fun b hb => hb) ?_ (by show (3 : Nat) ≤ 1000; decide)
    intro i hi
    match i, hi with
    | 0, _ => exact ⟨by show l.length ≤ _; omega, _, rfl, Ab, cb, rfl, hlV, hcb⟩
    | 1, _ => exact ⟨Hl3.out, _, rfl, A3, c3, rfl, hxV, Hc3.out⟩
    | 2, _ => exact ⟨by show l.length ≤ _; omega, _, rfl, Ab, cb, rfl, hlV, hcb⟩)
  have Hk := hide hk
  have HV := hide hV
  have HN8 := hide hN8
  clear hr8 hk hV hN8
  go_upto_region 8 with (first
    | (rw [← HN8.out, ← HV.out]; go_at_call 15; ((with_reducible refine Hsps.out.mono ?_)); rintro e w8 ⟨⟨A8, c8, rfl⟩, hb8⟩; have Hb8 := hide hb8; clear hb8)
    | fail)
  have HW8 := hide (show Below W.heap.size W w8 from ((Hb3W.out.trans (H35.out.mono Hb3W.out.size)).trans (H5V.out.mono (Nat.le_trans Hb3W.out.size H35.out.size))).trans (Hb8.out.mono (Nat.le_trans (Nat.le_trans Hb3W.out.size H35.out.size) H5V.out.size)))
  have HbE := hide (show Below w.heap.size w w8 from HbV.out.trans (Hb8.out.mono HbV.out.size))
  have hc0 : w8.cell? ⟨N, 0, none⟩ = some (.int .i64 q.client) := by rw [HW8.out.cell (p := ⟨N, 0, none⟩) (blk_lt Hr0.out), blk_cell Hr0.out]; exact Hx.out.1
  have hc2 : w8.cell? ⟨N, 2, none⟩ = some (.int .i64 q.kind) := by rw [HW8.out.cell (p := ⟨N, 2, none⟩) (blk_lt Hr0.out), blk_cell Hr0.out]; exact Hx.out.2.1
  have hc20 : w8.cell? ⟨N, 20, none⟩ = some (.slice AN m cN) := by rw [HW8.out.cell (p := ⟨N, 20, none⟩) (blk_lt Hr0.out), blk_cell Hr0.out]; exact Hx.out.2.2.1
  have hc21 : w8.cell? ⟨N, 21, none⟩ = some (.slice AD d cD) := by rw [HW8.out.cell (p := ⟨N, 21, none⟩) (blk_lt Hr0.out), blk_cell Hr0.out]; exact Hx.out.2.2.2
  have hb7 : w8.heap[N7]? = some (.cells T1.toArray 47 (0, 0)) := by rw [(H5V.out.trans (Hb8.out.mono H5V.out.size)).block N7 (blk_lt Hr7.out)]; exact Hr7.out
  have HszT := hide (show (Tryz.prog.info? 47).map (·.size) = some ([.int .i64 q.client, .int .i64 q.kind, .int .i64 m, .int .i64 d] : List Value).length by kernel_rfl)
  rcases Hor.out with ⟨rfl, hq1⟩ | ⟨rfl, hq1⟩
  · obtain rfl : g1 = true := by rw [Hg1.out, hq1]; rfl
    have hT : T1 = [.int .i64 q.client, .int .i64 q.kind, .int .i64 m, .int .i64 d] := by rw [HT1.out, hq1, Hm.out, Hd.out]; rfl
    rw [hT] at hb7
    have hr7 : w8.rangeAt N7 0 [.int .i64 q.client, .int .i64 q.kind, .int .i64 m, .int .i64 d] := blk_range hb7
    clear hT hb7
    by_cases hl0 : (readQ l).2 = 0
    · obtain rfl : g2 = true := by rw [Hg2.out, hl0]; rfl
      obtain rfl : b2 = 0 := by rw [Hb2q.out, hl0]; rfl
      obtain rfl : k = 3 := by rw [Hk.out, goodN_three, hq1, hl0]; rfl
      clear hq1 hl0
      go_wp2_with (first
      | (with_reducible refine wpList_load_mid_g (o := ⟨some 71, _, _, _, _, _⟩) (by kernel_rfl) 47 (.tmp 7) rfl N7 0 rfl [.int .i64 q.client, .int .i64 q.kind, .int .i64 m, .int .i64 d] _ hr7 Tryz.underlying47 rfl HszT.out ?_)
      | (go_at_call 11; refine (one_any w8).mono ?_; rintro e w9 ⟨rfl, hb9⟩; have Hb9 := hide hb9; clear hb9)
      | fail)
      go_ret
      exact ⟨rfl, HbE.out.trans (Hb9.out.mono HbE.out.size)⟩
    · obtain rfl : g2 = false := by rw [Hg2.out, decide_eq_false hl0]
      obtain rfl : b2 = 11 := by rw [Hb2q.out, (readQ_two l).resolve_left hl0]; rfl
      obtain rfl : k = 1 := by rw [Hk.out, goodN_three, hq1, if_neg hl0]; rfl
      clear hq1 hl0
      go_wp2_with (first
      | (with_reducible refine wpList_load_mid_g (o := ⟨some 71, _, _, _, _, _⟩) (by kernel_rfl) 47 (.tmp 7) rfl N7 0 rfl [.int .i64 q.client, .int .i64 q.kind, .int .i64 m, .int .i64 d] _ hr7 Tryz.underlying47 rfl HszT.out ?_)
      | (go_at_call 11; refine (one_any w8).mono ?_; rintro e w9 ⟨rfl, hb9⟩; have Hb9 := hide hb9; clear hb9)
      | fail)
      go_ret
      exact ⟨rfl, HbE.out.trans (Hb9.out.mono HbE.out.size)⟩
  · obtain rfl : g1 = false := by rw [Hg1.out, decide_eq_false hq1]
    by_cases hl0 : (readQ l).2 = 0
    · obtain rfl : g2 = true := by rw [Hg2.out, hl0]; rfl
      obtain rfl : b2 = 0 := by rw [Hb2q.out, hl0]; rfl
      obtain rfl : k = 2 := by rw [Hk.out, goodN_three, if_neg hq1, hl0]; rfl
      clear hq1 hl0
      go_wp2_with (first
      | (with_reducible refine wpList_load_mid_g (o := ⟨some 71, _, _, _, _, _⟩) (by kernel_rfl) 47 (.tmp 7) rfl N7 0 rfl [.int .i64 q.client, .int .i64 q.kind, .int .i64 m, .int .i64 d] _ hr7 Tryz.underlying47 rfl HszT.out ?_)
      | (go_at_call 11; refine (one_any w8).mono ?_; rintro e w9 ⟨rfl, hb9⟩; have Hb9 := hide hb9; clear hb9)
      | fail)
      go_ret
      exact ⟨rfl, HbE.out.trans (Hb9.out.mono HbE.out.size)⟩
    · obtain rfl : g2 = false := by rw [Hg2.out, decide_eq_false hl0]
      obtain rfl : b2 = 11 := by rw [Hb2q.out, (readQ_two l).resolve_left hl0]; rfl
      obtain rfl : k = 0 := by rw [Hk.out, goodN_three, if_neg hq1, if_neg hl0]
      clear hq1 hl0
      go_wp2_with (first
      | (with_reducible refine wpList_load_mid_g (o := ⟨some 71, _, _, _, _, _⟩) (by kernel_rfl) 47 (.tmp 7) rfl N7 0 rfl [.int .i64 q.client, .int .i64 q.kind, .int .i64 m, .int .i64 d] _ hr7 Tryz.underlying47 rfl HszT.out ?_)
      | (go_at_call 11; refine (one_any w8).mono ?_; rintro e w9 ⟨rfl, hb9⟩; have Hb9 := hide hb9; clear hb9)
      | fail)
      go_ret
      exact ⟨rfl, HbE.out.trans (Hb9.out.mono HbE.out.size)⟩
end Go.Proofs.YtahhglhebcooaaaGreatDoor
