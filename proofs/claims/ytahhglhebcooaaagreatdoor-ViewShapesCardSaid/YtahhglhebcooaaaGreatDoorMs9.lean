/- msg.ReadRequest. -/
import Derived.Test.YtahhglhebcooaaaGreatDoorMs8
namespace Go.Proofs.YtahhglhebcooaaaGreatDoor
open Go.RowKit Go.Cof Go.Tol

theorem withinO_length (l : List UInt8) : (withinO l).length ≤ l.length := by
  have h : (withinR l).length ≤ l.length := by
    unfold withinR
    split
    · simp
    · split
      · simp
      · split
        · simp
        · simp; omega
  unfold withinO
  split
  · simp
  · exact h
theorem takeR_le (n : Int) (s : Rs) (h : 0 ≤ n) : ((takeR n s).1.length : Int) ≤ n := takeR_short n s h
theorem sizedR_le (s : Rs) : (sizedR s).1.length ≤ 65536 := by
  unfold sizedR
  split
  · simp
  · have := takeR_short (numR 4 s).1 (numR 4 s).2 (by omega)
    omega
theorem readN_ok (x : List UInt8) : ReqOk (readN x) ∧ (readN x).names.length ≤ 65535 ∧ (readN x).data.length ≤ 65536 := by
  obtain ⟨c, l1, b1, e1⟩ : ∃ c l1 b1, numR (1 : Nat) (x, 0) = (c, (l1, b1)) := ⟨_, _, _, rfl⟩
  obtain ⟨i, l2, b2, e2⟩ : ∃ i l2 b2, numR (8 : Nat) (l1, b1) = (i, (l2, b2)) := ⟨_, _, _, rfl⟩
  obtain ⟨k, l3, b3, e3⟩ : ∃ k l3 b3, numR (1 : Nat) (l2, b2) = (k, (l3, b3)) := ⟨_, _, _, rfl⟩
  obtain ⟨nm, l4, b4, e4⟩ : ∃ nm l4 b4, nameR (l3, b3) = (nm, (l4, b4)) := ⟨_, _, _, rfl⟩
  obtain ⟨g, l5, b5, e5⟩ : ∃ g l5 b5, numR (8 : Nat) (l4, b4) = (g, (l5, b5)) := ⟨_, _, _, rfl⟩
  obtain ⟨z, l6, b6, e6⟩ : ∃ z l6 b6, numR (2 : Nat) (l5, b5) = (z, (l6, b6)) := ⟨_, _, _, rfl⟩
  obtain ⟨ns, l7, b7, e7⟩ : ∃ ns l7 b7, manyN z (l6, b6) = (ns, (l7, b7)) := ⟨_, _, _, rfl⟩
  obtain ⟨dt, l9, b9, e8⟩ : ∃ dt l9 b9, sizedR (l7, b7) = (dt, (l9, b9)) := ⟨_, _, _, rfl⟩
  have hq : readN x = ⟨c, i, k, nm, g, ns, dt⟩ := by
    have f1 : numR 1 (x, 0) = (c, (l1, b1)) := e1
    have f2 : numR 8 (l1, b1) = (i, (l2, b2)) := e2
    have f3 : numR 1 (l2, b2) = (k, (l3, b3)) := e3
    have f5 : numR 8 (l4, b4) = (g, (l5, b5)) := e5
    have f6 : numR 2 (l5, b5) = (z, (l6, b6)) := e6
    simp only [readN, f1, f2, f3, e4, f5, f6, e7, e8]
  have lc : c < 256 := by have := numR_lt 1 (x, 0) (by decide); rw [e1] at this; simpa using this
  have li : i < 18446744073709551616 := by have := numR_lt 8 (l1, b1) (by decide); rw [e2] at this; simpa using this
  have lg : g < 18446744073709551616 := by have := numR_lt 8 (l4, b4) (by decide); rw [e5] at this; simpa using this
  have lz : z < 65536 := by have := numR_lt 2 (l5, b5) (by decide); rw [e6] at this; simpa using this
  have hnm : nm.length = 16 := by have := nameR_length (l3, b3); rw [e4] at this; exact this
  have hns : ∀ y ∈ ns, y.length = 16 := by have := manyN_16 z (l6, b6); rw [e7] at this; exact this
  have hnl : ns.length ≤ z := by have := manyN_le z (l6, b6); rw [e7] at this; exact this
  have hdl : dt.length ≤ 65536 := by have := sizedR_le (l7, b7); rw [e8] at this; exact this
  rw [hq]
  exact ⟨⟨hnm, hns, li, lg, by simp only; omega⟩, by simp only; omega, hdl⟩
theorem built_req (c k : Int) (i g n cN d cD : Nat) (nm : List UInt8) (AN AD : Option Addr) (hn : nm.length = 16) :
    Tryz.prog.built 43 [(0, .int .i64 c), (1, .int .u64 i), (2, .int .i64 k), (3, .agg (bytesV nm).toArray), (4, .int .u64 g), (5, .slice AN n cN), (6, .slice AD d cD)] = some ([.int .i64 c, .int .u64 i, .int .i64 k] ++ bytesV nm ++ [.int .u64 g, .slice AN n cN, .slice AD d cD] : List Value).toArray := by
  obtain ⟨b0, b1, b2, b3, b4, b5, b6, b7, b8, b9, b10, b11, b12, b13, b14, b15, rfl⟩ := list16 nm hn
  kernel_rfl
def req0L : List Value := [.int .i64 0, .int .u64 0, .int .i64 0, .int .u8 0, .int .u8 0, .int .u8 0, .int .u8 0, .int .u8 0, .int .u8 0, .int .u8 0, .int .u8 0, .int .u8 0, .int .u8 0, .int .u8 0, .int .u8 0, .int .u8 0, .int .u8 0, .int .u8 0, .int .u8 0, .int .u64 0, .slice none 0 0, .slice none 0 0]
theorem built_req0 : Tryz.prog.built 43 [] = some req0L.toArray := by kernel_rfl
def req0 : ReqA := ⟨0, 0, 0, List.replicate 16 0, 0, [], []⟩
theorem req0_V : reqV req0 none 0 none 0 = req0L := rfl
theorem reqV_one (q : ReqA) (AN AD : Option Addr) (cN cD : Nat) : ∀ u ∈ reqV q AN cN AD cD, u.oneCell' = true := by
  intro u hu
  rcases List.mem_append.1 hu with h | h
  · rcases List.mem_append.1 h with h | h
    · simp only [List.mem_cons, List.not_mem_nil, or_false] at h
      rcases h with rfl | rfl | rfl <;> rfl
    · exact bytesV_one _ u h
  · simp only [List.mem_cons, List.not_mem_nil, or_false] at h
    rcases h with rfl | rfl | rfl <;> rfl
/-- What a reader of requests takes bytes for: a request, and what is wrong. -/
def readQ (l : List UInt8) : ReqA × Nat :=
  if mayB (readN (withinO l)) = true ∧ reqL (readN (withinO l)) = l then (readN (withinO l), 0) else (req0, 11)
def ReadRP (w w' : World) (r : ReqA × Nat) (e : Ending) : Prop :=
  ∃ AN cN AD cD, e = .returned (.tuple #[.agg (reqV r.1 AN cN AD cD).toArray, .int .i64 r.2]) ∧ Rd w' (fun i => w.heap.size ≤ i) 16 AN r.1.names.length (bytesV r.1.names.flatten) ∧ Rd w' (fun i => w.heap.size ≤ i) 1 AD r.1.data.length (bytesV r.1.data) ∧ Below w.heap.size w w'

set_option maxHeartbeats 8000000 in
set_option maxRecDepth 200000 in
theorem readreq_any (S : Nat → Prop) (A : Option Addr) (cap : Nat) (l : List UInt8) (w : World) (hr : Rd w S 1 A l.length (bytesV l)) (hc : l.length ≤ cap) (hl : l.length ≤ 100000) (hS : ∀ b, S b → b < w.heap.size) :
    Calls Tryz.prog 14 #[.slice A l.length cap] w fun e w' => ReadRP w w' (readQ l) e := by
  obtain ⟨N, hN⟩ : ∃ N, N = w.heap.size := ⟨_, rfl⟩
  have HN := hide hN
  obtain ⟨x, hx⟩ : ∃ x, x = withinO l := ⟨_, rfl⟩
  obtain ⟨q, hq⟩ : ∃ q, q = readN x := ⟨_, rfl⟩
  obtain ⟨hqok, hqn, hqd⟩ := readN_ok x
  rw [← hq] at hqok hqn hqd
  have hxl := withinO_length l
  rw [← hx] at hxl
  have hli : l.length ≤ 1000000 := by omega
  have Hxl := hide (show x.length ≤ 1000000 by omega)
  have Hrq := hide (show readQ l = if mayB q = true ∧ reqL q = l then (q, 0) else (req0, 11) by rw [hq, hx]; rfl)
  have Hopen := hide (show ∀ w', Below w.heap.size w w' → Calls Tryz.prog 29 #[.slice A l.length cap] w' fun e w'' => OpenFP w' w'' x e from fun w' hb => by
    rw [hx]; exact fopen_any S A cap l w' (hr.keep (Keep.of_none hb) (fun _ _ _ f => f)) hc hl (fun i hi => by have h1 := hS i hi; have h2 := hb.size; omega))
  have Hrl := hide (show ∀ w', Below w.heap.size w w' → Rd w' S 1 A l.length (bytesV l) from fun w' hb => hr.keep (Keep.of_none hb) (fun _ _ _ f => f))
  obtain ⟨n, hn⟩ : ∃ n, n = q.names.length := ⟨_, rfl⟩
  obtain ⟨d, hd⟩ : ∃ d, d = q.data.length := ⟨_, rfl⟩
  obtain ⟨Y, hY⟩ : ∃ Y, Y = coreV q := ⟨_, rfl⟩
  have Hread := hide (show ∀ (S2 : Nat → Prop) (A2 : Option Addr) (c2 : Nat) (w' : World), Rd w' S2 1 A2 x.length (bytesV x) → Calls Tryz.prog 30 #[.slice A2 x.length c2, .bool true] w' fun e w'' =>
      ∃ AN cN AD cD, e = .returned (.tuple #[.agg Y.toArray, .slice AN n cN, .slice AD d cD]) ∧ Rd w'' (fun i => w'.heap.size ≤ i) 16 AN n (bytesV q.names.flatten) ∧ Rd w'' (fun i => w'.heap.size ≤ i) 1 AD d (bytesV q.data) ∧ Below w'.heap.size w' w'' from fun S2 A2 c2 w' h => by
    rw [hY, hn, hd, hq]; exact read_any S2 A2 c2 x.length x w' rfl h Hxl.out)
  have Hput := hide (show ∀ (S2 S3 : Nat → Prop) (AN AD : Option Addr) (cN cD : Nat) (w' : World) (X : List Value), X = reqV q AN cN AD cD → Rd w' S2 16 AN n (bytesV q.names.flatten) → Rd w' S3 1 AD d (bytesV q.data) → Calls Tryz.prog 12 #[.agg X.toArray] w' fun e w'' => PutQ w' w'' q e from fun S2 S3 AN AD cN cD w' X hX h1 h2 => by
    rw [hX]; rw [hn] at h1; rw [hd] at h2; exact putreq_any q AN AD cN cD w' hqok h1 h2 (by omega) (by omega))
  have Hnd := hide (show n = q.names.length ∧ d = q.data.length from ⟨hn, hd⟩)
  have Hqok := hide hqok
  have Hy := hide (show Y[0]? = some (.int .i64 q.client) ∧ Y[1]? = some (.int .i64 q.kind) ∧ Y[2]? = some (.int .u64 q.id) ∧ Y[3]? = some (.int .u64 q.gen) ∧ (Y.drop 4).take 16 = bytesV q.name by rw [hY]; exact ⟨rfl, rfl, rfl, rfl, coreV_name q hqok.name⟩)
  have hYl : Y.length = 20 := by rw [hY]; exact coreV_length q hqok.name
  have hstY : ∀ (u : World) (z : Array Value), z.size = 20 → (storeCells ⟨u.heap.size, 0, none⟩ Y).run Tryz.prog (u.alloc (.cells z 83)) = .ok () (u.alloc (.cells Y.toArray 83)) := fun u => store_new (P := Tryz.prog) u 83 20 Y (by kernel_rfl) hYl (by rw [hY]; exact coreV_one q)
  have Hnm := hide (show (Tryz.prog.info? 40).map (·.size) = some (bytesV q.name).length by rw [bytesV_length, hqok.name]; kernel_rfl)
  clear hN hx hq hqok hqn hqd hxl hr hc hS hn hd hY
  go_enter Tryz.func14, Tryz.ntmps14
  go_upto_region 1 with (fail)
  rw [← HN.out]
  obtain ⟨W, hW⟩ : ∃ W : World, W = w.alloc (.cells #[.int .i64 0, .int .u64 0, .int .i64 0, .int .u8 0, .int .u8 0, .int .u8 0, .int .u8 0, .int .u8 0, .int .u8 0, .int .u8 0, .int .u8 0, .int .u8 0, .int .u8 0, .int .u8 0, .int .u8 0, .int .u8 0, .int .u8 0, .int .u8 0, .int .u8 0, .int .u64 0, .slice none 0 0, .slice none 0 0] 43) := ⟨_, rfl⟩
  have HrN := hide (show W.heap[N]? = some (.cells req0L.toArray 43 (0, 0)) by rw [hW, HN.out]; exact heap_new _ _)
  have HbW := hide (show Below w.heap.size w W by rw [hW]; exact (Below.refl _ _).alloc (Nat.le_refl _) _)
  have HWs := hide (show W.heap.size = N + 1 by rw [hW, HN.out]; simp)
  rw [← hW]
  clear hW
  go_upto_region 3 with (first
    | (go_at_call 29; ((with_reducible refine (Hopen.out _ HbW.out).mono ?_)); rintro e w3 hop; obtain ⟨k3, bad3, A3, c3, rfl, hr3, hc3, hb3⟩ := hop; have Hr3 := hide hr3; have Hb3 := hide (show Below W.heap.size W w3 from hb3); clear hr3 hc3 hb3)
    | (go_at_call 30; ((with_reducible refine (Hread.out _ _ _ _ Hr3.out).mono ?_)); rintro e w4 hrd; obtain ⟨AN, cN, AD, cD, rfl, hr4, hd4, hb4⟩ := hrd; have Hr4 := hide hr4; have Hd4 := hide hd4; have Hb4 := hide (Hb3.out.trans (hb4.mono Hb3.out.size)); have Hs4 := hide (show w.heap.size ≤ w3.heap.size from (by have := HbW.out.size; have := Hb3.out.size; omega)); clear hr4 hd4 hb4)
    | fail)
  obtain ⟨M, hM⟩ : ∃ M, M = w4.heap.size := ⟨_, rfl⟩
  rw [← hM]
  obtain ⟨W5, hW5⟩ : ∃ W : World, W = w4.alloc (.cells Y.toArray 83) := ⟨_, rfl⟩
  have hr5 : W5.heap[M]? = some (.cells Y.toArray 83 (0, 0)) := by rw [hW5, hM]; exact heap_new _ _
  have H5k := hide (show Below w4.heap.size w4 W5 by rw [hW5]; exact (Below.refl _ _).alloc (Nat.le_refl _) _)
  have HW5s := hide (show W5.heap.size = M + 1 by rw [hW5, hM]; simp)
  have HM := hide hM
  rw [← hW5]
  have c0 : W5.cell? ⟨M, 0, none⟩ = some (.int .i64 q.client) := by rw [blk_cell hr5]; exact Hy.out.1
  have c1 : W5.cell? ⟨M, 1, none⟩ = some (.int .i64 q.kind) := by rw [blk_cell hr5]; exact Hy.out.2.1
  have c2 : W5.cell? ⟨M, 2, none⟩ = some (.int .u64 q.id) := by rw [blk_cell hr5]; exact Hy.out.2.2.1
  have c3 : W5.cell? ⟨M, 3, none⟩ = some (.int .u64 q.gen) := by rw [blk_cell hr5]; exact Hy.out.2.2.2.1
  have Hrg := hide (show W5.rangeAt M 4 (bytesV q.name) from part_range hr5 (by rw [bytesV_length, Hqok.out.name]; exact Hy.out.2.2.2.2))
  obtain ⟨X, hX⟩ : ∃ X, X = reqV q AN cN AD cD := ⟨_, rfl⟩
  have hXl : X.length = 22 := by rw [hX]; exact reqV_length q AN AD cN cD Hqok.out.name
  have Hbu := hide (show Tryz.prog.built 43 [(0, .int .i64 q.client), (1, .int .u64 q.id), (2, .int .i64 q.kind), (3, .agg (bytesV q.name).toArray), (4, .int .u64 q.gen), (5, .slice AN n cN), (6, .slice AD d cD)] = some X.toArray by rw [hX, reqV, Hnd.out.1, Hnd.out.2]; exact built_req _ _ _ _ _ _ _ _ _ _ _ Hqok.out.name)
  have hX1 : ∀ u ∈ X, u.oneCell' = true := by rw [hX]; exact reqV_one q AN AD cN cD
  have hstX : ∀ (u : World) (z : Array Value), z.size = 22 → (storeCells ⟨u.heap.size, 0, none⟩ X).run Tryz.prog (u.alloc (.cells z 43)) = .ok () (u.alloc (.cells X.toArray 43)) := fun u => store_new (P := Tryz.prog) u 43 22 X (by kernel_rfl) hXl hX1
  have HX := hide hX
  have HX1 := hide hX1
  have HszX := hide (show (Tryz.prog.info? 43).map (·.size) = some X.length by rw [hXl]; kernel_rfl)
  have HszA := hide (show (Tryz.prog.info? 43).map (·.size) = some X.toArray.size by rw [List.size_toArray, hXl]; kernel_rfl)
  have HlX := hide (show 0 + X.length ≤ req0L.length by rw [hXl]; decide)
  have HoX := hide (show over req0L 0 X = X from over_all _ _ (by rw [hXl]; rfl))
  clear hM hW5 hr5 hX hX1 hstY
  go_upto_region 4 with (first
    | (refine wpList_load_mid rfl 40 (.tmp 31) rfl M 4 rfl (bytesV q.name) _ Hrg.out Tryz.underlying40 rfl Hnm.out ?_)
    | (refine wpList_built rfl 43 _ rfl X.toArray [(0, .int .i64 q.client), (1, .int .u64 q.id), (2, .int .i64 q.kind), (3, .agg (bytesV q.name).toArray), (4, .int .u64 q.gen), (5, .slice AN n cN), (6, .slice AD d cD)] rfl Hbu.out ?_)
    | fail)
  rw [HW5s.out]
  obtain ⟨W6, hW6⟩ : ∃ W : World, W = W5.alloc (.cells X.toArray 43) := ⟨_, rfl⟩
  have Hr6 := hide (show W6.heap[M + 1]? = some (.cells X.toArray 43 (0, 0)) by rw [hW6, ← HW5s.out]; exact heap_new _ _)
  have H6k := hide (show Below w4.heap.size w4 W6 by rw [hW6]; exact H5k.out.alloc H5k.out.size _)
  have Hrg6 := hide (show W6.rangeAt (M + 1) 0 X from part_range Hr6.out (by rw [List.drop_zero, List.take_length]))
  rw [← hW6]
  have HN6 := hide (Hr4.out.keep (Keep.of_none H6k.out) (fun _ _ _ f => f))
  have HD6 := hide (Hd4.out.keep (Keep.of_none H6k.out) (fun _ _ _ f => f))
  have Hb6 := hide (Hb4.out.trans (H6k.out.mono Hb4.out.size))
  clear hW6 hstX c0 c1 c2 c3
  have Hfin := hide (show ∀ (w7 w8 : World) (z : Nat) (Xz : List Value), Below W6.heap.size W6 w7 → w8.heap[N]? = some (.cells Xz.toArray 43 (0, 0)) → Keep (· = N) w7 w8 → ((Xz = X ∧ z = 0 ∧ mayB q = true ∧ reqL q = l) ∨ (Xz = req0L ∧ z = 11 ∧ ¬ (mayB q = true ∧ reqL q = l))) → ReadRP w w8 (readQ l) (.returned (.tuple #[.agg Xz.toArray, .int .i64 z])) from fun w7 w8 z Xz hb h8 hk hor => by
    have hNs := HN.out
    have h9 : Keep (fun i => i = N) W6 w8 := (Keep.of_none hb).mono (fun _ _ f => f.elim) |>.trans hk
    have hbel : Below w.heap.size w w8 := (HbW.out.trans (Hb6.out.mono HbW.out.size)).trans (h9.below (by have := HbW.out.size; have := Hb6.out.size; omega) (fun i e => by have : i = N := e; omega))
    rcases hor with ⟨rfl, rfl, h1, h2⟩ | ⟨rfl, rfl, h1⟩
    · rw [Hrq.out, if_pos ⟨h1, h2⟩]
      refine ⟨AN, cN, AD, cD, by rw [HX.out], ?_, ?_, hbel⟩
      · have h3 := (HN6.out.keep h9 (fun i hi _ e => by have := Hs4.out; have : i = N := e; have h4 : w3.heap.size ≤ i := hi; have := HWs.out; have := Hb3.out.size; omega)).mono (S' := fun i => w.heap.size ≤ i) (fun i _ hi => by have := Hs4.out; have h4 : w3.heap.size ≤ i := hi; show w.heap.size ≤ i; omega)
        rw [Hnd.out.1] at h3
        exact h3
      · have h3 := (HD6.out.keep h9 (fun i hi _ e => by have := Hs4.out; have : i = N := e; have h4 : w3.heap.size ≤ i := hi; have := HWs.out; have := Hb3.out.size; omega)).mono (S' := fun i => w.heap.size ≤ i) (fun i _ hi => by have := Hs4.out; have h4 : w3.heap.size ≤ i := hi; show w.heap.size ≤ i; omega)
        rw [Hnd.out.2] at h3
        exact h3
    · rw [Hrq.out, if_neg h1]
      exact ⟨none, 0, none, 0, rfl, Rd.nil _ _ _ _, Rd.nil _ _ _ _, hbel⟩)
  have HNW := hide (show ∀ w7, Below W6.heap.size W6 w7 → w7.heap[N]? = some (.cells req0L.toArray 43 (0, 0)) from fun w7 hb => by
    have h1 := (Hb6.out.trans (hb.mono Hb6.out.size)).block N (by have := HWs.out; omega)
    rw [h1]; exact HrN.out)
  have HXW := hide (show ∀ w7, Below W6.heap.size W6 w7 → w7.rangeAt (M + 1) 0 X from fun w7 hb => part_range ((hb.block (M + 1) (blk_lt Hr6.out)).trans Hr6.out) (by rw [List.drop_zero, List.take_length]))
  have Hlb := hide (show ∀ w7, Below W6.heap.size W6 w7 → Below w.heap.size w w7 from fun w7 hb => HbW.out.trans ((Hb6.out.trans (hb.mono Hb6.out.size)).mono HbW.out.size))
  have Hz0 := hide (show over req0L 0 req0L = req0L from over_whole _)
  have Hzl := hide (show 0 + req0L.length ≤ req0L.length by decide)
  have Hzs := hide (show (Tryz.prog.info? 43).map (·.size) = some req0L.length by kernel_rfl)
  have Hzsa := hide (show (Tryz.prog.info? 43).map (·.size) = some req0L.toArray.size by kernel_rfl)
  have Hz1 := hide (show ∀ u ∈ req0L, u.oneCell' = true by decide)
  have Hbz := hide built_req0
  obtain ⟨Z, hZ⟩ : ∃ Z, Z = req0L := ⟨_, rfl⟩
  rw [← hZ] at HNW Hz0 Hzl Hzs Hzsa Hz1 Hbz Hfin HlX HoX
  clear hZ
  rcases hmb : mayB q with _ | _
  · have Hmb := hide hmb
    clear hmb
    go_wp2_with (first
      | (refine wpList_load_mid rfl 43 (.tmp 10) rfl (M + 1) 0 rfl X _ Hrg6.out Tryz.underlying43 rfl HszX.out ?_)
      | (go_at_call 12; ((with_reducible refine (Hput.out _ _ _ _ _ _ _ _ HX.out HN6.out HD6.out).mono ?_)); rintro e w7 hp; rw [PutQ, if_neg (by rw [Hmb.out]; decide)] at hp; obtain ⟨rfl, hb7⟩ := hp; have Hb7 := hide hb7; clear hb7)
      | (refine wpList_built rfl 43 _ rfl Z.toArray [] rfl Hbz.out ?_)
      | (refine wpList_store_over rfl 43 (.tmp 2) (.tmp 51) rfl N 0 Z Z 43 (HNW.out _ Hb7.out) rfl rfl Hzl.out Hzs.out Hz1.out ?_; intro w8 hc8 hk8; have Hc8 := hide (show w8.heap[N]? = some (.cells Z.toArray 43 (0, 0)) by rw [hc8.out, Hz0.out]); have Hk8 := hide hk8; clear hc8 hk8)
      | fail)
    refine bodyPost_ret (results_row_tmp rfl _ _ N rfl Hc8.out Tryz.underlying43 rfl Hzsa.out) rfl ?_
    exact Hfin.out w7 w8 11 Z Hb7.out Hc8.out Hk8.out (.inr ⟨rfl, rfl, fun h => by rw [Hmb.out] at h; exact absurd h.1 (by decide)⟩)
  · have Hmb := hide hmb
    clear hmb
    obtain ⟨fl, hfl⟩ : ∃ fl, fl = reqL q := ⟨_, rfl⟩
    obtain ⟨eq, heq⟩ : ∃ eq, (fl == l) = eq := ⟨_, rfl⟩
    have Heq := hide heq
    have Hfl := hide hfl
    clear hfl heq
    rcases heqv : eq with _ | _
    · have Hev := hide (show (fl == l) = false by rw [Heq.out, heqv])
      clear heqv
      go_wp2_with (first
        | (refine wpList_load_mid rfl 43 (.tmp 10) rfl (M + 1) 0 rfl X _ Hrg6.out Tryz.underlying43 rfl HszX.out ?_)
        | (go_at_call 12; ((with_reducible refine (Hput.out _ _ _ _ _ _ _ _ HX.out HN6.out HD6.out).mono ?_)); rintro e w7 hp; rw [PutQ, if_pos Hmb.out, ← Hfl.out] at hp; obtain ⟨A7, c7, rfl, hown7, hb7⟩ := hp; have Hb7 := hide hb7; have Ho7 := hide hown7; clear hb7 hown7)
        | (go_at_call 22; ((with_reducible refine (bequal_b fl l false rfl rfl Hev.out (own_rd Ho7.out) (Hrl.out _ (Hlb.out _ Hb7.out))).mono ?_)); rintro e w9 ⟨rfl, rfl⟩)
        | (refine wpList_built rfl 43 _ rfl Z.toArray [] rfl Hbz.out ?_)
        | (refine wpList_store_over rfl 43 (.tmp 2) (.tmp 51) rfl N 0 Z Z 43 (HNW.out _ Hb7.out) rfl rfl Hzl.out Hzs.out Hz1.out ?_; intro w8 hc8 hk8; have Hc8 := hide (show w8.heap[N]? = some (.cells Z.toArray 43 (0, 0)) by rw [hc8.out, Hz0.out]); have Hk8 := hide hk8; clear hc8 hk8)
        | fail)
      refine bodyPost_ret (results_row_tmp rfl _ _ N rfl Hc8.out Tryz.underlying43 rfl Hzsa.out) rfl ?_
      exact Hfin.out _ w8 11 Z Hb7.out Hc8.out Hk8.out (.inr ⟨rfl, rfl, fun h => by have h1 := Hev.out; rw [Hfl.out, h.2] at h1; simp at h1⟩)
    · have Hev := hide (show (fl == l) = true by rw [Heq.out, heqv])
      clear heqv
      go_wp2_with (first
        | (refine wpList_load_mid rfl 43 (.tmp 10) rfl (M + 1) 0 rfl X _ Hrg6.out Tryz.underlying43 rfl HszX.out ?_)
        | (go_at_call 12; ((with_reducible refine (Hput.out _ _ _ _ _ _ _ _ HX.out HN6.out HD6.out).mono ?_)); rintro e w7 hp; rw [PutQ, if_pos Hmb.out, ← Hfl.out] at hp; obtain ⟨A7, c7, rfl, hown7, hb7⟩ := hp; have Hb7 := hide hb7; have Ho7 := hide hown7; have Hrg7 := hide (HXW.out _ hb7); clear hb7 hown7)
        | (go_at_call 22; ((with_reducible refine (bequal_b fl l true rfl rfl Hev.out (own_rd Ho7.out) (Hrl.out _ (Hlb.out _ Hb7.out))).mono ?_)); rintro e w9 ⟨rfl, rfl⟩)
        | (refine wpList_load_mid rfl 43 (.tmp 10) rfl (M + 1) 0 rfl X _ Hrg7.out Tryz.underlying43 rfl HszX.out ?_)
        | (refine wpList_store_over rfl 43 (.tmp 2) (.tmp 52) rfl N 0 Z X 43 (HNW.out _ Hb7.out) rfl rfl HlX.out HszX.out HX1.out ?_; intro w8 hc8 hk8; have Hc8 := hide (show w8.heap[N]? = some (.cells X.toArray 43 (0, 0)) by rw [hc8.out, HoX.out]); have Hk8 := hide hk8; clear hc8 hk8)
        | fail)
      refine bodyPost_ret (results_row_tmp rfl _ _ N rfl Hc8.out Tryz.underlying43 rfl HszA.out) rfl ?_
      exact Hfin.out _ w8 0 X Hb7.out Hc8.out Hk8.out (.inl ⟨rfl, rfl, Hmb.out, by have h1 := Hev.out; rw [Hfl.out] at h1; simpa using h1⟩)
end Go.Proofs.YtahhglhebcooaaaGreatDoor
