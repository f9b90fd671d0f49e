/- view.Shape. -/
import Derived.Test.YtahhglhebcooaaaGreatDoorMs9
namespace Go.Proofs.YtahhglhebcooaaaGreatDoor
open Go.RowKit Go.Cof Go.Tol

def toldV (q : ReqA) : List Value := [.int .i64 q.client, .int .i64 q.kind, .int .i64 q.names.length, .int .i64 q.data.length]
theorem readQ_two (l : List UInt8) : (readQ l).2 = 0 ∨ readQ l = (req0, 11) := by
  unfold readQ
  split
  · exact .inl rfl
  · exact .inr rfl
theorem readQ_ok (l : List UInt8) : ReqOk (readQ l).1 ∧ (readQ l).1.names.length ≤ 65535 ∧ (readQ l).1.data.length ≤ 65536 := by
  unfold readQ
  split
  · exact readN_ok _
  · exact ⟨⟨by decide, by intro x hx; simp [req0] at hx, by decide, by decide, by decide⟩, by decide, by decide⟩
theorem built_told (a b c d : Int) : Tryz.prog.built 47 [(0, .int .i64 a), (1, .int .i64 b), (2, .int .i64 c), (3, .int .i64 d)] = some ([.int .i64 a, .int .i64 b, .int .i64 c, .int .i64 d] : List Value).toArray := by kernel_rfl
def told0 : List Value := [.int .i64 0, .int .i64 0, .int .i64 0, .int .i64 0]
theorem built_told0 : Tryz.prog.built 47 [] = some told0.toArray := by kernel_rfl

set_option maxHeartbeats 8000000 in
set_option maxRecDepth 200000 in
theorem shape_any (S : Nat → Prop) (A : Option Addr) (cap : Nat) (l : List UInt8) (w : World) (hr : Rd w S 1 A l.length (bytesV l)) (hc : l.length ≤ cap) (hl : l.length ≤ 100000) (hS : ∀ b, S b → b < w.heap.size) :
    Calls Tryz.prog 13 #[.slice A l.length cap] w fun e w' => e = .returned (.tuple #[.agg (toldV (readQ l).1).toArray, .bool (decide ((readQ l).2 = 0))]) ∧ Below w.heap.size w w' := by
  obtain ⟨N, hN⟩ : ∃ N, N = w.heap.size := ⟨_, rfl⟩
  have HN := hide hN
  obtain ⟨hqok, hqn, hqd⟩ := readQ_ok l
  have htwo := readQ_two l
  have Hrd := hide (show ∀ w', Below w.heap.size w w' → Calls Tryz.prog 14 #[.slice A l.length cap] w' fun e w'' => ReadRP w' w'' (readQ l) e from fun w' hb =>
    readreq_any S A cap l w' (hr.keep (Keep.of_none hb) (fun _ _ _ f => f)) hc hl (fun i hi => by have h1 := hS i hi; have h2 := hb.size; omega))
  obtain ⟨q, bad, hq⟩ : ∃ q bad, readQ l = (q, bad) := ⟨_, _, rfl⟩
  rw [hq] at hqok hqn hqd htwo Hrd ⊢
  simp only at hqok hqn hqd htwo ⊢
  have Hqok := hide hqok
  obtain ⟨n, hn⟩ : ∃ n, n = q.names.length := ⟨_, rfl⟩
  obtain ⟨d, hd⟩ : ∃ d, d = q.data.length := ⟨_, rfl⟩
  have hn0 : (n : Int) ≤ 65535 := by omega
  have hd0 : (d : Int) ≤ 65536 := by omega
  have Hnd := hide (show n = q.names.length ∧ d = q.data.length from ⟨hn, hd⟩)
  have Htwo := hide htwo
  obtain ⟨T, hT⟩ : ∃ T, T = toldV q := ⟨_, rfl⟩
  have HTl := hide (show 0 + T.length ≤ told0.length by rw [hT]; exact Nat.le_refl 4)
  have HTo := hide (show over told0 0 T = T from over_all _ _ (by rw [hT]; rfl))
  have HT1 := hide (show ∀ u ∈ T, u.oneCell' = true by rw [hT]; intro u hu; simp only [toldV, List.mem_cons, List.not_mem_nil, or_false] at hu; rcases hu with rfl | rfl | rfl | rfl <;> rfl)
  have HTs := hide (show (Tryz.prog.info? 47).map (·.size) = some T.length by rw [hT]; kernel_rfl)
  have HTa := hide (show (Tryz.prog.info? 47).map (·.size) = some T.toArray.size by rw [hT]; kernel_rfl)
  have HTb := hide (show Tryz.prog.built 47 [(0, .int .i64 q.client), (1, .int .i64 q.kind), (2, .int .i64 n), (3, .int .i64 d)] = some T.toArray by rw [hT, hn, hd]; exact built_told _ _ _ _)
  have HTz := hide (show bad ≠ 0 → Tryz.prog.built 47 [] = some T.toArray from fun h => by
    rcases htwo with h1 | h1
    · exact absurd h1 h
    · rw [hT, (Prod.mk.inj h1).1]; exact built_told0)
  rw [← hT]
  clear hN hqok hqn hqd htwo hr hc hl hS hq hn hd hT
  go_enter Tryz.func13, Tryz.ntmps13
  go_upto_region 1 with (fail)
  rw [← HN.out]
  obtain ⟨W, hW⟩ : ∃ W : World, W = w.alloc (.cells #[.int .i64 0, .int .i64 0, .int .i64 0, .int .i64 0] 47) := ⟨_, rfl⟩
  have HrN := hide (show W.heap[N]? = some (.cells told0.toArray 47 (0, 0)) by rw [hW, HN.out]; exact heap_new _ _)
  have HbW := hide (show Below w.heap.size w W by rw [hW]; exact (Below.refl _ _).alloc (Nat.le_refl _) _)
  have HWs := hide (show W.heap.size = N + 1 by rw [hW, HN.out]; simp)
  rw [← hW]
  clear hW
  have hstX : ∀ (X : List Value), X.length = 22 → (∀ u ∈ X, u.oneCell' = true) → ∀ (u : World) (z : Array Value), z.size = 22 → (storeCells ⟨u.heap.size, 0, none⟩ X).run Tryz.prog (u.alloc (.cells z 43)) = .ok () (u.alloc (.cells X.toArray 43)) := fun X h1 h2 u => store_new (P := Tryz.prog) u 43 22 X (by kernel_rfl) h1 h2
  have HstX := hide hstX
  clear hstX
  go_upto_region 2 with (first
    | (go_at_call 14; ((with_reducible refine (Hrd.out _ HbW.out).mono ?_)); rintro e w3 hop; obtain ⟨AN, cN, AD, cD, hret, hr3, hd3, hb3⟩ := hop; obtain ⟨X, hX⟩ : ∃ X, X = reqV q AN cN AD cD := ⟨_, rfl⟩; have hret2 : e = .returned (.tuple #[.agg X.toArray, .int .i64 bad]) := (by rw [hret, hX]); subst hret2; have HX := hide hX; have hXl : X.length = 22 := (by rw [hX]; exact reqV_length q AN AD cN cD Hqok.out.name); have hst := HstX.out X hXl (by rw [hX]; exact reqV_one q AN AD cN cD) w3; have Hb3 := hide hb3; clear hb3 hr3 hd3 hret hX)
    | fail)
  obtain ⟨M, hM⟩ : ∃ M, M = w3.heap.size := ⟨_, rfl⟩
  rw [← hM]
  obtain ⟨W5, hW5⟩ : ∃ W : World, W = w3.alloc (.cells X.toArray 43) := ⟨_, rfl⟩
  have hr5 : W5.heap[M]? = some (.cells X.toArray 43 (0, 0)) := by rw [hW5, hM]; exact heap_new _ _
  have Hb5 := hide (show Below W.heap.size W W5 by rw [hW5]; exact Hb3.out.alloc Hb3.out.size _)
  obtain ⟨_, h20, h21⟩ := reqV_tail q AN AD cN cD Hqok.out.name
  have c0 : W5.cell? ⟨M, 0, none⟩ = some (.int .i64 q.client) := by rw [blk_cell hr5, HX.out]; rfl
  have c2 : W5.cell? ⟨M, 2, none⟩ = some (.int .i64 q.kind) := by rw [blk_cell hr5, HX.out]; rfl
  have c20 : W5.cell? ⟨M, 20, none⟩ = some (.slice AN n cN) := by rw [blk_cell hr5, HX.out, Hnd.out.1]; exact h20
  have c21 : W5.cell? ⟨M, 21, none⟩ = some (.slice AD d cD) := by rw [blk_cell hr5, HX.out, Hnd.out.2]; exact h21
  have HrN5 := hide (show W5.heap[N]? = some (.cells told0.toArray 47 (0, 0)) from (Hb5.out.block N (by rw [HWs.out]; omega)).trans HrN.out)
  rw [← hW5]
  clear hW5 hM hst hr5 h20 h21
  have Hfin := hide (show ∀ w8, Keep (· = N) W5 w8 → Below w.heap.size w w8 from fun w8 hk => (HbW.out.trans (Hb5.out.mono HbW.out.size)).trans (hk.below (by have := HbW.out.size; have := Hb5.out.size; omega) (fun i e => by have : i = N := e; have := HN.out; omega)))
  by_cases hb0 : bad = 0
  · subst hb0
    go_wp2_with (first
      | (refine wpList_built rfl 47 _ rfl T.toArray [(0, .int .i64 q.client), (1, .int .i64 q.kind), (2, .int .i64 n), (3, .int .i64 d)] rfl HTb.out ?_)
      | (refine wpList_store_over rfl 47 (.tmp 2) (.tmp 24) rfl N 0 told0 T 47 HrN5.out rfl rfl HTl.out HTs.out HT1.out ?_; intro w8 hc8 hk8; have Hc8 := hide (show w8.heap[N]? = some (.cells T.toArray 47 (0, 0)) by rw [hc8.out, HTo.out]); have Hk8 := hide hk8; clear hc8 hk8)
      | fail)
    refine bodyPost_ret (results_row_tmp rfl _ _ N rfl Hc8.out Tryz.underlying47 rfl HTa.out) rfl ?_
    exact ⟨rfl, Hfin.out _ Hk8.out⟩
  · have hbn : ((bad : Int) != 0) = true := by rw [bne_iff_ne]; omega
    have HTz2 := hide (HTz.out hb0)
    have Hd := hide (show decide (bad = 0) = false by simpa using hb0)
    clear c0 c2 c20 c21
    go_wp2_with (first
      | (refine wpList_built rfl 47 _ rfl T.toArray [] rfl HTz2.out ?_)
      | (refine wpList_store_over rfl 47 (.tmp 2) (.tmp 13) rfl N 0 told0 T 47 HrN5.out rfl rfl HTl.out HTs.out HT1.out ?_; intro w8 hc8 hk8; have Hc8 := hide (show w8.heap[N]? = some (.cells T.toArray 47 (0, 0)) by rw [hc8.out, HTo.out]); have Hk8 := hide hk8; clear hc8 hk8)
      | fail)
    refine bodyPost_ret (results_row_tmp rfl _ _ N rfl Hc8.out Tryz.underlying47 rfl HTa.out) rfl ?_
    exact ⟨by rw [Hd.out]; rfl, Hfin.out _ Hk8.out⟩
end Go.Proofs.YtahhglhebcooaaaGreatDoor
