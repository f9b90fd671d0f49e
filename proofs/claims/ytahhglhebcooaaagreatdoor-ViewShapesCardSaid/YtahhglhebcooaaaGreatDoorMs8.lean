/- msg.read. -/
import Derived.Test.YtahhglhebcooaaaGreatDoorMs7
namespace Go.Proofs.YtahhglhebcooaaaGreatDoor
open Go.RowKit Go.Cof Go.Tol

theorem step_store_over {P : Program} {ops : Array Oper} {op : Oper} {a : Act} {w : World} {K : Act → World → Prop} {Q : Exit → Act → World → Prop} {E : Prop} (hgd : op.guard = none) (ty : TypeId) (x y : Operand) (ho : op.op = .store ty x y)
    (g o : Nat) (cur cs : List Value) (t : TypeId) (hg : w.heap[g]? = some (.cells cur.toArray t (0, 0))) (hx : a.eval x = .pointer (some ⟨g, o, none⟩)) (hy : a.eval y = .agg cs.toArray) (hl : o + cs.length ≤ cur.length)
    (hi : (P.info? ty).map (·.size) = some cs.length) (h1 : ∀ v ∈ cs, v.oneCell' = true)
    (h : ∀ w', Hid (w'.heap[g]? = some (.cells (over cur o cs).toArray t (0, 0))) → Keep (· = g) w w' → K (a.put op.dst undef) w') :
    if Region.wanted op (yielded ops a.tmps) = true then Oper.wp P op a w K Q else E := by
  have hw : Region.wanted op (yielded ops a.tmps) = true := by simp [Region.wanted, hgd]
  rw [if_pos hw]
  refine wp_store_mid ty x y ho g o cs.toArray hx hy (fun j hj => ?_) (by simpa using hi) (all_oneCell_toArray h1) ?_
  · have hj2 : j < cs.length := by simpa using hj
    refine ⟨?_, ?_⟩
    · rw [blk_cell hg, List.getElem?_eq_getElem (by omega)]; rfl
    · exact frozen_of_row _ _ _ _ _ hg
  · exact h _ (hide (heap_sets g t cs cur o w hg hl)) (keep_setCells (F := fun i => i = g) rfl cs o (Keep.refl _ _))
theorem over_whole (cur : List Value) : over cur 0 cur = cur := by simp [over]
theorem over_all (cur cs : List Value) (h : cs.length = cur.length) : over cur 0 cs = cs := by simp [over, h]
theorem over_back (p z cs : List Value) (h : cs.length = z.length) : over (p ++ z) p.length cs = p ++ cs := by
  rw [over, List.take_left' rfl, h, ← List.length_append, List.drop_length, List.append_nil]
theorem build_at : ∀ (l : List Value) (k : Nat) (z : Array Value), k + l.length ≤ z.size → List.foldl (fun (cs : Array Value) (x : Value × Nat) => cs.setIfInBounds x.snd x.fst) z (l.zipIdx k) = (z.toList.take k ++ l ++ z.toList.drop (k + l.length)).toArray
  | [], k, z, _ => by simp
  | v :: l, k, z, h => by
    rw [List.length_cons] at h
    rw [List.zipIdx_cons, List.foldl_cons, build_at l (k + 1) _ (by simp; omega)]
    have h2 : (z.setIfInBounds k v).toList = z.toList.set k v := by simp
    rw [h2, List.length_cons]
    congr 1
    have hk : k < z.toList.length := by rw [Array.length_toList]; omega
    rw [List.take_succ_eq_append_getElem (by rw [List.length_set]; exact hk), List.getElem_set_self, List.take_set_of_le (Nat.le_refl k), List.drop_set_of_lt (by omega), show k + 1 + l.length = k + (l.length + 1) by omega]
    simp
theorem build_eq (l : List Value) (n : Nat) (h : l.length = n) : ∀ z : Array Value, z.size = n → List.foldl (fun (cs : Array Value) (x : Value × Nat) => cs.setIfInBounds x.snd x.fst) z l.zipIdx = l.toArray := fun z hz => by
  have := build_at l 0 z (by omega)
  rw [List.drop_of_length_le (by rw [Array.length_toList]; omega)] at this
  simpa using this
def core2L (c k : Int) (i g : Nat) (b : List Value) : List Value := [.int .i64 c, .int .i64 k, .int .u64 i, .int .u64 g] ++ b
theorem built_core3 (c k : Int) (i : Nat) : Tryz.prog.built 83 [(0, .int .i64 c), (2, .int .u64 i), (1, .int .i64 k)] = some (core2L c k i 0 zero16).toArray := by kernel_rfl
theorem Tryz.info40 : (Tryz.prog.info? 40).map (fun i => (i.zero, i.size, i.bytes)) = some (some (.agg (Array.replicate 16 (.int .u8 0))), 16, 16) := by kernel_rfl
theorem core2L_one (c k : Int) (i g : Nat) (b : List Value) (h : ∀ u ∈ b, u.oneCell' = true) : ∀ u ∈ core2L c k i g b, u.oneCell' = true := by
  intro u hu
  rcases List.mem_append.1 hu with h1 | h1
  · simp only [List.mem_cons, List.not_mem_nil, or_false] at h1
    rcases h1 with rfl | rfl | rfl | rfl <;> rfl
  · exact h u h1
theorem core2L_length (c k : Int) (i g : Nat) (b : List Value) (h : b.length = 16) : (core2L c k i g b).length = 20 := by simp [core2L, h]
theorem ownsRow_keep {w w' : World} {F : Nat → Prop} {base sz n : Nat} {e : TypeId} {v : Value} {xs : List Value} (h : w.ownsRow base e sz v n xs) (hk : Keep F w w') (hf : ∀ j, v.ownBlock = some j → ¬ F j) : w'.ownsRow base e sz v n xs := by
  refine ⟨h.1, ?_⟩
  rcases h.2 with hh | ⟨g, cap3, cur, h3, h4, h5, h6⟩
  · exact .inl hh
  · refine .inr ⟨g, cap3, cur, h3, h4, ?_, h6⟩
    have hg : g < w.heap.size := (Array.getElem?_eq_some_iff.1 h5).1
    exact (hk.block g hg (hf g (by rw [h3]; rfl))).trans h5
/-- What read hands out. -/
def ReadMP (w w' : World) (q : ReqA) (e : Ending) : Prop :=
  ∃ AN cN AD cD, e = .returned (.tuple #[.agg (coreV q).toArray, .slice AN q.names.length cN, .slice AD q.data.length cD]) ∧ Rd w' (fun i => w.heap.size ≤ i) 16 AN q.names.length (bytesV q.names.flatten) ∧ Rd w' (fun i => w.heap.size ≤ i) 1 AD q.data.length (bytesV q.data) ∧ Below w.heap.size w w'

set_option maxHeartbeats 8000000 in
set_option maxRecDepth 200000 in
theorem read_any (S : Nat → Prop) (A : Option Addr) (cap n : Nat) (l : List UInt8) (w : World) (hn : n = l.length) (hr : Rd w S 1 A n (bytesV l)) (hl : n ≤ 1000000) :
    Calls Tryz.prog 30 #[.slice A n cap, .bool true] w fun e w' => ReadMP w w' (readN l) e := by
  have Hn := hide hn
  have Hr := hide hr
  have Hl := hide hl
  obtain ⟨N, hN⟩ : ∃ N, N = w.heap.size := ⟨_, rfl⟩
  have HN := hide hN
  obtain ⟨c, l1, b1, e1⟩ : ∃ c l1 b1, numR (1 : Nat) (l, 0) = (c, (l1, b1)) := ⟨_, _, _, rfl⟩
  obtain ⟨i, l2, b2, e2⟩ : ∃ i l2 b2, numR (8 : Nat) (l1, b1) = (i, (l2, b2)) := ⟨_, _, _, rfl⟩
  obtain ⟨k, l3, b3, e3⟩ : ∃ k l3 b3, numR (1 : Nat) (l2, b2) = (k, (l3, b3)) := ⟨_, _, _, rfl⟩
  obtain ⟨nm, l4, b4, e4⟩ : ∃ nm l4 b4, nameR (l3, b3) = (nm, (l4, b4)) := ⟨_, _, _, rfl⟩
  obtain ⟨g, l5, b5, e5⟩ : ∃ g l5 b5, numR (8 : Nat) (l4, b4) = (g, (l5, b5)) := ⟨_, _, _, rfl⟩
  obtain ⟨z, l6, b6, e6⟩ : ∃ z l6 b6, numR (2 : Nat) (l5, b5) = (z, (l6, b6)) := ⟨_, _, _, rfl⟩
  obtain ⟨ns, l7, b7, e7⟩ : ∃ ns l7 b7, manyN z (l6, b6) = (ns, (l7, b7)) := ⟨_, _, _, rfl⟩
  obtain ⟨dt, l9, b9, e8⟩ : ∃ dt l9 b9, sizedR (l7, b7) = (dt, (l9, b9)) := ⟨_, _, _, rfl⟩
  have Hq := hide (show readN l = ⟨c, i, k, nm, g, ns, dt⟩ by
    have f1 : numR 1 (l, 0) = (c, (l1, b1)) := e1
    have f2 : numR 8 (l1, b1) = (i, (l2, b2)) := e2
    have f3 : numR 1 (l2, b2) = (k, (l3, b3)) := e3
    have f5 : numR 8 (l4, b4) = (g, (l5, b5)) := e5
    have f6 : numR 2 (l5, b5) = (z, (l6, b6)) := e6
    simp only [readN, f1, f2, f3, e4, f5, f6, e7, e8])
  have lc : c < 256 := by have := numR_lt 1 (l, 0) (by decide); rw [e1] at this; simpa using this
  have li : i < 18446744073709551616 := by have := numR_lt 8 (l1, b1) (by decide); rw [e2] at this; simpa using this
  have lk : k < 256 := by have := numR_lt 1 (l2, b2) (by decide); rw [e3] at this; simpa using this
  have lg : g < 18446744073709551616 := by have := numR_lt 8 (l4, b4) (by decide); rw [e5] at this; simpa using this
  have lz : z < 65536 := by have := numR_lt 2 (l5, b5) (by decide); rw [e6] at this; simpa using this
  have Hok6 := hide (show OkB b6 by
    have h1 : OkB b1 := by have := okB_num (s := (l, 0)) (.inl rfl) (1 : Nat); rw [e1] at this; exact this
    have h2 : OkB b2 := by have := okB_num (s := (l1, b1)) h1 (8 : Nat); rw [e2] at this; exact this
    have h3 : OkB b3 := by have := okB_num (s := (l2, b2)) h2 (1 : Nat); rw [e3] at this; exact this
    have h4 : OkB b4 := by have := okB_name (s := (l3, b3)) h3; rw [e4] at this; exact this
    have h5 : OkB b5 := by have := okB_num (s := (l4, b4)) h4 (8 : Nat); rw [e5] at this; exact this
    have := okB_num (s := (l5, b5)) h5 (2 : Nat); rw [e6] at this; exact this)
  have Hnml := hide (show nm.length = 16 by have := nameR_length (l3, b3); rw [e4] at this; exact this)
  have Hz1 := hide (show (1 : Int) = ((1 : Nat) : Int) from rfl)
  have Hz2 := hide (show (2 : Int) = ((2 : Nat) : Int) from rfl)
  have Hz8 := hide (show (8 : Int) = ((8 : Nat) : Int) from rfl)
  have Hy1 := hide (show 1 ≤ 8 by decide)
  have Hy2 := hide (show 2 ≤ 8 by decide)
  have Hy8 := hide (show 8 ≤ 8 by decide)
  have HN1 := hide e1
  have HN2 := hide e2
  have HN3 := hide e3
  have HN4 := hide e4
  have HN5 := hide e5
  have HN6 := hide e6
  have HN7 := hide e7
  have HT9 := hide e8
  have hc0 : (0 : Int) ≤ (c : Int) := Int.natCast_nonneg _
  have hc1 : (c : Int) < 256 := by omega
  have hk0 : (0 : Int) ≤ (k : Int) := Int.natCast_nonneg _
  have hk1 : (k : Int) < 256 := by omega
  obtain ⟨cur2, hcur2⟩ : ∃ cur, cur = core2L c k i 0 zero16 := ⟨_, rfl⟩
  obtain ⟨cur3, hcur3⟩ : ∃ cur, cur = core2L c k i 0 (bytesV nm) := ⟨_, rfl⟩
  obtain ⟨cur4, hcur4⟩ : ∃ cur, cur = core2L c k i g (bytesV nm) := ⟨_, rfl⟩
  have Hbu := hide (show Tryz.prog.built 83 [(0, .int .i64 c), (2, .int .u64 i), (1, .int .i64 k)] = some cur2.toArray by rw [hcur2]; exact built_core3 c k i)
  have h2l : cur2.length = 20 := by rw [hcur2]; exact core2L_length _ _ _ _ _ rfl
  have h3l : cur3.length = 20 := by rw [hcur3]; exact core2L_length _ _ _ _ _ (by rw [bytesV_length, Hnml.out])
  have h4l : cur4.length = 20 := by rw [hcur4]; exact core2L_length _ _ _ _ _ (by rw [bytesV_length, Hnml.out])
  have H2o := hide (show over core0L 0 cur2 = cur2 from over_all _ _ (by rw [h2l]; rfl))
  have H3o := hide (show over cur2 4 (bytesV nm) = cur3 by rw [hcur2, hcur3]; exact over_back [.int .i64 c, .int .i64 k, .int .u64 i, .int .u64 0] zero16 (bytesV nm) (by rw [bytesV_length, Hnml.out]; rfl))
  have H4o := hide (show cur3.set 3 (.int .u64 g) = cur4 by rw [hcur3, hcur4]; rfl)
  have H33 := hide (show cur3[3]? = some (.int .u64 ((0 : Nat) : Int)) by rw [hcur3]; rfl)
  have H2l := hide (show 0 + cur2.length ≤ core0L.length by rw [h2l]; decide)
  have H2s := hide (show (Tryz.prog.info? 83).map (·.size) = some cur2.length by rw [h2l]; kernel_rfl)
  have H21 := hide (show ∀ u ∈ cur2, u.oneCell' = true by rw [hcur2]; exact core2L_one _ _ _ _ _ (by decide))
  have H3l := hide (show 4 + (bytesV nm).length ≤ cur2.length by rw [h2l, bytesV_length, Hnml.out]; decide)
  have H3s := hide (show (Tryz.prog.info? 40).map (·.size) = some (bytesV nm).length by rw [bytesV_length, Hnml.out]; kernel_rfl)
  have Hsz4 := hide (show (Tryz.prog.info? 83).map (·.size) = some cur4.length by rw [h4l]; kernel_rfl)
  have Hsza := hide (show (Tryz.prog.info? 83).map (·.size) = some cur4.toArray.size by rw [List.size_toArray, h4l]; kernel_rfl)
  have Hc41 := hide (show ∀ u ∈ cur4, u.oneCell' = true by rw [hcur4]; exact core2L_one _ _ _ _ _ (bytesV_one _))
  have Hq4 := hide (show ∀ a b, coreV ⟨c, i, k, nm, g, a, b⟩ = cur4 from fun a b => by rw [hcur4]; rfl)
  clear hn hr hl hN e1 e2 e3 e4 e5 e6 e7 e8 hcur2 hcur3 hcur4 h2l h3l h4l
  go_enter Tryz.func30, Tryz.ntmps30
  go_upto_region 1 with (fail)
  rw [← HN.out]
  obtain ⟨W, hW⟩ : ∃ W : World, W = w.alloc (.cells #[.int .i64 0, .int .i64 0, .int .u64 0, .int .u64 0, .int .u8 0, .int .u8 0, .int .u8 0, .int .u8 0, .int .u8 0, .int .u8 0, .int .u8 0, .int .u8 0, .int .u8 0, .int .u8 0, .int .u8 0, .int .u8 0, .int .u8 0, .int .u8 0, .int .u8 0, .int .u8 0] 83) := ⟨_, rfl⟩
  have Hr0 := hide (show W.heap[N]? = some (.cells core0L.toArray 83 (0, 0)) by rw [hW, HN.out]; exact heap_new _ _)
  have HbW := hide (show Below N w W by rw [hW, HN.out]; exact (Below.refl _ _).alloc (Nat.le_refl _) _)
  have HWs := hide (show W.heap.size = N + 1 by rw [hW, HN.out]; simp)
  have HrW := hide (show Rd W S 1 A n (bytesV l) by rw [hW]; exact Hr.out.alloc _)
  rw [← hW]
  clear hW
  go_upto_region 3 with (first
    | (go_at_call 49; ((with_reducible refine (rnew_b l Hn.out HrW.out (by have := Hl.out; omega)).mono ?_)); rintro e w1 ⟨rb, rfl, hrd, hb⟩; obtain ⟨M, hM⟩ : ∃ M, M = w1.heap.size := ⟨_, rfl⟩; have HS1 := hide (show RSt w w1 N M rb (l, 0) core0L from (by obtain ⟨A1, c1, h1⟩ := hrd; have h9 := HWs.out; have h8 := HbW.out; exact ⟨⟨A1, c1, h1.mono (fun j hj hh => ⟨by have : W.heap.size ≤ j := hh; omega, by rw [hM]; exact hj⟩)⟩, (hb.block N (by omega)).trans Hr0.out, h8.trans (hb.mono (by omega)), by rw [hM]; exact Nat.le_refl _⟩)); have HS1r := hide (show RdrIn w1 (fun i => N < i ∧ i < M) rb l 0 from HS1.out.rdr); have HNM := hide (show N < M from (by have := HS1.out.rb; omega)); clear hrd hb hM)
    | (go_at_call 50; ((with_reducible refine (rnum_c 1 l 0 c l1 b1 HS1r.out Hz1.out Hy1.out HN1.out).mono ?_)); rintro e w2 ⟨rfl, hr, hk⟩; have HS2 := hide (HS1.out.step HN.out (s2 := (l1, b1)) hr hk); have HS2r := hide hr; clear hr hk)
    | (go_at_call 50; ((with_reducible refine (rnum_c 8 l1 b1 i l2 b2 HS2r.out Hz8.out Hy8.out HN2.out).mono ?_)); rintro e w3 ⟨rfl, hr, hk⟩; have HS3 := hide (HS2.out.step HN.out (s2 := (l2, b2)) hr hk); have HS3r := hide hr; clear hr hk)
    | (go_at_call 50; ((with_reducible refine (rnum_c 1 l2 b2 k l3 b3 HS3r.out Hz1.out Hy1.out HN3.out).mono ?_)); rintro e w4 ⟨rfl, hr, hk⟩; have HS4 := hide (HS3.out.step HN.out (s2 := (l3, b3)) hr hk); have HS4r := hide hr; clear hr hk)
    | (refine wpList_built rfl 83 _ rfl cur2.toArray [(0, .int .i64 c), (2, .int .u64 i), (1, .int .i64 k)] rfl Hbu.out ?_)
    | (refine wpList_store_over rfl 83 (.tmp 4) (.tmp 19) rfl N 0 core0L cur2 83 HS4.out.core rfl rfl H2l.out H2s.out H21.out ?_; intro w5 hc5 hk5; have HS5 := hide (HS4.out.set HN.out (by rw [hc5.out, H2o.out]) hk5); have HS5r := hide (show RdrIn w5 (fun i => N < i ∧ i < M) rb l3 b3 from HS5.out.rdr); clear hc5 hk5)
    | fail)
  go_upto_region 5 with (first
    | (go_at_call 51; ((with_reducible refine (name_any _ rb l3 b3 _ HS5r.out).mono ?_)); rw [HN4.out]; rintro e w6 ⟨rfl, hr6, hk6⟩; have HS6 := hide (HS5.out.step HN.out (s2 := (l4, b4)) hr6 hk6); clear hr6 hk6)
    | (refine wpList_store_over rfl 40 (.tmp 23) (.tmp 22) rfl N 4 cur2 (bytesV nm) 83 HS6.out.core rfl rfl H3l.out H3s.out (bytesV_one _) ?_; intro w7 hc7 hk7; have HS7 := hide (HS6.out.set HN.out (by rw [hc7.out, H3o.out]) hk7); have HS7r := hide (show RdrIn w7 (fun i => N < i ∧ i < M) rb l4 b4 from HS7.out.rdr); clear hc7 hk7)
    | fail)
  go_upto_block 0 with (first
    | (go_at_call 50; ((with_reducible refine (rnum_c 8 l4 b4 g l5 b5 HS7r.out Hz8.out Hy8.out HN5.out).mono ?_)); rintro e w8 ⟨rfl, hr, hk⟩; have HS8 := hide (HS7.out.step HN.out (s2 := (l5, b5)) hr hk); have HS8r := hide hr; clear hr hk; have c3 : w8.cell? ⟨N, 3, none⟩ = some (.int .u64 ((0 : Nat) : Int)) := (by rw [blk_cell HS8.out.core]; exact H33.out); have f3 : w8.frozen? ⟨N, 3, none⟩ = false := frozen_of_row _ _ _ _ _ HS8.out.core; have HS9 := hide (show RSt w (w8.setCell ⟨N, 3, none⟩ (.int .u64 g)) N M rb (l5, b5) cur4 from HS8.out.set HN.out (by rw [heap_set HS8.out.core, H4o.out]) ((Keep.refl (fun i => i = N) w8).setCell (p := ⟨N, 3, none⟩) (fun _ => rfl) _)); have HS9r := hide (show RdrIn (w8.setCell ⟨N, 3, none⟩ (.int .u64 g)) (fun i => N < i ∧ i < M) rb l5 b5 from HS9.out.rdr))
    | (go_at_call 50; ((with_reducible refine (rnum_c 2 l5 b5 z l6 b6 HS9r.out Hz2.out Hy2.out HN6.out).mono ?_)); rintro e w10 ⟨rfl, hr, hk⟩; have HS10 := hide (HS9.out.step HN.out (s2 := (l6, b6)) hr hk); have HS10r := hide hr; clear hr hk)
    | fail)
  go_wp2_with (fail)
  go_loopw [5, 8] (fun v x wr => ∃ (j : Nat) (s1 : List UInt8) (s2 : Nat) (xs : List (List UInt8)) (m ca : Nat) (Av : Option Addr), x = .int .u64 j ∧ v = .slice Av m ca ∧ m = xs.length ∧ m + j ≤ 65535 ∧ RSt w wr N M rb (s1, s2) cur4 ∧ wr.ownsRow M 40 16 (.slice Av m ca) m (bytesV xs.flatten) ∧ OkB s2 ∧ xs ++ (manyN j (s1, s2)).1 = ns ∧ (manyN j (s1, s2)).2 = (l7, b7)) (fun _ x _ => (intOf x).toNat)
  case atStart => exact ⟨z, l6, b6, [], 0, 0, none, rfl, rfl, rfl, by omega, HS10.out, World.ownsRow_nil _ _ _ _, Hok6.out, by rw [HN7.out]; rfl, by rw [HN7.out]⟩
  case round => as_aux_lemma =>
    obtain ⟨j, s1, s2, xs, m, ca, Av, rfl, rfl, hm, hmj, hst, hown, hok, hx1, hx2⟩ := hrel
    have HSt := hide hst
    have Hown := hide hown
    have Hx1 := hide hx1
    have Hx2 := hide hx2
    have Hok := hide (show s2 = 0 ∨ s2 = 3 ∨ s2 = 10 from hok)
    have Hm := hide hm
    clear hst hown hx1 hx2 hok hm
    by_cases hover : j = 0 ∨ s2 ≠ 0
    · have hmany := manyN_over j (s1, s2) hover
      have h2 := Hx2.out
      rw [hmany] at h2
      obtain ⟨rfl, rfl⟩ : s1 = l7 ∧ s2 = b7 := by simpa using h2
      have h1 := Hx1.out
      rw [hmany, List.append_nil] at h1
      subst h1
      have Hm := Hm
      have hmx := Hm.out
      subst hmx
      clear hmany h2
      by_cases hj : j = 0
      · subst hj
        clear hover
        go_upto_region 10 with (fail)
        obtain ⟨C, hC⟩ : ∃ C : World → Prop, C = fun w' => w'.heap[N]? = some (.cells cur4.toArray 83 (0, 0)) := ⟨_, rfl⟩
        have HCi := hide (show ∀ w', w'.heap[N]? = some (.cells cur4.toArray 83 (0, 0)) → C w' by rw [hC]; exact fun _ h => h)
        have HR := hide (show ∀ w', InC C w' → w'.rangeAt N 0 cur4 from InC.of fun w' h => by rw [hC] at h; exact part_range h (by rw [List.drop_zero, List.take_length]))
        have HSd := hide (HSt.out.far HN.out ((Keep.refl (fun i => M ≤ i) wr).drew) HNM.out)
        have HD0 := hide (HCi.out _ HSd.out.core)
        haveI : Nonempty (Wl C) := ⟨⟨_, HD0.out⟩⟩
        clear hC
        refine wp_region_mix C (by kernel_rfl) (by kernel_rfl) ?_
        refine Mixed.batch [0, 1, 2] 4 (by kernel_rfl) (by kernel_rfl) (by kernel_rfl) (by kernel_rfl) HD0.out _ (by simp only [List.map_cons, List.map_nil, List.getElem?_toArray, List.getElem?_cons_zero, List.getElem?_cons_succ, Option.getD_some]; rfl) (fun R hR => ?_)
        repeat (first | go_big_quiet_skip | (go_big_quiet_want; first
          | (refine quiet_loads 83 (.tmp 4) rfl N 0 rfl cur4 HR.out _ Tryz.underlying83 rfl Hsz4.out ?_; go_simp; go_big_quiet_on)
          | (go_big_quiet_op; go_big_quiet_on)))
        refine wpQuiet_nil (hR.out _ ?_)
        clear hR R
        refine Mixed.one 3 3 (by kernel_rfl) (by kernel_rfl) (by simp only [List.getElem?_toArray, List.getElem?_cons_zero, List.getElem?_cons_succ]; rfl) (fun K hK => ?_)
        go_simp
        go_at_call 53
        obtain ⟨A8, c8, hr8⟩ := HSd.out.rdr
        refine (rsized_any _ rb c8 A8 s1 s2 _ hr8).mono ?_
        rw [HT9.out]
        rintro e w9 ⟨A9, c9, rfl, hown9, hr9, hk9⟩
        have HS9 := hide (HSd.out.step HN.out (s2 := (l9, b9)) hr9 hk9)
        have Ho9 := hide hown9
        have Hk9 := hide hk9
        have HD9 := hide (show C w9 from HCi.out _ HS9.out.core)
        clear hown9 hr9 hk9 hr8
        refine hK.out _ _ (fun _ => HD9.out) ?_
        clear hK K
        try simp only [Act.put, List.setIfInBounds_toArray, List.set_cons_zero, List.set_cons_succ]
        refine Mixed.one 4 2 (by kernel_rfl) (by kernel_rfl) (by simp only [List.getElem?_toArray, List.getElem?_cons_zero, List.getElem?_cons_succ]; rfl) (fun K hK => ?_)
        refine step_store_over rfl 83 (.tmp 4) (.tmp 43) rfl N 0 cur4 cur4 83 HS9.out.core rfl rfl (by rw [Nat.zero_add]; exact Nat.le_refl _) Hsz4.out Hc41.out ?_
        intro w10 hc10 hk10
        have Hc10 := hide (show w10.heap[N]? = some (.cells cur4.toArray 83 (0, 0)) by rw [hc10.out, over_whole])
        have HS10 := hide (HS9.out.set HN.out Hc10.out hk10)
        have Hk10 := hide hk10
        have HD10 := hide (show C w10 from HCi.out _ Hc10.out)
        clear hc10 hk10
        refine hK.out _ _ (fun _ => HD10.out) ?_
        clear hK K
        try simp only [Act.put, List.setIfInBounds_toArray, List.set_cons_zero, List.set_cons_succ]
        refine Mixed.batch [5, 6] 0 (by kernel_rfl) (by kernel_rfl) (by kernel_rfl) (by kernel_rfl) HD10.out _ (by simp only [List.map_cons, List.map_nil, List.getElem?_toArray, List.getElem?_cons_zero, List.getElem?_cons_succ, Option.getD_some]; rfl) (fun R hR => ?_)
        repeat (first | go_big_quiet_skip | (go_big_quiet_want; first
          | (go_big_quiet_op; go_big_quiet_on)))
        refine wpQuiet_nil (hR.out _ ?_)
        clear hR R
        refine Mixed.done (by kernel_rfl) ?_
        go_wp2_with (fail)
        refine bodyPost_ret (results_row_tmp2 rfl _ _ N rfl Hc10.out Tryz.underlying83 rfl Hsza.out) rfl ?_
        rw [Hq.out]
        show ReadMP w w10 _ (.returned (.tuple #[.agg cur4.toArray, .slice Av xs.length ca, .slice A9 dt.length c9]))
        rw [← Hq4.out xs dt]
        have hMs := HS10.out.big
        have hb := HS10.out.bel
        have hrbM := HS10.out.rb
        have hNe := HN.out
        have hsz := HSt.out.big
        refine ⟨Av, ca, A9, c9, rfl, ?_, ?_, by rw [← hNe]; exact hb⟩
        · have h1 := own_rd Hown.out
          have h2 := (h1.keep (Keep.drew (Keep.refl (fun _ => False) wr)) (fun _ _ _ f => f)).keep Hk9.out (fun i hi _ e => by have : i = rb := e; omega)
          have h3 := h2.keep Hk10.out (fun i hi _ e => by have := HNM.out; have : i = N := e; omega)
          exact h3.mono (fun i _ hi => by have := HNM.out; have : M ≤ i := hi; omega)
        · have h1 := own_rd Ho9.out
          have h3 := h1.keep Hk10.out (fun i hi _ e => by have := HNM.out; have : i = N := e; have h5 : wr.drew.heap.size = wr.heap.size := rfl; omega)
          exact h3.mono (fun i _ hi => by have := HNM.out; have h5 : wr.drew.heap.size = wr.heap.size := rfl; omega)
      · have hb0 : s2 ≠ 0 := by rcases hover with h | h; · exact absurd h hj
                                · exact h
        obtain ⟨A7, c7, hr7⟩ := HSt.out.rdr
        have HR7 := hide hr7
        have hnp : (0 : Int) < (j : Int) := by omega
        have hbz : ((s2 : Int) == 0) = false := by rw [beq_eq_false_iff_ne]; omega
        clear hr7 hover
        go_upto_region 10 with (first
          | (go_at_call 52; ((with_reducible refine (rwrong_any _ rb c7 A7 s1 s2 _ HR7.out Hok.out).mono ?_)); rintro e w8 ⟨rfl, hw8⟩; obtain rfl : wr = w8 := hw8.symm)
          | fail)
        obtain ⟨C, hC⟩ : ∃ C : World → Prop, C = fun w' => w'.heap[N]? = some (.cells cur4.toArray 83 (0, 0)) := ⟨_, rfl⟩
        have HCi := hide (show ∀ w', w'.heap[N]? = some (.cells cur4.toArray 83 (0, 0)) → C w' by rw [hC]; exact fun _ h => h)
        have HR := hide (show ∀ w', InC C w' → w'.rangeAt N 0 cur4 from InC.of fun w' h => by rw [hC] at h; exact part_range h (by rw [List.drop_zero, List.take_length]))
        have HSd := hide (HSt.out.far HN.out ((Keep.refl (fun i => M ≤ i) wr).drew) HNM.out)
        have HD0 := hide (HCi.out _ HSd.out.core)
        haveI : Nonempty (Wl C) := ⟨⟨_, HD0.out⟩⟩
        clear hC
        refine wp_region_mix C (by kernel_rfl) (by kernel_rfl) ?_
        refine Mixed.batch [0, 1, 2] 4 (by kernel_rfl) (by kernel_rfl) (by kernel_rfl) (by kernel_rfl) HD0.out _ (by simp only [List.map_cons, List.map_nil, List.getElem?_toArray, List.getElem?_cons_zero, List.getElem?_cons_succ, Option.getD_some]; rfl) (fun R hR => ?_)
        repeat (first | go_big_quiet_skip | (go_big_quiet_want; first
          | (refine quiet_loads 83 (.tmp 4) rfl N 0 rfl cur4 HR.out _ Tryz.underlying83 rfl Hsz4.out ?_; go_simp; go_big_quiet_on)
          | (go_big_quiet_op; go_big_quiet_on)))
        refine wpQuiet_nil (hR.out _ ?_)
        clear hR R
        refine Mixed.one 3 3 (by kernel_rfl) (by kernel_rfl) (by simp only [List.getElem?_toArray, List.getElem?_cons_zero, List.getElem?_cons_succ]; rfl) (fun K hK => ?_)
        go_simp
        go_at_call 53
        obtain ⟨A8, c8, hr8⟩ := HSd.out.rdr
        refine (rsized_any _ rb c8 A8 s1 s2 _ hr8).mono ?_
        rw [HT9.out]
        rintro e w9 ⟨A9, c9, rfl, hown9, hr9, hk9⟩
        have HS9 := hide (HSd.out.step HN.out (s2 := (l9, b9)) hr9 hk9)
        have Ho9 := hide hown9
        have Hk9 := hide hk9
        have HD9 := hide (show C w9 from HCi.out _ HS9.out.core)
        clear hown9 hr9 hk9 hr8
        refine hK.out _ _ (fun _ => HD9.out) ?_
        clear hK K
        try simp only [Act.put, List.setIfInBounds_toArray, List.set_cons_zero, List.set_cons_succ]
        refine Mixed.one 4 2 (by kernel_rfl) (by kernel_rfl) (by simp only [List.getElem?_toArray, List.getElem?_cons_zero, List.getElem?_cons_succ]; rfl) (fun K hK => ?_)
        refine step_store_over rfl 83 (.tmp 4) (.tmp 43) rfl N 0 cur4 cur4 83 HS9.out.core rfl rfl (by rw [Nat.zero_add]; exact Nat.le_refl _) Hsz4.out Hc41.out ?_
        intro w10 hc10 hk10
        have Hc10 := hide (show w10.heap[N]? = some (.cells cur4.toArray 83 (0, 0)) by rw [hc10.out, over_whole])
        have HS10 := hide (HS9.out.set HN.out Hc10.out hk10)
        have Hk10 := hide hk10
        have HD10 := hide (show C w10 from HCi.out _ Hc10.out)
        clear hc10 hk10
        refine hK.out _ _ (fun _ => HD10.out) ?_
        clear hK K
        try simp only [Act.put, List.setIfInBounds_toArray, List.set_cons_zero, List.set_cons_succ]
        refine Mixed.batch [5, 6] 0 (by kernel_rfl) (by kernel_rfl) (by kernel_rfl) (by kernel_rfl) HD10.out _ (by simp only [List.map_cons, List.map_nil, List.getElem?_toArray, List.getElem?_cons_zero, List.getElem?_cons_succ, Option.getD_some]; rfl) (fun R hR => ?_)
        repeat (first | go_big_quiet_skip | (go_big_quiet_want; first
          | (go_big_quiet_op; go_big_quiet_on)))
        refine wpQuiet_nil (hR.out _ ?_)
        clear hR R
        refine Mixed.done (by kernel_rfl) ?_
        go_wp2_with (fail)
        refine bodyPost_ret (results_row_tmp2 rfl _ _ N rfl Hc10.out Tryz.underlying83 rfl Hsza.out) rfl ?_
        rw [Hq.out]
        show ReadMP w w10 _ (.returned (.tuple #[.agg cur4.toArray, .slice Av xs.length ca, .slice A9 dt.length c9]))
        rw [← Hq4.out xs dt]
        have hMs := HS10.out.big
        have hb := HS10.out.bel
        have hrbM := HS10.out.rb
        have hNe := HN.out
        have hsz := HSt.out.big
        refine ⟨Av, ca, A9, c9, rfl, ?_, ?_, by rw [← hNe]; exact hb⟩
        · have h1 := own_rd Hown.out
          have h2 := (h1.keep (Keep.drew (Keep.refl (fun _ => False) wr)) (fun _ _ _ f => f)).keep Hk9.out (fun i hi _ e => by have : i = rb := e; omega)
          have h3 := h2.keep Hk10.out (fun i hi _ e => by have := HNM.out; have : i = N := e; omega)
          exact h3.mono (fun i _ hi => by have := HNM.out; have : M ≤ i := hi; omega)
        · have h1 := own_rd Ho9.out
          have h3 := h1.keep Hk10.out (fun i hi _ e => by have := HNM.out; have : i = N := e; have h5 : wr.drew.heap.size = wr.heap.size := rfl; omega)
          exact h3.mono (fun i _ hi => by have := HNM.out; have h5 : wr.drew.heap.size = wr.heap.size := rfl; omega)
    · obtain ⟨t, rfl⟩ : ∃ t, j = t + 1 := ⟨j - 1, by omega⟩
      obtain rfl : s2 = 0 := by omega
      obtain ⟨x, s4, s5, ex⟩ : ∃ x s4 s5, nameR (s1, 0) = (x, (s4, s5)) := ⟨_, _, _, rfl⟩
      have Hex := hide ex
      have hxl : x.length = 16 := by have := nameR_length (s1, 0); rw [ex] at this; exact this
      have Hxl := hide hxl
      have Hok5 := hide (show OkB s5 by have := okB_name (s := (s1, 0)) (.inl rfl); rw [ex] at this; exact this)
      have hms := manyN_step t (s1, 0) rfl
      rw [ex] at hms
      have h1 := Hx1.out
      have h2 := Hx2.out
      rw [hms] at h1 h2
      have Hj1 := hide h1
      have Hj2 := hide h2
      have HokW := hide (show 0 = 0 ∨ 0 = 3 ∨ 0 = 10 from .inl rfl)
      obtain ⟨A7, c7, hr7⟩ := HSt.out.rdr
      have HR7 := hide hr7
      have HStr := hide (show RdrIn wr (fun i => N < i ∧ i < M) rb s1 0 from HSt.out.rdr)
      have hnp : (0 : Int) < (t : Int) + 1 := by omega
      have hbu := build_eq (bytesV x) 16 (by rw [bytesV_length, hxl])
      have Hbl := hide (show (bytesV x).length = 1 * 16 by rw [bytesV_length, hxl])
      have Ls1 := hide (show m + 1 ≤ maxLen by unfold maxLen; omega)
      have Ls2 := hide (show (m + 1) * 16 ≤ 140737488355328 by omega)
      have hbl2 : (bytesV x).length = 16 := by rw [bytesV_length, hxl]
      clear hms h1 h2 ex hr7 hover
      go_wp2_with (first
        | (go_at_call 52; ((with_reducible refine (rwrong_any _ rb c7 A7 s1 0 _ HR7.out HokW.out).mono ?_)); rintro e w8 ⟨rfl, hw8⟩; obtain rfl : wr = w8 := hw8.symm)
        | (go_at_call 51; go_loud ((with_reducible refine (name_any _ rb s1 0 _ HStr.out).mono ?_)); go_loud (rw [Hex.out]); rintro e w6 ⟨rfl, hr6, hk6⟩; have HS6 := hide (HSt.out.step HN.out (s2 := (s4, s5)) hr6 hk6); have Ho6 := hide (ownsRow_keep Hown.out hk6 (fun j hj e => by have h8 := (Hown.out.lt j hj).1; have h9 := HSt.out.rb; have : j = rb := e; omega)); clear hr6 hk6)
        | (at_builtin; refine wpList_append_rd _ rfl (.tmp 38) (.tmp 41) 41 41 rfl M 40 40 _ 16 16 Tryz.underlying41 Tryz.underlying41 Tryz.info40 rfl (by decide) (.slice Av m ca) m (bytesV xs.flatten) rfl (own_below Ho6.out ((Below.refl _ _).alloc (Nat.le_refl _) _)) _ _ 1 1 (bytesV x) rfl (Rd.new_at _ _ _ _ rfl Hbl.out) (bytesV_one _) Ls1.out Ls2.out (Nat.le_trans HS6.out.big (by simp)) ?_; intro A14 cap14 w14 hown14 hgrow14 hat14; have Ho14 := hide hown14; have Hg14 := hide hgrow14; clear hown14 hgrow14 hat14)
        | fail)
      have hK : Keep (fun i => M ≤ i) w6 w14 := ((Keep.refl _ w6).alloc _).grown Hg14.out (fun k hk _ => (Ho6.out.lt k hk).1)
      refine ⟨⟨t, s4, s5, xs ++ [x], m + 1, cap14, A14, rfl, rfl, by rw [List.length_append, ← Hm.out]; rfl, by omega, HS6.out.far HN.out hK HNM.out, ?_, Hok5.out, ?_, Hj2.out⟩, ?_⟩
      · rw [List.flatten_append, List.flatten_singleton, bytesV_append]; exact Ho14.out
      · rw [List.append_assoc]; exact Hj1.out
      · simp [intOf]
end Go.Proofs.YtahhglhebcooaaaGreatDoor
