/- msg: a request, its core. -/
import Derived.Test.YtahhglhebcooaaaGreatDoorFr5
namespace Go.Proofs.YtahhglhebcooaaaGreatDoor
open Go.RowKit Go.Cof Go.Tol

theorem wpList_built {P : Program} {ops : Array Oper} {rest : List Oper} {o : Oper} {a : Act} {w : World} {Q : Exit → Act → World → Prop} (hgd : o.guard = none) (t : TypeId) (parts : Array (Nat × Operand)) (ho : o.op = .build t parts) (cells : Array Value)
    (ps : List (Nat × Value)) (hps : (parts.toList.map fun x => (x.1, a.eval x.2)) = ps) (hf0 : P.built t ps = some cells) (h : wpList P ops Q rest (a.put o.dst (.agg cells)) w) : wpList P ops Q (o :: rest) a w := by
  have hf : P.built t (parts.map fun (i, x) => (i, a.eval x)).toList = some cells := by rw [Array.toList_map, ← hf0, ← hps]
  refine wpList_plain hgd fun _ hK => ?_
  unfold Oper.wp execOp
  simp only [ho, Sem.run_bind, run_build w t _ cells hf, Result.andThen_ok]
  exact hK _ _ h

/-- A request. -/
structure ReqA where
  client : Int
  id : Nat
  kind : Int
  name : List UInt8
  gen : Nat
  names : List (List UInt8)
  data : List UInt8
def reqV (q : ReqA) (AN : Option Addr) (cN : Nat) (AD : Option Addr) (cD : Nat) : List Value :=
  [.int .i64 q.client, .int .u64 q.id, .int .i64 q.kind] ++ bytesV q.name ++ [.int .u64 q.gen, .slice AN q.names.length cN, .slice AD q.data.length cD]
def coreV (q : ReqA) : List Value := [.int .i64 q.client, .int .i64 q.kind, .int .u64 q.id, .int .u64 q.gen] ++ bytesV q.name
theorem list16 (l : List UInt8) (h : l.length = 16) : ∃ b0 b1 b2 b3 b4 b5 b6 b7 b8 b9 b10 b11 b12 b13 b14 b15, l = [b0, b1, b2, b3, b4, b5, b6, b7, b8, b9, b10, b11, b12, b13, b14, b15] := by
  match l, h with
  | [b0, b1, b2, b3, b4, b5, b6, b7, b8, b9, b10, b11, b12, b13, b14, b15], _ => exact ⟨b0, b1, b2, b3, b4, b5, b6, b7, b8, b9, b10, b11, b12, b13, b14, b15, rfl⟩
theorem reqV_length (q : ReqA) (AN AD : Option Addr) (cN cD : Nat) (hn : q.name.length = 16) : (reqV q AN cN AD cD).length = 22 := by simp [reqV, bytesV, hn]
theorem coreV_length (q : ReqA) (hn : q.name.length = 16) : (coreV q).length = 20 := by simp [coreV, bytesV, hn]
theorem bytes_one' (l : List UInt8) : ∀ u ∈ bytesV l, u.oneCell' = true := bytesV_one l
theorem coreV_one (q : ReqA) : ∀ u ∈ coreV q, u.oneCell' = true := by
  intro u hu
  rcases List.mem_append.1 hu with h | h
  · simp only [List.mem_cons, List.not_mem_nil, or_false] at h
    rcases h with rfl | rfl | rfl | rfl <;> rfl
  · exact bytesV_one _ u h
theorem reqV_name (q : ReqA) (AN AD : Option Addr) (cN cD : Nat) (hn : q.name.length = 16) : ((reqV q AN cN AD cD).drop 3).take 16 = bytesV q.name := by
  rw [reqV, List.append_assoc, List.drop_left' (by rfl), List.take_left' (by rw [bytesV_length, hn])]
theorem reqV_tail (q : ReqA) (AN AD : Option Addr) (cN cD : Nat) (hn : q.name.length = 16) : (reqV q AN cN AD cD)[19]? = some (.int .u64 q.gen) ∧ (reqV q AN cN AD cD)[20]? = some (.slice AN q.names.length cN) ∧ (reqV q AN cN AD cD)[21]? = some (.slice AD q.data.length cD) := by
  have hl : ([Value.int .i64 q.client, .int .u64 q.id, .int .i64 q.kind] ++ bytesV q.name).length = 19 := by simp [bytesV, hn]
  refine ⟨?_, ?_, ?_⟩ <;> (rw [reqV, List.getElem?_append_right (by omega), hl]; rfl)
theorem coreV_name (q : ReqA) (hn : q.name.length = 16) : ((coreV q).drop 4).take 16 = bytesV q.name := by
  rw [coreV, List.drop_left' (by rfl), List.take_of_length_le (by rw [bytesV_length, hn]; exact Nat.le_refl _)]
theorem built_core (c k : Int) (i g : Nat) (nm : List UInt8) (hn : nm.length = 16) :
    Tryz.prog.built 83 [(0, .int .i64 c), (1, .int .i64 k), (2, .int .u64 i), (3, .int .u64 g), (4, .agg (bytesV nm).toArray)] = some ([.int .i64 c, .int .i64 k, .int .u64 i, .int .u64 g] ++ bytesV nm : List Value).toArray := by
  obtain ⟨b0, b1, b2, b3, b4, b5, b6, b7, b8, b9, b10, b11, b12, b13, b14, b15, rfl⟩ := list16 nm hn
  kernel_rfl
def core0L : List Value := [.int .i64 0, .int .i64 0, .int .u64 0, .int .u64 0, .int .u8 0, .int .u8 0, .int .u8 0, .int .u8 0, .int .u8 0, .int .u8 0, .int .u8 0, .int .u8 0, .int .u8 0, .int .u8 0, .int .u8 0, .int .u8 0, .int .u8 0, .int .u8 0, .int .u8 0, .int .u8 0]

set_option maxHeartbeats 4000000 in
set_option maxRecDepth 100000 in
theorem core_any (q : ReqA) (AN AD : Option Addr) (cN cD : Nat) (w : World) (hn : q.name.length = 16) :
    Calls Tryz.prog 24 #[.agg (reqV q AN cN AD cD).toArray] w fun e w' => e = .returned (.agg (coreV q).toArray) ∧ Below w.heap.size w w' := by
  obtain ⟨N, hN⟩ : ∃ N, N = w.heap.size := ⟨_, rfl⟩
  have HN := hide hN
  obtain ⟨X, hX⟩ : ∃ X, X = reqV q AN cN AD cD := ⟨_, rfl⟩
  obtain ⟨Y, hY⟩ : ∃ Y, Y = coreV q := ⟨_, rfl⟩
  obtain ⟨nv, hnv⟩ : ∃ nv, nv = bytesV q.name := ⟨_, rfl⟩
  obtain ⟨h19, _, _⟩ := reqV_tail q AN AD cN cD hn
  have hnm := reqV_name q AN AD cN cD hn
  have x0 : X[0]? = some (.int .i64 q.client) := by rw [hX]; rfl
  have x1 : X[1]? = some (.int .u64 q.id) := by rw [hX]; rfl
  have x2 : X[2]? = some (.int .i64 q.kind) := by rw [hX]; rfl
  have hb := built_core q.client q.kind q.id q.gen q.name hn
  have hYe : ([.int .i64 q.client, .int .i64 q.kind, .int .u64 q.id, .int .u64 q.gen] ++ bytesV q.name : List Value) = Y := by rw [hY]; rfl
  rw [hYe, ← hnv] at hb
  have hYl : Y.length = 20 := by rw [hY]; exact coreV_length q hn
  have hY1 : ∀ u ∈ Y, u.oneCell' = true := by rw [hY]; exact coreV_one q
  have hnl : nv.length = 16 := by rw [hnv, bytesV_length, hn]
  rw [← hX] at h19 hnm ⊢
  rw [← hnv] at hnm
  rw [← hY]
  have Hx := hide (show X[0]? = some (.int .i64 q.client) ∧ X[1]? = some (.int .u64 q.id) ∧ X[2]? = some (.int .i64 q.kind) ∧ X[19]? = some (.int .u64 q.gen) from ⟨x0, x1, x2, h19⟩)
  have Hnm := hide hnm
  have Hb := hide hb
  have Hi := hide (show (Tryz.prog.info? 83).map (·.size) = some Y.length by rw [hYl]; kernel_rfl)
  have Hia := hide (show (Tryz.prog.info? 83).map (·.size) = some Y.toArray.size by rw [List.size_toArray, hYl]; kernel_rfl)
  have Hin := hide (show (Tryz.prog.info? 40).map (·.size) = some nv.length by rw [hnl]; kernel_rfl)
  have HYl := hide (show Y.length = core0L.length by rw [hYl]; rfl)
  have Hnl := hide hnl
  have HY1 := hide hY1
  clear hN hX hY hnv h19 hnm x0 x1 x2 hb hYe hYl hY1 hnl
  go_enter Tryz.func24, Tryz.ntmps24
  go_upto_region 1 with (fail)
  rw [← HN.out]
  obtain ⟨W, hW⟩ : ∃ W : World, W = (w.alloc (.cells X.toArray 43)).alloc (.cells #[.int .i64 0, .int .i64 0, .int .u64 0, .int .u64 0, .int .u8 0, .int .u8 0, .int .u8 0, .int .u8 0, .int .u8 0, .int .u8 0, .int .u8 0, .int .u8 0, .int .u8 0, .int .u8 0, .int .u8 0, .int .u8 0, .int .u8 0, .int .u8 0, .int .u8 0, .int .u8 0] 83) := ⟨_, rfl⟩
  have hbW : Below w.heap.size w W := by rw [hW]; exact ((Below.refl _ _).alloc (Nat.le_refl _) _).alloc (by simp) _
  have hr0 : W.heap[N]? = some (.cells X.toArray 43 (0, 0)) := by rw [hW, HN.out]; exact heap_old (heap_new _ _) _
  have hr1 : W.heap[N + 1]? = some (.cells core0L.toArray 83 (0, 0)) := by rw [hW, HN.out]; exact heap_alloc2_new _ _ _
  have c0 : W.cell? ⟨N, 0, none⟩ = some (.int .i64 q.client) := by rw [blk_cell hr0]; exact Hx.out.1
  have c1 : W.cell? ⟨N, 1, none⟩ = some (.int .u64 q.id) := by rw [blk_cell hr0]; exact Hx.out.2.1
  have c2 : W.cell? ⟨N, 2, none⟩ = some (.int .i64 q.kind) := by rw [blk_cell hr0]; exact Hx.out.2.2.1
  have c19 : W.cell? ⟨N, 19, none⟩ = some (.int .u64 q.gen) := by rw [blk_cell hr0]; exact Hx.out.2.2.2
  have Hrn := hide (show W.rangeAt N 3 nv from part_range hr0 (by rw [Hnl.out]; exact Hnm.out))
  have HbW := hide hbW
  have Hr1 := hide hr1
  rw [← hW]
  clear hW hbW hr0 hr1
  go_wp2_with (first
    | (refine wpList_load_mid rfl 40 (.tmp 11) rfl N 3 rfl nv _ Hrn.out Tryz.underlying40 rfl Hin.out ?_)
    | (refine wpList_built rfl 83 _ rfl Y.toArray [(0, .int .i64 q.client), (1, .int .i64 q.kind), (2, .int .u64 q.id), (3, .int .u64 q.gen), (4, .agg nv.toArray)] rfl Hb.out ?_)
    | (refine wpList_store_all rfl 83 (.tmp 2) (.tmp 13) rfl (N + 1) core0L Y 83 Hr1.out rfl rfl HYl.out Hi.out HY1.out ?_)
    | fail)
  refine bodyPost_ret (results_cell_row rfl _ _ (N + 1) _ _ _ _ rfl (setRow_heap _ _ _ _ _ _ Hr1.out) Tryz.underlying83 rfl Hia.out) rfl ?_
  exact ⟨rfl, below_setRow HbW.out (by have := HN.out; omega) _⟩
end Go.Proofs.YtahhglhebcooaaaGreatDoor
