/- append of made zeros onto a row of bytes of one's own. -/
import Derived.Test.YtimfmbcihopaaaaGreatDoorMapZ
import Derived.Lib.AppendZerosOnto
namespace Go.Proofs.YtimfmbcihopaaaaGreatDoor
open Go.RowKit Go.Cof

theorem zeroCells_u8 (k : Nat) : Builtin.zeroCells (Value.int .u8 0).cells k = (List.replicate k (Value.int .u8 0)).toArray := by
  apply Array.ext
  · simp [Builtin.zeroCells, Value.cells]
  · intro i h1 h2
    simp [Builtin.zeroCells, Value.cells, Nat.mod_one]

theorem run_append_zeros_b (w : World) (ty : TypeId) (B g cap n k : Nat) (xs : List Value) (hown : w.ownsRow B 5 1 (.slice (some ⟨g, 0, none⟩) n cap) n xs) (h0 : 0 < k) (hl : n + k ≤ 1073741824) (hB : B ≤ w.heap.size) :
    ∃ A' cap' w', (Builtin.append_ #[27, 3] ty #[.slice (some ⟨g, 0, none⟩) n cap, .int .i64 k]).run Tryz.prog w = .ok (.slice A' (n + k) cap') w' ∧ w'.ownsRow B 5 1 (.slice A' (n + k) cap') (n + k) (xs ++ List.replicate k (.int .u8 0)) ∧ w.grownBy w' (some g) := by
  obtain ⟨i, hi, hz, hs, hb⟩ := info_parts Tryz.infoU8
  obtain ⟨hbg, hg, cur, hcur, hnc, hcm, hcs, htake⟩ := own_at hown
  have hxl : xs.length = n := by have := hown.1; omega
  have hlen : (xs ++ List.replicate k (Value.int .u8 0)).length = (n + k) * 1 := by rw [List.length_append, List.length_replicate, hxl]; omega
  by_cases hroom : n + k ≤ cap
  · have hfit : n + 0 + (List.replicate k (Value.int .u8 0)).length ≤ cur.size := by rw [List.length_replicate]; omega
    have hst := run_storeCells_at Tryz.prog g n 5 (List.replicate k (Value.int .u8 0)) 0 cur w hcur hfit (by simp [Value.oneCell'])
    have hw : IntKind.i64.wrap (k : Int) = k := by rw [IntKind.wrap_i64]; omega
    have hk : k ≠ 0 := by omega
    have h48i : ¬ (281474976710656 < (k : Int) * (i.bytes : Int)) := by rw [hb]; omega
    have hneg : ¬ ((k : Int) < 0) := by omega
    have hns : ¬ (k * i.size = 0) := by rw [hs]; omega
    refine ⟨_, _, w.setRow g (cur.toList.take (n + 0) ++ List.replicate k (Value.int .u8 0) ++ cur.toList.drop (n + 0 + (List.replicate k (Value.int .u8 0)).length)).toArray, ?_, ⟨hlen, .inr ⟨g, cap, _, rfl, hbg, setRow_heap w g cur _ 5 _ hcur, hroom, hcm, ?_, ?_⟩⟩, ⟨rfl, rfl, rfl, by simp [World.setRow], fun j _ hj => setRow_other w g j _ (fun e => hj (by rw [e]))⟩⟩
    · have hzc := zeroCells_u8 k
      simp [Builtin.append_, run_underlying Tryz.underlying27, run_underlying Tryz.underlying3, sizeOf, typeInfo, zeroValue, hi, hz, hs, hb, asInt, asIntOf, hw, hk, hneg, hroom, Addr.add_lit] at hst ⊢
      rw [if_neg (by omega)]
      simp [hzc, hst]
    · simp only [List.size_toArray, List.length_append, List.length_take, List.length_drop, Array.length_toList, List.length_replicate]
      omega
    · rw [Nat.add_zero, show cur.toList.take n = xs by rw [← htake], ← hlen]
      exact List.take_left
  · have holds : ∀ j u, xs[j]? = some u → w.drew.cell? ((⟨g, 0, none⟩ : Addr).add j) = some u := hown.cells (g := g) rfl
    have hold := run_firstCells_some (P := Tryz.prog) w.drew i.size n ⟨g, 0, none⟩ n cap xs (by rw [hs]; omega) holds
    have hge := grownCap_ge w (n + k) cap 5
    have hcm2 : grownCap w (n + k) cap 5 ≤ maxLen := grownCap_le_maxLen w (n + k) cap 5 (by unfold maxLen; omega)
    have hr := Lib.run_append_grow_zeros (P := Tryz.prog) w 27 3 ty 5 i (.int .u8 0) .i64 .i64 Tryz.underlying27 Tryz.underlying3 hi hz (some ⟨g, 0, none⟩) n cap xs hold k h0 (by rw [hs]; decide) (by omega) (by omega) (by rw [hb]; omega) (growslice_fits (by omega) (by rw [hb]; omega))
    refine ⟨_, _, _, hr, ⟨hlen, .inr ⟨w.heap.size, _, _, rfl, hB, heap_alloc_new w.drew _, hge, hcm2, ?_, ?_⟩⟩, ⟨rfl, rfl, rfl, by simp, fun j hj _ => Below.heap_alloc w.drew _ j hj⟩⟩
    · simp only [Array.size_append, List.size_toArray, size_zeroCells, hxl]
      simp [Value.cells]
      omega
    · rw [zeroCells_u8]
      simp only [Array.toList_append, List.append_assoc]
      rw [← List.append_assoc, ← hlen]
      exact List.take_left

section
variable {ops : Array Oper} {o : Oper} {a : Act} {w w1 : World} {K : Act → World → Prop} {Q : Exit → Act → World → Prop} {rest : List Oper}
theorem wpList_append_z (hgd : o.guard = none) (s x : Operand) (ho : o.op = .call { callee := .builtin .append, args := #[s, x], argTypes := #[27, 3] })
    (B : Nat) (acc r : List UInt8) (k : Nat) (he : r = acc ++ List.replicate k 0) {A : Option Addr} {n cap : Nat} (hn : acc.length = n) (hs : a.eval s = .slice A n cap) (hown : w.ownsRow B 5 1 (.slice A acc.length cap) acc.length (bytesV acc)) (hb : Below B w1 w) (hB : B ≤ w1.heap.size)
    {z : Int} (hz : z = k) (hx : a.eval x = .int .i64 z) (h0 : 0 < acc.length ∧ 0 < k) (hl : acc.length + k ≤ 1073741824)
    (h : ∀ A' cap' w', w'.ownsRow B 5 1 (.slice A' r.length cap') r.length (bytesV r) → Below B w1 w' → wpList Tryz.prog ops Q rest (a.put o.dst (.slice A' r.length cap')) w') : wpList Tryz.prog ops Q (o :: rest) a w := by
  subst he hn hz
  obtain ⟨g, rfl⟩ : ∃ g, A = some ⟨g, 0, none⟩ := by
    rcases hown.2 with ⟨_, h2⟩ | ⟨g3, _, _, hv, _⟩
    · omega
    · simp only [Value.slice.injEq] at hv
      exact ⟨g3, hv.1⟩
  obtain ⟨A', cap', w', hr, h2, h3⟩ := run_append_zeros_b w o.type B g cap acc.length k (bytesV acc) hown h0.2 hl (Nat.le_trans hB hb.size)
  refine wpList_plain hgd fun K hK => ?_
  unfold Oper.wp execOp
  simp only [ho, resolve, invoke, builtin, Sem.run_bind, Sem.run_pure, Result.andThen_ok, List.map_toArray, List.map_cons, List.map_nil, hs, hx, hr]
  have e1 : (acc ++ List.replicate k 0).length = acc.length + k := by simp
  have e2 : bytesV (acc ++ List.replicate k 0) = bytesV acc ++ List.replicate k (.int .u8 0) := by simp [bytesV]
  rw [e1, e2] at h
  exact hK _ _ (h A' cap' w' h2 (hb.grown h3 (Nat.le_trans hB hb.size) (fun j hj => by simp at hj; have := (own_at hown).1; omega)))
end
end Go.Proofs.YtimfmbcihopaaaaGreatDoor
