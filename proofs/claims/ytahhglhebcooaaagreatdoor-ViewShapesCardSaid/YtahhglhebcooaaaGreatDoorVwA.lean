/- A map that is keyed by an object's name. -/
import Derived.Test.YtahhglhebcooaaaGreatDoorVw9
import Derived.Maps.Own
import Derived.DeepKeys3
namespace Go.Proofs.YtahhglhebcooaaaGreatDoor
open Go.RowKit Go.Cof Go.Tol

theorem id_law : Maps.Keyed Tryz.prog 60 := Maps.Keyed.of_law (deep_law (m := 2) (by decide) (by kernel_rfl) (by kernel_rfl) (by kernel_rfl))
theorem mapM_some {α β : Type} (f : α → Option β) : ∀ l : List α, (∀ x ∈ l, ∃ y, f x = some y) → ∃ ys, l.mapM f = some ys
  | [], _ => ⟨[], rfl⟩
  | x :: l, h => by
    obtain ⟨y, hy⟩ := h x (List.mem_cons_self ..)
    obtain ⟨ys, hys⟩ := mapM_some f l (fun z hz => h z (List.mem_cons_of_mem _ hz))
    exact ⟨y :: ys, by simp [hy, hys]⟩
theorem u8_lits (d : Nat) (c : UInt8) : ∃ ls, Tryz.prog.keyLits (d + 1) 5 [.int .u8 (c.toNat : Int)] = some ls := by
  have hw : (Lit.int .u8 (c.toNat : Int)).wf = true := by
    have := c.toNat_lt
    have h1 : IntKind.u8.min = 0 := rfl
    have h2 : IntKind.u8.max = 255 := rfl
    simp [Lit.wf, h1, h2]
    omega
  refine ⟨[.int .u8 (c.toNat : Int)], ?_⟩
  unfold Program.keyLits
  rw [Tryz.underlying5]
  simp only
  rw [if_pos ⟨trivial, hw⟩]
theorem id_key (l : List UInt8) (h : l.length = 32) : ∃ kl, keyOf Tryz.prog 60 (.agg (bytesV l).toArray) = some kl := by
  have hc : Tryz.prog.cellsOf 60 = 32 := by kernel_rfl
  have hc1 : Tryz.prog.cellsOf 5 = 1 := by kernel_rfl
  have hk : Tryz.prog.keyType 60 = true := by kernel_rfl
  have hf : (Value.agg (bytesV l).toArray).formed Tryz.prog 60 = true := by
    simp only [Value.formed]
    rw [Tryz.underlying60]
    simp [hc, h]
  obtain ⟨ys, hys⟩ : ∃ ys, (List.range 32).mapM (fun i => Tryz.prog.keyLits Tryz.prog.types.size 5 (((bytesV l).drop (i * Tryz.prog.cellsOf 5)).take (Tryz.prog.cellsOf 5))) = some ys := by
    refine mapM_some _ _ (fun i hi => ?_)
    have hi2 : i < l.length := by rw [h]; exact List.mem_range.1 hi
    rw [hc1, Nat.mul_one]
    have e : ((bytesV l).drop i).take 1 = [.int .u8 (l[i].toNat : Int)] := by
      rw [bytesV, ← List.map_drop, List.drop_eq_getElem_cons hi2]; rfl
    rw [e]
    obtain ⟨d, hd⟩ : ∃ d, Tryz.prog.types.size = d + 1 := ⟨Tryz.prog.types.size - 1, by kernel_rfl⟩
    rw [hd]
    exact u8_lits d _
  unfold keyOf
  rw [Tryz.underlying60]
  simp only [hk, hf, Bool.and_true, if_true, Value.cells]
  refine ⟨_, by
    unfold Program.keyLits
    rw [Tryz.underlying60]
    simp only
    rw [if_pos (by rw [hc]; simp [h])]
    rw [hys]
    rfl⟩
/-- The map of names that a turner keeps: its value's shape is of no account. -/
def MapOk (w : World) (b : Nat) : Prop := ∃ (n : Nat) (D : DataW Unit), n ≤ 1000000 ∧ w.ownsMap Tryz.prog 60 (fun _ => some (.lit (.bool true), [])) b n D
theorem step_mapUpdate_id {ops : Array Oper} {o : Oper} {a : Act} {w : World} {K : Act → World → Prop} {Q : Exit → Act → World → Prop} {E : Prop} (hg : o.guard = none) (m x v : Operand) (t e : TypeId) (ht : Tryz.prog.underlying t = some (.map 60 e)) (hop : o.op = Op.mapUpdate t m x v)
    (b n : Nat) (D : DataW Unit) (hm : a.eval m = .map (some b)) (hown : w.ownsMap Tryz.prog 60 (fun _ => some (.lit (.bool true), [])) b n D) (hn : n < maxLen) (l : List UInt8) (hl : l.length = 32) (hx : a.eval x = .agg (bytesV l).toArray)
    (hK : ∀ (w' : World) (D' : DataW Unit), w'.ownsMap Tryz.prog 60 (fun _ => some (.lit (.bool true), [])) b (n + 1) D' → w.grownBy w' (some b) → K (a.put o.dst undef) w') :
    if Region.wanted o (yielded ops a.tmps) = true then Oper.wp Tryz.prog o a w K Q else E := by
  have hw : Region.wanted o (yielded ops a.tmps) = true := by simp [Region.wanted, hg]
  rw [if_pos hw]
  obtain ⟨kl, hkl⟩ := id_key l hl
  obtain ⟨w', hrun, r1, r2⟩ := hown.update id_law ht hn hkl (val := a.eval v) rfl
  unfold Oper.wp
  simp [execOp, hop, hm, hx, hrun, Result.andThen]
  exact hK w' _ r1 r2
end Go.Proofs.YtahhglhebcooaaaGreatDoor
