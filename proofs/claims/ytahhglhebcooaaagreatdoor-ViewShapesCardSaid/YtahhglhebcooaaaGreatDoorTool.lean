/- Tools: blocks of one's own, rows, results that lie in memory. -/
import Derived.Test.YtahhglhebcooaaaGreatDoorBase
import Derived.Test.YtahhglhebcooaaaGreatDoorChecked
import Derived.Laws.RangeAny
import Derived.Laws.BytesString
import Derived.Laws.ResultCell
import Derived.Laws.Rows
import Derived.Laws.BitsAllLaws
import Derived.Laws.ShiftsVarLaws
import Derived.Deep.RegionLaw
import Derived.Deep.RegionWith
import Derived.Deep.RegionHeld3
import Derived.Deep.QuietTactic
import Derived.Deep.WholeRow
import Derived.BigQuiet
import Derived.Deep.DeepCutAuto
import Derived.Deep.CutBlock
import Derived.LaidEql
import Derived.Stop.Asserts
import Derived.RowKitTokens
import Derived.WalkArith
import Derived.IntWalk
namespace Go.Tol
open Go.RowKit Go.Cof

theorem results_row_tmp {P : Program} {fn : Func} {p u : Tmp} {ty : TypeId} (h : fn.results = #[.cell p ty, .tmp u]) (tmps : Array Value) (w : World) (g : Nat)
    {cs : Array Value} {t : TypeId} {fr : Nat × Nat} {d : TypeDesc} (hp : tmps.getD p undef = .pointer (some ⟨g, 0, none⟩)) (hg : w.heap[g]? = some (.cells cs t fr))
    (hu : P.underlying ty = some d) (hd : (match d with | .struct _ | .array _ _ => true | _ => false) = true) (hi : (P.info? ty).map (·.size) = some cs.size) :
    (results fn tmps).run P w = .ok (.tuple #[.agg cs, tmps.getD u undef]) w := by
  rw [results_cell_tmp h, hp]
  simp only [asAddr, Sem.run_pure, Result.andThen_ok, run_loadVar_row w g t ty cs fr d hg hu hd hi]

theorem over_cons (cur cs : List Value) (o : Nat) (v : Value) (ho : o < cur.length) : over (cur.set o v) (o + 1) cs = over cur o (v :: cs) := by
  have e : cur.set o v = cur.take o ++ v :: cur.drop (o + 1) := List.set_eq_take_append_cons_drop.trans (if_pos ho)
  have hl : (cur.take o).length = o := by rw [List.length_take]; omega
  rw [e, over, over]
  have h1 : (cur.take o ++ v :: cur.drop (o + 1)).take (o + 1) = cur.take o ++ [v] := by
    rw [List.take_append, hl, show o + 1 - o = 1 by omega, List.take_of_length_le (by omega)]; rfl
  have h2 : (cur.take o ++ v :: cur.drop (o + 1)).drop (o + 1 + cs.length) = cur.drop (o + (v :: cs).length) := by
    rw [List.drop_append, hl, List.drop_eq_nil_of_le (by omega), show o + 1 + cs.length - o = cs.length + 1 by omega, List.drop_succ_cons, List.drop_drop, List.length_cons, List.nil_append]
    congr 1
    omega
  rw [h1, h2]
  simp
theorem heap_set {w : World} {b : Nat} {cur : List Value} {t : TypeId} (h : w.heap[b]? = some (.cells cur.toArray t (0, 0))) (o : Nat) (v : Value) : (w.setCell ⟨b, o, none⟩ v).heap[b]? = some (.cells (cur.set o v).toArray t (0, 0)) := by
  have h1 := heap_setCell_same w b o cur.toArray t v h
  rwa [show cur.toArray.setIfInBounds o v = (cur.set o v).toArray by simp] at h1
theorem heap_sets (b : Nat) (t : TypeId) : ∀ (cs cur : List Value) (o : Nat) (w : World), w.heap[b]? = some (.cells cur.toArray t (0, 0)) → o + cs.length ≤ cur.length → (w.setCells b o cs).heap[b]? = some (.cells (over cur o cs).toArray t (0, 0))
  | [], cur, o, w, h, _ => by simpa [World.setCells, over] using h
  | v :: cs, cur, o, w, h, hl => by
    rw [List.length_cons] at hl
    rw [World.setCells, heap_sets b t cs (cur.set o v) (o + 1) _ (heap_set h o v) (by rw [List.length_set]; omega), over_cons _ _ _ _ (by omega)]
theorem sets_keep {F : Nat → Prop} (b : Nat) (hF : F b) : ∀ (vs : List Value) (o : Nat) (w0 w : World), Keep F w0 w → Keep F w0 (w.setCells b o vs)
  | [], _, _, _, h => h
  | v :: vs, o, w0, w, h => sets_keep b hF vs (o + 1) w0 _ (h.setCell (p := ⟨b, o, none⟩) (fun _ => hF) v)
theorem sets_size (b : Nat) : ∀ (vs : List Value) (o : Nat) (w : World), (w.setCells b o vs).heap.size = w.heap.size
  | [], _, _ => rfl
  | v :: vs, o, w => by rw [World.setCells, sets_size b vs]; simp
theorem blk_cell {w : World} {g : Nat} {t : TypeId} {cur : List Value} (h : w.heap[g]? = some (.cells cur.toArray t (0, 0))) (j : Nat) : w.cell? ⟨g, j, none⟩ = cur[j]? := by
  rw [cell_of_row _ _ j _ _ _ h, List.getElem?_toArray]
theorem blk_lt {w : World} {n : Nat} {o : Obj} (h : w.heap[n]? = some o) : n < w.heap.size := (Array.getElem?_eq_some_iff.1 h).1
theorem blk_range {w : World} {g : Nat} {t : TypeId} {cur : List Value} (h : w.heap[g]? = some (.cells cur.toArray t (0, 0))) : w.rangeAt g 0 cur := fun j v hj => by
  rw [Nat.zero_add, blk_cell h]; exact hj
theorem cell_at {w : World} {p : Addr} {v : Value} (F : Nat → Prop) (h : w.cell? p = some v) (hf : ¬ F p.block) : ∀ w', Keep F w w' → w'.cell? p = some v := fun w' hk => by
  rw [hk.cell (World.block_lt_of_cell? w p h) hf]; exact h
theorem range_at {w w' : World} {F : Nat → Prop} {b o : Nat} {cs : List Value} (h : w.rangeAt b o cs) (hk : Keep F w w') (hb : b < w.heap.size) (hf : ¬ F b) : w'.rangeAt b o cs := fun j v hj => by
  rw [hk.cell (p := ⟨b, o + j, none⟩) hb hf]; exact h j v hj
theorem heap_new (w : World) (o : Obj) : (w.alloc o).heap[w.heap.size]? = some o := heap_alloc_last w o
theorem heap_old {w : World} {n : Nat} {x : Obj} (h : w.heap[n]? = some x) (o : Obj) : (w.alloc o).heap[n]? = some x := (((Below.refl w.heap.size w).alloc (Nat.le_refl _) o).block n (blk_lt h)).trans h
theorem below_setRow {B : Nat} {w w' : World} (h : Below B w w') {g : Nat} (hg : B ≤ g) (cs : Array Value) : Below B w (w'.setRow g cs) :=
  ⟨h.os, h.tape, h.output, by simpa [World.setRow] using h.size, fun k hk => (setRow_other w' g k cs (by omega)).trans (h.block k hk)⟩
theorem keep_setRow {F : Nat → Prop} {w w' : World} (h : Keep F w w') {g : Nat} (hg : g < w.heap.size → F g) (cs : Array Value) : Keep F w (w'.setRow g cs) :=
  ⟨h.os, h.tape, h.output, by simpa [World.setRow] using h.size, fun k hk hf => (setRow_other w' g k cs (fun e => hf (by rw [e]; exact hg (by omega)))).trans (h.block k hk hf)⟩
theorem wpList_store_all {P : Program} {ops : Array Oper} {rest : List Oper} {o : Oper} {a : Act} {w : World} {Q : Exit → Act → World → Prop} (hgd : o.guard = none) (ty : TypeId) (x y : Operand) (ho : o.op = .store ty x y)
    (g : Nat) (cur cs : List Value) (t : TypeId) (hg : w.heap[g]? = some (.cells cur.toArray t (0, 0))) (hx : a.eval x = .pointer (some ⟨g, 0, none⟩)) (hy : a.eval y = .agg cs.toArray) (hl : cs.length = cur.length)
    (hi : (P.info? ty).map (·.size) = some cs.length) (h1 : ∀ v ∈ cs, v.oneCell' = true)
    (h : wpList P ops Q rest (a.put o.dst undef) (w.setRow g cs.toArray)) : wpList P ops Q (o :: rest) a w := by
  refine wpList_plain hgd fun _ hK => ?_
  have hst := run_storeCells_at P g 0 t cs 0 cur.toArray w hg (by simp; omega) h1
  have hrun : (Instr.storeAt ty (.pointer (some ⟨g, 0, none⟩)) (.agg cs.toArray)).run P w = .ok () (w.setRow g cs.toArray) := by
    cases hq : P.info? ty with
    | none => simp [hq] at hi
    | some i =>
      have hs : cs.length = i.size := by simp [hq] at hi; omega
      have e1 : (cur.toArray.toList.take (0 + 0) ++ cs ++ cur.toArray.toList.drop (0 + 0 + cs.length)).toArray = cs.toArray := by
        rw [hl]
        simp
      rw [e1] at hst
      simp [Instr.storeAt, Instr.sureAddr, storeVar, sizeOf, typeInfo, hq, Value.cells, hs, hst]
  unfold Oper.wp execOp
  simp only [ho, hx, hy, Sem.run_bind, hrun, Result.andThen_ok, Sem.run_pure]
  exact hK _ _ h
theorem run_slice_arr {P : Program} {t e : TypeId} {n s : Nat} (ht : P.underlying t = some (.array n e)) (hi : (P.info? e).map (·.size) = some s) (B o l h : Nat) (h1 : l ≤ h) (h2 : h ≤ n) (hl : l < n) (a b : Int) (ha : a = l) (hb : b = h) (w : World) :
    (Instr.sliceAt t (.pointer (some ⟨B, o, none⟩)) (some (.int .i64 a)) (some (.int .i64 b)) none).run P w = .ok (.slice (some ⟨B, o + l * s, none⟩) (h - l) (n - l)) w := by
  have hn : P.arrayLen t = n := by simp [Program.arrayLen, ht]
  have he : P.elem t = e := by simp [Program.elem, ht]
  subst ha hb
  rw [run_sliceAt_array_lh w t _ (by rw [hn, he]; exact ht) .i64 .i64 (l : Int) (h : Int) (by omega) (by omega) (by rw [hn]; omega), he]
  cases hq : P.info? e with
  | none => simp [hq] at hi
  | some i =>
    have hs : i.size = s := by simpa [hq] using hi
    have hnl : ¬ n = l := by omega
    simp [sizeOf, typeInfo, hq, slicedAt, hn, hs, Addr.add_mid, hnl]
theorem store_new {P : Program} (w : World) (t : TypeId) (n : Nat) (c : List Value) (hi : (P.info? t).map (·.size) = some n) (hc : c.length = n) (h1 : ∀ v ∈ c, v.oneCell' = true) :
    ∀ z : Array Value, z.size = n → (storeCells ⟨w.heap.size, 0, none⟩ c).run P (w.alloc (.cells z t)) = .ok () (w.alloc (.cells c.toArray t)) := fun z hz => by
  have := run_storeCells_new (P := P) w t z c.toArray (by rw [hi]; simpa using hc.symm) (by rw [hz]; simpa using hc.symm) (all_oneCell_toArray h1)
  simpa using this
theorem over_drop_take (cur cs : List Value) (o : Nat) (h : o + cs.length ≤ cur.length) : ((over cur o cs).drop o).take cs.length = cs := by
  rw [over, List.drop_append_of_le_length (by rw [List.length_take]; omega), List.drop_take, Nat.sub_self, List.take_zero, List.nil_append, List.take_append_of_le_length (Nat.le_refl _), List.take_length]
theorem part_range {w : World} {g : Nat} {t : TypeId} {cur cs : List Value} {o : Nat} (h : w.heap[g]? = some (.cells cur.toArray t (0, 0))) (hp : (cur.drop o).take cs.length = cs) : w.rangeAt g o cs := fun j v hj => by
  rw [blk_cell h]
  have hl := (List.getElem?_eq_some_iff.1 hj).1
  rw [← hp, List.getElem?_take, if_pos hl, List.getElem?_drop] at hj
  exact hj
theorem over_over (cur a b : List Value) (o : Nat) (h : a.length = b.length) (ho : o + a.length ≤ cur.length) : over (over cur o a) o b = over cur o b := by
  have hA : (cur.take o ++ a).length = o + b.length := by rw [List.length_append, List.length_take]; omega
  have h1 : (over cur o a).take o = cur.take o := by rw [over, List.take_append_of_le_length (by rw [List.length_take]; omega), List.take_take, Nat.min_self]
  have h2 : (over cur o a).drop (o + b.length) = cur.drop (o + b.length) := by rw [over, ← List.append_assoc, List.drop_left' hA, h]
  rw [over, h1, h2, over]
theorem over_set (cur a : List Value) (o i : Nat) (x : Value) (hi : i < a.length) (ho : o + a.length ≤ cur.length) : (over cur o a).set (o + i) x = over cur o (a.set i x) := by
  have hl : (cur.take o).length = o := by rw [List.length_take]; omega
  rw [over, over, List.set_append_right _ _ (by omega), hl, Nat.add_sub_cancel_left, List.set_append_left _ _ hi, List.length_set]
theorem over_self (cur cs : List Value) (o : Nat) (hp : (cur.drop o).take cs.length = cs) : over cur o cs = cur := by
  have h1 : cs ++ cur.drop (o + cs.length) = cur.drop o := by
    conv => lhs; lhs; rw [← hp]
    rw [← List.drop_drop, List.take_append_drop]
  rw [over, h1, List.take_append_drop]
theorem over_get (cur cs : List Value) (o i : Nat) (hi : i < cs.length) (ho : o ≤ cur.length) : (over cur o cs)[o + i]? = cs[i]? := by
  have hl : (cur.take o).length = o := by rw [List.length_take]; omega
  rw [over, List.getElem?_append_right (by omega), hl, Nat.add_sub_cancel_left, List.getElem?_append_left hi]
/-- A call that leaves the world alone, in a quiet region behind another one. -/
theorem quiet_more {P : Program} {f : FuncId} {args : Array Value} {w : World} {a n : Nat} {v : Value} (h : Calls P f args (w.drewN (a + n)) fun e w' => e = .returned v ∧ w.drewN (a + n) = w') :
    Calls P f args (w.drewN (a + n)) fun e w' => e = .returned v ∧ ∃ m, w' = w.drewN (a + m) := h.mono fun _ _ hh => ⟨hh.1, n, hh.2.symm⟩
theorem run_slice_arr_l {P : Program} {t e : TypeId} {n s : Nat} (ht : P.underlying t = some (.array n e)) (hi : (P.info? e).map (·.size) = some s) (B o l : Nat) (hl : l < n) (k : IntKind) (a : Int) (ha : a = l) (w : World) :
    (Instr.sliceAt t (.pointer (some ⟨B, o, none⟩)) (some (.int k a)) none none).run P w = .ok (.slice (some ⟨B, o + l * s, none⟩) (n - l) (n - l)) w := by
  have hn : P.arrayLen t = n := by simp [Program.arrayLen, ht]
  have he : P.elem t = e := by simp [Program.elem, ht]
  subst ha
  rw [run_sliceAt_array_l w t _ (by rw [hn, he]; exact ht) k (l : Int) (by omega) (by rw [hn]; omega), he]
  cases hq : P.info? e with
  | none => simp [hq] at hi
  | some i =>
    have hs : i.size = s := by simpa [hq] using hi
    have hnl : ¬ n = l := by omega
    simp [sizeOf, typeInfo, hq, slicedAt, hn, hs, Addr.add_mid, hnl]
/-- Where a slice begins behind its first k elements of one cell. -/
def dropA (A : Option Addr) (cap k : Nat) : Option Addr := if cap = k then A else A.map (·.add k)
theorem dropA_at {b off cap k n : Nat} (h : k < n) (hc : n ≤ cap) : dropA (some ⟨b, off, none⟩) cap k = some ⟨b, off + k, none⟩ := by
  rw [dropA, if_neg (by omega)]; simp [Addr.add_mid]
theorem over_right (a b cs : List Value) (o : Nat) : over (a ++ b) (a.length + o) cs = a ++ over b o cs := by
  rw [over, over, List.take_length_add_append, Nat.add_assoc, List.drop_length_add_append, List.append_assoc]
theorem over_left (a b cs : List Value) (o : Nat) (h : o + cs.length ≤ a.length) : over (a ++ b) o cs = over a o cs ++ b := by
  rw [over, over, List.take_append_of_le_length (by omega), List.drop_append_of_le_length h]
  simp
theorem run_slice_drop {P : Program} {t e : TypeId} (ht : P.underlying t = some (.slice e)) (hi : (P.info? e).map (·.size) = some 1) (A : Option Addr) (n cap k : Nat) (hk : k ≤ n) (w : World) :
    (Instr.slice t (.slice A n cap) (some (.int .i64 (k : Int))) none none).run P w = .ok (.slice (dropA A cap k) (n - k) (cap - k)) w := by
  have he : P.elem t = e := by simp [Program.elem, ht]
  rw [run_slice_l (w := w) (t := t) (a := A) (len := n) (cap := cap) (by rw [he]; exact ht) .i64 (k : Int) (by omega) (by omega), he]
  cases hq : P.info? e with
  | none => simp [hq] at hi
  | some i =>
    have hs : i.size = 1 := by simpa [hq] using hi
    simp [sizeOf, typeInfo, hq, sliced, hs, dropA]
theorem quiet_first {P : Program} {f : FuncId} {args : Array Value} {w : World} {n : Nat} {v : Value} (h : Calls P f args (w.drewN n) fun e w' => e = .returned v ∧ w.drewN n = w') :
    Calls P f args (w.drewN n) fun e w' => e = .returned v ∧ ∃ m, w' = w.drewN m := h.mono fun _ _ hh => ⟨hh.1, n, hh.2.symm⟩
end Go.Tol
