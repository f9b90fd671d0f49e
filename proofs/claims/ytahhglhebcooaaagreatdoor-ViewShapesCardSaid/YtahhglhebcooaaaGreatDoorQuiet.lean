/- A quiet region in which arrays are read. -/
import Derived.Test.YtahhglhebcooaaaGreatDoorBase
import Derived.Deep.MidRow
import Derived.Deep.QuietTactic
import Derived.BigQuiet
import Derived.Deep.RegionLaw
import Derived.Shelf.Abstract
namespace Go.Cof
open Go

variable {P : Program} {ops : Array Oper} {C : World → Prop}
theorem wpQuiet_load_mid {rest : List Oper} {op : Oper} {a : Act} {Q : Act → Prop} (hgd : op.guard = none) (ty : TypeId) (x : Operand) (ho : op.op = .load ty x)
    (b o : Nat) (hx : a.eval x = .pointer (some ⟨b, o, none⟩)) (cs : List Value) (d : TypeDesc) (hc : ∀ w, C w → w.rangeAt b o cs)
    (hu : P.underlying ty = some d) (hd : d.isRow = true) (hi : (P.info? ty).map (·.size) = some cs.length)
    (h : wpQuiet P ops C Q rest (a.put op.dst (.agg cs.toArray))) : wpQuiet P ops C Q (op :: rest) a := by
  have hw : Region.wanted op (yielded ops a.tmps) = true := by simp [Region.wanted, hgd]
  unfold wpQuiet
  rw [if_pos hw]
  refine ⟨.agg cs.toArray, fun w hw' => ?_, h⟩
  unfold Oper.quietAt execOp
  simp only [ho, hx, Instr.loadAt, Instr.sureAddr, Sem.run_bind, Sem.run_pure, Result.andThen_ok, run_loadVar_mid w b o ty cs d (hc w hw') hu hd hi, Oper.quietUpon, and_self]

theorem range_drewN {w : World} {b o : Nat} {cs : List Value} (h : w.rangeAt b o cs) : ∀ w', (∃ n, w' = w.drewN n) → w'.rangeAt b o cs := by
  rintro _ ⟨n, rfl⟩
  exact h

/-- A call of a function of the program's, as one step of a region that draws its order. -/
theorem step_call {o : Oper} {a : Act} {w : World} {K : Act → World → Prop} {Q : Exit → Act → World → Prop} {E : Prop} (hgd : o.guard = none) (f : FuncId) (args : Array Operand) (ts : Array TypeId)
    (ho : o.op = .call { callee := .value (.func f), args := args, argTypes := ts }) (he : ∀ (args : Array Value) (w : World), (callFunc f args).run P w = .ok (.enter f args) w) (vs : Array Value) (hv : args.map a.eval = vs) (v : Value) (R : World → Prop) (hc : Calls P f vs w fun e w' => e = .returned v ∧ R w')
    (h : ∀ w', R w' → K (a.put o.dst v) w') : if Region.wanted o (yielded ops a.tmps) = true then Oper.wp P o a w K Q else E := by
  have hw : Region.wanted o (yielded ops a.tmps) = true := by simp [Region.wanted, hgd]
  rw [if_pos hw]
  subst hv
  unfold Oper.wp execOp
  have hx : (callFunc f (args.map a.eval)).run P w = .ok (.enter f (args.map a.eval)) w := he _ _
  simp only [ho, resolve, invoke, Deferred.ofValue, Sem.run_bind, Sem.run_pure, Result.andThen_ok, Act.eval, Array.append_empty, Array.empty_append]


  rw [hx]
  exact hc.mono fun e w' hh => by obtain ⟨rfl, hr⟩ := hh; exact h w' hr

/-- A world of a class. -/
structure Wl (C : World → Prop) where
  w : World
  h : C w
/-- The worlds of a class, in the form that the walk takes. -/
abbrev InC (C : World → Prop) : World → Prop := fun w' => ∃ u : Wl C, w' = u.w
theorem InC.of {C : World → Prop} {R : World → Prop} (h : ∀ w', C w' → R w') : ∀ w', InC C w' → R w' := by
  rintro _ ⟨u, rfl⟩
  exact h _ u.h
/-- A region that draws its order and only reads, or calls what keeps a class of worlds: one walk. -/
theorem wp_region_class {id : Nat} {Q : Exit → Act → World → Prop} {a : Act} {w : World} {l : List Oper} (C : World → Prop) (hm : P.follows .mixedOrders = true) (hB : Region.lexB .any l.toArray = true) (hC : C w.drew)
    (h : wpQuiet P l.toArray (fun w' => ∃ u : Wl C, w' = u.w) (fun a' => ∀ w', (∃ u : Wl C, w' = u.w) → Q .normal a' w') l a) : (Code.region id l.toArray true).wp P Q a w :=
  wp_region_quiet (C := InC C) hm hB ⟨⟨w.drew, hC⟩, rfl⟩ h

theorem run_loadAt_cell (w : World) (p : Addr) (ty : TypeId) (v : Value) (d : TypeDesc) (h : w.cell? p = some v) (hu : P.underlying ty = some d) (hd : d.isRow = false) :
    (Instr.loadAt ty (.pointer (some p))).run P w = .ok v w := by
  have hagg : (isAgg ty).run P w = .ok false w := by
    unfold isAgg
    rw [Sem.run_bind, run_underlying hu w]
    cases d <;> simp_all
  simp only [Instr.loadAt, Instr.sureAddr, Sem.run_bind, Sem.run_pure, Result.andThen_ok, loadVar, hagg]
  simp [h]

/-- One cell read. -/
theorem quiet_load {o : Oper} {a : Act} {K : Act → Prop} (ty : TypeId) (x : Operand) (ho : o.op = .load ty x) (p : Addr) (hx : a.eval x = .pointer (some p)) (v : Value) (hc : ∀ w, C w → w.cell? p = some v)
    (d : TypeDesc) (hu : P.underlying ty = some d) (hd : d.isRow = false) (h : K (a.put o.dst v)) : o.quiet P a C K := by
  refine ⟨v, fun w hw => ?_, h⟩
  unfold Oper.quietAt execOp
  simp only [ho, hx, Sem.run_bind, Sem.run_pure, Result.andThen_ok, run_loadAt_cell w p ty v d (hc w hw) hu hd, Oper.quietUpon, and_self]
/-- Many cells read. -/
theorem quiet_loads {o : Oper} {a : Act} {K : Act → Prop} (ty : TypeId) (x : Operand) (ho : o.op = .load ty x) (b of : Nat) (hx : a.eval x = .pointer (some ⟨b, of, none⟩)) (cs : List Value) (hc : ∀ w, C w → w.rangeAt b of cs)
    (d : TypeDesc) (hu : P.underlying ty = some d) (hd : d.isRow = true) (hi : (P.info? ty).map (·.size) = some cs.length) (h : K (a.put o.dst (.agg cs.toArray))) : o.quiet P a C K := by
  refine ⟨_, fun w hw => ?_, h⟩
  unfold Oper.quietAt execOp
  simp only [ho, hx, Instr.loadAt, Instr.sureAddr, Sem.run_bind, Sem.run_pure, Result.andThen_ok, run_loadVar_mid w b of ty cs d (hc w hw) hu hd hi, Oper.quietUpon, and_self]
/-- A call that keeps the class. -/
theorem quiet_call {o : Oper} {a : Act} {K : Act → Prop} (f : FuncId) (args : Array Operand) (ts : Array TypeId)
    (ho : o.op = .call { callee := .value (.func f), args := args, argTypes := ts }) (he : ∀ (args : Array Value) (w : World), (callFunc f args).run P w = .ok (.enter f args) w) (vs : Array Value) (hv : args.map a.eval = vs) (v : Value)
    (hc : ∀ w, C w → Calls P f vs w fun e w' => e = .returned v ∧ C w') (h : K (a.put o.dst v)) : o.quiet P a C K := by
  refine ⟨v, fun w hw => ?_, h⟩
  subst hv
  unfold Oper.quietAt execOp
  have hx : (callFunc f (args.map a.eval)).run P w = .ok (.enter f (args.map a.eval)) w := he _ _
  simp only [ho, resolve, invoke, Deferred.ofValue, Sem.run_bind, Sem.run_pure, Result.andThen_ok, Act.eval, Array.append_empty, Array.empty_append]
  rw [hx]
  exact ⟨rfl, hc w hw⟩
end Go.Cof
