/- errors.Is between two errors of one integer type; wire.Sized. -/
import Derived.Test.YtahhglhebcooaaaGreatDoorWrI
import Derived.LaidEql
import Derived.Stop.Asserts
import Derived.RowKitTokens
namespace Go.Proofs.YtahhglhebcooaaaGreatDoor
open Go.RowKit Go.Cof Go.Extern.Stop Go.Stop Go.Extern
section
variable {P : Program} (w : World)
theorem run_equalIn_iface_int (d : Nat) {ti tn : TypeId} {ms : Array (String × TypeId)} {i : TypeInfo} {k : IntKind} (a b : Int)
    (hi : P.underlying ti = some (.interface ms)) (hn : P.underlying tn = some (.int k)) (hinfo : P.info? tn = some i) (hcomp : i.comparable = true) :
    (Op.equalIn (d + 2) ti (.iface tn (.int k a)) (.iface tn (.int k b))).run P w = .ok (a == b) w := by
  simp [Op.equalIn, run_underlying hi, run_underlying hn, typeInfo, hinfo, hcomp]
theorem run_eql_iface_int {ti tn : TypeId} {ms : Array (String × TypeId)} {i : TypeInfo} {k : IntKind} (a b : Int)
    (hi : P.underlying ti = some (.interface ms)) (hn : P.underlying tn = some (.int k)) (hinfo : P.info? tn = some i) (hcomp : i.comparable = true) :
    (binOp .eql ti (.iface tn (.int k a)) (.iface tn (.int k b))).run P w = .ok (.bool (a == b)) w := by
  simp only [binOp]
  simp [Op.equal, Op.maxDepth, run_equalIn_iface_int w 9998 a b hi hn hinfo hcomp]
end

/-- An error of the kind Errno. -/
abbrev errV (n : Nat) : Value := .iface 31 (.int .i64 n)
theorem Tryz.isTypeOf (v : Value) (w : World) : (Extern.ReflectliteType.typeOf #[.iface 31 v]).run Tryz.prog w = .ok (.iface 175 (.agg #[.pointer (some ⟨3, 31, none⟩)])) w := by kernel_rfl
theorem Tryz.isComparable (w : World) : ((Extern.ReflectliteType.method fun t => do Extern.Rtype.noPackHeld "Comparable" t; (fun a => Value.bool a.comparable) <$> typeInfo t) #[.agg #[.pointer (some ⟨3, 31, none⟩)]]).run Tryz.prog w = .ok (.bool true) w := by kernel_rfl
theorem Tryz.isComp : (Tryz.prog.info? 31).map (·.comparable) = some true := by kernel_rfl
theorem Tryz.noIsE (v : Value) (xT : TypeId) (w : World) : (Instr.typeAssert (.iface 31 v) xT 177 true).run Tryz.prog w = .ok (.tuple #[.nilIface, .bool false]) w := run_typeAssert_lacksB Tryz.underlying177 (by kernel_rfl) (by kernel_rfl) v xT w
theorem Tryz.noUnwrapE (v : Value) (xT : TypeId) (w : World) : (Instr.typeAssert (.iface 31 v) xT 180 true).run Tryz.prog w = .ok (.tuple #[.nilIface, .bool false]) w := run_typeAssert_lacksB Tryz.underlying180 (by kernel_rfl) (by kernel_rfl) v xT w
theorem Tryz.noUnwrapsE (v : Value) (xT : TypeId) (w : World) : (Instr.typeAssert (.iface 31 v) xT 182 true).run Tryz.prog w = .ok (.tuple #[.nilIface, .bool false]) w := run_typeAssert_lacksB Tryz.underlying182 (by kernel_rfl) (by kernel_rfl) v xT w
theorem Tryz.isMethodComparable (v : Value) (w : World) : (Go.method 347 175 v "Comparable").run Tryz.prog w = .ok (148, v) w := by kernel_rfl

set_option maxHeartbeats 4000000 in
set_option maxRecDepth 100000 in
theorem isErr_any (a b : Nat) (w : World) : Calls Tryz.prog 76 #[errV a, errV b] w fun e w' => e = .returned (.bool (a == b)) ∧ w' = w := by
  obtain ⟨i, hi, hcmp⟩ := Option.map_eq_some_iff.1 Tryz.isComp
  have h8 := @run_callFunc_extern Tryz.prog 89 _ Extern.ReflectliteType.typeOf Tryz.func89 (by kernel_rfl) (by kernel_rfl) (by kernel_rfl) (by kernel_rfl)
  have h32 := @run_callFunc_extern Tryz.prog 148 _ (Extern.ReflectliteType.method fun t => do Extern.Rtype.noPackHeld "Comparable" t; pure (.bool (← typeInfo t).comparable)) Tryz.func148 (by kernel_rfl) (by kernel_rfl) (by kernel_rfl) (by kernel_rfl)
  have tT := Tryz.isTypeOf
  have cT := Tryz.isComparable
  have mR := Tryz.isMethodComparable
  have nE := Tryz.noIsE
  have uE := Tryz.noUnwrapE
  have vE := Tryz.noUnwrapsE
  have heq := run_eql_iface_int (P := Tryz.prog) w (a : Int) (b : Int) Tryz.underlying135 Tryz.underlying31 hi hcmp
  rcases hab : a == b with _ | _
  · rw [show ((a : Int) == (b : Int)) = false by rw [← hab, Bool.eq_iff_iff]; simp only [beq_iff_eq]; omega] at heq
    go_enter Tryz.func76, Tryz.ntmps76
    go_wp2
    refine wp_loop_rounds 1 ?_
    rw [rounds_succ]
    go_wp2
    go_ret
    exact ⟨rfl, rfl⟩
  · rw [show ((a : Int) == (b : Int)) = true by rw [← hab, Bool.eq_iff_iff]; simp only [beq_iff_eq]; omega] at heq
    go_enter Tryz.func76, Tryz.ntmps76
    go_wp2
    refine wp_loop_rounds 1 ?_
    rw [rounds_succ]
    go_wp2
    go_ret
    exact ⟨rfl, rfl⟩

set_option maxHeartbeats 4000000 in
set_option maxRecDepth 100000 in
theorem wsized_any (S S2 : Nat → Prop) (A B : Option Addr) (cap cap2 : Nat) (l x : List UInt8) (w : World) (hr : Rd w S 1 A l.length (bytesV l)) (hl : l.length ≤ 1073741824) (hx : Rd w S2 1 B x.length (bytesV x)) (hxl : x.length ≤ 1073741824) :
    Calls Tryz.prog 45 #[.slice A l.length cap, .slice B x.length cap2] w fun e w' => Cloned w w' (l ++ beL x.length 4 ++ x) e := by
  have Hr := hide hr
  have Hx := hide hx
  clear hr hx
  go_enter Tryz.func45, Tryz.ntmps45
  go_wp2_with (first | (go_at_call 31; refine (wput_any _ _ _ _ _ 4 _ Hr.out hl (by omega) (by omega)).mono ?_; rintro e w1 ⟨A1, cap1, rfl, hR1, hb1⟩; obtain ⟨m, hm⟩ : ∃ m, m = l ++ beL x.length 4 := ⟨_, rfl⟩; rw [← hm] at hR1 ⊢; have hml2 : m.length ≤ 1073741828 := (by rw [hm]; simp [beL_length]; omega); have Hm := hide hm; clear hm; have hR1 := hide hR1; have hb1 := hide hb1) | (at_builtin; refine wpList_append_rd _ rfl (.tmp 9) (.tmp 10) 28 28 rfl w.heap.size 5 5 (.int .u8 0) 1 1 Tryz.underlying28 Tryz.underlying28 Tryz.infoU8 rfl (by decide) _ _ _ rfl hR1.out (fun _ => True) _ _ _ (bytesV x) rfl ((Hx.out.keep (F := fun i => w.heap.size ≤ i) (Keep.of_below hb1.out) (fun _ _ h => by omega)).mono (fun _ _ _ => trivial)) (bytesV_one x) (by unfold maxLen; omega) (by omega) hb1.out.size ?_; intro A3 cap3 w3 hown3 hgrow3 hat3))
  go_ret
  rw [← Hm.out]
  exact ⟨A3, cap3, by simp, by simpa [bytesV_append] using hown3, hb1.out.grown hgrow3 hb1.out.size (fun j hj => (hR1.out.lt j hj).1)⟩
end Go.Proofs.YtahhglhebcooaaaGreatDoor
