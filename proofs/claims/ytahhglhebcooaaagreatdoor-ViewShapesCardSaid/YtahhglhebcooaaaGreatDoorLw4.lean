/- ViewShapes: the law, at any sizes. -/
import Derived.Test.YtahhglhebcooaaaGreatDoorLw3
namespace Go.Proofs.YtahhglhebcooaaaGreatDoor
open Go.RowKit Go.Cof Go.Tol

theorem law_any {S2 S3 S : Nat → Prop} (q : ReqA) (AN AD Ab : Option Addr) (cN cD cb : Nat) (l : List UInt8) (w : World) (hq : ReqOk q) (hN : Rd w S2 16 AN q.names.length (bytesV q.names.flatten)) (hD : Rd w S3 1 AD q.data.length (bytesV q.data)) (hB : Rd w S 1 Ab l.length (bytesV l)) (hcb : l.length ≤ cb) :
    Calls Tryz.prog 4 #[.agg (reqV q AN cN AD cD).toArray, .slice Ab l.length cb] w fun e w' => e = .returned (.bool true) ∧ Below w.heap.size w w' := by
  by_cases h : 9000 < q.data.length ∨ 200 < q.names.length ∨ 9000 < l.length
  · exact law_wide q AN AD Ab cN cD l.length cb w hq.name h
  · exact law_small q AN AD Ab cN cD cb l w hq hN hD hB hcb (by omega) (by omega) (by omega)
end Go.Proofs.YtahhglhebcooaaaGreatDoor
