/- ViewShapes: the contracts as the law takes them. -/
import Derived.Test.YtahhglhebcooaaaGreatDoorVwD
namespace Go.Proofs.YtahhglhebcooaaaGreatDoor
open Go.RowKit Go.Cof Go.Tol

/-- PutRequest, as the law looks at it: bytes and a fault, and what those bytes say to a reader. -/
def PutC (w w' : World) (q : ReqA) (e : Ending) : Prop :=
  ∃ (x : List UInt8) (A : Option Addr) (c : Nat) (bad : Int), e = .returned (.tuple #[.slice A x.length c, .int .i64 bad]) ∧ Rd w' (fun i => w.heap.size ≤ i) 1 A x.length (bytesV x) ∧ x.length ≤ c ∧ x.length ≤ 100000 ∧ Below w.heap.size w w' ∧
    ((bad = 0 ∧ readQ x = (q, 0)) ∨ (bad = 2 ∧ (readQ x).2 ≠ 0))
theorem putreq_c {S2 S3 : Nat → Prop} (q : ReqA) (AN AD : Option Addr) (cN cD : Nat) (w : World) (hq : ReqOk q) (hN : Rd w S2 16 AN q.names.length (bytesV q.names.flatten)) (hD : Rd w S3 1 AD q.data.length (bytesV q.data)) (hl1 : q.names.length ≤ 100000) (hl2 : q.data.length ≤ 100000) :
    Calls Tryz.prog 12 #[.agg (reqV q AN cN AD cD).toArray] w fun e w' => PutC w w' q e := by
  refine (putreq_any q AN AD cN cD w hq hN hD hl1 hl2).mono ?_
  intro e w' h
  unfold PutQ at h
  by_cases hm : mayB q = true
  · rw [if_pos hm] at h
    obtain ⟨A, c, rfl, ho, hb⟩ := h
    refine ⟨reqL q, A, c, 0, rfl, own_rd ho, (own_caps ho).1, ?_, hb, .inl ⟨rfl, readQ_put q hq hm⟩⟩
    rw [reqL, frameL_length, reqTl_length q hq]
    have := mayB_of q hm
    omega
  · rw [if_neg hm] at h
    obtain ⟨rfl, hb⟩ := h
    exact ⟨[], none, 0, 2, rfl, Rd.nil _ _ _ _, Nat.le_refl _, by decide, hb, .inr ⟨rfl, readQ_nil⟩⟩
end Go.Proofs.YtahhglhebcooaaaGreatDoor
