/- frame.Open. -/
import Derived.Test.YtahhglhebcooaaaGreatDoorFr4
namespace Go.Proofs.YtahhglhebcooaaaGreatDoor
open Go.RowKit Go.Cof Go.Tol

def OpenFP (w w' : World) (x : List UInt8) (e : Ending) : Prop :=
  ∃ (k bad : Int) (A : Option Addr) (c : Nat), e = .returned (.tuple #[.int .i64 k, .slice A x.length c, .int .i64 bad]) ∧ Rd w' (fun i => w.heap.size ≤ i) 1 A x.length (bytesV x) ∧ x.length ≤ c ∧ Below w.heap.size w w'
set_option maxHeartbeats 8000000 in
set_option maxRecDepth 200000 in
theorem fopen_any (S : Nat → Prop) (A : Option Addr) (cap : Nat) (l : List UInt8) (w : World) (hr : Rd w S 1 A l.length (bytesV l)) (hc : l.length ≤ cap) (hl : l.length ≤ 100000) (hS : ∀ b, S b → b < w.heap.size) :
    Calls Tryz.prog 29 #[.slice A l.length cap] w fun e w' => OpenFP w w' (withinO l) e := by
  have Hlen := hide (flen_any S A cap l w hr hc hl)
  have Hread := hide (show ∀ w', Below w.heap.size w w' → Calls Tryz.prog 48 #[.slice A l.length cap] w' fun e w'' => ReadFP w' w'' (withinR l) e from fun w' hb =>
    fread_any S A cap l w' (hr.keep (Keep.of_none hb) (fun _ _ _ f => f)) hc hl (fun i hi => by have h1 := hS i hi; have h2 := hb.size; omega))
  have hli : (l.length : Int) ≤ 100000 := by omega
  obtain ⟨n, hn⟩ : ∃ n, n = (lenF l).1 := ⟨_, rfl⟩
  obtain ⟨bad, hb⟩ : ∃ b, b = (lenF l).2 := ⟨_, rfl⟩
  have Hwi := hide (show withinO l = if bad = 0 ∧ n < l.length then [] else withinR l by rw [withinO, ← hn, ← hb])
  rw [← hn, ← hb] at Hlen
  have hn0 : (0 : Int) ≤ (n : Int) := Int.natCast_nonneg _
  obtain ⟨x, hx⟩ : ∃ x, x = withinR l := ⟨_, rfl⟩
  rw [← hx] at Hwi Hread
  clear hr hc hS hn hb hx
  by_cases hc : bad = 0 ∧ n < l.length
  · have Hw2 := hide (show withinO l = [] by rw [Hwi.out, if_pos hc])
    obtain ⟨rfl, hlt⟩ := hc
    have hd1 : decide ((n : Int) < (l.length : Int)) = true := by simp; omega
    have hd2 : decide (n < l.length) = true := by simpa using hlt
    clear hlt
    go_enter Tryz.func29, Tryz.ntmps29
    go_wp2_with (first
      | (go_at_call 47; ((with_reducible refine Hlen.out.mono ?_)); rintro e w5 ⟨rfl, hb5⟩; have Hb5 := hide hb5; clear hb5)
      | fail)
    go_ret3
    rw [Hw2.out]
    exact ⟨_, _, none, 0, rfl, Rd.nil _ _ _ _, Nat.le_refl _, Hb5.out⟩
  · have Hw2 := hide (show withinO l = x by rw [Hwi.out, if_neg hc])
    have hcases : ((bad : Int) == 0) = true ∧ decide ((n : Int) < (l.length : Int)) = false ∧ decide (n < l.length) = false ∨ ((bad : Int) == 0) = false := by
      by_cases h0 : bad = 0
      · left
        have h1 : ¬ n < l.length := fun h => hc ⟨h0, h⟩
        exact ⟨by rw [beq_iff_eq]; omega, by simp; omega, by simpa using h1⟩
      · right; rw [beq_eq_false_iff_ne]; omega
    have Hcases := hide hcases
    clear hc hcases
    rcases Hcases.out with ⟨h1, h2, h3⟩ | h1
    all_goals
      go_enter Tryz.func29, Tryz.ntmps29
      go_wp2_with (first
        | (go_at_call 47; ((with_reducible refine Hlen.out.mono ?_)); rintro e w5 ⟨rfl, hb5⟩; have Hb5 := hide hb5; clear hb5)
        | (go_at_call 48; ((with_reducible refine (Hread.out w5 Hb5.out).mono ?_)); rintro e w6 hrd; obtain ⟨k6, n6, b6, A6, c6, rfl, hr6, hc6, hb6⟩ := hrd; have Hr6 := hide hr6; have Hc6 := hide hc6; have Hb6 := hide hb6; clear hr6 hc6 hb6)
        | fail)
      go_ret3
      rw [Hw2.out]
      exact ⟨_, _, A6, c6, rfl, Hr6.out.mono (fun i _ h => Nat.le_trans Hb5.out.size h), Hc6.out, Hb5.out.trans (Hb6.out.mono Hb5.out.size)⟩
end Go.Proofs.YtahhglhebcooaaaGreatDoor
