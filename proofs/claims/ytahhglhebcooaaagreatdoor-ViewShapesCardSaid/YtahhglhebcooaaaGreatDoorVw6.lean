/- view.bytes. -/
import Derived.Test.YtahhglhebcooaaaGreatDoorVw5
import Derived.Laws.OwnMore
import Derived.Deep.AppendLies
namespace Go.Proofs.YtahhglhebcooaaaGreatDoor
open Go.RowKit Go.Cof Go.Tol

def addL (k : UInt8) (l : List UInt8) : List UInt8 := l.map (· + k)
def mixK (k : UInt8) (l : List UInt8) (j : Nat) : List UInt8 := addL k (l.take j) ++ l.drop j
theorem mixK_length (k : UInt8) (l : List UInt8) (j : Nat) (h : j ≤ l.length) : (mixK k l j).length = l.length := by simp [mixK, addL]; omega
theorem mixK_get (k : UInt8) (l : List UInt8) (j : Nat) (h : j < l.length) : (mixK k l j)[j]? = some l[j] := by
  rw [mixK, List.getElem?_append_right (by simp [addL]; omega)]
  simp [addL, Nat.min_eq_left (Nat.le_of_lt h), h]
theorem mixK_set (k : UInt8) (l : List UInt8) (j : Nat) (h : j < l.length) : (mixK k l j).set j (l[j] + k) = mixK k l (j + 1) := by
  rw [mixK, List.set_append_right _ _ (by simp [addL]; omega)]
  rw [mixK, List.take_succ_eq_append_getElem h, addL, addL, List.map_append, List.append_assoc]
  rw [show j - (List.map (fun x => x + k) (l.take j)).length = 0 by simp; omega, List.drop_eq_getElem_cons h]
  rfl

set_option maxHeartbeats 4000000 in
set_option maxRecDepth 100000 in
theorem vbytes_any (S : Nat → Prop) (A : Option Addr) (cap : Nat) (l : List UInt8) (k : UInt8) (w : World) (hr : Rd w S 1 A l.length (bytesV l)) (hl : l.length ≤ 1000000) :
    Calls Tryz.prog 61 #[.slice A l.length cap, .int .u8 k.toNat] w fun e w' => Cloned w w' (addL k l) e := by
  have Hr := hide hr
  obtain ⟨n, hn⟩ : ∃ n, n = l.length := ⟨_, rfl⟩
  have hcl := clone_any S A cap l
  have Hcl := hide (show Calls Tryz.prog 40 #[.slice A n cap] w fun e w' => ∃ A1 c1, e = .returned (.slice A1 n c1) ∧ w'.ownsRow w.heap.size 5 1 (.slice A1 n c1) n (bytesV l) ∧ Below w.heap.size w w' by rw [hn]; exact hcl w hr (by omega))
  have hn1 : (n : Int) ≤ 1000000 := by omega
  have Hn := hide hn
  rw [← hn]
  have hk0 : (0 : Int) ≤ (k.toNat : Int) := Int.natCast_nonneg _
  have hk1 : (k.toNat : Int) < 256 := by have := k.toNat_lt; omega
  clear hr hcl hn hl
  go_enter Tryz.func61, Tryz.ntmps61
  go_wp2_with (first
    | (go_at_call 40; ((with_reducible refine Hcl.out.mono ?_)); rintro e w1 ⟨A1, c1, rfl, hown1, hb1⟩; have Ho1 := hide hown1; have Hb1 := hide hb1; clear hown1 hb1)
    | fail)
  go_loopw [11] (fun i wr => ∃ j : Nat, j ≤ n ∧ i = .int .i64 j ∧ wr.ownsRow w.heap.size 5 1 (.slice A1 n c1) n (bytesV (mixK k l j)) ∧ Below w.heap.size w wr) (fun i _ => n - (intOf i).toNat)
  case atStart => exact ⟨0, Nat.zero_le _, rfl, by simpa [mixK, addL] using Ho1.out, Hb1.out⟩
  case round => as_aux_lemma =>
    obtain ⟨j, hj, rfl, ho, hb⟩ := hrel
    have Ho := hide ho
    have Hb := hide hb
    clear ho hb
    by_cases hlt : j < n
    · have hlt2 : j < l.length := by have := Hn.out; omega
      obtain ⟨g, c2, hA, hge, hgl⟩ := Ho.out.form (by omega)
      obtain ⟨rfl, rfl⟩ : A1 = some ⟨g, 0, none⟩ ∧ c1 = c2 := by simpa using hA
      obtain ⟨c, hc⟩ : ∃ c, c = l[j] := ⟨_, rfl⟩
      have ce : wr.cell? ⟨g, j, none⟩ = some (.int .u8 (c.toNat : Int)) := by
        rw [Ho.out.cellAt j (by omega), bytesV, List.getElem?_map, mixK_get k l j hlt2, ← hc]; rfl
      have cf : wr.frozen? ⟨g, j, none⟩ = false := Ho.out.frozenAt j
      have hc0 : (0 : Int) ≤ (c.toNat : Int) := Int.natCast_nonneg _
      have hc1 : (c.toNat : Int) < 256 := by have := c.toNat_lt; omega
      have Hsum := hide (show ((c.toNat : Int) + (k.toNat : Int)) % 256 = ((c + k).toNat : Int) by rw [UInt8.toNat_add]; omega)
      have Hset := hide (show (bytesV (mixK k l j)).set j (.int .u8 (((c.toNat : Int) + (k.toNat : Int)) % 256)) = bytesV (mixK k l (j + 1)) by rw [Hsum.out, ← mixK_set k l j hlt2, ← hc, bytesV, bytesV, List.map_set])
      have hj1 : (j : Int) < n := Int.ofNat_lt.2 hlt
      have hj0 : (0 : Int) ≤ (j : Int) := Int.natCast_nonneg _
      clear hA hc
      go_wp2_with (fail)
      have hst := (Ho.out.stored j (.int .u8 (((c.toNat : Int) + (k.toNat : Int)) % 256))).1
      rw [Hset.out] at hst
      exact ⟨⟨j + 1, by omega, by go_num, hst, Hb.out.setCell hge _⟩, by simp only [intOf]; omega⟩
    · obtain rfl : j = n := by omega
      have hfin : mixK k l j = addL k l := by rw [mixK, Hn.out, List.take_length, List.drop_length, List.append_nil]
      have ho := Ho.out
      rw [hfin] at ho
      have hll : (addL k l).length = j := by rw [addL, List.length_map]; exact Hn.out.symm
      go_wp2_with (fail)
      go_ret
      rw [Cloned, hll]
      exact ⟨A1, c1, rfl, ho, Hb.out⟩
end Go.Proofs.YtahhglhebcooaaaGreatDoor
