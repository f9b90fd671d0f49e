/- Mixed: two loud operations that may come up in either order, each with its own way on. -/
import Derived.Test.YtahhglhebcooaaaGreatDoorMix
namespace Go.Cof
open Go
variable {P : Program} {ops : Array Oper} {Q : Exit → Act → World → Prop} {S : World → Prop}

theorem Mixed.fork {fuel : Nat} {l : Array Bool} {a : Act} {w : World} (i j : Nat) {oi oj : Oper} (fuel' : Nat) (hf : fuel = fuel' + 1) (hr : Region.ready .any ops l = [i, j]) (hoi : ops[i]? = some oi) (hoj : ops[j]? = some oj)
    (hi : ∀ K : Act → World → Prop, Back (∀ a' w', (i + 1 ≠ ops.size → S w') → Mixed P ops Q S fuel' (l.setIfInBounds i true) a' w' → K a' w') → if Region.wanted oi (yielded ops a.tmps) = true then Oper.wp P oi a w K (NoPanic Q) else K (a.put oi.dst undef) w)
    (hj : ∀ K : Act → World → Prop, Back (∀ a' w', (j + 1 ≠ ops.size → S w') → Mixed P ops Q S fuel' (l.setIfInBounds j true) a' w' → K a' w') → if Region.wanted oj (yielded ops a.tmps) = true then Oper.wp P oj a w K (NoPanic Q) else K (a.put oj.dst undef) w) :
    Mixed P ops Q S fuel l a w := by
  subst hf
  refine ⟨fun hc => ⟨fun h0 => (by rw [hr] at h0; cases h0), fun k hk => ?_⟩⟩
  have hk' := hk
  rw [hr] at hk
  rcases List.mem_cons.1 hk with rfl | hk
  · have h2 := hi (fun a' w' => (k + 1 ≠ ops.size → InC S w') ∧ wpAnyS P .any ops (NoPanic Q) (InC S) fuel' (l.setIfInBounds k true) a' w') ⟨fun a' w' h3 h4 => ⟨fun hne => ⟨⟨w', h3 hne⟩, rfl⟩, h4.go (hc.set hk')⟩⟩
    unfold wpOp
    simp only [hoi]
    split at h2
    · rename_i hw
      rw [if_pos hw]
      exact .inl h2
    · rename_i hw
      rw [if_neg hw]
      exact h2
  · obtain rfl : k = j := by simpa using hk
    have h2 := hj (fun a' w' => (k + 1 ≠ ops.size → InC S w') ∧ wpAnyS P .any ops (NoPanic Q) (InC S) fuel' (l.setIfInBounds k true) a' w') ⟨fun a' w' h3 h4 => ⟨fun hne => ⟨⟨w', h3 hne⟩, rfl⟩, h4.go (hc.set hk')⟩⟩
    unfold wpOp
    simp only [hoj]
    split at h2
    · rename_i hw
      rw [if_pos hw]
      exact .inl h2
    · rename_i hw
      rw [if_neg hw]
      exact h2
end Go.Cof
