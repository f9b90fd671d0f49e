/- Two loud operations that may come up in either order. -/
import Derived.Test.YtimfmbcihopaaaaGreatDoorMix
namespace Go.Cof
open Go

section
variable {P : Program} {ops : Array Oper} {Q : Exit → Act → World → Prop} {S : World → Prop}

/-- One step, in a region that draws. -/
def Step (P : Program) (ops : Array Oper) (Q : Exit → Act → World → Prop) (o : Oper) (a : Act) (w : World) (K : Act → World → Prop) : Prop :=
  if Region.wanted o (yielded ops a.tmps) = true then Oper.wp P o a w K (NoPanic Q) else K (a.put o.dst undef) w
theorem Step.op {i : Nat} {o : Oper} {a : Act} {w : World} {K : Act → World → Prop} (ho : ops[i]? = some o) (h : Step P ops Q o a w K) : wpOp P ops (NoPanic Q) i K a w := by
  unfold Step at h
  unfold wpOp
  simp only [ho]
  split at h
  · rename_i hw
    rw [if_pos hw]
    exact .inl h
  · rename_i hw
    rw [if_neg hw]
    exact h
/-- Two that may come up in either order, each of which puts its own value; R: what both have brought about. -/
theorem Mixed.two {fuel : Nat} {l : Array Bool} {a : Act} {w : World} (i j : Nat) {oi oj : Oper} (fuel' : Nat) (hf : fuel = fuel' + 2) (hr : Region.ready .any ops l = [i, j]) (hri : Region.ready .any ops (l.setIfInBounds i true) = [j]) (hrj : Region.ready .any ops (l.setIfInBounds j true) = [i])
    (hoi : ops[i]? = some oi) (hoj : ops[j]? = some oj) (di dj : Tmp) (hdi : oi.dst = some di) (hdj : oj.dst = some dj) (hne : di ≠ dj) (R : Value → Value → World → Prop)
    (hi : ∀ K : Act → World → Prop, Back (∀ v w1, S w1 → (∀ K2 : Act → World → Prop, Back (∀ u w2, S w2 → R v u w2 → K2 ((a.put oi.dst v).put oj.dst u) w2) → Step P ops Q oj (a.put oi.dst v) w1 K2) → K (a.put oi.dst v) w1) → Step P ops Q oi a w K)
    (hj : ∀ K : Act → World → Prop, Back (∀ u w1, S w1 → (∀ K2 : Act → World → Prop, Back (∀ v w2, S w2 → R v u w2 → K2 ((a.put oj.dst u).put oi.dst v) w2) → Step P ops Q oi (a.put oj.dst u) w1 K2) → K (a.put oj.dst u) w1) → Step P ops Q oj a w K)
    (h : ∀ v u w', S w' → R v u w' → Mixed P ops Q S fuel' ((l.setIfInBounds i true).setIfInBounds j true) ((a.put oi.dst v).put oj.dst u) w') : Mixed P ops Q S fuel l a w := by
  subst hf
  have hij : i ≠ j := by
    rintro rfl
    have : i ∈ Region.ready .any ops l := by rw [hr]; simp
    have hn : i ∈ Region.ready .any ops (l.setIfInBounds i true) := by rw [hri]; simp
    obtain ⟨h1, o, ho, _⟩ := mem_ready.1 hn
    obtain ⟨h2, _⟩ := mem_ready.1 this
    have hl : i < l.size := by
      rcases Nat.lt_or_ge i l.size with h' | h'
      · exact h'
      · simp [Array.getElem?_eq_none h'] at h2
    simp [hl] at h1
  have inc : ∀ {w' : World}, S w' → InC S w' := fun {w'} hs => ⟨⟨w', hs⟩, rfl⟩
  refine ⟨fun hc => ⟨fun h0 => (by rw [hr] at h0; cases h0), fun k hk => ?_⟩⟩
  rw [hr] at hk
  have hmi : i ∈ Region.ready .any ops l := by rw [hr]; simp
  have hmj : j ∈ Region.ready .any ops l := by rw [hr]; simp
  rcases List.mem_cons.1 hk with rfl | hk
  · refine Step.op hoi (hi _ ⟨fun v w1 hs1 h1 => ⟨fun _ => inc hs1, fun h0 => (by rw [hri] at h0; cases h0), fun q hq => ?_⟩⟩)
    rw [hri] at hq
    obtain rfl : q = j := by simpa using hq
    refine Step.op hoj (h1 _ ⟨fun u w2 hs2 hR => ⟨fun _ => inc hs2, ?_⟩⟩)
    exact (h v u w2 hs2 hR).go ((hc.set hmi).set (by rw [hri]; simp))
  · obtain rfl : k = j := by simpa using hk
    refine Step.op hoj (hj _ ⟨fun u w1 hs1 h1 => ⟨fun _ => inc hs1, fun h0 => (by rw [hrj] at h0; cases h0), fun q hq => ?_⟩⟩)
    rw [hrj] at hq
    obtain rfl : q = i := by simpa using hq
    refine Step.op hoi (h1 _ ⟨fun v w2 hs2 hR => ⟨fun _ => inc hs2, ?_⟩⟩)
    have hput : (a.put oj.dst u).put oi.dst v = (a.put oi.dst v).put oj.dst u := Act.put_comm a u v (fun d hd => by
      rw [hdj] at hd
      rw [hdi]
      intro e
      injection hd with hd
      injection e with e
      exact hne (e.trans hd.symm))
    have hset : (l.setIfInBounds k true).setIfInBounds q true = (l.setIfInBounds q true).setIfInBounds k true := Array.setIfInBounds_comm _ _ (Ne.symm hij)
    rw [hput]
    have hgo := (h v u w2 hs2 hR).go ((hc.set hmi).set (by rw [hri]; simp))
    rw [hset]
    exact hgo
end
end Go.Cof
