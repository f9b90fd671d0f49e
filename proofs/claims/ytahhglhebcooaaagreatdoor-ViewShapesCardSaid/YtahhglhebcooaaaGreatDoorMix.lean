/- A region that draws its order and whose last operation may write what the region has read: quiet operations in one batch, in the order in which they may come up; then one loud operation; and so on. -/
import Derived.Test.YtahhglhebcooaaaGreatDoorQuiet
import Derived.OrdersHeld
import Derived.Deep.Quiet
import Derived.BigQuiet
import Derived.Deep.RegionHeld3
namespace Go.Cof
open Go

/-- Operations that leave a value in their temporary, or halt. -/
def calmKind : Op → Bool
  | .move _ | .assign _ | .pick .. | .build .. | .load .. | .binOp .. | .unOp .. | .convert .. | .fieldAddr .. | .field .. | .indexAddr .. | .index .. | .slice .. | .extract .. | .nilCheck _ => true
  | _ => false

theorem calm_value {ρ : Operand → Value} {o : Oper} {P : Program} {w w' : World} {n : Next} (hk : calmKind o.op = true) (h : (execOp ρ o).run P w = .ok n w') : ∃ v, n = .value v := by
  have hb : ∀ s : Sem Value, (do pure (Next.value (← s)) : Sem Next).run P w = .ok n w' → ∃ v, n = .value v := by
    intro s h
    rw [Sem.run_bind] at h
    cases hs : s.run P w with
    | ok v w1 => rw [hs] at h; simp only [Result.andThen_ok, Sem.run_pure] at h; injection h with h1 h2; exact ⟨v, h1.symm⟩
    | halt x w1 => rw [hs] at h; simp [Result.andThen] at h
  obtain ⟨d, op, t, p, af, g⟩ := o
  simp only at hk
  unfold execOp at h
  cases op <;> simp only [calmKind, Bool.false_eq_true] at hk <;> simp only at h
  case pick c x y =>
    rw [Sem.run_bind] at h
    cases hs : (asBool (ρ c)).run P w with
    | ok v w1 => rw [hs] at h; simp only [Result.andThen_ok, Sem.run_pure] at h; injection h with h1 h2; exact ⟨_, h1.symm⟩
    | halt x w1 => rw [hs] at h; simp [Result.andThen] at h
  case nilCheck x =>
    have hp : (runtimePanic RuntimeError.nilDeref : Sem Next).run P w = .ok n w' → ∃ v, n = .value v := by
      intro hc
      simp [runtimePanic, goPanic] at hc
    have hv : ∀ (y : Value) (w1 : World), (pure (Next.value y) : Sem Next).run P w1 = .ok n w' → ∃ v, n = .value v := by
      intro y w1 hc
      rw [Sem.run_pure] at hc; injection hc with h1 h2; exact ⟨_, h1.symm⟩
    have hi : ∀ {α : Type} (s : Sem α) (f : α → Sem Next) (w1 : World), (s >>= f).run P w1 = .ok n w' → ∃ a w2, (f a).run P w2 = .ok n w' := by
      intro α s f w1 hc
      rw [Sem.run_bind] at hc
      cases hs : s.run P w1 with
      | ok v w2 => rw [hs] at hc; exact ⟨v, w2, by simpa using hc⟩
      | halt x w2 => rw [hs] at hc; simp [Result.andThen] at hc
    split at h
    · exact hp h
    · exact hp h
    · exact hp h
    · split at h
      · exact hp h
      · obtain ⟨a1, w1, h⟩ := hi _ _ _ h
        obtain ⟨a2, w2, h⟩ := hi _ _ _ h
        split at h
        · obtain ⟨a3, w3, h⟩ := hi _ _ _ h
          exact hv _ _ h
        · exact hv _ _ h
      · exact hv _ _ h
    · exact hv _ _ h
  all_goals first
    | (rw [Sem.run_pure] at h; injection h with h1 h2; exact ⟨_, h1.symm⟩)
    | exact hb _ h

section
variable {P : Program} {ops : Array Oper} {Q : Exit → Act → World → Prop} {md : Region.Mode} {S : World → Prop}

/-- Each operation but the last is waited for by one behind it. -/
def sunk (md : Region.Mode) (ops : Array Oper) : Bool :=
  (List.range ops.size).all fun i => i + 1 == ops.size || (List.range ops.size).any fun j => decide (i < j) && ((ops[j]?).map (·.after.any fun e => Region.binds md e && e.on == i)).getD false

theorem sunk_next (h : sunk md ops = true) {i : Nat} (hi : i + 1 < ops.size) : ∃ j o, i < j ∧ ops[j]? = some o ∧ ∃ e ∈ o.after, Region.binds md e = true ∧ e.on = i := by
  unfold sunk at h
  rw [List.all_eq_true] at h
  have h1 := h i (List.mem_range.2 (by omega))
  rw [Bool.or_eq_true] at h1
  rcases h1 with h1 | h1
  · simp at h1; omega
  · rw [List.any_eq_true] at h1
    obtain ⟨j, hj, h2⟩ := h1
    rw [Bool.and_eq_true] at h2
    obtain ⟨h3, h4⟩ := h2
    cases ho : ops[j]? with
    | none => simp [ho] at h4
    | some o =>
      simp only [ho, Option.map_some, Option.getD_some] at h4
      obtain ⟨e, he, h5⟩ := Array.any_eq_true'.1 h4
      rw [Bool.and_eq_true] at h5
      exact ⟨j, o, by simpa using h3, ho, e, he, h5.1, by simpa using h5.2⟩

/-- Whatever has come up, that for which it waits has come up. -/
def Closed (md : Region.Mode) (ops : Array Oper) (l : Array Bool) : Prop :=
  l.size = ops.size ∧ ∀ (j : Nat) (o : Oper), ops[j]? = some o → l.getD j false = true → ∀ e ∈ o.after, Region.binds md e = true → l.getD e.on false = true

theorem Closed.start : Closed md ops (Array.replicate ops.size false) := by
  refine ⟨by simp, fun j o _ h => ?_⟩
  exfalso
  simp only [Array.getD_eq_getD_getElem?, Array.getElem?_replicate] at h
  split at h <;> simp at h

theorem getD_both {l : Array Bool} {i : Nat} (h : i < l.size) : l.getD i true = l.getD i false := by
  simp [h]
theorem getD_set_same {l : Array Bool} {i : Nat} (h : i < l.size) : (l.setIfInBounds i true).getD i false = true := by
  simp [h]

theorem Closed.set {l : Array Bool} {i : Nat} (h : Closed md ops l) (hr : i ∈ Region.ready md ops l) : Closed md ops (l.setIfInBounds i true) := by
  refine ⟨by simp [h.1], fun j o hj hl e he hb => ?_⟩
  by_cases hij : i = j
  · subst hij
    obtain ⟨_, o', ho', hall⟩ := mem_ready.1 hr
    rw [hj] at ho'
    cases ho'
    exact getD_set_true (hall e he hb)
  · rw [getD_set_ne false hij] at hl
    exact getD_set_true (h.2 j o hj hl e he hb)

/-- Where the last has come up, or may, all others have. -/
theorem sunk_all (hs : sunk md ops = true) {l : Array Bool} (hc : Closed md ops l) (hl : l.getD (ops.size - 1) false = true ∨ ops.size - 1 ∈ Region.ready md ops l) :
    ∀ (n i : Nat), n = ops.size - i → i + 1 < ops.size → l.getD i false = true := by
  intro n
  induction n using Nat.strongRecOn with
  | ind n ih =>
    intro i hn hi
    obtain ⟨j, o, hij, ho, e, he, hb, rfl⟩ := sunk_next hs hi
    have hj := (Array.getElem?_eq_some_iff.1 ho).1
    by_cases hlast : j + 1 = ops.size
    · have hj' : ops.size - 1 = j := by omega
      rw [hj'] at hl
      rcases hl with hl | hl
      · exact hc.2 j o ho hl e he hb
      · obtain ⟨_, o', ho', hall⟩ := mem_ready.1 hl
        rw [ho] at ho'
        cases ho'
        exact hall e he hb
    · exact hc.2 j o ho (ih (ops.size - j) (by omega) j rfl (by omega)) e he hb

/-- Whatever order is picked from here on, and S holds behind every operation but the last. -/
def wpAnyS (P : Program) (md : Region.Mode) (ops : Array Oper) (Q : Exit → Act → World → Prop) (S : World → Prop) : Nat → Array Bool → Act → World → Prop
  | 0, listed, a, w => Region.ready md ops listed = [] ∧ Q .normal a w
  | fuel + 1, listed, a, w =>
    (Region.ready md ops listed = [] → Q .normal a w) ∧
    ∀ i ∈ Region.ready md ops listed, wpOp P ops Q i (fun a' w' => (i + 1 ≠ ops.size → S w') ∧ wpAnyS P md ops Q S fuel (listed.setIfInBounds i true) a' w') a w

theorem wpAny_of_S : ∀ (fuel : Nat) (listed : Array Bool) (a : Act) (w : World), wpAnyS P md ops Q S fuel listed a w → wpAny P md ops Q fuel listed a w
  | 0, _, _, _, h => h
  | fuel + 1, _, _, _, h => ⟨h.1, fun i hi => wpOp_mono (fun a' w' h' => wpAny_of_S fuel _ a' w' h'.2) (h.2 i hi)⟩

/-- An operation that may come up now may be taken first. -/
theorem wpAnyS_first (hs : sunk md ops = true) {i : Nat} {oi : Oper} {v : Value} (hi : ops[i]? = some oi) (hsel : ∀ (j : Nat) (o : Oper) cs b, ops[j]? = some o → o.op ≠ .select cs b)
    (hQ : ∀ c a w, Q (.panic c) (a.put oi.dst v) w → Q (.panic c) a w) :
    ∀ (fuel : Nat) (listed : Array Bool) (a : Act) (w : World), Closed md ops listed →
      (∀ j oj, ops[j]? = some oj → j ≠ i → listed.getD j true = false → (∀ e ∈ oj.after, Region.binds md e = true → e.on ≠ i) → oi.apart ops oj = true) →
      i ∈ Region.ready md ops listed → YieldsIf P ops S oi v a → S w →
      wpAnyS P md ops Q S fuel (listed.setIfInBounds i true) (a.put oi.dst v) w → wpAnyS P md ops Q S (fuel + 1) listed a w := by
  intro fuel
  induction fuel with
  | zero =>
    intro listed a w _ _ hr hy hS H
    refine ⟨fun h => (by rw [h] at hr; cases hr), fun j hj => ?_⟩
    by_cases hji : j = i
    · subst hji; exact hy.wpOp hi hS ⟨fun _ => hS, H⟩
    · have := ready_mono hj hji
      rw [H.1] at this
      cases this
  | succ fuel ih =>
    intro listed a w hc hfree hr hy hS H
    refine ⟨fun h => (by rw [h] at hr; cases hr), fun j hj => ?_⟩
    by_cases hji : j = i
    · subst hji; exact hy.wpOp hi hS ⟨fun _ => hS, H⟩
    · have h1 := H.2 j (ready_mono hj hji)
      obtain ⟨hjun, oj, hoj, hall⟩ := mem_ready.1 hj
      have hilt : i < ops.size := (Array.getElem?_eq_some_iff.1 hi).1
      have hjlt : j < ops.size := (Array.getElem?_eq_some_iff.1 hoj).1
      have hiun : listed.getD i false = false := by
        have := (mem_ready.1 hr).1
        rw [getD_both (by rw [hc.1]; exact hilt)] at this
        exact this
      have hnot : ∀ e ∈ oj.after, Region.binds md e = true → e.on ≠ i := fun e he hb heq => by
        have h1 := hall e he hb
        rw [heq, hiun] at h1
        cases h1
      -- j is not the last: i has not come up
      have hjl : j + 1 ≠ ops.size := fun e => by
        have := sunk_all hs hc (.inr (by rw [show ops.size - 1 = j by omega]; exact hj)) _ i rfl (by omega)
        rw [hiun] at this
        cases this
      have h2 := wpOp_putIf hoj (hfree j oj hoj hji hjun hnot) (fun cs b => hsel i oi cs b hi) (fun cs b => hsel j oj cs b hoj) hQ hy h1
      have hfree' : ∀ k ok, ops[k]? = some ok → k ≠ i → (listed.setIfInBounds j true).getD k true = false →
          (∀ e ∈ ok.after, Region.binds md e = true → e.on ≠ i) → oi.apart ops ok = true := fun k ok hk hki hun hno => by
        refine hfree k ok hk hki ?_ hno
        by_cases hjk : j = k
        · subst hjk; exact hjun
        · rw [getD_set_ne true hjk] at hun; exact hun
      refine wpOp_mono (fun a' w' h3 => ⟨h3.2.1, ih (listed.setIfInBounds j true) a' w' (hc.set hj) hfree' (ready_mono hr (Ne.symm hji)) h3.1 (h3.2.1 hjl) ?_⟩) h2
      rw [Array.setIfInBounds_comm _ _ hji]
      exact h3.2.2

/-- An operation that stands nowhere. -/
def noOp : Oper := { dst := none, op := .move (.tmp 0), type := 0, pos := "", after := #[], guard := none }
/-- What a batch takes: each may come up, is calm, and apart. -/
def batchOk (md : Region.Mode) (ops : Array Oper) : List Nat → Array Bool → Bool
  | [], _ => true
  | i :: is, l => ((ops[i]?).map (calmKind ·.op)).getD false && Region.free md ops l i && (Region.ready md ops l).contains i && batchOk md ops is (l.setIfInBounds i true)
/-- .. and what has come up behind it. -/
def listAll : List Nat → Array Bool → Array Bool
  | [], l => l
  | i :: is, l => listAll is (l.setIfInBounds i true)

theorem wpAnyS_batch (hs : sunk md ops = true) (hsel : Region.noSelect ops = true) (hQ : ∀ c a d v w, Q (.panic c) (Act.put a d v) w → Q (.panic c) a w) (hcls : ∀ l, Closed md ops l → True) :
    ∀ (is : List Nat) (fuel : Nat) (listed : Array Bool) (a : Act) (w : World), Closed md ops listed → batchOk md ops is listed = true → S w →
      wpQuiet P ops S (fun a' => wpAnyS P md ops Q S fuel (listAll is listed) a' w) (is.map fun i => (ops[i]?).getD noOp) a → wpAnyS P md ops Q S (is.length + fuel) listed a w
  | [], fuel, listed, a, w, _, _, _, h => by rw [show [].length + fuel = fuel by simp]; exact h
  | i :: is, fuel, listed, a, w, hc, hb, hS, h => by
    unfold batchOk at hb
    simp only [Bool.and_eq_true] at hb
    obtain ⟨⟨⟨hk, hf⟩, hr⟩, hb⟩ := hb
    cases ho : ops[i]? with
    | none => simp [ho] at hk
    | some o =>
      simp only [ho, Option.map_some, Option.getD_some] at hk
      rw [List.map_cons, ho, Option.getD_some] at h
      have hr' : i ∈ Region.ready md ops listed := by simpa using hr
      have hlen : (i :: is).length + fuel = (is.length + fuel) + 1 := by simp; omega
      rw [hlen]
      unfold wpQuiet at h
      by_cases hw : Region.wanted o (yielded ops a.tmps) = true
      · rw [if_pos hw] at h
        obtain ⟨v, h1, h2⟩ := h
        refine wpAnyS_first hs ho (Region.noSelect_spec hsel) (fun c a w hh => hQ c a _ v w hh) _ listed a w hc (Region.free_spec ho hf) hr' (.inl ⟨hw, fun w' hw' => ?_⟩) hS (wpAnyS_batch hs hsel hQ hcls is fuel _ _ w (hc.set hr') hb hS h2)
        have h3 := h1 w' hw'
        unfold Oper.quietAt at h3
        cases hx : (execOp a.eval o).run P w' with
        | halt x w1 => rw [hx] at h3; exact absurd h3 (by simp [Oper.quietUpon])
        | ok n w1 =>
          obtain ⟨u, rfl⟩ := calm_value hk hx
          rw [hx] at h3
          obtain ⟨e1, e2⟩ := h3
          rw [e1, e2]
      · rw [if_neg hw] at h
        exact wpAnyS_first hs ho (Region.noSelect_spec hsel) (fun c a w hh => hQ c a _ undef w hh) _ listed a w hc (Region.free_spec ho hf) hr' (.inr ⟨by simpa using hw, rfl⟩) hS (wpAnyS_batch hs hsel hQ hcls is fuel _ _ w (hc.set hr') hb hS h)
end

/-- A way back that no tactic looks into till it is opened. -/
structure Back (p : Prop) : Prop where
  out : p

section
variable {P : Program} {ops : Array Oper} {Q : Exit → Act → World → Prop} {S : World → Prop}

/-- What the walk carries: the order's state, in terms that the kernel reckons. -/
structure Mixed (P : Program) (ops : Array Oper) (Q : Exit → Act → World → Prop) (S : World → Prop) (fuel : Nat) (l : Array Bool) (a : Act) (w : World) : Prop where
  go : Closed .any ops l → wpAnyS P .any ops (NoPanic Q) (InC S) fuel l a w

/-- The beginning. -/
theorem wp_region_mix {id : Nat} {a : Act} {w : World} (S : World → Prop) (hm : P.follows .mixedOrders = true) (hs : sunk .any ops = true) (h : Mixed P ops Q S ops.size (Array.replicate ops.size false) a w.drew) : (Code.region id ops true).wp P Q a w :=
  wp_region_noPanic (wp_region_any hm (wpAny_of_S _ _ _ _ (h.go Closed.start)))

/-- A batch of quiet ones. -/
theorem Mixed.batch {fuel : Nat} {l : Array Bool} {a : Act} {w : World} (is : List Nat) (fuel' : Nat) (hf : fuel = is.length + fuel') (hs : sunk .any ops = true) (hsel : Region.noSelect ops = true)
    (hb : batchOk .any ops is l = true) (hS : S w) (ls : List Oper) (hls : (is.map fun i => (ops[i]?).getD noOp) = ls) (h : ∀ R : Act → Prop, Back (∀ a', Mixed P ops Q S fuel' (listAll is l) a' w → R a') → wpQuiet P ops (InC S) R ls a) : Mixed P ops Q S fuel l a w := by
  subst hf hls
  refine ⟨fun hc => wpAnyS_batch hs hsel (fun _ _ _ _ _ h => h) (fun _ _ => trivial) is fuel' l a w hc hb ⟨⟨w, hS⟩, rfl⟩ ?_⟩
  have hcl : ∀ (is : List Nat) (l : Array Bool), Closed .any ops l → batchOk .any ops is l = true → Closed .any ops (listAll is l) := by
    intro is
    induction is with
    | nil => intro l h _; exact h
    | cons i is ih =>
      intro l h hb
      unfold batchOk at hb
      simp only [Bool.and_eq_true] at hb
      exact ih _ (h.set (by simpa using hb.1.2)) hb.2
  have hcl' := hcl is l hc hb
  have mono : ∀ (R R' : Act → Prop), (∀ a, R a → R' a) → ∀ (xs : List Oper) (a : Act), wpQuiet P ops (InC S) R xs a → wpQuiet P ops (InC S) R' xs a := by
    intro R R' hR xs
    induction xs with
    | nil => intro a h; exact hR _ h
    | cons x xs ih =>
      intro a h
      unfold wpQuiet at h ⊢
      split at h
      · rename_i hw
        rw [if_pos hw]
        exact Oper.quiet_mono (fun a => ih a) h
      · rename_i hw
        rw [if_neg hw]
        exact ih _ h
  exact mono _ _ (fun a h => h.go hcl') _ _ (h _ ⟨fun _ h => h⟩)

/-- One loud operation, which alone may come up. -/
theorem Mixed.one {fuel : Nat} {l : Array Bool} {a : Act} {w : World} (i : Nat) {o : Oper} (fuel' : Nat) (hf : fuel = fuel' + 1) (hr : Region.ready .any ops l = [i]) (ho : ops[i]? = some o)
    (h : ∀ K : Act → World → Prop, Back (∀ a' w', (i + 1 ≠ ops.size → S w') → Mixed P ops Q S fuel' (l.setIfInBounds i true) a' w' → K a' w') → if Region.wanted o (yielded ops a.tmps) = true then Oper.wp P o a w K (NoPanic Q) else K (a.put o.dst undef) w) :
    Mixed P ops Q S fuel l a w := by
  subst hf
  refine ⟨fun hc => ⟨fun h0 => (by rw [hr] at h0; cases h0), fun j hj => ?_⟩⟩
  rw [hr] at hj
  obtain rfl : j = i := by simpa using hj
  have hj' : j ∈ Region.ready .any ops l := by rw [hr]; simp
  have h2 := h (fun a' w' => (j + 1 ≠ ops.size → InC S w') ∧ wpAnyS P .any ops (NoPanic Q) (InC S) fuel' (l.setIfInBounds j true) a' w') ⟨fun a' w' h3 h4 => ⟨fun hne => ⟨⟨w', h3 hne⟩, rfl⟩, h4.go (hc.set hj')⟩⟩
  unfold wpOp
  simp only [ho]
  split at h2
  · rename_i hw
    rw [if_pos hw]
    exact .inl h2
  · rename_i hw
    rw [if_neg hw]
    exact h2

/-- All have come up. -/
theorem Mixed.done {l : Array Bool} {a : Act} {w : World} {fuel : Nat} (hr : Region.ready .any ops l = []) (h : Q .normal a w) : Mixed P ops Q S fuel l a w := by
  refine ⟨fun _ => ?_⟩
  cases fuel with
  | zero => exact ⟨hr, NoPanic.normal h⟩
  | succ n => exact ⟨fun _ => NoPanic.normal h, by rw [hr]; simp⟩
end

/-- A conversion whose run is known. -/
theorem quiet_convert {P : Program} {C : World → Prop} {o : Oper} {a : Act} {K : Act → Prop} (src dst : TypeId) (x : Operand) (ho : o.op = .convert src dst x) (u : Value) (hx : a.eval x = u) (v : Value)
    (hc : ∀ w, C w → (convert src dst u).run P w = .ok v w) (h : K (a.put o.dst v)) : o.quiet P a C K := by
  refine ⟨v, fun w hw => ?_, h⟩
  unfold Oper.quietAt execOp
  simp only [ho, hx, Sem.run_bind, Sem.run_pure, Result.andThen_ok, hc w hw, Oper.quietUpon, and_self]
theorem keep_cell {F : Nat → Prop} {W : World} {p : Addr} {v : Value} (h : W.cell? p = some v) (hf : ¬ F p.block) : ∀ w', Keep F W w' → w'.cell? p = some v :=
  fun _ hk => (hk.cell (World.block_lt_of_cell? W p h) hf).trans h
end Go.Cof
