/- What came in, opened: from a reading of data to lists. -/
import Derived.Test.YtahhglhebcooaaaGreatDoorBase
import Derived.ProofKit
import Derived.OpenShut
import Derived.SizedLaws
import Derived.Deep.Slices
namespace Go.Cof
open Go.RowKit Go.Deep

/-- Whatever is read at type t has cells of the kind E. -/
def Opens (P : Program) (w : World) (t : TypeId) {α : Type} (E : α → List Value → Prop) : Prop :=
  ∀ (H : Type) (enc : TypeId × Value → H) (base : Nat) (spare : Nat → Bool) (held : Bool) (fuel : Nat) (cs : List Value) (x : DataW H × List MemPlace),
    DataW.trod enc P w base spare held fuel t cs = some x → (x.1.weights P t).all (· ≤ reachBytes) = true → ∃ a, E a cs

/-- One integer. -/
def IntC (k : IntKind) (n : Int) (cs : List Value) : Prop := cs = [.int k n] ∧ (Lit.int k n).wf = true
/-- One text. -/
def StrC (s : ByteArray) (cs : List Value) : Prop := cs = [.string s] ∧ s.size ≤ 140737488351232
/-- A list behind a slice. -/
def SlC (w : World) (sz by_ : Nat) {α : Type} (E : α → List Value → Prop) (l : List α) (cs : List Value) : Prop :=
  ∃ A cap xs, cs = [.slice A l.length cap] ∧ Rd w (fun b => b < w.heap.size) sz A l.length xs ∧ Els E l xs ∧ l.length ≤ cap ∧ cap ≤ maxLen ∧ l.length * by_ ≤ 140737488351232
/-- Bytes behind a slice. -/
def BytC (w : World) (l : List UInt8) (cs : List Value) : Prop :=
  ∃ A cap, cs = [.slice A l.length cap] ∧ Rd w (fun b => b < w.heap.size) 1 A l.length (bytesV l) ∧ l.length ≤ cap ∧ cap ≤ maxLen ∧ l.length ≤ 140737488351232

section
variable {P : Program} {w : World}

theorem opens_int {t : TypeId} {k : IntKind} (ht : P.underlying t = some (.int k)) : Opens P w t (IntC k) := by
  intro H enc base spare held fuel cs x h _
  obtain ⟨n, rfl, _, hw⟩ := DataW.trod_int ht h
  exact ⟨n, rfl, hw⟩

theorem opens_bool {t : TypeId} (ht : P.underlying t = some .bool) : Opens P w t (fun (b : Bool) cs => cs = [.bool b]) := by
  intro H enc base spare held fuel cs x h _
  obtain ⟨n, rfl, _⟩ := DataW.trod_bool ht h
  exact ⟨n, rfl⟩

theorem opens_string {t : TypeId} (ht : P.underlying t = some .string) : Opens P w t StrC := by
  intro H enc base spare held fuel cs x h hw
  obtain ⟨s, rfl, rfl, _⟩ := DataW.trod_string ht h
  refine ⟨s, rfl, ?_⟩
  simp [DataW.weights, reachBytes] at hw
  exact of_decide_eq_true hw

theorem els_of {α : Type} {E : α → List Value → Prop} (f : Nat → List Value) : ∀ (n : Nat), (∀ i, i < n → ∃ a, E a (f i)) → ∃ l : List α, l.length = n ∧ Els E l ((List.range n).flatMap f)
  | 0, _ => ⟨[], rfl, rfl⟩
  | n + 1, h => by
    obtain ⟨l, hl, he⟩ := els_of f n (fun i hi => h i (by omega))
    obtain ⟨a, ha⟩ := h n (by omega)
    refine ⟨l ++ [a], by simp [hl], ?_⟩
    rw [List.range_succ, List.flatMap_append]
    exact he.append (by simpa using Els.one ha)

theorem flatMap_chunk {f : Nat → List Value} {sz : Nat} : ∀ (n : Nat), (∀ i, i < n → (f i).length = sz) → ((List.range n).flatMap f).length = n * sz ∧ ∀ i j, i < n → j < sz → ((List.range n).flatMap f)[i * sz + j]? = (f i)[j]?
  | 0, _ => ⟨by simp, fun i j hi => by omega⟩
  | n + 1, h => by
    obtain ⟨hl, hc⟩ := flatMap_chunk n (fun i hi => h i (by omega))
    have hs : (List.range (n + 1)).flatMap f = (List.range n).flatMap f ++ f n := by rw [List.range_succ, List.flatMap_append]; simp
    refine ⟨by rw [hs, List.length_append, hl, h n (by omega), Nat.add_mul, Nat.one_mul], fun i j hi hj => ?_⟩
    rw [hs]
    by_cases hin : i < n
    · rw [List.getElem?_append_left (by
        rw [hl]
        have : (i + 1) * sz ≤ n * sz := Nat.mul_le_mul_right _ (by omega)
        rw [Nat.add_mul] at this; omega)]
      exact hc i j hin hj
    · obtain rfl : i = n := by omega
      rw [List.getElem?_append_right (by rw [hl]; omega), hl]
      congr 1
      omega

theorem weightsAll_mem {H : Type} {e : TypeId} : ∀ {ds : List (DataW H)} {d : DataW H}, d ∈ ds → ∀ n ∈ d.weights P e, n ∈ DataW.weightsAll P e ds
  | [], _, h, _, _ => by cases h
  | d' :: ds, d, h, n, hn => by
    simp only [DataW.weightsAll, List.mem_append]
    rcases List.mem_cons.1 h with rfl | h
    · exact .inl hn
    · exact .inr (weightsAll_mem h n hn)

theorem addr_add (b off k : Nat) : (⟨b, off, none⟩ : Addr).add k = ⟨b, off + k, none⟩ := by unfold Addr.add; split <;> simp_all
theorem add_block (a : Addr) (n : Nat) : (a.add n).block = a.block := by unfold Addr.add; split <;> rfl

theorem opens_slice {t e : TypeId} {sz by_ : Nat} {α : Type} {E : α → List Value → Prop} (ht : P.underlying t = some (.slice e)) (hc : P.cellsOf e = sz) (hz : 0 < sz) (hb : P.bytesOf e = by_)
    (he : Opens P w e E) (hE : ∀ a c, E a c → c.length = sz) : Opens P w t (SlC w sz by_ E) := by
  intro H enc base spare held fuel cs x h hw
  rcases DataW.trod_slice ht h with ⟨rfl, _⟩ | ⟨a, len, cap, elems, rest, n, _, rfl, rfl, hbase, hl, hm, hlen, hel, _, _⟩
  · exact ⟨[], none, 0, [], rfl, Rd.nil _ _ _ _, rfl, Nat.le_refl _, by unfold maxLen; omega, by simp⟩
  · have hall : ∀ d ∈ elems.map (·.1), (d.weights P e).all (· ≤ reachBytes) = true := by
      intro d hd
      rw [List.all_eq_true]
      intro k hk
      refine List.all_eq_true.1 hw k ?_
      simp only [DataW.weights, ht, List.mem_cons, List.mem_append]
      exact .inr (.inl (weightsAll_mem hd k hk))
    have hbytes : len * by_ ≤ 140737488351232 := by
      have := List.all_eq_true.1 hw ((elems.length + rest.length) * by_) (by simp [DataW.weights, ht, hb])
      have this := of_decide_eq_true this
      unfold reachBytes at this
      have h2 : len * by_ ≤ (elems.length + rest.length) * by_ := Nat.mul_le_mul_right _ (by omega)
      omega
    have hchunk : ∀ i, i < len → ∃ c, w.cells? base (a.add (i * sz)) sz = some c ∧ ∃ q, E q c := by
      intro i hi
      have := hel i hi
      rw [List.getElem?_eq_getElem (by omega), hc] at this
      obtain ⟨c, h1, h2⟩ := Option.bind_eq_some_iff.1 this
      exact ⟨c, h1, he H enc base spare held n c _ h2 (hall _ (List.mem_map.2 ⟨elems[i], List.getElem_mem _, rfl⟩))⟩
    obtain ⟨f, hf⟩ := choose_lt hchunk
    obtain ⟨l, hll, hels⟩ := els_of f len (fun i hi => (hf i hi).2)
    have hlen2 : ∀ i, i < len → (f i).length = sz := fun i hi => by obtain ⟨q, hq⟩ := (hf i hi).2; exact hE q _ hq
    obtain ⟨hfl, hfc⟩ := flatMap_chunk len hlen2
    subst hll
    refine ⟨l, some a, cap, _, rfl, ⟨hfl, fun hn => ?_⟩, hels, hl, hm, hbytes⟩
    have hcell : ∀ i j, i < l.length → j < sz → w.cell? (a.add (i * sz + j)) = (f i)[j]? := by
      intro i j hi hj
      rw [← add_add]
      exact (World.cells?_some (hf i hi).1).2.2 j hj
    obtain ⟨b, off, spot⟩ := a
    have h00 : w.cell? ⟨b, off, spot⟩ = (f 0)[0]? := by
      have := hcell 0 0 hn hz
      simpa [Addr.add] using this
    have h0s : (f 0)[0]? = some ((f 0)[0]'(by rw [hlen2 0 hn]; exact hz)) := List.getElem?_eq_getElem _
    rw [h0s] at h00
    have hspot : spot = none := World.cell?_spot h00
    subst hspot
    refine ⟨b, off, rfl, World.block_lt_of_cell? _ _ h00, World.block_lt_of_cell? _ _ h00, fun j hj => ?_⟩
    have hdiv : j / sz < l.length := by
      rw [Nat.div_lt_iff_lt_mul hz]; exact hj
    have hj2 : j = j / sz * sz + j % sz := by rw [Nat.mul_comm]; exact (Nat.div_add_mod j sz).symm
    have hmod : j % sz < sz := Nat.mod_lt _ hz
    have h1 := hcell (j / sz) (j % sz) hdiv hmod
    have h2 := hfc (j / sz) (j % sz) hdiv hmod
    rw [← hj2] at h1 h2
    rw [h2, ← h1, addr_add]

theorem opens_bytes {t e : TypeId} (ht : P.underlying t = some (.slice e)) (he : P.underlying e = some (.int .u8)) (hc : P.cellsOf e = 1) (hb : P.bytesOf e = 1) : Opens P w t (BytC w) := by
  intro H enc base spare held fuel cs x h hw
  obtain ⟨l, A, cap, xs, rfl, hr, hels, hl, hm, hs⟩ := opens_slice (w := w) ht hc (by omega) hb (opens_int he) (fun a c h => by rw [h.1]; rfl) H enc base spare held fuel cs x h hw
  have key : ∀ (l : List Int) (xs : List Value), Els (IntC .u8) l xs → xs = bytesV (l.map fun n => UInt8.ofNat n.toNat) := by
    intro l
    induction l with
    | nil => intro xs h; rw [show xs = [] from h]; rfl
    | cons n l ih =>
      intro xs h
      obtain ⟨c, r, rfl, ⟨rfl, hwf⟩, hr⟩ := h
      rw [ih r hr]
      have hb := bounds_u8 hwf
      have hn : ((UInt8.ofNat n.toNat).toNat : Int) = n := by
        have h1 : (UInt8.ofNat n.toNat).toNat = n.toNat % 2 ^ 8 := UInt8.toNat_ofNat'
        rw [h1]
        omega
      simp only [bytesV, List.map_cons, List.cons_append, List.nil_append, hn]
  refine ⟨l.map fun n => UInt8.ofNat n.toNat, A, cap, by rw [List.length_map], ?_, by rw [List.length_map]; exact hl, hm, by rw [List.length_map]; omega⟩
  rw [List.length_map, ← key l xs hels]
  exact hr

/-- A struct's fields, each with its own reading. -/
theorem open_field {t : TypeId} {fs : Array Field} {H : Type} {enc : TypeId × Value → H} {base : Nat} {spare : Nat → Bool} {held : Bool} {fuel : Nat} {cs : List Value} {x : DataW H × List MemPlace}
    (ht : P.underlying t = some (.struct fs)) (h : DataW.trod enc P w base spare held fuel t cs = some x) (hw : (x.1.weights P t).all (· ≤ reachBytes) = true)
    (i : Nat) (ft o n : Nat) (hfo : (fs[i]?).map (fun f => (f.type, f.offset)) = some (ft, o)) (hn : P.cellsOf ft = n) {α : Type} {E : α → List Value → Prop} (he : Opens P w ft E) : ∃ a, E a ((cs.drop o).take n) := by
  obtain ⟨f, hf, hfe⟩ : ∃ f, fs[i]? = some f ∧ (f.type, f.offset) = (ft, o) := by
    cases hq : fs[i]? with
    | none => simp [hq] at hfo
    | some f => exact ⟨f, rfl, by simpa [hq] using hfo⟩
  obtain ⟨rfl, rfl⟩ := Prod.mk.inj hfe
  subst hn
  obtain ⟨xs, n, _, rfl, _, hlen, hall⟩ := DataW.trod_struct ht h
  have h1 := hall i f hf
  have hi : i < xs.length := by
    rw [hlen]
    exact (Array.getElem?_eq_some_iff.1 hf).1
  rw [List.getElem?_eq_getElem hi] at h1
  refine he H enc base spare held n _ _ h1 ?_
  rw [List.all_eq_true]
  intro k hk
  refine List.all_eq_true.1 hw k ?_
  simp only [DataW.weights, ht]
  exact DataW.weights_mem_each (j := i) (t := f.type) (d := xs[i].1) (by simp [hf]) (by simp [List.getElem?_eq_getElem hi]) k hk

theorem open_len {t : TypeId} {fs : Array Field} {H : Type} {enc : TypeId × Value → H} {base : Nat} {spare : Nat → Bool} {held : Bool} {fuel : Nat} {cs : List Value} {x : DataW H × List MemPlace}
    (ht : P.underlying t = some (.struct fs)) (h : DataW.trod enc P w base spare held fuel t cs = some x) : cs.length = P.cellsOf t := by
  obtain ⟨xs, n, _, rfl, hl, _, _⟩ := DataW.trod_struct ht h
  exact hl
end
end Go.Cof
