/- slices.SortFunc on a row of names of the call's own. -/
import Derived.Test.YtimfmbcihopaaaaGreatDoorMapT
import Derived.Shelf.SlSortCmp.NoneTotal
namespace Go.Proofs.YtimfmbcihopaaaaGreatDoor
open Go.RowKit Go.Cof Go.Sort Go.Shelf

def namesV (l : List (Bv 16)) : List Value := l.flatMap encB
theorem namesV_length (l : List (Bv 16)) : (namesV l).length = l.length * 16 := by
  induction l with
  | nil => rfl
  | cons a l ih =>
    have h : namesV (a :: l) = encB a ++ namesV l := rfl
    rw [h, List.length_append, ih, encB_len, List.length_cons, Nat.add_mul, Nat.one_mul, Nat.add_comm]
theorem namesV_append (l k : List (Bv 16)) : namesV (l ++ k) = namesV l ++ namesV k := by simp [namesV]
theorem namesV_one (l : List (Bv 16)) : ∀ u ∈ namesV l, u.oneCell' = true := by
  intro u hu
  obtain ⟨a, _, h⟩ := List.mem_flatMap.1 hu
  exact encB_one a u h

/-- What Names hands out: a row of its own with the names in order. -/
def Sorted (w w' : World) (l : List (Bv 16)) (e : Ending) : Prop :=
  ∃ A cap, e = .returned (.slice A l.length cap) ∧ Below w.heap.size w w' ∧
    (0 < l.length → ∃ g, ∃ d : Array (Bv 16), A = some ⟨g, 0, none⟩ ∧ w.heap.size ≤ g ∧ g < w'.heap.size ∧ HoldsK encB 16 w' g 0 d ∧ l.length ≤ cap ∧ cap ≤ maxLen ∧ d.toList.Perm l ∧ SortedIn (ltOf cfB) 0 d.size d)


theorem namesV_get : ∀ (N : List (Bv 16)) (i r : Nat) (hi : i < N.length), r < 16 → (namesV N)[i * 16 + r]? = (encB N[i])[r]?
  | [], i, _, hi, _ => by simp at hi
  | a :: N, 0, r, _, hr => by
    have h : namesV (a :: N) = encB a ++ namesV N := rfl
    rw [h, Nat.zero_mul, Nat.zero_add, List.getElem?_append_left (by rw [encB_len]; exact hr)]
    rfl
  | a :: N, i + 1, r, hi, hr => by
    have h : namesV (a :: N) = encB a ++ namesV N := rfl
    rw [h, List.getElem?_append_right (by rw [encB_len]; omega), encB_len, show (i + 1) * 16 + r - 16 = i * 16 + r by omega, namesV_get N i r (by simpa using hi) hr]
    rfl
theorem flat_names (N : List (Bv 16)) (j : Nat) (h : j < N.length * 16) : (namesV N)[j]? = some ((flatK encB 16 N.toArray)[j]!) := by
  have hi : j / 16 < N.length := by omega
  have hr : j % 16 < 16 := by omega
  rw [get_flatK encB 16 N.toArray j (by simpa using h)]
  have h1 := namesV_get N (j / 16) (j % 16) hi hr
  rw [show j / 16 * 16 + j % 16 = j by omega] at h1
  have h2 : N.toArray[j / 16]! = N[j / 16] := by simp [hi]
  rw [h1, h2, getElem!_pos _ (j % 16) (by rw [encB_len]; exact hr), List.getElem?_eq_getElem (by rw [encB_len]; exact hr)]

theorem grownBy_sortedK {w : World} {g n : Nat} {os : Array Obj} (d : Array (Bv 16)) : w.grownBy (grow (putRowK encB 16 (Sort.ahead w n) g 0 d) os) (some g) := by
  refine ⟨rfl, rfl, rfl, by simp [putRowK], fun k hk hne => ?_⟩
  rw [heap_grow_old _ _ (by simpa [putRowK] using hk)]
  have : g ≠ k := fun e => hne (by rw [e])
  simp [putRowK, putRow, mapBlock, Sort.ahead, Array.getElem?_modify, this]

theorem Tryz.isAgg65 : ∀ w : World, (isAgg 65).run Tryz.prog w = .ok true w := fun w => by
  unfold isAgg
  rw [Sem.run_bind, run_underlying Tryz.underlying65 w]
  rfl
theorem Tryz.sizeOfName : ∀ w : World, (sizeOf 65).run Tryz.prog w = .ok 16 w := fun w => by
  have hi : (Tryz.prog.info? 65).map (·.size) = some 16 := by kernel_rfl
  cases hq : Tryz.prog.info? 65 with
  | none => simp [hq] at hi
  | some i => 
    have : i.size = 16 := by simpa [hq] using hi
    simp [sizeOf, typeInfo, hq, this]

theorem sortN_any (base : Nat) (v : Value) (N : List (Bv 16)) (w : World) (hown : w.ownsRow base 65 16 v N.length (namesV N)) (hN : N.length ≤ 1000000) (hb : base ≤ w.heap.size) :
    Calls Tryz.prog 52 #[v, .func (.func 53) #[] #[]] w fun e w' => e = .returned (.tuple #[]) ∧ RowKit.Below base w w' ∧ ∃ A cap, v = .slice A N.length cap ∧
      (0 < N.length → ∃ g, ∃ d : Array (Bv 16), A = some ⟨g, 0, none⟩ ∧ base ≤ g ∧ g < w'.heap.size ∧ HoldsK encB 16 w' g 0 d ∧ N.length ≤ cap ∧ cap ≤ maxLen ∧ d.toList.Perm N ∧ SortedIn (ltOf cfB) 0 d.size d) := by
  rcases Nat.eq_zero_or_pos N.length with h0 | h0
  · obtain ⟨A, cap, rfl, _⟩ := own_form hown
    have h := AnyF.slices_SortFunc_none { Tryz.sortNames with } A cap (.func (.func 53) #[] #[]) w
    rw [h0]
    refine Calls.mono h ?_
    rintro e w' ⟨rfl, rfl⟩
    exact ⟨rfl, RowKit.Below.refl _ _, A, cap, rfl, fun h => by omega⟩
  · rcases hown.2 with ⟨_, hn⟩ | ⟨g, cap, cur, rfl, hbg, hg, hnc, hcm, hcs, hct⟩
    · omega
    · have hgl : g < w.heap.size := (Array.getElem?_eq_some_iff.1 hg).1
      have hH : HoldsK encB 16 w g 0 N.toArray := by
        intro j hj
        have hj2 : j < N.length * 16 := by simpa using hj
        rw [Nat.zero_add]
        refine ⟨?_, frozen_of_row w g j _ _ hg⟩
        have := hown.cellAt j hj2
        rw [flat_names N j hj2] at this
        exact this
      have hcon := AnyQ.slices_SortFunc Tryz.sortNames 16 Tryz.isAgg65 Tryz.sizeOfName encB encB_len encB_one cfB swoB 53 #[] g 0 cap N.toArray w
        (enters_of Tryz.func53 (by kernel_rfl) rfl) (fun _ _ _ _ x y => order_any x y _) hH hgl (by simp; omega)
      change Calls Tryz.prog 52 _ _ _ at hcon
      have hcon2 : Calls Tryz.prog 52 #[.slice (some ⟨g, 0, none⟩) N.length cap, .func (.func 53) #[] #[]] w fun e w' => e = .returned (.tuple #[]) ∧ ∃ d' n os, PermIn 0 N.toArray.size N.toArray d' ∧ SortedIn (ltOf cfB) 0 N.toArray.size d' ∧ w' = sortWorldK encB 16 w g 0 n d' os := by
        simpa using hcon
      refine Calls.mono hcon2 ?_
      rintro e w' ⟨rfl, d', n, os, hp, hs, rfl⟩
      have hsz : d'.size = N.length := by simpa using hp.1
      have hgr := grownBy_sortedK (w := w) (g := g) (n := n) (os := os) d'
      refine ⟨rfl, (RowKit.Below.refl _ _).grown hgr hb (fun k hk => by cases hk; exact hbg), _, _, rfl, fun _ => ⟨g, d', rfl, hbg, ?_, ?_, hnc, hcm, ?_, ?_⟩⟩
      · have := hgr.size
        unfold sortWorldK
        omega
      · exact holdsK_grow encB 16 _ _ _ _ _ (by rw [size_putRowK]; exact hgl) (holdsK_putRowK encB 16 _ _ _ N.toArray d' hH (by simpa using hsz))
      · have h3 := hp.2.2
        rw [show N.toArray.size = d'.size by rw [hsz]; simp, Array.extract_size] at h3
        rw [show N.toArray.extract 0 d'.size = N.toArray by rw [hsz]; simp] at h3
        exact h3
      · rw [hsz]; simpa using hs
end Go.Proofs.YtimfmbcihopaaaaGreatDoor
