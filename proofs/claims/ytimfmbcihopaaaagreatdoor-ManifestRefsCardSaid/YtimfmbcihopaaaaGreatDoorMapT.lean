/- A body's parts as lists; Pack.right, ContainsFunc. -/
import Derived.Test.YtimfmbcihopaaaaGreatDoorMapR
import Derived.Deep.MidRow
namespace Go.Proofs.YtimfmbcihopaaaaGreatDoor
open Go.RowKit Go.Cof

structure BlobA where
  name : Bv 16
  sum : Bv 32
  deriving DecidableEq
structure PackA where
  key : Bv 32
  count : Int
  blobs : List BlobA
  deriving DecidableEq
structure RefA where
  name : List UInt8
  id : Bv 32
  deriving DecidableEq
structure BodyA where
  gen : Nat
  epoch : Nat
  writer : Int
  stamp : Nat
  refs : List RefA
  packs : List PackA
  deriving DecidableEq

/-- The cells of a blob, of a reference, of a pack. -/
def BlobC (x : BlobA) (cs : List Value) : Prop := cs = encB x.name ++ encB x.sum
def RefC (r : RefA) (cs : List Value) : Prop := cs = strV r.name :: encB r.id ∧ r.name.length ≤ 140737488351232
def PackC (w : World) (S : Nat → Prop) (p : PackA) (cs : List Value) : Prop :=
  ∃ A cap xs, cs = encB p.key ++ [.int .i64 p.count, .slice A p.blobs.length cap] ∧ Rd w S 48 A p.blobs.length xs ∧ Els BlobC p.blobs xs ∧ p.blobs.length ≤ 140737488351232 ∧ (-9223372036854775808 ≤ p.count ∧ p.count ≤ 9223372036854775807)

theorem BlobC.len (x : BlobA) (cs : List Value) (h : BlobC x cs) : cs.length = 48 := by rw [h, List.length_append, encB_len, encB_len]
theorem BlobC.one (x : BlobA) (cs : List Value) (h : BlobC x cs) : ∀ u ∈ cs, u.oneCell' = true := by
  rw [h]; intro u hu
  rcases List.mem_append.1 hu with hu | hu <;> exact encB_one _ u hu
theorem RefC.len (x : RefA) (cs : List Value) (h : RefC x cs) : cs.length = 33 := by rw [h.1, List.length_cons, encB_len]
theorem RefC.one (x : RefA) (cs : List Value) (h : RefC x cs) : ∀ u ∈ cs, u.oneCell' = true := by
  rw [h.1]; intro u hu
  rcases List.mem_cons.1 hu with rfl | hu
  · rfl
  · exact encB_one _ u hu
section
variable {w w' : World} {S S' F : Nat → Prop}
theorem PackC.len (x : PackA) (cs : List Value) (h : PackC w S x cs) : cs.length = 34 := by obtain ⟨A, cap, xs, rfl, _⟩ := h; rw [List.length_append, encB_len]; rfl
theorem PackC.one (x : PackA) (cs : List Value) (h : PackC w S x cs) : ∀ u ∈ cs, u.oneCell' = true := by
  obtain ⟨A, cap, xs, rfl, _⟩ := h; intro u hu
  rcases List.mem_append.1 hu with hu | hu
  · exact encB_one _ u hu
  · simp at hu; rcases hu with rfl | rfl <;> rfl
theorem PackC.keep (hk : Keep F w w') (hd : ∀ b, S b → b < w.heap.size → ¬ F b) (p : PackA) (c : List Value) (h : PackC w S p c) : PackC w' S p c := by
  obtain ⟨A, cap, xs, rfl, hr, h2⟩ := h
  exact ⟨A, cap, xs, rfl, hr.keep hk hd, h2⟩
theorem PackC.mono (hs : ∀ b, b < w.heap.size → S b → S' b) (p : PackA) (c : List Value) (h : PackC w S p c) : PackC w S' p c := by
  obtain ⟨A, cap, xs, rfl, hr, h2⟩ := h
  exact ⟨A, cap, xs, rfl, hr.mono hs, h2⟩
end

/-- May a pack be? -/
def packOk (p : PackA) : Bool := decide (0 ≤ p.count ∧ p.count ≤ 256 ∧ 0 < p.blobs.length ∧ p.blobs.length ≤ 48)

theorem at32 (k : List Value) (a b : Value) (h : k.length = 32) : (k ++ [a, b])[32]? = some a ∧ (k ++ [a, b])[33]? = some b := by
  constructor
  · rw [List.getElem?_append_right (by omega), h]; rfl
  · rw [List.getElem?_append_right (by omega), h]; rfl

set_option maxHeartbeats 4000000 in
set_option maxRecDepth 100000 in
theorem right_any (S : Nat → Prop) (p : PackA) (cs : List Value) (w w0 : World) (h : PackC w0 S p cs) :
    Calls Tryz.prog 23 #[.agg cs.toArray] w fun e w' => e = .returned (.bool (packOk p)) ∧ Below w.heap.size w w' := by
  have hlen := PackC.len p cs h
  obtain ⟨A, cap, xs, rfl, _, _, hbl, hc1, hc2⟩ := h
  obtain ⟨h32, h33⟩ := at32 (encB p.key) (.int .i64 p.count) (.slice A p.blobs.length cap) (encB_len _)
  generalize encB p.key ++ [.int .i64 p.count, .slice A p.blobs.length cap] = cs at h32 h33 hlen ⊢
  have e32 : cs[32]'(by omega) = .int .i64 p.count := (List.getElem?_eq_some_iff.1 h32).2
  have e33 : cs[33]'(by omega) = .slice A p.blobs.length cap := (List.getElem?_eq_some_iff.1 h33).2
  unfold packOk
  by_cases h1 : 0 ≤ p.count
  · by_cases h2 : p.count ≤ 256
    · by_cases h3 : 0 < p.blobs.length
      · by_cases h4 : p.blobs.length ≤ 48
        · rw [decide_eq_true ⟨h1, h2, h3, h4⟩]
          go_enter Tryz.func23, Tryz.ntmps23
          go_wp2_with fail
          go_ret
          exact ⟨by first | rfl | (refine congrArg (fun b => Ending.returned (Value.bool b)) (Bool.eq_iff_iff.2 ?_); simp; omega), (Below.refl _ _).alloc (Nat.le_refl _) _⟩
        · rw [decide_eq_false (fun h => h4 h.2.2.2)]
          go_enter Tryz.func23, Tryz.ntmps23
          go_wp2_with fail
          go_ret
          exact ⟨by first | rfl | (refine congrArg (fun b => Ending.returned (Value.bool b)) (Bool.eq_iff_iff.2 ?_); simp; omega), (Below.refl _ _).alloc (Nat.le_refl _) _⟩
      · rw [decide_eq_false (fun h => h3 h.2.2.1)]
        go_enter Tryz.func23, Tryz.ntmps23
        go_wp2_with fail
        go_ret
        exact ⟨by first | rfl | (refine congrArg (fun b => Ending.returned (Value.bool b)) (Bool.eq_iff_iff.2 ?_); simp; omega), (Below.refl _ _).alloc (Nat.le_refl _) _⟩
    · rw [decide_eq_false (fun h => h2 h.2.1)]
      go_enter Tryz.func23, Tryz.ntmps23
      go_wp2_with fail
      go_ret
      exact ⟨by first | rfl | (refine congrArg (fun b => Ending.returned (Value.bool b)) (Bool.eq_iff_iff.2 ?_); simp; omega), (Below.refl _ _).alloc (Nat.le_refl _) _⟩
  · rw [decide_eq_false (fun h => h1 h.1)]
    go_enter Tryz.func23, Tryz.ntmps23
    go_wp2_with fail
    go_ret
    exact ⟨by first | rfl | (refine congrArg (fun b => Ending.returned (Value.bool b)) (Bool.eq_iff_iff.2 ?_); simp; omega), (Below.refl _ _).alloc (Nat.le_refl _) _⟩

set_option maxHeartbeats 4000000 in
set_option maxRecDepth 100000 in
theorem wrongP_any (S : Nat → Prop) (p : PackA) (cs : List Value) (w w0 : World) (h : PackC w0 S p cs) :
    Calls Tryz.prog 22 #[.agg cs.toArray] w fun e w' => e = .returned (.bool (!packOk p)) ∧ Below w.heap.size w w' := by
  have hlen := PackC.len p cs h
  have hsz : (Tryz.prog.info? 61).map (·.size) = some cs.length := by rw [hlen]; kernel_rfl
  have H := hide h
  clear h
  go_enter Tryz.func22, Tryz.ntmps22
  go_wp2_with (first | (refine wpList_load_row rfl 61 (.tmp 1) rfl w.heap.size rfl 61 cs.toArray (0, 0) _ (heap_alloc_new _ _) Tryz.underlying61 rfl (by simpa using hsz) ?_) | (go_at_call 23; refine (right_any S p cs _ w0 H.out).mono ?_; rintro e w1 ⟨rfl, hb1⟩))
  go_ret
  exact ⟨rfl, ((Below.refl _ w).alloc (Nat.le_refl _) _).trans (hb1.mono (by simp))⟩

/-- Els with ranges: the element i of a slice read out of memory. -/
theorem rd_range {α : Type} {w : World} {S : Nat → Prop} {E : α → List Value → Prop} {sz n : Nat} {l : List α} {xs : List Value} {b off : Nat} (hr : Rd w S sz (some ⟨b, off, none⟩) n xs) (he : Els E l xs) (hn : l.length = n) (hE : ∀ a c, E a c → c.length = sz) {i : Nat} (hi : i < l.length) :
    ∃ c, E l[i] c ∧ c.length = sz ∧ w.rangeAt b (off + i * sz) c := by
  obtain ⟨c, hc, hl, hx⟩ := he.get hE hi
  refine ⟨c, hc, hl, fun j v hj => ?_⟩
  have hjs : j < sz := by have := (List.getElem?_eq_some_iff.1 hj).1; omega
  have h1 : i * sz + j < n * sz := by
    have : (i + 1) * sz ≤ n * sz := Nat.mul_le_mul_right _ (by omega)
    rw [Nat.add_mul] at this
    omega
  rw [Nat.add_assoc, hr.cell rfl h1, hx j hjs, hj]
theorem range_keep {w w' : World} {F : Nat → Prop} {b o : Nat} {cs : List Value} (h : w.rangeAt b o cs) (hk : Keep F w w') (hb : b < w.heap.size) (hf : ¬ F b) : w'.rangeAt b o cs :=
  fun j v hj => (hk.cell (p := ⟨b, o + j, none⟩) hb hf).trans (h j v hj)

set_option maxHeartbeats 4000000 in
set_option maxRecDepth 100000 in
theorem indexP_any (A : Option Addr) (cap : Nat) (l : List PackA) (S T : Nat → Prop) (xs : List Value) (w : World) (hr : Rd w S 34 A l.length xs) (hp : Els (PackC w T) l xs) (hl : l.length ≤ 140737488351232) :
    Calls Tryz.prog 54 #[.slice A l.length cap, .func (.func 22) #[] #[]] w fun e w' => (∃ r : Int, e = .returned (.int .i64 r) ∧ (0 ≤ r ↔ l.all packOk = false)) ∧ Below w.heap.size w w' := by
  have Hr := hide hr
  have Hp := hide hp
  clear hr hp
  go_enter Tryz.func54, Tryz.ntmps54
  go_wp2_with fail
  go_loopw [8] (fun i wr => ∃ k : Nat, k ≤ l.length ∧ i = .int .i64 k ∧ (∀ p ∈ l.take k, packOk p = true) ∧ Below w.heap.size w wr) (fun i _ => l.length - (intOf i).toNat)
  case atStart => exact ⟨0, Nat.zero_le _, rfl, by simp, Below.refl _ _⟩
  case round =>
    obtain ⟨k, hk, rfl, hno, hb⟩ := hrel
    have Hno := hide hno
    have Hb := hide hb
    clear hno hb
    by_cases hlt : k < l.length
    · obtain ⟨b, off, rfl, _, hbl, _⟩ := Hr.out.at_ (by omega)
      obtain ⟨c, hc, hcl, hrg⟩ := rd_range Hr.out Hp.out rfl (fun p c => PackC.len p c) hlt
      have hrg2 := hide (range_keep hrg (Keep.of_none Hb.out) hbl (fun f => f))
      have Hc := hide hc
      have hsz := hide (show (Tryz.prog.info? 61).map (·.size) = some c.length by rw [hcl]; kernel_rfl)
      clear hrg hc hcl
      go_wp2_with (first | (refine wpList_load_mid rfl 61 (.tmp 14) rfl b (off + k * 34) rfl c _ hrg2.out Tryz.underlying61 rfl hsz.out ?_) | (go_at_call 22; refine (wrongP_any T _ c _ w Hc.out).mono ?_; rintro e w1 ⟨rfl, hb1⟩))
      · rename_i hnot
        go_ret
        refine ⟨⟨k, rfl, fun _ => ?_, fun _ => by omega⟩, Hb.out.trans (hb1.mono Hb.out.size)⟩
        refine List.all_eq_false.2 ⟨l[k], List.getElem_mem hlt, by simpa using hnot⟩
      · rename_i hnot
        refine ⟨⟨k + 1, by omega, by go_num, ?_, Hb.out.trans (hb1.mono Hb.out.size)⟩, by simp [intOf]; omega⟩
        intro p hp
        rw [List.take_succ_eq_append_getElem hlt, List.mem_append, List.mem_singleton] at hp
        rcases hp with hp | rfl
        · exact Hno.out p hp
        · simpa using hnot
    · go_wp2
      go_ret
      refine ⟨⟨-1, rfl, ?_⟩, Hb.out⟩
      refine ⟨fun h => by omega, fun h => ?_⟩
      have : l.all packOk = true := List.all_eq_true.2 (fun p hp => Hno.out p (by rw [List.take_of_length_le (by omega)]; exact hp))
      rw [this] at h
      cases h

set_option maxHeartbeats 400000 in
theorem containsP_any (A : Option Addr) (cap : Nat) (l : List PackA) (S T : Nat → Prop) (xs : List Value) (w : World) (hr : Rd w S 34 A l.length xs) (hp : Els (PackC w T) l xs) (hl : l.length ≤ 140737488351232) :
    Calls Tryz.prog 21 #[.slice A l.length cap, .func (.func 22) #[] #[]] w fun e w' => e = .returned (.bool (!l.all packOk)) ∧ Below w.heap.size w w' := by
  go_enter Tryz.func21, Tryz.ntmps21
  go_wp2_with (go_at_call 54; refine (indexP_any _ _ l S T xs _ hr hp hl).mono ?_; rintro e w1 ⟨⟨r, rfl, hr1⟩, hb1⟩; have Hr := hide hr1; clear hr1)
  go_ret
  refine ⟨congrArg (fun b => Ending.returned (Value.bool b)) (Bool.eq_iff_iff.2 ?_), hb1⟩
  have := Hr.out
  simp only [decide_eq_true_eq, Bool.not_eq_true']
  exact this
end Go.Proofs.YtimfmbcihopaaaaGreatDoor
