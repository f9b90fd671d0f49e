/- wire's Reader: New, fail, fine, Left, take, Raw, Wrong. -/
import Derived.Test.YtahhglhebcooaaaGreatDoorWrJ
namespace Go.Proofs.YtahhglhebcooaaaGreatDoor
open Go.RowKit Go.Cof

theorem addr_plus (b off k : Nat) : (⟨b, off, none⟩ : Addr).add k = ⟨b, off + k, none⟩ := by unfold Addr.add; split <;> simp_all
/-- What is wrong, as an error. -/
def evV (bad : Nat) : Value := if bad = 0 then .nilIface else errV bad

/-- A reader at block b, with the bytes l left, and bad wrong. -/
structure RdrAt (w : World) (B : Nat → Prop) (b : Nat) (A : Option Addr) (cap : Nat) (l : List UInt8) (bad : Nat) : Prop where
  obj : w.heap[b]? = some (.cells #[.slice A l.length cap, evV bad] 137 (0, 0))
  rd : Rd w (fun i => B i ∧ i ≠ b) 1 A l.length (bytesV l)
  capL : l.length ≤ cap ∧ cap ≤ maxLen
  few : l.length ≤ 1073741824
  low : B b
  non : bad ≠ 0 → l = []

section
variable {w w' : World} {B : Nat → Prop} {b cap bad : Nat} {A : Option Addr} {l : List UInt8}
theorem RdrAt.lt (h : RdrAt w B b A cap l bad) : b < w.heap.size := (Array.getElem?_eq_some_iff.1 h.obj).1
theorem RdrAt.keep {F : Nat → Prop} (h : RdrAt w B b A cap l bad) (hk : Keep F w w') (hf : ∀ i, B i → i < w.heap.size → ¬ F i) : RdrAt w' B b A cap l bad :=
  ⟨(hk.block b h.lt (hf b h.low h.lt)).trans h.obj, h.rd.keep hk (fun i hi hlt => hf i hi.1 hlt), h.capL, h.few, h.low, h.non⟩
theorem RdrAt.below (h : RdrAt w B b A cap l bad) (hk : Below w.heap.size w w') : RdrAt w' B b A cap l bad := h.keep (Keep.of_none hk) (fun _ _ _ f => f)
theorem RdrAt.alloc (h : RdrAt w B b A cap l bad) (o : Obj) : RdrAt (w.alloc o) B b A cap l bad := h.below ((Below.refl _ _).alloc (Nat.le_refl _) _)
theorem RdrAt.drew (h : RdrAt w B b A cap l bad) : RdrAt w.drew B b A cap l bad := h.keep ((Keep.refl (fun _ => False) w).drew) (fun _ _ _ f => f)
theorem RdrAt.c0 (h : RdrAt w B b A cap l bad) : w.cell? ⟨b, 0, none⟩ = some (.slice A l.length cap) := cell_of_row w b 0 _ _ _ h.obj
theorem RdrAt.c1 (h : RdrAt w B b A cap l bad) : w.cell? ⟨b, 1, none⟩ = some (evV bad) := cell_of_row w b 1 _ _ _ h.obj
theorem RdrAt.f0 (h : RdrAt w B b A cap l bad) : w.frozen? ⟨b, 0, none⟩ = false := frozen_of_row w b 0 _ _ h.obj
theorem RdrAt.f1 (h : RdrAt w B b A cap l bad) : w.frozen? ⟨b, 1, none⟩ = false := frozen_of_row w b 1 _ _ h.obj
end

theorem RdrAt.mono {w : World} {B B' : Nat → Prop} {b cap bad : Nat} {A : Option Addr} {l : List UInt8} (h : RdrAt w B b A cap l bad) (hs : ∀ i, i < w.heap.size → B i → B' i) : RdrAt w B' b A cap l bad :=
  ⟨h.obj, h.rd.mono (fun i hi hh => ⟨hs i hi hh.1, hh.2⟩), h.capL, h.few, hs b h.lt h.low, h.non⟩
/-- Some reader there. -/
def RdrIn (w : World) (B : Nat → Prop) (b : Nat) (l : List UInt8) (bad : Nat) : Prop := ∃ A cap, RdrAt w B b A cap l bad

set_option maxHeartbeats 4000000 in
theorem rnew_any (S : Nat → Prop) (A : Option Addr) (cap : Nat) (l : List UInt8) (w : World) (hr : Rd w S 1 A l.length (bytesV l)) (hl : l.length ≤ 1073741824) :
    Calls Tryz.prog 49 #[.slice A l.length cap] w fun e w' => ∃ b, e = .returned (.pointer (some ⟨b, 0, none⟩)) ∧ RdrIn w' (fun i => w.heap.size ≤ i) b l 0 ∧ Below w.heap.size w w' := by
  have Hr := hide hr
  clear hr
  go_enter Tryz.func49, Tryz.ntmps49
  go_wp2_with (go_at_call 40; refine (clone_any _ _ _ _ _ Hr.out (by omega)).mono ?_; rintro e w1 ⟨A1, cap1, rfl, hR1, hb1⟩)
  go_ret
  refine ⟨w1.heap.size, rfl, ⟨A1, cap1, heap_alloc_new w1 _, ?_, own_caps hR1, hl, hb1.size, fun h => absurd rfl h⟩, hb1.alloc hb1.size _⟩
  refine Rd.alloc ⟨hR1.1, fun hn => ?_⟩ _
  obtain ⟨g, off, e, hs, hg, hc⟩ := (Rd.of_own (S := fun i => w.heap.size ≤ i) hR1 (fun _ _ h => h)).at_ hn
  exact ⟨g, off, e, ⟨hs, by omega⟩, hg, hc⟩

set_option maxHeartbeats 4000000 in
theorem rfail_any (B : Nat → Prop) (b cap : Nat) (A : Option Addr) (l : List UInt8) (bad n : Nat) (w : World) (h : RdrAt w B b A cap l bad) (hn : n ≠ 0) :
    Calls Tryz.prog 77 #[.pointer (some ⟨b, 0, none⟩), .int .i64 n] w fun e w' => e = .returned (.tuple #[]) ∧ RdrIn w' B b [] n ∧ Keep (· = b) w w' := by
  have h0 := h.c0
  have h1 := h.c1
  have f0 := h.f0
  have f1 := h.f1
  have H := hide h
  clear h
  go_enter Tryz.func77, Tryz.ntmps77
  go_wp2
  refine bodyPost_end (results_none rfl _ _ _) rfl ?_
  have hk : Keep (· = b) w ((w.setCell ⟨b, 0, none⟩ (.slice none 0 0)).setCell ⟨b, 1, none⟩ (errV n)) := ((Keep.refl (· = b) w).setCell (p := ⟨b, 0, none⟩) (fun _ => rfl) _).setCell (p := ⟨b, 1, none⟩) (fun _ => rfl) _
  refine ⟨rfl, ⟨none, 0, ?_, Rd.nil _ _ _ _, ⟨Nat.le_refl _, by unfold maxLen; omega⟩, by simp, H.out.low, fun _ => rfl⟩, hk⟩
  rw [heap_setCell_same _ _ _ _ _ _ (heap_setCell_same _ _ _ _ _ _ H.out.obj)]
  simp only [evV, if_neg hn]
  rfl

set_option maxHeartbeats 4000000 in
theorem rfine_any (B : Nat → Prop) (b cap : Nat) (A : Option Addr) (l : List UInt8) (bad : Nat) (w : World) (h : RdrAt w B b A cap l bad) :
    Calls Tryz.prog 75 #[.pointer (some ⟨b, 0, none⟩)] w fun e w' => e = .returned (.bool (bad == 0)) ∧ w' = w := by
  have h1 := h.c1
  have f1 := h.f1
  clear h
  rcases hb : bad == 0 with _ | _
  · have hb2 : ¬ bad = 0 := by simpa using hb
    simp only [evV, if_neg hb2] at h1
    clear hb hb2
    go_enter Tryz.func75, Tryz.ntmps75
    go_wp2
    go_ret
    exact ⟨rfl, rfl⟩
  · obtain rfl : bad = 0 := by simpa using hb
    simp only [evV, if_true] at h1
    go_enter Tryz.func75, Tryz.ntmps75
    go_wp2
    go_ret
    exact ⟨rfl, rfl⟩

set_option maxHeartbeats 4000000 in
theorem rleft_any (B : Nat → Prop) (b cap : Nat) (A : Option Addr) (l : List UInt8) (bad : Nat) (w : World) (h : RdrAt w B b A cap l bad) :
    Calls Tryz.prog 88 #[.pointer (some ⟨b, 0, none⟩)] w fun e w' => e = .returned (.int .i64 l.length) ∧ w' = w := by
  have h0 := h.c0
  have f0 := h.f0
  clear h
  go_enter Tryz.func88, Tryz.ntmps88
  go_wp2
  go_ret
  exact ⟨rfl, rfl⟩

/-- The reader's bytes cut. -/
theorem RdrAt.cut {w : World} {B : Nat → Prop} {b cap : Nat} {A : Option Addr} {l : List UInt8} (H : RdrAt w B b A cap l 0) {k c' : Nat} (hk : k ≤ l.length) {A' : Option Addr} (hA : ∀ g off, A = some ⟨g, off, none⟩ → k < l.length → A' = some ⟨g, off + k, none⟩) (hc : l.length - k ≤ c' ∧ c' ≤ maxLen) :
    RdrAt (w.setCell ⟨b, 0, none⟩ (.slice A' (l.length - k) c')) B b A' c' (l.drop k) 0 := by
  have hd : Rd w (fun i => B i ∧ i ≠ b) 1 A' (l.length - k) ((bytesV l).drop (k * 1)) := H.rd.drop hk (fun g off e h => by rw [Nat.mul_one]; exact hA g off e h)
  refine ⟨?_, ?_, by simpa using hc, by have := H.few; simp; omega, H.low, fun h => absurd rfl h⟩
  · rw [heap_setCell_same _ _ _ _ _ _ H.obj, List.length_drop]
    rfl
  · have h2 := hd.setCell (p := ⟨b, 0, none⟩) (fun i hi _ => hi.2) (.slice A' (l.length - k) c')
    rw [List.length_drop]
    rw [show bytesV (l.drop k) = (bytesV l).drop (k * 1) by simp [bytesV, List.map_drop]]
    exact h2

/-- A reader's bytes and fault, as numbers and lists. -/
abbrev Rs := List UInt8 × Nat
/-- n bytes taken out. -/
def takeR (n : Int) (s : Rs) : List UInt8 × Rs :=
  if n < 1 ∨ s.2 ≠ 0 then ([], s) else if (s.1.length : Int) < n then ([], ([], 10)) else (s.1.take n.toNat, (s.1.drop n.toNat, 0))
/-- What take hands out: a slice that reads as x out of the reader's memory. -/
def Took (w w' : World) (B : Nat → Prop) (b : Nat) (x : List UInt8) (s : Rs) (e : Ending) : Prop :=
  ∃ A cap ok, e = .returned (.tuple #[.slice A x.length cap, .bool ok]) ∧ Rd w' (fun i => B i ∧ i ≠ b) 1 A x.length (bytesV x) ∧ RdrIn w' B b s.1 s.2 ∧ Keep (· = b) w w'

set_option maxHeartbeats 4000000 in
set_option maxRecDepth 100000 in
theorem rtake_any (B : Nat → Prop) (b cap : Nat) (A : Option Addr) (l : List UInt8) (bad : Nat) (n : Int) (w : World) (h : RdrAt w B b A cap l bad) (hn : n ≤ 1073741824) :
    Calls Tryz.prog 73 #[.pointer (some ⟨b, 0, none⟩), .int .i64 n] w fun e w' => Took w w' B b (takeR n (l, bad)).1 (takeR n (l, bad)).2 e := by
  have h0 := h.c0
  have f0 := h.f0
  have H := hide h
  have hcap := h.capL
  have hfew := h.few
  clear h
  by_cases h1 : n < 1
  · have ht : takeR n (l, bad) = ([], (l, bad)) := if_pos (.inl h1)
    rw [ht]
    go_enter Tryz.func73, Tryz.ntmps73
    go_wp2_with fail
    go_ret2
    exact ⟨none, 0, false, rfl, Rd.nil _ _ _ _, ⟨A, cap, H.out⟩, Keep.refl _ _⟩
  · rcases hb : bad == 0 with _ | _
    · have hb2 : bad ≠ 0 := by simpa using hb
      have ht : takeR n (l, bad) = ([], (l, bad)) := if_pos (.inr hb2)
      rw [ht]
      clear ht
      have Hb := hide hb
      clear hb hb2
      go_enter Tryz.func73, Tryz.ntmps73
      go_wp2_with (go_at_call 75; refine (rfine_any B b cap A l bad _ H.out).mono ?_; rw [Hb.out]; rintro e w1 ⟨rfl, rfl⟩)
      go_ret2
      exact ⟨none, 0, false, rfl, Rd.nil _ _ _ _, ⟨A, cap, H.out⟩, Keep.refl _ _⟩
    · obtain rfl : bad = 0 := by simpa using hb
      by_cases h2 : (l.length : Int) < n
      · have ht : takeR n (l, 0) = ([], ([], 10)) := by unfold takeR; rw [if_neg (by simp; omega), if_pos h2]
        rw [ht]
        clear ht
        go_enter Tryz.func73, Tryz.ntmps73
        go_wp2_with (first | (go_at_call 75; refine (rfine_any B b cap A l 0 _ H.out).mono ?_; rintro e w1 ⟨rfl, rfl⟩) | (go_at_call 88; refine (rleft_any B b cap A l 0 _ H.out).mono ?_; rintro e w1 ⟨rfl, rfl⟩) | (go_at_call 77; refine (rfail_any B b cap A l 0 10 _ H.out (by decide)).mono ?_; rintro e w1 ⟨rfl, hR, hk⟩))
        go_ret2
        exact ⟨none, 0, false, rfl, Rd.nil _ _ _ _, hR, hk⟩
      · have ht : takeR n (l, 0) = (l.take n.toNat, (l.drop n.toNat, 0)) := by unfold takeR; rw [if_neg (by simp; omega), if_neg h2]
        rw [ht]
        clear ht
        obtain ⟨k, rfl⟩ : ∃ k : Nat, n = k := ⟨n.toNat, by omega⟩
        rw [Int.toNat_natCast]
        go_enter Tryz.func73, Tryz.ntmps73
        go_wp2_with (first | (go_at_call 75; refine (rfine_any B b cap A l 0 _ H.out).mono ?_; rintro e w1 ⟨rfl, rfl⟩) | (go_at_call 88; refine (rleft_any B b cap A l 0 _ H.out).mono ?_; rintro e w1 ⟨rfl, rfl⟩))
        · go_ret2
          have hkl : k = l.length := by have := hcap.1; omega
          refine ⟨A, k, true, by rw [List.length_take, Nat.min_eq_left (by omega)]; rfl, ?_, ⟨A, 0, H.out.cut (by omega) (fun _ _ _ h => by omega) ⟨by omega, by unfold maxLen; omega⟩⟩, (Keep.refl (· = b) _).setCell (p := ⟨b, 0, none⟩) (fun _ => rfl) _⟩
          have h3 := (H.out.rd.take (k := k) (by omega)).setCell (p := ⟨b, 0, none⟩) (fun i hi _ => hi.2) (.slice A (l.length - k) 0)
          rw [List.length_take, Nat.min_eq_left (by omega), show bytesV (l.take k) = (bytesV l).take (k * 1) by simp [bytesV, List.map_take]]
          exact h3
        · go_ret2
          refine ⟨A, k, true, by rw [List.length_take, Nat.min_eq_left (by omega)]; rfl, ?_, ⟨_, cap - k, H.out.cut (by omega) (fun g off e h => by rw [e, Option.map_some, addr_plus]) ⟨by omega, by have := hcap.2; omega⟩⟩, (Keep.refl (· = b) _).setCell (p := ⟨b, 0, none⟩) (fun _ => rfl) _⟩
          have h3 := (H.out.rd.take (k := k) (by omega)).setCell (p := ⟨b, 0, none⟩) (fun i hi _ => hi.2) (.slice (Option.map (fun x => x.add k) A) (l.length - k) (cap - k))
          rw [List.length_take, Nat.min_eq_left (by omega), show bytesV (l.take k) = (bytesV l).take (k * 1) by simp [bytesV, List.map_take]]
          exact h3

/-- A copy of what take hands out. -/
def Rawed (w w' : World) (B : Nat → Prop) (b : Nat) (x : List UInt8) (s : Rs) (e : Ending) : Prop :=
  ∃ A cap, e = .returned (.slice A x.length cap) ∧ w'.ownsRow w.heap.size 5 1 (.slice A x.length cap) x.length (bytesV x) ∧ RdrIn w' B b s.1 s.2 ∧ Keep (· = b) w w'

theorem takeR_len (n : Int) (s : Rs) (h : s.1.length ≤ 1073741824) : (takeR n s).1.length ≤ 1073741824 := by
  unfold takeR
  split
  · simp
  · split
    · simp
    · simp; omega

set_option maxHeartbeats 4000000 in
set_option maxRecDepth 100000 in
theorem rraw_any (B : Nat → Prop) (b cap : Nat) (A : Option Addr) (l : List UInt8) (bad : Nat) (n : Int) (w : World) (h : RdrAt w B b A cap l bad) (hn : n ≤ 1073741824) :
    Calls Tryz.prog 74 #[.pointer (some ⟨b, 0, none⟩), .int .i64 n] w fun e w' => Rawed w w' B b (takeR n (l, bad)).1 (takeR n (l, bad)).2 e := by
  have H := hide h
  have hx := takeR_len n (l, bad) h.few
  clear h
  generalize hT : takeR n (l, bad) = T at hx ⊢
  obtain ⟨x, s⟩ := T
  have HT := hide hT
  clear hT
  simp only at hx ⊢
  go_enter Tryz.func74, Tryz.ntmps74
  go_wp2_with (first | (go_at_call 73; refine (rtake_any B b cap A l bad n _ H.out hn).mono ?_; rw [HT.out]; rintro e w1 ⟨A1, c1, ok1, rfl, hR1, hS1, hk1⟩; have hR1 := hide hR1; have hS1 := hide hS1; have hk1 := hide hk1) | (go_at_call 40; refine (clone_any _ _ _ _ _ hR1.out (by omega)).mono ?_; rintro e w2 ⟨A2, c2, rfl, hR2, hb2⟩))
  go_ret
  obtain ⟨A5, c5, hS5⟩ := hS1.out
  have hsz := hk1.out.size
  refine ⟨A2, c2, rfl, ?_, ⟨A5, c5, hS5.below hb2⟩, hk1.out.trans ((Keep.of_none hb2).mono (fun _ _ f => f.elim))⟩
  refine ⟨hR2.1, ?_⟩
  rcases hR2.2 with hh | ⟨g, cap3, cur, h3, h4, h5⟩
  · exact .inl hh
  · exact .inr ⟨g, cap3, cur, h3, by omega, h5⟩

set_option maxHeartbeats 4000000 in
theorem rwrong_any (B : Nat → Prop) (b cap : Nat) (A : Option Addr) (l : List UInt8) (bad : Nat) (w : World) (h : RdrAt w B b A cap l bad) (hbad : bad = 0 ∨ bad = 3 ∨ bad = 10) :
    Calls Tryz.prog 52 #[.pointer (some ⟨b, 0, none⟩)] w fun e w' => e = .returned (.int .i64 bad) ∧ w' = w := by
  have h1 := h.c1
  have f1 := h.f1
  have H := hide h
  clear h
  rcases hbad with rfl | rfl | rfl
  all_goals
    simp only [evV] at h1
    go_enter Tryz.func52, Tryz.ntmps52
    go_wp2_with (first | (go_at_call 75; refine (rfine_any B b cap A l _ _ H.out).mono ?_; rintro e w1 ⟨rfl, rfl⟩) | (go_at_call 76; refine (isErr_any _ 3 _).mono ?_; rintro e w1 ⟨rfl, rfl⟩))
    go_ret
    exact ⟨rfl, rfl⟩
end Go.Proofs.YtahhglhebcooaaaGreatDoor
