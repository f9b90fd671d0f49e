/- frame.length. -/
import Derived.Test.YtahhglhebcooaaaGreatDoorFr2
namespace Go.Proofs.YtahhglhebcooaaaGreatDoor
open Go.RowKit Go.Cof Go.Tol

set_option maxHeartbeats 4000000 in
/-- The closure within length: is a place behind the end, or good? -/
theorem is_any (C : Nat) (A : Option Addr) (n c : Nat) (i : Int) (good : Bool) (w : World) (hc : w.cell? ⟨C, 0, none⟩ = some (.slice A n c)) (hi : 0 ≤ i ∧ i ≤ 100) (hn : n ≤ 140737488351232) :
    Calls Tryz.prog 72 #[.int .i64 i, .bool good, .pointer (some ⟨C, 0, none⟩)] w fun e w' => e = .returned (.bool (decide ((n : Int) ≤ i) || good)) ∧ w = w' := by
  obtain ⟨h0, h1⟩ := hi
  by_cases hd : (n : Int) ≤ i
  · go_enter Tryz.func72, Tryz.ntmps72
    go_wp2_with (fail)
    go_ret
    exact ⟨by simp [hd], rfl⟩
  · go_enter Tryz.func72, Tryz.ntmps72
    go_wp2_with (fail)
    go_ret
    exact ⟨by rw [show decide ((n : Int) ≤ i) = false by simpa using hd]; rfl, rfl⟩

theorem takeR_all (l : List UInt8) (n : Nat) (h : l.length = n) (hn : 0 < n) : takeR (n : Int) (l, 0) = (l, ([], 0)) := by
  unfold takeR
  rw [if_neg (by simp; omega), if_neg (by simp; omega)]
  simp only [Int.toNat_natCast, ← h, List.take_length, List.drop_length]
theorem rnew_b {S : Nat → Prop} {A : Option Addr} {cap n : Nat} (l : List UInt8) {w : World} (hn : n = l.length) (hr : Rd w S 1 A n (bytesV l)) (hl : n ≤ 1073741824) :
    Calls Tryz.prog 49 #[.slice A n cap] w fun e w' => ∃ b, e = .returned (.pointer (some ⟨b, 0, none⟩)) ∧ RdrIn w' (fun i => w.heap.size ≤ i) b l 0 ∧ Below w.heap.size w w' := by
  subst hn
  exact rnew_any S A cap l w hr hl
theorem rnum_c {B : Nat → Prop} {rb : Nat} (n : Nat) {z : Int} (l : List UInt8) (bad v : Nat) (l2 : List UInt8) (b2 : Nat) {w : World} (h : RdrIn w B rb l bad) (hz : z = n) (hn : n ≤ 8) (hN : numR n (l, bad) = (v, (l2, b2))) :
    Calls Tryz.prog 50 #[.pointer (some ⟨rb, 0, none⟩), .int .i64 z] w fun e w' => e = .returned (.int .u64 v) ∧ RdrIn w' B rb l2 b2 ∧ Keep (· = rb) w w' := by
  subst hz
  obtain ⟨A, cap, h⟩ := h
  have h1 := rnum_any B rb cap A l bad n w h hn
  rw [hN] at h1
  exact h1
def mgL : List UInt8 := [67, 70, 49]
/-- Is a byte of the magic another one? -/
def badM (l : List UInt8) : Bool := (List.range 3).any fun i => decide (i < l.length) && (l[i]! != mgL[i]!)
/-- How many bytes the frame at the beginning has, or what is wrong. -/
def lenF (l : List UInt8) : Nat × Nat :=
  if badM l then (0, 11) else if 3 < l.length ∧ l[3]! = 0 then (0, 11) else if l.length < 8 then (0, 10) else
  if 65536 < beV ((l.drop 4).take 4) then (0, 3) else (12 + beV ((l.drop 4).take 4), 0)
theorem badM_yes (l : List UInt8) (i : Nat) (hi : i < 3) (h1 : i < l.length) (h2 : l[i]! ≠ mgL[i]!) : badM l = true := by
  rw [badM, List.any_eq_true]
  exact ⟨i, List.mem_range.2 hi, by rw [Bool.and_eq_true]; exact ⟨by simpa using h1, by rw [bne_iff_ne]; exact h2⟩⟩
theorem badM_no (l : List UInt8) (h : ∀ i, i < 3 → i < l.length → l[i]! = mgL[i]!) : badM l = false := by
  rw [badM, List.any_eq_false]
  intro i hi
  have h3 := List.mem_range.1 hi
  by_cases h1 : i < l.length
  · rw [h i h3 h1, bne_self_eq_false, Bool.and_false]; decide
  · simp [h1]

set_option maxHeartbeats 8000000 in
set_option maxRecDepth 200000 in
theorem flen_any (S : Nat → Prop) (A : Option Addr) (cap : Nat) (l : List UInt8) (w : World) (hr : Rd w S 1 A l.length (bytesV l)) (hc : l.length ≤ cap) (hl : l.length ≤ 100000) :
    Calls Tryz.prog 47 #[.slice A l.length cap] w fun e w' => e = .returned (.tuple #[.int .i64 (lenF l).1, .int .i64 (lenF l).2]) ∧ Below w.heap.size w w' := by
  have Hr := hide hr
  have Hc := hide hc
  obtain ⟨N, hN⟩ : ∃ N, N = w.heap.size := ⟨_, rfl⟩
  have HN := hide hN
  have hli : (l.length : Int) ≤ 100000 := by omega
  clear hr hc hN
  go_enter Tryz.func47, Tryz.ntmps47
  go_upto_block 0 with (fail)
  rw [← HN.out]
  obtain ⟨W, hW⟩ : ∃ W : World, W = (w.alloc (.cells #[.slice A l.length cap] 28)).iter (⟨#[67, 70, 49]⟩ : ByteArray) 0 := ⟨_, rfl⟩
  rw [← hW]
  have HbW := hide (show Below w.heap.size w W by rw [hW]; exact ((Below.refl _ _).alloc (Nat.le_refl _) _).alloc (by simp) _)
  have HcN := hide (show W.heap[N]? = some (.cells #[.slice A l.length cap] 28 (0, 0)) by rw [hW, HN.out]; exact heap_old (heap_new _ _) _)
  have HcI := hide (show W.heap[N + 1]? = some (.stringIter (⟨#[67, 70, 49]⟩ : ByteArray) 0) by rw [hW, HN.out]; have h1 := World.iter_heap (w.alloc (.cells #[.slice A l.length cap] 28)) (⟨#[67, 70, 49]⟩ : ByteArray) 0; rwa [show (w.alloc (.cells #[.slice A l.length cap] 28)).heap.size = w.heap.size + 1 by simp] at h1)
  clear hW
  go_wp2_with (fail)
  go_loopw [] (fun wr => ∃ pos, wr.heap[N + 1]? = some (.stringIter (⟨#[67, 70, 49]⟩ : ByteArray) pos) ∧ pos ≤ 3 ∧ wr.heap[N]? = some (.cells #[.slice A l.length cap] 28 (0, 0)) ∧ (∀ i, i < pos → i < l.length → l[i]! = mgL[i]!) ∧ Below w.heap.size w wr) (fun wr => 3 - wr.iterPos (N + 1))
  case atStart => exact ⟨0, HcI.out, by omega, HcN.out, fun i hi => by omega, HbW.out⟩
  case round => as_aux_lemma =>
    obtain ⟨pos, hk, hp, hrow, hall, hb⟩ := hrel
    have Hk := hide hk
    have Hrow := hide hrow
    have Hall := hide hall
    have Hb := hide hb
    have hNl : N < wr.heap.size := blk_lt hrow
    have hNI : N + 1 < wr.heap.size := (Array.getElem?_eq_some_iff.1 hk).1
    have hwN : w.heap.size ≤ N := by have := HN.out; omega
    by_cases hlt : pos < 3
    · have hsz : pos < (⟨#[67, 70, 49]⟩ : ByteArray).size := hlt
      have ha : ((⟨#[67, 70, 49]⟩ : ByteArray)[pos]'hsz).toNat < 128 := by
        obtain rfl | rfl | rfl : pos = 0 ∨ pos = 1 ∨ pos = 2 := by omega
        · exact (by decide : (67 : UInt8).toNat < 128)
        · exact (by decide : (70 : UInt8).toNat < 128)
        · exact (by decide : (49 : UInt8).toNat < 128)
      have hnx := fun ty => Lib.run_next_ascii_at (P := Tryz.prog) wr (N + 1) (⟨#[67, 70, 49]⟩ : ByteArray) pos ty hk hsz ha
      obtain ⟨ch, hch⟩ : ∃ ch : Int, ch = ((⟨#[67, 70, 49]⟩ : ByteArray)[pos]'hsz).toNat := ⟨_, rfl⟩
      rw [← hch] at hnx
      obtain ⟨V, hV⟩ : ∃ V : World, V = wr.iterAt (N + 1) (⟨#[67, 70, 49]⟩ : ByteArray) (pos + 1) := ⟨_, rfl⟩
      have HV1 := hide (show V.heap[N + 1]? = some (.stringIter (⟨#[67, 70, 49]⟩ : ByteArray) (pos + 1)) by rw [hV]; exact Lib.iterAt_heap wr (N + 1) (⟨#[67, 70, 49]⟩ : ByteArray) pos (pos + 1) hk)
      have HV0 := hide (show V.heap[N]? = some (.cells #[.slice A l.length cap] 28 (0, 0)) by rw [hV]; exact (Lib.iterAt_other _ _ _ _ _ (by omega)).trans hrow)
      have HbV := hide (show Below w.heap.size w V by rw [hV]; exact Lib.below_iterAt hb (by omega) _ _)
      rw [← hV] at hnx
      have cN : V.cell? ⟨N, 0, none⟩ = some (.slice A l.length cap) := cell_of_row _ _ 0 _ _ _ HV0.out
      clear hch hV hk hrow hall hb ha
      have hmeas : 3 - V.iterPos (N + 1) < 3 - wr.iterPos (N + 1) := by
        simp [World.iterPos, HV1.out, Hk.out]; omega
      have Hmeas := hide hmeas
      clear hmeas
      by_cases hlen : pos < l.length
      · obtain ⟨b, off, hA, _, hbl, hrc⟩ := Hr.out.at_ (by omega)
        obtain ⟨c, hcc⟩ : ∃ c, c = l[pos]! := ⟨_, rfl⟩
        have cE : V.cell? ⟨b, off + pos, none⟩ = some (.int .u8 c.toNat) := by
          rw [HbV.out.cell (p := ⟨b, off + pos, none⟩) hbl, hrc pos (by omega), hcc, bytesV, List.getElem?_map, List.getElem?_eq_getElem hlen, getElem!_pos l pos hlen]; rfl
        have Hcc := hide hcc
        subst hA
        have hd1 : decide ((pos : Int) < (l.length : Int)) = true := by simpa using hlen
        clear hrc hcc hbl
        by_cases heq : c = mgL[pos]!
        · obtain rfl | rfl | rfl : pos = 0 ∨ pos = 1 ∨ pos = 2 := by omega
          · rw [Nat.add_zero] at cE
            have e1 : ((c.toNat : Int) == 67) = true := by rw [heq]; decide
            have e2 : ((c.toNat : Int) == (((⟨#[67, 70, 49]⟩ : ByteArray)[0]'(by decide)).toNat : Int)) = true := e1
            have hl0 : (l = []) = False := by simp; intro h; rw [h] at hlen; simp at hlen
            have Heq := hide heq
            clear heq
            go_upto_region 5 with (fail)
            go_quiet ((go_at_call 72; exact quiet_first (is_any N _ l.length cap _ _ _ cN (by decide) (by omega))))
            go_wp2_with (fail)
            refine ⟨⟨1, HV1.out, by omega, HV0.out, fun i hi hil => ?_, below_drewN HbV.out _⟩, Hmeas.out⟩
            rcases Nat.lt_or_ge i 0 with h | h
            · exact Hall.out i h hil
            · obtain rfl : i = 0 := by omega
              rw [← Hcc.out]; exact Heq.out
          · have e1 : ((c.toNat : Int) == 70) = true := by rw [heq]; decide
            have e2 : ((c.toNat : Int) == (((⟨#[67, 70, 49]⟩ : ByteArray)[1]'(by decide)).toNat : Int)) = true := e1
            have hd2 : decide ((1 : Int) < (l.length : Int)) = true := by simp; omega
            have hd3 : decide ((l.length : Int) ≤ 1) = false := by simp; omega
            have Heq := hide heq
            clear heq
            go_upto_region 5 with (fail)
            go_quiet ((go_at_call 72; exact quiet_first (is_any N _ l.length cap _ _ _ cN (by decide) (by omega))))
            go_wp2_with (fail)
            refine ⟨⟨2, HV1.out, by omega, HV0.out, fun i hi hil => ?_, below_drewN HbV.out _⟩, Hmeas.out⟩
            rcases Nat.lt_or_ge i 1 with h | h
            · exact Hall.out i h hil
            · obtain rfl : i = 1 := by omega
              rw [← Hcc.out]; exact Heq.out
          · have e1 : ((c.toNat : Int) == 49) = true := by rw [heq]; decide
            have e2 : ((c.toNat : Int) == (((⟨#[67, 70, 49]⟩ : ByteArray)[2]'(by decide)).toNat : Int)) = true := e1
            have hd2 : decide ((2 : Int) < (l.length : Int)) = true := by simp; omega
            have hd3 : decide ((l.length : Int) ≤ 2) = false := by simp; omega
            have Heq := hide heq
            clear heq
            go_upto_region 5 with (fail)
            go_quiet ((go_at_call 72; exact quiet_first (is_any N _ l.length cap _ _ _ cN (by decide) (by omega))))
            go_wp2_with (fail)
            refine ⟨⟨3, HV1.out, by omega, HV0.out, fun i hi hil => ?_, below_drewN HbV.out _⟩, Hmeas.out⟩
            rcases Nat.lt_or_ge i 2 with h | h
            · exact Hall.out i h hil
            · obtain rfl : i = 2 := by omega
              rw [← Hcc.out]; exact Heq.out
        · have Hlf := hide (show lenF l = (0, 11) by rw [lenF, if_pos (badM_yes l pos hlt hlen (by rw [← Hcc.out]; exact heq))])
          obtain rfl | rfl | rfl : pos = 0 ∨ pos = 1 ∨ pos = 2 := by omega
          · rw [Nat.add_zero] at cE
            have e1 : ((c.toNat : Int) == 67) = false := by
              rw [beq_eq_false_iff_ne]
              intro h
              refine heq (UInt8.toNat_inj.1 ?_)
              have h2 : c.toNat = 67 := by omega
              exact h2
            have e2 : ((c.toNat : Int) == (((⟨#[67, 70, 49]⟩ : ByteArray)[0]'(by decide)).toNat : Int)) = false := e1
            have hl0 : (l = []) = False := by simp; intro h; rw [h] at hlen; simp at hlen
            clear heq
            go_upto_region 5 with (fail)
            go_quiet ((go_at_call 72; exact quiet_first (is_any N _ l.length cap _ _ _ cN (by decide) (by omega))))
            go_wp2_with (fail)
            go_ret2
            exact ⟨by rw [Hlf.out]; rfl, below_drewN HbV.out _⟩
          · have e1 : ((c.toNat : Int) == 70) = false := by
              rw [beq_eq_false_iff_ne]
              intro h
              refine heq (UInt8.toNat_inj.1 ?_)
              have h2 : c.toNat = 70 := by omega
              exact h2
            have e2 : ((c.toNat : Int) == (((⟨#[67, 70, 49]⟩ : ByteArray)[1]'(by decide)).toNat : Int)) = false := e1
            have hd2 : decide ((1 : Int) < (l.length : Int)) = true := by simp; omega
            have hd3 : decide ((l.length : Int) ≤ 1) = false := by simp; omega
            clear heq
            go_upto_region 5 with (fail)
            go_quiet ((go_at_call 72; exact quiet_first (is_any N _ l.length cap _ _ _ cN (by decide) (by omega))))
            go_wp2_with (fail)
            go_ret2
            exact ⟨by rw [Hlf.out]; rfl, below_drewN HbV.out _⟩
          · have e1 : ((c.toNat : Int) == 49) = false := by
              rw [beq_eq_false_iff_ne]
              intro h
              refine heq (UInt8.toNat_inj.1 ?_)
              have h2 : c.toNat = 49 := by omega
              exact h2
            have e2 : ((c.toNat : Int) == (((⟨#[67, 70, 49]⟩ : ByteArray)[2]'(by decide)).toNat : Int)) = false := e1
            have hd2 : decide ((2 : Int) < (l.length : Int)) = true := by simp; omega
            have hd3 : decide ((l.length : Int) ≤ 2) = false := by simp; omega
            clear heq
            go_upto_region 5 with (fail)
            go_quiet ((go_at_call 72; exact quiet_first (is_any N _ l.length cap _ _ _ cN (by decide) (by omega))))
            go_wp2_with (fail)
            go_ret2
            exact ⟨by rw [Hlf.out]; rfl, below_drewN HbV.out _⟩
      · have hd1 : decide ((pos : Int) < (l.length : Int)) = false := by simpa using hlen
        have hp3 : (pos : Int) ≤ 100 := by omega
        have hp0 : (0 : Int) ≤ (pos : Int) := Int.natCast_nonneg _
        have hdd : decide ((l.length : Int) ≤ (pos : Int)) = true := by simpa using hlen
        have hdn : decide (l.length ≤ pos) = true := by simpa using hlen
        have hd1n : decide (pos < l.length) = false := by simpa using hlen
        go_upto_region 5 with (fail)
        go_quiet ((go_at_call 72; exact quiet_first (is_any N _ l.length cap _ _ _ cN ⟨hp0, hp3⟩ (by omega))))
        go_wp2_with (fail)
        refine ⟨⟨pos + 1, HV1.out, by omega, HV0.out, fun i hi hil => ?_, below_drewN HbV.out _⟩, Hmeas.out⟩
        exact Hall.out i (by omega) hil
    · obtain rfl : pos = 3 := by omega
      have hnx := fun ty => Lib.run_next_end_at (P := Tryz.prog) wr (N + 1) (⟨#[67, 70, 49]⟩ : ByteArray) 3 ty hk (by decide)
      have Hbad := hide (badM_no l (fun i hi hil => hall i hi hil))
      have cN : wr.cell? ⟨N, 0, none⟩ = some (.slice A l.length cap) := cell_of_row _ _ 0 _ _ _ hrow
      clear hk hrow hall hb
      have Hbx := hide (show Below w.heap.size w wr from Hb.out)
      have elem : ∀ j, j < l.length → ∃ b off, A = some ⟨b, off, none⟩ ∧ wr.cell? ⟨b, off + j, none⟩ = some (.int .u8 (l[j]!).toNat) := fun j hj => by
        obtain ⟨b, off, hA, _, hbl, hrc⟩ := Hr.out.at_ (by omega)
        refine ⟨b, off, hA, ?_⟩
        rw [Hbx.out.cell (p := ⟨b, off + j, none⟩) hbl, hrc j (by omega), bytesV, List.getElem?_map, List.getElem?_eq_getElem hj, getElem!_pos l j hj]; rfl
      by_cases h3 : 3 < l.length
      · obtain ⟨b, off, rfl, c3⟩ := elem 3 h3
        obtain ⟨c, hcc⟩ : ∃ c, c = l[3]! := ⟨_, rfl⟩
        rw [← hcc] at c3
        have Hcc := hide hcc
        have hd2 : decide ((3 : Int) < (l.length : Int)) = true := by simp; omega
        have hd3 : decide ((l.length : Int) ≤ 3) = false := by simp; omega
        clear elem hcc
        by_cases hz : c = 0
        · have e1 : ((c.toNat : Int) != 0) = false := by rw [hz]; decide
          have e2 : ((c.toNat : Int) == 0) = true := by rw [hz]; decide
          have Hlf := hide (show lenF l = (0, 11) by rw [lenF, Hbad.out, if_neg (by decide), if_pos ⟨h3, by rw [← Hcc.out, hz]⟩])
          clear hz
          go_wp2_with (first | (go_at_call 72; refine (is_any N _ l.length cap _ _ wr cN (by decide) (by omega)).mono ?_; rintro e w' ⟨rfl, rfl⟩) | fail)
          go_ret2
          exact ⟨by rw [Hlf.out]; rfl, Hbx.out⟩
        · have hz2 : ¬ c.toNat = 0 := fun h => hz (UInt8.toNat_inj.1 (by rw [h]; rfl))
          have e1 : ((c.toNat : Int) != 0) = true := by rw [bne_iff_ne]; omega
          have e2 : ((c.toNat : Int) == 0) = false := by rw [beq_eq_false_iff_ne]; omega
          have Hz := hide hz
          clear hz hz2
          by_cases h8 : l.length < 8
          · have Hlf := hide (show lenF l = (0, 10) by rw [lenF, Hbad.out, if_neg (by decide), if_neg (fun h => Hz.out (by rw [Hcc.out]; exact h.2)), if_pos h8])
            have hd8 : decide ((l.length : Int) < 8) = true := by simp; omega
            go_wp2_with (first | (go_at_call 72; refine (is_any N _ l.length cap _ _ wr cN (by decide) (by omega)).mono ?_; rintro e w' ⟨rfl, rfl⟩) | fail)
            go_ret2
            exact ⟨by rw [Hlf.out]; rfl, Hbx.out⟩
          · have hd8 : decide ((l.length : Int) < 8) = false := by simp; omega
            have hcap : 8 ≤ cap := by have := Hc.out; omega
            obtain ⟨n, hn⟩ : ∃ n, n = beV ((l.drop 4).take 4) := ⟨_, rfl⟩
            have hl4 : ((l.drop 4).take 4).length = 4 := by rw [List.length_take, List.length_drop]; omega
            have hnb : n < 4294967296 := by rw [hn]; have := beV_lt ((l.drop 4).take 4); rw [hl4] at this; exact this
            have Hrd := hide (show Rd wr S 1 (some ⟨b, off + 4, none⟩) 4 (bytesV ((l.drop 4).take 4)) from by
              have h1 := (Hr.out.keep (Keep.of_none Hbx.out) (fun _ _ _ f => f)).drop (k := 4) (by omega) (A' := some ⟨b, off + 4, none⟩) (fun b' of he _ => by cases he; rfl)
              have h2 := h1.take (k := 4) (by omega)
              have e : ((bytesV l).drop (4 * 1)).take (4 * 1) = bytesV ((l.drop 4).take 4) := by simp [bytesV, List.map_drop, List.map_take]
              rw [e] at h2
              exact h2)
            have Hnum := hide (show numR ((4 : Nat) : Int) ((l.drop 4).take 4, 0) = (n, ([], 0)) by
              have h1 : (takeR (4 : Int) ((l.drop 4).take 4, 0)) = ((l.drop 4).take 4, ([], 0)) := takeR_all _ 4 hl4 (by decide)
              rw [numR, show min ((4 : Nat) : Int) 8 = 4 by decide, h1, ← hn])
            have Hl4 := hide hl4
            have Hn := hide hn
            clear hl4 hn
            go_upto_region 12 with (first
              | (go_at_call 72; refine (is_any N _ l.length cap _ _ wr cN (by decide) (by omega)).mono ?_; rintro e w' ⟨rfl, rfl⟩)
              | (go_at_call 49; ((with_reducible refine (rnew_b ((l.drop 4).take 4) Hl4.out.symm Hrd.out (by decide)).mono ?_)); rintro e w5 ⟨rb, rfl, hrd5, hb5⟩; have Hrd5 := hide hrd5; have Hb5 := hide hb5; clear hrd5 hb5)
              | (go_at_call 50; refine (rnum_c 4 ((l.drop 4).take 4) 0 n [] 0 Hrd5.out rfl (by decide) Hnum.out).mono ?_; rintro e w6 ⟨rfl, hrd6, hk6⟩; have Hb6 := hide (Hb5.out.trans (hk6.below Hb5.out.size (fun i e => by obtain ⟨_, _, h9⟩ := Hrd5.out; have := h9.low; omega))); clear hrd6 hk6)
              | fail)
            have hn0 : (0 : Int) ≤ (n : Int) := Int.natCast_nonneg _
            have hnb2 : (n : Int) < 4294967296 := by omega
            have hfin := Hbx.out.trans (Hb6.out.mono Hbx.out.size)
            have Hfin := hide hfin
            have hlf0 := fun h => Hz.out (by rw [Hcc.out]; exact (h : 3 < l.length ∧ l[3]! = 0).2)
            have hlfe : lenF l = if 65536 < n then (0, 3) else (12 + n, 0) := by rw [lenF, Hbad.out, if_neg (by decide), if_neg hlf0, if_neg h8, ← Hn.out]
            have Hlfe := hide hlfe
            clear hfin hlf0 hlfe
            by_cases hbig : 65536 < n
            · have hdb : decide ((65536 : Int) < (n : Int)) = true := by simp; omega
              have Hb9 := hide hbig
              clear hbig
              go_wp2_with (fail)
              go_ret2
              exact ⟨by rw [Hlfe.out, if_pos Hb9.out]; rfl, Hfin.out⟩
            · have hdb : decide ((65536 : Int) < (n : Int)) = false := by simp; omega
              have Hb9 := hide hbig
              have hn6 : (n : Int) ≤ 65536 := by omega
              clear hbig
              go_wp2_with (fail)
              go_ret2
              exact ⟨by rw [Hlfe.out, if_neg Hb9.out]; simp, Hfin.out⟩
      · clear elem
        have hd2 : decide ((3 : Int) < (l.length : Int)) = false := by simp; omega
        have hd3 : decide ((l.length : Int) ≤ 3) = true := by simp; omega
        have hd8 : decide ((l.length : Int) < 8) = true := by simp; omega
        have Hlf := hide (show lenF l = (0, 10) by rw [lenF, Hbad.out, if_neg (by decide), if_neg (fun h => h3 h.1), if_pos (by omega)])
        go_wp2_with (first | (go_at_call 72; refine (is_any N _ l.length cap _ _ wr cN (by decide) (by omega)).mono ?_; rintro e w' ⟨rfl, rfl⟩) | fail)
        go_ret2
        exact ⟨by rw [Hlf.out]; rfl, Hbx.out⟩
end Go.Proofs.YtahhglhebcooaaaGreatDoor
