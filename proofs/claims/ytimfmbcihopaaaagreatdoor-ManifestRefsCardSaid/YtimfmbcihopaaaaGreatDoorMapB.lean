/- What may be a part of a reference's name. -/
import Derived.Test.YtimfmbcihopaaaaGreatDoorMapA
import Derived.Lib.OthersKept
namespace Go.Proofs.YtimfmbcihopaaaaGreatDoor
open Go.RowKit Go.Cof

def letterB (c : UInt8) : Bool := letterI c.toNat
def goodL (l : List UInt8) : Bool :=
  !l.isEmpty && (!(decide (0 ≤ Lib.indexByte [45, 46] (l.headD 0))) && (!(Lib.hasSuffix l [46]) && (l.all letterB && (!(Lib.contains l [46, 46]) && !(Lib.hasSuffix l [46, 108, 111, 99, 107])))))

theorem first_of (c : UInt8) (r : List UInt8) : (⟨(c :: r).toArray⟩ : ByteArray).extract 0 1 = ⟨#[c]⟩ := by
  apply ByteArray.ext
  simp

theorem nonempty_of (c : UInt8) (r : List UInt8) : (⟨(c :: r).toArray⟩ : ByteArray).toList.isEmpty = false := by rw [ByteArray.toList_eq]; rfl

theorem goodL_no1 (c : UInt8) (r : List UInt8) (h : 0 ≤ Lib.indexByte [45, 46] c ∨ Lib.hasSuffix (c :: r) [46] = true) : goodL (c :: r) = false := by
  rcases h with h | h <;> simp [goodL, h]

theorem goodL_no2 (l : List UInt8) (h : Lib.contains l [46, 46] = true) : goodL l = false := by simp [goodL, h]
theorem goodL_yes (c : UInt8) (r : List UInt8) (h1 : Lib.indexByte [45, 46] c < 0 ∧ Lib.hasSuffix (c :: r) [46] = false) (h2 : (c :: r).all letterB = true) (h3 : ¬ Lib.contains (c :: r) [46, 46] = true) : goodL (c :: r) = !Lib.hasSuffix (c :: r) [46, 108, 111, 99, 107] := by
  have h4 : ¬ 0 ≤ Lib.indexByte [45, 46] c := by omega
  rw [goodL, h2, h1.2, Bool.eq_false_iff.2 h3]
  simp [h4]

theorem cell_lt {w : World} {p : Addr} {v : Value} (h : w.cell? p = some v) : p.block < w.heap.size := by
  unfold World.cell? at h
  by_cases hp : p.block < w.heap.size
  · exact hp
  · rw [Array.getElem?_eq_none (by omega)] at h; simp at h

theorem below_iterAt {N k : Nat} {w wr : World} (s : ByteArray) (p : Nat) (h : Below N w wr) (hk : N ≤ k) : Below N w (wr.iterAt k s p) :=
  ⟨h.os, h.tape, h.output, by simp [World.iterAt]; exact h.size, fun i hi => (Lib.iterAt_other _ _ _ _ _ (by omega)).trans (h.block i hi)⟩

theorem letter_high (n : Int) (h : 128 ≤ n) : letterI n = false := by simp [letterI]; omega

theorem letter_out (s : ByteArray) (pos : Nat) (h : pos < s.size) (hn : letterI (Utf8.decode s pos).1 = false) : goodL s.data.toList = false := by
  have hl : s.data.toList.length = s.size := by rw [Array.length_toList]; rfl
  have hmem : s[pos]'h ∈ s.data.toList := List.mem_of_getElem? (i := pos) (by rw [List.getElem?_eq_getElem (by omega)]; rfl)
  have hb : letterB (s[pos]'h) = false := by
    by_cases ha : (s[pos]'h).toNat < 128
    · rw [decode_ascii s pos h ha] at hn; exact hn
    · exact letter_high _ (by omega)
  have : s.data.toList.all letterB = false := by
    rw [Bool.eq_false_iff]; intro hall
    rw [List.all_eq_true] at hall
    rw [hall _ hmem] at hb; cases hb
  simp [goodL, this]

theorem letter_step (s : ByteArray) (pos : Nat) (h : pos < s.size) (hn : letterI (Utf8.decode s pos).1 = true) : (Utf8.decode s pos).2 = 1 := by
  by_cases ha : (s[pos]'h).toNat < 128
  · rw [decode_ascii s pos h ha]
  · rw [letter_high _ (by have := (decode_high s pos h (by omega)).1; omega)] at hn; cases hn

theorem take_all (s : ByteArray) (pos : Nat) (h : pos < s.size) (hall : (s.data.toList.take pos).all letterB = true) (hn : letterI (Utf8.decode s pos).1 = true) : (s.data.toList.take (pos + 1)).all letterB = true := by
  have hl : s.data.toList.length = s.size := by rw [Array.length_toList]; rfl
  by_cases ha : (s[pos]'h).toNat < 128
  · rw [decode_ascii s pos h ha] at hn
    rw [List.take_add_one, List.all_append, hall, List.getElem?_eq_getElem (by omega)]
    show (true && (letterB _ && true)) = true
    rw [Bool.and_true, Bool.true_and]
    exact hn
  · rw [letter_high _ (by have := (decode_high s pos h (by omega)).1; omega)] at hn; cases hn

set_option maxHeartbeats 4000000 in
set_option maxRecDepth 100000 in
theorem ngood_any (w : World) (l : List UInt8) (m : Int) (hs : l.length < 4294967281) (hm : w.cell? ⟨0, 0, none⟩ = some (.int .i64 m)) :
    Calls Tryz.prog 50 #[.string ⟨l.toArray⟩] w fun e w' => e = .returned (.bool (goodL l)) ∧ Below w.heap.size w w' := by
  rcases l with _ | ⟨c, r⟩
  · go_enter Tryz.func50, Tryz.ntmps50
    go_wp2_with fail
    all_goals go_ret
    all_goals exact ⟨rfl, Below.refl _ _⟩
  · have hx := first_of c r
    have he := nonempty_of c r
    obtain ⟨s, hsd⟩ : ∃ s : ByteArray, s = ⟨(c :: r).toArray⟩ := ⟨_, rfl⟩
    rw [← hsd] at hx he ⊢
    have hl : s.data.toList = c :: r := by rw [hsd]
    have hz : s.size = r.length + 1 := by rw [hsd]; rfl
    rw [← hl]
    have Hl := hide hl
    clear hl hsd
    go_enter Tryz.func50, Tryz.ntmps50
    go_wp2_with (first | (go_at_call 66; refine (Tryz.strings_Contains_one ⟨#[45, 46]⟩ c _).mono ?_; rintro e w2 ⟨rfl, rfl⟩) | (go_at_call 67; refine (Tryz.strings_HasSuffix s _ _ (by simp at hs; omega)).mono ?_; rintro e w2 ⟨rfl, rfl⟩))
    · rename_i h
      rw [Hl.out] at h
      go_ret
      exact ⟨by rw [Hl.out, goodL_no1 c r h]; rfl, Below.refl _ _⟩
    · rename_i hh _ _
      have Hh := hide hh
      clear hh
      go_loopw [] (fun wr => ∃ pos, wr.heap[w2.heap.size]? = some (.stringIter s pos) ∧ pos ≤ s.size ∧ (s.data.toList.take pos).all letterB = true ∧ Below w2.heap.size w2 wr) (fun wr => s.size - wr.iterPos w2.heap.size)
      case atStart => exact ⟨0, World.iter_heap _ _ _, Nat.zero_le _, rfl, (Below.refl _ _).alloc (Nat.le_refl _) _⟩
      case round =>
        obtain ⟨pos, hk, hp, hall, hb⟩ := hrel
        by_cases hlt : pos < s.size
        · have hl : s.data.toList.length = s.size := by rw [Array.length_toList]; rfl
          have hget : s.data.toList[pos]? = some (s[pos]'hlt) := by rw [List.getElem?_eq_getElem (by omega)]; rfl
          have hszi : (wr.iterAt w2.heap.size s (pos + (Utf8.decode s pos).2)).heap.size = wr.heap.size := by simp [World.iterAt]
          have hbi := below_iterAt (k := w2.heap.size) s (pos + (Utf8.decode s pos).2) hb (Nat.le_refl _)
          have hki := Lib.iterAt_heap wr w2.heap.size s pos (pos + (Utf8.decode s pos).2) hk
          have hnx := fun ty => Lib.run_next_any_at (P := Tryz.prog) wr w2.heap.size s pos ty hk hlt
          have hmore := hide (take_all s pos hlt hall)
          have hno := hide (letter_out s pos hlt)
          have hstep := hide (letter_step s pos hlt)
          have hsz := hb.size
          obtain ⟨n, hn⟩ : ∃ n, n = (Utf8.decode s pos).1 := ⟨_, rfl⟩
          have hle := decode_le s pos
          obtain ⟨k, hk2⟩ : ∃ k, k = (Utf8.decode s pos).2 := ⟨_, rfl⟩
          rw [← hn] at hnx hno hle hstep hmore
          rw [← hk2] at hnx hbi hki hszi hstep
          have hlk : w2.heap.size < wr.heap.size := (Array.getElem?_eq_some_iff.1 hk).1
          have Hk := hide hk
          clear hn hk2 hall hb hk hget
          have HB := hide hbi
          have HK := hide hki
          clear hbi hki
          by_cases hlet : letterI n = true
          · go_wp2_with (go_at_call 68; refine (nletter_any _ n (by omega) (by omega)).mono ?_; rintro e w3 ⟨rfl, hb3⟩)
            have hone := hmore.out hlet
            have hkk := hstep.out hlet
            subst hkk
            have hs3 := hb3.size
            have hk3 := (hb3.block w2.heap.size (by omega)).trans HK.out
            refine ⟨⟨pos + 1, hk3, by omega, hone, HB.out.trans (hb3.mono (by omega))⟩, ?_⟩
            simp [World.iterPos, hk3, Hk.out]
            omega
          · have hlf : letterI n = false := by simpa using hlet
            go_wp2_with (go_at_call 68; refine (nletter_any _ n (by omega) (by omega)).mono ?_; rintro e w3 ⟨rfl, hb3⟩)
            go_ret
            exact ⟨by rw [hno.out hlf]; rfl, HB.out.trans (hb3.mono (by omega))⟩
        · have hnx := fun ty => Lib.run_next_end_at (P := Tryz.prog) wr w2.heap.size s pos ty hk hlt
          have hcm : wr.cell? ⟨0, 0, none⟩ = some (.int .i64 m) := (hb.cell (p := ⟨0, 0, none⟩) (cell_lt hm)).trans hm
          go_wp2_with (first | (go_at_call 66; refine (Tryz.strings_Contains s _ m _ (by simp at hs; omega) hcm).mono ?_; rintro e w2 ⟨rfl, rfl⟩) | (go_at_call 67; refine (Tryz.strings_HasSuffix s _ _ (by simp at hs; omega)).mono ?_; rintro e w2 ⟨rfl, rfl⟩))
          · go_ret
            have hc : Lib.contains s.data.toList [46, 46] = true := by assumption
            exact ⟨by rw [goodL_no2 _ hc]; rfl, hb⟩
          · go_ret
            have hc : ¬ Lib.contains s.data.toList [46, 46] = true := by assumption
            have hpz : pos = s.size := by omega
            subst hpz
            rw [List.take_of_length_le (by rw [Array.length_toList]; exact Nat.le_refl _)] at hall
            exact ⟨by rw [Hl.out] at hall hc Hh ⊢; rw [goodL_yes c r Hh.out hall hc]; rfl, hb⟩
    · rename_i h
      go_ret
      exact ⟨by rw [Hl.out, goodL_no1 c r (.inl h)]; rfl, Below.refl _ _⟩
end Go.Proofs.YtimfmbcihopaaaaGreatDoor
