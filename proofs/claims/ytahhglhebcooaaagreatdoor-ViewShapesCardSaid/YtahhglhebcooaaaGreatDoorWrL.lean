/- wire's Reader: Num, Sized. -/
import Derived.Test.YtahhglhebcooaaaGreatDoorWrK
import Derived.Laws.BitsAllLaws
namespace Go.Proofs.YtahhglhebcooaaaGreatDoor
open Go.RowKit Go.Cof

/-- The number that bytes say. -/
def beV (l : List UInt8) : Nat := l.foldl (fun v c => v * 256 + c.toNat) 0
theorem beV_snoc (l : List UInt8) (c : UInt8) : beV (l ++ [c]) = beV l * 256 + c.toNat := by simp [beV]
theorem beV_acc (l : List UInt8) : ∀ a : Nat, l.foldl (fun v c => v * 256 + c.toNat) a < (a + 1) * 256 ^ l.length := by
  induction l with
  | nil => intro a; simp
  | cons c l ih =>
    intro a
    rw [List.foldl_cons, List.length_cons, Nat.pow_succ, Nat.mul_comm (256 ^ l.length) 256, ← Nat.mul_assoc]
    refine Nat.lt_of_lt_of_le (ih _) (Nat.mul_le_mul_right _ ?_)
    have := c.toNat_lt
    omega
theorem beV_lt (l : List UInt8) : beV l < 256 ^ l.length := by simpa [beV] using beV_acc l 0
theorem beV_small (l : List UInt8) (h : l.length ≤ 7) : beV l < 72057594037927936 :=
  Nat.lt_of_lt_of_le (beV_lt l) (by
    have := Nat.pow_le_pow_right (n := 256) (by decide) h
    simpa using this)
theorem beV_take (l : List UInt8) (k : Nat) (h : k < l.length) : beV (l.take (k + 1)) = beV (l.take k) * 256 + l[k].toNat := by
  rw [List.take_succ_eq_append_getElem h, beV_snoc]

theorem or_byte (a c : Nat) (ha : a < 72057594037927936) (hc : c < 2 ^ 8) : bits .or .u64 ((a : Int) * 256) (c : Int) = ((a * 256 + c : Nat) : Int) := by
  have h := u64_or_nat (a * 256) c (by omega) (by omega)
  rw [Int.natCast_mul] at h
  rw [show ((256 : Nat) : Int) = 256 from rfl] at h
  rw [h]
  have h2 := Nat.two_pow_add_eq_or_of_lt (i := 8) hc a
  rw [show 2 ^ 8 * a = a * 256 by omega] at h2
  rw [h2]

/-- A number read. -/
def numR (n : Int) (s : Rs) : Nat × Rs := (beV (takeR (min n 8) s).1, (takeR (min n 8) s).2)

theorem takeR_short (n : Int) (s : Rs) (h : 0 ≤ n) : ((takeR n s).1.length : Int) ≤ n := by
  unfold takeR
  split
  · simpa using h
  · split
    · simpa using h
    · simp; omega

set_option maxHeartbeats 4000000 in
set_option maxRecDepth 100000 in
theorem rnum_any (B : Nat → Prop) (b cap : Nat) (A : Option Addr) (l : List UInt8) (bad : Nat) (n : Nat) (w : World) (h : RdrAt w B b A cap l bad) (hn : n ≤ 8) :
    Calls Tryz.prog 50 #[.pointer (some ⟨b, 0, none⟩), .int .i64 n] w fun e w' => e = .returned (.int .u64 (numR n (l, bad)).1) ∧ RdrIn w' B b (numR n (l, bad)).2.1 (numR n (l, bad)).2.2 ∧ Keep (· = b) w w' := by
  have H := hide h
  have hx := takeR_short n (l, bad) (by omega)
  clear h
  have hmin : min (n : Int) 8 = n := by omega
  obtain ⟨x, s, hT⟩ : ∃ x s, takeR n (l, bad) = (x, s) := ⟨_, _, rfl⟩
  have hN : numR n (l, bad) = (beV x, s) := by unfold numR; rw [hmin, hT]
  rw [hN]
  rw [hT] at hx
  have HT := hide hT
  clear hT hN
  obtain ⟨V, hV⟩ : ∃ V : List UInt8 → Nat, V = beV := ⟨_, rfl⟩
  rw [← hV]
  have HV := hide hV
  clear hV
  go_enter Tryz.func50, Tryz.ntmps50
  go_wp2_with (first | (go_at_call 73; refine (rtake_any B b cap A l bad n _ H.out (by omega)).mono ?_; rw [HT.out]; rintro e w1 ⟨A1, c1, ok1, rfl, hR1, hS1, hk1⟩; have hR1 := hide hR1; have hS1 := hide hS1; have hk1 := hide hk1))
  go_loopw [7, 19] (fun v i wr => ∃ k : Nat, k ≤ x.length ∧ v = .int .u64 (V (x.take k)) ∧ i = .int .i64 k ∧ wr = w1) (fun _ i _ => x.length - (intOf i).toNat)
  case atStart => exact ⟨0, Nat.zero_le _, by rw [HV.out]; rfl, rfl, rfl⟩
  case round =>
    obtain ⟨k, hk, rfl, rfl, rfl⟩ := hrel
    by_cases hlt : k < x.length
    · obtain ⟨g, off, rfl, _, _, hc⟩ := hR1.out.at_ (by omega)
      have hc0 := hc k (by omega)
      rw [show (bytesV x)[k]? = some (.int .u8 x[k].toNat) by simp [bytesV, List.getElem?_eq_getElem hlt]] at hc0
      clear hc
      have hv1 : V (x.take k) < 72057594037927936 := by rw [HV.out]; exact beV_small (x.take k) (by rw [List.length_take]; omega)
      have hb1 := x[k].toNat_lt
      go_wp2
      have hor := or_byte (V (x.take k)) x[k].toNat hv1 hb1
      refine ⟨⟨k + 1, by omega, ?_, by go_num, trivial⟩, by simp [intOf]; omega⟩
      rw [hor, HV.out, beV_take x k hlt]
    · obtain rfl : k = x.length := by omega
      rw [List.take_of_length_le (Nat.le_refl _)]
      go_wp2
      go_ret
      exact ⟨rfl, hS1.out, hk1.out⟩

/-- A text read. -/
def sizedR (s : Rs) : List UInt8 × Rs := if 65536 < (numR 4 s).1 then ([], ([], 3)) else takeR (numR 4 s).1 (numR 4 s).2

set_option maxHeartbeats 4000000 in
set_option maxRecDepth 100000 in
theorem rsized_any (B : Nat → Prop) (b cap : Nat) (A : Option Addr) (l : List UInt8) (bad : Nat) (w : World) (h : RdrAt w B b A cap l bad) :
    Calls Tryz.prog 53 #[.pointer (some ⟨b, 0, none⟩)] w fun e w' => Rawed w w' B b (sizedR (l, bad)).1 (sizedR (l, bad)).2 e := by
  have H := hide h
  clear h
  obtain ⟨v, s, hN⟩ : ∃ v s, numR 4 (l, bad) = (v, s) := ⟨_, _, rfl⟩
  have HN := hide hN
  by_cases hv : 65536 < v
  · have hS : sizedR (l, bad) = ([], ([], 3)) := by unfold sizedR; rw [hN, if_pos hv]
    rw [hS]
    clear hS hN
    go_enter Tryz.func53, Tryz.ntmps53
    go_wp2_with (first | (go_at_call 50; refine (rnum_any B b cap A l bad 4 _ H.out (by decide)).mono ?_; rw [show ((4 : Nat) : Int) = 4 from rfl, HN.out]; rintro e w1 ⟨rfl, ⟨A1, c1, hS1⟩, hk1⟩; have hS1 := hide hS1; have hk1 := hide hk1) | (go_at_call 77; refine (rfail_any B b c1 A1 _ _ 3 _ hS1.out (by decide)).mono ?_; rintro e w2 ⟨rfl, hR2, hk2⟩))
    go_ret
    exact ⟨none, 0, rfl, World.ownsRow_nil _ _ _ _, hR2, hk1.out.trans hk2⟩
  · have hS : sizedR (l, bad) = takeR v s := by unfold sizedR; rw [hN, if_neg hv]
    rw [hS]
    clear hS hN
    go_enter Tryz.func53, Tryz.ntmps53
    go_wp2_with (first | (go_at_call 50; refine (rnum_any B b cap A l bad 4 _ H.out (by decide)).mono ?_; rw [show ((4 : Nat) : Int) = 4 from rfl, HN.out]; rintro e w1 ⟨rfl, ⟨A1, c1, hS1⟩, hk1⟩; have hS1 := hide hS1; have hk1 := hide hk1) | (go_at_call 74; refine (rraw_any B b c1 A1 _ _ v _ hS1.out (by omega)).mono ?_; rintro e w2 ⟨A2, c2, rfl, hR2, hS2, hk2⟩))
    go_ret
    have hsz := hk1.out.size
    refine ⟨A2, c2, rfl, ?_, hS2, hk1.out.trans hk2⟩
    refine ⟨hR2.1, ?_⟩
    rcases hR2.2 with hh | ⟨g, cap3, cur, h3, h4, h5⟩
    · exact .inl hh
    · exact .inr ⟨g, cap3, cur, h3, by omega, h5⟩
end Go.Proofs.YtahhglhebcooaaaGreatDoor
