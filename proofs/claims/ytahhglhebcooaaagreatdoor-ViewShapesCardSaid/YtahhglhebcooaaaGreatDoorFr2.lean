/- frame.Put. -/
import Derived.Test.YtahhglhebcooaaaGreatDoorFr1
import Derived.Lib.SlBytesConst
namespace Go.Proofs.YtahhglhebcooaaaGreatDoor
open Go.RowKit Go.Cof Go.Tol

theorem own_new {w : World} {base n : Nat} {e : TypeId} {xs : List Value} (hn : xs.length = n) (hb : base ≤ w.heap.size) (hm : n ≤ maxLen) : (w.alloc (.cells xs.toArray e)).ownsRow base e 1 (.slice (some ⟨w.heap.size, 0, none⟩) n n) n xs :=
  ⟨by omega, .inr ⟨w.heap.size, n, xs.toArray, rfl, hb, heap_new _ _, Nat.le_refl _, hm, by simp; omega, by rw [List.toList_toArray, List.take_of_length_le (by omega)]⟩⟩
theorem own_mono {w : World} {B B' n sz : Nat} {e : TypeId} {v : Value} {xs : List Value} (h : w.ownsRow B e sz v n xs) (hb : B' ≤ B) : w.ownsRow B' e sz v n xs := by
  refine ⟨h.1, ?_⟩
  rcases h.2 with h1 | ⟨g, cap, cur, hv, hg, h1⟩
  · exact .inl h1
  · exact .inr ⟨g, cap, cur, hv, Nat.le_trans hb hg, h1⟩
theorem own_rd {w : World} {base n c sz : Nat} {e : TypeId} {A : Option Addr} {xs : List Value} (h : w.ownsRow base e sz (.slice A n c) n xs) : Rd w (fun b => base ≤ b) sz A n xs := Rd.of_own h (fun _ _ h => h)
theorem wsized_b {S S2 : Nat → Prop} {A B : Option Addr} {cap cap2 n m : Nat} (l x : List UInt8) {w : World} (hn : n = l.length) (hm : m = x.length) (hr : Rd w S 1 A n (bytesV l)) (hl : n ≤ 1073741824) (hx : Rd w S2 1 B m (bytesV x)) (hxl : m ≤ 1073741824) :
    Calls Tryz.prog 45 #[.slice A n cap, .slice B m cap2] w fun e w' => Cloned w w' (l ++ beL x.length 4 ++ x) e := by
  subst hn hm
  exact wsized_any S S2 A B cap cap2 l x w hr hl hx hxl
theorem wput_b {S : Nat → Prop} {A : Option Addr} {cap m : Nat} (l : List UInt8) (v n : Nat) {u z : Int} {w : World} (hm : m = l.length) (hu : u = v) (hz : z = n) (hr : Rd w S 1 A m (bytesV l)) (hl : m ≤ 1073741824) (hn : 0 < n ∧ n ≤ 8) (hv : v < 18446744073709551616) :
    Calls Tryz.prog 31 #[.slice A m cap, .int .u64 u, .int .i64 z] w fun e w' => Cloned w w' (l ++ beL v n) e := by
  subst hm hu hz
  exact wput_any S A cap l v n w hr hl hn hv

theorem rd_front (X : World) (t : TypeId) (xs : List Value) (Z : Array Value) (n M : Nat) (hn : xs.length = n) (hM : M = X.heap.size) : Rd (X.alloc (.cells (xs.toArray ++ Z) t)) (fun i => X.heap.size ≤ i) 1 (some ⟨M, 0, none⟩) n xs := by
  subst hn hM
  refine ⟨by omega, fun _ => ⟨X.heap.size, 0, rfl, Nat.le_refl _, by simp, fun j hj => ?_⟩⟩
  rw [cell_of_row _ _ _ _ _ _ (heap_new X _), Nat.zero_add, Array.getElem?_append_left (by simpa using hj), List.getElem?_toArray]
/-- A frame's bytes. -/
def frontL (l : List UInt8) : List UInt8 := [67, 70, 49, 1] ++ beL l.length 4 ++ l
def frameL (l : List UInt8) : List UInt8 := frontL l ++ (shaL (frontL l)).take 4
theorem frontL_length (l : List UInt8) : (frontL l).length = 8 + l.length := by simp [frontL, beL_length]; omega
theorem frameL_length (l : List UInt8) : (frameL l).length = 12 + l.length := by rw [frameL, List.length_append, frontL_length, List.length_take, shaL_length]; omega
/-- Bytes of one's own, and no error. -/
def Put2 (w w' : World) (l : List UInt8) (e : Ending) : Prop :=
  ∃ A c, e = .returned (.tuple #[.slice A l.length c, .int .i64 0]) ∧ w'.ownsRow w.heap.size 5 1 (.slice A l.length c) l.length (bytesV l) ∧ Below w.heap.size w w'

set_option maxHeartbeats 8000000 in
set_option maxRecDepth 100000 in
theorem fput_any (S : Nat → Prop) (A : Option Addr) (cap : Nat) (l : List UInt8) (w : World) (hr : Rd w S 1 A l.length (bytesV l)) (hl : l.length ≤ 65536) :
    Calls Tryz.prog 26 #[.int .i64 1, .slice A l.length cap] w fun e w' => Put2 w w' (frameL l) e := by
  have Hr := hide hr
  have hli : (l.length : Int) ≤ 65536 := by omega
  have Hl := hide hl
  clear hr hl
  go_enter Tryz.func26, Tryz.ntmps26
  go_upto_region 5 with (fail)
  have hcv := Lib.run_convert_bytes_const (P := Tryz.prog) w 28 5 #[.int .u8 67, .int .u8 70, .int .u8 49] 3 3 Tryz.underlying28 Tryz.underlying5
  have hA := heap_old (heap_new w (.cells #[.int .u8 67, .int .u8 70, .int .u8 49] 5 (3, 4))) (.cells #[.int .u8 1] 5)
  have hB := heap_new (w.alloc (.cells #[.int .u8 67, .int .u8 70, .int .u8 49] 5 (3, 4))) (.cells #[.int .u8 1] 5)
  have a0 := cell_of_row _ _ 0 _ _ _ hA
  have a1 := cell_of_row _ _ 1 _ _ _ hA
  have a2 := cell_of_row _ _ 2 _ _ _ hA
  have b0 := cell_of_row _ _ 0 _ _ _ hB
  rw [show (w.alloc (.cells #[.int .u8 67, .int .u8 70, .int .u8 49] 5 (3, 4))).heap.size = w.heap.size + 1 by simp] at b0
  clear hA hB
  obtain ⟨X, hX⟩ : ∃ X : World, X = (w.alloc (.cells #[.int .u8 67, .int .u8 70, .int .u8 49] 5 (3, 4))).alloc (.cells #[.int .u8 1] 5) := ⟨_, rfl⟩
  have HXz := hide (show w.heap.size + 1 + 1 = X.heap.size by rw [hX]; simp)
  have HXb := hide (show Below w.heap.size w X by rw [hX]; exact ((Below.refl _ _).alloc (Nat.le_refl _) _).alloc (by simp) _)
  have HX := hide hX
  clear hX
  go_wp2_with (fail)
  obtain ⟨c3, hc3⟩ : ∃ c, c = (Question.appendCap 4 3 5).cut (w.tape w.drawn (Question.appendCap 4 3 5)) := ⟨_, rfl⟩
  obtain ⟨Z, hZ⟩ : ∃ Z, Z = Builtin.zeroCells #[.int .u8 0] (c3 - 4) := ⟨_, rfl⟩
  obtain ⟨W3, hW3⟩ : ∃ W : World, W = (X.alloc (.cells (#[.int .u8 67, .int .u8 70, .int .u8 49, .int .u8 1] ++ Z) 5)).drew := ⟨_, rfl⟩
  have HR3 := hide (show Rd W3 (fun i => X.heap.size ≤ i) 1 (some ⟨w.heap.size + 1 + 1, 0, none⟩) 4 (bytesV [67, 70, 49, 1]) by rw [hW3]; exact (rd_front X 5 [.int .u8 67, .int .u8 70, .int .u8 49, .int .u8 1] Z 4 (w.heap.size + 1 + 1) rfl HXz.out).drew)
  have HB3 := hide (show Below w.heap.size w W3 by rw [hW3]; exact (HXb.out.alloc HXb.out.size _).drew)
  rw [← hc3, ← hZ, ← HX.out, ← hW3]
  clear hc3 hZ hW3 HX HXz HXb hcv a0 a1 a2 b0
  refine (wsized_b [67, 70, 49, 1] l rfl rfl HR3.out (by decide) (Hr.out.keep (Keep.of_none HB3.out) (fun _ _ _ f => f)) (by have := Hl.out; omega)).mono ?_
  rintro e w5 ⟨A5, c5, rfl, hown5, hb5⟩
  obtain ⟨out, hout⟩ : ∃ out, out = frontL l := ⟨_, rfl⟩
  have Hout := hide hout
  have ho2 : [67, 70, 49, 1] ++ beL l.length 4 ++ l = out := by rw [hout]; rfl
  rw [ho2] at hown5 ⊢
  have hol : out.length ≤ 65544 := by rw [hout, frontL_length]; have := Hl.out; omega
  have Hcon := hide (check_any (fun b => b < w5.heap.size) A5 c5 out w5 ((own_rd hown5).mono (fun b hb _ => hb)) (own_caps hown5).1 (by omega) (fun _ h => h))
  have Hown5 := hide (own_mono hown5 HB3.out.size)
  have Hb5 := hide (HB3.out.trans (hb5.mono HB3.out.size))
  clear hout ho2 hown5 hb5
  go_wp2_with (first
    | (go_at_call 46; ((with_reducible refine Hcon.out.mono ?_)); rintro e w7 ⟨g, rfl, hr7, hg7, hb7⟩; have Hr7 := hide hr7; have Hb7 := hide hb7; have Hown7 := hide (own_below Hown5.out hb7); clear hr7 hg7 hb7)
    | (at_builtin; refine wpList_append_rd _ rfl (.tmp 26) (.tmp 28) 28 28 rfl w.heap.size 5 5 (.int .u8 0) 1 1 Tryz.underlying28 Tryz.underlying28 Tryz.infoU8 rfl (by decide) (.slice A5 out.length c5) out.length (bytesV out) rfl (by exact Hown7.out) (fun i => w5.heap.size ≤ i) (some ⟨g, 0, none⟩) 4 32 (bytesV ((shaL out).take 4)) rfl (by exact Hr7.out) (bytesV_one _) (by unfold maxLen; omega) (by omega) (by have h1 := Hb5.out.size; have h2 := Hb7.out.size; omega) ?_; intro A8 c8 w8 hown8 hgrow8 hat8; have Hown8 := hide hown8; have Hgr8 := hide hgrow8; clear hown8 hgrow8 hat8)
    | fail)
  go_ret2
  have e1 : bytesV (frameL l) = bytesV out ++ bytesV ((shaL out).take 4) := by rw [frameL, ← Hout.out, bytesV_append]
  have e2 : (frameL l).length = out.length + 4 := by rw [frameL_length, Hout.out, frontL_length]; omega
  refine ⟨A8, c8, by rw [e2]; rfl, by rw [e1, e2]; exact Hown8.out, ?_⟩
  have hb7 := Hb5.out.trans (Hb7.out.mono Hb5.out.size)
  refine hb7.grown Hgr8.out hb7.size (fun k h => ?_)
  exact (Hown5.out.lt k h).1
end Go.Proofs.YtahhglhebcooaaaGreatDoor
