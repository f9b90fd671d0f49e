/- Names in order: bytes.Compare, order. -/
import Derived.Test.YtimfmbcihopaaaaGreatDoorMapN
import Derived.Shelf.SlSortCmp.WholeK
import Derived.Shelf.Lay
import Derived.Ground.SlsfProg
import Derived.Deep.RegionWith
import Derived.Deep.RegionHeld3
import Derived.Lib.Bytealg
namespace Go.Proofs.YtimfmbcihopaaaaGreatDoor
open Go.RowKit Go.Cof Go.Shelf Go.Lib Go.Sort

abbrev Bv (n : Nat) := Vector UInt8 n
/-- The cells of an array of bytes. -/
def encB {n : Nat} (x : Bv n) : List Value := bytesV x.toList
theorem encB_len {n : Nat} (x : Bv n) : (encB x).length = n := by simp [encB]
theorem encB_one {n : Nat} (x : Bv n) : ∀ u ∈ encB x, u.oneCell' = true := bytesV_one _

theorem run_loadB {w : World} : ∀ (l : List UInt8) (a : Addr) (acc : ByteArray), (∀ j x, l[j]? = some x → w.cell? (a.add j) = some (.int .u8 x.toNat)) →
    (Extern.Bytes.loadBytes a l.length acc).run Tryz.prog w = .ok ⟨acc.data ++ l.toArray⟩ w
  | [], a, acc, _ => by simp [Extern.Bytes.loadBytes]
  | x :: l, a, acc, h => by
    have h0 : w.cell? a = some (.int .u8 x.toNat) := by
      have := h 0 x rfl
      simpa [Addr.add] using this
    have ih := run_loadB l (a.add 1) (acc.push x) (fun j y hy => by
      have := h (j + 1) y (by simpa using hy)
      have e : (a.add 1).add j = a.add (j + 1) := by
        unfold Addr.add
        by_cases hj : j = 0
        · subst hj; simp
        · simp [hj]; omega
      rw [e]; exact this)
    have hx : ((x.toNat : Int).toNat).toUInt8 = x := by simp
    simp only [List.length_cons, Extern.Bytes.loadBytes, Sem.run_bind, run_load, h0, Result.andThen, hx]
    rw [ih]
    congr 1
    apply ByteArray.ext
    simp [ByteArray.push]

theorem run_bytes_rd {w : World} {S : Nat → Prop} {A : Option Addr} {l : List UInt8} {c : Nat} (h : Rd w S 1 A l.length (bytesV l)) : (Extern.Bytes.bytesOf (.slice A l.length c)).run Tryz.prog w = .ok ⟨l.toArray⟩ w := by
  rcases A with _ | a
  · have hn : l.length = 0 := by
      rcases Nat.eq_zero_or_pos l.length with h0 | h0
      · exact h0
      · obtain ⟨_, _, h, _⟩ := h.at_ h0
        cases h
    obtain rfl : l = [] := List.eq_nil_of_length_eq_zero hn
    rfl
  · have := run_loadB (w := w) l a .empty (fun j x hj => by
      have hjl : j < l.length := (List.getElem?_eq_some_iff.1 hj).1
      obtain ⟨b, off, e, _, _, hc⟩ := h.at_ (by omega)
      simp only [Option.some.injEq] at e
      subst e
      rw [addr_plus, hc j (by omega)]
      simp [bytesV, hj])
    rw [Extern.Bytes.bytesOf, this]
    simp [ByteArray.empty, ByteArray.emptyWithCapacity]
    rfl

theorem bcmp_any (S S2 : Nat → Prop) (A B : Option Addr) (c c2 : Nat) (l k : List UInt8) (w : World) (h : Rd w S 1 A l.length (bytesV l)) (h2 : Rd w S2 1 B k.length (bytesV k)) :
    Calls Tryz.prog 72 #[.slice A l.length c, .slice B k.length c2] w fun e w' => e = .returned (.int .i64 (compareBytes l k)) ∧ w' = w := by
  have he := @run_callFunc_extern Tryz.prog 91 _ Extern.BytealgCompare.compare Tryz.func91 (by kernel_rfl) (by kernel_rfl) (by kernel_rfl) (by kernel_rfl)
  have hr : (Extern.BytealgCompare.compare #[.slice A l.length c, .slice B k.length c2]).run Tryz.prog w = .ok (.int .i64 (compareBytes l k)) w := by
    change Sem.run Tryz.prog (do pure (goInt (Extern.BytealgCompare.cmp (← Extern.Bytes.bytesOf (.slice A l.length c)) (← Extern.Bytes.bytesOf (.slice B k.length c2))))) w = _
    simp only [Sem.run_bind, run_bytes_rd h, run_bytes_rd h2, Sem.run_pure, Result.andThen]
    rw [Lib.cmp_eq]
    rfl
  generalize compareBytes l k = r at hr ⊢
  clear h h2
  go_enter Tryz.func72, Tryz.ntmps72
  go_wp2
  go_ret
  exact ⟨rfl, rfl⟩

theorem bcmp_fix (n : Nat) (A B : Option Addr) (l k : List UInt8) (w : World) (hl : l.length = n) (hk : k.length = n) (h : Rd w (fun _ => True) 1 A n (bytesV l)) (h2 : Rd w (fun _ => True) 1 B n (bytesV k)) :
    Calls Tryz.prog 72 #[.slice A n n, .slice B n n] w fun e w' => e = .returned (.int .i64 (compareBytes l k)) ∧ w' = w := by
  have h3 := bcmp_any (fun _ => True) (fun _ => True) A B n n l k w (by rw [hl]; exact h) (by rw [hk]; exact h2)
  rw [hl, hk] at h3
  exact h3

set_option maxHeartbeats 400000 in
set_option maxRecDepth 100000 in
theorem order_bytes (l k : List UInt8) (W : World) (hl : l.length = 16) (hk : k.length = 16) : Calls Tryz.prog 53 #[.agg (bytesV l).toArray, .agg (bytesV k).toArray] W fun e w' => e = .returned (.int .i64 (compareBytes l k)) ∧ ∃ q os', w' = grow (W.drewN q) os' := by
  have hx : (bytesV l).length = 16 := by rw [bytesV_length, hl]
  have hy : (bytesV k).length = 16 := by rw [bytesV_length, hk]
  obtain ⟨X, hX⟩ : ∃ X, X = bytesV l := ⟨_, rfl⟩
  obtain ⟨Y, hY⟩ : ∃ Y, Y = bytesV k := ⟨_, rfl⟩
  obtain ⟨r, hr⟩ : ∃ r, r = compareBytes l k := ⟨_, rfl⟩
  rw [← hX] at hx ⊢
  rw [← hY] at hy ⊢
  rw [← hr]
  have hcmp : ∀ w' : World, Rd w' (fun _ => True) 1 (some ⟨W.heap.size, 0, none⟩) 16 X → Rd w' (fun _ => True) 1 (some ⟨W.heap.size + 1, 0, none⟩) 16 Y → Calls Tryz.prog 72 #[.slice (some ⟨W.heap.size, 0, none⟩) 16 16, .slice (some ⟨W.heap.size + 1, 0, none⟩) 16 16] w' fun e w2 => e = .returned (.int .i64 r) ∧ w2 = w' := by
    intro w' h1 h2
    rw [hr]
    exact bcmp_fix 16 _ _ l k w' hl hk (by rw [← hX]; exact h1) (by rw [← hY]; exact h2)
  have Hcmp := hide (hcmp (((W.alloc (.cells X.toArray 65)).alloc (.cells Y.toArray 65)).drew)
    (((Rd.new (n := 16) (sz := 1) W 65 X (0, 0) hx).alloc _).drew.mono (fun _ _ _ => trivial))
    ((Rd.new_at (n := 16) (sz := 1) (W.alloc (.cells X.toArray 65)) 65 Y (W.heap.size + 1) (by simp) hy).drew.mono (fun _ _ _ => trivial)))
  clear hcmp hX hY hr hl hk
  go_enter Tryz.func53, Tryz.ntmps53
  go_wp2_with fail
  go_region_with (go_at_call 72; refine Hcmp.out.mono ?_; rintro e w1 ⟨rfl, rfl⟩)
  go_wp2_with fail
  go_ret
  exact ⟨rfl, 1, _, by
    show (((W.drewN 1).alloc _).alloc _) = _
    rw [alloc_eq_grow, alloc_eq_grow, grow_grow]⟩

theorem order_any (x y : Bv 16) (W : World) : Calls Tryz.prog 53 #[.agg (encB x).toArray, .agg (encB y).toArray] W fun e w' => e = .returned (.int .i64 (compareBytes x.toList y.toList)) ∧ ∃ q os', w' = grow (W.drewN q) os' :=
  order_bytes x.toList y.toList W (by simp) (by simp)

/-- The order of names. -/
def cfB (x y : Bv 16) : Int := compareBytes x.toList y.toList
theorem cmpB_self : ∀ l : List UInt8, compareBytes l l = 0
  | [] => rfl
  | a :: l => by unfold compareBytes; rw [if_neg (UInt8.lt_irrefl a), if_neg (UInt8.lt_irrefl a)]; exact cmpB_self l
theorem cmpB_eq : ∀ l k : List UInt8, compareBytes l k = 0 → l = k
  | [], [], _ => rfl
  | [], _ :: _, h => by simp [compareBytes] at h
  | _ :: _, [], h => by simp [compareBytes] at h
  | a :: l, b :: k, h => by
    unfold compareBytes at h
    split at h
    · omega
    · rename_i h1
      split at h
      · omega
      · rename_i h2
        rw [UInt8.le_antisymm (UInt8.not_lt.1 h2) (UInt8.not_lt.1 h1), cmpB_eq l k h]
theorem cmpB_trans : ∀ l k m : List UInt8, compareBytes l k < 0 → compareBytes k m < 0 → compareBytes l m < 0
  | [], [], _, h, _ => by simp [compareBytes] at h
  | [], _ :: _, [], _, h => by simp [compareBytes] at h
  | [], _ :: _, _ :: _, _, _ => by simp [compareBytes]
  | _ :: _, [], _, h, _ => by simp [compareBytes] at h
  | _ :: _, _ :: _, [], _, h => by simp [compareBytes] at h
  | a :: l, b :: k, c :: m, h1, h2 => by
    unfold compareBytes at h1 h2 ⊢
    by_cases x1 : a < b
    · by_cases y1 : b < c
      · rw [if_pos (UInt8.lt_trans x1 y1)]; decide
      · rw [if_neg y1] at h2
        by_cases y2 : c < b
        · rw [if_pos y2] at h2; omega
        · obtain rfl := UInt8.le_antisymm (UInt8.not_lt.1 y2) (UInt8.not_lt.1 y1)
          rw [if_pos x1]; decide
    · rw [if_neg x1] at h1
      by_cases x2 : b < a
      · rw [if_pos x2] at h1; omega
      · obtain rfl := UInt8.le_antisymm (UInt8.not_lt.1 x2) (UInt8.not_lt.1 x1)
        rw [if_neg x2] at h1
        by_cases y1 : a < c
        · rw [if_pos y1]; decide
        · rw [if_neg y1] at h2 ⊢
          by_cases y2 : c < a
          · rw [if_pos y2] at h2; omega
          · rw [if_neg y2] at h2 ⊢
            exact cmpB_trans l k m h1 h2
theorem cmpB_neg : ∀ l k : List UInt8, compareBytes l k = - compareBytes k l
  | [], [] => rfl
  | [], _ :: _ => rfl
  | _ :: _, [] => rfl
  | a :: l, b :: k => by
    unfold compareBytes
    by_cases h1 : a < b
    · have h2 : ¬ b < a := fun h => UInt8.lt_irrefl a (UInt8.lt_trans h1 h)
      rw [if_pos h1, if_neg h2, if_pos h1]
    · by_cases h2 : b < a
      · rw [if_neg h1, if_pos h2, if_pos h2]; rfl
      · rw [if_neg h1, if_neg h2, if_neg h2, if_neg h1]
        exact cmpB_neg l k
theorem ltB (x y : Bv 16) : ltOf cfB x y = decide (cfB x y < 0) := rfl
theorem swoB : SWO (ltOf cfB) where
  irrefl x := by rw [ltB, cfB, cmpB_self]; rfl
  trans x y z h1 h2 := by
    rw [ltB, decide_eq_true_eq] at *
    exact cmpB_trans _ _ _ h1 h2
  ntrans x y z h1 h2 := by
    rw [ltB, decide_eq_false_iff_not] at *
    intro h3
    have n1 := cmpB_neg y.toList x.toList
    have n2 := cmpB_neg z.toList y.toList
    unfold cfB at *
    by_cases e1 : compareBytes x.toList y.toList = 0
    · rw [cmpB_eq _ _ e1] at h3; exact h2 h3
    · by_cases e2 : compareBytes y.toList z.toList = 0
      · rw [← cmpB_eq _ _ e2] at h3; exact h1 h3
      · have := cmpB_trans z.toList y.toList x.toList (by omega) (by omega)
        have n3 := cmpB_neg z.toList x.toList
        omega
end Go.Proofs.YtimfmbcihopaaaaGreatDoor
