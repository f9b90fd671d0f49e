/- manifest.Put. -/
import Derived.Test.YtimfmbcihopaaaaGreatDoorPutD
import Derived.Test.YtimfmbcihopaaaaGreatDoorZeros
import Derived.Deep.RegionHeld3
import Derived.Laws.IdiomStrings
namespace Go.Proofs.YtimfmbcihopaaaaGreatDoor
open Go.RowKit Go.Cof

def mputL (b : BodyA) : List UInt8 := if okB b then putL b else []
def NumsA (b : BodyA) : Prop := b.gen < 18446744073709551616 ∧ b.epoch < 18446744073709551616 ∧ b.stamp < 18446744073709551616
/-- What manifest.Put comes to. -/
def PutM (w w' : World) (b : BodyA) (e : Ending) : Prop :=
  ∃ A cap, e = .returned (.tuple #[.slice A (mputL b).length cap, .int .i64 (codeB b)]) ∧ w'.ownsRow w.heap.size 5 1 (.slice A (mputL b).length cap) (mputL b).length (bytesV (mputL b)) ∧ Below w.heap.size w w'
theorem own_low {w : World} {base base' size n : Nat} {e : TypeId} {v : Value} {xs : List Value} (h : w.ownsRow base e size v n xs) (hb : base' ≤ base) : w.ownsRow base' e size v n xs := by
  refine ⟨h.1, ?_⟩
  rcases h.2 with hh | ⟨g, cap3, cur, h3, h4, h5⟩
  · exact .inl hh
  · exact .inr ⟨g, cap3, cur, h3, by omega, h5⟩
theorem BodyC.below {w w' : World} {T : Nat → Prop} {b : BodyA} {v : Value} (h : BodyC w T b v) (hk : Below w.heap.size w w') : BodyC w' T b v := by
  obtain ⟨AR, cR, xsR, AP, cP, xsP, rfl, hrR, heR, hrP, heP, hlR, hlP, hT⟩ := h
  exact ⟨AR, cR, xsR, AP, cP, xsP, rfl, hrR.keep (Keep.of_none hk) (fun _ _ _ f => f), heR, hrP.keep (Keep.of_none hk) (fun _ _ _ f => f), heP.imp (fun p c _ hc => PackC.keep (Keep.of_none hk) (fun _ _ _ f => f) p c hc), hlR, hlP, fun i hi => Nat.lt_of_lt_of_le (hT i hi) hk.size⟩
/-- A row of bytes behind a number: wire.Put, in a form that fits by letters alone. -/
theorem wput_b {S : Nat → Prop} {A : Option Addr} {cap k : Nat} {zv z : Int} (l r : List UInt8) (v n : Nat) {w : World} (hr : Rd w S 1 A l.length (bytesV l)) (hk : l.length = k) (he : r = l ++ beL v n) (hzv : zv = v) (hz : z = n) (hl : l.length ≤ 1073741824) (hn : 0 < n ∧ n ≤ 8) (hv : v < 18446744073709551616) :
    Calls Tryz.prog 25 #[.slice A k cap, .int .u64 zv, .int .i64 z] w fun e w' => Cloned w w' r e := by
  subst hk hzv hz
  rw [he]; exact wput_any S A cap l v n w hr hl hn hv

section
variable {ops : Array Oper} {o : Oper} {a : Act} {w w1 : World} {K : Act → World → Prop} {Q : Exit → Act → World → Prop} {E : Prop} {rest : List Oper}
/-- append of bytes onto a row of bytes of one's own, the row named. -/
theorem wp_append_bg (s x : Operand) (ho : o.op = .call { callee := .builtin .append, args := #[s, x], argTypes := #[27, 27] })
    (B : Nat) (acc y r : List UInt8) (he : r = acc ++ y) {A : Option Addr} {k cap : Nat} (hk : acc.length = k) (hs : a.eval s = .slice A k cap) (hown : w.ownsRow B 5 1 (.slice A acc.length cap) acc.length (bytesV acc)) (hb : Below B w1 w) (hB : B ≤ w1.heap.size)
    {S : Nat → Prop} {A2 : Option Addr} {m c2 : Nat} (hm : y.length = m) (hx : a.eval x = .slice A2 m c2) (hr : Rd w S 1 A2 y.length (bytesV y)) (hl : acc.length ≤ 1073741824 ∧ y.length ≤ 1073741824)
    (h : ∀ A' cap' w', w'.ownsRow B 5 1 (.slice A' r.length cap') r.length (bytesV r) → Below B w1 w' → w.grownBy w' (Value.slice A k cap).ownBlock → K (a.put o.dst (.slice A' r.length cap')) w') : o.wp Tryz.prog a w K Q := by
  subst he hk hm
  refine wp_append_rd w s x 27 27 ho B 5 5 (.int .u8 0) 1 1 Tryz.underlying27 Tryz.underlying27 Tryz.infoU8 rfl (by decide) _ _ _ hs hown S A2 y.length c2 (bytesV y) hx hr (bytesV_one y) (by unfold maxLen; omega) (by omega) (Nat.le_trans hB hb.size) ?_
  intro A' cap' w' h2 h3 h4
  rw [← List.length_append] at h2 ⊢
  refine h A' cap' w' (by rw [bytesV_append]; exact h2) (hb.grown h3 (Nat.le_trans hB hb.size) (fun j hj => (hown.lt j hj).1)) h3
theorem wp_append_b (s x : Operand) (ho : o.op = .call { callee := .builtin .append, args := #[s, x], argTypes := #[27, 27] })
    (B : Nat) (acc y r : List UInt8) (he : r = acc ++ y) {A : Option Addr} {k cap : Nat} (hk : acc.length = k) (hs : a.eval s = .slice A k cap) (hown : w.ownsRow B 5 1 (.slice A acc.length cap) acc.length (bytesV acc)) (hb : Below B w1 w) (hB : B ≤ w1.heap.size)
    {S : Nat → Prop} {A2 : Option Addr} {m c2 : Nat} (hm : y.length = m) (hx : a.eval x = .slice A2 m c2) (hr : Rd w S 1 A2 y.length (bytesV y)) (hl : acc.length ≤ 1073741824 ∧ y.length ≤ 1073741824)
    (h : ∀ A' cap' w', w'.ownsRow B 5 1 (.slice A' r.length cap') r.length (bytesV r) → Below B w1 w' → K (a.put o.dst (.slice A' r.length cap')) w') : o.wp Tryz.prog a w K Q :=
  wp_append_bg s x ho B acc y r he hk hs hown hb hB hm hx hr hl fun A' cap' w' h1 h2 _ => h A' cap' w' h1 h2
theorem step_append_bg (hgd : o.guard = none) (s x : Operand) (ho : o.op = .call { callee := .builtin .append, args := #[s, x], argTypes := #[27, 27] })
    (B : Nat) (acc y r : List UInt8) (he : r = acc ++ y) {A : Option Addr} {k cap : Nat} (hk : acc.length = k) (hs : a.eval s = .slice A k cap) (hown : w.ownsRow B 5 1 (.slice A acc.length cap) acc.length (bytesV acc)) (hb : Below B w1 w) (hB : B ≤ w1.heap.size)
    {S : Nat → Prop} {A2 : Option Addr} {m c2 : Nat} (hm : y.length = m) (hx : a.eval x = .slice A2 m c2) (hr : Rd w S 1 A2 y.length (bytesV y)) (hl : acc.length ≤ 1073741824 ∧ y.length ≤ 1073741824)
    (h : ∀ A' cap' w', w'.ownsRow B 5 1 (.slice A' r.length cap') r.length (bytesV r) → Below B w1 w' → w.grownBy w' (Value.slice A k cap).ownBlock → K (a.put o.dst (.slice A' r.length cap')) w') : if Region.wanted o (yielded ops a.tmps) = true then Oper.wp Tryz.prog o a w K Q else E := by
  have hw : Region.wanted o (yielded ops a.tmps) = true := by simp [Region.wanted, hgd]
  rw [if_pos hw]
  exact wp_append_bg s x ho B acc y r he hk hs hown hb hB hm hx hr hl h
theorem step_append_b (hgd : o.guard = none) (s x : Operand) (ho : o.op = .call { callee := .builtin .append, args := #[s, x], argTypes := #[27, 27] })
    (B : Nat) (acc y r : List UInt8) (he : r = acc ++ y) {A : Option Addr} {k cap : Nat} (hk : acc.length = k) (hs : a.eval s = .slice A k cap) (hown : w.ownsRow B 5 1 (.slice A acc.length cap) acc.length (bytesV acc)) (hb : Below B w1 w) (hB : B ≤ w1.heap.size)
    {S : Nat → Prop} {A2 : Option Addr} {m c2 : Nat} (hm : y.length = m) (hx : a.eval x = .slice A2 m c2) (hr : Rd w S 1 A2 y.length (bytesV y)) (hl : acc.length ≤ 1073741824 ∧ y.length ≤ 1073741824)
    (h : ∀ A' cap' w', w'.ownsRow B 5 1 (.slice A' r.length cap') r.length (bytesV r) → Below B w1 w' → K (a.put o.dst (.slice A' r.length cap')) w') : if Region.wanted o (yielded ops a.tmps) = true then Oper.wp Tryz.prog o a w K Q else E := by
  have hw : Region.wanted o (yielded ops a.tmps) = true := by simp [Region.wanted, hgd]
  rw [if_pos hw]
  exact wp_append_b s x ho B acc y r he hk hs hown hb hB hm hx hr hl h
theorem wpList_append_b (hgd : o.guard = none) (s x : Operand) (ho : o.op = .call { callee := .builtin .append, args := #[s, x], argTypes := #[27, 27] })
    (B : Nat) (acc y r : List UInt8) (he : r = acc ++ y) {A : Option Addr} {k cap : Nat} (hk : acc.length = k) (hs : a.eval s = .slice A k cap) (hown : w.ownsRow B 5 1 (.slice A acc.length cap) acc.length (bytesV acc)) (hb : Below B w1 w) (hB : B ≤ w1.heap.size)
    {S : Nat → Prop} {A2 : Option Addr} {m c2 : Nat} (hm : y.length = m) (hx : a.eval x = .slice A2 m c2) (hr : Rd w S 1 A2 y.length (bytesV y)) (hl : acc.length ≤ 1073741824 ∧ y.length ≤ 1073741824)
    (h : ∀ A' cap' w', w'.ownsRow B 5 1 (.slice A' r.length cap') r.length (bytesV r) → Below B w1 w' → wpList Tryz.prog ops Q rest (a.put o.dst (.slice A' r.length cap')) w') : wpList Tryz.prog ops Q (o :: rest) a w :=
  wpList_plain hgd fun _ hK => wp_append_b s x ho B acc y r he hk hs hown hb hB hm hx hr hl fun A' cap' w' h2 h3 => hK _ _ (h A' cap' w' h2 h3)
theorem wpList_append_bg (hgd : o.guard = none) (s x : Operand) (ho : o.op = .call { callee := .builtin .append, args := #[s, x], argTypes := #[27, 27] })
    (B : Nat) (acc y r : List UInt8) (he : r = acc ++ y) {A : Option Addr} {k cap : Nat} (hk : acc.length = k) (hs : a.eval s = .slice A k cap) (hown : w.ownsRow B 5 1 (.slice A acc.length cap) acc.length (bytesV acc)) (hb : Below B w1 w) (hB : B ≤ w1.heap.size)
    {S : Nat → Prop} {A2 : Option Addr} {m c2 : Nat} (hm : y.length = m) (hx : a.eval x = .slice A2 m c2) (hr : Rd w S 1 A2 y.length (bytesV y)) (hl : acc.length ≤ 1073741824 ∧ y.length ≤ 1073741824)
    (h : ∀ A' cap' w', w'.ownsRow B 5 1 (.slice A' r.length cap') r.length (bytesV r) → Below B w1 w' → w.grownBy w' (Value.slice A k cap).ownBlock → wpList Tryz.prog ops Q rest (a.put o.dst (.slice A' r.length cap')) w') : wpList Tryz.prog ops Q (o :: rest) a w :=
  wpList_plain hgd fun _ hK => wp_append_bg s x ho B acc y r he hk hs hown hb hB hm hx hr hl fun A' cap' w' h2 h3 h4 => hK _ _ (h A' cap' w' h2 h3 h4)
/-- []byte(s): the world behind it. -/
noncomputable def convC (w : World) (l : List UInt8) : Nat := grownCap w l.length 0 5
noncomputable def convW (w : World) (l : List UInt8) : World := w.drew.alloc (.cells (bytesRow ⟨l.toArray⟩ (convC w l)) 5 ((bytesRow ⟨l.toArray⟩ (convC w l)).size, (bytesRow ⟨l.toArray⟩ (convC w l)).size + 1))
theorem conv_run (l : List UInt8) : ∀ w : World, (convert 9 27 (.string ⟨l.toArray⟩)).run Tryz.prog w = .ok (.slice (some ⟨w.heap.size, 0, none⟩) l.length (convC w l)) (convW w l) := fun w =>
  run_bytes_of_string w 9 27 5 ⟨l.toArray⟩ Tryz.underlying9 Tryz.underlying27 Tryz.underlying5
theorem conv_below (w : World) (l : List UInt8) : Below w.heap.size w (convW w l) := by
  unfold convW
  exact (Below.refl _ _).drew.alloc (Nat.le_refl _) _
theorem conv_rd (w : World) (l : List UInt8) : Rd (convW w l) (fun i => w.heap.size ≤ i) 1 (some ⟨w.heap.size, 0, none⟩) l.length (bytesV l) := by
  refine ⟨by simp, fun _ => ⟨w.heap.size, 0, rfl, Nat.le_refl _, by unfold convW; simp, fun j hj => ?_⟩⟩
  rw [Nat.mul_one] at hj
  rw [Nat.zero_add, convW, cell_of_row _ w.heap.size j _ _ _ (heap_alloc_new w.drew _), bytesRow_at _ _ _ (by show j < l.toArray.size; simpa using hj)]
  simp [bytesV, hj]
theorem wsized_b {S S2 : Nat → Prop} {A B : Option Addr} {cap cap2 k n : Nat} (l x r : List UInt8) {w : World} (hr : Rd w S 1 A l.length (bytesV l)) (hk : l.length = k) (he : r = l ++ beL x.length 4 ++ x) (hl : l.length ≤ 1073741824) (hx : Rd w S2 1 B x.length (bytesV x)) (hn : x.length = n) (hxl : x.length ≤ 1073741824) :
    Calls Tryz.prog 26 #[.slice A k cap, .slice B n cap2] w fun e w' => Cloned w w' r e := by
  subst hk hn
  rw [he]; exact wsized_any S S2 A B cap cap2 l x w hr hl hx hxl
/-- A part of a block that reads as bytes. -/
theorem rd_part {w : World} {b o : Nat} {l : List UInt8} (h : w.rangeAt b o (bytesV l)) (hb : b < w.heap.size) : Rd w (· = b) 1 (some ⟨b, o, none⟩) l.length (bytesV l) :=
  ⟨by simp, fun _ => ⟨b, o, rfl, rfl, hb, fun j hj => by
    rw [Nat.mul_one] at hj
    have h1 : j < (bytesV l).length := by simpa using hj
    rw [List.getElem?_eq_getElem h1]
    exact h j _ (List.getElem?_eq_getElem h1)⟩⟩
/-- One byte that was just built. -/
theorem rd_byte (w : World) (N : Nat) (hN : N = w.heap.size) (x : Int) (c : UInt8) (hx : x = c.toNat) : Rd (w.alloc (.cells #[.int .u8 x] 5)) (· = N) 1 (some ⟨N, 0, none⟩) [c].length (bytesV [c]) := by
  subst hx
  exact Rd.new_at w 5 [.int .u8 c.toNat] N hN rfl
end

set_option maxHeartbeats 4000000 in
set_option maxRecDepth 100000 in
theorem mput_any (T : Nat → Prop) (b : BodyA) (v : Value) (m : Int) (w : World) (h : BodyC w T b v) (hm : w.cell? ⟨0, 0, none⟩ = some (.int .i64 m)) (hn : NumsA b) :
    Calls Tryz.prog 7 #[v] w fun e w' => PutM w w' b e := by
  have h0 := cell_lt hm
  have hcheck := fun (W : World) (hk : Below w.heap.size w W) => check_any T b v m W (h.below hk) ((hk.cell (p := ⟨0, 0, none⟩) h0).trans hm)
  obtain ⟨AR, cR, xsR, AP, cP, xsP, rfl, hrR, heR, hrP, heP, hlR, hlP, hT⟩ := h
  have HrR := hide hrR
  have HeR := hide heR
  have HrP := hide hrP
  have HeP := hide heP
  have HT := hide hT
  have Hcheck := hide hcheck
  clear hrR heR hrP heP hT hcheck hm
  rcases hok : okB b with _ | _
  · have Hc := hide (show codeB b = 2 by rw [codeB, hok]; rfl)
    have Hp := hide (show mputL b = [] by rw [mputL, hok]; rfl)
    clear hok
    go_enter Tryz.func7, Tryz.ntmps7
    go_wp2_with (go_at_call 6; refine (Hcheck.out _ ((Below.refl _ _).alloc (Nat.le_refl _) _)).mono ?_; rw [Hc.out]; rintro e w1 ⟨rfl, hb1⟩)
    go_ret2
    refine ⟨none, 0, by rw [Hc.out, Hp.out]; rfl, by rw [Hp.out]; exact World.ownsRow_nil _ _ _ _, ((Below.refl _ _).alloc (Nat.le_refl _) _).trans (hb1.mono (by simp))⟩
  · have Hc := hide (show codeB b = 0 by rw [codeB, hok]; rfl)
    have Hp := hide (show mputL b = putL b by rw [mputL, hok]; rfl)
    have hfew := few_ok b.toD (by rw [ok_toD]; exact hok)
    have hok2 := hok
    simp only [okB, Bool.and_eq_true, decide_eq_true_eq] at hok2
    obtain ⟨⟨hw1, hw2, hr8, hp12⟩, _, hpall, _⟩ := hok2
    have Hpall := hide (List.all_eq_true.1 hpall)
    have Hnames := hide (names_short b hok)
    have Hshort := hide (said_short b hok)
    obtain ⟨wt, hwt⟩ : ∃ n : Nat, b.writer = n := ⟨b.writer.toNat, by omega⟩
    have Hwt := hide hwt
    obtain ⟨hg1, hg2, hg3⟩ := hn
    rw [hwt] at hw1 hw2 ⊢
    have hwt2 : wt ≤ 255 := by omega
    have Hcheck2 := Hcheck.out
    rw [hwt] at Hcheck2
    have Hck := hide Hcheck2
    clear hok hfew hwt hw1 hw2 Hcheck Hcheck2 hpall
    go_enter Tryz.func7, Tryz.ntmps7
    go_wp2_with (go_at_call 6; refine (Hck.out _ ((Below.refl _ _).alloc (Nat.le_refl _) _)).mono ?_; rw [Hc.out]; rintro e w1 ⟨rfl, hb1⟩)
    have hN1 : w.heap.size < w1.heap.size := by have := hb1.size; simp at this; omega
    have hrow : w1.heap[w.heap.size]? = some (.cells #[.int .u64 b.gen, .int .u64 b.epoch, .int .i64 wt, .int .u64 b.stamp, .slice AR b.refs.length cR, .slice AP b.packs.length cP] 26) := (hb1.block _ (by simp)).trans (heap_alloc_new _ _)
    have HB := hide (((Below.refl _ w).alloc (Nat.le_refl _) _).trans (hb1.mono (by simp)))
    have h1c : ∀ (k : Nat) (v : Value), (#[.int .u64 b.gen, .int .u64 b.epoch, .int .i64 wt, .int .u64 b.stamp, .slice AR b.refs.length cR, .slice AP b.packs.length cP] : Array Value)[k]? = some v → w1.cell? ⟨w.heap.size, k, none⟩ = some v := fun k v hv => (cell_of_row _ _ k _ _ _ hrow).trans hv
    have m0 := h1c 0 _ rfl
    have m1 := h1c 1 _ rfl
    have H1c := hide h1c
    obtain ⟨a1, ha1⟩ : ∃ a, a = [] ++ beL b.gen 8 := ⟨_, rfl⟩
    obtain ⟨a2, ha2⟩ : ∃ a, a = a1 ++ beL b.epoch 8 := ⟨_, rfl⟩
    have la1 : a1.length = 8 := by rw [ha1]; simp [beL_length]
    have la2 : a2.length = 16 := by rw [ha2]; simp [beL_length, la1]
    have Ha1 := hide ha1
    have Ha2 := hide ha2
    have La1 := hide (show a1.length ≤ 8 by omega)
    have La2 := hide (show a2.length ≤ 16 by omega)
    have Z8 := hide (show (8 : Int) = ((8 : Nat) : Int) from rfl)
    have L8 := hide (show 0 < 8 ∧ 8 ≤ 8 by omega)
    have LN := hide (show ([] : List UInt8).length ≤ 1073741824 by simp)
    have KN := hide (show ([] : List UInt8).length = 0 from rfl)
    have LA := hide (show a1.length ≤ 1073741824 by omega)
    have Hnil := hide (Rd.nil w1.drew (fun _ => False) 1 none)
    clear h1c hrow ha1 ha2 la1 la2 hb1
    go_region_held3 (fun w' => w'.cell? ⟨w.heap.size, 0, none⟩ = some (.int .u64 b.gen) ∧ w'.cell? ⟨w.heap.size, 1, none⟩ = some (.int .u64 b.epoch)) (first | exact ⟨(HbA.out.cell (p := ⟨w.heap.size, 0, none⟩) hN1).trans m0, (HbA.out.cell (p := ⟨w.heap.size, 1, none⟩) hN1).trans m1⟩ | exact ⟨(HbB.out.cell (p := ⟨w.heap.size, 0, none⟩) (Nat.lt_of_lt_of_le hN1 HbA.out.size)).trans ((HbA.out.cell (p := ⟨w.heap.size, 0, none⟩) hN1).trans m0), (HbB.out.cell (p := ⟨w.heap.size, 1, none⟩) (Nat.lt_of_lt_of_le hN1 HbA.out.size)).trans ((HbA.out.cell (p := ⟨w.heap.size, 1, none⟩) hN1).trans m1)⟩ | go_keep) (first
      | (go_at_call 25; ((with_reducible refine (wput_b (A := none) (S := fun _ => False) [] a1 b.gen 8 Hnil.out KN.out Ha1.out rfl Z8.out LN.out L8.out hg1).mono ?_)); rintro e wA ⟨A1, cap1, rfl, hR1, hbA⟩; obtain ⟨hccA, hffA⟩ := rules hbA; have HR1 := hide hR1; have HRd1 := hide (Rd.of_own (S := fun _ => True) hR1 (fun _ _ _ => trivial)); have HbA := hide hbA; clear hR1 hbA)
      | (go_at_call 25; ((with_reducible refine (wput_b (S := fun _ => True) a1 a2 b.epoch 8 HRd1.out rfl Ha2.out rfl Z8.out LA.out L8.out hg2).mono ?_)); rintro e wB ⟨A2, cap2, rfl, hR2, hbB⟩; obtain ⟨hccB, hffB⟩ := rules hbB; have HR2 := hide hR2; have HbB := hide hbB; clear hR2 hbB))
    obtain ⟨Bs, hBs⟩ : ∃ Bs, Bs = w1.heap.size := ⟨_, rfl⟩
    have hBs1 : Bs ≤ w1.heap.size := by omega
    have hb2 : Below Bs w1 wB := by rw [hBs]; exact (Below.refl _ w1).drew.trans (HbA.out.trans (HbB.out.mono HbA.out.size))
    have hs2 : wB.ownsRow Bs 5 1 (.slice A2 a2.length cap2) a2.length (bytesV a2) := own_low HR2.out (by rw [hBs]; exact HbA.out.size)
    have HBs := hide hBs1
    have HBs2 := hide hBs
    have Hb2 := hide hb2
    have Hs2 := hide hs2
    have hN2 : w.heap.size < Bs := by omega
    have m2 : wB.cell? ⟨w.heap.size, 2, none⟩ = some (.int .i64 wt) := (hb2.cell (p := ⟨w.heap.size, 2, none⟩) hN2).trans (H1c.out 2 _ rfl)
    have m3 : wB.cell? ⟨w.heap.size, 3, none⟩ = some (.int .u64 b.stamp) := (hb2.cell (p := ⟨w.heap.size, 3, none⟩) hN2).trans (H1c.out 3 _ rfl)
    clear hBs hBs1 hb2 hs2 HR1 HRd1 HbA HR2 HbB hccA hffA hccB hffB m0 m1 Hnil
    obtain ⟨a3, ha3⟩ : ∃ a, a = a2 ++ [UInt8.ofNat wt] := ⟨_, rfl⟩
    obtain ⟨a4, ha4⟩ : ∃ a, a = a3 ++ beL b.stamp 8 := ⟨_, rfl⟩
    have LA3 := hide (show a3.length ≤ 1073741824 by rw [ha3, List.length_append]; have := La2.out; simp; omega)
    have Lc2 := hide (show a2.length ≤ 1073741824 ∧ [UInt8.ofNat wt].length ≤ 1073741824 by have := La2.out; simp; omega)
    have La4 := hide (show a4.length ≤ 100 by rw [ha4, ha3, List.length_append, List.length_append, beL_length]; have := La2.out; simp; omega)
    have Ha3 := hide ha3
    have Ha4 := hide ha4
    have Hwb := hide (show IntKind.u8.wrap (wt : Int) = (UInt8.ofNat wt).toNat by rw [UInt8.toNat_ofNat']; show (wt : Int) % 256 = _; omega)
    clear ha3 ha4
    go_wp2_with fail
    go_region_held3 (fun w' => w'.cell? ⟨w.heap.size, 2, none⟩ = some (.int .i64 wt) ∧ w'.cell? ⟨w.heap.size, 3, none⟩ = some (.int .u64 b.stamp)) (first | go_keep | exact ⟨(HbC.out.cell (p := ⟨w.heap.size, 2, none⟩) hN2).trans (H1c.out 2 _ rfl), (HbC.out.cell (p := ⟨w.heap.size, 3, none⟩) hN2).trans (H1c.out 3 _ rfl)⟩ | exact ⟨(HbD.out.cell (p := ⟨w.heap.size, 2, none⟩) hN2).trans (H1c.out 2 _ rfl), (HbD.out.cell (p := ⟨w.heap.size, 3, none⟩) hN2).trans (H1c.out 3 _ rfl)⟩) (first
      | (refine step_append_b rfl (.tmp 23) (.tmp 27) rfl Bs a2 [UInt8.ofNat wt] a3 Ha3.out rfl rfl (own_below Hs2.out (((Below.refl _ _).alloc (Nat.le_refl _) _).drew)) ((Hb2.out.alloc (Nat.le_trans HBs.out Hb2.out.size) _).drew) HBs.out rfl rfl ((rd_byte _ _ rfl _ _ Hwb.out).drew) Lc2.out ?_; intro A3 cap3 w3 hs3 hb3; have Hs3 := hide hs3; have HbC := hide hb3; have HRd3 := hide (Rd.of_own (S := fun _ => True) hs3 (fun _ _ _ => trivial)); clear hs3 hb3)
      | (go_at_call 25; ((with_reducible refine (wput_b (S := fun _ => True) a3 a4 b.stamp 8 HRd3.out rfl Ha4.out rfl Z8.out LA3.out L8.out hg3).mono ?_)); rintro e wD ⟨A4, cap4, rfl, hR4, hbD⟩; have HR4 := hide hR4; have HbD := hide (HbC.out.trans (hbD.mono (Nat.le_trans HBs.out HbC.out.size))); clear hR4 hbD)
      | fail)
    have hbD : Below Bs w1 wD := HbD.out
    have hsD : wD.ownsRow Bs 5 1 (.slice A4 a4.length cap4) a4.length (bytesV a4) := own_low HR4.out (Nat.le_trans HBs.out HbC.out.size)
    have hc4 : wD.cell? ⟨w.heap.size, 4, none⟩ = some (.slice AR b.refs.length cR) := (hbD.cell (p := ⟨w.heap.size, 4, none⟩) hN2).trans (H1c.out 4 _ rfl)
    obtain ⟨s5, hs5⟩ : ∃ a, a = a4 ++ [UInt8.ofNat b.refs.length] := ⟨_, rfl⟩
    have Lc4 := hide (show a4.length ≤ 1073741824 ∧ [UInt8.ofNat b.refs.length].length ≤ 1073741824 by have := La4.out; simp; omega)
    have Hwb2 := hide (show (b.refs.length : Int) = (UInt8.ofNat b.refs.length).toNat by rw [UInt8.toNat_ofNat']; omega)
    have Hs5 := hide hs5
    have HhD := hide hsD
    have HwD := hide hbD
    have HwDs := hide (Nat.le_trans HBs.out hbD.size)
    have hls5 : s5.length ≤ 101 := by rw [hs5, List.length_append]; have := La4.out; simp; omega
    clear hbD hsD hs5 HR4 HbD HRd3 Hs3 HbC Hs2 Hb2 Hwb Lc2
    go_wp2_with (first | (at_builtin; refine wpList_append_b rfl (.tmp 32) (.tmp 37) rfl Bs a4 [UInt8.ofNat b.refs.length] s5 Hs5.out rfl rfl (own_below HhD.out ((Below.refl _ _).alloc (Nat.le_refl _) _)) (HwD.out.alloc HwDs.out _) HBs.out rfl rfl (rd_byte _ _ rfl _ _ Hwb2.out) Lc4.out ?_; intro A5 cap5 w5 hs6 hb6; have hc5 := (hb6.cell (p := ⟨w.heap.size, 4, none⟩) hN2).trans (H1c.out 4 _ rfl); have Hs6 := hide hs6; have Hb6 := hide hb6; clear hs6 hb6) | fail)
    clear hc4 hc5
    go_loopw [5, 42] (fun s i wr => ∃ k : Nat, k ≤ b.refs.length ∧ i = .int .i64 k ∧ Below Bs w1 wr ∧ ∃ A cap, s = .slice A (s5 ++ (b.refs.take k).flatMap putRef).length cap ∧ wr.ownsRow Bs 5 1 (.slice A (s5 ++ (b.refs.take k).flatMap putRef).length cap) (s5 ++ (b.refs.take k).flatMap putRef).length (bytesV (s5 ++ (b.refs.take k).flatMap putRef))) (fun _ i _ => b.refs.length - (intOf i).toNat)
    case atStart => exact ⟨0, Nat.zero_le _, rfl, Hb6.out, A5, cap5, by simp, by simpa using Hs6.out⟩
    case round =>
      obtain ⟨k, hk, rfl, hb, A, cap, rfl, hown⟩ := hrel
      obtain ⟨acc, hacc⟩ : ∃ acc, acc = s5 ++ (b.refs.take k).flatMap putRef := ⟨_, rfl⟩
      rw [← hacc] at hown ⊢
      have Hacc := hide hacc
      have Hb := hide hb
      have Hown := hide hown
      have hsz1 := hb.size
      have hal : acc.length ≤ 1000 := by
        have h1 := flat_short putRef 100 b.refs k (fun r hr => by have := Hnames.out r hr; rw [putRef_length]; omega)
        rw [hacc, List.length_append]
        omega
      clear hb hacc hown
      by_cases hlt : k < b.refs.length
      · obtain ⟨bb, off, rfl, hTb, hbl, _⟩ := HrR.out.at_ (by omega)
        obtain ⟨c, hc, hcl, hrg⟩ := rd_range HrR.out HeR.out rfl (fun p c => RefC.len p c) hlt
        have Hrg := hide (range_keep (range_keep hrg (Keep.of_none HB.out) hbl (fun f => f)) (Keep.of_none (by have := Hb.out; rw [HBs2.out] at this; exact this)) (by have := HB.out.size; omega) (fun f => f))
        have hnl := Hnames.out _ (List.getElem_mem hlt)
        have hnext : s5 ++ (b.refs.take (k + 1)).flatMap putRef = acc ++ putRef b.refs[k] := by rw [flat_next _ _ _ hlt, ← List.append_assoc, ← Hacc.out]
        obtain ⟨r, hr⟩ : ∃ r, r = b.refs[k] := ⟨_, rfl⟩
        rw [← hr] at hc hnl hnext
        obtain ⟨x, hx⟩ : ∃ x, x = r.name := ⟨_, rfl⟩
        obtain ⟨y, hy⟩ : ∃ y, y = r.id.toList := ⟨_, rfl⟩
        have hyl : y.length = 32 := by rw [hy]; simp
        have hcv : c = .string ⟨x.toArray⟩ :: bytesV y := by rw [hc.1, hx, hy]; rfl
        rw [← hx] at hnl
        have hst := store_new wr 57 33 c (by kernel_rfl) hcl (RefC.one r c hc)
        have Hszr := hide (show (Tryz.prog.info? 57).map (·.size) = some c.length by rw [hcl]; kernel_rfl)
        have Hcv := hide hcv
        obtain ⟨q, hq⟩ : ∃ q, q = acc ++ beL x.length 4 ++ x := ⟨_, rfl⟩
        obtain ⟨q2, hq2⟩ : ∃ q2, q2 = q ++ y := ⟨_, rfl⟩
        have Hfin := hide (show s5 ++ (b.refs.take (k + 1)).flatMap putRef = q2 by rw [hnext, hq2, hq, hx, hy, putRef]; simp only [List.append_assoc])
        have Hql := hide (show q.length ≤ 1073741824 ∧ y.length ≤ 1073741824 by rw [hq]; simp only [List.length_append, beL_length]; omega)
        have Hq := hide hq
        have Hq2 := hide hq2
        have Hyl := hide hyl
        have Hal := hide hal
        have Hnl := hide hnl
        clear hTb hrg hnext hr hc hx hy hyl hcv hq hq2 hal hnl
        go_wp2_with (first | (refine wpList_load_mid rfl 57 (.tmp 44) rfl bb (off + k * 33) rfl c _ Hrg.out Tryz.underlying57 rfl Hszr.out ?_) | fail)
        obtain ⟨W, hW⟩ : ∃ W : World, W = wr.alloc (.cells c.toArray 57) := ⟨_, rfl⟩
        obtain ⟨Rb, hRb⟩ : ∃ Rb, Rb = wr.heap.size := ⟨_, rfl⟩
        rw [← hW, ← hRb]
        have hWc : ∀ (k : Nat) (v : Value), c[k]? = some v → W.cell? ⟨Rb, k, none⟩ = some v := fun k v hv => by rw [hW, hRb, cell_of_row _ _ k _ _ _ (heap_alloc_new _ _), List.getElem?_toArray]; exact hv
        have n0 := hWc 0 (.string ⟨x.toArray⟩) (by rw [Hcv.out]; rfl)
        have hRl : Rb < W.heap.size := by rw [hW, hRb]; simp
        have Hid2 := hide (rd_part (w := W) (b := Rb) (o := 1) (l := y) (fun j v hv => by rw [Nat.add_comm]; exact hWc (j + 1) v (by rw [Hcv.out, List.getElem?_cons_succ]; exact hv)) hRl)
        have HbW := hide (show Below Bs w1 W by rw [hW]; exact Hb.out.alloc (Nat.le_trans HBs.out hsz1) _)
        have HoW := hide (show W.ownsRow Bs 5 1 (.slice A acc.length cap) acc.length (bytesV acc) by rw [hW]; exact own_below Hown.out ((Below.refl _ _).alloc (Nat.le_refl _) _))
        clear hW hRb hWc hst
        have hconv := conv_run x
        have Hxl := hide (show x.length ≤ 1073741824 by have := Hnl.out; omega)
        have Hal2 := hide (show acc.length ≤ 1073741824 by have := Hal.out; omega)
        have hcb : Below W.heap.size W (convW W.drew x) := (Below.refl _ W).drew.trans (conv_below W.drew x)
        have Hcb := hide hcb
        have Hcr := hide (show Rd (convW W.drew x) (fun i => W.heap.size ≤ i) 1 (some ⟨W.heap.size, 0, none⟩) x.length (bytesV x) from conv_rd W.drew x)
        have Hor := hide (show Rd (convW W.drew x) (fun _ => True) 1 A acc.length (bytesV acc) from Rd.of_own (own_below HoW.out hcb) (fun _ _ _ => trivial))
        clear hcb
        go_region_law (first
          | (go_simp; go_at_call 26; ((with_reducible refine (wsized_b acc x q Hor.out rfl Hq.out Hal2.out Hcr.out rfl Hxl.out).mono ?_)); rintro e wE ⟨A6, cap6, rfl, hR6, hbE⟩; have HR6 := hide (own_low (base' := Bs) hR6 (Nat.le_trans HBs.out (Nat.le_trans HbW.out.size Hcb.out.size))); have HkE := hide (Hcb.out.trans (hbE.mono Hcb.out.size)); clear hR6 hbE)
          | (refine step_append_b rfl (.tmp 50) (.tmp 52) rfl Bs q y q2 Hq2.out rfl rfl HR6.out (HbW.out.trans (HkE.out.mono (Nat.le_trans HBs.out HbW.out.size))) HBs.out Hyl.out rfl (Hid2.out.keep (Keep.of_none HkE.out) (fun _ _ _ f => f)) Hql.out ?_; intro A7 cap7 w7 hs7 hb7; have Hs7 := hide hs7; have Hb7 := hide hb7; clear hs7 hb7)
          | fail)
        go_wp2_with fail
        refine ⟨⟨k + 1, by omega, by go_num, Hb7.out, A7, cap7, by rw [Hfin.out], by rw [Hfin.out]; exact Hs7.out⟩, by simp [intOf]; omega⟩
      · obtain rfl : k = b.refs.length := by omega
        rw [List.take_of_length_le (Nat.le_refl _)] at Hacc
        have hc5 : wr.cell? ⟨w.heap.size, 5, none⟩ = some (.slice AP b.packs.length cP) := (Hb.out.cell (p := ⟨w.heap.size, 5, none⟩) hN2).trans (H1c.out 5 _ rfl)
        obtain ⟨s9, hs9⟩ : ∃ a, a = acc ++ [UInt8.ofNat b.packs.length] := ⟨_, rfl⟩
        have Lc5 := hide (show acc.length ≤ 1073741824 ∧ [UInt8.ofNat b.packs.length].length ≤ 1073741824 by simp; omega)
        have Hwb3 := hide (show (b.packs.length : Int) = (UInt8.ofNat b.packs.length).toNat by rw [UInt8.toNat_ofNat']; omega)
        have hls9 : s9.length ≤ 1001 := by rw [hs9, List.length_append]; simp; omega
        have Hs9 := hide hs9
        have HwDs2 := hide (Nat.le_trans HBs.out hsz1)
        clear hs9 hlt
        go_wp2_with (first | (at_builtin; refine wpList_append_b rfl (.tmp 55) (.tmp 60) rfl Bs acc [UInt8.ofNat b.packs.length] s9 Hs9.out rfl rfl (own_below Hown.out ((Below.refl _ _).alloc (Nat.le_refl _) _)) (Hb.out.alloc HwDs2.out _) HBs.out rfl rfl (rd_byte _ _ rfl _ _ Hwb3.out) Lc5.out ?_; intro A8 cap8 w8 hs8 hb8; have hc6 := (hb8.cell (p := ⟨w.heap.size, 5, none⟩) hN2).trans (H1c.out 5 _ rfl); have Hs8 := hide hs8; have Hb8 := hide hb8; clear hs8 hb8) | fail)
        clear hc5 hc6 hsz1
        go_loopw [5, 65] (fun s i wr => ∃ k : Nat, k ≤ b.packs.length ∧ i = .int .i64 k ∧ Below Bs w1 wr ∧ ∃ A cap, s = .slice A (s9 ++ (b.packs.take k).flatMap putPack).length cap ∧ wr.ownsRow Bs 5 1 (.slice A (s9 ++ (b.packs.take k).flatMap putPack).length cap) (s9 ++ (b.packs.take k).flatMap putPack).length (bytesV (s9 ++ (b.packs.take k).flatMap putPack))) (fun _ i _ => b.packs.length - (intOf i).toNat)
        case atStart => exact ⟨0, Nat.zero_le _, rfl, Hb8.out, A8, cap8, by simp, by simpa using Hs8.out⟩
        case round =>
          obtain ⟨n, hn, rfl, hb, A2, cap2, rfl, hown⟩ := hrel
          obtain ⟨acc2, hacc2⟩ : ∃ acc2, acc2 = s9 ++ (b.packs.take n).flatMap putPack := ⟨_, rfl⟩
          rw [← hacc2] at hown ⊢
          have Hacc2 := hide hacc2
          have Hb2 := hide hb
          have Hown2 := hide hown
          have hs2 := hb.size
          have hal2 : acc2.length ≤ 100000 := by
            have h1 := flat_short putPack 2340 b.packs n (fun p hp => by
              have h4 := Hpall.out p hp
              unfold packOk at h4
              have := (of_decide_eq_true h4).2.2.2
              rw [putPack_length]; omega)
            rw [hacc2, List.length_append]
            omega
          clear hb hacc2 hown
          by_cases hlt2 : n < b.packs.length
          · obtain ⟨bp, op, rfl, hTp, hblp, _⟩ := HrP.out.at_ (by omega)
            obtain ⟨c, hcp, hcl, hrgp⟩ := rd_range HrP.out HeP.out rfl (fun p c => PackC.len p c) hlt2
            have hst := store_new wr 61 34 c (by kernel_rfl) hcl (PackC.one _ c hcp)
            have Hrgp := hide (range_keep (range_keep hrgp (Keep.of_none HB.out) hblp (fun f => f)) (Keep.of_none (by have := Hb2.out; rw [HBs2.out] at this; exact this)) (by have := HB.out.size; omega) (fun f => f))
            have hnext : s9 ++ (b.packs.take (n + 1)).flatMap putPack = acc2 ++ putPack b.packs[n] := by rw [flat_next _ _ _ hlt2, ← List.append_assoc, ← Hacc2.out]
            have hpok := Hpall.out _ (List.getElem_mem hlt2)
            obtain ⟨pk, hpkq⟩ : ∃ pk, pk = b.packs[n] := ⟨_, rfl⟩
            rw [← hpkq] at hcp hnext hpok
            unfold packOk at hpok
            obtain ⟨q1, q2, q3, q4⟩ := of_decide_eq_true hpok
            obtain ⟨ct, hct⟩ : ∃ ct : Nat, pk.count = ct := ⟨pk.count.toNat, by omega⟩
            obtain ⟨Ab, capb, bs, hcv, hrb, heb, _, _, _⟩ := hcp
            rw [hct] at hcv
            obtain ⟨y, hy⟩ : ∃ y, y = pk.key.toList := ⟨_, rfl⟩
            have hyl : y.length = 32 := by rw [hy]; simp
            have hcv2 : c = bytesV y ++ [.int .i64 ct, .slice Ab pk.blobs.length capb] := by rw [hcv, hy]; rfl
            have Hszp := hide (show (Tryz.prog.info? 61).map (·.size) = some c.length by rw [hcl]; kernel_rfl)
            have Hrb := hide hrb
            have Heb := hide heb
            obtain ⟨t1, ht1⟩ : ∃ t1, t1 = acc2 ++ y := ⟨_, rfl⟩
            obtain ⟨t2, ht2⟩ : ∃ t2, t2 = t1 ++ beL ct 2 := ⟨_, rfl⟩
            obtain ⟨t3, ht3⟩ : ∃ t3, t3 = t2 ++ [UInt8.ofNat pk.blobs.length] := ⟨_, rfl⟩
            have Lt1 := hide (show acc2.length ≤ 1073741824 ∧ y.length ≤ 1073741824 by omega)
            have lt1 : t1.length ≤ 100032 := by rw [ht1, List.length_append]; omega
            have lt2 : t2.length ≤ 100034 := by rw [ht2, List.length_append, beL_length]; omega
            have lt3 : t3.length ≤ 100035 := by rw [ht3, List.length_append]; simp; omega
            have Lt2 := hide (show t1.length ≤ 1073741824 by omega)
            have Lt3 := hide (show t2.length ≤ 1073741824 ∧ [UInt8.ofNat pk.blobs.length].length ≤ 1073741824 by simp; omega)
            have Hfin := hide (show ∀ x, t3 ++ x = acc2 ++ (pk.key.toList ++ beL ct 2 ++ byteL pk.blobs.length ++ x) from fun x => by rw [ht3, ht2, ht1, hy, byteL]; simp only [List.append_assoc])
            have Hwb4 := hide (show (pk.blobs.length : Int) = (UInt8.ofNat pk.blobs.length).toNat by rw [UInt8.toNat_ofNat']; omega)
            have Z2 := hide (show (2 : Int) = ((2 : Nat) : Int) from rfl)
            have L2 := hide (show 0 < 2 ∧ 2 ≤ 8 by omega)
            have Lct := hide (show ct < 18446744073709551616 by omega)
            have hctl : ct ≤ 256 := by omega
            have Hcv := hide hcv2
            have Hct := hide hct
            have Hyl := hide hyl
            have Ht1 := hide ht1
            have Ht2 := hide ht2
            have Ht3 := hide ht3
            have Hnext := hide hnext
            have Lt3b := hide lt3
            clear hTp hrgp hnext hpkq hcv hrb heb hcv2 hy hyl ht1 ht2 ht3 lt1 lt2 lt3 hpok q1 q2 hct hal2
            go_wp2_with (first | (refine wpList_load_mid rfl 61 (.tmp 67) rfl bp (op + n * 34) rfl c _ Hrgp.out Tryz.underlying61 rfl Hszp.out ?_) | fail)
            obtain ⟨W, hW⟩ : ∃ W : World, W = wr.alloc (.cells c.toArray 61) := ⟨_, rfl⟩
            obtain ⟨Pb, hPb⟩ : ∃ Pb, Pb = wr.heap.size := ⟨_, rfl⟩
            rw [← hW, ← hPb]
            have hWc : ∀ (k : Nat) (v : Value), c[k]? = some v → W.cell? ⟨Pb, k, none⟩ = some v := fun k v hv => by rw [hW, hPb, cell_of_row _ _ k _ _ _ (heap_alloc_new _ _), List.getElem?_toArray]; exact hv
            obtain ⟨e32, e33⟩ := at32 (bytesV y) (.int .i64 ct) (.slice Ab pk.blobs.length capb) (by rw [bytesV_length]; exact Hyl.out)
            rw [← Hcv.out] at e32 e33
            have n32 := hWc 32 _ e32
            have n33 := hWc 33 _ e33
            have hPl : Pb < W.heap.size := by rw [hW, hPb]; simp
            have Hkd := hide (rd_part (w := W) (b := Pb) (o := 0) (l := y) (fun j v hv => by
              rw [Nat.zero_add]
              refine hWc j v ?_
              rw [Hcv.out, List.getElem?_append_left (List.getElem?_eq_some_iff.1 hv).1]
              exact hv) hPl)
            have HbW := hide (show Below Bs w1 W by rw [hW]; exact Hb2.out.alloc (Nat.le_trans HBs.out hs2) _)
            have HoW := hide (show W.ownsRow Bs 5 1 (.slice A2 acc2.length cap2) acc2.length (bytesV acc2) by rw [hW]; exact own_below Hown2.out ((Below.refl _ _).alloc (Nat.le_refl _) _))
            have HoP := hide (show ∀ j, (Value.slice A2 acc2.length cap2).ownBlock = some j → j < Pb from fun j hj => by rw [hPb]; exact (Hown2.out.lt j hj).2)
            have HwrC := hide (show IntKind.u64.wrap (ct : Int) = ct by rw [IntKind.wrap_u64]; omega)
            clear hW hPb hWc hst e32 e33
            have HcW := hide n32
            have Hne := hide (show ∀ j, (Value.slice A2 acc2.length cap2).ownBlock = some j → j < Pb from fun j hj => HoP.out j hj)
            have HPl := hide hPl
            clear hPl
            go_region_held3 (fun w' => w'.cell? ⟨Pb, 32, none⟩ = some (.int .i64 ct)) (first | go_keep | exact Hc9.out | exact Hc10.out) (first
              | (refine step_append_bg rfl (.tmp 69) (.tmp 71) rfl Bs acc2 y t1 Ht1.out rfl rfl HoW.out.drew HbW.out.drew HBs.out Hyl.out rfl Hkd.out.drew Lt1.out ?_; intro A9 cap9 w9 hs9 hb9 hg9; have Hs9b := hide hs9; have Hb9 := hide hb9; have Hc9 := hide ((World.cell?_of_block (a := ⟨Pb, 32, none⟩) (hg9.block Pb HPl.out (fun e => Nat.lt_irrefl _ (Hne.out Pb e.symm)))).trans HcW.out); have HR9 := hide (Rd.of_own (S := fun _ => True) hs9 (fun _ _ _ => trivial)); have HS9 := hide (Nat.lt_of_lt_of_le HPl.out hg9.size); have Hg9 := hide (show ∀ k, w9.cell? ⟨Pb, k, none⟩ = W.cell? ⟨Pb, k, none⟩ from fun k => World.cell?_of_block (a := ⟨Pb, k, none⟩) (hg9.block Pb HPl.out (fun e => Nat.lt_irrefl _ (Hne.out Pb e.symm)))); clear hs9 hb9 hg9)
              | (go_at_call 25; ((with_reducible refine (wput_b t1 t2 ct 2 HR9.out rfl Ht2.out HwrC.out Z2.out Lt2.out L2.out Lct.out).mono ?_)); rintro e w10 ⟨A10, cap10, rfl, hR10, hb10⟩; have HR10 := hide (own_low (base' := Bs) hR10 (Nat.le_trans HBs.out Hb9.out.size)); have Hb10 := hide (Hb9.out.trans (hb10.mono (Nat.le_trans HBs.out Hb9.out.size))); have Hc10 := hide ((hb10.cell (p := ⟨Pb, 32, none⟩) HS9.out).trans Hc9.out); have Hk10 := hide hb10; have Hge10 := hide (show ∀ j, (Value.slice A10 t2.length cap10).ownBlock = some j → Pb < j from fun j hj => Nat.lt_of_lt_of_le HS9.out (hR10.lt j hj).1); clear hR10 hb10)
              | fail)
            have p33 : w10.cell? ⟨Pb, 33, none⟩ = some (.slice Ab pk.blobs.length capb) := (Hk10.out.cell (p := ⟨Pb, 33, none⟩) HS9.out).trans ((Hg9.out 33).trans n33)
            have hP10 : Pb < w10.heap.size := Nat.lt_of_lt_of_le HS9.out Hk10.out.size
            have HP10 := hide hP10
            have HB10 := hide (Nat.le_trans HBs.out Hb10.out.size)
            have Hn33 := hide n33
            clear n32 n33 hP10
            go_wp2_with (first | (at_builtin; refine wpList_append_bg rfl (.tmp 77) (.tmp 82) rfl Bs t2 [UInt8.ofNat pk.blobs.length] t3 Ht3.out rfl rfl (own_below HR10.out ((Below.refl _ _).alloc (Nat.le_refl _) _)) (Hb10.out.alloc HB10.out _) HBs.out rfl rfl (rd_byte _ _ rfl _ _ Hwb4.out) Lt3.out ?_; intro A11 cap11 w11 hs11 hb11 hg11; have p33b := (World.cell?_of_block (a := ⟨Pb, 33, none⟩) (hg11.block Pb (Nat.lt_of_lt_of_le HP10.out (by simp)) (fun e => Nat.lt_irrefl _ (Hge10.out Pb e.symm)))).trans ((World.cell?_of_block (a := ⟨Pb, 33, none⟩) (Below.heap_alloc w10 _ Pb HP10.out)).trans p33); have Hs11 := hide hs11; have Hb11 := hide hb11; clear hs11 hb11 hg11) | fail)
            clear p33 p33b
            go_loopw [5, 87] (fun s i wr => ∃ k : Nat, k ≤ pk.blobs.length ∧ i = .int .i64 k ∧ Below Bs w1 wr ∧ ∃ A cap, s = .slice A (t3 ++ (pk.blobs.take k).flatMap putBlob).length cap ∧ wr.ownsRow Bs 5 1 (.slice A (t3 ++ (pk.blobs.take k).flatMap putBlob).length cap) (t3 ++ (pk.blobs.take k).flatMap putBlob).length (bytesV (t3 ++ (pk.blobs.take k).flatMap putBlob))) (fun _ i _ => pk.blobs.length - (intOf i).toNat)
            case atStart => exact ⟨0, Nat.zero_le _, rfl, Hb11.out, A11, cap11, by simp, by simpa using Hs11.out⟩
            case round =>
              obtain ⟨m3, hm3, rfl, hb, A12, cap12, rfl, hown⟩ := hrel
              obtain ⟨acc3, hacc3⟩ : ∃ acc3, acc3 = t3 ++ (pk.blobs.take m3).flatMap putBlob := ⟨_, rfl⟩
              rw [← hacc3] at hown ⊢
              have Hb3 := hide hb
              have Hown3 := hide hown
              have hs3 := hb.size
              have hal3 : acc3.length ≤ 110000 := by
                have h1 := flat_short putBlob 48 pk.blobs m3 (fun x _ => by rw [putBlob_length]; omega)
                have := Lt3b.out
                rw [hacc3, List.length_append]
                omega
              have Hacc3 := hide hacc3
              clear hb hacc3 hown
              by_cases hlt3 : m3 < pk.blobs.length
              · obtain ⟨bk, ok, rfl, hTk, hblk, _⟩ := Hrb.out.at_ (by omega)
                obtain ⟨c2, hck, hckl, hrgk⟩ := rd_range Hrb.out Heb.out rfl (fun p c => BlobC.len p c) hlt3
                have hst := store_new wr 73 48 c2 (by kernel_rfl) hckl (BlobC.one _ c2 hck)
                have Hrgk := hide (range_keep (range_keep hrgk (Keep.of_none HB.out) hblk (fun f => f)) (Keep.of_none (by have := Hb3.out; rw [HBs2.out] at this; exact this)) (by have := HB.out.size; omega) (fun f => f))
                have hnx : t3 ++ (pk.blobs.take (m3 + 1)).flatMap putBlob = acc3 ++ putBlob pk.blobs[m3] := by rw [flat_next _ _ _ hlt3, ← List.append_assoc, ← Hacc3.out]
                obtain ⟨bl, hbl⟩ : ∃ bl, bl = pk.blobs[m3] := ⟨_, rfl⟩
                rw [← hbl] at hck hnx
                obtain ⟨x, hx⟩ : ∃ x, x = bl.name.toList := ⟨_, rfl⟩
                obtain ⟨y2, hy2⟩ : ∃ y, y = bl.sum.toList := ⟨_, rfl⟩
                have hcv : c2 = bytesV x ++ bytesV y2 := by rw [hck, hx, hy2]; rfl
                have Hszb := hide (show (Tryz.prog.info? 73).map (·.size) = some c2.length by rw [hckl]; kernel_rfl)
                have hxl : x.length = 16 := by rw [hx]; simp
                have hyl2 : y2.length = 32 := by rw [hy2]; simp
                obtain ⟨u1, hu1⟩ : ∃ u1, u1 = acc3 ++ x := ⟨_, rfl⟩
                obtain ⟨u2, hu2⟩ : ∃ u2, u2 = u1 ++ y2 := ⟨_, rfl⟩
                have Hfin2 := hide (show t3 ++ (pk.blobs.take (m3 + 1)).flatMap putBlob = u2 by rw [hnx, hu2, hu1, hx, hy2, putBlob, List.append_assoc])
                have Lu1 := hide (show acc3.length ≤ 1073741824 ∧ x.length ≤ 1073741824 by omega)
                have Lu2 := hide (show u1.length ≤ 1073741824 ∧ y2.length ≤ 1073741824 by rw [hu1, List.length_append]; omega)
                have Hcv2 := hide hcv
                have Hxl2 := hide hxl
                have Hyl2 := hide hyl2
                have Hu1 := hide hu1
                have Hu2 := hide hu2
                clear hTk hrgk hnx hbl hck hx hy2 hcv hxl hyl2 hu1 hu2
                go_wp2_with (first | (refine wpList_load_mid rfl 73 (.tmp 89) rfl bk (ok + m3 * 48) rfl c2 _ Hrgk.out Tryz.underlying73 rfl Hszb.out ?_) | fail)
                obtain ⟨W3, hW3⟩ : ∃ W : World, W = wr.alloc (.cells c2.toArray 73) := ⟨_, rfl⟩
                obtain ⟨Xb, hXb⟩ : ∃ Xb, Xb = wr.heap.size := ⟨_, rfl⟩
                rw [← hW3, ← hXb]
                have hWc : ∀ (k : Nat) (v : Value), c2[k]? = some v → W3.cell? ⟨Xb, k, none⟩ = some v := fun k v hv => by rw [hW3, hXb, cell_of_row _ _ k _ _ _ (heap_alloc_new _ _), List.getElem?_toArray]; exact hv
                have hXl : Xb < W3.heap.size := by rw [hW3, hXb]; simp
                have Hnd := hide (rd_part (w := W3) (b := Xb) (o := 0) (l := x) (fun j v hv => by
                  rw [Nat.zero_add]
                  refine hWc j v ?_
                  rw [Hcv2.out, List.getElem?_append_left (List.getElem?_eq_some_iff.1 hv).1]
                  exact hv) hXl)
                have Hsd := hide (rd_part (w := W3) (b := Xb) (o := 16) (l := y2) (fun j v hv => by
                  refine hWc (16 + j) v ?_
                  rw [Hcv2.out, List.getElem?_append_right (by rw [bytesV_length, Hxl2.out]; omega), bytesV_length, Hxl2.out, show 16 + j - 16 = j by omega]
                  exact hv) hXl)
                have HbW3 := hide (show Below Bs w1 W3 by rw [hW3]; exact Hb3.out.alloc (Nat.le_trans HBs.out hs3) _)
                have HoW3 := hide (show W3.ownsRow Bs 5 1 (.slice A12 acc3.length cap12) acc3.length (bytesV acc3) by rw [hW3]; exact own_below Hown3.out ((Below.refl _ _).alloc (Nat.le_refl _) _))
                have Hne3 := hide (show ∀ j, (Value.slice A12 acc3.length cap12).ownBlock = some j → j < Xb from fun j hj => by rw [hXb]; exact (Hown3.out.lt j hj).2)
                clear hW3 hXb hWc hst hXl hs3
                go_region_law (first
                  | (refine step_append_bg rfl (.tmp 91) (.tmp 93) rfl Bs acc3 x u1 Hu1.out rfl rfl HoW3.out.drew HbW3.out.drew HBs.out Hxl2.out rfl Hnd.out.drew Lu1.out ?_; intro A13 cap13 w13 hs13 hb13 hg13; have Hs13 := hide hs13; have Hb13 := hide hb13; have Hsd2 := hide (show Rd w13 (· = Xb) 1 (some ⟨Xb, 16, none⟩) y2.length (bytesV y2) from Hsd.out.drew.keep (Keep.grown (Keep.refl (fun i => (Value.slice A12 acc3.length cap12).ownBlock = some i) _) hg13 (fun k hk _ => hk)) (fun i hi _ e => by have := Hne3.out i e; omega)); clear hs13 hb13 hg13)
                  | (refine step_append_b rfl (.tmp 94) (.tmp 96) rfl Bs u1 y2 u2 Hu2.out rfl rfl Hs13.out Hb13.out HBs.out Hyl2.out rfl Hsd2.out Lu2.out ?_; intro A14 cap14 w14 hs14 hb14; have Hs14 := hide hs14; have Hb14 := hide hb14; clear hs14 hb14)
                  | fail)
                go_wp2_with fail
                exact ⟨⟨m3 + 1, by omega, by go_num, Hb14.out, A14, cap14, by rw [Hfin2.out], by rw [Hfin2.out]; exact Hs14.out⟩, by simp [intOf]; omega⟩
              · obtain rfl : m3 = pk.blobs.length := by omega
                rw [List.take_of_length_le (Nat.le_refl _)] at Hacc3
                have Hnx2 := hide (show s9 ++ (b.packs.take (n + 1)).flatMap putPack = acc3 by rw [Hnext.out, Hacc3.out, Hfin.out, putPack, Hct.out, Int.toNat_natCast])
                go_wp2_with fail
                exact ⟨⟨n + 1, by omega, by go_num, Hb3.out, A12, cap12, by rw [Hnx2.out], by rw [Hnx2.out]; exact Hown3.out⟩, by simp [intOf]; omega⟩
          · obtain rfl : n = b.packs.length := by omega
            rw [List.take_of_length_le (Nat.le_refl _)] at Hacc2
            have hsaid : acc2 = saidL b := by
              have e : a4 = headL b := by rw [Ha4.out, Ha3.out, Ha2.out, Ha1.out, headL, Hwt.out, List.nil_append]; rfl
              rw [Hacc2.out, Hs9.out, Hacc.out, Hs5.out, e, saidL, byteL, byteL]
            have hsh := Hshort.out
            rw [← hsaid] at hsh
            have hpos : 0 < acc2.length := by rw [hsaid]; simp only [saidL, List.length_append, headL_length]; omega
            obtain ⟨r, hr⟩ : ∃ r, r = acc2 ++ List.replicate (3584 - acc2.length) 0 := ⟨_, rfl⟩
            have Hput := hide (show mputL b = r by rw [Hp.out, putL, hr, hsaid])
            have Hr := hide hr
            have Hsub := hide (show (3584 : Int) - acc2.length = ((3584 - acc2.length : Nat) : Int) by omega)
            have Hpos := hide (show 0 < acc2.length ∧ 0 < 3584 - acc2.length by omega)
            have Hle := hide (show acc2.length + (3584 - acc2.length) ≤ 1073741824 by omega)
            clear hsaid hr hlt2
            go_wp2_with (first | (at_builtin; refine wpList_append_z rfl (.tmp 100) (.tmp 103) rfl Bs acc2 r (3584 - acc2.length) Hr.out rfl rfl Hown2.out Hb2.out HBs.out Hsub.out rfl Hpos.out Hle.out ?_; intro A15 cap15 w15 hs15 hb15; have Hs15 := hide hs15; have Hb15 := hide hb15; clear hs15 hb15) | fail)
            go_ret2
            refine ⟨A15, cap15, by rw [Hput.out, Hc.out]; rfl, by rw [Hput.out]; exact own_low Hs15.out (by rw [HBs2.out]; exact HB.out.size), HB.out.trans (Hb15.out.mono (by rw [HBs2.out]; exact HB.out.size))⟩
end Go.Proofs.YtimfmbcihopaaaaGreatDoor
