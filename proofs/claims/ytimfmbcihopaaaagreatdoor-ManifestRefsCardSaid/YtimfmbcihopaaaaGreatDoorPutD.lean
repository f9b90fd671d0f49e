/- 17.Put. -/
import Derived.Test.YtimfmbcihopaaaaGreatDoorMapZ
namespace Go.Proofs.YtimfmbcihopaaaaGreatDoor
open Go.RowKit Go.Cof

theorem dput_enters : ∀ (args : Array Value) (w : World), (callFunc 27 args).run Tryz.prog w = .ok (.enter 27 args) w := enters_of Tryz.func27 (by kernel_rfl) rfl
theorem dsized_enters : ∀ (args : Array Value) (w : World), (callFunc 28 args).run Tryz.prog w = .ok (.enter 28 args) w := enters_of Tryz.func28 (by kernel_rfl) rfl
/-- What 17.Put comes to. -/
def dputL (b : BodyD) : List UInt8 := if okD b then putD b else []
/-- A body's numbers. -/
def NumsD (b : BodyD) : Prop := b.gen < 18446744073709551616 ∧ b.epoch < 18446744073709551616 ∧ b.stamp < 18446744073709551616

theorem DBodyC.below {w w' : World} {T : Nat → Prop} {b : BodyD} {v : Value} (h : DBodyC w T b v) (hk : Below w.heap.size w w') : DBodyC w' T b v := by
  obtain ⟨AR, cR, xsR, AP, cP, xsP, rfl, hrR, heR, hrP, heP, hlR, hlP, hT, hnm⟩ := h
  exact ⟨AR, cR, xsR, AP, cP, xsP, rfl, hrR.keep (Keep.of_none hk) (fun _ _ _ f => f), heR, hrP.keep (Keep.of_none hk) (fun _ _ _ f => f), heP.imp (fun p c _ hc => DPackC.keep (Keep.of_none hk) (fun _ _ _ f => f) p c hc), hlR, hlP, fun i hi => Nat.lt_of_lt_of_le (hT i hi) hk.size, hnm⟩
section
variable {C : World → Prop} {W : World}
theorem bc_step (hC : C = fun w' => Below W.heap.size W w') : ∀ w', InC C w' → ∀ w2, Below w'.heap.size w' w2 → InC C w2 := by
  rintro _ ⟨u, rfl⟩ w2 h2
  have h3 : Below W.heap.size W u.w := Eq.mp (congrFun hC u.w) u.h
  exact ⟨⟨w2, by rw [hC]; exact h3.trans (h2.mono h3.size)⟩, rfl⟩
theorem bc_cell (hC : C = fun w' => Below W.heap.size W w') {b k : Nat} {v : Value} (hb : b < W.heap.size) (h : W.cell? ⟨b, k, none⟩ = some v) : ∀ w', InC C w' → w'.cell? ⟨b, k, none⟩ = some v := by
  rintro _ ⟨u, rfl⟩
  have h3 : Below W.heap.size W u.w := Eq.mp (congrFun hC u.w) u.h
  exact (h3.cell (p := ⟨b, k, none⟩) hb).trans h
theorem bc_start (hC : C = fun w' => Below W.heap.size W w') : C W.drew := by rw [hC]; exact (Below.refl _ _).drew
/-- A call in a class: Put, Sized. -/
theorem quiet_put (hC : C = fun w' => Below W.heap.size W w') (l r : List UInt8) (v n : Nat) (hr : r = l ++ beL v n) (hl : l.length ≤ 1073741824) (hn : 0 < n ∧ n ≤ 8) (hv : v < 18446744073709551616) :
    ∀ w', InC C w' → Calls Tryz.prog 27 #[.string ⟨l.toArray⟩, .int .u64 v, .int .i64 n] w' fun e w2 => e = .returned (.string ⟨r.toArray⟩) ∧ InC C w2 :=
  fun w' hw => (put_any l v n w' hl hn hv).mono fun _ w2 hh => ⟨by rw [hr]; exact hh.1, bc_step hC w' hw w2 hh.2⟩
theorem quiet_sized (hC : C = fun w' => Below W.heap.size W w') (l r x : List UInt8) (hr : r = l ++ beL x.length 4 ++ x) (hl : l.length ≤ 1073741824) (hx : x.length ≤ 1073741824) :
    ∀ w', InC C w' → Calls Tryz.prog 28 #[.string ⟨l.toArray⟩, .string ⟨x.toArray⟩] w' fun e w2 => e = .returned (.string ⟨r.toArray⟩) ∧ InC C w2 :=
  fun w' hw => (sized_any l x w' hl hx).mono fun _ w2 hh => ⟨by rw [hr]; exact hh.1, bc_step hC w' hw w2 hh.2⟩
end
theorem byteL_be (n : Nat) : beL n 1 = byteL n := by simp [beL, byteL]
theorem put_b (l r : List UInt8) (v n : Nat) (w : World) (hr : r = l ++ beL v n) (hl : l.length ≤ 1073741824) (hn : 0 < n ∧ n ≤ 8) (hv : v < 18446744073709551616) :
    Calls Tryz.prog 27 #[.string ⟨l.toArray⟩, .int .u64 v, .int .i64 n] w fun e w' => e = .returned (.string ⟨r.toArray⟩) ∧ Below w.heap.size w w' :=
  (put_any l v n w hl hn hv).mono fun _ _ hh => ⟨by rw [hr]; exact hh.1, hh.2⟩
theorem flat_next {α β : Type} (l : List α) (f : α → List β) (k : Nat) (h : k < l.length) : (l.take (k + 1)).flatMap f = (l.take k).flatMap f ++ f l[k] := by
  rw [List.take_succ_eq_append_getElem h, List.flatMap_append]
  simp
theorem flat_short {α : Type} (f : α → List UInt8) (c : Nat) (l : List α) (k : Nat) (h : ∀ x ∈ l, (f x).length ≤ c) : ((l.take k).flatMap f).length ≤ c * l.length := by
  have h1 := sum_map_le (l.take k) f (fun _ => c) (fun x hx => h x (List.mem_of_mem_take hx))
  rw [sum_const] at h1
  have h2 : (l.take k).length ≤ l.length := by rw [List.length_take]; omega
  exact Nat.le_trans h1 (Nat.mul_le_mul_left _ h2)

set_option maxHeartbeats 4000000 in
set_option maxRecDepth 100000 in
theorem dput_any (T : Nat → Prop) (b : BodyD) (v : Value) (w : World) (h : DBodyC w T b v) (ht : ThinD b) (hn : NumsD b) :
    Calls Tryz.prog 8 #[v] w fun e w' => e = .returned (.tuple #[strV (dputL b), .int .i64 (codeD b)]) ∧ Below w.heap.size w w' := by
  have hcheck := fun (W : World) (hk : Below w.heap.size w W) => dcheck_any T b v W (h.below hk)
  obtain ⟨AR, cR, xsR, AP, cP, xsP, rfl, hrR, heR, hrP, heP, hlR, hlP, hT, hnm⟩ := h
  have HrR := hide hrR
  have HeR := hide heR
  have HrP := hide hrP
  have HeP := hide heP
  have HT := hide hT
  have Hnm := hide hnm
  have Hcheck := hide hcheck
  clear hrR heR hrP heP hT hnm hcheck
  rcases hok : okD b with _ | _
  · have Hc := hide (show codeD b = 2 by rw [codeD, hok]; rfl)
    have Hp := hide (show dputL b = [] by rw [dputL, hok]; rfl)
    clear hok
    go_enter Tryz.func8, Tryz.ntmps8
    go_wp2_with (go_at_call 9; refine (Hcheck.out _ ((Below.refl _ _).alloc (Nat.le_refl _) _)).mono ?_; rw [Hc.out]; rintro e w1 ⟨rfl, hb1⟩)
    go_ret2
    exact ⟨by rw [Hc.out, Hp.out]; rfl, ((Below.refl _ _).alloc (Nat.le_refl _) _).trans (hb1.mono (by simp))⟩
  · have Hc := hide (show codeD b = 0 by rw [codeD, hok]; rfl)
    have Hp := hide (show dputL b = putD b by rw [dputL, hok]; rfl)
    have hfew := few_ok b hok
    have hok2 := hok
    simp only [okD, Bool.and_eq_true, decide_eq_true_eq] at hok2
    obtain ⟨⟨hw1, hw2, hr8, hp12⟩, _⟩ := hok2
    have Hok := hide hok
    have Hfew := hide hfew
    obtain ⟨wt, hwt⟩ : ∃ n : Nat, b.writer = n := ⟨b.writer.toNat, by omega⟩
    have Hwt := hide hwt
    obtain ⟨hg1, hg2, hg3⟩ := hn
    rw [hwt] at hw1 hw2 ⊢
    have hwt2 : wt ≤ 255 := by omega
    have Hcheck2 := Hcheck.out
    rw [hwt] at Hcheck2
    have Hck := hide Hcheck2
    clear hok hfew hwt hw1 hw2 Hcheck Hcheck2
    go_enter Tryz.func8, Tryz.ntmps8
    go_wp2_with (go_at_call 9; refine (Hck.out _ ((Below.refl _ _).alloc (Nat.le_refl _) _)).mono ?_; rw [Hc.out]; rintro e w1 ⟨rfl, hb1⟩)
    have hN1 : w.heap.size < w1.heap.size := by have := hb1.size; simp at this; omega
    have hrow : w1.heap[w.heap.size]? = some (.cells #[.int .u64 b.gen, .int .u64 b.epoch, .int .i64 wt, .int .u64 b.stamp, .slice AR b.refs.length cR, .slice AP b.packs.length cP] 31) := (hb1.block _ (by simp)).trans (heap_alloc_new _ _)
    have Hrow := hide hrow
    have HB := hide (((Below.refl _ w).alloc (Nat.le_refl _) _).trans (hb1.mono (by simp)))
    clear hrow hb1
    have h1c : ∀ (k : Nat) (v : Value), (#[.int .u64 b.gen, .int .u64 b.epoch, .int .i64 wt, .int .u64 b.stamp, .slice AR b.refs.length cR, .slice AP b.packs.length cP] : Array Value)[k]? = some v → w1.cell? ⟨w.heap.size, k, none⟩ = some v := fun k v hv => (cell_of_row _ _ k _ _ _ Hrow.out).trans hv
    have H1c := hide h1c
    obtain ⟨C, hC⟩ : ∃ C : World → Prop, C = fun w' => Below w1.heap.size w1 w' := ⟨_, rfl⟩
    have hC0 := bc_start hC
    haveI : Nonempty (Wl C) := ⟨⟨_, hC0⟩⟩
    have Hc0 := hide (bc_cell hC hN1 (h1c 0 _ rfl))
    have Hc1 := hide (bc_cell hC hN1 (h1c 1 _ rfl))
    have Hc2 := hide (bc_cell hC hN1 (h1c 2 _ rfl))
    have Hc3 := hide (bc_cell hC hN1 (h1c 3 _ rfl))
    obtain ⟨a1, ha1⟩ : ∃ a, a = [] ++ beL b.gen 8 := ⟨_, rfl⟩
    obtain ⟨a2, ha2⟩ : ∃ a, a = a1 ++ beL b.epoch 8 := ⟨_, rfl⟩
    obtain ⟨a3, ha3⟩ : ∃ a, a = a2 ++ beL wt 1 := ⟨_, rfl⟩
    obtain ⟨a4, ha4⟩ : ∃ a, a = a3 ++ beL b.stamp 8 := ⟨_, rfl⟩
    have la1 : a1.length = 8 := by rw [ha1]; simp [beL_length]
    have la2 : a2.length = 16 := by rw [ha2]; simp [beL_length, la1]
    have la3 : a3.length = 17 := by rw [ha3]; simp [beL_length, la2]
    have la4 : a4.length = 25 := by rw [ha4]; simp [beL_length, la3]
    have Hp1 := hide (quiet_put hC [] a1 b.gen 8 ha1 (by simp) (by omega) hg1)
    have Hp2 := hide (quiet_put hC a1 a2 b.epoch 8 ha2 (by omega) (by omega) hg2)
    have Hp3 := hide (quiet_put hC a2 a3 wt 1 ha3 (by omega) (by omega) (by omega))
    have Hp4 := hide (quiet_put hC a3 a4 b.stamp 8 ha4 (by omega) (by omega) hg3)
    have Ha4 := hide (show a4 = headD b by rw [ha4, ha3, ha2, ha1, headD, Hwt.out, byteL_be]; rfl)
    have HC0 := hide hC0
    have HCd := hide hC
    have La4 := hide la4
    clear hC hC0 ha1 ha2 ha3 ha4 la1 la2 la3 la4 h1c
    refine wp_region_class C (by kernel_rfl) (by kernel_rfl) HC0.out ?_
    repeat (first | go_big_quiet_skip | (go_big_quiet_want; first
      | (refine quiet_load 22 (.tmp 12) rfl ⟨w.heap.size, 0, none⟩ rfl (.int .u64 b.gen) Hc0.out _ Tryz.underlying22 rfl ?_; go_simp; go_big_quiet_on)
      | (refine quiet_load 22 (.tmp 15) rfl ⟨w.heap.size, 1, none⟩ rfl (.int .u64 b.epoch) Hc1.out _ Tryz.underlying22 rfl ?_; go_simp; go_big_quiet_on)
      | (refine quiet_load 3 (.tmp 18) rfl ⟨w.heap.size, 2, none⟩ rfl (.int .i64 wt) Hc2.out _ Tryz.underlying3 rfl ?_; go_simp; go_big_quiet_on)
      | (refine quiet_load 22 (.tmp 22) rfl ⟨w.heap.size, 3, none⟩ rfl (.int .u64 b.stamp) Hc3.out _ Tryz.underlying22 rfl ?_; go_simp; go_big_quiet_on)
      | (refine quiet_call 27 #[.const (.string ⟨#[]⟩), .tmp 13, .const (.int .i64 8)] #[9, 22, 3] rfl dput_enters _ (by simp only [List.map_toArray, List.map_cons, List.map_nil]; rfl) _ Hp1.out ?_; go_simp; go_big_quiet_on)
      | (refine quiet_call 27 #[.tmp 14, .tmp 16, .const (.int .i64 8)] #[9, 22, 3] rfl dput_enters _ (by simp only [List.map_toArray, List.map_cons, List.map_nil]; rfl) _ Hp2.out ?_; go_simp; go_big_quiet_on)
      | (refine quiet_call 27 #[.tmp 17, .tmp 20, .const (.int .i64 1)] #[9, 22, 3] rfl dput_enters _ (by simp only [List.map_toArray, List.map_cons, List.map_nil]; rfl) _ Hp3.out ?_; go_simp; go_big_quiet_on)
      | (refine quiet_call 27 #[.tmp 21, .tmp 23, .const (.int .i64 8)] #[9, 22, 3] rfl dput_enters _ (by simp only [List.map_toArray, List.map_cons, List.map_nil]; rfl) _ Hp4.out ?_; go_simp; go_big_quiet_on)
      | (go_big_quiet_op; go_big_quiet_on)))
    refine wpQuiet_nil ?_
    intro wz hwz
    obtain ⟨⟨_, hz⟩, rfl⟩ := hwz
    rw [HCd.out] at hz
    have hc4 : wz.cell? ⟨w.heap.size, 4, none⟩ = some (.slice AR b.refs.length cR) := (hz.cell (p := ⟨w.heap.size, 4, none⟩) hN1).trans (H1c.out 4 _ rfl)
    have hsz := hz.size
    have Hz := hide hz
    obtain ⟨s5, hs5⟩ : ∃ s5, s5 = a4 ++ beL b.refs.length 1 := ⟨_, rfl⟩
    have Hs5 := hide hs5
    have hla4 : a4.length ≤ 1073741824 := by have := La4.out; omega
    clear hz Hc0 Hc1 Hc2 Hc3 Hp1 Hp2 Hp3 Hp4 hs5
    go_wp2_with (go_at_call 27; refine (put_b a4 s5 b.refs.length 1 _ Hs5.out hla4 (by omega) (by omega)).mono ?_; rintro e w2 ⟨rfl, hb2⟩; have Hb2 := hide (Hz.out.trans (hb2.mono hsz)); clear hb2)
    clear hc4 hsz
    have hN2 : w.heap.size < w2.heap.size := Nat.lt_of_lt_of_le hN1 Hb2.out.size
    have hls5 : s5.length ≤ 1000 := by rw [Hs5.out, List.length_append, beL_length, La4.out]; omega
    go_loopw [4, 5] (fun s i wr => ∃ k : Nat, k ≤ b.refs.length ∧ s = .string ⟨(s5 ++ (b.refs.take k).flatMap putRefD).toArray⟩ ∧ i = .int .i64 k ∧ Below w1.heap.size w1 wr) (fun _ i _ => b.refs.length - (intOf i).toNat)
    case atStart => exact ⟨0, Nat.zero_le _, by simp, rfl, Hb2.out⟩
    case round =>
      obtain ⟨k, hk, rfl, rfl, hb⟩ := hrel
      have Hb := hide hb
      have hsz1 := hb.size
      have hc4 : wr.cell? ⟨w.heap.size, 4, none⟩ = some (.slice AR b.refs.length cR) := (hb.cell (p := ⟨w.heap.size, 4, none⟩) hN1).trans (H1c.out 4 _ rfl)
      have hN3 : w.heap.size < wr.heap.size := by omega
      obtain ⟨acc, hacc⟩ : ∃ acc, acc = s5 ++ (b.refs.take k).flatMap putRefD := ⟨_, rfl⟩
      rw [← hacc]
      have Hacc := hide hacc
      clear hb hacc
      by_cases hlt : k < b.refs.length
      · obtain ⟨bb, off, rfl, hTb, hbl, _⟩ := HrR.out.at_ (by omega)
        obtain ⟨c, hc, _, hrg⟩ := rd_range HrR.out HeR.out rfl (fun p c => DRefC.len p c) hlt
        have hrg2 := range_keep (range_keep hrg (Keep.of_none HB.out) hbl (fun f => f)) (Keep.of_none Hb.out) (by have := HB.out.size; omega) (fun f => f)
        have hbl2 : bb < wr.heap.size := by have := HB.out.size; omega
        have hx0 : wr.cell? ⟨bb, off + k * 2, none⟩ = some (.string ⟨b.refs[k].name.toArray⟩) := by simpa using hrg2 0 (.string ⟨b.refs[k].name.toArray⟩) (by rw [hc]; rfl)
        have hx1 : wr.cell? ⟨bb, off + k * 2 + 1, none⟩ = some (.string ⟨b.refs[k].id.toArray⟩) := hrg2 1 (.string ⟨b.refs[k].id.toArray⟩) (by rw [hc]; rfl)
        have hfr := Hfew.out.2.2.1 _ (List.getElem_mem hlt)
        have htr := ht.1 _ (List.getElem_mem hlt)
        have hnext : s5 ++ (b.refs.take (k + 1)).flatMap putRefD = acc ++ putRefD b.refs[k] := by rw [flat_next _ _ _ hlt, ← List.append_assoc, ← Hacc.out]
        have hal : acc.length ≤ 10000 := by
          have h1 := flat_short putRefD 100 b.refs k (fun r hr => by have h1 := Hfew.out.2.2.1 r hr; have h2 := ht.1 r hr; simp only [putRefD, List.length_append, beL_length]; omega)
          rw [Hacc.out, List.length_append]
          omega
        obtain ⟨r, hr⟩ : ∃ r, r = b.refs[k] := ⟨_, rfl⟩
        rw [← hr] at hx0 hx1 hfr htr hnext
        obtain ⟨x, hx⟩ : ∃ x, x = r.name := ⟨_, rfl⟩
        obtain ⟨y, hy⟩ : ∃ y, y = r.id := ⟨_, rfl⟩
        rw [← hx] at hx0 hfr
        rw [← hy] at hx1 htr
        obtain ⟨q, hq⟩ : ∃ q, q = acc ++ beL x.length 4 ++ x := ⟨_, rfl⟩
        obtain ⟨q2, hq2⟩ : ∃ q2, q2 = q ++ y := ⟨_, rfl⟩
        have hfin : q2 = s5 ++ (b.refs.take (k + 1)).flatMap putRefD := by rw [hnext, hq2, hq, hx, hy, putRefD]; simp only [List.append_assoc]
        have hql : q.length ≤ 10100 := by rw [hq]; simp only [List.length_append, beL_length]; omega
        have hadd : ∀ w', (Op.stringOp .add ⟨q.toArray⟩ ⟨y.toArray⟩).run Tryz.prog w' = .ok (.string ⟨q2.toArray⟩) w' := by rw [hq2]; exact str_add q y (by omega)
        obtain ⟨C, hC⟩ : ∃ C : World → Prop, C = fun w' => Below wr.heap.size wr w' := ⟨_, rfl⟩
        have hC0 := bc_start hC
        haveI : Nonempty (Wl C) := ⟨⟨_, hC0⟩⟩
        have Hc4 := hide (bc_cell hC hN3 hc4)
        have Hx0 := hide (bc_cell hC hbl2 hx0)
        have Hx1 := hide (bc_cell hC hbl2 hx1)
        have Hcall := hide (quiet_sized hC acc q x hq (by omega) (by omega))
        have HC0 := hide hC0
        have HCd := hide hC
        have Hfin := hide hfin
        clear hC hC0 hx0 hx1 hfr htr hnext hal hr hx hy hq hq2 hql hfin hc hrg hrg2 hTb
        have Hadd := hide hadd
        clear hadd
        go_wp2_with fail
        have hadd := Hadd.out
        refine wp_region_class C (by kernel_rfl) (by kernel_rfl) HC0.out ?_
        repeat (first | go_big_quiet_skip | (go_big_quiet_want; first
          | (refine quiet_load 28 (.tmp 39) rfl ⟨w.heap.size, 4, none⟩ rfl (.slice (some ⟨bb, off, none⟩) b.refs.length cR) Hc4.out _ Tryz.underlying28 rfl ?_; go_simp; go_big_quiet_on)
          | (refine quiet_load 28 (.tmp 46) rfl ⟨w.heap.size, 4, none⟩ rfl (.slice (some ⟨bb, off, none⟩) b.refs.length cR) Hc4.out _ Tryz.underlying28 rfl ?_; go_simp; go_big_quiet_on)
          | (refine quiet_load 9 (.tmp 43) rfl ⟨bb, off + k * 2, none⟩ rfl (.string ⟨x.toArray⟩) Hx0.out _ Tryz.underlying9 rfl ?_; go_simp; go_big_quiet_on)
          | (refine quiet_load 9 (.tmp 50) rfl ⟨bb, off + k * 2 + 1, none⟩ rfl (.string ⟨y.toArray⟩) Hx1.out _ Tryz.underlying9 rfl ?_; go_simp; go_big_quiet_on)
          | (refine quiet_call 28 #[.tmp 38, .tmp 44] #[9, 9] rfl dsized_enters _ (by simp only [List.map_toArray, List.map_cons, List.map_nil]; rfl) _ Hcall.out ?_; go_simp; go_big_quiet_on)
          | (go_big_quiet_op; go_big_quiet_on)))
        refine wpQuiet_nil ?_
        intro wz hwz
        obtain ⟨⟨_, hz⟩, rfl⟩ := hwz
        rw [HCd.out] at hz
        have Hz2 := hide (Hb.out.trans (hz.mono hsz1))
        clear hz hadd
        go_wp2_with fail
        exact ⟨⟨k + 1, by omega, by rw [Hfin.out], by go_num, Hz2.out⟩, by simp [intOf]; omega⟩
      · obtain rfl : k = b.refs.length := by omega
        rw [List.take_of_length_le (Nat.le_refl _)] at Hacc
        have hc5 : wr.cell? ⟨w.heap.size, 5, none⟩ = some (.slice AP b.packs.length cP) := (Hb.out.cell (p := ⟨w.heap.size, 5, none⟩) hN1).trans (H1c.out 5 _ rfl)
        have hal : acc.length ≤ 10000 := by
          have h1 := flat_short putRefD 100 b.refs b.refs.length (fun r hr => by have h1 := Hfew.out.2.2.1 r hr; have h2 := ht.1 r hr; simp only [putRefD, List.length_append, beL_length]; omega)
          rw [List.take_of_length_le (Nat.le_refl _)] at h1
          rw [Hacc.out, List.length_append]
          omega
        obtain ⟨s9, hs9⟩ : ∃ s9, s9 = acc ++ beL b.packs.length 1 := ⟨_, rfl⟩
        have hls9 : s9.length ≤ 10001 := by rw [hs9, List.length_append, beL_length]; omega
        have Hs9 := hide hs9
        clear hs9 hlt
        go_wp2_with (go_at_call 27; refine (put_b acc s9 b.packs.length 1 _ Hs9.out (by omega) (by omega) (by omega)).mono ?_; rintro e w3 ⟨rfl, hb3⟩; have Hb3 := hide (Hb.out.trans (hb3.mono hsz1)); clear hb3)
        clear hc4 hc5 hN3
        go_loopw [4, 6] (fun s i wr => ∃ n : Nat, n ≤ b.packs.length ∧ s = .string ⟨(s9 ++ (b.packs.take n).flatMap putPackD).toArray⟩ ∧ i = .int .i64 n ∧ Below w1.heap.size w1 wr) (fun _ i _ => b.packs.length - (intOf i).toNat)
        case atStart => exact ⟨0, Nat.zero_le _, by simp, rfl, Hb3.out⟩
        case round =>
          clear hsz1
          obtain ⟨n, hn, rfl, rfl, hb2⟩ := hrel
          have Hb2 := hide hb2
          have hs2 := hb2.size
          have hc5 : wr.cell? ⟨w.heap.size, 5, none⟩ = some (.slice AP b.packs.length cP) := (Hb2.out.cell (p := ⟨w.heap.size, 5, none⟩) hN1).trans (H1c.out 5 _ rfl)
          have hNlt2 : w.heap.size < wr.heap.size := by omega
          have hal2 : (s9 ++ (b.packs.take n).flatMap putPackD).length ≤ 100000 := by
            have h1 := flat_short putPackD 2340 b.packs n (fun p hp => by
              have h1 := putPackD_length p (ht.2 p hp)
              have h2 : p.blobs.length ≤ 48 := by
                have h3 := Hok.out
                simp only [okD, Bool.and_eq_true, decide_eq_true_eq] at h3
                have h4 := List.all_eq_true.1 h3.2.2.1 p hp
                unfold packOkD at h4
                exact (of_decide_eq_true h4).2.2.2
              omega)
            rw [List.length_append]
            omega
          obtain ⟨acc2, hacc2⟩ : ∃ acc2, acc2 = s9 ++ (b.packs.take n).flatMap putPackD := ⟨_, rfl⟩
          rw [← hacc2] at hal2 ⊢
          have Hacc2 := hide hacc2
          clear hb2 hacc2
          by_cases hlt2 : n < b.packs.length
          · obtain ⟨bp, op, rfl, hTp, hblp, _⟩ := HrP.out.at_ (by omega)
            obtain ⟨cp, hcp, hclp, hrgp⟩ := rd_range HrP.out HeP.out rfl (fun p c => DPackC.len p c) hlt2
            have hpt := ht.2 _ (List.getElem_mem hlt2)
            have hnext : s9 ++ (b.packs.take (n + 1)).flatMap putPackD = acc2 ++ putPackD b.packs[n] := by rw [flat_next _ _ _ hlt2, ← List.append_assoc, ← Hacc2.out]
            have hpok : packOkD b.packs[n] = true := by
              have h3 := Hok.out
              simp only [okD, Bool.and_eq_true, decide_eq_true_eq] at h3
              exact List.all_eq_true.1 h3.2.2.1 _ (List.getElem_mem hlt2)
            obtain ⟨pk, hpkq⟩ : ∃ pk, pk = b.packs[n] := ⟨_, rfl⟩
            rw [← hpkq] at hcp hpt hnext hpok
            unfold packOkD at hpok
            obtain ⟨q1, q2, q3, q4⟩ := of_decide_eq_true hpok
            obtain ⟨ct, hct⟩ : ∃ ct : Nat, pk.count = ct := ⟨pk.count.toNat, by omega⟩
            obtain ⟨Ab, capb, bs, hcv, hrb, heb, _, _, _⟩ := hcp
            rw [hct] at hcv
            have hst := store_new wr 71 3 cp (by kernel_rfl) hclp (fun v hv => by rw [hcv] at hv; simp [strV] at hv; rcases hv with rfl | rfl | rfl <;> rfl)
            have hblp2 : bp < wr.heap.size := by have := HB.out.size; omega
            have Hrgp := hide (range_keep (range_keep hrgp (Keep.of_none HB.out) hblp (fun f => f)) (Keep.of_none Hb2.out) (by have := HB.out.size; omega) (fun f => f))
            have Hrb := hide hrb
            have Heb := hide heb
            have Hszp := hide (show (Tryz.prog.info? 71).map (·.size) = some cp.length by rw [hclp]; kernel_rfl)
            have Hcv := hide hcv
            have Hct := hide hct
            have hctl : ct ≤ 256 := by omega
            clear hrgp hrb heb hcv hct q1 q2 hpok hpkq hTp
            go_wp2_with (refine wpList_load_mid rfl 71 (.tmp 69) rfl bp (op + n * 3) rfl cp _ Hrgp.out Tryz.underlying71 rfl Hszp.out ?_)
            obtain ⟨wp, hwp⟩ : ∃ wp : World, wp = wr.alloc (.cells cp.toArray 71) := ⟨_, rfl⟩
            have hpc : ∀ (k : Nat) (v : Value), cp[k]? = some v → wp.cell? ⟨wr.heap.size, k, none⟩ = some v := fun k v hv => by rw [hwp, cell_of_row _ _ k _ _ _ (heap_alloc_new _ _), List.getElem?_toArray]; exact hv
            have hpc0 := hpc 0 (.string ⟨pk.key.toArray⟩) (by rw [Hcv.out]; rfl)
            have hpc1 := hpc 1 (.int .i64 ct) (by rw [Hcv.out]; rfl)
            have hpc2 := hpc 2 (.slice Ab pk.blobs.length capb) (by rw [Hcv.out]; rfl)
            have HBp := hide (show Below w1.heap.size w1 wp by rw [hwp]; exact Hb2.out.alloc hs2 _)
            have hPbl : wr.heap.size < wp.heap.size := by rw [hwp]; simp
            obtain ⟨Pb, hPb⟩ : ∃ Pb, Pb = wr.heap.size := ⟨_, rfl⟩
            rw [← hwp]
            rw [← hPb] at hpc0 hpc1 hpc2 hPbl ⊢
            obtain ⟨key, hkey⟩ : ∃ key, key = pk.key := ⟨_, rfl⟩
            rw [← hkey] at hpc0
            have hkl : key.length ≤ 32 := by rw [hkey]; exact hpt.1
            obtain ⟨t1, ht1⟩ : ∃ t1, t1 = acc2 ++ key := ⟨_, rfl⟩
            obtain ⟨t2, ht2⟩ : ∃ t2, t2 = t1 ++ beL ct 2 := ⟨_, rfl⟩
            obtain ⟨t3, ht3⟩ : ∃ t3, t3 = t2 ++ beL pk.blobs.length 1 := ⟨_, rfl⟩
            have lt1 : t1.length ≤ 100032 := by rw [ht1, List.length_append]; omega
            have lt2 : t2.length ≤ 100034 := by rw [ht2, List.length_append, beL_length]; omega
            have lt3 : t3.length ≤ 100035 := by rw [ht3, List.length_append, beL_length]; omega
            have hadd : ∀ w', (Op.stringOp .add ⟨acc2.toArray⟩ ⟨key.toArray⟩).run Tryz.prog w' = .ok (.string ⟨t1.toArray⟩) w' := by rw [ht1]; exact str_add acc2 key (by omega)
            have hfin : ∀ x, t3 ++ x = acc2 ++ (key ++ beL ct 2 ++ byteL pk.blobs.length ++ x) := fun x => by rw [ht3, ht2, ht1, byteL_be]; simp only [List.append_assoc]
            obtain ⟨C, hC⟩ : ∃ C : World → Prop, C = fun w' => Below wp.heap.size wp w' := ⟨_, rfl⟩
            have hC0 := bc_start hC
            haveI : Nonempty (Wl C) := ⟨⟨_, hC0⟩⟩
            have Hk0 := hide (bc_cell hC hPbl hpc0)
            have Hk1 := hide (bc_cell hC hPbl hpc1)
            have Hk2 := hide (bc_cell hC hPbl hpc2)
            have Hq1 := hide (quiet_put hC t1 t2 ct 2 ht2 (by omega) (by omega) (by omega))
            have Hq2 := hide (quiet_put hC t2 t3 pk.blobs.length 1 ht3 (by omega) (by omega) (by omega))
            have HC0 := hide hC0
            have HCd := hide hC
            have Hfin := hide hfin
            have Hnext := hide hnext
            have Hpc2 := hide hpc2
            have HPbl := hide hPbl
            have Hkey := hide hkey
            have Hpt := hide hpt
            clear hC hC0 hwp hpc hpc0 hpc1 hpc2 hPb hkey ht1 ht2 ht3 hfin hnext hpt hst hc5 lt1 lt2 hkl hPbl
            refine wp_region_class C (by kernel_rfl) (by kernel_rfl) HC0.out ?_
            repeat (first | go_big_quiet_skip | (go_big_quiet_want; first
              | (refine quiet_load 9 (.tmp 72) rfl ⟨Pb, 0, none⟩ rfl (.string ⟨key.toArray⟩) Hk0.out _ Tryz.underlying9 rfl ?_; go_simp; go_big_quiet_on)
              | (refine quiet_load 3 (.tmp 75) rfl ⟨Pb, 1, none⟩ rfl (.int .i64 ct) Hk1.out _ Tryz.underlying3 rfl ?_; go_simp; go_big_quiet_on)
              | (refine quiet_load 69 (.tmp 79) rfl ⟨Pb, 2, none⟩ rfl (.slice Ab pk.blobs.length capb) Hk2.out _ Tryz.underlying69 rfl ?_; go_simp; go_big_quiet_on)
              | (refine quiet_call 27 #[.tmp 74, .tmp 77, .const (.int .i64 2)] #[9, 22, 3] rfl dput_enters _ (by simp only [List.map_toArray, List.map_cons, List.map_nil]; rfl) _ Hq1.out ?_; go_simp; go_big_quiet_on)
              | (refine quiet_call 27 #[.tmp 78, .tmp 82, .const (.int .i64 1)] #[9, 22, 3] rfl dput_enters _ (by simp only [List.map_toArray, List.map_cons, List.map_nil]; rfl) _ Hq2.out ?_; go_simp; go_big_quiet_on)
              | (go_big_quiet_op; go_big_quiet_on)))
            refine wpQuiet_nil ?_
            intro wz hwz
            obtain ⟨⟨_, hz⟩, rfl⟩ := hwz
            rw [HCd.out] at hz
            have Hz3 := hide hz
            clear hz hadd Hk0 Hk1 Hk2 Hq1 Hq2 HC0 HCd
            go_wp2_with fail
            have hzP : Pb < wz.heap.size := Nat.lt_of_lt_of_le HPbl.out Hz3.out.size
            have HzP := hide hzP
            have Hzc := hide ((Hz3.out.cell (p := ⟨Pb, 2, none⟩) HPbl.out).trans Hpc2.out)
            have HzB := hide (HBp.out.trans (Hz3.out.mono HBp.out.size))
            clear hzP
            go_loopw [4, 8] (fun s i w6 => ∃ m : Nat, m ≤ pk.blobs.length ∧ s = .string ⟨(t3 ++ (pk.blobs.take m).flatMap putBlobD).toArray⟩ ∧ i = .int .i64 m ∧ Below wz.heap.size wz w6) (fun _ i _ => pk.blobs.length - (intOf i).toNat)
            case atStart => exact ⟨0, Nat.zero_le _, by simp, rfl, Below.refl _ _⟩
            case round =>
              obtain ⟨m, hm, rfl, rfl, hb6⟩ := hrel
              have c2 := (hb6.cell (p := ⟨Pb, 2, none⟩) HzP.out).trans Hzc.out
              have Hb6 := hide hb6
              clear hb6
              obtain ⟨acc3, hacc3⟩ : ∃ acc3, acc3 = t3 ++ (pk.blobs.take m).flatMap putBlobD := ⟨_, rfl⟩
              have hl3 : acc3.length ≤ 110000 := by
                have h1 := flat_short putBlobD 48 pk.blobs m (fun x hx => by have := Hpt.out.2 x hx; simp only [putBlobD, List.length_append]; omega)
                rw [hacc3, List.length_append]
                omega
              rw [← hacc3]
              have Hacc3 := hide hacc3
              clear hacc3
              by_cases hlt3 : m < pk.blobs.length
              · obtain ⟨bk, ok, rfl, hTk, hblk, _⟩ := Hrb.out.at_ (by omega)
                obtain ⟨ck, hck, _, hrgk⟩ := rd_range Hrb.out Heb.out rfl (fun p c => DBlobC.len p c) hlt3
                have hwz : Below w.heap.size w wz := HB.out.trans (HzB.out.mono HB.out.size)
                have hrgk2 := range_keep (range_keep hrgk (Keep.of_none hwz) hblk (fun f => f)) (Keep.of_none Hb6.out) (by have := hwz.size; omega) (fun f => f)
                have hxt := Hpt.out.2 _ (List.getElem_mem hlt3)
                have hnx : t3 ++ (pk.blobs.take (m + 1)).flatMap putBlobD = acc3 ++ putBlobD pk.blobs[m] := by rw [flat_next _ _ _ hlt3, ← List.append_assoc, ← Hacc3.out]
                obtain ⟨bl, hbl⟩ : ∃ bl, bl = pk.blobs[m] := ⟨_, rfl⟩
                rw [← hbl] at hck hxt hnx
                obtain ⟨x, hx⟩ : ∃ x, x = bl.name := ⟨_, rfl⟩
                obtain ⟨y, hy⟩ : ∃ y, y = bl.sum := ⟨_, rfl⟩
                have x0 : wr.cell? ⟨bk, ok + m * 2, none⟩ = some (.string ⟨x.toArray⟩) := by simpa using hrgk2 0 (.string ⟨x.toArray⟩) (by rw [hck, hx]; rfl)
                have x1 : wr.cell? ⟨bk, ok + m * 2 + 1, none⟩ = some (.string ⟨y.toArray⟩) := hrgk2 1 (.string ⟨y.toArray⟩) (by rw [hck, hy]; rfl)
                rw [← hx, ← hy] at hxt
                obtain ⟨u1, hu1⟩ : ∃ u1, u1 = acc3 ++ x := ⟨_, rfl⟩
                obtain ⟨u2, hu2⟩ : ∃ u2, u2 = u1 ++ y := ⟨_, rfl⟩
                have lu1 : u1.length ≤ 110016 := by rw [hu1, List.length_append]; omega
                have hfin : u2 = t3 ++ (pk.blobs.take (m + 1)).flatMap putBlobD := by rw [hnx, hu2, hu1, hx, hy, putBlobD, List.append_assoc]
                have Hfin2 := hide hfin
                have hadd1 : ∀ w', (Op.stringOp .add ⟨acc3.toArray⟩ ⟨x.toArray⟩).run Tryz.prog w' = .ok (.string ⟨u1.toArray⟩) w' := by rw [hu1]; exact str_add acc3 x (by omega)
                have hadd2 : ∀ w', (Op.stringOp .add ⟨u1.toArray⟩ ⟨y.toArray⟩).run Tryz.prog w' = .ok (.string ⟨u2.toArray⟩) w' := by rw [hu2]; exact str_add u1 y (by omega)
                clear hck hrgk hrgk2 hwz hnx hbl hx hy hu1 hu2 hfin lu1 hxt hTk
                go_wp2_with fail
                go_quiet (fail)
                go_wp2_with fail
                exact ⟨⟨m + 1, by omega, by rw [Hfin2.out], by go_num, below_drewN Hb6.out nq⟩, by simp [intOf]; omega⟩
              · obtain rfl : m = pk.blobs.length := by omega
                rw [List.take_of_length_le (Nat.le_refl _)] at Hacc3
                go_wp2_with fail
                refine ⟨⟨n + 1, by omega, ?_, by go_num, HzB.out.trans (Hb6.out.mono HzB.out.size)⟩, by simp [intOf]; omega⟩
                rw [Hnext.out, Hacc3.out, Hfin.out, Hkey.out, putPackD, Hct.out, Int.toNat_natCast]
          · obtain rfl : n = b.packs.length := by omega
            rw [List.take_of_length_le (Nat.le_refl _)] at Hacc2
            have hsaid : acc2 = saidD b := by rw [Hacc2.out, Hs9.out, Hacc.out, Hs5.out, Ha4.out, saidD, byteL_be, byteL_be]
            have hshort := saidD_short b Hfew.out ht
            rw [← hsaid] at hshort
            have Hput := hide (show putD b = acc2 ++ List.replicate (3584 - acc2.length) 0 by rw [putD, ← hsaid])
            clear hsaid hlt2
            go_wp2_with fail
            obtain ⟨wo, hwo⟩ : ∃ wo : World, wo = wr := ⟨_, rfl⟩
            rw [← hwo] at Hb2 ⊢
            clear hwo hc5 hs2 hNlt2
            go_loopw [4] (fun s w6 => ∃ j : Nat, j ≤ 3584 - acc2.length ∧ s = .string ⟨(acc2 ++ List.replicate j 0).toArray⟩ ∧ w6 = wo) (fun s _ => match s with | .string x => 3584 - x.size | _ => 0)
            case atStart => exact ⟨0, Nat.zero_le _, by simp, rfl⟩
            case round =>
              obtain ⟨j, hj, rfl, rfl⟩ := hrel
              obtain ⟨q, hq⟩ : ∃ q, q = acc2 ++ List.replicate j 0 := ⟨_, rfl⟩
              have hql : q.length = acc2.length + j := by rw [hq, List.length_append, List.length_replicate]
              rw [← hq]
              have Hq := hide hq
              clear hq
              by_cases hlt6 : j < 3584 - acc2.length
              · obtain ⟨q2, hq2⟩ : ∃ q2, q2 = q ++ [0] := ⟨_, rfl⟩
                have hadd : ∀ w', (Op.stringOp .add ⟨q.toArray⟩ ⟨#[0]⟩).run Tryz.prog w' = .ok (.string ⟨q2.toArray⟩) w' := by rw [hq2]; exact str_add q [0] (by simp; omega)
                have hsz : (⟨q.toArray⟩ : ByteArray).size = q.length := rfl
                have hsz2 : (⟨q2.toArray⟩ : ByteArray).size = q.length + 1 := by
                  show q2.toArray.size = _
                  rw [List.size_toArray, hq2, List.length_append]
                  rfl
                have Hq2 := hide hq2
                have Hsz2 := hide hsz2
                have Hql := hide hql
                have hqs : q.length < 3584 := by omega
                clear hq2 hsz2 hql
                go_wp2_with fail
                refine ⟨⟨j + 1, by omega, ?_, trivial⟩, ?_⟩
                · rw [Hq2.out, Hq.out, List.replicate_succ', List.append_assoc]
                · show 3584 - (⟨q2.toArray⟩ : ByteArray).size < 3584 - (⟨q.toArray⟩ : ByteArray).size
                  rw [Hsz2.out]
                  show 3584 - (q.length + 1) < 3584 - q.length
                  omega
              · have hsz : (⟨q.toArray⟩ : ByteArray).size = q.length := rfl
                have hj2 : j = 3584 - acc2.length := by omega
                have hql2 : q.length = 3584 := by omega
                have Hj2 := hide hj2
                clear hj2 hql
                go_wp2_with fail
                go_ret2
                exact ⟨by rw [Hc.out, Hp.out, Hput.out, ← Hj2.out, ← Hq.out]; rfl, HB.out.trans (Hb2.out.mono HB.out.size)⟩
end Go.Proofs.YtimfmbcihopaaaaGreatDoor
