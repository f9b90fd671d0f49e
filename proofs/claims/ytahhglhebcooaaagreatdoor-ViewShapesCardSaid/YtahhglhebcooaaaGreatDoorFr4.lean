/- frame.Read, frame.Open. -/
import Derived.Test.YtahhglhebcooaaaGreatDoorFr3
namespace Go.Proofs.YtahhglhebcooaaaGreatDoor
open Go.RowKit Go.Cof Go.Tol

theorem run_slice_part {P : Program} {t e : TypeId} (ht : P.underlying t = some (.slice e)) (hi : (P.info? e).map (·.size) = some 1) (b off n cap l h : Nat) (h1 : l ≤ h) (h2 : h ≤ cap) (hl : l < cap) (a c : Int) (ha : a = l) (hc : c = h) (w : World) :
    (Instr.slice t (.slice (some ⟨b, off, none⟩) n cap) (some (.int .i64 a)) (some (.int .i64 c)) none).run P w = .ok (.slice (some ⟨b, off + l, none⟩) (h - l) (cap - l)) w := by
  have he : P.elem t = e := by simp [Program.elem, ht]
  subst ha hc
  rw [run_slice_lh (w := w) (t := t) (a := some ⟨b, off, none⟩) (len := n) (cap := cap) (by rw [he]; exact ht) .i64 .i64 (l : Int) (h : Int) (by omega) (by omega) (by omega), he]
  cases hq : P.info? e with
  | none => simp [hq] at hi
  | some i =>
    have hs : i.size = 1 := by simpa [hq] using hi
    have hnl : ¬ cap = l := by omega
    simp [sizeOf, typeInfo, hq, sliced, hs, hnl, Addr.add_mid]
theorem run_slice_head {P : Program} {t e : TypeId} (ht : P.underlying t = some (.slice e)) (hi : (P.info? e).map (·.size) = some 1) (A : Option Addr) (n cap h : Nat) (h2 : h ≤ cap) (c : Int) (hc : c = h) (w : World) :
    (Instr.slice t (.slice A n cap) none (some (.int .i64 c)) none).run P w = .ok (.slice A h cap) w := by
  have he : P.elem t = e := by simp [Program.elem, ht]
  subst hc
  rw [run_slice_h (w := w) (t := t) (a := A) (len := n) (cap := cap) (by rw [he]; exact ht) .i64 (h : Int) (by omega) (by omega), he]
  cases hq : P.info? e with
  | none => simp [hq] at hi
  | some i =>
    have hs : i.size = 1 := by simpa [hq] using hi
    cases A with
    | none => simp [sizeOf, typeInfo, hq, sliced]
    | some x => by_cases hz : cap = 0 <;> simp [sizeOf, typeInfo, hq, sliced, hz, Addr.add]

theorem run_slice_cap {P : Program} {t e : TypeId} (ht : P.underlying t = some (.slice e)) (hi : (P.info? e).map (·.size) = some 1) (A : Option Addr) (n cap : Nat) (h2 : n ≤ cap) (w : World) :
    (Instr.slice t (.slice A n cap) none (some (.int .i64 (n : Int))) (some (.int .i64 (n : Int)))).run P w = .ok (.slice A n n) w := by
  have he : P.elem t = e := by simp [Program.elem, ht]
  rw [run_slice_hm (w := w) (t := t) (a := A) (len := n) (cap := cap) (by rw [he]; exact ht) .i64 .i64 (n : Int) (n : Int) (by omega) (by omega) (by omega), he]
  cases hq : P.info? e with
  | none => simp [hq] at hi
  | some i =>
    have hs : i.size = 1 := by simpa [hq] using hi
    cases A with
    | none => simp [sizeOf, typeInfo, hq, sliced]
    | some x => by_cases hz : n = 0 <;> simp [sizeOf, typeInfo, hq, sliced, hz, Addr.add]
theorem bequal_b {S S2 : Nat → Prop} {A B : Option Addr} {c c2 n m : Nat} (l k : List UInt8) (v : Bool) {w : World} (hn : n = l.length) (hm : m = k.length) (hv : (l == k) = v) (h : Rd w S 1 A n (bytesV l)) (h2 : Rd w S2 1 B m (bytesV k)) :
    Calls Tryz.prog 22 #[.slice A n c, .slice B m c2] w fun e w' => e = .returned (.bool v) ∧ w = w' := by
  subst hn hm hv
  exact bequal_any S S2 A B c c2 l k w h h2
theorem bclone_b {S : Nat → Prop} {A : Option Addr} {cap n : Nat} (l : List UInt8) {w : World} (hn : n = l.length) (hr : Rd w S 1 A n (bytesV l)) (hl : n ≤ 140737488351232) :
    Calls Tryz.prog 36 #[.slice A n cap] w fun e w' => Cloned w w' l e := by
  subst hn
  exact bclone_any S A cap l w hr hl
/-- What is within the frame at the beginning. -/
def withinR (l : List UInt8) : List UInt8 :=
  if (lenF l).2 ≠ 0 then [] else if l.length < (lenF l).1 then [] else
  if ((shaL (l.take ((lenF l).1 - 4))).take 4 == (l.drop ((lenF l).1 - 4)).take 4) = false then [] else (l.take ((lenF l).1 - 4)).drop 8
/-- What is within just one frame. -/
def withinO (l : List UInt8) : List UInt8 := if (lenF l).2 = 0 ∧ (lenF l).1 < l.length then [] else withinR l
theorem lenF_ge (l : List UInt8) (h : (lenF l).2 = 0) : 12 ≤ (lenF l).1 := by
  unfold lenF at h ⊢
  split at h
  · simp at h
  · split at h
    · simp at h
    · split at h
      · simp at h
      · split at h
        · simp at h
        · rename_i h1 h2 h3 h4
          rw [if_neg h1, if_neg h2, if_neg h3, if_neg h4]
          omega
theorem lenF_two (l : List UInt8) : (lenF l).2 ≤ 20 ∧ (lenF l).1 ≤ 65548 := by
  unfold lenF
  split
  · decide
  · split
    · decide
    · split
      · decide
      · split
        · decide
        · exact ⟨Nat.zero_le _, by simp only; omega⟩

theorem below_undrew {N : Nat} {w w' : World} (h : Below N w.drew w') : Below N w w' := ⟨h.os, h.tape, h.output, h.size, h.block⟩
theorem results_four {fn : Func} {a b c d : Tmp} (h : fn.results = #[.tmp a, .tmp b, .tmp c, .tmp d]) (tmps : Array Value) (P : Program) (w : World) :
    (results fn tmps).run P w = .ok (.tuple #[tmps.getD a undef, tmps.getD b undef, tmps.getD c undef, tmps.getD d undef]) w := by
  simp [results, h]

def ReadFP (w w' : World) (x : List UInt8) (e : Ending) : Prop :=
  ∃ (k n bad : Int) (A : Option Addr) (c : Nat), e = .returned (.tuple #[.int .i64 k, .slice A x.length c, .int .i64 n, .int .i64 bad]) ∧ Rd w' (fun i => w.heap.size ≤ i) 1 A x.length (bytesV x) ∧ x.length ≤ c ∧ Below w.heap.size w w'
set_option maxHeartbeats 8000000 in
set_option maxRecDepth 200000 in
theorem fread_any (S : Nat → Prop) (A : Option Addr) (cap : Nat) (l : List UInt8) (w : World) (hr : Rd w S 1 A l.length (bytesV l)) (hc : l.length ≤ cap) (hl : l.length ≤ 100000) (hS : ∀ b, S b → b < w.heap.size) :
    Calls Tryz.prog 48 #[.slice A l.length cap] w fun e w' => ReadFP w w' (withinR l) e := by
  have Hr := hide hr
  have Hc := hide hc
  have HS := hide hS
  have Hlen := hide (flen_any S A cap l w hr hc hl)
  have hli : (l.length : Int) ≤ 100000 := by omega
  obtain ⟨n, hn⟩ : ∃ n, n = (lenF l).1 := ⟨_, rfl⟩
  obtain ⟨bad, hb⟩ : ∃ b, b = (lenF l).2 := ⟨_, rfl⟩
  have hnb := lenF_two l
  have hge := lenF_ge l
  have Hwi := hide (show withinR l = if bad ≠ 0 then [] else if l.length < n then [] else if ((shaL (l.take (n - 4))).take 4 == (l.drop (n - 4)).take 4) = false then [] else (l.take (n - 4)).drop 8 by rw [withinR, ← hn, ← hb])
  rw [← hn, ← hb] at Hlen hnb
  rw [← hn, ← hb] at hge
  obtain ⟨hnb1, hnb2⟩ := hnb
  have Hge := hide hge
  have hn0 : (0 : Int) ≤ (n : Int) := Int.natCast_nonneg _
  have hn1 : (n : Int) ≤ 65548 := by omega
  clear hr hc hS hn hb hge
  have fin : ∀ w2, Below w.heap.size w w2 → ∀ k m x : Int, withinR l = [] → ReadFP w w2 (withinR l) (.returned (.tuple #[.int .i64 k, .slice none 0 0, .int .i64 m, .int .i64 x])) := fun w2 hb k m x he => by
    rw [he]
    exact ⟨k, m, x, none, 0, rfl, Rd.nil _ _ _ _, Nat.le_refl _, hb⟩
  have Fin := hide fin
  clear fin
  by_cases hbad : bad = 0
  · subst hbad
    have hge2 := Hge.out rfl
    by_cases hlt : l.length < n
    · have Hw2 := hide (show withinR l = [] by rw [Hwi.out, if_neg (by simp), if_pos hlt])
      have hd1 : decide ((l.length : Int) < (n : Int)) = true := by simp; omega
      have hd2 : decide (l.length < n) = true := by simpa using hlt
      clear hlt
      go_enter Tryz.func48, Tryz.ntmps48
      go_wp2_with (first
        | (go_at_call 47; ((with_reducible refine Hlen.out.mono ?_)); rintro e w5 ⟨rfl, hb5⟩; have Hb5 := hide hb5; clear hb5)
        | fail)
      refine bodyPost_ret (results_four rfl _ _ _) rfl ?_
      exact Fin.out _ Hb5.out _ _ _ Hw2.out
    · have hd1 : decide ((l.length : Int) < (n : Int)) = false := by simp; omega
      have hd2 : decide (l.length < n) = false := by simpa using hlt
      obtain ⟨b, off, hA, _, hbl, hrc⟩ := Hr.out.at_ (by omega)
      subst hA
      obtain ⟨q, hq⟩ : ∃ q, q = n - 4 := ⟨_, rfl⟩
      have hnq : ((n : Int) - 4) = (q : Int) := by omega
      have hqc : q < cap := by have := Hc.out; omega
      have Hl1 := hide (show ((shaL (l.take q)).take 4).length = 4 by rw [List.length_take, shaL_length]; rfl)
      have Hl2 := hide (show ((l.drop q).take 4).length = 4 by rw [List.length_take, List.length_drop]; omega)
      have hlq : (l.take q).length = q := by rw [List.length_take]; omega
      have Hck := hide (show ∀ w', Below w.heap.size w w' → Calls Tryz.prog 46 #[.slice (some ⟨b, off, none⟩) q cap] w' fun e w'' => ∃ g, e = .returned (.slice (some ⟨g, 0, none⟩) 4 32) ∧ Rd w'' (fun i => w'.heap.size ≤ i) 1 (some ⟨g, 0, none⟩) 4 (bytesV ((shaL (l.take q)).take 4)) ∧ w'.heap.size ≤ g ∧ Below w'.heap.size w' w'' from fun w' hb => by
        have h1 := (Hr.out.keep (Keep.of_none hb) (fun _ _ _ f => f)).take (k := q) (by omega)
        have e : (bytesV l).take (q * 1) = bytesV (l.take q) := by simp [bytesV, List.map_take]
        rw [e] at h1
        have h2 := check_any S (some ⟨b, off, none⟩) cap (l.take q) w' (by rw [hlq]; exact h1) (by rw [hlq]; omega) (by rw [hlq]; omega) (fun i hi => by have h3 := HS.out i hi; have h4 := hb.size; omega)
        rw [hlq] at h2
        exact h2)
      have Hrd2 := hide (show ∀ w', Below w.heap.size w w' → Rd w' S 1 (some ⟨b, off + q, none⟩) 4 (bytesV ((l.drop q).take 4)) from fun w' hb => by
        have h1 := (Hr.out.keep (Keep.of_none hb) (fun _ _ _ f => f)).drop (k := q) (by omega) (A' := some ⟨b, off + q, none⟩) (fun b' of he _ => by cases he; rw [Nat.mul_one])
        have h2 := h1.take (k := 4) (by omega)
        have e : ((bytesV l).drop (q * 1)).take (4 * 1) = bytesV ((l.drop q).take 4) := by simp [bytesV, List.map_drop, List.map_take]
        rw [e] at h2
        exact h2)
      have hs1 : ∀ w', (Instr.slice 28 (.slice (some ⟨b, off, none⟩) l.length cap) none (some (.int .i64 (q : Int))) none).run Tryz.prog w' = .ok (.slice (some ⟨b, off, none⟩) q cap) w' := fun w' => run_slice_head Tryz.underlying28 (by kernel_rfl) _ _ _ q (by omega) _ rfl w'
      have hs2 : ∀ w', (Instr.slice 28 (.slice (some ⟨b, off, none⟩) l.length cap) (some (.int .i64 (q : Int))) (some (.int .i64 (n : Int))) none).run Tryz.prog w' = .ok (.slice (some ⟨b, off + q, none⟩) 4 (cap - q)) w' := fun w' => by
        have h1 := run_slice_part (P := Tryz.prog) (t := 28) Tryz.underlying28 (by kernel_rfl) b off l.length cap q n (by omega) (by have := Hc.out; omega) hqc (q : Int) (n : Int) rfl rfl w'
        rw [show n - q = 4 by omega] at h1
        exact h1
      have hn4 : n = q + 4 := by omega
      obtain ⟨ev, hev⟩ : ∃ ev, ((shaL (l.take q)).take 4 == (l.drop q).take 4) = ev := ⟨_, rfl⟩
      have Hev := hide hev
      have Hwi2 := hide (show withinR l = if ev = false then [] else (l.take q).drop 8 by rw [Hwi.out, if_neg (by simp), if_neg hlt, ← hq, hev])
      clear hev
      have Hnq := hide (show n = q + 4 ∧ n ≤ l.length ∧ 8 ≤ q by omega)
      have Hbl := hide hbl
      clear hq hrc hbl hn4 hlq hge2 hlt
      go_enter Tryz.func48, Tryz.ntmps48
      go_upto_region 6 with (first
        | (go_at_call 47; ((with_reducible refine Hlen.out.mono ?_)); rintro e w5 ⟨rfl, hb5⟩; have Hb5 := hide hb5; clear hb5)
        | fail)
      obtain ⟨C, hC⟩ : ∃ C : World → Prop, C = Below w5.heap.size w5 := ⟨_, rfl⟩
      have HCe := hide hC
      have HC0 := hide (show C w5.drew by rw [hC]; exact (Below.refl _ _).drew)
      haveI : Nonempty (Wl C) := ⟨⟨_, HC0.out⟩⟩
      clear hC
      refine wp_region_mix C (by kernel_rfl) (by kernel_rfl) ?_
      refine Mixed.batch [0, 1, 2, 3, 5, 6, 7, 8, 9] 4 (by kernel_rfl) (by kernel_rfl) (by kernel_rfl) (by kernel_rfl) HC0.out _ (by simp only [List.map_cons, List.map_nil, List.getElem?_toArray, List.getElem?_cons_zero, List.getElem?_cons_succ, Option.getD_some]; rfl) (fun R hR => ?_)
      repeat (first | go_big_quiet_skip | (go_big_quiet_want; first
        | (go_big_quiet_op; go_big_quiet_on)))
      refine wpQuiet_nil (hR.out _ ?_)
      clear hR R
      refine Mixed.one 4 3 (by kernel_rfl) (by kernel_rfl) (by simp only [List.getElem?_toArray, List.getElem?_cons_zero, List.getElem?_cons_succ]; rfl) (fun K hK => ?_)
      go_simp
      go_at_call 46
      refine (Hck.out w5.drew (Hb5.out.drew)).mono ?_
      rintro e w7 ⟨g, rfl, hr7, hg7, hb7⟩
      have Hr7 := hide hr7
      have Hb7 := hide (below_undrew hb7)
      have HC7 := hide (show C w7 by have h9 := HCe.out; rw [h9]; exact below_undrew hb7)
      clear hr7 hg7 hb7
      refine hK.out _ _ (fun _ => HC7.out) ?_
      clear hK K
      try simp only [Act.put, List.setIfInBounds_toArray, List.set_cons_zero, List.set_cons_succ]
      refine Mixed.one 10 2 (by kernel_rfl) (by kernel_rfl) (by simp only [List.getElem?_toArray, List.getElem?_cons_zero, List.getElem?_cons_succ]; rfl) (fun K hK => ?_)
      go_simp
      go_at_call 22
      refine (bequal_b ((shaL (l.take q)).take 4) ((l.drop q).take 4) ev Hl1.out.symm Hl2.out.symm Hev.out Hr7.out (Hrd2.out w7 (Hb5.out.trans (Below.mono Hb7.out Hb5.out.size)))).mono ?_
      rintro e w8 ⟨rfl, rfl⟩
      refine hK.out _ _ (fun _ => HC7.out) ?_
      clear hK K
      try simp only [Act.put, List.setIfInBounds_toArray, List.set_cons_zero, List.set_cons_succ]
      refine Mixed.batch [11, 12] 0 (by kernel_rfl) (by kernel_rfl) (by kernel_rfl) (by kernel_rfl) HC7.out _ (by simp only [List.map_cons, List.map_nil, List.getElem?_toArray, List.getElem?_cons_zero, List.getElem?_cons_succ, Option.getD_some]; rfl) (fun R hR => ?_)
      repeat (first | go_big_quiet_skip | (go_big_quiet_want; first
        | (go_big_quiet_op; go_big_quiet_on)))
      refine wpQuiet_nil (hR.out _ ?_)
      clear hR R
      refine Mixed.done (by kernel_rfl) ?_
      rcases hevv : ev with _ | _
      · have Hw2 := hide (show withinR l = [] by rw [Hwi2.out, hevv, if_pos rfl])
        subst hevv
        go_wp2_with (fail)
        refine bodyPost_ret (results_four rfl _ _ _) rfl ?_
        exact Fin.out _ (Hb5.out.trans (Hb7.out.mono Hb5.out.size)) _ _ _ Hw2.out
      · have Hw2 := hide (show withinR l = (l.take q).drop 8 by rw [Hwi2.out, hevv, if_neg (by decide)])
        subst hevv
        have Hbw := hide (Hb5.out.trans (Hb7.out.mono Hb5.out.size))
        obtain ⟨x, hx⟩ : ∃ x, x = (l.take q).drop 8 := ⟨_, rfl⟩
        have hxl : x.length = q - 8 := by rw [hx, List.length_drop, List.length_take]; have := Hnq.out; omega
        have Hrx := hide (show Rd w7 S 1 (some ⟨b, off + 8, none⟩) (q - 8) (bytesV x) from by
          have h1 := (Hr.out.keep (Keep.of_none Hbw.out) (fun _ _ _ f => f)).drop (k := 8) (by have := Hnq.out; omega) (A' := some ⟨b, off + 8, none⟩) (fun b' of he _ => by cases he; rfl)
          have h2 := h1.take (k := q - 8) (by have := Hnq.out; omega)
          have e : ((bytesV l).drop (8 * 1)).take ((q - 8) * 1) = bytesV x := by rw [hx]; simp [bytesV, List.map_drop, List.map_take, List.drop_take]
          rw [e] at h2
          exact h2)
        have Hx := hide hx
        have Hxl := hide hxl
        have hs3 : ∀ w', (Instr.slice 28 (.slice (some ⟨b, off, none⟩) l.length cap) (some (.int .i64 8)) (some (.int .i64 (q : Int))) none).run Tryz.prog w' = .ok (.slice (some ⟨b, off + 8, none⟩) (q - 8) (cap - 8)) w' := fun w' =>
          run_slice_part (P := Tryz.prog) (t := 28) Tryz.underlying28 (by kernel_rfl) b off l.length cap 8 q (by have := Hnq.out; omega) (by omega) (by have := Hnq.out; omega) (8 : Int) (q : Int) rfl rfl w'
        have hl3 : (3 : Int) < (l.length : Int) := by have := Hnq.out; omega
        obtain ⟨v3, c3⟩ : ∃ c : UInt8, w7.cell? ⟨b, off + 3, none⟩ = some (.int .u8 c.toNat) := by
          obtain ⟨b', off', he, _, _, hcc⟩ := (Hr.out.keep (Keep.of_none Hbw.out) (fun _ _ _ f => f)).at_ (by omega)
          cases he
          have hl3n : 3 < l.length := by omega
          exact ⟨l[3], by rw [hcc 3 (by omega), bytesV, List.getElem?_map, List.getElem?_eq_getElem hl3n]; rfl⟩
        have C3 := hide c3
        clear hx hxl hs1 hs2
        go_upto_region 9 with (first
          | (go_at_call 36; ((with_reducible refine (bclone_b x Hxl.out.symm Hrx.out (by omega)).mono ?_)); rintro e w8 hcl; obtain ⟨A8, c8, rfl, hown8, hb8⟩ := hcl; have Hown8 := hide hown8; have Hb8 := hide hb8; clear hown8 hb8)
          | fail)
        have c3 : w8.cell? ⟨b, off + 3, none⟩ = some (.int .u8 v3.toNat) := (Hb8.out.cell (p := ⟨b, off + 3, none⟩) (World.block_lt_of_cell? w7 _ C3.out)).trans C3.out
        have hs4 : ∀ w', (Instr.slice 28 (.slice A8 x.length c8) none (some (.int .i64 (x.length : Int))) (some (.int .i64 (x.length : Int)))).run Tryz.prog w' = .ok (.slice A8 x.length x.length) w' := fun w' => run_slice_cap Tryz.underlying28 (by kernel_rfl) A8 x.length c8 (own_caps Hown8.out).1 w'
        clear hs3
        go_quiet (fail)
        go_wp2_with (fail)
        refine bodyPost_ret (results_four rfl _ _ _) rfl ?_
        refine ⟨_, _, _, A8, x.length, by rw [Hw2.out, ← Hx.out]; rfl, ?_, by rw [Hw2.out, ← Hx.out]; exact Nat.le_refl _, ?_⟩
        · rw [Hw2.out, ← Hx.out]
          exact ((own_rd Hown8.out).mono (fun i _ h => Nat.le_trans Hbw.out.size h)).drewN _
        · exact below_drewN (Hbw.out.trans (Hb8.out.mono Hbw.out.size)) _
  · have hbn : ((bad : Int) != 0) = true := by rw [bne_iff_ne]; omega
    have Hw2 := hide (show withinR l = [] by rw [Hwi.out, if_pos hbad])
    clear hbad
    go_enter Tryz.func48, Tryz.ntmps48
    go_wp2_with (first
      | (go_at_call 47; ((with_reducible refine Hlen.out.mono ?_)); rintro e w5 ⟨rfl, hb5⟩; have Hb5 := hide hb5; clear hb5)
      | fail)
    refine bodyPost_ret (results_four rfl _ _ _) rfl ?_
    exact Fin.out _ Hb5.out _ _ _ Hw2.out
end Go.Proofs.YtahhglhebcooaaaGreatDoor
