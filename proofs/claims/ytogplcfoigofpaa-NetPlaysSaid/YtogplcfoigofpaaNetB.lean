/- The functions of net, one by one: second half. -/
import Derived.Test.YtogplcfoigofpaaNetA
namespace Go.Proofs.Ytogplcfoigofpaa
open Go.RowKit Go.Cof

theorem Try.infoPk : (Try.prog.info? 27).map (fun i => (i.zero, i.size, i.bytes)) = some (some (.agg #[.int .i64 0, .int .i64 0, .slice none 0 0]), 3, 40) := by kernel_rfl

/-- A net at block b, with the packets l; its row is v; all its memory lies from B on. -/
structure NetAt (w : World) (B b : Nat) (v : Value) (l : List Pk) (xs : List Value) : Prop where
  obj : w.heap[b]? = some (.cells #[.bool true, v] 51 (0, 0))
  row : w.ownsRow B 27 3 v l.length xs
  els : Els (PkC w (fun i => B ≤ i ∧ i ≠ b ∧ v.ownBlock ≠ some i)) l xs
  few : l.length ≤ 256
  low : B ≤ b

/-- The blocks that a net may write. -/
def Foot (b : Nat) (v : Value) : Nat → Prop := fun i => i = b ∨ v.ownBlock = some i

section
variable {w w' : World} {B b : Nat} {v : Value} {l : List Pk} {xs : List Value}
theorem NetAt.lt (h : NetAt w B b v l xs) : b < w.heap.size := (Array.getElem?_eq_some_iff.1 h.obj).1
theorem NetAt.ne_row (h : NetAt w B b v l xs) : v.ownBlock ≠ some b := by
  rcases h.row.2 with ⟨hv, _⟩ | ⟨g, cap, cur, hv, _, hg, _⟩
  · rw [hv]; simp [Value.ownBlock]
  · rw [hv]
    intro e
    have e' : g = b := by simpa [Value.ownBlock] using e
    subst e'
    rw [h.obj] at hg
    simp at hg
theorem NetAt.keep {F : Nat → Prop} (h : NetAt w B b v l xs) (hk : Keep F w w') (hf : ∀ i, B ≤ i → i < w.heap.size → ¬ F i) : NetAt w' B b v l xs := by
  refine ⟨(hk.block b h.lt (hf b h.low h.lt)).trans h.obj, ?_, h.els.imp fun p c _ hp => PkC.keep hk (fun i hi hlt => hf i hi.1 hlt) p c hp, h.few, h.low⟩
  refine ⟨h.row.1, ?_⟩
  rcases h.row.2 with hn | ⟨g, cap, cur, rfl, hb, hg, r⟩
  · exact .inl hn
  · exact .inr ⟨g, cap, cur, rfl, hb, (hk.block g (Array.getElem?_eq_some_iff.1 hg).1 (hf g hb (Array.getElem?_eq_some_iff.1 hg).1)).trans hg, r⟩
theorem NetAt.below (h : NetAt w B b v l xs) (hk : Below w.heap.size w w') : NetAt w' B b v l xs := h.keep (Keep.of_none hk) (fun _ _ _ f => f)
theorem NetAt.alloc (h : NetAt w B b v l xs) (o : Obj) : NetAt (w.alloc o) B b v l xs := h.below ((Below.refl _ _).alloc (Nat.le_refl _) _)
theorem NetAt.drew (h : NetAt w B b v l xs) : NetAt w.drew B b v l xs := h.keep ((Keep.refl (fun _ => False) w).drew) (fun _ _ _ f => f)
theorem NetAt.c0 (h : NetAt w B b v l xs) : w.cell? ⟨b, 0, none⟩ = some (.bool true) := cell_of_row w b 0 _ _ _ h.obj
theorem NetAt.c1 (h : NetAt w B b v l xs) : w.cell? ⟨b, 1, none⟩ = some v := cell_of_row w b 1 _ _ _ h.obj
theorem NetAt.f1 (h : NetAt w B b v l xs) : w.frozen? ⟨b, 1, none⟩ = false := frozen_of_row w b 1 _ _ h.obj
/-- The row's value, written out. -/
theorem NetAt.form (h : NetAt w B b v l xs) : ∃ A cap, v = .slice A l.length cap ∧ Rd w (fun i => B ≤ i ∧ v.ownBlock = some i) 3 A l.length xs := by
  obtain ⟨A, cap, hv, hr⟩ := own_form h.row
  refine ⟨A, cap, hv, ⟨hr.len, fun hn => ?_⟩⟩
  obtain ⟨g, off, rfl, hs, hb, hc⟩ := hr.at_ hn
  exact ⟨g, off, rfl, ⟨hs, by rw [hv]; rfl⟩, hb, hc⟩
end

theorem new_net (w : World) (B : Nat) (hB : B ≤ w.heap.size) : NetAt (w.alloc (.cells #[.bool true, .slice none 0 0] 51)) B w.heap.size (.slice none 0 0) [] [] :=
  ⟨heap_alloc_new w _, World.ownsRow_nil _ _ _ _, rfl, by simp, hB⟩

set_option maxHeartbeats 400000 in
theorem may_in (b i n cap : Nat) (A : Option Addr) (w : World) (h0 : w.cell? ⟨b, 0, none⟩ = some (.bool true)) (h1 : w.cell? ⟨b, 1, none⟩ = some (.slice A n cap)) (hi : i < n) (_hn : n ≤ 256) :
    Calls Try.prog 23 #[.pointer (some ⟨b, 0, none⟩), .int .i64 i] w fun e w' => e = .returned (.int .i64 0) ∧ w = w' := by
  go_enter Try.func23, Try.ntmps23
  go_wp2
  go_ret
  exact ⟨rfl, rfl⟩

set_option maxHeartbeats 400000 in
theorem may_out (b n cap : Nat) (i : Int) (A : Option Addr) (w : World) (h0 : w.cell? ⟨b, 0, none⟩ = some (.bool true)) (h1 : w.cell? ⟨b, 1, none⟩ = some (.slice A n cap)) (hi : i < 0 ∨ n ≤ i) (_hn : n ≤ 256) :
    Calls Try.prog 23 #[.pointer (some ⟨b, 0, none⟩), .int .i64 i] w fun e w' => e = .returned (.int .i64 13) ∧ w = w' := by
  rcases hi with hi | hi
  all_goals
   go_enter Try.func23, Try.ntmps23
   go_wp2
   go_ret
   exact ⟨rfl, rfl⟩

/-- What At and Take tell of a packet. -/
def Told (w w' : World) (p : Pk) (e : Ending) : Prop :=
  ∃ A cap, e = .returned (.tuple #[.agg #[.int .i64 p.f, .int .i64 p.t, .slice A p.b.length cap], .int .i64 0]) ∧ Rd w' (fun i => w.heap.size ≤ i) 1 A p.b.length (bytesV p.b)

set_option maxHeartbeats 400000 in
theorem at_in (w : World) (B b : Nat) (v : Value) (l : List Pk) (xs : List Value) (hN : NetAt w B b v l xs) (i : Nat) (hi : i < l.length) :
    Calls Try.prog 18 #[.pointer (some ⟨b, 0, none⟩), .int .i64 i] w fun e w' => Told w w' l[i] e ∧ Below w.heap.size w w' := by
  obtain ⟨A, cap, rfl, hr⟩ := hN.form
  have h0 := hN.c0
  have h1 := hN.c1
  have hf := hN.few
  have hbl := hN.lt
  obtain ⟨c, hc, _, hx⟩ := hN.els.get (fun p c => PkC.len p c) hi
  obtain ⟨B', cap', rfl, hrp, hlp⟩ := hc
  obtain ⟨g, off, rfl, _, hgl, hcell⟩ := hr.at_ (by omega)
  have c0 := ((hcell (i * 3) (by omega)).trans (hx 0 (by omega)))
  have c1 := ((hcell (i * 3 + 1) (by omega)).trans (hx 1 (by omega)))
  have c2 := ((hcell (i * 3 + 2) (by omega)).trans (hx 2 (by omega)))
  simp only [List.getElem?_cons_zero, List.getElem?_cons_succ, ← Nat.add_assoc] at c0 c1 c2
  have Hrp := hide hrp
  clear hcell hx hr hN hrp
  go_enter Try.func18, Try.ntmps18
  go_wp2_with (first | (go_at_call 23; refine (may_in _ i _ _ _ _ ((World.cell?_alloc_lt _ _ _ hbl).trans h0) ((World.cell?_alloc_lt _ _ _ hbl).trans h1) hi hf).mono ?_; rintro e w1 ⟨rfl, rfl⟩) | (go_at_call 22; refine (clone_any _ _ _ _ _ ((Hrp.out.alloc _).alloc _) hlp).mono ?_; rintro e w1 ⟨A2, cap2, rfl, hR, hb1⟩; obtain ⟨hcc, hff⟩ := rules hb1))
  have hsz : w.heap.size + 1 + 1 ≤ w1.heap.size := by have := hb1.size; simpa using this
  have q0 : w1.cell? ⟨w.heap.size, 0, none⟩ = some (.int .i64 0) := by rw [hcc _ _ (by simp; omega)]; simp
  have q1 : w1.cell? ⟨w.heap.size, 1, none⟩ = some (.int .i64 0) := by rw [hcc _ _ (by simp; omega)]; simp
  have q2 : w1.cell? ⟨w.heap.size, 2, none⟩ = some (.slice none 0 0) := by rw [hcc _ _ (by simp; omega)]; simp
  refine bodyPost_ret (v := .tuple #[.agg #[.int .i64 l[i].f, .int .i64 l[i].t, .slice A2 l[i].b.length cap2], .int .i64 0]) (by simp [results, Try.results18, go_sem, q0, q1, q2]) rfl ⟨⟨A2, cap2, rfl, ?_⟩, ?_⟩
  · refine ((((hR.setCell ?_ _).setCell ?_ _).setCell ?_ _).setCell ?_ _).mono ?_
    all_goals (intro k hk hk'; simp at *; omega)
  · refine Below.setCell (Below.setCell (Below.setCell (Below.setCell ((((Below.refl _ _).alloc (Nat.le_refl _) _).alloc (by simp) _).trans (hb1.mono (by simp; omega))) ?_ _) ?_ _) ?_ _) ?_ _
    all_goals (simp)

set_option maxHeartbeats 400000 in
theorem at_out (w : World) (B b : Nat) (v : Value) (l : List Pk) (xs : List Value) (hN : NetAt w B b v l xs) (i : Int) (hi : i < 0 ∨ l.length ≤ i) :
    Calls Try.prog 18 #[.pointer (some ⟨b, 0, none⟩), .int .i64 i] w fun e w' => e = .returned (.tuple #[.agg #[.int .i64 0, .int .i64 0, .slice none 0 0], .int .i64 13]) ∧ Below w.heap.size w w' := by
  obtain ⟨A, cap, rfl, hr⟩ := hN.form
  have h0 := hN.c0
  have h1 := hN.c1
  have hf := hN.few
  have hbl := hN.lt
  clear hr hN
  go_enter Try.func18, Try.ntmps18
  go_wp2_with (go_at_call 23; refine (may_out _ _ _ i _ _ ((World.cell?_alloc_lt _ _ _ hbl).trans h0) ((World.cell?_alloc_lt _ _ _ hbl).trans h1) hi hf).mono ?_; rintro e w1 ⟨rfl, rfl⟩)
  refine bodyPost_ret (v := .tuple #[.agg #[.int .i64 0, .int .i64 0, .slice none 0 0], .int .i64 13]) (by simp [results, Try.results18, go_sem]) rfl ⟨rfl, ?_⟩
  exact (Below.refl _ _).alloc (Nat.le_refl _) _

/-- A packet is out, the others have closed up. -/
theorem take_shut {w w' : World} {B b g cap i m : Nat} {l : List Pk} {xs cur : List Value} (hN : NetAt w B b (.slice (some ⟨g, 0, none⟩) l.length cap) l xs)
    (hi : i < l.length) (hm : m = l.length - (i + 1)) (hk : Keep (Foot b (.slice (some ⟨g, 0, none⟩) l.length cap)) w w') (hcur : cur.length = cap * 3) (htk : cur.take (l.length * 3) = xs) (hBg : B ≤ g) (hnc : l.length ≤ cap) (hcm : cap ≤ maxLen)
    (ho : w'.heap[b]? = some (.cells #[.bool true, .slice (some ⟨g, 0, none⟩) (i + m) cap] 51 (0, 0)))
    (hg : w'.heap[g]? = some (.cells (over cur (i * 3) (xs.drop ((i + 1) * 3))).toArray 27 (0, 0))) :
    NetAt w' B b (.slice (some ⟨g, 0, none⟩) (i + m) cap) (l.eraseIdx i) (xs.take (i * 3) ++ xs.drop ((i + 1) * 3)) := by
  have hl : (l.eraseIdx i).length = i + m := by rw [List.length_eraseIdx_of_lt hi]; omega
  have hxl := hN.row.1
  have e1 : l.eraseIdx i = l.take i ++ l.drop (i + 1) := List.eraseIdx_eq_take_drop_succ l i
  have hels : Els (PkC w' (fun k => B ≤ k ∧ k ≠ b ∧ (Value.slice (some ⟨g, 0, none⟩) (i + m) cap).ownBlock ≠ some k)) (l.eraseIdx i) (xs.take (i * 3) ++ xs.drop ((i + 1) * 3)) := by
    rw [e1]
    refine ((hN.els.take PkC.len i).append (hN.els.drop PkC.len (i + 1))).imp fun p c _ hp => ?_
    refine PkC.keep hk (fun k hk1 _ hf => ?_) p c (PkC.mono (fun k _ h => h) p c hp)
    rcases hf with rfl | hf
    · exact hk1.2.1 rfl
    · exact hk1.2.2 hf
  refine ⟨ho, ?_, hels, by rw [hl]; have := hN.few; omega, hN.low⟩
  rw [hl]
  refine ⟨by rw [List.length_append, List.length_take, List.length_drop, hxl]; omega, .inr ⟨g, cap, _, rfl, hBg, hg, by omega, hcm, ?_, ?_⟩⟩
  · rw [List.size_toArray, over_length _ _ _ (by rw [List.length_drop, hxl, hcur]; omega), hcur]
  · have e2 : cur.take (i * 3) = xs.take (i * 3) := by rw [← htk, List.take_take, Nat.min_eq_left (by omega)]
    rw [over, e2, ← List.append_assoc, List.take_left' (by rw [List.length_append, List.length_take, List.length_drop, hxl]; omega)]

/-- What Take leaves. -/
def Taken (w w' : World) (B b : Nat) (v : Value) (l : List Pk) (i : Nat) (p : Pk) (e : Ending) : Prop :=
  Told w w' p e ∧ (∃ v' xs', NetAt w' B b v' (l.eraseIdx i) xs' ∧ v'.ownBlock = v.ownBlock) ∧ Keep (Foot b v) w w'

set_option maxHeartbeats 800000 in
theorem take_in (w : World) (B b : Nat) (v : Value) (l : List Pk) (xs : List Value) (hN : NetAt w B b v l xs) (i : Nat) (hi : i < l.length) :
    Calls Try.prog 9 #[.pointer (some ⟨b, 0, none⟩), .int .i64 i] w fun e w' => Taken w w' B b v l i l[i] e := by
  have hne := hN.ne_row
  have hat := at_in (w.alloc (.cells #[.int .i64 0, .int .i64 0, .slice none 0 0] 27)) B b v l xs (hN.alloc _) i hi
  obtain ⟨A, cap, hv, hr⟩ := hN.form
  obtain ⟨g, cap', cur, hv', hBg, hg, hnc, hcm, hcs, htk⟩ : ∃ g cap cur, v = .slice (some ⟨g, 0, none⟩) l.length cap ∧ B ≤ g ∧ w.heap[g]? = some (.cells cur 27 (0, 0)) ∧ l.length ≤ cap ∧ cap ≤ maxLen ∧ cur.size = cap * 3 ∧ cur.toList.take (l.length * 3) = xs := by
    rcases hN.row.2 with ⟨_, h⟩ | h
    · omega
    · exact h
  subst hv'
  obtain ⟨rfl, rfl⟩ : A = some ⟨g, 0, none⟩ ∧ cap = cap' := by simpa using hv.symm
  clear hv
  have h0 := hN.c0
  have h1 := hN.c1
  have hf := hN.few
  have hbl := hN.lt
  have Hat := hide hat
  have hrow := hN.row
  have HN := hide hN
  have Hcl := hide (show cur.toList.length = cap * 3 by rw [Array.length_toList]; exact hcs)
  have hfz := hN.f1
  have Hone := hide (Els_one (fun p c => PkC.one p c) hN.els)
  clear hat hr hN
  go_enter Try.func9, Try.ntmps9
  go_wp2_with (go_at_call 18; refine Hat.out.mono ?_; rintro e w1 ⟨⟨A2, cap2, rfl, hR⟩, hb1⟩; obtain ⟨hcc, hff⟩ := rules hb1)
  have hbw : b < w1.heap.size := by have := hb1.size; simp at this; omega
  have hgl : g < w.heap.size := (Array.getElem?_eq_some_iff.1 hg).1
  have hgw : g < w1.heap.size := by have := hb1.size; simp at this; omega
  have k1 := ((Keep.step ((Keep.refl (fun _ => False) w).alloc _) (Keep.of_none hb1) (fun _ f _ => f)).cell (p := ⟨b, 1, none⟩) hbl (fun f => f)).trans h1
  have hnei : ¬ cap = i := by omega
  have s1 : i ≤ l.length := by omega
  have s2 : IntKind.i64.wrap ((i : Int) + 1) = (i : Int) + 1 := by exact IntWalk.i64_in _ (by omega)
  have s3 : 0 ≤ (i : Int) + 1 := by omega
  have s4 : ((i : Int) + 1).toNat = i + 1 := by omega
  have s5 : (i : Int) + 1 ≤ l.length := by omega
  have hO : ∃ O : Obj, O = .cells #[.int .i64 l[i].f, .int .i64 l[i].t, .slice A2 l[i].b.length cap2] 27 := ⟨_, rfl⟩
  have hgW : ∀ O : Obj, (w1.alloc O).heap[g]? = some (.cells cur.toList.toArray 27 (0, 0)) := fun O => by
    rw [Below.heap_alloc _ _ _ hgw, hb1.block g (by simp; omega), Below.heap_alloc _ _ _ hgl, hg, Array.toArray_toList]
  have hxl : xs.length = l.length * 3 := hrow.1
  have hsrc : ∀ (O : Obj) (j : Nat) (u : Value), (xs.drop ((i + 1) * 3))[j]? = some u → (w1.alloc O).cell? ((⟨g, (i + 1) * 3, none⟩ : Addr).add j) = some u := fun O j u hu => by
    have hadd : (⟨g, (i + 1) * 3, none⟩ : Addr).add j = ⟨g, (i + 1) * 3 + j, none⟩ := by unfold Addr.add; split <;> simp_all
    rw [hadd, cell_of_row _ g _ _ _ _ (hgW O)]
    rw [List.getElem?_drop, ← htk, List.getElem?_take] at hu
    split at hu
    · simpa using hu
    · cases hu
  have Hpos := hide (show ∀ (O : Obj) (sp : Option Addr), (¬ cap = i + 1 → sp = some ⟨g, (i + 1) * 3, none⟩) → 0 < (xs.drop ((i + 1) * 3)).length → some (⟨g, i * 3, none⟩ : Addr) = some ⟨g, i * 3, none⟩ ∧ ∃ ad, sp = some ad ∧ ∀ j v, (xs.drop ((i + 1) * 3))[j]? = some v → (w1.alloc O).cell? (ad.add j) = some v from
    fun O sp hsp hp => ⟨rfl, _, hsp (by rw [List.length_drop, hxl] at hp; omega), hsrc O⟩)
  obtain ⟨m, hm⟩ : ∃ m, m = l.length - (i + 1) := ⟨_, rfl⟩
  have Hm := hide hm
  have Hnn := hide (show Nat.min (l.length - (i + 1)) (l.length - i) = m by rw [hm]; exact Nat.min_eq_left (by omega))
  have Hn := hide (show (xs.drop ((i + 1) * 3)).length = m * 3 by
    rw [List.length_drop, hxl, hm, Nat.sub_mul])
  have s6 : m ≤ 256 := by omega
  have s7 : i + m ≤ cap := by omega
  have s8 : i ≤ 256 := by omega
  have s9 : IntKind.i64.wrap ((i : Int) + (m : Int)) = (i : Int) + m := by exact IntWalk.i64_in _ (by omega)
  clear hm
  have Hfit := hide (show i * 3 + (xs.drop ((i + 1) * 3)).length ≤ cur.toList.length by
    have e : cur.toList.length = cap * 3 := by rw [Array.length_toList]; exact hcs
    rw [List.length_drop, hxl, e]; omega)
  have H1 := hide (show ∀ v ∈ xs.drop ((i + 1) * 3), v.oneCell' = true from fun v hv => Hone.out v (List.mem_of_mem_drop hv))
  have HgW := hide hgW
  clear hxl hsrc hgW hO hrow
  rcases Decidable.em (cap = i + 1) with rfl | he
  all_goals
    go_region_law (refine step_copy_sz _ rfl (.tmp 23) (.tmp 30) 22 22 rfl 27 3 Try.underlying22 (by kernel_rfl) (by decide) _ _ _ _ _ _ rfl rfl g (i * 3) cur.toList 27 (show _ = _ from HgW.out _) (xs.drop ((i + 1) * 3)) m (by first | exact Hnn.out | (rw [← Hnn.out]; congr 1; omega)) (by exact Hn.out) (by exact Hpos.out _ _ (by intro h; first | exact absurd rfl h | rfl)) Hfit.out H1.out ?_; intro w2 hg2 hk2)
  all_goals
    have hbg : ¬ b = g := fun e => hne (by rw [e]; rfl)
    have K2 : Keep (· = g) w w2 := ((((Keep.refl _ w).alloc _).step (Keep.of_none hb1) (fun _ f _ => f.elim)).alloc _).drew.step hk2 (fun _ f _ => f)
    have k2 := (K2.cell (p := ⟨b, 1, none⟩) hbl hbg).trans h1
    have f2 := (K2.frozen (p := ⟨b, 1, none⟩) hbl hbg).trans hfz
    obtain ⟨hcc2, hff2⟩ := hk2.cells
    have g1 : ¬ w.heap.size = g := by omega
    have g2 : ¬ w1.heap.size = g := by omega
    have g3 : w.heap.size < w1.heap.size := by have := hb1.size; simp at this; omega
    go_wp2
    have K3 : Keep (· = g) (w.alloc (.cells #[.int .i64 0, .int .i64 0, .slice none 0 0] 27)) w2 := (((Keep.refl _ _).step (Keep.of_none hb1) (fun _ f _ => f.elim)).alloc _).drew.step hk2 (fun _ f _ => f)
    have KF : ∀ c, Keep (Foot b (.slice (some ⟨g, 0, none⟩) l.length c)) w w2 := fun c => K2.mono (fun k _ h => Or.inr (by rw [h]; rfl))
    have q0 : w2.cell? ⟨w.heap.size, 0, none⟩ = some (.int .i64 0) := (K3.cell (p := ⟨w.heap.size, 0, none⟩) (by simp) g1).trans (by simp)
    have q1 : w2.cell? ⟨w.heap.size, 1, none⟩ = some (.int .i64 0) := (K3.cell (p := ⟨w.heap.size, 1, none⟩) (by simp) g1).trans (by simp)
    have q2 : w2.cell? ⟨w.heap.size, 2, none⟩ = some (.slice none 0 0) := (K3.cell (p := ⟨w.heap.size, 2, none⟩) (by simp) g1).trans (by simp)
    refine bodyPost_ret (v := .tuple #[.agg #[.int .i64 l[i].f, .int .i64 l[i].t, .slice A2 l[i].b.length cap2], .int .i64 0]) (by simp [results, Try.results9, go_sem, q0, q1, q2]) rfl ⟨⟨A2, cap2, rfl, ?_⟩, ⟨_, _, take_shut HN.out hi Hm.out ?_ Hcl.out htk hBg hnc hcm ?_ ?_, rfl⟩, ?_⟩
    · refine (((((hR.alloc _).drew.keep hk2 ?_).setCell ?_ _).setCell ?_ _).setCell ?_ _).setCell ?_ _ |>.mono ?_
      all_goals (intro k hk hk'; simp at *; omega)
    · exact Keep.setCell (Keep.setCell (Keep.setCell (Keep.setCell (KF _) (p := ⟨b, 1, none⟩) (fun _ => Or.inl rfl) _) (p := ⟨w.heap.size, 0, none⟩) (fun h => absurd h (Nat.lt_irrefl _)) _) (p := ⟨w.heap.size, 1, none⟩) (fun h => absurd h (Nat.lt_irrefl _)) _) (p := ⟨w.heap.size, 2, none⟩) (fun h => absurd h (Nat.lt_irrefl _)) _
    · rw [Below.heap_setCell _ _ _ _ (by simp; omega), Below.heap_setCell _ _ _ _ (by simp; omega), Below.heap_setCell _ _ _ _ (by simp; omega), heap_setCell_same _ _ _ _ _ _ ((K2.block b hbl hbg).trans HN.out.obj)]
      rfl
    · rw [Below.heap_setCell _ _ _ _ (by simp; omega), Below.heap_setCell _ _ _ _ (by simp; omega), Below.heap_setCell _ _ _ _ (by simp; omega), Below.heap_setCell _ _ _ _ (by simp; omega)]
      exact hg2.out
    · exact Keep.setCell (Keep.setCell (Keep.setCell (Keep.setCell (KF _) (p := ⟨b, 1, none⟩) (fun _ => Or.inl rfl) _) (p := ⟨w.heap.size, 0, none⟩) (fun h => absurd h (Nat.lt_irrefl _)) _) (p := ⟨w.heap.size, 1, none⟩) (fun h => absurd h (Nat.lt_irrefl _)) _) (p := ⟨w.heap.size, 2, none⟩) (fun h => absurd h (Nat.lt_irrefl _)) _

end Go.Proofs.Ytogplcfoigofpaa
