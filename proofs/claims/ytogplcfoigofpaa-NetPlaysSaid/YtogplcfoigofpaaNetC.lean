/- The functions of net, one by one: what is built of them. -/
import Derived.Test.YtogplcfoigofpaaNetB
namespace Go.Proofs.Ytogplcfoigofpaa
open Go.RowKit Go.Cof

/-- What Take, Drop and Copy leave where there is no such packet. -/
def None_ (w w' : World) (e : Ending) (v : Value) : Prop := e = .returned v ∧ Below w.heap.size w w'

set_option maxHeartbeats 400000 in
theorem take_out (w : World) (B b : Nat) (v : Value) (l : List Pk) (xs : List Value) (hN : NetAt w B b v l xs) (i : Int) (hi : i < 0 ∨ l.length ≤ i) :
    Calls Try.prog 9 #[.pointer (some ⟨b, 0, none⟩), .int .i64 i] w fun e w' => None_ w w' e (.tuple #[.agg #[.int .i64 0, .int .i64 0, .slice none 0 0], .int .i64 13]) := by
  have hat := at_out (w.alloc (.cells #[.int .i64 0, .int .i64 0, .slice none 0 0] 27)) B b v l xs (hN.alloc _) i hi
  have Hat := hide hat
  have hbl := hN.lt
  clear hat hN hi
  go_enter Try.func9, Try.ntmps9
  go_wp2_with (go_at_call 18; refine Hat.out.mono ?_; rintro e w1 ⟨rfl, hb1⟩; obtain ⟨hcc, hff⟩ := rules hb1; have g3 : w.heap.size < w1.heap.size := by (have := hb1.size; simp at this; omega))
  have K3 : Keep (fun _ => False) (w.alloc (.cells #[.int .i64 0, .int .i64 0, .slice none 0 0] 27)) w1 := Keep.of_none hb1
  have q0 : w1.cell? ⟨w.heap.size, 0, none⟩ = some (.int .i64 0) := (K3.cell (p := ⟨w.heap.size, 0, none⟩) (by simp) (fun f => f)).trans (by simp)
  have q1 : w1.cell? ⟨w.heap.size, 1, none⟩ = some (.int .i64 0) := (K3.cell (p := ⟨w.heap.size, 1, none⟩) (by simp) (fun f => f)).trans (by simp)
  have q2 : w1.cell? ⟨w.heap.size, 2, none⟩ = some (.slice none 0 0) := (K3.cell (p := ⟨w.heap.size, 2, none⟩) (by simp) (fun f => f)).trans (by simp)
  refine bodyPost_ret (v := .tuple #[.agg #[.int .i64 0, .int .i64 0, .slice none 0 0], .int .i64 13]) (by simp [results, Try.results9, go_sem, q0, q1, q2, g3]) rfl ⟨rfl, ?_⟩
  exact ((Keep.setCell (Keep.setCell (Keep.setCell (((Keep.refl (fun _ => False) w).alloc _).step K3 (fun _ f _ => f)) (p := ⟨w.heap.size, 0, none⟩) (fun h => absurd h (Nat.lt_irrefl _)) _) (p := ⟨w.heap.size, 1, none⟩) (fun h => absurd h (Nat.lt_irrefl _)) _) (p := ⟨w.heap.size, 2, none⟩) (fun h => absurd h (Nat.lt_irrefl _)) _).alloc _).none_below

/-- What Drop leaves. -/
def Dropped (w w' : World) (B b : Nat) (v : Value) (l : List Pk) : Prop := (∃ v' xs', NetAt w' B b v' l xs' ∧ v'.ownBlock = v.ownBlock) ∧ Keep (Foot b v) w w'

set_option maxHeartbeats 400000 in
theorem drop_in (w : World) (B b : Nat) (v : Value) (l : List Pk) (xs : List Value) (hN : NetAt w B b v l xs) (i : Nat) (hi : i < l.length) :
    Calls Try.prog 15 #[.pointer (some ⟨b, 0, none⟩), .int .i64 i] w fun e w' => e = .returned (.int .i64 0) ∧ Dropped w w' B b v (l.eraseIdx i) := by
  have Hat := hide (take_in w B b v l xs hN i hi)
  clear hN
  go_enter Try.func15, Try.ntmps15
  go_wp2_with (go_at_call 9; refine Hat.out.mono ?_; rintro e w1 ⟨⟨A2, cap2, rfl, _⟩, hR, hk⟩; have HR := hide hR; clear hR)
  go_ret
  obtain ⟨v', xs', hN', hv'⟩ := HR.out
  exact ⟨rfl, ⟨v', xs', hN'.alloc _, hv'⟩, hk.alloc _⟩

set_option maxHeartbeats 400000 in
theorem drop_out (w : World) (B b : Nat) (v : Value) (l : List Pk) (xs : List Value) (hN : NetAt w B b v l xs) (i : Int) (hi : i < 0 ∨ l.length ≤ i) :
    Calls Try.prog 15 #[.pointer (some ⟨b, 0, none⟩), .int .i64 i] w fun e w' => None_ w w' e (.int .i64 13) := by
  have Hat := hide (take_out w B b v l xs hN i hi)
  clear hN hi
  go_enter Try.func15, Try.ntmps15
  go_wp2_with (go_at_call 9; refine Hat.out.mono ?_; rintro e w1 ⟨rfl, hb1⟩)
  go_ret
  exact ⟨rfl, hb1.alloc hb1.size _⟩

set_option maxHeartbeats 400000 in
theorem len_any (w : World) (B b : Nat) (v : Value) (l : List Pk) (xs : List Value) (hN : NetAt w B b v l xs) :
    Calls Try.prog 11 #[.pointer (some ⟨b, 0, none⟩)] w fun e w' => e = .returned (.int .i64 l.length) ∧ w = w' := by
  obtain ⟨A, cap, rfl, hr⟩ := hN.form
  have h0 := hN.c0
  have h1 := hN.c1
  clear hN hr
  go_enter Try.func11, Try.ntmps11
  go_wp2
  go_ret
  exact ⟨rfl, rfl⟩

set_option maxHeartbeats 400000 in
theorem none_made (b : Nat) (w : World) (h0 : w.cell? ⟨b, 0, none⟩ = some (.bool true)) :
    Calls Try.prog 19 #[.pointer (some ⟨b, 0, none⟩)] w fun e w' => e = .returned (.bool false) ∧ w = w' := by
  go_enter Try.func19, Try.ntmps19
  go_wp2
  go_ret
  exact ⟨rfl, rfl⟩

/-- What Send leaves. -/
def Sent (w w' : World) (B b : Nat) (v : Value) (l : List Pk) : Prop :=
  ∃ v' xs', NetAt w' B b v' l xs' ∧ (v'.ownBlock = v.ownBlock ∨ ∀ g, v'.ownBlock = some g → w.heap.size ≤ g) ∧ Keep (Foot b v) w w'

/-- A packet more, behind all others. -/
theorem push_shut {W w3 : World} {B b : Nat} {v v3 : Value} {l : List Pk} {xs c : List Value} {p : Pk} (hN : NetAt W B b v l xs) (hown : w3.ownsRow B 27 3 v3 (l.length + 1) (xs ++ c))
    (hg : W.grownBy w3 v.ownBlock) (hat : v3.ownBlock = v.ownBlock ∨ v3.ownBlock = some W.heap.size) (hp : PkC W (fun i => B ≤ i ∧ i ≠ b ∧ v.ownBlock ≠ some i) p c) (hf : l.length + 1 ≤ 256) :
    NetAt (w3.setCell ⟨b, 1, none⟩ v3) B b v3 (l ++ [p]) (xs ++ c) ∧ Keep (Foot b v) W (w3.setCell ⟨b, 1, none⟩ v3) := by
  have hk : Keep (Foot b v) W (w3.setCell ⟨b, 1, none⟩ v3) := Keep.setCell ((Keep.refl (Foot b v) W).grown hg (fun k hk _ => Or.inr hk)) (p := ⟨b, 1, none⟩) (fun _ => Or.inl rfl) _
  have hb3 : w3.heap[b]? = some (.cells #[.bool true, v] 51 (0, 0)) := (hg.block b hN.lt (fun e => hN.ne_row e.symm)).trans hN.obj
  have hne3 : v3.ownBlock ≠ some b := by
    rcases hat with h | h
    · rw [h]; exact hN.ne_row
    · rw [h]; intro e; have := hN.lt; simp at e; omega
  refine ⟨⟨?_, ?_, ?_, by simpa using hf, hN.low⟩, hk⟩
  · rw [heap_setCell_same _ _ _ _ _ _ hb3]; rfl
  · rw [List.length_append, List.length_singleton]
    refine ⟨hown.1, ?_⟩
    rcases hown.2 with h | ⟨g, cap, cur, rfl, hB, hh, r⟩
    · exact .inl h
    · refine .inr ⟨g, cap, cur, rfl, hB, ?_, r⟩
      rw [Below.heap_setCell _ _ _ _ (fun e => hne3 (by rw [e]; rfl))]
      exact hh
  · have hall : Els (PkC W (fun i => B ≤ i ∧ i ≠ b ∧ v.ownBlock ≠ some i)) (l ++ [p]) (xs ++ c) := hN.els.append (Els.one hp)
    refine hall.imp fun q d _ hq => ?_
    have h1 := PkC.keep hk (fun i hi _ hf => by
      rcases hf with rfl | hf
      · exact hi.2.1 rfl
      · exact hi.2.2 hf) q d hq
    obtain ⟨A, cp, rfl, hr, hl⟩ := hq
    obtain ⟨A', cp', hd, hr', hl'⟩ := h1
    obtain ⟨_, _, hA⟩ : A = A' ∧ cp = cp' ∧ True := by simp at hd; exact ⟨hd.1, hd.2, trivial⟩
    refine ⟨A', cp', hd, ⟨hr'.len, fun hn => ?_⟩, hl'⟩
    obtain ⟨g, off, e, hs, hgl, hc⟩ := hr'.at_ hn
    obtain ⟨g2, off2, e2, _, hgl2, _⟩ := hr.at_ hn
    refine ⟨g, off, e, ⟨hs.1, hs.2.1, ?_⟩, hgl, hc⟩
    rcases hat with h | h
    · rw [h]; exact hs.2.2
    · rw [h]
      intro e3
      have : g = g2 := by subst e2; simp at hd; rw [← hd.1] at e; simp at e; exact e.1.symm
      simp at e3
      omega

set_option maxHeartbeats 800000 in
theorem send_fits (w : World) (B b : Nat) (v : Value) (l : List Pk) (xs : List Value) (hN : NetAt w B b v l xs)
    (A : Option Addr) (cap : Nat) (ps : List Pk) (S T : Nat → Prop) (ys : List Value) (hr : Rd w S 3 A ps.length ys) (hp : Els (PkC w T) ps ys) (hS : ∀ i, S i → ¬ Foot b v i) (hT : ∀ i, T i → ¬ Foot b v i)
    (hfew : l.length + ps.length ≤ 256) (hbig : ps.any Pk.big = false) :
    Calls Try.prog 7 #[.pointer (some ⟨b, 0, none⟩), .slice A ps.length cap] w fun e w' => e = .returned (.int .i64 0) ∧ Sent w w' B b v (l ++ ps) := by
  have hm : ps.length ≤ 140737488351232 := by omega
  obtain ⟨A0, cap0, hv, _⟩ := hN.form
  have h0 := hN.c0
  have h1 := hN.c1
  rw [hv] at h1
  have hbl := hN.lt
  have Hc := hide (contains_big A cap ps S T ys w hr hp hm)
  rw [hbig] at Hc
  have HN := hide hN
  have Hp := hide hp
  have Hv := hide hv
  clear hN hp hv hbig
  have hdec : decide (256 - (l.length : Int) < (ps.length : Int)) = false := by rw [decide_eq_false_iff_not]; omega
  go_enter Try.func7, Try.ntmps7
  go_wp2_with (first | (go_at_call 19; refine (none_made b w h0).mono ?_; rintro e w1 ⟨rfl, rfl⟩) | (go_at_call 20; refine Hc.out.mono ?_; rintro e w1 ⟨rfl, hb1⟩; obtain ⟨hcc, hff⟩ := rules hb1))
  have hk1 := Keep.of_none (w := w) hb1
  have HN1 := hide (HN.out.below hb1)
  clear hcc hff h0 h1
  go_loopw [25] (fun i wr => ∃ k : Nat, k ≤ ps.length ∧ i = .int .i64 k ∧ Sent w wr B b v (l ++ ps.take k)) (fun i _ => ps.length - (intOf i).toNat)
  case atStart =>
    refine ⟨0, Nat.zero_le _, rfl, v, xs, ?_, .inl rfl, hk1.mono fun _ _ f => f.elim⟩
    rw [List.take_zero, List.append_nil]
    exact HN1.out
  case round =>
    obtain ⟨k, hk, rfl, v1, xs1, hN1, hv1, hK1⟩ := hrel
    have Hv1 := hide hv1
    clear hv1
    by_cases hlt : k < ps.length
    · obtain ⟨c, hc, _, hx⟩ := Hp.out.get (fun p c => PkC.len p c) hlt
      obtain ⟨P1, capp, rfl, hrp, hlp⟩ := hc
      obtain ⟨g, off, rfl, hgS, hgl, hcell⟩ := hr.at_ (by omega)
      have c0 := (hK1.cell (p := ⟨g, off + k * 3, none⟩) hgl (hS _ hgS)).trans ((hcell (k * 3) (by omega)).trans (hx 0 (by omega)))
      have c1 := (hK1.cell (p := ⟨g, off + (k * 3 + 1), none⟩) hgl (hS _ hgS)).trans ((hcell (k * 3 + 1) (by omega)).trans (hx 1 (by omega)))
      have c2 := (hK1.cell (p := ⟨g, off + (k * 3 + 2), none⟩) hgl (hS _ hgS)).trans ((hcell (k * 3 + 2) (by omega)).trans (hx 2 (by omega)))
      simp only [List.getElem?_cons_zero, List.getElem?_cons_succ, ← Nat.add_assoc] at c0 c1 c2
      have Hrp := hide (hrp.keep hK1 fun i hi _ => hT i hi)
      obtain ⟨A1, cap1, rfl, _⟩ := hN1.form
      have d1 := hN1.c1
      have hbr := hN1.lt
      have HN2 := hide hN1
      clear hcell hx hrp hN1
      go_wp2_with (go_at_call 22; refine (clone_any _ _ _ _ _ (Hrp.out.alloc _) hlp).mono ?_; rintro e w2 ⟨A2, cap2, rfl, hR, hb2⟩; obtain ⟨hcc, hff⟩ := rules hb2)
      have K2 : Keep (fun _ => False) wr (w2.setCell ⟨wr.heap.size, 2, none⟩ (.slice A2 ps[k].b.length cap2)) :=
        Keep.setCell (((Keep.refl _ wr).alloc _).step (Keep.of_none hb2) (fun _ f _ => f)) (p := ⟨wr.heap.size, 2, none⟩) (fun h => absurd h (Nat.lt_irrefl _)) _
      have HNW := hide (HN2.out.keep K2 (fun _ _ _ f => f))
      have e1 := HNW.out.c1
      have ef := HNW.out.f1
      have Hne := hide HNW.out.ne_row
      have hbw := HNW.out.lt
      obtain ⟨n, hn⟩ : ∃ n, n = (l ++ ps.take k).length := ⟨_, rfl⟩
      have hn9 : n ≤ 255 := by rw [hn]; simp; omega
      have Hrow := hide HNW.out.row
      rw [← hn] at Hrow e1 Hne
      have Hn := hide hn
      clear hn
      have hbw2 : b < w2.heap.size := by simpa [World.setCell] using hbw
      have hBw : B ≤ w2.heap.size := by have := HNW.out.low; omega
      have Hx1 := hide (show ∀ O : Obj, ((w2.setCell ⟨wr.heap.size, 2, none⟩ (.slice A2 ps[k].b.length cap2)).alloc O).cell? ⟨b, 1, none⟩ = some (.slice A1 n cap1) from fun O => (World.cell?_alloc_past _ _ _ hbw).trans e1)
      have Hx2 := hide (show ∀ O : Obj, ((w2.setCell ⟨wr.heap.size, 2, none⟩ (.slice A2 ps[k].b.length cap2)).alloc O).frozen? ⟨b, 1, none⟩ = false from fun O => (World.frozen?_alloc_past _ _ _ hbw).trans ef)
      go_region_law (refine step_append_rd _ rfl (.tmp 37) (.tmp 39) 22 22 rfl B 27 27 _ 3 40 Try.underlying22 Try.underlying22 Try.infoPk rfl (by decide) (.slice A1 n cap1) n xs1 rfl (by exact Hrow.out.alloc _) _ _ 1 1 [.int .i64 ps[k].f, .int .i64 ps[k].t, .slice A2 ps[k].b.length cap2] rfl (by first | exact (Rd.new_at _ _ _ _ (by simp [World.setCell]) rfl).drew | exact Rd.new_at _ _ _ _ (by simp [World.setCell]) rfl) (by simp [Value.oneCell']) (by unfold maxLen; omega) (by omega) (by simp [World.setCell]; omega) ?_; intro A3 cap3 w3 hown3 hgrow3 hat3; have x1 := (hgrow3.cell_far ⟨b, 1, none⟩ (by simp [World.setCell]; omega) (fun h => Hne.out h.symm)).trans (Hx1.out _); have x2 := (hgrow3.frozen_far ⟨b, 1, none⟩ (by simp [World.setCell]; omega) (fun h => Hne.out h.symm)).trans (Hx2.out _))
      all_goals
        go_wp2
        go_roundw
        case rel =>
          refine ⟨k + 1, by omega, by go_num, ?_⟩
          clear e1 ef c0 c1 c2 d1 hdec Hx1 Hx2 x1 x2
          have hnn := Hn.out
          have hND := (HNW.out.alloc (.cells #[.int .i64 ps[k].f, .int .i64 ps[k].t, .slice A2 ps[k].b.length cap2] 27)).drew
          rw [← hnn] at hND
          have hrl := HN2.out.row.lt
          have hc : PkC _ (fun i => B ≤ i ∧ i ≠ b ∧ (Value.slice A1 n cap1).ownBlock ≠ some i) ps[k] [.int .i64 ps[k].f, .int .i64 ps[k].t, .slice A2 ps[k].b.length cap2] :=
            ⟨A2, cap2, rfl, ((hR.setCell (p := ⟨wr.heap.size, 2, none⟩) (fun i hi _ e => by simp at hi e; omega) (.slice A2 ps[k].b.length cap2)).alloc (.cells #[.int .i64 ps[k].f, .int .i64 ps[k].t, .slice A2 ps[k].b.length cap2] 27)).drew.mono (fun i _ hi => by
              simp at hi
              have := HN2.out.low
              refine ⟨by omega, by omega, fun e => ?_⟩
              have := (hrl i (by rw [← hnn]; exact e)).2
              omega), hlp⟩
          obtain ⟨hN4, hK4⟩ := push_shut hND (by rw [← hnn]; exact hown3) hgrow3 hat3 hc (by omega)
          rw [List.take_succ_eq_append_getElem hlt, ← List.append_assoc]
          have K5 := (hK1.step ((K2.alloc (.cells #[.int .i64 ps[k].f, .int .i64 ps[k].t, .slice A2 ps[k].b.length cap2] 27)).drew) (fun _ f _ => f.elim))
          refine ⟨_, _, hN4, ?_, K5.step hK4 (fun i hi hlt => ?_)⟩
          · rcases hat3 with h | h
            · rw [h]
              rcases Hv1.out with h1 | h1
              · exact .inl (by rw [← h1, ← hnn])
              · exact .inr (by rw [← hnn] at h1; exact h1)
            · exact .inr (fun g hg => by rw [h] at hg; have := K5.size; simp only [Option.some.injEq] at hg; omega)
          · rcases hi with rfl | hi
            · exact .inl rfl
            · rcases Hv1.out with h1 | h1
              · exact .inr (by rw [← h1, ← hnn]; exact hi)
              · have := h1 i (by rw [← hnn]; exact hi)
                omega
        case measure => simp [intOf]; omega
    · obtain rfl : k = ps.length := by omega
      go_wp2
      go_ret
      rw [List.take_length] at hN1
      exact ⟨rfl, v1, xs1, hN1, Hv1.out, hK1⟩
end Go.Proofs.Ytogplcfoigofpaa
