/- net: Send where it is refused, Copy, To. -/
import Derived.Test.YtogplcfoigofpaaNetC
namespace Go.Proofs.Ytogplcfoigofpaa
open Go.RowKit Go.Cof

set_option maxHeartbeats 400000 in
theorem send_big (w : World) (B b : Nat) (v : Value) (l : List Pk) (xs : List Value) (hN : NetAt w B b v l xs)
    (A : Option Addr) (cap : Nat) (ps : List Pk) (S T : Nat → Prop) (ys : List Value) (hr : Rd w S 3 A ps.length ys) (hp : Els (PkC w T) ps ys) (hm : ps.length ≤ 140737488351232)
    (hbig : ps.any Pk.big = true) :
    Calls Try.prog 7 #[.pointer (some ⟨b, 0, none⟩), .slice A ps.length cap] w fun e w' => None_ w w' e (.int .i64 2) := by
  have h0 := hN.c0
  have Hc := hide (contains_big A cap ps S T ys w hr hp hm)
  rw [hbig] at Hc
  clear hN hp hbig hr
  go_enter Try.func7, Try.ntmps7
  go_wp2_with (first | (go_at_call 19; refine (none_made b w h0).mono ?_; rintro e w1 ⟨rfl, rfl⟩) | (go_at_call 20; refine Hc.out.mono ?_; rintro e w1 ⟨rfl, hb1⟩))
  go_ret
  exact ⟨rfl, hb1⟩

set_option maxHeartbeats 400000 in
theorem send_full (w : World) (B b : Nat) (v : Value) (l : List Pk) (xs : List Value) (hN : NetAt w B b v l xs)
    (A : Option Addr) (cap : Nat) (ps : List Pk) (S T : Nat → Prop) (ys : List Value) (hr : Rd w S 3 A ps.length ys) (hp : Els (PkC w T) ps ys) (hm : ps.length ≤ 140737488351232)
    (hmany : 256 < l.length + ps.length) (hbig : ps.any Pk.big = false) :
    Calls Try.prog 7 #[.pointer (some ⟨b, 0, none⟩), .slice A ps.length cap] w fun e w' => None_ w w' e (.int .i64 15) := by
  obtain ⟨A0, cap0, hv, _⟩ := hN.form
  have h0 := hN.c0
  have h1 := hN.c1
  rw [hv] at h1
  have hbl := hN.lt
  have hf := hN.few
  have Hc := hide (contains_big A cap ps S T ys w hr hp hm)
  rw [hbig] at Hc
  clear hN hp hbig hr hv
  have hdec : decide (256 - (l.length : Int) < (ps.length : Int)) = true := by rw [decide_eq_true_eq]; omega
  go_enter Try.func7, Try.ntmps7
  go_wp2_with (first | (go_at_call 19; refine (none_made b w h0).mono ?_; rintro e w1 ⟨rfl, rfl⟩) | (go_at_call 20; refine Hc.out.mono ?_; rintro e w1 ⟨rfl, hb1⟩; obtain ⟨hcc, hff⟩ := rules hb1))
  go_ret
  exact ⟨rfl, hb1⟩

/-- What a Send comes to. -/
def sendCode (l ps : List Pk) : Int := if ps.any Pk.big then 2 else if 256 < l.length + ps.length then 15 else 0
def sendList (l ps : List Pk) : List Pk := if sendCode l ps = 0 then l ++ ps else l

/-- What Send and Copy leave, whatever they come to. -/
theorem Sent.same {w w' : World} {B b : Nat} {v : Value} {l : List Pk} {xs : List Value} (hN : NetAt w B b v l xs) (hb : Below w.heap.size w w') : Sent w w' B b v l :=
  ⟨v, xs, hN.below hb, .inl rfl, (Keep.of_none hb).mono fun _ _ f => f.elim⟩

theorem Sent.from {w W w' : World} {B b : Nat} {v : Value} {l : List Pk} (h : Sent W w' B b v l) (hb : Below w.heap.size w W) : Sent w w' B b v l := by
  obtain ⟨v', xs', hN, hv, hk⟩ := h
  refine ⟨v', xs', hN, hv.imp id (fun h g hg => Nat.le_trans hb.size (h g hg)), (((Keep.of_none hb).mono fun _ _ f => f.elim).trans hk)⟩

/-- Send, whatever it is handed. -/
theorem send_any (w : World) (B b : Nat) (v : Value) (l : List Pk) (xs : List Value) (hN : NetAt w B b v l xs)
    (A : Option Addr) (cap : Nat) (ps : List Pk) (S T : Nat → Prop) (ys : List Value) (hr : Rd w S 3 A ps.length ys) (hp : Els (PkC w T) ps ys) (hS : ∀ i, S i → ¬ Foot b v i) (hT : ∀ i, T i → ¬ Foot b v i) (hm : ps.length ≤ 140737488351232) :
    Calls Try.prog 7 #[.pointer (some ⟨b, 0, none⟩), .slice A ps.length cap] w fun e w' => e = .returned (.int .i64 (sendCode l ps)) ∧ Sent w w' B b v (sendList l ps) := by
  cases hb : ps.any Pk.big with
  | true =>
    have e1 : sendCode l ps = 2 := by simp [sendCode, hb]
    have e2 : sendList l ps = l := by simp [sendList, e1]
    rw [e1, e2]
    exact (send_big w B b v l xs hN A cap ps S T ys hr hp hm hb).mono fun e w' h => ⟨h.1, Sent.same hN h.2⟩
  | false =>
    by_cases hmany : 256 < l.length + ps.length
    · have e1 : sendCode l ps = 15 := by simp only [sendCode, hb]; rw [if_neg (by simp), if_pos hmany]
      have e2 : sendList l ps = l := by simp [sendList, e1]
      rw [e1, e2]
      exact (send_full w B b v l xs hN A cap ps S T ys hr hp hm hmany hb).mono fun e w' h => ⟨h.1, Sent.same hN h.2⟩
    · have e1 : sendCode l ps = 0 := by simp only [sendCode, hb]; rw [if_neg (by simp), if_neg hmany]
      have e2 : sendList l ps = l ++ ps := by simp [sendList, e1]
      rw [e1, e2]
      exact send_fits w B b v l xs hN A cap ps S T ys hr hp hS hT (by omega) hb

set_option maxHeartbeats 400000 in
/-- Copy of a packet that is there: as Send of it. -/
theorem copy_in (w : World) (B b : Nat) (v : Value) (l : List Pk) (xs : List Value) (hN : NetAt w B b v l xs) (i : Nat) (hi : i < l.length) :
    Calls Try.prog 8 #[.pointer (some ⟨b, 0, none⟩), .int .i64 i] w fun e w' => e = .returned (.int .i64 (sendCode l [l[i]])) ∧ Sent w w' B b v (sendList l [l[i]]) := by
  have Hat := hide (at_in w B b v l xs hN i hi)
  have HN := hide hN
  obtain ⟨c, ⟨B0, cap0, _, _, hpl⟩, _⟩ := hN.els.get (fun p c => PkC.len p c) hi
  clear hN
  go_enter Try.func8, Try.ntmps8
  go_wp2_with (go_at_call 18; refine Hat.out.mono ?_; rintro e w1 ⟨⟨A2, cap2, rfl, hR⟩, hb1⟩)
  have hfl : ∀ k, w.heap.size ≤ k → ¬ Foot b v k := fun k hk hf => by
    rcases hf with rfl | hf
    · have := HN.out.lt; omega
    · have := (HN.out.row.lt k hf).2; omega
  have hb2 : Below w.heap.size w ((w1.alloc (.cells #[.int .i64 l[i].f, .int .i64 l[i].t, .slice A2 l[i].b.length cap2] 27)).alloc (.cells #[.int .i64 l[i].f, .int .i64 l[i].t, .slice A2 l[i].b.length cap2] 27)) := (hb1.alloc hb1.size _).alloc (by have := hb1.size; simp; omega) _
  have hsz := hb1.size
  refine (send_any _ B b v l xs (HN.out.below hb2) (some ⟨w1.heap.size + 1, 0, none⟩) 1 [l[i]] (· = w1.heap.size + 1) (fun k => w.heap.size ≤ k) [.int .i64 l[i].f, .int .i64 l[i].t, .slice A2 l[i].b.length cap2] (Rd.new_at _ _ _ _ (by simp) rfl) (Els.one ⟨A2, cap2, rfl, (hR.alloc _).alloc _, hpl⟩) (fun k hk => hfl k (by omega)) hfl (by simp)).mono ?_
  rintro e w2 ⟨rfl, hs⟩
  have Hs := hide (hs.from hb2)
  clear hs
  go_wp2
  go_ret
  exact ⟨rfl, Hs.out⟩

set_option maxHeartbeats 400000 in
theorem copy_out (w : World) (B b : Nat) (v : Value) (l : List Pk) (xs : List Value) (hN : NetAt w B b v l xs) (i : Int) (hi : i < 0 ∨ l.length ≤ i) :
    Calls Try.prog 8 #[.pointer (some ⟨b, 0, none⟩), .int .i64 i] w fun e w' => None_ w w' e (.int .i64 13) := by
  have Hat := hide (at_out w B b v l xs hN i hi)
  clear hN hi
  go_enter Try.func8, Try.ntmps8
  go_wp2_with (go_at_call 18; refine Hat.out.mono ?_; rintro e w1 ⟨rfl, hb1⟩)
  go_ret
  exact ⟨rfl, hb1.alloc hb1.size _⟩

/-- The places of the packets to a node. -/
def places (l : List Pk) (t : Int) : Nat → List Nat
  | 0 => []
  | k + 1 => places l t k ++ (if (l.map Pk.t)[k]? = some t then [k] else [])

theorem places_len (l : List Pk) (t : Int) (k : Nat) : (places l t k).length ≤ k := by
  induction k with
  | zero => simp [places]
  | succ k ih => simp only [places, List.length_append]; split <;> simp <;> omega

theorem Try.infoInt : (Try.prog.info? 3).map (fun i => (i.zero, i.size, i.bytes)) = some (some (.int .i64 0), 1, 8) := by kernel_rfl

/-- What To hands out. -/
def ToEnd (w w' : World) (js : List Nat) (e : Ending) : Prop :=
  ∃ A cap, e = .returned (.slice A js.length cap) ∧ Rd w' (fun i => w.heap.size ≤ i) 1 A js.length (js.map fun (j : Nat) => .int .i64 j) ∧ Below w.heap.size w w'

set_option maxHeartbeats 400000 in
theorem to_any (w : World) (B b : Nat) (v : Value) (l : List Pk) (xs : List Value) (hN : NetAt w B b v l xs) (t : Int) :
    Calls Try.prog 17 #[.pointer (some ⟨b, 0, none⟩), .int .i64 t] w fun e w' => ToEnd w w' (places l t l.length) e := by
  have HN := hide hN
  have hl := hN.few
  have hbl := hN.lt
  obtain ⟨A, cap, hv, hr⟩ := hN.form
  have Hv := hide hv
  have h1 := hN.c1
  rw [hv] at h1
  clear hN hv
  go_enter Try.func17, Try.ntmps17
  go_wp2_with (go_at_call 11; refine (len_any _ B b v l xs HN.out).mono ?_; rintro e w1 ⟨rfl, rfl⟩)
  go_loopw [5, 9] (fun o i wr => ∃ k : Nat, k ≤ l.length ∧ i = .int .i64 k ∧ wr.ownsRow w.heap.size 3 1 o (places l t k).length ((places l t k).map fun (j : Nat) => .int .i64 j) ∧ Below w.heap.size w wr) (fun _ i _ => l.length - (intOf i).toNat)
  case atStart => exact ⟨0, Nat.zero_le _, rfl, World.ownsRow_nil _ _ _ _, Below.refl _ _⟩
  case round =>
    obtain ⟨k, hk, rfl, hown, hb⟩ := hrel
    have Hown := hide hown
    have hpl := places_len l t k
    clear hown
    by_cases hlt : k < l.length
    · obtain ⟨c, hc, _, hx⟩ := HN.out.els.get (fun p c => PkC.len p c) hlt
      obtain ⟨P1, capp, rfl, _, _⟩ := hc
      obtain ⟨g, off, rfl, _, hgl, hcell⟩ := hr.at_ (by omega)
      have c1 := (hb.cell (p := ⟨g, off + (k * 3 + 1), none⟩) hgl).trans ((hcell (k * 3 + 1) (by omega)).trans (hx 1 (by omega)))
      simp only [List.getElem?_cons_zero, List.getElem?_cons_succ, ← Nat.add_assoc] at c1
      have d1 := (hb.cell (p := ⟨b, 1, none⟩) hbl).trans h1
      have hsz := hb.size
      clear hcell hx
      by_cases ht : l[k].t = t
      · have hbt : (l[k].t == t) = true := by rw [ht]; simp
        have hpe : places l t (k + 1) = places l t k ++ [k] := by simp [places, hlt, ht]
        have Hpe := hide hpe
        clear hpe ht
        obtain ⟨n, hn⟩ : ∃ n, n = (places l t k).length := ⟨_, rfl⟩
        rw [← hn] at Hown hpl
        have Hn := hide hn
        clear hn
        go_wp2_with (at_builtin; refine wpList_append_rd _ rfl (.tmp 22) (.tmp 24) 47 47 rfl w.heap.size 3 3 (.int .i64 0) 1 8 Try.underlying47 Try.underlying47 Try.infoInt rfl (by decide) u5 n _ rfl (by exact Hown.out.alloc _) _ _ 1 1 [.int .i64 k] rfl (by exact Rd.new_at _ _ _ _ rfl rfl) (by simp [Value.oneCell']) (by unfold maxLen; omega) (by omega) (by simp; omega) ?_; intro A3 cap3 w3 hown3 hgrow3 hat3)
        refine ⟨⟨k + 1, by omega, by go_num, ?_, (hb.alloc hsz _).grown hgrow3 (by simp; omega) (fun j hj => (Hown.out.lt j hj).1)⟩, by simp [intOf]; omega⟩
        rw [Hpe.out, List.length_append, List.map_append, ← Hn.out]
        exact hown3
      · have hbt : (l[k].t == t) = false := by simp [ht]
        have hpe : places l t (k + 1) = places l t k := by simp [places, hlt, ht]
        have Hpe := hide hpe
        clear hpe ht
        go_wp2
        refine ⟨⟨k + 1, by omega, by go_num, ?_, hb⟩, by simp [intOf]; omega⟩
        rw [Hpe.out]
        exact Hown.out
    · obtain rfl : k = l.length := by omega
      go_wp2
      go_ret
      obtain ⟨A', cap', hv', hR⟩ := own_form Hown.out
      exact ⟨A', cap', congrArg Ending.returned hv', hR, hb⟩
end Go.Proofs.Ytogplcfoigofpaa
