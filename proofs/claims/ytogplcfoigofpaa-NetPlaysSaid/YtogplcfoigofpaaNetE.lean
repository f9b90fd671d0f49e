/- The reference's net. -/
import Derived.Test.YtogplcfoigofpaaNetD
namespace Go.Proofs.Ytogplcfoigofpaa
open Go.RowKit Go.Cof

theorem Try.infoRk : (Try.prog.info? 34).map (fun i => (i.zero, i.size, i.bytes)) = some (some (.agg #[.int .i64 0, .int .i64 0, .string ⟨#[]⟩]), 3, 32) := by kernel_rfl

/-- The cells of the reference's packet. -/
def RkC (p : Pk) (c : List Value) : Prop := c = [.int .i64 p.f, .int .i64 p.t, .string ⟨p.b.toArray⟩]
theorem RkC.len (p : Pk) (c : List Value) (h : RkC p c) : c.length = 3 := by unfold RkC at h; subst h; rfl
theorem RkC.one (p : Pk) (c : List Value) (h : RkC p c) : ∀ u ∈ c, u.oneCell' = true := by
  unfold RkC at h; subst h
  intro u hu
  simp at hu
  rcases hu with rfl | rfl | rfl <;> rfl

/-- What the reference's Send and Drop hand out: a list and a number. -/
def RefEnd (S : Nat → Prop) (w w' : World) (l : List Pk) (code : Int) (e : Ending) : Prop :=
  ∃ A cap xs, e = .returned (.tuple #[.slice A l.length cap, .int .i64 code]) ∧ Rd w' S 3 A l.length xs ∧ Els RkC l xs ∧ (l.length ≤ cap ∧ cap ≤ maxLen) ∧ Below w.heap.size w w'

set_option maxHeartbeats 800000 in
theorem rsend_any (w : World) (A A2 : Option Addr) (cap cap2 : Nat) (l ps : List Pk) (S S2 T : Nat → Prop) (xs ys : List Value) (hr : Rd w S 3 A l.length xs) (he : Els RkC l xs)
    (hr2 : Rd w S2 3 A2 ps.length ys) (he2 : Els RkC ps ys) (hl : l.length ≤ 256) (hcap : l.length ≤ cap ∧ cap ≤ maxLen) (hm : ps.length ≤ 140737488351232) (hT : ∀ i, S i → T i) (hT2 : ∀ i, w.heap.size ≤ i → T i) :
    Calls Try.prog 13 #[.slice A l.length cap, .slice A2 ps.length cap2] w fun e w' => RefEnd T w w' (sendList l ps) (sendCode l ps) e := by
  have Hr := hide hr
  have Hr2 := hide hr2
  have Hcap := hide hcap
  have Hone := hide (Els_one RkC.one he)
  have Hone2 := hide (Els_one RkC.one he2)
  clear hr hcap
  go_enter Try.func13, Try.ntmps13
  go_wp2_with fail
  go_loop [6] (fun i => ∃ k : Nat, k ≤ ps.length ∧ i = .int .i64 k ∧ (∀ p ∈ ps.take k, p.big = false)) (fun i => ps.length - (intOf i).toNat)
  case atStart => exact ⟨0, Nat.zero_le _, rfl, by simp⟩
  case round =>
    obtain ⟨k, hk, rfl, hno⟩ := hrel
    have Hno := hide hno; clear hno
    by_cases hlt : k < ps.length
    · obtain ⟨c, hc, _, hx⟩ := he2.get RkC.len hlt
      unfold RkC at hc
      subst hc
      obtain ⟨b, off, rfl, _, hbl, hcell⟩ := hr2.at_ (by omega)
      have c2 := (hcell (k * 3 + 2) (by omega)).trans (hx 2 (by omega))
      clear hcell hx
      simp only [List.getElem?_cons_zero, List.getElem?_cons_succ, ← Nat.add_assoc] at c2
      by_cases hb : 65548 < ps[k].b.length
      · have hs : 65548 < (⟨ps[k].b.toArray⟩ : ByteArray).size := by simpa [ByteArray.size] using hb
        have hbig : ps.any Pk.big = true := List.any_eq_true.2 ⟨ps[k], List.getElem_mem hlt, decide_eq_true hb⟩
        have e1 : sendCode l ps = 2 := by simp [sendCode, hbig]
        have e2 : sendList l ps = l := by simp [sendList, e1]
        have E1 := hide e1
        have E2 := hide e2
        clear e1 e2 hbig
        go_wp2
        go_ret2
        rw [E1.out, E2.out]
        exact ⟨A, cap, xs, rfl, Hr.out.mono fun i _ h => hT i h, he, Hcap.out, Below.refl _ _⟩
      · have hs : ¬ 65548 < (⟨ps[k].b.toArray⟩ : ByteArray).size := by simpa [ByteArray.size] using hb
        go_wp2
        refine ⟨⟨k + 1, by omega, by go_num, ?_⟩, by simp [intOf]; omega⟩
        intro p hp
        rw [List.take_succ_eq_append_getElem hlt, List.mem_append, List.mem_singleton] at hp
        rcases hp with hp | rfl
        · exact Hno.out p hp
        · exact decide_eq_false hb
    · have hbig : ps.any Pk.big = false := by
        rw [List.any_eq_false]
        intro p hp
        simpa using Hno.out p (by rw [List.take_of_length_le (by omega)]; exact hp)
      clear hr2
      by_cases hmany : 256 < l.length + ps.length
      · have e1 : sendCode l ps = 15 := by simp only [sendCode, hbig]; rw [if_neg (by simp), if_pos hmany]
        have e2 : sendList l ps = l := by simp [sendList, e1]
        have E1 := hide e1
        have E2 := hide e2
        clear e1 e2 hbig
        go_wp2
        go_ret2
        rw [E1.out, E2.out]
        exact ⟨A, cap, xs, rfl, Hr.out.mono fun i _ h => hT i h, he, Hcap.out, Below.refl _ _⟩
      · have e1 : sendCode l ps = 0 := by simp only [sendCode, hbig]; rw [if_neg (by simp), if_neg hmany]
        have e2 : sendList l ps = l ++ ps := by simp [sendList, e1]
        have E1 := hide e1
        have E2 := hide e2
        clear e1 e2 hbig
        have Ho := hide (World.ownsRow_made w (size := 3) (e := 34) (base := w.heap.size) #[] 0 (Nat.le_refl _) (by unfold maxLen; omega) (by simp))
        go_wp2_with (first | (at_builtin; refine wpList_append_rd _ rfl (.tmp 28) (.tmp 29) 41 41 rfl w.heap.size 34 34 _ 3 32 Try.underlying41 Try.underlying41 Try.infoRk rfl (by decide) (.slice (some ⟨w.heap.size, 0, none⟩) 0 0) 0 [] rfl Ho.out S A l.length cap xs rfl (by exact Hr.out.alloc _) Hone.out (by unfold maxLen; omega) (by omega) (by simp) ?_; intro A3 cap3 w3 hown3 hgrow3 hat3; rw [Nat.zero_add, List.nil_append] at hown3; have Hown3 := hide hown3; have hb3 : Below w.heap.size w w3 := ((Below.refl _ _).alloc (Nat.le_refl _) _).grown hgrow3 (by simp) (fun j hj => by simp [Value.ownBlock] at hj; omega); have hs3 := hb3.size; clear hown3) | (at_builtin; refine wpList_append_rd _ rfl (.tmp 30) (.tmp 31) 41 40 rfl w.heap.size 34 34 _ 3 32 Try.underlying41 Try.underlying40 Try.infoRk rfl (by decide) (.slice A3 l.length cap3) l.length xs rfl (by first | exact Hown3.out | (have h := Hown3.out; simpa using h)) S2 A2 ps.length cap2 ys rfl (by exact Hr2.out.below hb3 (fun i _ h => h)) Hone2.out (by unfold maxLen; omega) (by omega) hs3 ?_; intro A4 cap4 w4 hown4 hgrow4 hat4))
        go_ret2
        rw [E1.out, E2.out]
        obtain ⟨_, _, hv, hR⟩ := own_form hown4
        obtain ⟨rfl, _, _⟩ := Value.slice.inj hv
        have hc4 := own_caps hown4
        rw [← List.length_append] at hR hc4
        exact ⟨A4, cap4, xs ++ ys, by rw [List.length_append]; rfl, hR.mono fun i _ h => hT2 i h, he.append he2, hc4, hb3.grown hgrow4 hs3 (fun j hj => (Hown3.out.lt j hj).1)⟩

set_option maxHeartbeats 400000 in
theorem rdrop_out (w : World) (A : Option Addr) (cap : Nat) (l : List Pk) (S : Nat → Prop) (xs : List Value) (hr : Rd w S 3 A l.length xs) (he : Els RkC l xs) (hcap : l.length ≤ cap ∧ cap ≤ maxLen) (hl : l.length ≤ 256) (i : Int) (hi : i < 0 ∨ l.length ≤ i) :
    Calls Try.prog 14 #[.slice A l.length cap, .int .i64 i] w fun e w' => RefEnd S w w' l 13 e := by
  have Hr := hide hr
  have Hcap := hide hcap
  clear hr hcap
  rcases hi with hi | hi
  all_goals
    go_enter Try.func14, Try.ntmps14
    go_wp2
    go_ret2
    exact ⟨A, cap, xs, rfl, Hr.out, he, Hcap.out, Below.refl _ _⟩

set_option maxHeartbeats 800000 in
theorem rdrop_in (w : World) (A : Option Addr) (cap : Nat) (l : List Pk) (S T : Nat → Prop) (xs : List Value) (hr : Rd w S 3 A l.length xs) (he : Els RkC l xs) (hl : l.length ≤ 256) (hc : l.length ≤ cap) (hcm : cap ≤ maxLen) (i : Nat) (hi : i < l.length) (hT2 : ∀ i, w.heap.size ≤ i → T i) :
    Calls Try.prog 14 #[.slice A l.length cap, .int .i64 i] w fun e w' => RefEnd T w w' (l.eraseIdx i) 0 e := by
  obtain ⟨b, off, rfl, _, hbl, _⟩ := hr.at_ (by omega)
  have H1 := hide (hr.take (k := i) (by omega))
  have hrd : ∀ A', (¬ cap = i + 1 → A' = some ⟨b, off + (i + 1) * 3, none⟩) → Rd w S 3 A' (l.length - (i + 1)) (xs.drop ((i + 1) * 3)) := fun A' hA => hr.drop (by omega) (fun b' off' e hlt => by
    simp only [Option.some.injEq, Addr.mk.injEq, and_true] at e
    obtain ⟨rfl, rfl⟩ := e
    exact hA (by omega))
  have H2 := hide hrd
  have Hone := hide (Els_one RkC.one he)
  have s1 : i ≤ l.length := by omega
  have s2 : IntKind.i64.wrap ((i : Int) + 1) = (i : Int) + 1 := by exact IntWalk.i64_in _ (by omega)
  have s3 : 0 ≤ (i : Int) + 1 := by omega
  have s4 : ((i : Int) + 1).toNat = i + 1 := by omega
  have s5 : (i : Int) + 1 ≤ l.length := by omega
  have s6 : i ≤ cap := by omega
  have s7 : i + 1 ≤ cap := by omega
  clear hr hrd
  go_enter Try.func14, Try.ntmps14
  go_wp2_with fail
  have Ho := hide (World.ownsRow_made w (size := 3) (e := 34) (base := w.heap.size) #[] 0 (Nat.le_refl _) (by unfold maxLen; omega) (by simp))
  have hm1 : i ≤ maxLen := by omega
  have hm2 : i + (l.length - (i + 1)) ≤ maxLen := by omega
  go_region_law (first | (refine step_append_rd _ rfl (.tmp 15) (.tmp 18) 41 41 rfl w.heap.size 34 34 _ 3 32 Try.underlying41 Try.underlying41 Try.infoRk rfl (by decide) (.slice (some ⟨w.heap.size, 0, none⟩) 0 0) 0 [] rfl (by exact Ho.out) S (some ⟨b, off, none⟩) i cap (xs.take (i * 3)) rfl (by exact (H1.out.alloc _).drew) (fun u hu => Hone.out u (List.mem_of_mem_take hu)) (by omega) (by omega) (by simp) ?_; intro A3 cap3 w3 hown3 hgrow3 hat3; rw [Nat.zero_add, List.nil_append] at hown3; have Hown3 := hide hown3; have hb3 : Below w.heap.size w w3 := ((Below.refl _ _).alloc (Nat.le_refl _) _).drew.grown hgrow3 (by simp) (fun j hj => by simp [Value.ownBlock] at hj; omega); have hs3 := hb3.size; clear hown3) | (refine step_append_rd _ rfl (.tmp 19) (.tmp 23) 41 41 rfl w.heap.size 34 34 _ 3 32 Try.underlying41 Try.underlying41 Try.infoRk rfl (by decide) (.slice A3 i cap3) i (xs.take (i * 3)) rfl (by exact Hown3.out) S _ (l.length - (i + 1)) _ (xs.drop ((i + 1) * 3)) rfl (by exact (H2.out _ (by intro h; first | exact absurd rfl h | rfl | simp [h])).below hb3 (fun i _ h => h)) (fun u hu => Hone.out u (List.mem_of_mem_drop hu)) hm2 (by omega) hs3 ?_; intro A4 cap4 w4 hown4 hgrow4 hat4))
  all_goals
    go_wp2
    all_goals
      go_ret2
      obtain ⟨_, _, hv, hR⟩ := own_form hown4
      obtain ⟨rfl, _, _⟩ := Value.slice.inj hv
      have hle : (l.eraseIdx i).length = i + (l.length - (i + 1)) := by rw [List.length_eraseIdx_of_lt hi]; omega
      have hc4 := own_caps hown4
      rw [← hle] at hR hc4
      refine ⟨A4, cap4, xs.take (i * 3) ++ xs.drop ((i + 1) * 3), by rw [hle]; rfl, hR.mono fun i _ h => hT2 i h, ?_, hc4, hb3.grown hgrow4 hs3 (fun j hj => (Hown3.out.lt j hj).1)⟩
      rw [List.eraseIdx_eq_take_drop_succ]
      exact (he.take RkC.len i).append (he.drop RkC.len (i + 1))

set_option maxHeartbeats 400000 in
theorem rcopy_out (w : World) (A : Option Addr) (cap : Nat) (l : List Pk) (S : Nat → Prop) (xs : List Value) (hr : Rd w S 3 A l.length xs) (he : Els RkC l xs) (hcap : l.length ≤ cap ∧ cap ≤ maxLen) (i : Int) (hi : i < 0 ∨ l.length ≤ i) :
    Calls Try.prog 16 #[.slice A l.length cap, .int .i64 i] w fun e w' => RefEnd S w w' l 13 e := by
  have Hr := hide hr
  have Hcap := hide hcap
  clear hr hcap
  rcases hi with hi | hi
  all_goals
    go_enter Try.func16, Try.ntmps16
    go_wp2_with fail
    go_ret2
    exact ⟨A, cap, xs, rfl, Hr.out, he, Hcap.out, Below.refl _ _⟩

set_option maxHeartbeats 400000 in
theorem rcopy_in (w : World) (A : Option Addr) (cap : Nat) (l : List Pk) (S T : Nat → Prop) (xs : List Value) (hr : Rd w S 3 A l.length xs) (he : Els RkC l xs) (hl : l.length ≤ 256) (hcap : l.length ≤ cap ∧ cap ≤ maxLen) (i : Nat) (hi : i < l.length) (hT : ∀ i, S i → T i) (hT2 : ∀ i, w.heap.size ≤ i → T i) :
    Calls Try.prog 16 #[.slice A l.length cap, .int .i64 i] w fun e w' => RefEnd T w w' (sendList l [l[i]]) (sendCode l [l[i]]) e := by
  have Hr := hide hr
  have Hcap := hide hcap
  obtain ⟨c, hc, _, hx⟩ := he.get RkC.len hi
  unfold RkC at hc
  subst hc
  obtain ⟨b, off, rfl, _, hbl, hcell⟩ := hr.at_ (by omega)
  have c0 := (hcell (i * 3) (by omega)).trans (hx 0 (by omega))
  have c1 := (hcell (i * 3 + 1) (by omega)).trans (hx 1 (by omega))
  have c2 := (hcell (i * 3 + 2) (by omega)).trans (hx 2 (by omega))
  clear hcell hx hr hcap
  simp only [List.getElem?_cons_zero, List.getElem?_cons_succ, ← Nat.add_assoc] at c0 c1 c2
  go_enter Try.func16, Try.ntmps16
  go_wp2_with fail
  refine (rsend_any _ (some ⟨b, off, none⟩) (some ⟨w.heap.size, 0, none⟩) cap 1 l [l[i]] S (· = w.heap.size) T xs [.int .i64 l[i].f, .int .i64 l[i].t, .string ⟨l[i].b.toArray⟩] (Hr.out.alloc _) he (Rd.new_at _ _ _ _ rfl rfl) (Els.one rfl) hl Hcap.out (by simp) hT (fun k hk => hT2 k (by simp at hk; omega))).mono ?_
  rintro e w1 ⟨A2, cap2, ys, rfl, hR, hE, hC, hb⟩
  have HC := hide hC
  clear hC
  have HR := hide hR
  clear hR
  obtain ⟨n, hn⟩ : ∃ n, n = (sendList l [l[i]]).length := ⟨_, rfl⟩
  obtain ⟨m, hm⟩ : ∃ m, m = sendCode l [l[i]] := ⟨_, rfl⟩
  rw [← hn, ← hm]
  have Hn := hide hn
  have Hm := hide hm
  clear hn hm
  go_wp2
  go_ret2
  rw [← Hm.out]
  exact ⟨A2, cap2, ys, by rw [← Hn.out]; rfl, HR.out, hE, HC.out, ((Below.refl _ _).alloc (Nat.le_refl _) _).trans (hb.mono (by simp))⟩
end Go.Proofs.Ytogplcfoigofpaa
