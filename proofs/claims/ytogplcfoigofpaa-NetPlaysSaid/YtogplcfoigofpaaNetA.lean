/- The functions of net, one by one. -/
import Derived.Test.YtogplcfoigofpaaRows
import Derived.Test.YtogplcfoigofpaaBase
namespace Go.Proofs.Ytogplcfoigofpaa
open Go.RowKit Go.Cof

theorem Try.infoU8 : (Try.prog.info? 5).map (fun i => (i.zero, i.size, i.bytes)) = some (some (.int .u8 0), 1, 1) := by kernel_rfl

/-- slices.Clone of bytes: nil is nil; else new memory with the same bytes. -/
def Cloned (w w' : World) (l : List UInt8) (e : Ending) : Prop :=
  ∃ A cap, e = .returned (.slice A l.length cap) ∧ Rd w' (fun b => w.heap.size ≤ b) 1 A l.length (bytesV l) ∧ Below w.heap.size w w'

set_option maxHeartbeats 400000 in
theorem clone_any (S : Nat → Prop) (A : Option Addr) (cap : Nat) (l : List UInt8) (w : World) (hr : Rd w S 1 A l.length (bytesV l)) (hl : l.length ≤ 140737488351232) :
    Calls Try.prog 22 #[.slice A l.length cap] w fun e w' => Cloned w w' l e := by
  rcases A with _ | ad
  · have hn : l.length = 0 := by
      rcases Nat.eq_zero_or_pos l.length with h | h
      · exact h
      · obtain ⟨_, _, h, _⟩ := hr.at_ h
        cases h
    obtain rfl : l = [] := List.eq_nil_of_length_eq_zero hn
    clear hn hr hl
    have hq := fun wx => Lib.run_eql_slice_nil (P := Try.prog) wx 25 5 none 0 cap 0 0 Try.underlying25
    simp only [List.length_nil]
    go_enter Try.func22, Try.ntmps22
    go_wp2
    go_ret
    exact ⟨none, 0, rfl, Rd.nil _ _ _ _, Below.refl _ _⟩
  · have hq := fun wx => Lib.run_eql_slice_nil (P := Try.prog) wx 25 5 (some ad) l.length cap 0 0 Try.underlying25
    have hr1 := hr.alloc (.cells #[] 5)
    have ho : (w.alloc (.cells #[] 5)).ownsRow w.heap.size 5 1 (.slice (some ⟨w.heap.size, 0, none⟩) 0 0) 0 [] := World.ownsRow_made w #[] 0 (Nat.le_refl _) (by simp) (by simp)
    go_enter Try.func22, Try.ntmps22
    go_wp2_with (at_builtin; refine wpList_append_rd _ rfl (.tmp 5) (.tmp 6) 25 25 rfl w.heap.size 5 5 (.int .u8 0) 1 1 Try.underlying25 Try.underlying25 Try.infoU8 rfl (by decide) (.slice (some ⟨w.heap.size, 0, none⟩) 0 0) 0 [] rfl ho S (some ad) l.length cap (bytesV l) rfl hr1 (bytesV_one l) (by unfold maxLen; omega) (by omega) (by simp) ?_; intro A' cap' w' hown hgrow hat; clear hr1 ho)
    go_ret
    obtain ⟨_, _, hv, hR⟩ := own_form hown
    obtain ⟨rfl, _, _⟩ := Value.slice.inj hv
    refine ⟨A', cap', rfl, by simpa using hR, ?_⟩
    exact ((Below.refl _ _).alloc (Nat.le_refl _) _).grown hgrow (by simp) (fun k h => by simp [Value.ownBlock] at h; omega)
/-- A packet. -/
structure Pk where
  f : Int
  t : Int
  b : List UInt8

/-- The three cells of a packet; its bytes lie in S. -/
def PkC (w : World) (S : Nat → Prop) (p : Pk) (c : List Value) : Prop :=
  ∃ A cap, c = [.int .i64 p.f, .int .i64 p.t, .slice A p.b.length cap] ∧ Rd w S 1 A p.b.length (bytesV p.b) ∧ p.b.length ≤ 140737488351232

theorem PkC.len {w : World} {S : Nat → Prop} (p : Pk) (c : List Value) (h : PkC w S p c) : c.length = 3 := by obtain ⟨A, cap, rfl, _⟩ := h; rfl
theorem PkC.keep {w w' : World} {S F : Nat → Prop} (hk : Keep F w w') (hd : ∀ b, S b → b < w.heap.size → ¬ F b) (p : Pk) (c : List Value) (h : PkC w S p c) : PkC w' S p c := by
  obtain ⟨A, cap, rfl, hr, hl⟩ := h
  exact ⟨A, cap, rfl, hr.keep hk hd, hl⟩
theorem PkC.mono {w : World} {S S' : Nat → Prop} (hs : ∀ b, b < w.heap.size → S b → S' b) (p : Pk) (c : List Value) (h : PkC w S p c) : PkC w S' p c := by
  obtain ⟨A, cap, rfl, hr, hl⟩ := h
  exact ⟨A, cap, rfl, hr.mono hs, hl⟩

theorem PkC.one {w : World} {S : Nat → Prop} (p : Pk) (c : List Value) (h : PkC w S p c) : ∀ u ∈ c, u.oneCell' = true := by
  obtain ⟨A, cap, rfl, _⟩ := h
  intro u hu
  simp at hu
  rcases hu with rfl | rfl | rfl <;> rfl

/-- Is a packet too great? -/
def Pk.big (p : Pk) : Bool := decide (65548 < p.b.length)

set_option maxHeartbeats 400000 in
theorem big_any (f t : Int) (A : Option Addr) (n cap : Nat) (w : World) :
    Calls Try.prog 21 #[.agg #[.int .i64 f, .int .i64 t, .slice A n cap]] w fun e w' => e = .returned (.bool (decide ((65548 : Int) < n))) ∧ Below w.heap.size w w' := by
  go_enter Try.func21, Try.ntmps21
  go_wp2
  go_ret
  exact ⟨rfl, (Below.refl _ _).alloc (Nat.le_refl _) _⟩

set_option maxHeartbeats 400000 in
theorem index_big (A : Option Addr) (cap : Nat) (l : List Pk) (S T : Nat → Prop) (xs : List Value) (w : World) (hr : Rd w S 3 A l.length xs) (hp : Els (PkC w T) l xs) (hl : l.length ≤ 140737488351232) :
    Calls Try.prog 24 #[.slice A l.length cap, .func (.func 21) #[] #[]] w fun e w' => (∃ r : Int, e = .returned (.int .i64 r) ∧ decide (0 ≤ r) = l.any Pk.big) ∧ Below w.heap.size w w' := by
  go_enter Try.func24, Try.ntmps24
  go_wp2_with fail
  go_loopw [8] (fun i wr => ∃ k : Nat, k ≤ l.length ∧ i = .int .i64 k ∧ (∀ p ∈ l.take k, p.big = false) ∧ Below w.heap.size w wr) (fun i _ => l.length - (intOf i).toNat)
  case atStart => exact ⟨0, Nat.zero_le _, rfl, by simp, Below.refl _ _⟩
  case round =>
    obtain ⟨k, hk, rfl, hno, hb⟩ := hrel
    have Hno := hide hno; clear hno
    by_cases hlt : k < l.length
    · obtain ⟨c, hc, _, hx⟩ := hp.get (fun p c => PkC.len p c) hlt
      obtain ⟨B, cap', rfl, _⟩ := hc
      obtain ⟨b, off, rfl, _, hbl, hcell⟩ := hr.at_ (by omega)
      have c0 := (hb.cell (p := ⟨b, off + k * 3, none⟩) hbl).trans ((hcell (k * 3) (by omega)).trans (hx 0 (by omega)))
      have c1 := (hb.cell (p := ⟨b, off + (k * 3 + 1), none⟩) hbl).trans ((hcell (k * 3 + 1) (by omega)).trans (hx 1 (by omega)))
      have c2 := (hb.cell (p := ⟨b, off + (k * 3 + 2), none⟩) hbl).trans ((hcell (k * 3 + 2) (by omega)).trans (hx 2 (by omega)))
      clear hcell hx hr hp
      simp only [List.getElem?_cons_zero, List.getElem?_cons_succ, ← Nat.add_assoc] at c0 c1 c2
      go_wp2_with (go_at_call 21; refine (big_any _ _ _ _ _ _).mono ?_; rintro e w1 ⟨rfl, hb1⟩)
      · go_ret
        refine ⟨⟨k, rfl, ?_⟩, (hb.mono (Nat.le_refl _)).trans (hb1.mono hb.size)⟩
        rw [decide_eq_true (by omega)]
        symm
        rw [List.any_eq_true]
        exact ⟨l[k], List.getElem_mem hlt, by unfold Pk.big; rw [decide_eq_true_eq]; omega⟩
      · have hsmall : ¬ 65548 < l[k].b.length := by omega
        refine ⟨⟨k + 1, by omega, by go_num, ?_, hb.trans (hb1.mono hb.size)⟩, by simp [intOf]; omega⟩
        intro p hp
        rw [List.take_succ_eq_append_getElem hlt, List.mem_append, List.mem_singleton] at hp
        rcases hp with hp | rfl
        · exact Hno.out p hp
        · exact decide_eq_false hsmall
    · go_wp2
      go_ret
      refine ⟨⟨-1, rfl, ?_⟩, hb⟩
      rw [decide_eq_false (by omega)]
      symm
      rw [List.any_eq_false]
      intro p hp
      simpa using Hno.out p (by rw [List.take_of_length_le (by omega)]; exact hp)

set_option maxHeartbeats 400000 in
theorem contains_big (A : Option Addr) (cap : Nat) (l : List Pk) (S T : Nat → Prop) (xs : List Value) (w : World) (hr : Rd w S 3 A l.length xs) (hp : Els (PkC w T) l xs) (hl : l.length ≤ 140737488351232) :
    Calls Try.prog 20 #[.slice A l.length cap, .func (.func 21) #[] #[]] w fun e w' => e = .returned (.bool (l.any Pk.big)) ∧ Below w.heap.size w w' := by
  go_enter Try.func20, Try.ntmps20
  go_wp2_with (go_at_call 24; refine (index_big _ _ _ S T _ _ hr hp hl).mono ?_; rintro e w1 ⟨⟨r, rfl, hr1⟩, hb1⟩; have Hr := hide hr1; clear hr1)
  go_ret
  exact ⟨congrArg (fun b => Ending.returned (.bool b)) Hr.out, hb1⟩

set_option maxHeartbeats 400000 in
/-- net.New. -/
theorem new_any (w : World) :
    Calls Try.prog 6 #[] w fun e w' => e = .returned (.pointer (some ⟨w.heap.size, 0, none⟩)) ∧ w' = w.alloc (.cells #[.bool true, .slice none 0 0] 51) := by
  go_enter Try.func6, Try.ntmps6
  go_wp2
  go_ret
  exact ⟨rfl, rfl⟩
end Go.Proofs.Ytogplcfoigofpaa
