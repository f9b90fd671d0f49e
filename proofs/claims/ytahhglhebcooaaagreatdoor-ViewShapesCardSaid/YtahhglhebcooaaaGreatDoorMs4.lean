/- msg: the tail of a request. -/
import Derived.Test.YtahhglhebcooaaaGreatDoorMs3
namespace Go.Proofs.YtahhglhebcooaaaGreatDoor
open Go.RowKit Go.Cof Go.Tol

theorem flat16 (ls : List (List UInt8)) (h : ∀ x ∈ ls, x.length = 16) : ∀ k (hk : k < ls.length), (ls.flatten.drop (k * 16)).take 16 = ls[k] := by
  induction ls with
  | nil => intro k hk; exact absurd hk (Nat.not_lt_zero _)
  | cons x xs ih =>
    intro k hk
    have hx : x.length = 16 := h x (List.mem_cons_self ..)
    rcases k with _ | k
    · rw [List.flatten_cons, Nat.zero_mul, List.drop_zero, List.take_left' hx, List.getElem_cons_zero]
    · have h2 := ih (fun y hy => h y (List.mem_cons_of_mem _ hy)) k (by simpa using hk)
      rw [List.flatten_cons, List.getElem_cons_succ, show (k + 1) * 16 = x.length + k * 16 by rw [hx]; omega, ← List.drop_drop, List.drop_left' rfl]
      exact h2
theorem flat16_length (ls : List (List UInt8)) (h : ∀ x ∈ ls, x.length = 16) : ls.flatten.length = ls.length * 16 := by
  induction ls with
  | nil => rfl
  | cons x xs ih =>
    rw [List.flatten_cons, List.length_append, ih (fun y hy => h y (List.mem_cons_of_mem _ hy)), h x (List.mem_cons_self ..), List.length_cons]; omega
theorem names_range {w : World} {S : Nat → Prop} {A : Option Addr} {ls : List (List UInt8)} (hr : Rd w S 16 A ls.length (bytesV ls.flatten)) (h : ∀ x ∈ ls, x.length = 16) {k : Nat} (hk : k < ls.length) :
    ∃ b o, A = some ⟨b, o, none⟩ ∧ S b ∧ b < w.heap.size ∧ w.rangeAt b (o + k * 16) (bytesV ls[k]) := by
  obtain ⟨b, o, e, hS, hb, hc⟩ := hr.at_ (by omega)
  refine ⟨b, o, e, hS, hb, fun j v hj => ?_⟩
  have h16 : ls[k].length = 16 := h _ (List.getElem_mem ..)
  have hj2 := (List.getElem?_eq_some_iff.1 hj).1
  rw [bytesV_length, h16] at hj2
  have h1 := hc (k * 16 + j) (by omega)
  rw [Nat.add_assoc, h1, ← hj]
  rw [← flat16 ls h k hk]
  simp only [bytesV, List.getElem?_map, List.getElem?_take, List.getElem?_drop, if_pos hj2]
def tailL (lead : List UInt8) (names : List (List UInt8)) (data : List UInt8) : List UInt8 := lead ++ beL names.length 2 ++ names.flatten ++ beL data.length 4 ++ data

set_option maxHeartbeats 8000000 in
set_option maxRecDepth 200000 in
theorem tail_any {S S2 S3 : Nat → Prop} {A AN AD : Option Addr} {cap cN cD m n d : Nat} (lead : List UInt8) (names : List (List UInt8)) (data : List UInt8) {w : World} (hm : m = lead.length) (hn : n = names.length) (hd : d = data.length)
    (hr : Rd w S 1 A m (bytesV lead)) (hN : Rd w S2 16 AN n (bytesV names.flatten)) (hD : Rd w S3 1 AD d (bytesV data)) (h16 : ∀ x ∈ names, x.length = 16) (hl : m ≤ 1000) (hnl : n ≤ 10000) (hdl : d ≤ 100000) :
    Calls Tryz.prog 27 #[.slice A m cap, .slice AN n cN, .slice AD d cD] w fun e w' => Cloned w w' (tailL lead names data) e := by
  have Hr := hide hr
  have HN := hide hN
  have HD := hide hD
  have H16 := hide h16
  have Hm := hide hm
  have Hn := hide hn
  have Hd := hide hd
  have Hl := hide hl
  have hni : (n : Int) ≤ 10000 := by omega
  have hn0 : (0 : Int) ≤ (n : Int) := Int.natCast_nonneg _
  obtain ⟨acc, hacc⟩ : ∃ acc : Nat → List UInt8, ∀ k, acc k = lead ++ beL names.length 2 ++ (names.take k).flatten := ⟨_, fun _ => rfl⟩
  have Hacc := hide hacc
  have Hacl := hide (show ∀ k, k ≤ n → (acc k).length ≤ 170000 from fun k hk => by
    have h1 := flat16_length (names.take k) (fun x hx => h16 x (List.mem_of_mem_take hx))
    rw [hacc, List.length_append, List.length_append, h1, beL_length, List.length_take]; omega)
  have Hac0 := hide (show lead ++ beL n 2 = acc 0 by rw [hacc, hn]; simp)
  have Hacs := hide (show ∀ k (hk : k < names.length), acc (k + 1) = acc k ++ names[k] from fun k hk => by rw [hacc, hacc, List.take_succ_eq_append_getElem hk, List.flatten_append, List.flatten_singleton, ← List.append_assoc])
  have Hout := hide (show acc n ++ beL data.length 4 ++ data = tailL lead names data by rw [hacc, hn, List.take_length]; rfl)
  obtain ⟨out, hout⟩ : ∃ out, out = tailL lead names data := ⟨_, rfl⟩
  rw [← hout] at Hout ⊢
  clear hout hacc hr hN hD h16 hm hn hd hl
  go_enter Tryz.func27, Tryz.ntmps27
  go_wp2_with (first
    | (go_at_call 31; refine (wput_b lead n 2 Hm.out (by first | rfl | omega | go_num) rfl Hr.out (by have := Hl.out; omega) (by decide) (by omega)).mono ?_; rintro e w1 ⟨A1, c1, rfl, hown1, hb1⟩; rw [Hac0.out] at hown1 ⊢; have Ho1 := hide hown1; have Hb1 := hide hb1; clear hown1 hb1)
    | fail)
  go_loopw [0, 16] (fun s i wr => ∃ (k z : Nat), k ≤ n ∧ i = .int .i64 k ∧ z = (acc k).length ∧ wr.ownsRow w.heap.size 5 1 s z (bytesV (acc k)) ∧ Below w.heap.size w wr) (fun _ i _ => n - (intOf i).toNat)
  case atStart => exact ⟨0, _, Nat.zero_le _, rfl, rfl, Ho1.out, Hb1.out⟩
  case round => as_aux_lemma =>
    obtain ⟨k, z, hk, rfl, hz, hown, hb⟩ := hrel
    have Hown := hide hown
    have Hb := hide hb
    have Hzl := hide (show z ≤ 170000 by rw [hz]; exact Hacl.out k hk)
    have Hz := hide hz
    clear hown hb hz
    by_cases hlt : k < n
    · have hlt2 : k < names.length := by have := Hn.out; omega
      have hNk := HN.out
      rw [Hn.out] at hNk
      obtain ⟨b, o, hA, hS, hbl, hrg⟩ := names_range hNk H16.out hlt2
      obtain ⟨x, hx⟩ : ∃ x, x = names[k] := ⟨_, rfl⟩
      have Hsx := hide (Hacs.out k hlt2)
      have hxl : x.length = 16 := by rw [hx]; exact H16.out _ (List.getElem_mem ..)
      rw [← hx] at hrg Hsx
      subst hA
      have Hrg := hide (show wr.rangeAt b (o + k * 16) (bytesV x) from fun j v hj => ((Keep.of_none Hb.out).cell (p := ⟨b, o + k * 16 + j, none⟩) hbl (fun f => f)).trans (hrg j v hj))
      have Hxl := hide hxl
      have hst := store_new (P := Tryz.prog) wr 40 16 (bytesV x) (by kernel_rfl) (by rw [bytesV_length, hxl]) (bytesV_one _)
      have Hszb := hide (show (Tryz.prog.info? 40).map (·.size) = some (bytesV x).length by rw [bytesV_length, hxl]; kernel_rfl)
      clear hNk hS hbl hrg hx hxl
      go_wp2_with (first
        | (refine wpList_load_mid rfl 40 (.tmp 18) rfl b (o + k * 16) rfl (bytesV x) _ Hrg.out Tryz.underlying40 rfl Hszb.out ?_)
        | (at_builtin; refine wpList_append_rd _ rfl (.tmp 20) (.tmp 21) 28 28 rfl w.heap.size 5 5 (.int .u8 0) 1 1 Tryz.underlying28 Tryz.underlying28 Tryz.infoU8 rfl (by decide) u0 z (bytesV (acc k)) rfl (by exact own_below Hown.out ((Below.refl _ _).alloc (Nat.le_refl _) _)) (fun _ => True) _ 16 16 (bytesV x) rfl (by exact (Rd.new_at _ _ _ _ rfl (by simp [bytesV_length, Hxl.out])).mono (fun _ _ _ => trivial)) (bytesV_one _) (by unfold maxLen; have := Hzl.out; omega) (by have := Hzl.out; omega) (by simp; have := Hb.out.size; omega) ?_; intro A3 cap3 w3 hown3 hgrow3 hat3)
        | fail)
      exact ⟨⟨k + 1, z + 16, by omega, by go_num, by rw [Hsx.out, List.length_append, Hxl.out, ← Hz.out], by rw [Hsx.out, bytesV_append]; exact hown3, (Hb.out.alloc Hb.out.size _).grown hgrow3 (by simp; have := Hb.out.size; omega) (fun j hj => (Hown.out.lt j hj).1)⟩, by simp only [intOf]; omega⟩
    · obtain rfl : k = n := by omega
      obtain ⟨A7, c7, rfl, -⟩ := own_form Hown.out
      go_wp2_with (first
        | (go_at_call 45; refine (wsized_b (acc k) data Hz.out Hd.out (own_rd Hown.out) (by have := Hzl.out; omega) (HD.out.keep (Keep.of_none Hb.out) (fun _ _ _ f => f)) (by omega)).mono ?_; rintro e w9 ⟨A9, c9, rfl, hown9, hb9⟩; rw [Hout.out] at hown9 ⊢; have Ho9 := hide (own_mono hown9 Hb.out.size); have Hb9 := hide (Hb.out.trans (hb9.mono Hb.out.size)); clear hown9 hb9)
        | fail)
      go_ret
      exact ⟨A9, c9, rfl, Ho9.out, Hb9.out⟩
end Go.Proofs.YtahhglhebcooaaaGreatDoor
