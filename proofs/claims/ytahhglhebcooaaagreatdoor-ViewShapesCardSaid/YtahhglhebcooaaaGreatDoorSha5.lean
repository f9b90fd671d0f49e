/- sha: a hash in memory; Write. -/
import Derived.Test.YtahhglhebcooaaaGreatDoorSha4
namespace Go.Proofs.YtahhglhebcooaaaGreatDoor
open Go.RowKit Go.Cof Go.Tol

/-- A hash: its words, the bytes of its block, how many it took in. -/
structure HashA where
  s : List Int
  rest : List UInt8
  n : Nat
def HashA.Ok (h : HashA) : Prop := h.s.length = 8 ∧ h.rest.length = 64
/-- Its cells. -/
def hashV (h : HashA) : List Value := .bool true :: (u32V h.s ++ (bytesV h.rest ++ [.int .u64 h.n]))
theorem hashV_length (h : HashA) (hk : h.Ok) : (hashV h).length = 74 := by
  simp [hashV, u32V_length, bytesV, hk.1, hk.2]
theorem hashV_one (h : HashA) : ∀ u ∈ hashV h, u.oneCell' = true := by
  intro u hu
  simp only [hashV, List.mem_cons, List.mem_append, List.not_mem_nil, or_false] at hu
  rcases hu with rfl | hu | hu | rfl
  · rfl
  · exact u32V_one _ u hu
  · exact bytesV_one _ u hu
  · rfl
def restO (l : List UInt8) (o : Nat) (cs : List UInt8) : List UInt8 := l.take o ++ (cs ++ l.drop (o + cs.length))
theorem restO_length (l : List UInt8) (o : Nat) (cs : List UInt8) (h : o + cs.length ≤ l.length) : (restO l o cs).length = l.length := by simp [restO]; omega
/-- Bytes taken in. -/
def absorb (h : HashA) (l : List UInt8) : HashA :=
  if hl : l.length = 0 then h else
  let k := min (64 - h.n % 64) l.length
  let r := restO h.rest (h.n % 64) (l.take k)
  absorb ⟨if (h.n + k) % 64 = 0 then takeW h.s r else h.s, r, h.n + k⟩ (l.drop k)
termination_by l.length
decreasing_by
  have : h.n % 64 < 64 := Nat.mod_lt _ (by decide)
  simp only [List.length_drop]
  omega

theorem bytesV_rest (l cs : List UInt8) (o : Nat) : over (bytesV l) o (bytesV cs) = bytesV (restO l o cs) := by
  simp [over, restO, bytesV, List.map_take, List.map_drop]
theorem hashV_rest (h : HashA) (hk : h.Ok) (r : Nat) (cs : List UInt8) (hr : r + cs.length ≤ 64) : over (hashV h) (9 + r) (bytesV cs) = hashV ⟨h.s, restO h.rest r cs, h.n⟩ := by
  have e : hashV h = (.bool true :: u32V h.s) ++ (bytesV h.rest ++ [.int .u64 h.n]) := by simp [hashV]
  have hl : (Value.bool true :: u32V h.s).length = 9 := by simp [u32V_length, hk.1]
  rw [e, ← hl, over_right, over_left _ _ _ _ (by rw [bytesV_length, bytesV_length, hk.2]; omega), bytesV_rest]
  simp [hashV]
theorem hashV_s (h : HashA) (hk : h.Ok) (s : List Int) (hs : s.length = 8) : over (hashV h) 1 (u32V s) = hashV ⟨s, h.rest, h.n⟩ := by
  have e : hashV h = [.bool true] ++ (u32V h.s ++ (bytesV h.rest ++ [.int .u64 h.n])) := by simp [hashV]
  have e2 : over ([Value.bool true] ++ (u32V h.s ++ (bytesV h.rest ++ [.int .u64 h.n]))) (1 + 0) (u32V s) = [.bool true] ++ over (u32V h.s ++ (bytesV h.rest ++ [.int .u64 h.n])) 0 (u32V s) := over_right [.bool true] _ _ 0
  rw [e, show (1 : Nat) = 1 + 0 from rfl, e2, over_left _ _ _ _ (by simp only [u32V_length, hk.1, hs]; omega), over, List.take_zero, Nat.zero_add, List.drop_eq_nil_of_le (by simp only [u32V_length, hk.1, hs]; omega)]
  simp [hashV]
theorem hashV_n (h : HashA) (hk : h.Ok) (n : Nat) : (hashV h).set 73 (.int .u64 n) = hashV ⟨h.s, h.rest, n⟩ := by
  have e : hashV h = (.bool true :: (u32V h.s ++ bytesV h.rest)) ++ [.int .u64 h.n] := by simp [hashV]
  have hl : (Value.bool true :: (u32V h.s ++ bytesV h.rest)).length = 73 := by simp [u32V_length, bytesV_length, hk.1, hk.2]
  rw [e, List.set_append_right _ _ (by omega), hl]
  simp [hashV]
theorem hashV_0 (h : HashA) : (hashV h)[0]? = some (.bool true) := rfl
theorem hashV_73 (h : HashA) (hk : h.Ok) : (hashV h)[73]? = some (.int .u64 h.n) := by
  have e : hashV h = (.bool true :: (u32V h.s ++ bytesV h.rest)) ++ [.int .u64 h.n] := by simp [hashV]
  have hl : (Value.bool true :: (u32V h.s ++ bytesV h.rest)).length = 73 := by simp [u32V_length, bytesV_length, hk.1, hk.2]
  rw [e, List.getElem?_append_right (by omega), hl]
  rfl
theorem hashV_words (h : HashA) (hk : h.Ok) : ((hashV h).drop 1).take 8 = u32V h.s := by
  rw [hashV, List.drop_succ_cons, List.drop_zero, List.take_left' (by rw [u32V_length, hk.1])]
theorem hashV_block (h : HashA) (hk : h.Ok) : ((hashV h).drop 9).take 64 = bytesV h.rest := by
  have e : hashV h = (.bool true :: u32V h.s) ++ (bytesV h.rest ++ [.int .u64 h.n]) := by simp [hashV]
  rw [e, List.drop_left' (by simp [u32V_length, hk.1]), List.take_left' (by rw [bytesV_length, hk.2])]
theorem takeW_length (s : List Int) (blk : List UInt8) : (takeW s blk).length = s.length := sumW_length _ _ _

def sliceLen : Value → Nat
  | .slice _ n _ => n
  | _ => 0
/-- One step of Write. -/
def stepH (h : HashA) (k : Nat) (l : List UInt8) : HashA :=
  ⟨if (h.n + k) % 64 = 0 then takeW h.s (restO h.rest (h.n % 64) (l.take k)) else h.s, restO h.rest (h.n % 64) (l.take k), h.n + k⟩
theorem absorb_step (h : HashA) (l : List UInt8) (hl : 0 < l.length) (k : Nat) (hk : k = min (64 - h.n % 64) l.length) : absorb h l = absorb (stepH h k l) (l.drop k) := by
  rw [absorb, dif_neg (by omega), hk]
  rfl
theorem absorb_nil (h : HashA) (l : List UInt8) (hl : l.length = 0) : absorb h l = h := by rw [absorb, dif_pos hl]
theorem stepH_ok (h : HashA) (hk : h.Ok) (k : Nat) (l : List UInt8) (hk2 : k = min (64 - h.n % 64) l.length) : (stepH h k l).Ok := by
  have h64 : h.n % 64 < 64 := Nat.mod_lt _ (by decide)
  refine ⟨?_, ?_⟩
  · show (if _ then _ else _ : List Int).length = 8
    split
    · rw [takeW_length]; exact hk.1
    · exact hk.1
  · show (restO _ _ _).length = 64
    rw [restO_length _ _ _ (by rw [List.length_take, hk.2]; omega)]
    exact hk.2

def WriteP (S : Nat) (h : HashA) (l : List UInt8) (w w' : World) (e : Ending) : Prop :=
  e = .returned (.tuple #[]) ∧ w'.heap[S]? = some (.cells (hashV (absorb h l)).toArray 154 (0, 0)) ∧ Keep (· = S) w w'

set_option maxHeartbeats 8000000 in
set_option maxRecDepth 200000 in
theorem write_any (S : Nat) (R : Nat → Prop) (A : Option Addr) (cap : Nat) (h : HashA) (l : List UInt8) (w : World) (hk : h.Ok) (hS : w.heap[S]? = some (.cells (hashV h).toArray 154 (0, 0)))
    (hr : Rd w R 1 A l.length (bytesV l)) (hRS : ∀ b, R b → b ≠ S) (hc : l.length ≤ cap) (hn : h.n + l.length ≤ 1000000000000000) :
    Calls Tryz.prog 59 #[.pointer (some ⟨S, 0, none⟩), .slice A l.length cap] w fun e w' => WriteP S h l w w' e := by
  have Hk := hide hk
  have HS := hide hS
  have Hr := hide hr
  have HRS := hide hRS
  have Hc := hide hc
  have Hn := hide hn
  have c0 : w.cell? ⟨S, 0, none⟩ = some (.bool true) := by rw [blk_cell hS, hashV_0]
  clear hk hS hr hRS hc hn
  go_enter Tryz.func59, Tryz.ntmps59
  go_wp2_with (fail)
  go_loopw [1] (fun b wr => ∃ (h1 : HashA) (l1 : List UInt8) (A1 : Option Addr) (c1 : Nat), b = .slice A1 l1.length c1 ∧ absorb h1 l1 = absorb h l ∧ h1.Ok ∧ wr.heap[S]? = some (.cells (hashV h1).toArray 154 (0, 0)) ∧ Rd wr R 1 A1 l1.length (bytesV l1) ∧ l1.length ≤ c1 ∧ h1.n + l1.length ≤ 1000000000000000 ∧ Keep (· = S) w wr) (fun b _ => sliceLen b)
  case atStart => exact ⟨h, l, A, cap, rfl, rfl, Hk.out, HS.out, Hr.out, Hc.out, Hn.out, Keep.refl _ _⟩
  case round => as_aux_lemma =>
    clear c0
    obtain ⟨h1, l1, A1, c1, rfl, habs, hk1, hS1, hr1, hc1, hn1, hkw⟩ := hrel
    have Habs := hide habs
    have Hk1 := hide hk1
    have HS1 := hide hS1
    have Hr1 := hide hr1
    have Hkw := hide hkw
    by_cases hl : l1.length = 0
    · have Habs2 := hide (absorb_nil h1 l1 hl)
      have HL := hide hl
      clear habs hk1 hS1 hr1 hkw hc1 hn1
      rw [hl]
      clear hl
      go_wp2_with (fail)
      refine bodyPost_end (results_none rfl _ _ _) rfl ?_
      exact ⟨rfl, by rw [← Habs.out, Habs2.out]; exact HS1.out, Hkw.out⟩
    · have hpos : 0 < l1.length := by omega
      obtain ⟨r, hr⟩ : ∃ r, r = h1.n % 64 := ⟨_, rfl⟩
      obtain ⟨k, hk⟩ : ∃ k, k = min (64 - r) l1.length := ⟨_, rfl⟩
      have hr64 : r < 64 := by rw [hr]; exact Nat.mod_lt _ (by decide)
      have hkp : 0 < k := by omega
      have hkl : k ≤ l1.length := by omega
      have hkr : r + k ≤ 64 := by omega
      obtain ⟨B, off, hA, hRB, hbl, hrc⟩ := hr1.at_ hpos
      have Hstep := hide (absorb_step h1 l1 hpos k (by rw [hk, hr]))
      have Hsok := hide (stepH_ok h1 hk1 k l1 (by rw [hk, hr]))
      obtain ⟨cs, hcs⟩ : ∃ cs, cs = l1.take k := ⟨_, rfl⟩
      have hcsl : cs.length = k := by rw [hcs, List.length_take]; omega
      have Hover := hide (hashV_rest h1 hk1 r cs (by omega))
      have Hmin := hide (show Nat.min l1.length (64 - r) = k by rw [hk]; exact Nat.min_comm _ _)
      have Hcsn := hide (show (bytesV cs).length = k * 1 by rw [bytesV_length, hcsl, Nat.mul_one])
      have Hpos := hide (show ∀ w' : World, Keep (fun _ => False) wr w' → (0 < (bytesV cs).length → some (⟨S, 9 + r, none⟩ : Addr) = some ⟨S, 9 + r, none⟩ ∧ ∃ ad, A1 = some ad ∧ ∀ j v, (bytesV cs)[j]? = some v → w'.cell? (ad.add j) = some v) from fun w' hw' _ => ⟨rfl, ⟨B, off, none⟩, hA, fun j v hj => by
        have hjk : j < k := by have := (List.getElem?_eq_some_iff.1 hj).1; rw [bytesV_length, hcsl] at this; exact this
        rw [Addr.add_mid, hw'.cell (p := ⟨B, off + j, none⟩) hbl (fun f => f), hrc j (by omega), ← hj, hcs, bytesV, bytesV, List.getElem?_map, List.getElem?_map, List.getElem?_take, if_pos hjk]⟩)
      have Hfit := hide (show 9 + r + (bytesV cs).length ≤ (hashV h1).length by rw [hashV_length h1 hk1, bytesV_length, hcsl]; omega)
      have Hone := hide (bytesV_one cs)
      have Hdrop := hide (show Rd wr R 1 (dropA A1 c1 k) (l1.length - k) (bytesV (l1.drop k)) from by
        have h9 := hr1.drop hkl (A' := dropA A1 c1 k) (fun b of he hlt => by rw [he, dropA_at hlt hc1, Nat.mul_one])
        rw [Nat.mul_one] at h9
        have e : (bytesV l1).drop k = bytesV (l1.drop k) := by simp [bytesV, List.map_drop]
        rw [e] at h9
        exact h9)
      obtain ⟨n, hnn⟩ : ∃ n, n = h1.n := ⟨_, rfl⟩
      have hrn : ((n : Int) % 64) = (r : Int) := by rw [hnn, hr]; omega
      have c73 : wr.cell? ⟨S, 73, none⟩ = some (.int .u64 n) := by rw [blk_cell hS1, hashV_73 h1 hk1, hnn]
      have hsl : ∀ w' : World, (Instr.sliceAt 152 (.pointer (some ⟨S, 9, none⟩)) (some (.int .u64 (r : Int))) none none).run Tryz.prog w' = .ok (.slice (some ⟨S, 9 + r, none⟩) (64 - r) (64 - r)) w' := fun w' => by
        have h9 := run_slice_arr_l (P := Tryz.prog) (t := 152) (s := 1) Tryz.underlying152 (by kernel_rfl) S 9 r hr64 .u64 (r : Int) rfl w'
        rw [Nat.mul_one] at h9
        exact h9
      have Hnn := hide hnn
      have hsl2 : ∀ w' : World, (Instr.slice 28 (.slice A1 l1.length c1) (some (.int .i64 (k : Int))) none none).run Tryz.prog w' = .ok (.slice (dropA A1 c1 k) (l1.length - k) (c1 - k)) w' := run_slice_drop Tryz.underlying28 (by kernel_rfl) A1 l1.length c1 k hkl
      have HsLen := hide hk1.1
      have HrLen := hide (show (restO h1.rest r cs).length = 64 by rw [restO_length _ _ _ (by rw [hk1.2]; omega)]; exact hk1.2)
      have Hr := hide hr
      have Hcs := hide hcs
      have Hbl := hide hbl
      have Hc1 := hide hc1
      have hn0 : (0 : Int) ≤ (n : Int) := Int.natCast_nonneg n
      have hlp : decide ((0 : Int) < (l1.length : Int)) = true := by simp; omega
      clear habs hk1 hS1 hr1 hkw hr hk hA hRB hbl hrc hcs hnn hl
      go_upto_region 4 with (fail)
      obtain ⟨C, hC⟩ : ∃ C : World → Prop, C = fun w' => w'.cell? ⟨S, 73, none⟩ = some (.int .u64 n) := ⟨_, rfl⟩
      have HCe := hide hC
      have HC1 := hide (show ∀ w', InC C w' → w'.cell? ⟨S, 73, none⟩ = some (.int .u64 n) from InC.of fun w' h => (hC ▸ h : (fun w' : World => w'.cell? ⟨S, 73, none⟩ = some (.int .u64 n)) w'))
      have HC0 := hide (show C wr.drew by rw [hC]; exact c73)
      have HP2 := hide (Hpos.out wr.drew (Keep.refl _ _).drew)
      haveI : Nonempty (Wl C) := ⟨⟨_, HC0.out⟩⟩
      clear hC
      refine wp_region_mix C (by kernel_rfl) (by kernel_rfl) ?_
      refine Mixed.batch [0, 1, 2, 3, 4, 5, 6, 7, 8, 9] 2 (by kernel_rfl) (by kernel_rfl) (by kernel_rfl) (by kernel_rfl) HC0.out _ (by simp only [List.map_cons, List.map_nil, List.getElem?_toArray, List.getElem?_cons_zero, List.getElem?_cons_succ, Option.getD_some]; rfl) (fun R hR => ?_)
      repeat (first | go_big_quiet_skip | (go_big_quiet_want; first
        | (refine quiet_load 38 (.tmp 27) rfl ⟨S, 73, none⟩ rfl _ HC1.out _ Tryz.underlying38 rfl ?_; go_simp; go_big_quiet_on)
        | (go_big_quiet_op; go_big_quiet_on)))
      refine wpQuiet_nil (hR.out _ ?_)
      clear hR R
      refine Mixed.one 10 1 (by kernel_rfl) (by kernel_rfl) (by simp only [List.getElem?_toArray, List.getElem?_cons_zero, List.getElem?_cons_succ]; rfl) (fun K hK => ?_)
      refine step_copy_sz _ rfl (.tmp 30) (.tmp 31) 28 28 rfl 5 1 Tryz.underlying28 (by kernel_rfl) (by decide) (some ⟨S, 9 + r, none⟩) A1 (64 - r) (64 - r) l1.length c1 rfl rfl S (9 + r) (hashV h1) 154 HS1.out (bytesV cs) k Hmin.out Hcsn.out HP2.out Hfit.out Hone.out ?_
      intro wb hgb hkb
      rw [Hover.out] at hgb
      have Hgb := hide (show wb.heap[S]? = some (.cells (hashV ⟨h1.s, restO h1.rest r cs, h1.n⟩).toArray 154 (0, 0)) from hgb.out)
      have Hkb := hide hkb
      clear hgb hkb
      have hCb : C wb := by
        have h9 := HCe.out
        rw [h9]
        show wb.cell? _ = _
        rw [blk_cell Hgb.out, hashV_73 ⟨h1.s, restO h1.rest r cs, h1.n⟩ ⟨HsLen.out, HrLen.out⟩, Hnn.out]
      have HCb := hide hCb
      refine hK.out _ _ (fun _ => hCb) ?_
      clear hK K hCb
      try simp only [Act.put, List.setIfInBounds_toArray, List.set_cons_zero, List.set_cons_succ]
      refine Mixed.batch [11] 0 (by kernel_rfl) (by kernel_rfl) (by kernel_rfl) (by kernel_rfl) HCb.out _ (by simp only [List.map_cons, List.map_nil, List.getElem?_toArray, List.getElem?_cons_zero, List.getElem?_cons_succ, Option.getD_some]; rfl) (fun R hR => ?_)
      repeat (first | go_big_quiet_skip | (go_big_quiet_want; first
        | (go_big_quiet_op; go_big_quiet_on)))
      refine wpQuiet_nil (hR.out _ ?_)
      clear hR R
      refine Mixed.done (by kernel_rfl) ?_
      have c73b : wb.cell? ⟨S, 73, none⟩ = some (.int .u64 n) := by rw [blk_cell Hgb.out, hashV_73 ⟨h1.s, restO h1.rest r cs, h1.n⟩ ⟨HsLen.out, HrLen.out⟩, Hnn.out]
      have f73b : wb.frozen? ⟨S, 73, none⟩ = false := frozen_of_row _ _ _ _ _ Hgb.out
      have Hgd0 := hide (show (wb.setCell ⟨S, 73, none⟩ (.int .u64 ((n : Int) + (k : Int)))).heap[S]? = some (.cells (hashV ⟨h1.s, restO h1.rest r cs, n + k⟩).toArray 154 (0, 0)) by
        have h9 := heap_set Hgb.out 73 (.int .u64 ((n + k : Nat) : Int))
        rw [hashV_n ⟨h1.s, restO h1.rest r cs, h1.n⟩ ⟨HsLen.out, HrLen.out⟩] at h9
        rw [← Int.natCast_add]
        exact h9)
      have hk0 : (0 : Int) ≤ (k : Int) := Int.natCast_nonneg k
      have hk64 : (k : Int) ≤ 64 := by omega
      have hnb : (n : Int) ≤ 1000000000000000 := by have := Hnn.out; omega
      have Hlen := hide (show (l1.drop k).length = l1.length - k from List.length_drop)
      have Hcut := hide (show l1.length - k ≤ c1 - k by have := Hc1.out; omega)
      have Hnk := hide (show (n + k) + (l1.length - k) ≤ 1000000000000000 by have := Hnn.out; omega)
      clear hrn hsl c73
      by_cases h64 : (n + k) % 64 = 0
      · have hz : ((((n : Int) + (k : Int)) % 64) == 0) = true := by rw [beq_iff_eq]; omega
        have Hse := hide (show stepH h1 k l1 = ⟨takeW h1.s (restO h1.rest r cs), restO h1.rest r cs, n + k⟩ by rw [stepH, ← Hnn.out, if_pos h64, Hnn.out, ← Hr.out, ← Hcs.out])
        clear h64
        go_upto_region 8 with (fail)
        have Hokd := hide (show (⟨h1.s, restO h1.rest r cs, n + k⟩ : HashA).Ok from ⟨HsLen.out, HrLen.out⟩)
        obtain ⟨wd, hwd⟩ : ∃ wd : World, wd = wb.setCell ⟨S, 73, none⟩ (.int .u64 ((n : Int) + (k : Int))) := ⟨_, rfl⟩
        have Hgd := hide (show wd.heap[S]? = some (.cells (hashV ⟨h1.s, restO h1.rest r cs, n + k⟩).toArray 154 (0, 0)) by rw [hwd]; exact Hgd0.out)
        have Hkd := hide (show Keep (· = S) wr wd by rw [hwd]; exact (((Keep.refl _ wr).drew).trans Hkb.out).setCell (fun _ => rfl) _)
        rw [← hwd]
        clear hwd Hgd0 c73b f73b
        obtain ⟨C, hC⟩ : ∃ C : World → Prop, C = fun _ => True := ⟨_, rfl⟩
        have HC0 := hide (show C wd.drew by rw [hC]; trivial)
        haveI : Nonempty (Wl C) := ⟨⟨_, HC0.out⟩⟩
        clear hC
        refine wp_region_mix C (by kernel_rfl) (by kernel_rfl) ?_
        refine Mixed.batch [0, 1, 2, 3, 4, 5] 1 (by kernel_rfl) (by kernel_rfl) (by kernel_rfl) (by kernel_rfl) HC0.out _ (by simp only [List.map_cons, List.map_nil, List.getElem?_toArray, List.getElem?_cons_zero, List.getElem?_cons_succ, Option.getD_some]; rfl) (fun R hR => ?_)
        repeat (first | go_big_quiet_skip | (go_big_quiet_want; first
          | (go_big_quiet_op; go_big_quiet_on)))
        refine wpQuiet_nil (hR.out _ ?_)
        clear hR R
        refine Mixed.one 6 0 (by kernel_rfl) (by kernel_rfl) (by simp only [List.getElem?_toArray, List.getElem?_cons_zero, List.getElem?_cons_succ]; rfl) (fun K hK => ?_)
        go_simp
        go_at_call 84
        refine (take_any S 1 S 9 154 (hashV ⟨h1.s, restO h1.rest r cs, n + k⟩) h1.s (restO h1.rest r cs) wd.drew HsLen.out HrLen.out Hgd.out (hashV_words _ Hokd.out) (by rw [hashV_length _ Hokd.out]; decide) (part_range (w := wd.drew) Hgd.out (by rw [bytesV_length, HrLen.out]; exact hashV_block _ Hokd.out)) (blk_lt Hgd.out)).mono ?_
        rintro e w8 ⟨rfl, hrow, hkeep⟩
        rw [hashV_s _ Hokd.out _ (by rw [takeW_length]; exact HsLen.out)] at hrow
        have Hrow := hide hrow
        have Hkeep := hide hkeep
        clear hrow hkeep
        refine hK.out _ _ (fun h => absurd rfl h) ?_
        clear hK K
        refine Mixed.done (by kernel_rfl) ?_
        go_wp2_with (fail)
        refine ⟨⟨stepH h1 k l1, l1.drop k, dropA A1 c1 k, c1 - k, by rw [Hlen.out], by rw [← Habs.out, Hstep.out], Hsok.out, ?_, ?_, by rw [Hlen.out]; exact Hcut.out, ?_, ?_⟩, ?_⟩
        · rw [Hse.out]; exact Hrow.out
        · rw [Hlen.out]; exact Hdrop.out.keep (((Keep.refl (· = S) wr).trans Hkd.out).trans ((Keep.refl _ wd).drew.trans Hkeep.out)) (fun b hb _ e => HRS.out b hb e)
        · rw [Hse.out, Hlen.out]; exact Hnk.out
        · exact (Hkw.out.trans Hkd.out).trans ((Keep.refl _ wd).drew.trans Hkeep.out)
        · simp [sliceLen]; omega
      · have hz : ((((n : Int) + (k : Int)) % 64) == 0) = false := by rw [beq_eq_false_iff_ne]; omega
        have Hse := hide (show stepH h1 k l1 = ⟨h1.s, restO h1.rest r cs, n + k⟩ by rw [stepH, ← Hnn.out, if_neg h64, Hnn.out, ← Hr.out, ← Hcs.out])
        clear h64
        go_wp2_with (fail)
        refine ⟨⟨stepH h1 k l1, l1.drop k, dropA A1 c1 k, c1 - k, by rw [Hlen.out], by rw [← Habs.out, Hstep.out], Hsok.out, ?_, ?_, by rw [Hlen.out]; exact Hcut.out, ?_, ?_⟩, ?_⟩
        · rw [Hse.out]; exact Hgd0.out
        · rw [Hlen.out]; exact Hdrop.out.keep ((((Keep.refl _ wr).drew).trans Hkb.out).setCell (p := ⟨S, 73, none⟩) (fun _ => rfl) _) (fun b hb _ e => HRS.out b hb e)
        · rw [Hse.out, Hlen.out]; exact Hnk.out
        · exact ((Hkw.out.drew).trans Hkb.out).setCell (fun _ => rfl) _
        · simp [sliceLen]; omega
end Go.Proofs.YtahhglhebcooaaaGreatDoor
