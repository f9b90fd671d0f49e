/- sha: Sum. -/
import Derived.Test.YtahhglhebcooaaaGreatDoorSha6
namespace Go.Proofs.YtahhglhebcooaaaGreatDoor
open Go.RowKit Go.Cof Go.Tol

theorem absorb_facts : ∀ (m : Nat) (l : List UInt8), l.length ≤ m → ∀ h : HashA, h.Ok → (absorb h l).Ok ∧ (absorb h l).n = h.n + l.length
  | 0, l, hm, h, hk => by rw [absorb_nil h l (by omega)]; exact ⟨hk, by omega⟩
  | m + 1, l, hm, h, hk => by
    by_cases hl : l.length = 0
    · rw [absorb_nil h l hl]; exact ⟨hk, by omega⟩
    · have h64 : h.n % 64 < 64 := Nat.mod_lt _ (by decide)
      obtain ⟨k, hkk⟩ : ∃ k, k = min (64 - h.n % 64) l.length := ⟨_, rfl⟩
      have h1 := absorb_facts m (l.drop k) (by rw [List.length_drop]; omega) (stepH h k l) (stepH_ok h hk k l hkk)
      rw [absorb_step h l (by omega) k hkk]
      refine ⟨h1.1, ?_⟩
      rw [h1.2, List.length_drop]
      show h.n + k + (l.length - k) = _
      omega
theorem absorb_ok (h : HashA) (l : List UInt8) (hk : h.Ok) : (absorb h l).Ok := (absorb_facts l.length l (Nat.le_refl _) h hk).1
theorem absorb_n (h : HashA) (l : List UInt8) (hk : h.Ok) : (absorb h l).n = h.n + l.length := (absorb_facts l.length l (Nat.le_refl _) h hk).2

/-- Zeros taken in. -/
def zerosH (h : HashA) : Nat → HashA
  | 0 => h
  | j + 1 => absorb (zerosH h j) [0]
theorem zerosH_facts (h : HashA) (hk : h.Ok) : ∀ j, (zerosH h j).Ok ∧ (zerosH h j).n = h.n + j
  | 0 => ⟨hk, rfl⟩
  | j + 1 => by
    obtain ⟨h1, h2⟩ := zerosH_facts h hk j
    exact ⟨absorb_ok _ _ h1, by rw [zerosH, absorb_n _ _ h1, h2]; rfl⟩
/-- The count's bytes taken in, the highest first. -/
def countH (h : HashA) (c : Nat) : Nat → HashA
  | 0 => h
  | j + 1 => absorb (countH h c j) [UInt8.ofNat (c / 2 ^ (8 * (7 - j)))]
theorem countH_facts (h : HashA) (c : Nat) (hk : h.Ok) : ∀ j, (countH h c j).Ok ∧ (countH h c j).n = h.n + j
  | 0 => ⟨hk, rfl⟩
  | j + 1 => by
    obtain ⟨h1, h2⟩ := countH_facts h c hk j
    exact ⟨absorb_ok _ _ h1, by rw [countH, absorb_n _ _ h1, h2]; rfl⟩
def padN (h : HashA) : Nat := (56 + 64 - (h.n + 1) % 64) % 64
def endH (h : HashA) : HashA := countH (zerosH (absorb h [128]) (padN h)) (h.n * 8) 8
def byteW (s : List Int) (i : Nat) : UInt8 := UInt8.ofNat (s[i / 4]! / 2 ^ (8 * (3 - i % 4)) % 256).toNat
/-- The sum of what a hash took in. -/
def sumH (h : HashA) : List UInt8 := (List.range 32).map (byteW (endH h).s)
theorem sumH_length (h : HashA) : (sumH h).length = 32 := by simp [sumH]
theorem byteW_val (s : List Int) (i : Nat) : ((byteW s i).toNat : Int) = s[i / 4]! / 2 ^ (8 * (3 - i % 4)) % 256 := by
  have h1 : (0 : Int) ≤ s[i / 4]! / 2 ^ (8 * (3 - i % 4)) % 256 := Int.emod_nonneg _ (by decide)
  have h2 : s[i / 4]! / 2 ^ (8 * (3 - i % 4)) % 256 < 256 := Int.emod_lt_of_pos _ (by decide)
  rw [byteW, UInt8.toNat_ofNat']
  omega

def z32L : List Value := [.int .u8 0, .int .u8 0, .int .u8 0, .int .u8 0, .int .u8 0, .int .u8 0, .int .u8 0, .int .u8 0, .int .u8 0, .int .u8 0, .int .u8 0, .int .u8 0, .int .u8 0, .int .u8 0, .int .u8 0, .int .u8 0, .int .u8 0, .int .u8 0, .int .u8 0, .int .u8 0, .int .u8 0, .int .u8 0, .int .u8 0, .int .u8 0, .int .u8 0, .int .u8 0, .int .u8 0, .int .u8 0, .int .u8 0, .int .u8 0, .int .u8 0, .int .u8 0]
/-- The sum's state: the hash at g, the result's zeros at N. -/
structure St (w wr : World) (N g : Nat) (hh : HashA) : Prop where
  hash : wr.heap[g]? = some (.cells (hashV hh).toArray 154 (0, 0))
  out : wr.heap[N]? = some (.cells z32L.toArray 59 (0, 0))
  bel : Below w.heap.size w wr
  ord : w.heap.size ≤ N ∧ N < g
theorem St.lt {w wr : World} {N g : Nat} {hh : HashA} (h : St w wr N g hh) : g < wr.heap.size := blk_lt h.hash
theorem St.write {w wr w2 : World} {N g : Nat} {hh h2 : HashA} (h : St w wr N g hh) (o : Obj) (hk : Keep (· = g) (wr.alloc o) w2) (h9 : w2.heap[g]? = some (.cells (hashV h2).toArray 154 (0, 0))) : St w w2 N g h2 := by
  have h1 := h.ord
  have h2 := h.lt
  refine ⟨h9, ?_, ?_, h.ord⟩
  · exact (hk.block N (by simp; omega) (by omega)).trans (heap_old h.out o)
  · exact (h.bel.alloc h.bel.size o).trans (hk.below (by have := h.bel.size; simp; omega) (fun i e => by omega))
theorem St.cnt {w wr : World} {N g : Nat} {hh : HashA} (h : St w wr N g hh) (hk : hh.Ok) : wr.cell? ⟨g, 73, none⟩ = some (.int .u64 hh.n) := by rw [blk_cell h.hash, hashV_73 hh hk]
def cntOf : Option Value → Int
  | some (.int _ n) => n
  | _ => 0
theorem write1_any {w wr : World} {N g : Nat} {hh : HashA} (b : UInt8) (v : Int) (hv : v = b.toNat) (h : St w wr N g hh) (hk : hh.Ok) (hn : hh.n ≤ 999999999999999) :
    Calls Tryz.prog 59 #[.pointer (some ⟨g, 0, none⟩), .slice (some ⟨wr.heap.size, 0, none⟩) 1 1] (wr.alloc (.cells #[.int .u8 v] 5)) fun e w' => e = .returned (.tuple #[]) ∧ St w w' N g (absorb hh [b]) := by
  subst hv
  have h1 := write_any g (· = wr.heap.size) (some ⟨wr.heap.size, 0, none⟩) 1 hh [b] (wr.alloc (.cells #[.int .u8 b.toNat] 5)) hk (heap_old h.hash _) (Rd.new (n := 1) (sz := 1) wr 5 [.int .u8 b.toNat] (0, 0) rfl) (fun i e => by have := h.lt; omega) (Nat.le_refl _) (by show hh.n + 1 ≤ _; omega)
  exact h1.mono fun e w' ⟨he, hr, hkp⟩ => ⟨he, h.write _ hkp hr⟩
/-- The sum's bytes, as far as they have been laid. -/
def outL (l : List UInt8) (j : Nat) : List Value := (bytesV l).take j ++ z32L.drop j
theorem outL_zero (l : List UInt8) : outL l 0 = z32L := rfl
theorem outL_length (l : List UInt8) (j : Nat) (h : l.length = 32) (hj : j ≤ 32) : (outL l j).length = 32 := by
  rw [outL, List.length_append, List.length_take, List.length_drop, bytesV_length, h]
  show min j 32 + (32 - j) = 32
  omega
theorem outL_all (l : List UInt8) (h : l.length = 32) : outL l 32 = bytesV l := by
  rw [outL, List.take_of_length_le (by rw [bytesV_length, h]; exact Nat.le_refl _), show z32L.drop 32 = [] from rfl, List.append_nil]
theorem outL_set (l : List UInt8) (j : Nat) (h : l.length = 32) (hj : j < 32) : outL l (j + 1) = (outL l j).set j (.int .u8 (l[j]!).toNat) := by
  have hl : ((bytesV l).take j).length = j := by rw [List.length_take, bytesV_length, h]; omega
  have hb : (bytesV l)[j]'(by rw [bytesV_length, h]; exact hj) = .int .u8 (l[j]!).toNat := by
    rw [getElem!_pos l j (by rw [h]; exact hj)]; simp [bytesV]
  rw [outL, outL, List.set_append_right _ _ (by omega), hl, Nat.sub_self, List.drop_eq_getElem_cons (show j < z32L.length from hj), List.set_cons_zero, List.take_succ_eq_append_getElem (by rw [bytesV_length, h]; exact hj), hb, List.append_assoc, List.singleton_append]
theorem hashV_word (h : HashA) (hk : h.Ok) (q : Nat) (hq : q < 8) : (hashV h)[1 + q]? = some (.int .u32 h.s[q]!) := by
  rw [hashV, Nat.add_comm, List.getElem?_cons_succ, List.getElem?_append_left (by rw [u32V_length, hk.1]; exact hq), u32V_get _ _ (by rw [hk.1]; exact hq)]
set_option maxHeartbeats 8000000 in
set_option maxRecDepth 200000 in
theorem hsum_any (S : Nat) (h : HashA) (w : World) (hk : h.Ok) (hS : w.heap[S]? = some (.cells (hashV h).toArray 154 (0, 0))) (hn : h.n ≤ 900000000000000) :
    Calls Tryz.prog 60 #[.pointer (some ⟨S, 0, none⟩)] w fun e w' => e = .returned (.agg (bytesV (sumH h)).toArray) ∧ Below w.heap.size w w' := by
  have Hk := hide hk
  have HS := hide hS
  have Hn := hide hn
  have HlS := hide (blk_lt hS)
  have Hv1 := hide (hashV_one h)
  have HiH := hide (show (Tryz.prog.info? 154).map (·.size) = some (hashV h).length by rw [hashV_length h hk]; kernel_rfl)
  have HiHa := hide (show (Tryz.prog.info? 154).map (·.size) = some (hashV h).toArray.size by rw [List.size_toArray, hashV_length h hk]; kernel_rfl)
  have HlH := hide (show (hashV h).length = (hashV hash0).length by rw [hashV_length h hk, hashV_length _ hash0_ok])
  obtain ⟨N, hN⟩ : ∃ N, N = w.heap.size := ⟨_, rfl⟩
  have HN := hide hN
  have c0 : w.cell? ⟨S, 0, none⟩ = some (.bool true) := by rw [blk_cell hS, hashV_0]
  clear hk hS hn hN
  go_enter Tryz.func60, Tryz.ntmps60
  go_upto_region 2 with (first
    | (go_at_call 58; ((with_reducible refine (new_any _).mono ?_)); rintro e w1 hnew; obtain ⟨g, rfl, hg1, hg2, hb1⟩ := hnew; have Hg1 := hide hg1; have Hg2 := hide hg2; have Hb1 := hide hb1; clear hg1 hg2 hb1)
    | fail)
  have hbw1 : Below w.heap.size w w1 := ((Below.refl w.heap.size w).alloc (Nat.le_refl _) _).trans (Hb1.out.mono (by simp))
  have hS1 := (hbw1.block S HlS.out).trans HS.out
  have c1 : w1.cell? ⟨S, 0, none⟩ = some (.bool true) := by rw [blk_cell hS1, hashV_0]
  have HS1 := hide hS1
  have Hbw1 := hide hbw1
  clear hbw1 hS1 c0
  go_upto_region 4 with (first
    | (refine wpList_load_row rfl 154 (.tmp 19) rfl S rfl 154 (hashV h).toArray (0, 0) _ HS1.out Tryz.underlying154 rfl HiHa.out ?_)
    | (refine wpList_store_all rfl 154 (.tmp 21) (.tmp 20) rfl g (hashV hash0) (hashV h) 154 Hg2.out rfl rfl HlH.out HiH.out Hv1.out ?_)
    | fail)
  obtain ⟨V, hV⟩ : ∃ V : World, V = w1.setRow g (hashV h).toArray := ⟨_, rfl⟩
  have hNg : N < g := by have h1 := Hg1.out; have h2 := HN.out; simp at h1; omega
  have hSt : St w V N g h := by
    refine ⟨?_, ?_, ?_, by have := HN.out; omega, hNg⟩
    · rw [hV]; exact setRow_heap _ _ _ _ _ _ Hg2.out
    · rw [hV]
      refine (setRow_other _ _ _ _ (by omega)).trans ?_
      rw [HN.out]
      exact (Hb1.out.block w.heap.size (by simp)).trans (heap_new _ _)
    · rw [hV]; exact below_setRow Hbw1.out (by have := HN.out; omega) _
  have c73 : V.cell? ⟨g, 73, none⟩ = some (.int .u64 (h.n : Nat)) := hSt.cnt Hk.out
  have HSt := hide hSt
  have hnb : (h.n : Int) ≤ 900000000000000 := by have := Hn.out; omega
  have hn0 : (0 : Int) ≤ (h.n : Int) := Int.natCast_nonneg _
  rw [← hV, ← HN.out]
  clear hV hSt c1
  obtain ⟨cN, hcN⟩ : ∃ c : Nat, c = h.n * 8 := ⟨_, rfl⟩
  have hcNi : (h.n : Int) * 8 = (cN : Int) := by rw [hcN]; omega
  have HcN := hide hcN
  clear hcN
  go_upto_block 0 with (first
    | (go_at_call 59; ((with_reducible refine (write1_any 128 128 (by decide) HSt.out Hk.out (by have := Hn.out; omega)).mono ?_)); rintro e w5 ⟨rfl, hs5⟩; have Hs5 := hide hs5; clear hs5)
    | fail)
  obtain ⟨h1, hh1⟩ : ∃ h1, h1 = absorb h [128] := ⟨_, rfl⟩
  have Hh1 := hide hh1
  have Hk1 := hide (show h1.Ok by rw [hh1]; exact absorb_ok _ _ Hk.out)
  have Hn1 := hide (show h1.n = h.n + 1 by rw [hh1]; exact absorb_n _ _ Hk.out)
  rw [← hh1] at Hs5
  clear hh1 c73
  obtain ⟨z, hz⟩ : ∃ z, z = padN h := ⟨_, rfl⟩
  have Hz := hide hz
  have hz64 : z < 64 := by rw [hz]; exact Nat.mod_lt _ (by decide)
  clear hz
  go_cut [3] (fun p wx => p = .pointer (some ⟨g, 0, none⟩) ∧ St w wx N g (zerosH h1 z))
  case first => as_aux_lemma =>
    go_wp2_with (fail)
    go_loopw [30] (fun _ wr => ∃ j : Nat, j ≤ z ∧ St w wr N g (zerosH h1 j)) (fun _ wr => (((h.n + 1 + z : Nat) : Int) - cntOf (wr.cell? ⟨g, 73, none⟩)).toNat)
    case atStart => exact ⟨0, Nat.zero_le _, Hs5.out⟩
    case round => as_aux_lemma =>
      obtain ⟨j, hj, hst⟩ := hrel
      have Hst := hide hst
      obtain ⟨hokj, hnj⟩ := zerosH_facts h1 Hk1.out j
      have Hokj := hide hokj
      obtain ⟨n, hn⟩ : ∃ n, n = (zerosH h1 j).n := ⟨_, rfl⟩
      have hnv : n = h.n + 1 + j := by rw [hn, hnj, Hn1.out]
      have c73 : wr.cell? ⟨g, 73, none⟩ = some (.int .u64 (n : Nat)) := by rw [hn]; exact hst.cnt hokj
      have Hn2 := hide hn
      have Hnv := hide hnv
      have hn0 : (0 : Int) ≤ (n : Int) := Int.natCast_nonneg n
      have hn1 : (n : Int) ≤ 900000000000100 := by have := Hn.out; omega
      clear hst hokj hnj hn hnv
      have hzz := Hz.out
      unfold padN at hzz
      by_cases hlt : j < z
      · have e1 : (((n : Int) % 64) != 56) = true := by have := Hnv.out; rw [bne_iff_ne]; omega
        have e2 : (((n : Int) % 64) == 56) = false := by have := Hnv.out; rw [beq_eq_false_iff_ne]; omega
        clear hzz
        go_wp2_with (first
          | (go_at_call 59; ((with_reducible refine (write1_any 0 0 (by decide) Hst.out Hokj.out (by have h1 := Hn2.out; have h2 := Hnv.out; have h3 := Hn.out; omega)).mono ?_)); rintro e w6 ⟨rfl, hs6⟩; have Hs6 := hide hs6; clear hs6)
          | fail)
        have c73b : w6.cell? ⟨g, 73, none⟩ = some (.int .u64 (n + 1 : Nat)) := by
          have h9 := Hs6.out.cnt (absorb_ok _ _ Hokj.out)
          rw [absorb_n _ _ Hokj.out, ← Hn2.out] at h9
          exact h9
        refine ⟨⟨j + 1, by omega, Hs6.out⟩, ?_⟩
        rw [c73, c73b]
        have h1 := Hnv.out
        simp only [cntOf]
        omega
      · obtain rfl : j = z := by omega
        have e1 : (((n : Int) % 64) != 56) = false := by have := Hnv.out; rw [bne_eq_false_iff_eq]; omega
        have e2 : (((n : Int) % 64) == 56) = true := by have := Hnv.out; rw [beq_iff_eq]; omega
        clear hzz
        go_wp2_with (fail)
        go_meet
        exact ⟨rfl, Hst.out⟩
  case rest => as_aux_lemma =>
    obtain ⟨rfl, hst2⟩ := hcut
    obtain ⟨h2, hh2⟩ : ∃ h2, h2 = zerosH h1 z := ⟨_, rfl⟩
    have Hh2 := hide hh2
    have Hk2 := hide (show h2.Ok by rw [hh2]; exact (zerosH_facts h1 Hk1.out z).1)
    have Hn2 := hide (show h2.n ≤ 900000000000200 by rw [hh2, (zerosH_facts h1 Hk1.out z).2, Hn1.out]; have := Hn.out; omega)
    rw [← hh2] at hst2
    have Hst2 := hide hst2
    have hcb : (cN : Int) ≤ 7200000000000000 := by have h1 := HcN.out; have h2 := Hn.out; omega
    have hc0 : (0 : Int) ≤ (cN : Int) := Int.natCast_nonneg _
    clear hh2 hst2
    go_upto_block 2 with (fail)
    go_cut [3] (fun p wx => p = .pointer (some ⟨g, 0, none⟩) ∧ St w wx N g (countH h2 cN 8))
    case first => as_aux_lemma =>
      go_wp2_with (fail)
      go_loopw [5] (fun i wr => ∃ j : Nat, j ≤ 8 ∧ i = .int .i64 (7 - (j : Int)) ∧ St w wr N g (countH h2 cN j)) (fun i _ => (intOf i + 1).toNat)
      case atStart => exact ⟨0, by omega, rfl, Hst2.out⟩
      case round => as_aux_lemma =>
        obtain ⟨j, hj, rfl, hst⟩ := hrel
        have Hst := hide hst
        obtain ⟨hokj, hnj⟩ := countH_facts h2 cN Hk2.out j
        have Hokj := hide hokj
        have Hnj := hide hnj
        have hj0 : (0 : Int) ≤ (j : Int) := Int.natCast_nonneg _
        clear hst hokj hnj
        by_cases h8 : j < 8
        · have hv : ((cN : Int) / 2 ^ (8 * (7 - j)) % 256) = ((UInt8.ofNat (cN / 2 ^ (8 * (7 - j)))).toNat : Int) := by rw [UInt8.toNat_ofNat']; simp
          have Hv := hide hv
          clear hv
          go_wp2_with (first
            | (go_at_call 59; ((with_reducible refine (write1_any (UInt8.ofNat (cN / 2 ^ (8 * (7 - j)))) _ Hv.out Hst.out Hokj.out (by have h1 := Hnj.out; have h2 := Hn2.out; omega)).mono ?_)); rintro e w6 ⟨rfl, hs6⟩; have Hs6 := hide hs6; clear hs6)
            | fail)
          exact ⟨⟨j + 1, by omega, by rw [show (7 : Int) - ((j + 1 : Nat) : Int) = 7 - (j : Int) - 1 by omega], Hs6.out⟩, by simp [intOf]; omega⟩
        · obtain rfl : j = 8 := by omega
          go_wp2_with (fail)
          go_meet
          exact ⟨rfl, Hst.out⟩
    case rest => as_aux_lemma =>
      obtain ⟨rfl, hst3⟩ := hcut
      obtain ⟨h3, hh3⟩ : ∃ h3, h3 = countH h2 cN 8 := ⟨_, rfl⟩
      have Hk3 := hide (show h3.Ok by rw [hh3]; exact (countH_facts h2 cN Hk2.out 8).1)
      have He3 := hide (show h3 = endH h by rw [hh3, Hh2.out, Hz.out, HcN.out, Hh1.out, endH])
      rw [← hh3] at hst3
      have Hst3 := hide hst3
      clear hh3 hst3
      go_upto_block 4 with (fail)
      obtain ⟨M, hM⟩ : ∃ M, M = wc.heap.size := ⟨_, rfl⟩
      obtain ⟨V3, hV3⟩ : ∃ V : World, V = wc.alloc (.cells #[.int .u8 0, .int .u8 0, .int .u8 0, .int .u8 0, .int .u8 0, .int .u8 0, .int .u8 0, .int .u8 0, .int .u8 0, .int .u8 0, .int .u8 0, .int .u8 0, .int .u8 0, .int .u8 0, .int .u8 0, .int .u8 0, .int .u8 0, .int .u8 0, .int .u8 0, .int .u8 0, .int .u8 0, .int .u8 0, .int .u8 0, .int .u8 0, .int .u8 0, .int .u8 0, .int .u8 0, .int .u8 0, .int .u8 0, .int .u8 0, .int .u8 0, .int .u8 0] 59) := ⟨_, rfl⟩
      have hMg : g < M := by rw [hM]; exact Hst3.out.lt
      have HvM := hide (show V3.heap[M]? = some (.cells z32L.toArray 59 (0, 0)) by rw [hV3, hM]; exact heap_new _ _)
      have Hvg := hide (show V3.heap[g]? = some (.cells (hashV h3).toArray 154 (0, 0)) by rw [hV3]; exact heap_old Hst3.out.hash _)
      have HvN := hide (show V3.heap[N]? = some (.cells z32L.toArray 59 (0, 0)) by rw [hV3]; exact heap_old Hst3.out.out _)
      have HbV := hide (show Below w.heap.size w V3 by rw [hV3]; exact Hst3.out.bel.alloc Hst3.out.bel.size _)
      have Hmg := hide (show N < g ∧ g < M ∧ w.heap.size ≤ N from ⟨Hst3.out.ord.2, hMg, Hst3.out.ord.1⟩)
      rw [← hV3, ← hM]
      clear hV3 hM hMg
      go_cut [6] (fun p wx => p = .pointer (some ⟨M, 0, none⟩) ∧ wx.heap[M]? = some (.cells (bytesV (sumH h)).toArray 59 (0, 0)) ∧ Keep (· = M) V3 wx)
      case first => as_aux_lemma =>
        go_wp2_with (fail)
        go_loopw [51] (fun i wr => ∃ j : Nat, j ≤ 32 ∧ i = .int .i64 j ∧ wr.heap[M]? = some (.cells (outL (sumH h) j).toArray 59 (0, 0)) ∧ Keep (· = M) V3 wr) (fun i _ => 32 - (intOf i).toNat)
        case atStart => exact ⟨0, by omega, rfl, by rw [outL_zero]; exact HvM.out, Keep.refl _ _⟩
        case round => as_aux_lemma =>
          obtain ⟨j, hj, rfl, hrow, hk⟩ := hrel
          have Hrow := hide hrow
          have HK := hide hk
          clear hrow hk
          by_cases h32 : j < 32
          · obtain ⟨q, hq⟩ : ∃ q, q = j / 4 := ⟨_, rfl⟩
            obtain ⟨r, hr⟩ : ∃ r, r = j % 4 := ⟨_, rfl⟩
            obtain ⟨x, hx⟩ : ∃ x, x = h3.s[q]! := ⟨_, rfl⟩
            have eq4 : ((j : Int) / 4) = (q : Int) := by omega
            have er4 : ((j : Int) % 4) = (r : Int) := by omega
            have hq8 : q < 8 := by omega
            have hr4 : r < 4 := by omega
            have cg : wr.cell? ⟨g, 1 + q, none⟩ = some (.int .u32 x) := by
              refine cell_at (· = M) ?_ (by have := Hmg.out; show ¬ g = M; omega) wr HK.out
              rw [blk_cell Hvg.out, hashV_word h3 Hk3.out q hq8, hx]
            obtain ⟨v0, hv0⟩ : ∃ v0 : Value, wr.cell? ⟨M, j, none⟩ = some v0 := ⟨_, (blk_cell Hrow.out j).trans (List.getElem?_eq_getElem (by rw [outL_length _ _ (sumH_length h) hj]; exact h32))⟩
            have hf0 : wr.frozen? ⟨M, j, none⟩ = false := frozen_of_row _ _ _ _ _ Hrow.out
            have Hnx := hide (show outL (sumH h) (j + 1) = (outL (sumH h) j).set j (.int .u8 (x / 2 ^ (8 * (3 - r)) % 256)) by
              rw [outL_set _ _ (sumH_length h) h32]
              congr 1
              have e9 : (sumH h)[j]! = byteW (endH h).s j := by
                rw [sumH, getElem!_pos _ j (by simpa using h32)]; simp
              rw [e9, byteW_val, ← He3.out, hx, hq, hr])
            clear hq hr hx
            go_wp2_with (fail)
            exact ⟨⟨j + 1, by omega, by go_num, by rw [Hnx.out]; exact heap_set Hrow.out j _, HK.out.setCell (fun _ => rfl) _⟩, by simp [intOf]; omega⟩
          · obtain rfl : j = 32 := by omega
            go_wp2_with (fail)
            go_meet
            exact ⟨rfl, by rw [outL_all _ (sumH_length h)] at Hrow; exact Hrow.out, HK.out⟩
      case rest => as_aux_lemma =>
        obtain ⟨rfl, hrow, hk⟩ := hcut
        have Hrow := hide hrow
        have HK := hide hk
        have Hszl := hide (show (Tryz.prog.info? 59).map (·.size) = some (bytesV (sumH h)).length by rw [bytesV_length, sumH_length]; kernel_rfl)
        have Hsza := hide (show (Tryz.prog.info? 59).map (·.size) = some (bytesV (sumH h)).toArray.size by rw [List.size_toArray, bytesV_length, sumH_length]; kernel_rfl)
        have Hlen := hide (show (bytesV (sumH h)).length = z32L.length by rw [bytesV_length, sumH_length]; rfl)
        have HrN := hide (show wc.heap[N]? = some (.cells z32L.toArray 59 (0, 0)) from (hk.block N (blk_lt HvN.out) (by have := Hmg.out; show ¬ N = M; omega)).trans HvN.out)
        clear hrow hk
        go_wp2_with (first
          | (refine wpList_load_row rfl 59 (.tmp 6) rfl M rfl 59 (bytesV (sumH h)).toArray (0, 0) _ Hrow.out Tryz.underlying59 rfl Hsza.out ?_)
          | (refine wpList_store_all rfl 59 (.tmp 2) (.tmp 70) rfl N z32L (bytesV (sumH h)) 59 HrN.out rfl rfl Hlen.out Hszl.out (bytesV_one _) ?_)
          | fail)
        refine bodyPost_ret (results_cell_row rfl _ _ N _ _ _ _ rfl (setRow_heap _ _ _ _ _ _ HrN.out) Tryz.underlying59 rfl Hsza.out) rfl ?_
        exact ⟨rfl, below_setRow (HbV.out.trans (HK.out.below HbV.out.size (fun i e => by have := Hmg.out; omega))) (by have := Hmg.out; omega) _⟩
end Go.Proofs.YtahhglhebcooaaaGreatDoor
