/- manifest.Check. -/
import Derived.Test.YtimfmbcihopaaaaGreatDoorMapU
import Derived.Test.YtimfmbcihopaaaaGreatDoorMapV
import Derived.Deep.RegionWith
import Derived.Deep.RegionHeld3
namespace Go.Proofs.YtimfmbcihopaaaaGreatDoor
open Go.RowKit Go.Cof Go.Lib

/-- A name's kind, whatever its length. -/
theorem nkind_all (w : World) (s : ByteArray) (m : Int) (hm : w.cell? ⟨0, 0, none⟩ = some (.int .i64 m)) :
    Calls Tryz.prog 18 #[.string s] w fun e w' => e = .returned (.int .i64 (kindL s.data.toList)) ∧ Below w.heap.size w w' := by
  by_cases h64 : 64 < s.size
  · have hl : s.data.toList.length = s.size := by rw [Array.length_toList]; rfl
    have Hk := hide (show kindL s.data.toList = 0 by rw [kindL, hl, if_pos (.inl h64)])
    clear hl hm
    go_enter Tryz.func18, Tryz.ntmps18
    go_wp2_with fail
    go_ret
    exact ⟨by rw [Hk.out]; rfl, Below.refl _ _⟩
  · exact nkind_any w s m (by omega) hm

theorem kind_enters : ∀ (args : Array Value) (w : World), (callFunc 18 args).run Tryz.prog w = .ok (.enter 18 args) w := enters_of Tryz.func18 (by kernel_rfl) rfl
theorem less_enters : ∀ (args : Array Value) (w : World), (callFunc 20 args).run Tryz.prog w = .ok (.enter 20 args) w := enters_of Tryz.func20 (by kernel_rfl) rfl

theorem step_kind {ops : Array Oper} {o : Oper} {a : Act} {w : World} {K : Act → World → Prop} {Q : Exit → Act → World → Prop} {E : Prop} (hgd : o.guard = none) (x : Operand) (ts : Array TypeId)
    (ho : o.op = .call { callee := .value (.func 18), args := #[x], argTypes := ts }) (s : ByteArray) (m : Int) (hv : a.eval x = .string s) (hm : w.cell? ⟨0, 0, none⟩ = some (.int .i64 m)) (v : Int) (hk : v = kindL s.data.toList)
    (h : ∀ w', Below w.heap.size w w' → K (a.put o.dst (.int .i64 v)) w') : if Region.wanted o (yielded ops a.tmps) = true then Oper.wp Tryz.prog o a w K Q else E :=
  step_call hgd 18 #[x] ts ho kind_enters #[.string s] (by simp [hv]) (.int .i64 v) (fun w' => Below w.heap.size w w') (by rw [hk]; exact nkind_all w s m hm) h

theorem kindL_short (l : List UInt8) (h : kindL l ≠ 0) : l.length ≤ 64 := by
  by_cases h64 : 64 < l.length
  · exact absurd (by rw [kindL, if_pos (.inl h64)]) h
  · omega

theorem kindL_cases (l : List UInt8) : kindL l = 0 ∨ kindL l = 1 ∨ kindL l = 2 := by
  unfold kindL
  repeat' split
  all_goals simp

def nameAt (l : List RefA) (i : Nat) : List UInt8 := (l[i]?.map (·.name)).getD []
theorem nameAt_of (l : List RefA) (i : Nat) (h : i < l.length) : nameAt l i = l[i].name := by simp [nameAt, List.getElem?_eq_getElem h]
def refOkAt (l : List RefA) (i : Nat) : Bool := kindL (nameAt l i) != 0 && (i == 0 || lessL (nameAt l (i - 1)) (nameAt l i))
def refsOk (l : List RefA) : Bool := (List.range l.length).all (refOkAt l)
theorem refsOk_iff (l : List RefA) : refsOk l = true ↔ ∀ i, i < l.length → refOkAt l i = true := by simp [refsOk]
/-- May a body be? -/
def okB (b : BodyA) : Bool := decide (1 ≤ b.writer ∧ b.writer ≤ 255 ∧ b.refs.length ≤ 8 ∧ b.packs.length ≤ 12) && (refsOk b.refs && (b.packs.all packOk && (decide ((namesOf b.packs).length ≤ 48) && decide (namesOf b.packs).Nodup)))
def codeB (b : BodyA) : Nat := if okB b then 0 else 2

/-- A body's value, and what it leads to. -/
def BodyC (w : World) (T : Nat → Prop) (b : BodyA) (v : Value) : Prop :=
  ∃ AR cR xsR AP cP xsP, v = .agg #[.int .u64 b.gen, .int .u64 b.epoch, .int .i64 b.writer, .int .u64 b.stamp, .slice AR b.refs.length cR, .slice AP b.packs.length cP] ∧
    Rd w T 33 AR b.refs.length xsR ∧ Els RefC b.refs xsR ∧ Rd w T 34 AP b.packs.length xsP ∧ Els (PackC w T) b.packs xsP ∧ b.refs.length ≤ 140737488351232 ∧ b.packs.length ≤ 140737488351232 ∧ (∀ i, T i → i < w.heap.size)

/-- A sorted row without a name twice. -/
theorem noTwice_iff (d : Array (Bv 16)) (N : List (Bv 16)) (hp : d.toList.Perm N) (hs : Go.Sort.SortedIn (ltOf cfB) 0 d.size d) : NoTwice d ↔ N.Nodup := by
  rw [← hp.nodup_iff]
  constructor
  · intro h
    rw [List.Nodup, List.pairwise_iff_getElem]
    intro i j hi hj hij he
    rw [Array.length_toList] at hi hj
    have hge : ∀ p q, p < q → q < d.size → ¬ Lib.compareBytes d[q]!.toList d[p]!.toList < 0 := by
      intro p q hpq hq h1
      have h2 := hs p q (Nat.zero_le _) hpq hq
      rw [ltB, decide_eq_false_iff_not] at h2
      exact h2 h1
    have e1 : d[i]! = d[j]! := by
      rw [getElem!_pos d i hi, getElem!_pos d j hj]
      exact he
    refine h i (by omega) ?_
    have h3 := hge i (i + 1) (by omega) (by omega)
    have h4 : ¬ Lib.compareBytes d[j]!.toList d[i + 1]!.toList < 0 := by
      by_cases hj1 : i + 1 = j
      · rw [hj1, cmpB_self]; decide
      · exact hge (i + 1) j (by omega) hj
    rw [← e1] at h4
    have n1 := cmpB_neg d[i + 1]!.toList d[i]!.toList
    exact Vector.toList_inj.1 (cmpB_eq _ _ (by omega))
  · intro h i hi e
    rw [List.Nodup, List.pairwise_iff_getElem] at h
    have h2 := h i (i + 1) (by rw [Array.length_toList]; omega) (by rw [Array.length_toList]; exact hi) (by omega)
    rw [getElem!_pos d i (by omega), getElem!_pos d (i + 1) hi] at e
    exact h2 e.symm

theorem compact_small (A : Option Addr) (n cap : Nat) (w : World) (h : n < 2) :
    Calls Tryz.prog 24 #[.slice A n cap] w fun e w' => e = .returned (.slice A n cap) ∧ w' = w := by
  go_enter Tryz.func24, Tryz.ntmps24
  go_wp2_with fail
  go_ret
  exact ⟨rfl, rfl⟩

/-- Compact behind Names: as many are left just if none is there twice. -/
theorem compact_after (w w1 : World) (N : List (Bv 16)) (e : Ending) (h : Sorted w w1 N e) (hN : N.length ≤ 1000000) :
    ∃ A cap, e = .returned (.slice A N.length cap) ∧ Below w.heap.size w w1 ∧ Calls Tryz.prog 24 #[.slice A N.length cap] w1 fun e2 w2 => ∃ A2 n c2, e2 = .returned (.slice A2 n c2) ∧ (n = N.length ↔ N.Nodup) ∧ Below w.heap.size w w2 := by
  obtain ⟨A, cap, rfl, hb, hpos⟩ := h
  refine ⟨A, cap, rfl, hb, ?_⟩
  by_cases h0 : 0 < N.length
  · obtain ⟨g, d, rfl, hwg, hg, hH, hc1, _, hp, hs⟩ := hpos h0
    have hd : d.size = N.length := by rw [← Array.length_toList]; exact hp.length_eq
    have hcon := compact_any g 0 cap d w1 hH hg (by omega) (by omega)
    rw [hd] at hcon
    refine hcon.mono ?_
    rintro e2 w2 ⟨A2, n, c2, rfl, hn, hk⟩
    exact ⟨A2, n, c2, rfl, hn.trans (noTwice_iff d N hp hs), hb.trans (hk.below hb.size (fun i hi => by rw [hi]; exact hwg))⟩
  · have hn : N = [] := List.eq_nil_of_length_eq_zero (by omega)
    subst hn
    refine (compact_small A 0 cap w1 (by omega)).mono ?_
    rintro e2 w2 ⟨rfl, rfl⟩
    exact ⟨A, 0, cap, rfl, ⟨fun _ => List.nodup_nil, fun _ => rfl⟩, hb⟩

theorem codeB_bad1 (b : BodyA) (h : ¬ (1 ≤ b.writer ∧ b.writer ≤ 255 ∧ b.refs.length ≤ 8 ∧ b.packs.length ≤ 12)) : codeB b = 2 := by
  simp only [codeB, okB, decide_eq_false h, Bool.false_and]; rfl

theorem codeB_bad2 (b : BodyA) (k : Nat) (hk : k < b.refs.length) (h : refOkAt b.refs k = false) : codeB b = 2 := by
  have : refsOk b.refs = false := by
    rw [Bool.eq_false_iff]
    intro h2
    rw [(refsOk_iff _).1 h2 k hk] at h
    cases h
  simp only [codeB, okB, this, Bool.false_and, Bool.and_false]; rfl

set_option maxHeartbeats 4000000 in
set_option maxRecDepth 100000 in
theorem check_any (T : Nat → Prop) (b : BodyA) (v : Value) (m : Int) (w : World) (h : BodyC w T b v) (hm : w.cell? ⟨0, 0, none⟩ = some (.int .i64 m)) :
    Calls Tryz.prog 6 #[v] w fun e w' => e = .returned (.int .i64 (codeB b)) ∧ Below w.heap.size w w' := by
  have hsz0 : 0 < w.heap.size := World.block_lt_of_cell? _ _ hm
  obtain ⟨AR, cR, xsR, AP, cP, xsP, rfl, hrR, heR, hrP, heP, hlR, hlP, hT⟩ := h
  have HrR := hide hrR
  have HeR := hide heR
  have HrP := hide hrP
  have HeP := hide heP
  have HT := hide hT
  have Hm := hide hm
  clear hrR heR hrP heP hT hm
  by_cases hb : 1 ≤ b.writer ∧ b.writer ≤ 255 ∧ b.refs.length ≤ 8 ∧ b.packs.length ≤ 12
  · obtain ⟨h1, h2, h3, h4⟩ := hb
    go_enter Tryz.func6, Tryz.ntmps6
    go_wp2_with fail
    have Hbelow : Below w.heap.size w (w.alloc (.cells #[.int .u64 b.gen, .int .u64 b.epoch, .int .i64 b.writer, .int .u64 b.stamp, .slice AR b.refs.length cR, .slice AP b.packs.length cP] 26)) := (Below.refl _ _).alloc (Nat.le_refl _) _
    obtain ⟨wo, hwo⟩ : ∃ wo : World, wo = w.alloc (.cells #[.int .u64 b.gen, .int .u64 b.epoch, .int .i64 b.writer, .int .u64 b.stamp, .slice AR b.refs.length cR, .slice AP b.packs.length cP] 26) := ⟨_, rfl⟩
    have hrow : wo.heap[w.heap.size]? = some (.cells #[.int .u64 b.gen, .int .u64 b.epoch, .int .i64 b.writer, .int .u64 b.stamp, .slice AR b.refs.length cR, .slice AP b.packs.length cP] 26) := by rw [hwo]; exact heap_alloc_new _ _
    have hszo : wo.heap.size = w.heap.size + 1 := by rw [hwo]; simp
    rw [← hwo] at Hbelow ⊢
    have Hrow := hide hrow
    have Hszo := hide hszo
    have HB := hide Hbelow
    have H1 := hide h1
    have H2 := hide h2
    have H3 := hide h3
    have H4 := hide h4
    clear hwo Hbelow hrow hszo h1 h2 h3 h4
    go_loopw [30] (fun i wr => ∃ k : Nat, k ≤ b.refs.length ∧ i = .int .i64 k ∧ (∀ i, i < k → refOkAt b.refs i = true) ∧ Below wo.heap.size wo wr) (fun i _ => b.refs.length - (intOf i).toNat)
    case atStart => exact ⟨0, Nat.zero_le _, rfl, fun i hi => by omega, Below.refl _ _⟩
    case round =>
      obtain ⟨k, hk, rfl, hno, hb⟩ := hrel
      have Hno := hide hno
      have Hb := hide hb
      have hsz1 := hb.size
      clear hno hb
      by_cases hlt : k < b.refs.length
      · obtain ⟨bb, off, hA, hTb, hbl, _⟩ := HrR.out.at_ (by omega)
        obtain ⟨c, hc, hcl, hrg⟩ := rd_range (hA ▸ HrR.out) HeR.out rfl (fun p c => RefC.len p c) hlt
        subst hA
        have hbl2 : bb < wo.heap.size := Nat.lt_of_lt_of_le hbl HB.out.size
        have hrg1 := range_keep hrg (Keep.of_none HB.out) hbl (fun f => f)
        have hrg2 := hide (range_keep hrg1 (Keep.of_none Hb.out) hbl2 (fun f => f))
        have Hc := hide hc
        have hsz := hide (show (Tryz.prog.info? 57).map (·.size) = some c.length by rw [hcl]; kernel_rfl)
        have hst := store_new wr 57 33 c (by kernel_rfl) hcl (fun v hv => RefC.one _ c hc v hv)
        obtain ⟨x, hx⟩ : ∃ x, x = b.refs[k].name := ⟨_, rfl⟩
        have hc0 : c[0]? = some (.string ⟨x.toArray⟩) := by rw [hc.1, hx]; rfl
        have e0 : c[0]'(by omega) = .string ⟨x.toArray⟩ := (List.getElem?_eq_some_iff.1 hc0).2
        obtain ⟨kv, hkv⟩ : ∃ kv : Int, kv = kindL x := ⟨_, rfl⟩
        have hK : ∀ W : World, W.cell? ⟨0, 0, none⟩ = some (.int .i64 m) → Calls Tryz.prog 18 #[.string ⟨x.toArray⟩] W fun e w' => e = .returned (.int .i64 kv) ∧ Below W.heap.size W w' := fun W hW => by
          rw [hkv]
          exact nkind_all W ⟨x.toArray⟩ m hW
        have HK := hide hK
        have Hx := hide hx
        have Hkv := hide hkv
        have hm1 : (wr.alloc (.cells c.toArray 57)).drew.cell? ⟨0, 0, none⟩ = some (.int .i64 m) := by
          have h1 := Hb.out.cell (p := ⟨0, 0, none⟩) (by have := HB.out.size; show 0 < _; omega)
          have h2 := HB.out.cell (p := ⟨0, 0, none⟩) hsz0
          exact (Below.heap_alloc wr (.cells c.toArray 57) 0 (by have := HB.out.size; omega) |> fun h => World.cell?_of_block (w := wr) (w' := (wr.alloc (.cells c.toArray 57)).drew) (a := ⟨0, 0, none⟩) h).trans (h1.trans (h2.trans Hm.out))
        have hkv2 : kv = 0 ∨ kv = 1 ∨ kv = 2 := by have := kindL_cases x; omega
        have m0 : (wr.alloc (.cells c.toArray 57)).cell? ⟨wr.heap.size, 0, none⟩ = some (.string ⟨x.toArray⟩) := by
          rw [cell_of_row _ _ 0 _ _ _ (heap_alloc_new _ _), List.getElem?_toArray]
          exact hc0
        have Hkv2 := hide hkv2
        clear hrg hrg1 hc hK hkv hx hc0 hkv2
        go_wp2_with (refine wpList_load_mid rfl 57 (.tmp 33) rfl bb (off + k * 33) rfl c _ hrg2.out Tryz.underlying57 rfl hsz.out ?_)
        rcases Hkv2.out with rfl | hk12
        · have Hbad := hide (codeB_bad2 b k hlt (by
            have h1 : kindL (nameAt b.refs k) = 0 := by
              rw [nameAt_of _ _ hlt, ← Hx.out]
              have := Hkv.out
              omega
            simp [refOkAt, h1]))
          obtain ⟨W, hW⟩ : ∃ W : World, W = wr.alloc (.cells c.toArray 57) := ⟨_, rfl⟩
          rw [← hW] at m0 hm1
          rw [← hW]
          have hm2 : W.cell? ⟨0, 0, none⟩ = some (.int .i64 m) := hm1
          obtain ⟨C, hC⟩ : ∃ C : World → Prop, C = fun w' => Below W.heap.size W w' := ⟨_, rfl⟩
          have hWs : wr.heap.size < W.heap.size := by rw [hW]; simp
          have hC0 : C W.drew := by rw [hC]; exact (Below.refl _ _).drew
          have hcm : ∀ w', C w' → w'.cell? ⟨0, 0, none⟩ = some (.int .i64 m) := fun w' hw => by rw [hC] at hw; exact (hw.cell (p := ⟨0, 0, none⟩) (by show 0 < _; omega)).trans hm2
          have hc0' : ∀ w', C w' → w'.cell? ⟨wr.heap.size, 0, none⟩ = some (.string ⟨x.toArray⟩) := fun w' hw => by rw [hC] at hw; exact (hw.cell (p := ⟨wr.heap.size, 0, none⟩) hWs).trans m0
          have hcall : ∀ w', C w' → Calls Tryz.prog 18 #[.string ⟨x.toArray⟩] w' fun e w2 => e = .returned (.int .i64 0) ∧ C w2 := fun w' hw => (HK.out w' (hcm w' hw)).mono fun e w2 hh => ⟨hh.1, by rw [hC] at hw ⊢; exact hw.trans (hh.2.mono hw.size)⟩
          have HC0 := hide (InC.of hc0')
          have HCall := hide (InC.of (R := fun w' => Calls Tryz.prog 18 #[.string ⟨x.toArray⟩] w' fun e w2 => e = .returned (.int .i64 0) ∧ InC C w2) (fun w' hw => (hcall w' hw).mono fun _ w2 hh => ⟨hh.1, ⟨w2, hh.2⟩, rfl⟩))
          haveI : Nonempty (Wl C) := ⟨⟨_, hC0⟩⟩
          have HWd := hide (show Below wo.heap.size wo W by rw [hW]; exact Hb.out.alloc hsz1 _)
          have HCd := hide hC
          clear hcm hc0' hcall m0 hm1 hm2 hC hW
          refine wp_region_class C (by kernel_rfl) (by kernel_rfl) hC0 ?_
          repeat (first | go_big_quiet_skip | (go_big_quiet_want; first
            | (refine quiet_load 9 (.tmp 35) rfl ⟨wr.heap.size, 0, none⟩ rfl (.string ⟨x.toArray⟩) HC0.out _ Tryz.underlying9 rfl ?_; go_simp; go_big_quiet_on)
            | (refine quiet_call 18 #[.tmp 36] #[9] rfl kind_enters #[.string ⟨x.toArray⟩] (by simp only [List.map_toArray, List.map_cons, List.map_nil]; rfl) (.int .i64 0) HCall.out ?_; go_simp; go_big_quiet_on)
            | (go_big_quiet_op; go_big_quiet_on)))
          refine wpQuiet_nil ?_
          intro wz hwz
          obtain ⟨⟨_, hz⟩, rfl⟩ := hwz
          rw [HCd.out] at hz
          have Hz := hide (HWd.out.trans (hz.mono HWd.out.size))
          clear hz

          go_wp2_with fail
          go_ret
          exact ⟨by rw [Hbad.out]; rfl, HB.out.trans (Hz.out.mono HB.out.size)⟩
        · have Hkn := hide (show kindL x ≠ 0 by have := Hkv.out; omega)
          have hkz : (kv == (0 : Int)) = false := by rw [beq_eq_false_iff_ne]; omega
          clear hk12
          rcases k with _ | j
          · have Hgood := hide (show refOkAt b.refs 0 = true by
              have h1 : nameAt b.refs 0 = x := by rw [nameAt_of _ _ hlt, ← Hx.out]
              simp [refOkAt, h1, Hkn.out])
            obtain ⟨W, hW⟩ : ∃ W : World, W = wr.alloc (.cells c.toArray 57) := ⟨_, rfl⟩
            rw [← hW] at m0 hm1
            rw [← hW]
            have hm2 : W.cell? ⟨0, 0, none⟩ = some (.int .i64 m) := hm1
            obtain ⟨C, hC⟩ : ∃ C : World → Prop, C = fun w' => Below W.heap.size W w' := ⟨_, rfl⟩
            have hWs : wr.heap.size < W.heap.size := by rw [hW]; simp
            have hC0 : C W.drew := by rw [hC]; exact (Below.refl _ _).drew
            have hcm : ∀ w', C w' → w'.cell? ⟨0, 0, none⟩ = some (.int .i64 m) := fun w' hw => by rw [hC] at hw; exact (hw.cell (p := ⟨0, 0, none⟩) (by show 0 < _; omega)).trans hm2
            have hc0' : ∀ w', C w' → w'.cell? ⟨wr.heap.size, 0, none⟩ = some (.string ⟨x.toArray⟩) := fun w' hw => by rw [hC] at hw; exact (hw.cell (p := ⟨wr.heap.size, 0, none⟩) hWs).trans m0
            have hcall : ∀ w', C w' → Calls Tryz.prog 18 #[.string ⟨x.toArray⟩] w' fun e w2 => e = .returned (.int .i64 kv) ∧ C w2 := fun w' hw => (HK.out w' (hcm w' hw)).mono fun e w2 hh => ⟨hh.1, by rw [hC] at hw ⊢; exact hw.trans (hh.2.mono hw.size)⟩
            have HC0 := hide (InC.of hc0')
            have HCall := hide (InC.of (R := fun w' => Calls Tryz.prog 18 #[.string ⟨x.toArray⟩] w' fun e w2 => e = .returned (.int .i64 kv) ∧ InC C w2) (fun w' hw => (hcall w' hw).mono fun _ w2 hh => ⟨hh.1, ⟨w2, hh.2⟩, rfl⟩))
            haveI : Nonempty (Wl C) := ⟨⟨_, hC0⟩⟩
            have HWd := hide (show Below wo.heap.size wo W by rw [hW]; exact Hb.out.alloc hsz1 _)
            have HCd := hide hC
            clear hcm hc0' hcall m0 hm1 hm2 hC hW
            refine wp_region_class C (by kernel_rfl) (by kernel_rfl) hC0 ?_
            repeat (first | go_big_quiet_skip | (go_big_quiet_want; first
              | (refine quiet_load 9 (.tmp 35) rfl ⟨wr.heap.size, 0, none⟩ rfl (.string ⟨x.toArray⟩) HC0.out _ Tryz.underlying9 rfl ?_; go_simp; go_big_quiet_on)
              | (refine quiet_call 18 #[.tmp 36] #[9] rfl kind_enters #[.string ⟨x.toArray⟩] (by simp only [List.map_toArray, List.map_cons, List.map_nil]; rfl) (.int .i64 kv) HCall.out ?_; go_simp; go_big_quiet_on)
              | (go_big_quiet_op; go_big_quiet_on)))
            refine wpQuiet_nil ?_
            intro wz hwz
            obtain ⟨⟨_, hz⟩, rfl⟩ := hwz
            rw [HCd.out] at hz
            have Hz := hide (HWd.out.trans (hz.mono HWd.out.size))
            clear hz

            go_wp2_with fail
            refine ⟨⟨0 + 1, by omega, by go_num, ?_, Hz.out⟩, by simp [intOf]; omega⟩
            intro i hi
            by_cases e : i = 0
            · subst e; exact Hgood.out
            · exact Hno.out i (by omega)
          · have hj : j < b.refs.length := by omega
            obtain ⟨c2, hc2, hcl2, hrgy⟩ := rd_range HrR.out HeR.out rfl (fun p c => RefC.len p c) hj
            obtain ⟨y, hy⟩ : ∃ y, y = b.refs[j].name := ⟨_, rfl⟩
            have hcy := hide (show wo.cell? ⟨bb, off + j * 33, none⟩ = some (.string ⟨y.toArray⟩) by
              have h1 := range_keep hrgy (Keep.of_none HB.out) hbl (fun f => f) 0 (.string ⟨y.toArray⟩) (by rw [hc2.1, hy]; rfl)
              simpa using h1)
            have Hy := hide hy
            clear hc2 hcl2 hrgy hy
            have hj0 : (0 : Int) ≤ (j : Int) := Int.natCast_nonneg j
            have hj1 : (j : Int) < b.refs.length := Int.ofNat_lt.2 hj
            have hjp : (0 : Int) < (j : Int) + 1 := by omega
            have hwj2 : wrap64 (j : Int) = j := w64 _ (by omega)
            rcases hls' : lessL y x with _ | _
            · have Hbad := hide (codeB_bad2 b (j + 1) hlt (by
                have h1 : nameAt b.refs (j + 1) = x := by rw [nameAt_of _ _ hlt, ← Hx.out]
                have h2 : nameAt b.refs j = y := by rw [nameAt_of _ _ hj, ← Hy.out]
                simp [refOkAt, h1, h2, hls']))
              have hls := hide hls'
              clear hls'
              obtain ⟨W, hW⟩ : ∃ W : World, W = wr.alloc (.cells c.toArray 57) := ⟨_, rfl⟩
              rw [← hW] at m0 hm1
              rw [← hW]
              have hm2 : W.cell? ⟨0, 0, none⟩ = some (.int .i64 m) := hm1
              obtain ⟨C, hC⟩ : ∃ C : World → Prop, C = fun w' => Below W.heap.size W w' := ⟨_, rfl⟩
              have hWs : wr.heap.size < W.heap.size := by rw [hW]; simp
              have hC0 : C W.drew := by rw [hC]; exact (Below.refl _ _).drew
              have hcm : ∀ w', C w' → w'.cell? ⟨0, 0, none⟩ = some (.int .i64 m) := fun w' hw => by rw [hC] at hw; exact (hw.cell (p := ⟨0, 0, none⟩) (by show 0 < _; omega)).trans hm2
              have hc0' : ∀ w', C w' → w'.cell? ⟨wr.heap.size, 0, none⟩ = some (.string ⟨x.toArray⟩) := fun w' hw => by rw [hC] at hw; exact (hw.cell (p := ⟨wr.heap.size, 0, none⟩) hWs).trans m0
              have hcall : ∀ w', C w' → Calls Tryz.prog 18 #[.string ⟨x.toArray⟩] w' fun e w2 => e = .returned (.int .i64 kv) ∧ C w2 := fun w' hw => (HK.out w' (hcm w' hw)).mono fun e w2 hh => ⟨hh.1, by rw [hC] at hw ⊢; exact hw.trans (hh.2.mono hw.size)⟩
              have HC0 := hide (InC.of hc0')
              have HCall := hide (InC.of (R := fun w' => Calls Tryz.prog 18 #[.string ⟨x.toArray⟩] w' fun e w2 => e = .returned (.int .i64 kv) ∧ InC C w2) (fun w' hw => (hcall w' hw).mono fun _ w2 hh => ⟨hh.1, ⟨w2, hh.2⟩, rfl⟩))
              haveI : Nonempty (Wl C) := ⟨⟨_, hC0⟩⟩
              have HWd := hide (show Below wo.heap.size wo W by rw [hW]; exact Hb.out.alloc hsz1 _)
              have hc1' : ∀ w', C w' → w'.cell? ⟨w.heap.size, 4, none⟩ = some (.slice (some ⟨bb, off, none⟩) b.refs.length cR) := fun w' hw => by
                rw [hC] at hw
                have h0 := HWd.out.cell (p := ⟨w.heap.size, 4, none⟩) (by have := Hszo.out; show w.heap.size < _; omega)
                exact (hw.cell (p := ⟨w.heap.size, 4, none⟩) (by have := Hszo.out; show w.heap.size < _; omega)).trans (h0.trans (cell_of_row _ _ 4 _ _ _ Hrow.out))
              have hc2' : ∀ w', C w' → w'.cell? ⟨bb, off + j * 33, none⟩ = some (.string ⟨y.toArray⟩) := fun w' hw => by
                rw [hC] at hw
                exact (hw.cell (p := ⟨bb, off + j * 33, none⟩) (by show bb < _; omega)).trans ((HWd.out.cell (p := ⟨bb, off + j * 33, none⟩) hbl2).trans hcy.out)
              have HC1 := hide (InC.of hc1')
              have HC2 := hide (InC.of hc2')
              have hls2 : lessL (⟨y.toArray⟩ : ByteArray).data.toList (⟨x.toArray⟩ : ByteArray).data.toList = false := by
                have e1 : (⟨y.toArray⟩ : ByteArray).data.toList = y := List.toList_toArray
                have e2 : (⟨x.toArray⟩ : ByteArray).data.toList = x := List.toList_toArray
                rw [e1, e2]
                exact hls.out
              have HCall2 := hide (InC.of (C := C) (R := fun w' => Calls Tryz.prog 20 #[.string ⟨y.toArray⟩, .string ⟨x.toArray⟩] w' fun e w2 => e = .returned (.bool false) ∧ InC C w2) (fun w' hw => (nless_any w' ⟨y.toArray⟩ ⟨x.toArray⟩).mono fun _ w2 hh => ⟨by rw [hh.1, hls2], ⟨w2, by rw [hh.2]; exact hw⟩, rfl⟩))
              clear hc1' hc2' hls2
              have HCd := hide hC
              clear hcm hc0' hcall m0 hm1 hm2 hC hW
              refine wp_region_class C (by kernel_rfl) (by kernel_rfl) hC0 ?_
              repeat (first | go_big_quiet_skip | (go_big_quiet_want; first
                | (refine quiet_load 9 (.tmp 35) rfl ⟨wr.heap.size, 0, none⟩ rfl (.string ⟨x.toArray⟩) HC0.out _ Tryz.underlying9 rfl ?_; go_simp; go_big_quiet_on)
                | (refine quiet_call 18 #[.tmp 36] #[9] rfl kind_enters #[.string ⟨x.toArray⟩] (by simp only [List.map_toArray, List.map_cons, List.map_nil]; rfl) (.int .i64 kv) HCall.out ?_; go_simp; go_big_quiet_on)
                | (refine quiet_load 23 (.tmp 43) rfl ⟨w.heap.size, 4, none⟩ rfl (.slice (some ⟨bb, off, none⟩) b.refs.length cR) HC1.out _ Tryz.underlying23 rfl ?_; go_simp; go_big_quiet_on)
                | (refine quiet_load 9 (.tmp 48) rfl ⟨bb, off + j * 33, none⟩ rfl (.string ⟨y.toArray⟩) HC2.out _ Tryz.underlying9 rfl ?_; go_simp; go_big_quiet_on)
                | (refine quiet_load 9 (.tmp 50) rfl ⟨wr.heap.size, 0, none⟩ rfl (.string ⟨x.toArray⟩) HC0.out _ Tryz.underlying9 rfl ?_; go_simp; go_big_quiet_on)
                | (refine quiet_call 20 #[.tmp 49, .tmp 51] #[9, 9] rfl less_enters #[.string ⟨y.toArray⟩, .string ⟨x.toArray⟩] (by simp only [List.map_toArray, List.map_cons, List.map_nil]; rfl) (.bool false) HCall2.out ?_; go_simp; go_big_quiet_on)
                | (go_big_quiet_op; go_big_quiet_on)))
              refine wpQuiet_nil ?_
              intro wz hwz
              obtain ⟨⟨_, hz⟩, rfl⟩ := hwz
              rw [HCd.out] at hz
              have Hz := hide (HWd.out.trans (hz.mono HWd.out.size))
              clear hz

              go_wp2_with fail
              go_ret
              exact ⟨by rw [Hbad.out]; rfl, HB.out.trans (Hz.out.mono HB.out.size)⟩
            · have Hgood := hide (show refOkAt b.refs (j + 1) = true by
                have h1 : nameAt b.refs (j + 1) = x := by rw [nameAt_of _ _ hlt, ← Hx.out]
                have h2 : nameAt b.refs j = y := by rw [nameAt_of _ _ hj, ← Hy.out]
                simp [refOkAt, h1, h2, hls', Hkn.out])
              have hls := hide hls'
              clear hls'
              obtain ⟨W, hW⟩ : ∃ W : World, W = wr.alloc (.cells c.toArray 57) := ⟨_, rfl⟩
              rw [← hW] at m0 hm1
              rw [← hW]
              have hm2 : W.cell? ⟨0, 0, none⟩ = some (.int .i64 m) := hm1
              obtain ⟨C, hC⟩ : ∃ C : World → Prop, C = fun w' => Below W.heap.size W w' := ⟨_, rfl⟩
              have hWs : wr.heap.size < W.heap.size := by rw [hW]; simp
              have hC0 : C W.drew := by rw [hC]; exact (Below.refl _ _).drew
              have hcm : ∀ w', C w' → w'.cell? ⟨0, 0, none⟩ = some (.int .i64 m) := fun w' hw => by rw [hC] at hw; exact (hw.cell (p := ⟨0, 0, none⟩) (by show 0 < _; omega)).trans hm2
              have hc0' : ∀ w', C w' → w'.cell? ⟨wr.heap.size, 0, none⟩ = some (.string ⟨x.toArray⟩) := fun w' hw => by rw [hC] at hw; exact (hw.cell (p := ⟨wr.heap.size, 0, none⟩) hWs).trans m0
              have hcall : ∀ w', C w' → Calls Tryz.prog 18 #[.string ⟨x.toArray⟩] w' fun e w2 => e = .returned (.int .i64 kv) ∧ C w2 := fun w' hw => (HK.out w' (hcm w' hw)).mono fun e w2 hh => ⟨hh.1, by rw [hC] at hw ⊢; exact hw.trans (hh.2.mono hw.size)⟩
              have HC0 := hide (InC.of hc0')
              have HCall := hide (InC.of (R := fun w' => Calls Tryz.prog 18 #[.string ⟨x.toArray⟩] w' fun e w2 => e = .returned (.int .i64 kv) ∧ InC C w2) (fun w' hw => (hcall w' hw).mono fun _ w2 hh => ⟨hh.1, ⟨w2, hh.2⟩, rfl⟩))
              haveI : Nonempty (Wl C) := ⟨⟨_, hC0⟩⟩
              have HWd := hide (show Below wo.heap.size wo W by rw [hW]; exact Hb.out.alloc hsz1 _)
              have hc1' : ∀ w', C w' → w'.cell? ⟨w.heap.size, 4, none⟩ = some (.slice (some ⟨bb, off, none⟩) b.refs.length cR) := fun w' hw => by
                rw [hC] at hw
                have h0 := HWd.out.cell (p := ⟨w.heap.size, 4, none⟩) (by have := Hszo.out; show w.heap.size < _; omega)
                exact (hw.cell (p := ⟨w.heap.size, 4, none⟩) (by have := Hszo.out; show w.heap.size < _; omega)).trans (h0.trans (cell_of_row _ _ 4 _ _ _ Hrow.out))
              have hc2' : ∀ w', C w' → w'.cell? ⟨bb, off + j * 33, none⟩ = some (.string ⟨y.toArray⟩) := fun w' hw => by
                rw [hC] at hw
                exact (hw.cell (p := ⟨bb, off + j * 33, none⟩) (by show bb < _; omega)).trans ((HWd.out.cell (p := ⟨bb, off + j * 33, none⟩) hbl2).trans hcy.out)
              have HC1 := hide (InC.of hc1')
              have HC2 := hide (InC.of hc2')
              have hls2 : lessL (⟨y.toArray⟩ : ByteArray).data.toList (⟨x.toArray⟩ : ByteArray).data.toList = true := by
                have e1 : (⟨y.toArray⟩ : ByteArray).data.toList = y := List.toList_toArray
                have e2 : (⟨x.toArray⟩ : ByteArray).data.toList = x := List.toList_toArray
                rw [e1, e2]
                exact hls.out
              have HCall2 := hide (InC.of (C := C) (R := fun w' => Calls Tryz.prog 20 #[.string ⟨y.toArray⟩, .string ⟨x.toArray⟩] w' fun e w2 => e = .returned (.bool true) ∧ InC C w2) (fun w' hw => (nless_any w' ⟨y.toArray⟩ ⟨x.toArray⟩).mono fun _ w2 hh => ⟨by rw [hh.1, hls2], ⟨w2, by rw [hh.2]; exact hw⟩, rfl⟩))
              clear hc1' hc2' hls2
              have HCd := hide hC
              clear hcm hc0' hcall m0 hm1 hm2 hC hW
              refine wp_region_class C (by kernel_rfl) (by kernel_rfl) hC0 ?_
              repeat (first | go_big_quiet_skip | (go_big_quiet_want; first
                | (refine quiet_load 9 (.tmp 35) rfl ⟨wr.heap.size, 0, none⟩ rfl (.string ⟨x.toArray⟩) HC0.out _ Tryz.underlying9 rfl ?_; go_simp; go_big_quiet_on)
                | (refine quiet_call 18 #[.tmp 36] #[9] rfl kind_enters #[.string ⟨x.toArray⟩] (by simp only [List.map_toArray, List.map_cons, List.map_nil]; rfl) (.int .i64 kv) HCall.out ?_; go_simp; go_big_quiet_on)
                | (refine quiet_load 23 (.tmp 43) rfl ⟨w.heap.size, 4, none⟩ rfl (.slice (some ⟨bb, off, none⟩) b.refs.length cR) HC1.out _ Tryz.underlying23 rfl ?_; go_simp; go_big_quiet_on)
                | (refine quiet_load 9 (.tmp 48) rfl ⟨bb, off + j * 33, none⟩ rfl (.string ⟨y.toArray⟩) HC2.out _ Tryz.underlying9 rfl ?_; go_simp; go_big_quiet_on)
                | (refine quiet_load 9 (.tmp 50) rfl ⟨wr.heap.size, 0, none⟩ rfl (.string ⟨x.toArray⟩) HC0.out _ Tryz.underlying9 rfl ?_; go_simp; go_big_quiet_on)
                | (refine quiet_call 20 #[.tmp 49, .tmp 51] #[9, 9] rfl less_enters #[.string ⟨y.toArray⟩, .string ⟨x.toArray⟩] (by simp only [List.map_toArray, List.map_cons, List.map_nil]; rfl) (.bool true) HCall2.out ?_; go_simp; go_big_quiet_on)
                | (go_big_quiet_op; go_big_quiet_on)))
              refine wpQuiet_nil ?_
              intro wz hwz
              obtain ⟨⟨_, hz⟩, rfl⟩ := hwz
              rw [HCd.out] at hz
              have Hz := hide (HWd.out.trans (hz.mono HWd.out.size))
              clear hz

              go_wp2_with fail
              refine ⟨⟨(j + 1) + 1, by omega, by go_num, ?_, Hz.out⟩, by simp [intOf]; omega⟩
              intro i hi
              by_cases e : i = (j + 1)
              · subst e; exact Hgood.out
              · exact Hno.out i (by omega)
      · have hrefs : refsOk b.refs = true := (refsOk_iff _).2 (fun i hi => Hno.out i (by omega))
        have Hrefs := hide hrefs
        clear hrefs
        have hszw := Hszo.out
        have hc5 : wr.cell? ⟨w.heap.size, 5, none⟩ = some (.slice AP b.packs.length cP) := (Hb.out.cell (p := ⟨w.heap.size, 5, none⟩) (by show w.heap.size < _; omega)).trans (cell_of_row _ _ 5 _ _ _ Hrow.out)
        have HrP1 := hide ((HrP.out.keep (Keep.of_none HB.out) (fun _ _ _ f => f)).keep (Keep.of_none Hb.out) (fun _ _ _ f => f))
        have HeP1 := hide (HeP.out.imp fun p c _ hp => PackC.keep (Keep.of_none Hb.out) (fun _ _ _ f => f) p c (PackC.keep (Keep.of_none HB.out) (fun _ _ _ f => f) p c hp))
        have Hcon := hide (containsP_any AP cP b.packs T T xsP wr HrP1.out HeP1.out hlP)
        have HwB := hide (HB.out.trans (Hb.out.mono HB.out.size))
        have hszo2 := HB.out.size
        clear hszw hszo2
        rcases hpk : b.packs.all packOk with _ | _
        · have Hbad := hide (show codeB b = 2 by simp only [codeB, okB, hpk, Bool.false_and, Bool.and_false]; rfl)
          have hcn := Hcon.out
          rw [hpk] at hcn
          have Hcn := hide hcn
          clear hcn Hcon hpk
          go_wp2_with (go_at_call 21; refine Hcn.out.mono ?_; rintro e w1 ⟨rfl, hb1⟩; have Hb1 := hide hb1; clear hb1)
          go_ret
          exact ⟨by rw [Hbad.out]; rfl, HwB.out.trans (Hb1.out.mono HwB.out.size)⟩
        · have hcn := Hcon.out
          rw [hpk] at hcn
          have Hcn := hide hcn
          have Hpk := hide hpk
          clear hcn Hcon hpk
          go_upto_region 11 with (go_at_call 21; refine Hcn.out.mono ?_; rintro e w1 ⟨rfl, hb1⟩; have Hb1 := hide hb1; clear hb1)
          have HwB1 := hide (HwB.out.trans (Hb1.out.mono HwB.out.size))
          have hwrN : w.heap.size < wr.heap.size := by
            have h1 := Hszo.out
            have h2 := Hb.out.size
            omega
          have hrow1 : w1.heap[w.heap.size]? = some (.cells #[.int .u64 b.gen, .int .u64 b.epoch, .int .i64 b.writer, .int .u64 b.stamp, .slice AR b.refs.length cR, .slice AP b.packs.length cP] 26) :=
            (Hb1.out.block _ hwrN).trans ((Hb.out.block _ (by have h1 := Hszo.out; omega)).trans Hrow.out)
          have Hrow1 := hide hrow1
          have HrP2 := hide (HrP1.out.keep (Keep.of_none Hb1.out) (fun _ _ _ f => f))
          have HeP2 := hide (HeP1.out.imp fun p c _ hp => PackC.keep (Keep.of_none Hb1.out) (fun _ _ _ f => f) p c hp)
          have hall : ∀ p ∈ b.packs, p.blobs.length ≤ 48 := fun p hp => by
            have h1 := List.all_eq_true.1 Hpk.out p hp
            unfold packOk at h1
            have h2 := of_decide_eq_true h1
            exact h2.2.2.2
          have HN1 := hide (names_any AR AP cR cP b.refs.length b.gen b.epoch b.stamp b.writer b.packs T T xsP w1 HrP2.out HeP2.out (fun i hi => Nat.lt_of_lt_of_le (HT.out i hi) HwB1.out.size) H4.out hall)
          have hfew := names_few b.packs hall
          have hfew2 : (namesOf b.packs).length ≤ 1000000 := by have := H4.out; omega
          have Hall := hide hall
          clear hrow1 hall hfew hwrN
          obtain ⟨N, hN⟩ : ∃ N, N = namesOf b.packs := ⟨_, rfl⟩
          rw [← hN] at HN1 hfew2
          have HNd := hide hN
          clear hN
          have hszr : (Tryz.prog.info? 26).map (·.size) = some 6 := by kernel_rfl
          have Hszr := hide hszr
          clear hszr
          have hgood : codeB b = if decide (N.length ≤ 48) && decide N.Nodup then 0 else 2 := by
            have h1 : decide (1 ≤ b.writer ∧ b.writer ≤ 255 ∧ b.refs.length ≤ 8 ∧ b.packs.length ≤ 12) = true := decide_eq_true ⟨H1.out, H2.out, H3.out, H4.out⟩
            simp only [codeB, okB, h1, Hrefs.out, Hpk.out, Bool.true_and, ← HNd.out]
          by_cases h48 : N.length ≤ 48
          · by_cases hnd : N.Nodup
            · have Hcode := hide (show codeB b = 0 by rw [hgood, decide_eq_true h48, decide_eq_true hnd]; rfl)
              clear hgood
              have Hnd := hide hnd
              clear hnd
              go_wp2_with (first
                | (refine wpList_load_row rfl 26 (.tmp 1) rfl w.heap.size rfl 26 _ (0, 0) _ Hrow1.out Tryz.underlying26 rfl Hszr.out ?_)
                | (go_at_call 19; refine HN1.out.mono ?_; intro e w2 hS; obtain ⟨A, cap, rfl, hb2, hcomp⟩ := compact_after _ _ _ _ hS hfew2; have Hb2 := hide hb2; have Hcomp := hide hcomp; clear hS hb2 hcomp)
                | (go_at_call 24; refine Hcomp.out.mono ?_; rintro e2 w3 ⟨A2, n, c2, rfl, hn, hb3⟩; obtain rfl : n = N.length := hn.2 Hnd.out; have Hb3 := hide hb3; clear hn hb3))
              go_ret
              exact ⟨by rw [Hcode.out]; rfl, HwB1.out.trans (Hb3.out.mono HwB1.out.size)⟩
            · have Hcode := hide (show codeB b = 2 by rw [hgood, decide_eq_false hnd, Bool.and_false]; rfl)
              clear hgood
              have Hnd := hide hnd
              clear hnd
              go_wp2_with (first
                | (refine wpList_load_row rfl 26 (.tmp 1) rfl w.heap.size rfl 26 _ (0, 0) _ Hrow1.out Tryz.underlying26 rfl Hszr.out ?_)
                | (go_at_call 19; refine HN1.out.mono ?_; intro e w2 hS; obtain ⟨A, cap, rfl, hb2, hcomp⟩ := compact_after _ _ _ _ hS hfew2; have Hb2 := hide hb2; have Hcomp := hide hcomp; clear hS hb2 hcomp)
                | (go_at_call 24; refine Hcomp.out.mono ?_; rintro e2 w3 ⟨A2, n, c2, rfl, hn, hb3⟩; have hne : ((n : Int) == (N.length : Int)) = false := (by rw [beq_eq_false_iff_ne]; intro h; exact Hnd.out (hn.1 (by omega))); have hne3 : ¬ n = N.length := (fun h => Hnd.out (hn.1 h)); have hne5 : ((n : Int) != (N.length : Int)) = true := (by unfold bne; rw [hne]; rfl); have Hb3 := hide hb3; clear hn hb3))
              go_ret
              exact ⟨by rw [Hcode.out]; rfl, HwB1.out.trans (Hb3.out.mono HwB1.out.size)⟩
          · have Hcode := hide (show codeB b = 2 by rw [hgood, decide_eq_false h48, Bool.false_and]; rfl)
            clear hgood
            go_wp2_with (first
                | (refine wpList_load_row rfl 26 (.tmp 1) rfl w.heap.size rfl 26 _ (0, 0) _ Hrow1.out Tryz.underlying26 rfl Hszr.out ?_)
                | (go_at_call 19; refine HN1.out.mono ?_; intro e w2 hS; obtain ⟨A, cap, rfl, hb2, hcomp⟩ := compact_after _ _ _ _ hS hfew2; have Hb2 := hide hb2; have Hcomp := hide hcomp; clear hS hb2 hcomp))
            go_ret
            exact ⟨by rw [Hcode.out]; rfl, HwB1.out.trans (Hb2.out.mono HwB1.out.size)⟩
  · rw [codeB_bad1 b hb]
    by_cases h1 : 1 ≤ b.writer
    · by_cases h2 : b.writer ≤ 255
      · by_cases h3 : b.refs.length ≤ 8
        · have h4 : ¬ b.packs.length ≤ 12 := fun h4 => hb ⟨h1, h2, h3, h4⟩
          go_enter Tryz.func6, Tryz.ntmps6
          go_wp2_with fail
          go_ret
          exact ⟨rfl, (Below.refl _ _).alloc (Nat.le_refl _) _⟩
        · go_enter Tryz.func6, Tryz.ntmps6
          go_wp2_with fail
          go_ret
          exact ⟨rfl, (Below.refl _ _).alloc (Nat.le_refl _) _⟩
      · go_enter Tryz.func6, Tryz.ntmps6
        go_wp2_with fail
        go_ret
        exact ⟨rfl, (Below.refl _ _).alloc (Nat.le_refl _) _⟩
    · go_enter Tryz.func6, Tryz.ntmps6
      go_wp2_with fail
      go_ret
      exact ⟨rfl, (Below.refl _ _).alloc (Nat.le_refl _) _⟩
end Go.Proofs.YtimfmbcihopaaaaGreatDoor
