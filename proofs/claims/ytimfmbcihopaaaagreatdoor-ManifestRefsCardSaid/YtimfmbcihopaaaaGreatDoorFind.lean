/- manifest.at, manifest.Find: the place of a reference's name. -/
import Derived.Test.YtimfmbcihopaaaaGreatDoorPuts
namespace Go.Proofs.YtimfmbcihopaaaaGreatDoor
open Go.RowKit Go.Cof

/-! The order of names. -/
theorem lessL_irrefl : ∀ a : List UInt8, lessL a a = false
  | [] => rfl
  | x :: a => by
    have := lessL_irrefl a
    unfold lessL at this ⊢
    simp [Op.bytesLess, this]
theorem lessL_trans : ∀ a b c : List UInt8, lessL a b = true → lessL b c = true → lessL a c = true
  | a, [], _, h, _ => by cases a <;> simp [lessL, Op.bytesLess] at h
  | _, _ :: _, [], _, h => by unfold lessL at h; simp [Op.bytesLess] at h
  | [], _ :: _, _ :: _, _, _ => rfl
  | x :: a, y :: b, z :: c, h1, h2 => by
    have ih := lessL_trans a b c
    unfold lessL at *
    simp only [Op.bytesLess, Bool.or_eq_true, decide_eq_true_eq, Bool.and_eq_true, beq_iff_eq] at *
    rcases h1 with h1 | ⟨rfl, h1⟩
    · rcases h2 with h2 | ⟨rfl, h2⟩
      · exact .inl (UInt8.lt_trans h1 h2)
      · exact .inl h1
    · rcases h2 with h2 | ⟨rfl, h2⟩
      · exact .inl h2
      · exact .inr ⟨rfl, ih h1 h2⟩
theorem lessL_total : ∀ a b : List UInt8, lessL a b = true ∨ a = b ∨ lessL b a = true
  | [], [] => .inr (.inl rfl)
  | [], _ :: _ => .inl rfl
  | _ :: _, [] => .inr (.inr rfl)
  | x :: a, y :: b => by
    have ih := lessL_total a b
    unfold lessL at *
    simp only [Op.bytesLess, Bool.or_eq_true, decide_eq_true_eq, Bool.and_eq_true, beq_iff_eq, List.cons.injEq]
    rcases Nat.lt_trichotomy x.toNat y.toNat with h | h | h
    · exact .inl (.inl (UInt8.lt_iff_toNat_lt.2 h))
    · obtain rfl := UInt8.toNat_inj.1 h
      rcases ih with h | rfl | h
      · exact .inl (.inr ⟨rfl, h⟩)
      · exact .inr (.inl ⟨rfl, rfl⟩)
      · exact .inr (.inr (.inr ⟨rfl, h⟩))
    · exact .inr (.inr (.inl (UInt8.lt_iff_toNat_lt.2 h)))

/-- The place of a name: of the first that is not less. -/
def atI (l : List RefA) (x : List UInt8) : Nat := l.findIdx (fun r => !lessL r.name x)
def atB (l : List RefA) (x : List UInt8) : Bool := match l[atI l x]? with | some r => decide (r.name = x) | none => false
theorem atI_le (l : List RefA) (x : List UInt8) : atI l x ≤ l.length := List.findIdx_le_length
theorem atI_at (l : List RefA) (x : List UInt8) (k : Nat) (hk : k < l.length) (h1 : lessL l[k].name x = false) (h2 : ∀ j (hj : j < l.length), j < k → lessL l[j].name x = true) : atI l x = k := by
  unfold atI
  rw [List.findIdx_eq hk]
  refine ⟨by simp [h1], fun j hj => ?_⟩
  have := h2 j (by omega) hj
  simp [this]
theorem atI_end (l : List RefA) (x : List UInt8) (h2 : ∀ j (hj : j < l.length), lessL l[j].name x = true) : atI l x = l.length := by
  unfold atI
  rw [List.findIdx_eq_length]
  intro r hr
  obtain ⟨i, hi, rfl⟩ := List.getElem_of_mem hr
  simp [h2 i hi]
theorem less_t (w : World) (a b : List UInt8) (v : Bool) (h : lessL a b = v) : Calls Tryz.prog 20 #[.string ⟨a.toArray⟩, .string ⟨b.toArray⟩] w fun e w' => e = .returned (.bool v) ∧ w' = w := by
  rw [← h]
  exact nless_any w ⟨a.toArray⟩ ⟨b.toArray⟩

set_option maxHeartbeats 4000000 in
set_option maxRecDepth 100000 in
theorem at_any (T : Nat → Prop) (b : BodyA) (v : Value) (x : List UInt8) (w : World) (h : BodyC w T b v) :
    Calls Tryz.prog 45 #[v, .string ⟨x.toArray⟩] w fun e w' => e = .returned (.tuple #[.int .i64 (atI b.refs x), .bool (atB b.refs x)]) ∧ Below w.heap.size w w' := by
  obtain ⟨AR, cR, xsR, AP, cP, xsP, rfl, hrR, heR, hx1, hx2, hlR, hx3, hx4⟩ := h
  clear hx1 hx2 hx3 hx4
  have HrR := hide hrR
  have HeR := hide heR
  clear hrR heR
  obtain ⟨N, hN⟩ : ∃ N, N = w.heap.size := ⟨_, rfl⟩
  have HN := hide hN
  clear hN
  go_enter Tryz.func45, Tryz.ntmps45
  go_wp2_with fail
  rw [← HN.out]
  obtain ⟨wo, hwo⟩ : ∃ W : World, W = w.alloc (.cells #[.int .u64 b.gen, .int .u64 b.epoch, .int .i64 b.writer, .int .u64 b.stamp, .slice AR b.refs.length cR, .slice AP b.packs.length cP] 26) := ⟨_, rfl⟩
  have HB := hide (show Below w.heap.size w wo by rw [hwo]; exact (Below.refl _ _).alloc (Nat.le_refl _) _)
  have HR0 := hide (show wo.heap[N]? = some (.cells #[.int .u64 b.gen, .int .u64 b.epoch, .int .i64 b.writer, .int .u64 b.stamp, .slice AR b.refs.length cR, .slice AP b.packs.length cP] 26 (0, 0)) by rw [hwo, HN.out]; exact heap_alloc_new _ _)
  rw [← hwo]
  clear hwo
  go_loopw [11] (fun i wr => ∃ k : Nat, k ≤ b.refs.length ∧ i = .int .i64 k ∧ (∀ j (hj : j < b.refs.length), j < k → lessL b.refs[j].name x = true) ∧ Below wo.heap.size wo wr) (fun i _ => b.refs.length - (intOf i).toNat)
  case atStart => exact ⟨0, Nat.zero_le _, rfl, fun j hj h => by omega, Below.refl _ _⟩
  case round => as_aux_lemma =>
    obtain ⟨k, hk, rfl, hno, hb⟩ := hrel
    have Hno := hide hno
    have Hb := hide hb
    have hsz1 := hb.size
    have hk0 : (0 : Int) ≤ (k : Int) := Int.natCast_nonneg k
    clear hno hb
    by_cases hlt : k < b.refs.length
    case pos => as_aux_lemma =>
      obtain ⟨bb, off, hA, _, hbl, _⟩ := HrR.out.at_ (by omega)
      obtain ⟨c, hc, hcl, hrg⟩ := rd_range (hA ▸ HrR.out) HeR.out rfl (fun p c => RefC.len p c) hlt
      subst hA
      have hrg2 := hide (range_keep hrg ((Keep.of_none HB.out).trans ((Keep.of_none Hb.out).mono (fun _ _ f => f))) hbl (fun f => f))
      have hsz := hide (show (Tryz.prog.info? 57).map (·.size) = some c.length by rw [hcl]; kernel_rfl)
      have hst := store_new wr 57 33 c (by kernel_rfl) hcl (fun v hv => RefC.one _ c hc v hv)
      obtain ⟨y, hy⟩ : ∃ y, y = b.refs[k].name := ⟨_, rfl⟩
      have hc0 : c[0]? = some (.string ⟨y.toArray⟩) := by rw [hc.1, hy]; rfl
      have hj1 : (k : Int) < b.refs.length := Int.ofNat_lt.2 hlt
      have Hy := hide hy
      have Hc0 := hide hc0
      clear hrg hc hy hc0
      go_upto_region 4 with (refine wpList_load_mid rfl 57 (.tmp 14) rfl bb (off + k * 33) rfl c _ hrg2.out Tryz.underlying57 rfl hsz.out ?_)
      obtain ⟨X, hX⟩ : ∃ X, X = wr.heap.size := ⟨_, rfl⟩
      obtain ⟨W, hW⟩ : ∃ W : World, W = wr.alloc (.cells c.toArray 57) := ⟨_, rfl⟩
      have m0 : W.cell? ⟨X, 0, none⟩ = some (.string ⟨y.toArray⟩) := by
        rw [hW, hX, cell_of_row _ _ 0 _ _ _ (heap_alloc_new _ _), List.getElem?_toArray]
        exact Hc0.out
      have HbW := hide (show Below wo.heap.size wo W by rw [hW]; exact Hb.out.alloc hsz1 _)
      rw [← hW, ← hX]
      clear hst hX hW hcl
      rcases hls : lessL y x with _ | _
      case false =>
        have Hls := hide hls
        have Hi := hide (atI_at b.refs x k hlt (by rw [← Hy.out]; exact hls) (fun j hj h => Hno.out j hj h))
        clear hls
        by_cases hxy : y = x
        · have HB2 := hide (show atB b.refs x = true by
            unfold atB; rw [Hi.out, List.getElem?_eq_getElem hlt]; simp only [← Hy.out, hxy, decide_true])
          subst hxy
          go_upto_region 5 with (go_at_call 20; refine (less_t _ y y false Hls.out).mono ?_; rintro e w' ⟨rfl, rfl⟩)
          go_quiet (fail)
          go_wp2_with fail
          go_ret2
          exact ⟨by rw [Hi.out, HB2.out]; rfl, below_drewN (HB.out.trans (HbW.out.mono HB.out.size)) _⟩
        · have HB2 := hide (show atB b.refs x = false by
            unfold atB; rw [Hi.out, List.getElem?_eq_getElem hlt]; simp only [← Hy.out, hxy, decide_false])
          have hb1 : (y == x) = false := beq_eq_false_iff_ne.2 hxy
          have hb4 : (y = x) = False := eq_false hxy
          go_upto_region 5 with (go_at_call 20; refine (less_t _ y x false Hls.out).mono ?_; rintro e w' ⟨rfl, rfl⟩)
          go_quiet (fail)
          go_wp2_with fail
          go_ret2
          exact ⟨by rw [Hi.out, HB2.out]; rfl, below_drewN (HB.out.trans (HbW.out.mono HB.out.size)) _⟩
      case true =>
        have Hls := hide hls
        clear hls
        go_wp2_with (go_at_call 20; refine (less_t _ y x true Hls.out).mono ?_; rintro e w' ⟨rfl, rfl⟩)
        refine ⟨⟨k + 1, by omega, by go_num, fun j hj h => ?_, HbW.out⟩, by simp [intOf]; omega⟩
        by_cases hjk : j = k
        · subst hjk; rw [← Hy.out]; exact Hls.out
        · exact Hno.out j hj (by omega)
    case neg => as_aux_lemma =>
      have hkk : k = b.refs.length := by omega
      have Hi := hide (atI_end b.refs x (fun j hj => Hno.out j hj (by omega)))
      have HB2 := hide (show atB b.refs x = false by unfold atB; rw [Hi.out, List.getElem?_eq_none (Nat.le_refl _)])
      have hr0 : wr.heap[N]? = some (.cells #[.int .u64 b.gen, .int .u64 b.epoch, .int .i64 b.writer, .int .u64 b.stamp, .slice AR b.refs.length cR, .slice AP b.packs.length cP] 26 (0, 0)) := (Hb.out.block N (Below.lt_of_row HR0.out)).trans HR0.out
      have b4 : wr.cell? ⟨N, 4, none⟩ = some (.slice AR b.refs.length cR) := cell_of_row _ _ 4 _ _ _ hr0
      have hd9 : decide ((k : Int) < (b.refs.length : Int)) = false := by rw [hkk]; simp
      clear hr0 hkk
      go_wp2_with fail
      go_ret2
      exact ⟨by rw [Hi.out, HB2.out]; rfl, HB.out.trans (Hb.out.mono HB.out.size)⟩

/-- What Find finds. -/
def zeroId : Bv 32 := ⟨#[0, 0, 0, 0, 0, 0, 0, 0, 0, 0, 0, 0, 0, 0, 0, 0, 0, 0, 0, 0, 0, 0, 0, 0, 0, 0, 0, 0, 0, 0, 0, 0], rfl⟩
def findL (l : List RefA) (x : List UInt8) : Bv 32 := if atB l x then (l[atI l x]?.map (·.id)).getD zeroId else zeroId
theorem atB_lt (l : List RefA) (x : List UInt8) (h : atB l x = true) : ∃ hk : atI l x < l.length, l[atI l x].name = x := by
  unfold atB at h
  by_cases hk : atI l x < l.length
  · rw [List.getElem?_eq_getElem hk] at h
    exact ⟨hk, by simpa using h⟩
  · rw [List.getElem?_eq_none (by omega)] at h
    cases h

set_option maxHeartbeats 4000000 in
set_option maxRecDepth 100000 in
theorem find_any (T : Nat → Prop) (b : BodyA) (v : Value) (x : List UInt8) (w : World) (h : BodyC w T b v) :
    Calls Tryz.prog 15 #[v, .string ⟨x.toArray⟩] w fun e w' => e = .returned (.tuple #[.agg (encB (findL b.refs x)).toArray, .bool (atB b.refs x)]) ∧ Below w.heap.size w w' := by
  have Hb := hide h
  obtain ⟨AR, cR, xsR, AP, cP, xsP, rfl, hrR, heR, hx1, hx2, hlR, hx3, hx4⟩ := h
  clear hx1 hx2 hx3 hx4
  have HrR := hide hrR
  have HeR := hide heR
  clear hrR heR
  obtain ⟨N, hN⟩ : ∃ N, N = w.heap.size := ⟨_, rfl⟩
  have HN := hide hN
  clear hN
  go_enter Tryz.func15, Tryz.ntmps15
  go_upto_region 1 with (fail)
  rw [← HN.out]
  obtain ⟨z, hz⟩ : ∃ z : List Value, z = encB zeroId := ⟨_, rfl⟩
  have hz2 : (#[.int .u8 0, .int .u8 0, .int .u8 0, .int .u8 0, .int .u8 0, .int .u8 0, .int .u8 0, .int .u8 0, .int .u8 0, .int .u8 0, .int .u8 0, .int .u8 0, .int .u8 0, .int .u8 0, .int .u8 0, .int .u8 0, .int .u8 0, .int .u8 0, .int .u8 0, .int .u8 0, .int .u8 0, .int .u8 0, .int .u8 0, .int .u8 0, .int .u8 0, .int .u8 0, .int .u8 0, .int .u8 0, .int .u8 0, .int .u8 0, .int .u8 0, .int .u8 0] : Array Value) = z.toArray := by rw [hz]; kernel_rfl
  have hzl : z.length = 32 := by rw [hz]; exact encB_len _
  have hzo : ∀ u ∈ z, u.oneCell' = true := by rw [hz]; exact encB_one _
  rw [hz2]
  obtain ⟨W1, hW1⟩ : ∃ W : World, W = (w.alloc (.cells #[.int .u64 b.gen, .int .u64 b.epoch, .int .i64 b.writer, .int .u64 b.stamp, .slice AR b.refs.length cR, .slice AP b.packs.length cP] 26)).alloc (.cells z.toArray 49) := ⟨_, rfl⟩
  have hbw : Below w.heap.size w W1 := by rw [hW1]; exact ((Below.refl _ _).alloc (Nat.le_refl _) _).alloc (by simp) _
  have hr0 : W1.heap[N]? = some (.cells #[.int .u64 b.gen, .int .u64 b.epoch, .int .i64 b.writer, .int .u64 b.stamp, .slice AR b.refs.length cR, .slice AP b.packs.length cP] 26 (0, 0)) := by
    rw [hW1, HN.out]; exact (Below.heap_alloc _ _ _ (by simp)).trans (heap_alloc_new _ _)
  have hr1 : W1.heap[N + 1]? = some (.cells z.toArray 49 (0, 0)) := by
    have := heap_alloc_new (w.alloc (.cells #[.int .u64 b.gen, .int .u64 b.epoch, .int .i64 b.writer, .int .u64 b.stamp, .slice AR b.refs.length cR, .slice AP b.packs.length cP] 26)) (.cells z.toArray 49)
    rw [show (w.alloc (.cells #[.int .u64 b.gen, .int .u64 b.epoch, .int .i64 b.writer, .int .u64 b.stamp, .slice AR b.refs.length cR, .slice AP b.packs.length cP] 26)).heap.size = N + 1 by rw [HN.out]; simp] at this
    rw [hW1]; exact this
  have HB1 := hide (Hb.out.below hbw)
  have Hr0 := hide hr0
  have Hr1 := hide hr1
  have Hbw := hide hbw
  have Hz := hide hz
  have Hz2 := hide hz2
  have Hzl := hide hzl
  have Hzo := hide hzo
  have HsB := hide (show (Tryz.prog.info? 26).map (·.size) = some (#[.int .u64 b.gen, .int .u64 b.epoch, .int .i64 b.writer, .int .u64 b.stamp, .slice AR b.refs.length cR, .slice AP b.packs.length cP] : Array Value).size by kernel_rfl)
  rw [← hW1]
  clear hW1 hbw hr0 hr1 hz hz2 hzl hzo
  rcases hat : atB b.refs x with _ | _
  case false => as_aux_lemma =>
    have Hat := hide hat
    have Hf := hide (show findL b.refs x = zeroId by unfold findL; rw [hat]; rfl)
    have HsZ := hide (show (Tryz.prog.info? 49).map (·.size) = some z.length by rw [Hzl.out]; kernel_rfl)
    have HsZa := hide (show (Tryz.prog.info? 49).map (·.size) = some z.toArray.size by rw [List.size_toArray, Hzl.out]; kernel_rfl)
    clear hat
    go_wp2_with (first
      | (with_reducible refine wpList_load_row rfl 26 (.tmp 2) rfl N rfl 26 #[.int .u64 b.gen, .int .u64 b.epoch, .int .i64 b.writer, .int .u64 b.stamp, .slice AR b.refs.length cR, .slice AP b.packs.length cP] (0, 0) _ Hr0.out Tryz.underlying26 rfl HsB.out ?_)
      | (go_at_call 45; ((with_reducible refine (at_any _ b _ x _ HB1.out).mono ?_)); rintro e w2 ⟨rfl, hb2⟩; rw [Hat.out]; have Hr2 := hide ((hb2.block (N + 1) (Below.lt_of_row Hr1.out)).trans Hr1.out); have Hb2 := hide hb2; clear hb2)
      | (refine wpList_store_all rfl 49 (.tmp 4) (.tmp 16) rfl (N + 1) z z 49 Hr2.out rfl (by rw [← Hz2.out]; rfl) rfl HsZ.out Hzo.out ?_)
      | fail)
    refine bodyPost_ret (results_cell_two rfl _ _ (N + 1) _ _ _ _ rfl (setRow_heap _ _ _ _ _ _ Hr2.out) Tryz.underlying49 rfl HsZa.out) rfl ?_
    have hbb := Hbw.out.trans (Hb2.out.mono Hbw.out.size)
    exact ⟨by rw [Hf.out, Hz.out, Hat.out]; rfl, below_setRow hbb (by have := HN.out; omega) _⟩
  case true => as_aux_lemma =>
    have Hat := hide hat
    obtain ⟨hk, hnm⟩ := atB_lt b.refs x hat
    obtain ⟨k, hkk⟩ : ∃ k, k = atI b.refs x := ⟨_, rfl⟩
    have Hk := hide hkk
    have hf : findL b.refs x = b.refs[atI b.refs x].id := by unfold findL; rw [hat, if_pos rfl, List.getElem?_eq_getElem hk]; rfl
    have hlt : k < b.refs.length := by rw [hkk]; exact hk
    have hf2 : findL b.refs x = b.refs[k].id := by rw [hf]; simp only [hkk]
    obtain ⟨bb, off, hA, _, hbl, _⟩ := HrR.out.at_ (by omega)
    obtain ⟨c, hc, hcl, hrg⟩ := rd_range (hA ▸ HrR.out) HeR.out rfl (fun p c => RefC.len p c) hlt
    subst hA
    obtain ⟨ci, hci⟩ : ∃ ci, ci = encB (findL b.refs x) := ⟨_, rfl⟩
    have hcil : ci.length = 32 := by rw [hci]; exact encB_len _
    have hcio : ∀ u ∈ ci, u.oneCell' = true := by rw [hci]; exact encB_one _
    have hrgi : w.rangeAt bb (off + k * 33 + 1) ci := fun j u hj => by
      have := hrg (j + 1) u (by rw [hc.1, List.getElem?_cons_succ, ← hf2, ← hci]; exact hj)
      rw [show off + k * 33 + 1 + j = off + k * 33 + (j + 1) by omega]
      exact this
    have Hrgi := hide hrgi
    have HsI := hide (show (Tryz.prog.info? 49).map (·.size) = some ci.length by rw [hcil]; kernel_rfl)
    have HsIa := hide (show (Tryz.prog.info? 49).map (·.size) = some ci.toArray.size by rw [List.size_toArray, hcil]; kernel_rfl)
    have Hlen := hide (show ci.length = z.length by rw [hcil, Hzl.out])
    have Hci := hide hci
    have Hcio := hide hcio
    have hk0 : (0 : Int) ≤ (k : Int) := Int.natCast_nonneg k
    have hj1 : (k : Int) < b.refs.length := Int.ofNat_lt.2 hlt
    have hblw : bb < w.heap.size := hbl
    have Hbl := hide hblw
    clear hat hk hnm hkk hf hf2 hc hcl hrg hci hcil hcio hrgi hblw hbl
    go_wp2_with (first
      | (with_reducible refine wpList_load_row rfl 26 (.tmp 2) rfl N rfl 26 #[.int .u64 b.gen, .int .u64 b.epoch, .int .i64 b.writer, .int .u64 b.stamp, .slice (some ⟨bb, off, none⟩) b.refs.length cR, .slice AP b.packs.length cP] (0, 0) _ Hr0.out Tryz.underlying26 rfl HsB.out ?_)
      | (go_at_call 45; ((with_reducible refine (at_any _ b _ x _ HB1.out).mono ?_)); rintro e w2 ⟨rfl, hb2⟩; rw [Hat.out, ← Hk.out]; have hrow2 := (hb2.block N (Below.lt_of_row Hr0.out)).trans Hr0.out; have b4 : w2.cell? ⟨N, 4, none⟩ = some (.slice (some ⟨bb, off, none⟩) b.refs.length cR) := cell_of_row _ _ 4 _ _ _ hrow2; have Hrg2 := hide (range_keep Hrgi.out ((Keep.of_none Hbw.out).trans ((Keep.of_none hb2).mono (fun _ _ f => f))) Hbl.out (fun f => f)); have Hr2 := hide ((hb2.block (N + 1) (Below.lt_of_row Hr1.out)).trans Hr1.out); have Hb2 := hide hb2; clear hb2 hrow2)
      | (refine wpList_load_mid rfl 49 (.tmp 21) rfl bb (off + k * 33 + 1) rfl ci _ Hrg2.out Tryz.underlying49 rfl HsI.out ?_)
      | (refine wpList_store_all rfl 49 (.tmp 4) (.tmp 22) rfl (N + 1) z ci 49 Hr2.out rfl rfl Hlen.out HsI.out Hcio.out ?_)
      | fail)
    refine bodyPost_ret (results_cell_two rfl _ _ (N + 1) _ _ _ _ rfl (setRow_heap _ _ _ _ _ _ Hr2.out) Tryz.underlying49 rfl HsIa.out) rfl ?_
    have hbb := Hbw.out.trans (Hb2.out.mono Hbw.out.size)
    exact ⟨by rw [Hci.out, Hat.out]; rfl, below_setRow hbb (by have := HN.out; omega) _⟩
end Go.Proofs.YtimfmbcihopaaaaGreatDoor
