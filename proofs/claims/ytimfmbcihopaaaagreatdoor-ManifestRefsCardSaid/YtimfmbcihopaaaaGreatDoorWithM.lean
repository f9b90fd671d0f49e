/- manifest.With: references with one put. -/
import Derived.Test.YtimfmbcihopaaaaGreatDoorWith
import Derived.Test.YtimfmbcihopaaaaGreatDoorIns
import Derived.Test.YtimfmbcihopaaaaGreatDoorMixTwo
import Derived.Great.BuildSlice
namespace Go.Proofs.YtimfmbcihopaaaaGreatDoor
open Go.RowKit Go.Cof

def WithP (w w' : World) (T : Nat → Prop) (b : BodyA) (x : List UInt8) (id : Bv 32) (e : Ending) : Prop :=
  ∃ v', e = .returned (.tuple #[v', .bool (okW b.refs x)]) ∧ BodyC w' (fun i => T i ∨ (w.heap.size ≤ i ∧ i < w'.heap.size)) { b with refs := withR b.refs x id } v' ∧ Below w.heap.size w w'

theorem els_set_id : ∀ (l : List RefA) (xs : List Value) (k : Nat) (hk : k < l.length) (id : Bv 32), Els RefC l xs → Els RefC (l.set k ⟨l[k].name, id⟩) (over xs (k * 33 + 1) (encB id))
  | r :: l, xs, 0, _, id, ⟨c, rest, hx, hc, hr⟩ => by
    refine ⟨strV r.name :: encB id, rest, ?_, ⟨rfl, hc.2⟩, hr⟩
    rw [hx, hc.1, over, encB_len]
    simp only [Nat.zero_mul, Nat.zero_add, List.cons_append, List.take_succ_cons, List.take_zero, List.nil_append]
    rw [show 1 + 32 = 32 + 1 from rfl, List.drop_succ_cons, List.drop_append, encB_len, List.drop_eq_nil_of_le (by rw [encB_len]; decide), Nat.sub_self, List.drop_zero, List.nil_append]
  | r :: l, xs, k + 1, hk, id, ⟨c, rest, hx, hc, hr⟩ => by
    have hcl : c.length = 33 := RefC.len r c hc
    have h := els_set_id l rest k (by simpa using hk) id hr
    refine ⟨c, over rest (k * 33 + 1) (encB id), ?_, hc, by simpa using h⟩
    rw [hx, over, over, List.take_append, List.take_of_length_le (by rw [hcl]; omega), List.drop_append, List.drop_eq_nil_of_le (by rw [hcl, encB_len]; omega), hcl, encB_len, List.nil_append, List.append_assoc, show (k + 1) * 33 + 1 - 33 = k * 33 + 1 by omega, show (k + 1) * 33 + 1 + 32 - 33 = k * 33 + 1 + 32 by omega]
theorem over_take (cur cs : List Value) (o n : Nat) (h : o + cs.length ≤ n) (hn : n ≤ cur.length) : (over cur o cs).take n = over (cur.take n) o cs := by
  have h1 : (cur.take n).take o = cur.take o := by rw [List.take_take, Nat.min_eq_left (by omega)]
  have hA : (cur.take o ++ cs).length = o + cs.length := by rw [List.length_append, List.length_take, Nat.min_eq_left (by omega)]
  rw [over, over, h1, ← List.append_assoc, ← List.append_assoc, List.take_append, List.take_of_length_le (by rw [hA]; exact h), hA, List.take_drop, show o + cs.length + (n - (o + cs.length)) = n by omega]

/-- A call whose value is not known ahead, as one step of a region that draws its order. -/
theorem step_calls {P : Program} {ops : Array Oper} {o : Oper} {a : Act} {w : World} {K : Act → World → Prop} {Q : Exit → Act → World → Prop} {E : Prop} (hgd : o.guard = none) (f : FuncId) (args : Array Operand) (ts : Array TypeId)
    (ho : o.op = .call { callee := .value (.func f), args := args, argTypes := ts }) (he : ∀ (args : Array Value) (w : World), (callFunc f args).run P w = .ok (.enter f args) w) (vs : Array Value) (hv0 : args.toList.map a.eval = vs.toList) (R : Ending → World → Prop) (hc : Calls P f vs w R)
    (h : ∀ e w', R e w' → ∃ v, e = .returned v ∧ K (a.put o.dst v) w') : if Region.wanted o (yielded ops a.tmps) = true then Oper.wp P o a w K Q else E := by
  have hw : Region.wanted o (yielded ops a.tmps) = true := by simp [Region.wanted, hgd]
  have hv : args.map a.eval = vs := Array.toList_inj.1 (by rw [Array.toList_map]; exact hv0)
  rw [if_pos hw]
  subst hv
  unfold Oper.wp execOp
  have hx : (callFunc f (args.map a.eval)).run P w = .ok (.enter f (args.map a.eval)) w := he _ _
  simp only [ho, resolve, invoke, Deferred.ofValue, Sem.run_bind, Sem.run_pure, Result.andThen_ok, Act.eval, Array.append_empty, Array.empty_append]
  rw [hx]
  exact hc.mono fun e w' hh => by obtain ⟨v, rfl, hr⟩ := h e w' hh; exact hr
theorem clone_enters : ∀ (args : Array Value) (w : World), (callFunc 46 args).run Tryz.prog w = .ok (.enter 46 args) w := enters_of Tryz.func46 (by kernel_rfl) rfl
theorem insert_enters : ∀ (args : Array Value) (w : World), (callFunc 47 args).run Tryz.prog w = .ok (.enter 47 args) w := enters_of Tryz.func47 (by kernel_rfl) rfl

theorem put_all : ∀ (cs : List Value) (off k : Nat) (cur : List Value), off + k + cs.length ≤ cur.length → (cs.zipIdx k).foldl (fun a (x : Value × Nat) => a.setIfInBounds (off + x.2) x.1) cur.toArray = (over cur (off + k) cs).toArray
  | [], off, k, cur, _ => by simp [over]
  | v :: cs, off, k, cur, h => by
    rw [List.length_cons] at h
    rw [List.zipIdx_cons, List.foldl_cons, show (cur.toArray.setIfInBounds (off + k) v) = (cur.set (off + k) v).toArray by simp, put_all cs off (k + 1) _ (by rw [List.length_set]; omega), ← Nat.add_assoc, over_cons _ _ _ _ (by omega)]
theorem put_all0 (cs : List Value) (off : Nat) (cur : List Value) (h : off + cs.length ≤ cur.length) : cs.toArray.zipIdx.foldl (fun a (x : Value × Nat) => a.setIfInBounds (off + x.2) x.1) cur.toArray = (over cur off cs).toArray := by
  have := put_all cs off 0 cur (by omega)
  rw [Nat.add_zero] at this
  rw [← this]
  simp
theorem fill_ref (x : List UInt8) (id : Bv 32) (cur : List Value) (h : cur.length = 33) (place : Nat → Option (Nat × Nat)) (h0 : place 0 = some (0, 1)) (h1 : place 1 = some (1, 32)) :
    Instr.fill place cur.toArray [(0, strV x), (1, .agg (encB id).toArray)] = some (strV x :: encB id).toArray := by
  have e0 : (strV x).cells = [strV x].toArray := rfl
  have e1 : (Value.agg (encB id).toArray).cells = (encB id).toArray := rfl
  have p0 := put_all0 [strV x] 0 cur (by simp [h])
  have p1 := put_all0 (encB id) 1 (over cur 0 [strV x]) (by rw [over_length _ _ _ (by simp [h]), encB_len, h]; decide)
  simp only [Instr.fill, h0, h1, e0, e1, p0, p1]
  rw [if_neg (by simp [h]), if_neg (by rw [List.size_toArray, List.size_toArray, over_length _ _ _ (by simp [h]), encB_len, h]; decide)]
  congr 2
  rw [over, over, List.take_zero, List.nil_append, List.length_singleton, encB_len, List.singleton_append, List.take_succ_cons, List.take_zero, List.drop_eq_nil_of_le (by simp [h]), List.append_nil]
  rfl
theorem built_ref (x : List UInt8) (id : Bv 32) : Tryz.prog.built 57 [(0, strV x), (1, .agg (encB id).toArray)] = some (strV x :: encB id).toArray := by
  have e : Tryz.prog.built 57 [(0, strV x), (1, .agg (encB id).toArray)] = Instr.fill (#[(0, 1), (1, 32)][·]?) zeroR.toArray [(0, strV x), (1, .agg (encB id).toArray)] := by kernel_rfl
  rw [e]
  exact fill_ref x id zeroR rfl _ rfl rfl
theorem quiet_build {P : Program} {C : World → Prop} {o : Oper} {a : Act} {K : Act → Prop} (t : TypeId) (parts : Array (Nat × Operand)) (ho : o.op = .build t parts) (cells : Array Value)
    (ps : List (Nat × Value)) (hps : (parts.toList.map fun x => (x.1, a.eval x.2)) = ps) (hf0 : P.built t ps = some cells) (h : K (a.put o.dst (.agg cells))) : o.quiet P a C K := by
  have hf : P.built t (parts.map fun (i, x) => (i, a.eval x)).toList = some cells := by rw [Array.toList_map, ← hf0, ← hps]
  refine ⟨_, fun w hw => ?_, h⟩
  unfold Oper.quietAt execOp
  simp only [ho, Sem.run_bind, run_build w t _ cells hf, Result.andThen_ok]
  exact ⟨rfl, rfl⟩
theorem step_buildRef {ops : Array Oper} {o : Oper} {a : Act} {w : World} {K : Act → World → Prop} {Q : Exit → Act → World → Prop} {E : Prop} (hgd : o.guard = none) (x : Operand) (ho : o.op = .buildSlice 23 1 #[(0, x)]) (c : List Value) (hx : a.eval x = .agg c.toArray) (hl : c.length = 33)
    (h : K (a.put o.dst (.slice (some ⟨w.heap.size, 0, none⟩) 1 1)) (w.alloc (.cells c.toArray 57))) : if Region.wanted o (yielded ops a.tmps) = true then Oper.wp Tryz.prog o a w K Q else E := by
  obtain ⟨i, hi, hz, hsz, hb⟩ := info_parts Tryz.info57
  have hw : Region.wanted o (yielded ops a.tmps) = true := by simp [Region.wanted, hgd]
  rw [if_pos hw]
  refine wp_buildSlice 23 57 1 _ ho c.toArray i _ Tryz.underlying23 hi hz (by rw [hsz]; decide) (by rw [hsz]; decide) ?_ h
  have e1 : (Value.agg c.toArray).cells = c.toArray := rfl
  have p1 := put_all0 c (0 * 33) zeroR (by rw [hl]; decide)
  have ez : (Array.range (1 * 33)).map ((Value.agg (#[.string ⟨#[]⟩] ++ Array.replicate 32 (.int .u8 0))).cells[· % (Value.agg (#[.string ⟨#[]⟩] ++ Array.replicate 32 (.int .u8 0))).cells.size]!) = zeroR.toArray := by kernel_rfl
  rw [hsz, ez]
  simp only [List.map_toArray, List.map_cons, List.map_nil, hx, Instr.fill, e1, p1]
  rw [if_neg (by rw [List.size_toArray, hl]; decide)]
  have eo : over zeroR (0 * 33) c = c := by
    rw [over, Nat.zero_mul, List.take_zero, List.nil_append, hl, Nat.zero_add, show zeroR.drop 33 = [] from rfl, List.append_nil]
  rw [eo]

/-- Insert into a copy of one's own, empty or not. -/
theorem insertR_own (B n cap i X : Nat) (A : Option Addr) (c xs : List Value) (w : World) (hown : w.ownsRow B 57 33 (.slice A n cap) n xs) (h1 : ∀ u ∈ xs, u.oneCell' = true) (hn : n ≤ 1000) (hi : i ≤ n)
    (hc : w.heap[X]? = some (.cells c.toArray 57 (0, 0))) (hcl : c.length = 33) (hc1 : ∀ u ∈ c, u.oneCell' = true) (hX : (Value.slice A n cap).ownBlock ≠ some X) (hB : B ≤ w.heap.size) :
    Calls Tryz.prog 47 #[.slice A n cap, .int .i64 i, .slice (some ⟨X, 0, none⟩) 1 1] w fun e w' =>
      ∃ A' cap', e = .returned (.slice A' (n + 1) cap') ∧ w'.ownsRow B 57 33 (.slice A' (n + 1) cap') (n + 1) (xs.take (i * 33) ++ c ++ xs.drop (i * 33)) ∧ Keep (fun j => B ≤ j) w w' := by
  have hxl : xs.length = n * 33 := hown.1
  rcases hown.2 with ⟨hv, _⟩ | ⟨g, cap', cur, hv, hb, _⟩
  · injection hv with e1 e2 e3
    subst e1 e2 e3
    obtain rfl : i = 0 := by omega
    obtain rfl : xs = [] := List.eq_nil_of_length_eq_zero (by omega)
    refine (insertR_nil B X c w hc hcl hc1 hB).mono ?_
    rintro e w' ⟨A', cap', rfl, ho, hb⟩
    exact ⟨A', cap', rfl, by simpa using ho, (Keep.of_below hb).mono (fun j _ h => Nat.le_trans hB h)⟩
  · injection hv with e1 e2 e3
    subst e1 e3
    refine (insertR_any B g n cap i X c xs w hown h1 hn hi hc hcl hc1 (fun e => hX (by rw [e]; rfl)) hB).mono ?_
    rintro e w' ⟨A', cap', rfl, ho, hk⟩
    exact ⟨A', cap', rfl, ho, hk.mono (fun j _ h => by have h9 : j = g := h; rw [h9]; exact hb)⟩
def TwoR (B n : Nat) (xs c : List Value) (v u : Value) (w' : World) : Prop :=
  ∃ A cap X, v = .slice A n cap ∧ u = .slice (some ⟨X, 0, none⟩) 1 1 ∧ w'.ownsRow B 57 33 (.slice A n cap) n xs ∧ w'.heap[X]? = some (.cells c.toArray 57 (0, 0)) ∧ B ≤ X ∧ (Value.slice A n cap).ownBlock ≠ some X

set_option maxHeartbeats 8000000 in
set_option maxRecDepth 200000 in
theorem with_any (T : Nat → Prop) (b : BodyA) (v : Value) (x : List UInt8) (id : Bv 32) (m : Int) (w : World) (h : BodyC w T b v) (hn : b.refs.length ≤ 900) (hxl : x.length ≤ 140737488351232) (h0 : 0 < w.heap.size) (hm : w.cell? ⟨0, 0, none⟩ = some (.int .i64 m)) :
    Calls Tryz.prog 16 #[v, .string ⟨x.toArray⟩, .agg (encB id).toArray] w fun e w' => WithP w w' T b x id e := by
  have Hb := hide h
  obtain ⟨AR, cR, xsR, AP, cP, xsP, rfl, hrR, heR, hx1, hx2, hlR, hx3, hT⟩ := h
  clear hx1 hx2 hx3
  have HrR := hide hrR
  have HeR := hide heR
  have HT := hide hT
  have Hxl := hide hxl
  have Hm := hide hm
  have H0 := hide h0
  clear hrR heR hT hxl hm h0
  obtain ⟨N, hN⟩ : ∃ N, N = w.heap.size := ⟨_, rfl⟩
  have HN := hide hN
  clear hN
  go_enter Tryz.func16, Tryz.ntmps16
  go_upto_region 1 with (fail)
  rw [← HN.out]
  obtain ⟨W1, hW1⟩ : ∃ W : World, W = ((w.alloc (.cells #[.int .u64 b.gen, .int .u64 b.epoch, .int .i64 b.writer, .int .u64 b.stamp, .slice AR b.refs.length cR, .slice AP b.packs.length cP] 26)).alloc (.cells (encB id).toArray 49)).alloc (.cells #[.int .u64 0, .int .u64 0, .int .i64 0, .int .u64 0, .slice none 0 0, .slice none 0 0] 26) := ⟨_, rfl⟩
  have hbw : Below w.heap.size w W1 := by rw [hW1]; exact (((Below.refl _ _).alloc (Nat.le_refl _) _).alloc (by simp) _).alloc (by simp; omega) _
  have hr0 : W1.heap[N]? = some (.cells #[.int .u64 b.gen, .int .u64 b.epoch, .int .i64 b.writer, .int .u64 b.stamp, .slice AR b.refs.length cR, .slice AP b.packs.length cP] 26 (0, 0)) := by
    rw [hW1, HN.out]; exact (Below.heap_alloc _ _ _ (by simp; omega)).trans ((Below.heap_alloc _ _ _ (by simp)).trans (heap_alloc_new _ _))
  have hr1 : W1.heap[N + 1]? = some (.cells (encB id).toArray 49 (0, 0)) := by
    have := heap_alloc_new (w.alloc (.cells #[.int .u64 b.gen, .int .u64 b.epoch, .int .i64 b.writer, .int .u64 b.stamp, .slice AR b.refs.length cR, .slice AP b.packs.length cP] 26)) (.cells (encB id).toArray 49)
    rw [show (w.alloc (.cells #[.int .u64 b.gen, .int .u64 b.epoch, .int .i64 b.writer, .int .u64 b.stamp, .slice AR b.refs.length cR, .slice AP b.packs.length cP] 26)).heap.size = N + 1 by rw [HN.out]; simp] at this
    rw [hW1]; exact (Below.heap_alloc _ _ _ (by rw [HN.out]; simp)).trans this
  have hr2 : W1.heap[N + 2]? = some (.cells zeroBody.toArray 26 (0, 0)) := by
    have := heap_alloc_new ((w.alloc (.cells #[.int .u64 b.gen, .int .u64 b.epoch, .int .i64 b.writer, .int .u64 b.stamp, .slice AR b.refs.length cR, .slice AP b.packs.length cP] 26)).alloc (.cells (encB id).toArray 49)) (.cells #[.int .u64 0, .int .u64 0, .int .i64 0, .int .u64 0, .slice none 0 0, .slice none 0 0] 26)
    rw [show ((w.alloc (.cells #[.int .u64 b.gen, .int .u64 b.epoch, .int .i64 b.writer, .int .u64 b.stamp, .slice AR b.refs.length cR, .slice AP b.packs.length cP] 26)).alloc (.cells (encB id).toArray 49)).heap.size = N + 2 by rw [HN.out]; simp] at this
    rw [hW1]; exact this
  have HB1 := hide (Hb.out.below hbw)
  have Hr0 := hide hr0
  have Hr1 := hide hr1
  have Hr2 := hide hr2
  have Hbw := hide hbw
  have HsB := hide (show ∀ c : Value, (Tryz.prog.info? 26).map (·.size) = some (#[.int .u64 b.gen, .int .u64 b.epoch, .int .i64 b.writer, .int .u64 b.stamp, c, .slice AP b.packs.length cP] : Array Value).size from fun _ => by kernel_rfl)
  have HsL := hide (show ∀ c : Value, (Tryz.prog.info? 26).map (·.size) = some ([.int .u64 b.gen, .int .u64 b.epoch, .int .i64 b.writer, .int .u64 b.stamp, c, .slice AP b.packs.length cP] : List Value).length from fun _ => by kernel_rfl)
  have HoL := hide (show ∀ (A : Option Addr) (n c : Nat), ∀ u ∈ ([.int .u64 b.gen, .int .u64 b.epoch, .int .i64 b.writer, .int .u64 b.stamp, .slice A n c, .slice AP b.packs.length cP] : List Value), u.oneCell' = true from fun A n c u hu => by simp at hu; rcases hu with rfl | rfl | rfl | rfl | rfl | rfl <;> rfl)
  have HszI := hide (show (Tryz.prog.info? 49).map (·.size) = some (encB id).toArray.size by rw [List.size_toArray, encB_len]; kernel_rfl)
  have HszL := hide (show (Tryz.prog.info? 49).map (·.size) = some (encB id).length by rw [encB_len]; kernel_rfl)
  rw [← hW1]
  clear hW1 hbw hr0 hr1 hr2
  obtain ⟨kv, hkv⟩ : ∃ kv, kv = kindL x := ⟨_, rfl⟩
  have Hkv := hide hkv
  clear hkv
  by_cases hok : okW b.refs x = false
  case pos => as_aux_lemma =>
    have Hok := hide hok
    have Hout := hide (show withR b.refs x id = b.refs by rw [withR, hok]; rfl)
    obtain ⟨ab, hab⟩ : ∃ ab, ab = atB b.refs x := ⟨_, rfl⟩
    have Hab := hide hab
    have hcase : ((kv : Int) == 0) = true ∨ (((kv : Int) == 0) = false ∧ ab = false ∧ decide ((8 : Int) ≤ b.refs.length) = true) := by
      rw [okW, ← Hkv.out, ← hab] at hok
      by_cases hz : kv = 0
      · exact .inl (by rw [hz]; rfl)
      · refine .inr ⟨?_, ?_, ?_⟩
        · rw [beq_eq_false_iff_ne]; exact_mod_cast hz
        · rcases ab with _ | _
          · rfl
          · simp [hz] at hok
        · rcases ab with _ | _
          · simp [hz] at hok
            simp; omega
          · simp [hz] at hok
    clear hok hab
    rcases hcase with hz | ⟨hz, rfl, h8⟩
    all_goals (
      go_wp2_with (first
        | (with_reducible refine wpList_load_row rfl 26 (.tmp 3) rfl N rfl 26 #[.int .u64 b.gen, .int .u64 b.epoch, .int .i64 b.writer, .int .u64 b.stamp, .slice AR b.refs.length cR, .slice AP b.packs.length cP] (0, 0) _ Hr0.out Tryz.underlying26 rfl (HsB.out _) ?_)
        | (with_reducible refine wpList_load_row rfl 26 (.tmp 3) rfl N rfl 26 #[.int .u64 b.gen, .int .u64 b.epoch, .int .i64 b.writer, .int .u64 b.stamp, .slice AR b.refs.length cR, .slice AP b.packs.length cP] (0, 0) _ Hr0c.out Tryz.underlying26 rfl (HsB.out _) ?_)
        | (go_at_call 45; ((with_reducible refine (at_any _ b _ x _ HB1.out).mono ?_)); rintro e w2 ⟨rfl, hb2⟩; rw [← Hab.out]; have Hr0b := hide ((hb2.block N (Below.lt_of_row Hr0.out)).trans Hr0.out); have Hr2b := hide ((hb2.block (N + 2) (Below.lt_of_row Hr2.out)).trans Hr2.out); have Hb2 := hide (Hbw.out.trans (hb2.mono Hbw.out.size)); clear hb2)
        | (go_at_call 18; ((with_reducible refine (nkind_all _ _ m ((Hb2.out.cell (p := ⟨0, 0, none⟩) H0.out).trans Hm.out)).mono ?_)); rintro e w3 ⟨rfl, hb3⟩; rw [← Hkv.out]; have hrow3 := (hb3.block N (Below.lt_of_row Hr0b.out)).trans Hr0b.out; have b4 : w3.cell? ⟨N, 4, none⟩ = some (.slice AR b.refs.length cR) := cell_of_row _ _ 4 _ _ _ hrow3; have Hr0c := hide hrow3; have Hr2c := hide ((hb3.block (N + 2) (Below.lt_of_row Hr2b.out)).trans Hr2b.out); have Hb3 := hide (Hb2.out.trans (hb3.mono Hb2.out.size)); clear hb3 hrow3)
        | (refine wpList_store_all rfl 26 (.tmp 6) (.tmp 30) rfl (N + 2) zeroBody [.int .u64 b.gen, .int .u64 b.epoch, .int .i64 b.writer, .int .u64 b.stamp, .slice AR b.refs.length cR, .slice AP b.packs.length cP] 26 Hr2c.out rfl rfl rfl (HsL.out _) (HoL.out _ _ _) ?_)
        | fail)
      refine bodyPost_ret (results_cell_two rfl _ _ (N + 2) _ _ _ _ rfl (setRow_heap _ _ _ _ _ _ Hr2c.out) Tryz.underlying26 rfl (HsB.out _)) rfl ?_
      have hbb : Below w.heap.size w (w3.setRow (N + 2) [.int .u64 b.gen, .int .u64 b.epoch, .int .i64 b.writer, .int .u64 b.stamp, .slice AR b.refs.length cR, .slice AP b.packs.length cP].toArray) := below_setRow Hb3.out (by have := HN.out; omega) _
      refine ⟨_, by rw [Hok.out]; rfl, ?_, hbb⟩
      rw [Hout.out]
      exact (Hb.out.below hbb).wide (fun i hi => .inl hi) (fun i hi => by
        rcases hi with hi | hi
        · exact Nat.lt_of_lt_of_le (HT.out i hi) hbb.size
        · exact hi.2))
  case neg => as_aux_lemma =>
    have hok2 : okW b.refs x = true := by rcases hq : okW b.refs x with _ | _ <;> simp_all
    have Hok := hide hok2
    have hz : ((kv : Int) == 0) = false := by
      rw [okW, ← Hkv.out] at hok2
      rw [beq_eq_false_iff_ne]
      intro e
      have e2 : kv = 0 := by exact_mod_cast e
      rw [e2] at hok2
      simp at hok2
    have Hout := hide (show withR b.refs x id = putR b.refs x id by rw [withR, hok2, if_pos rfl])
    clear hok
    rcases hat : atB b.refs x with _ | _
    case true => as_aux_lemma =>
      have Hat := hide hat
      obtain ⟨hk, hnm⟩ := atB_lt b.refs x hat
      obtain ⟨k, hkk⟩ : ∃ k, k = atI b.refs x := ⟨_, rfl⟩
      have hlt : k < b.refs.length := by rw [hkk]; exact hk
      have Hk := hide hkk
      have hone : ∀ u ∈ xsR, u.oneCell' = true := Els_one (fun r c h => RefC.one r c h) HeR.out
      have Hone := hide hone
      have hn2 : b.refs.length ≤ 1000 := by omega
      have Hn2 := hide hn2
      have hk0 : (0 : Int) ≤ (k : Int) := Int.natCast_nonneg k
      have hkn : (k : Int) < (b.refs.length : Int) := Int.ofNat_lt.2 hlt
      clear hat hk hnm hkk hone hok2 hn2
      go_upto_region 6 with (first
        | (with_reducible refine wpList_load_row rfl 26 (.tmp 3) rfl N rfl 26 #[.int .u64 b.gen, .int .u64 b.epoch, .int .i64 b.writer, .int .u64 b.stamp, .slice AR b.refs.length cR, .slice AP b.packs.length cP] (0, 0) _ Hr0.out Tryz.underlying26 rfl (HsB.out _) ?_)
        | (go_at_call 45; ((with_reducible refine (at_any _ b _ x _ HB1.out).mono ?_)); rintro e w2 ⟨rfl, hb2⟩; rw [Hat.out, ← Hk.out]; have Hr0b := hide ((hb2.block N (Below.lt_of_row Hr0.out)).trans Hr0.out); have Hr1b := hide ((hb2.block (N + 1) (Below.lt_of_row Hr1.out)).trans Hr1.out); have Hr2b := hide ((hb2.block (N + 2) (Below.lt_of_row Hr2.out)).trans Hr2.out); have Hb2 := hide (Hbw.out.trans (hb2.mono Hbw.out.size)); clear hb2)
        | (go_at_call 18; ((with_reducible refine (nkind_all _ _ m ((Hb2.out.cell (p := ⟨0, 0, none⟩) H0.out).trans Hm.out)).mono ?_)); rintro e w3 ⟨rfl, hb3⟩; rw [← Hkv.out]; have hrow3 := (hb3.block N (Below.lt_of_row Hr0b.out)).trans Hr0b.out; have b4 : w3.cell? ⟨N, 4, none⟩ = some (.slice AR b.refs.length cR) := cell_of_row _ _ 4 _ _ _ hrow3; have Hr0c := hide hrow3; have Hr1c := hide ((hb3.block (N + 1) (Below.lt_of_row Hr1b.out)).trans Hr1b.out); have Hr2c := hide ((hb3.block (N + 2) (Below.lt_of_row Hr2b.out)).trans Hr2b.out); have Hb3 := hide (Hb2.out.trans (hb3.mono Hb2.out.size)); have HrR3 := hide (HrR.out.keep (Keep.of_none Hb3.out) (fun _ _ _ f => f)); clear hb3 hrow3)
        | (go_at_call 46; ((with_reducible refine (cloneR_any _ AR cR b.refs.length xsR _ HrR3.out Hone.out Hn2.out).mono ?_)); rintro e w5 hcl; obtain ⟨A5, cap5, rfl, hown5, hb5⟩ := hcl; obtain ⟨g, capx, hv5, hgb, hglt⟩ := hown5.form (by omega); obtain rfl : A5 = some ⟨g, 0, none⟩ := (by injection hv5); have Hown5 := hide hown5; have Hb5 := hide hb5; have Hgb := hide hgb; have hrow5 := (hb5.block N (Below.lt_of_row Hr0c.out)).trans Hr0c.out; have Hrow5 := hide hrow5; have b5 : w5.cell? ⟨N, 4, none⟩ = some (.slice AR b.refs.length cR) := cell_of_row _ _ 4 _ _ _ hrow5; have f5 : w5.frozen? ⟨N, 4, none⟩ = false := frozen_of_row _ _ _ _ _ hrow5; clear hv5 hown5 hb5 hgb hrow5)
        | fail)
      obtain ⟨hBg, hgl, cur, hcur, hnc, hcm, hcul, htk⟩ := own_blk Hown5.out
      have hgN : g ≠ N := by have h1 := Hgb.out; have h2 := Below.lt_of_row Hr0c.out; omega
      have hgN1 : g ≠ N + 1 := by have h1 := Hgb.out; have h2 := Below.lt_of_row Hr1c.out; omega
      have hgN2 : g ≠ N + 2 := by have h1 := Hgb.out; have h2 := Below.lt_of_row Hr2c.out; omega
      obtain ⟨W, hW⟩ : ∃ W : World, W = w5.setCell ⟨N, 4, none⟩ (.slice (some ⟨g, 0, none⟩) b.refs.length cap5) := ⟨_, rfl⟩
      have hrN : W.heap[N]? = some (.cells #[.int .u64 b.gen, .int .u64 b.epoch, .int .i64 b.writer, .int .u64 b.stamp, .slice (some ⟨g, 0, none⟩) b.refs.length cap5, .slice AP b.packs.length cP] 26 (0, 0)) := by
        rw [hW, heap_setCell_same _ _ _ _ _ _ Hrow5.out]; rfl
      have hkW : Keep (· = N) w5 W := by rw [hW]; exact (Keep.refl (· = N) w5).setCell (p := ⟨N, 4, none⟩) (fun _ => rfl) _
      have hr1W : W.heap[N + 1]? = some (.cells (encB id).toArray 49 (0, 0)) := (hkW.block (N + 1) (Nat.lt_of_lt_of_le (Below.lt_of_row Hr1c.out) Hb5.out.size) (by simp)).trans ((Hb5.out.block (N + 1) (Below.lt_of_row Hr1c.out)).trans Hr1c.out)
      have hr2W : W.heap[N + 2]? = some (.cells zeroBody.toArray 26 (0, 0)) := (hkW.block (N + 2) (Nat.lt_of_lt_of_le (Below.lt_of_row Hr2c.out) Hb5.out.size) (by simp)).trans ((Hb5.out.block (N + 2) (Below.lt_of_row Hr2c.out)).trans Hr2c.out)
      have hrg : W.heap[g]? = some (.cells cur.toArray 57 (0, 0)) := (hkW.block g hgl hgN).trans hcur
      have hbW : Below w.heap.size w W := by
        have h1 := Hb3.out.trans (Hb5.out.mono Hb3.out.size)
        exact h1.trans (hkW.below h1.size (fun i hi => by have h9 : i = N := hi; have := HN.out; omega))
      have w4 : W.cell? ⟨N, 4, none⟩ = some (.slice (some ⟨g, 0, none⟩) b.refs.length cap5) := cell_of_row _ _ 4 _ _ _ hrN
      have hthg : W.there g (k * 33 + 1) (encB id).toArray.size := fun j hj => by
        rw [List.size_toArray, encB_len] at hj
        refine ⟨?_, frozen_of_row _ _ _ _ _ hrg⟩
        rw [blk_cell hrg, List.getElem?_eq_getElem (by rw [hcul]; omega)]
        rfl
      obtain ⟨W2, hW2⟩ : ∃ W2, W2 = W.setCells g (k * 33 + 1) (encB id) := ⟨_, rfl⟩
      have hkW2 : Keep (· = g) W W2 := by rw [hW2]; exact keep_setCells (F := (· = g)) g rfl _ _ _ _ (Keep.refl _ W)
      have hrN2 := (hkW2.block N (Below.lt_of_row hrN) (Ne.symm hgN)).trans hrN
      have hr22 := (hkW2.block (N + 2) (Below.lt_of_row hr2W) (Ne.symm hgN2)).trans hr2W
      have hfit : k * 33 + 1 + (encB id).length ≤ cur.length := by rw [encB_len, hcul]; omega
      have hrg2 : W2.heap[g]? = some (.cells (over cur (k * 33 + 1) (encB id)).toArray 57 (0, 0)) := by rw [hW2]; exact heap_setCells g _ (encB id) cur _ W hrg hfit
      have hbW2 : Below w.heap.size w W2 := hbW.trans (hkW2.below hbW.size (fun i hi => by have h9 : i = g := hi; have h1 := Hgb.out; have h2 := Hb3.out.size; omega))
      have Hr1W := hide hr1W
      have Hthg := hide hthg
      have HW2 := hide hW2
      have HrN2 := hide hrN2
      have Hr22 := hide hr22
      have Hrg2 := hide hrg2
      have HbW2 := hide hbW2
      have Hcul := hide hcul
      have Htk := hide htk
      rw [← hW]
      clear hW hrN hkW hr1W hr2W hrg hbW hthg hW2 hkW2 hrN2 hr22 hrg2 hbW2 hcur hcul htk b4 b5 f5
      go_wp2_with (first
        | (with_reducible refine wpList_load_row rfl 49 (.tmp 5) rfl (N + 1) rfl 49 (encB id).toArray (0, 0) _ Hr1W.out Tryz.underlying49 rfl HszI.out ?_)
        | (refine wpList_store_mid rfl 49 (.tmp 42) (.tmp 40) rfl g (k * 33 + 1) (encB id).toArray rfl rfl Hthg.out HszI.out (all_oneCell_toArray (encB_one _)) ?_; rw [show (W.setCells g (k * 33 + 1) (encB id).toArray.toList) = W2 from HW2.out.symm])
        | (with_reducible refine wpList_load_row rfl 26 (.tmp 3) rfl N rfl 26 #[.int .u64 b.gen, .int .u64 b.epoch, .int .i64 b.writer, .int .u64 b.stamp, .slice (some ⟨g, 0, none⟩) b.refs.length cap5, .slice AP b.packs.length cP] (0, 0) _ HrN2.out Tryz.underlying26 rfl (HsB.out _) ?_)
        | (refine wpList_store_all rfl 26 (.tmp 6) (.tmp 43) rfl (N + 2) zeroBody [.int .u64 b.gen, .int .u64 b.epoch, .int .i64 b.writer, .int .u64 b.stamp, .slice (some ⟨g, 0, none⟩) b.refs.length cap5, .slice AP b.packs.length cP] 26 Hr22.out rfl rfl rfl (HsL.out _) (HoL.out _ _ _) ?_)
        | fail)
      refine bodyPost_ret (results_cell_two rfl _ _ (N + 2) _ _ _ _ rfl (setRow_heap _ _ _ _ _ _ Hr22.out) Tryz.underlying26 rfl (HsB.out _)) rfl ?_
      obtain ⟨W3, hW3⟩ : ∃ W3, W3 = W2.setRow (N + 2) [.int .u64 b.gen, .int .u64 b.epoch, .int .i64 b.writer, .int .u64 b.stamp, .slice (some ⟨g, 0, none⟩) b.refs.length cap5, .slice AP b.packs.length cP].toArray := ⟨_, rfl⟩
      have hbb : Below w.heap.size w W3 := by rw [hW3]; exact below_setRow HbW2.out (by have := HN.out; omega) _
      have hkr : Keep (· = N + 2) W2 W3 := by rw [hW3]; exact keep_setRow (F := (· = N + 2)) (g := N + 2) (Keep.refl _ W2) (fun _ => rfl) _
      have hrg3 := (hkr.block g (Below.lt_of_row Hrg2.out) hgN2).trans Hrg2.out
      have hol : (putR b.refs x id).length = b.refs.length := by rw [put_length, Hat.out, if_pos rfl]
      have hels : Els RefC (putR b.refs x id) (over xsR (k * 33 + 1) (encB id)) := by
        have h1 := els_set_id b.refs xsR k hlt id HeR.out
        have h2 : (b.refs[k]).name = x := by
          obtain ⟨hk9, hn9⟩ := atB_lt b.refs x Hat.out
          have e := Hk.out
          subst e
          exact hn9
        rw [h2] at h1
        rw [putR, Hat.out, if_pos rfl, ← Hk.out]
        exact h1
      have hown6 : W3.ownsRow w3.heap.size 57 33 (.slice (some ⟨g, 0, none⟩) b.refs.length cap5) b.refs.length (over xsR (k * 33 + 1) (encB id)) :=
        blk_own hBg hrg3 hnc hcm (by rw [over_length _ _ _ (by rw [encB_len, Hcul.out]; omega), Hcul.out]) (by rw [over_take _ _ _ _ (by rw [encB_len]; omega) (by rw [Hcul.out]; omega), Htk.out])
      rw [← hW3]
      refine ⟨_, by rw [Hok.out]; rfl, ?_, hbb⟩
      rw [Hout.out]
      have hgl3 := Below.lt_of_row hrg3
      have hset := BodyC.setRefs (T' := fun i => T i ∨ (w.heap.size ≤ i ∧ i < W3.heap.size)) (l := putR b.refs x id) (A := some ⟨g, 0, none⟩) (cap := cap5) (xs := over xsR (k * 33 + 1) (encB id)) Hb.out hbb (by
        rw [hol]
        exact Rd.of_own hown6 (fun q hq _ => .inr (by
          have hq2 : (⟨g, 0, none⟩ : Addr) = ⟨q, 0, none⟩ := Option.some.inj hq
          injection hq2 with hq3
          subst hq3
          have h1 := Hgb.out; have h2 := Hb3.out.size
          exact ⟨by omega, hgl3⟩))) hels (by rw [hol]; omega) (fun i hi => .inl hi) (fun i hi => by
        rcases hi with hi | hi
        · exact Nat.lt_of_lt_of_le (HT.out i hi) hbb.size
        · exact hi.2)
      rw [hol] at hset
      exact hset
    case false => as_aux_lemma =>
      have Hat := hide hat
      obtain ⟨k, hkk⟩ : ∃ k, k = atI b.refs x := ⟨_, rfl⟩
      have hlt : k ≤ b.refs.length := by rw [hkk]; exact List.findIdx_le_length
      have Hk := hide hkk
      have hone : ∀ u ∈ xsR, u.oneCell' = true := Els_one (fun r c h => RefC.one r c h) HeR.out
      have Hone := hide hone
      have hn2 : b.refs.length ≤ 1000 := by omega
      have Hn2 := hide hn2
      have h8 : decide ((8 : Int) ≤ b.refs.length) = false := by
        rw [okW, hat] at hok2
        simp at hok2
        simp
        omega
      clear hat hkk hone hok2 hn2
      go_upto_region 8 with (first
        | (with_reducible refine wpList_load_row rfl 26 (.tmp 3) rfl N rfl 26 #[.int .u64 b.gen, .int .u64 b.epoch, .int .i64 b.writer, .int .u64 b.stamp, .slice AR b.refs.length cR, .slice AP b.packs.length cP] (0, 0) _ Hr0.out Tryz.underlying26 rfl (HsB.out _) ?_)
        | (go_at_call 45; ((with_reducible refine (at_any _ b _ x _ HB1.out).mono ?_)); rintro e w2 ⟨rfl, hb2⟩; rw [Hat.out, ← Hk.out]; have Hr0b := hide ((hb2.block N (Below.lt_of_row Hr0.out)).trans Hr0.out); have Hr1b := hide ((hb2.block (N + 1) (Below.lt_of_row Hr1.out)).trans Hr1.out); have Hr2b := hide ((hb2.block (N + 2) (Below.lt_of_row Hr2.out)).trans Hr2.out); have Hb2 := hide (Hbw.out.trans (hb2.mono Hbw.out.size)); clear hb2)
        | (go_at_call 18; ((with_reducible refine (nkind_all _ _ m ((Hb2.out.cell (p := ⟨0, 0, none⟩) H0.out).trans Hm.out)).mono ?_)); rintro e w3 ⟨rfl, hb3⟩; rw [← Hkv.out]; have hrow3 := (hb3.block N (Below.lt_of_row Hr0b.out)).trans Hr0b.out; have b4 : w3.cell? ⟨N, 4, none⟩ = some (.slice AR b.refs.length cR) := cell_of_row _ _ 4 _ _ _ hrow3; have Hr0c := hide hrow3; have Hr1c := hide ((hb3.block (N + 1) (Below.lt_of_row Hr1b.out)).trans Hr1b.out); have Hr2c := hide ((hb3.block (N + 2) (Below.lt_of_row Hr2b.out)).trans Hr2b.out); have Hb3 := hide (Hb2.out.trans (hb3.mono Hb2.out.size)); have HrR3 := hide (HrR.out.keep (Keep.of_none Hb3.out) (fun _ _ _ f => f)); clear hb3 hrow3)
        | fail)
      obtain ⟨n, hn3⟩ : ∃ n, n = b.refs.length := ⟨_, rfl⟩
      have Hn3 := hide hn3
      obtain ⟨c, hc⟩ : ∃ c, c = strV x :: encB id := ⟨_, rfl⟩
      have Hc := hide hc
      have Hcl := hide (show c.length = 33 by rw [hc, List.length_cons, encB_len])
      have hcR : RefC ⟨x, id⟩ c := ⟨hc, Hxl.out⟩
      have HcR := hide hcR
      have Hc1 := hide (RefC.one _ _ hcR)
      obtain ⟨C, hC⟩ : ∃ C : World → Prop, C = Keep (fun _ => False) w3 := ⟨_, rfl⟩
      have HCe := hide hC
      have HC1 := hide (show ∀ w', InC C w' → w'.cell? ⟨N, 4, none⟩ = some (.slice AR b.refs.length cR) from InC.of fun w' h => keep_cell b4 (fun f => f) w' (hC ▸ h))
      have HC2 := hide (show ∀ w', InC C w' → w'.rangeAt (N + 1) 0 (encB id) from InC.of fun w' h => range_keep (fun j v hv => by rw [Nat.zero_add, cell_of_row _ _ j _ _ _ Hr1c.out, List.getElem?_toArray]; exact hv) (hC ▸ h) (Below.lt_of_row Hr1c.out) (fun f => f))
      have HC0 := hide (show C w3.drew by rw [hC]; exact (Keep.refl _ _).drew)
      haveI : Nonempty (Wl C) := ⟨⟨_, HC0.out⟩⟩
      clear hn3 hc hcR hC b4
      refine wp_region_mix C (by kernel_rfl) (by kernel_rfl) ?_
      refine Mixed.batch [0, 1, 3, 4, 5, 6] 5 (by kernel_rfl) (by kernel_rfl) (by kernel_rfl) (by kernel_rfl) HC0.out _ (by simp only [List.map_cons, List.map_nil, List.getElem?_toArray, List.getElem?_cons_zero, List.getElem?_cons_succ, Option.getD_some]; rfl) (fun R hR => ?_)
      repeat (first | go_big_quiet_skip | (go_big_quiet_want; first
        | (refine quiet_load 23 (.tmp 44) rfl ⟨N, 4, none⟩ rfl _ HC1.out _ Tryz.underlying23 rfl ?_; go_simp; go_big_quiet_on)
        | (refine quiet_loads 49 (.tmp 5) rfl (N + 1) 0 rfl (encB id) HC2.out _ Tryz.underlying49 rfl HszL.out ?_; go_simp; go_big_quiet_on)
        | (refine quiet_build 57 #[(0, .tmp 48), (1, .tmp 49)] rfl c.toArray [(0, strV x), (1, .agg (encB id).toArray)] rfl (by rw [Hc.out]; exact built_ref x id) ?_; go_simp; go_big_quiet_on)
        | (go_big_quiet_op; go_big_quiet_on)))
      refine wpQuiet_nil (hR.out _ ?_)
      clear hR R
      refine Mixed.two 2 7 3 rfl (by kernel_rfl) (by kernel_rfl) (by kernel_rfl) (by simp only [List.getElem?_toArray, List.getElem?_cons_zero, List.getElem?_cons_succ]; rfl) (by simp only [List.getElem?_toArray, List.getElem?_cons_zero, List.getElem?_cons_succ]; rfl) 46 51 rfl rfl (by decide) (TwoR w3.heap.size b.refs.length xsR c) (fun K hK => ?_) (fun K hK => ?_) (fun v u w4 hS4 hR4 => ?_)
      · refine step_calls rfl 46 #[.tmp 45] _ rfl clone_enters #[.slice AR b.refs.length cR] rfl _ (cloneR_any _ AR cR b.refs.length xsR _ HrR3.out.drew Hone.out Hn2.out) (fun e w4 hcl => ?_)
        obtain ⟨A4, cap4, rfl, hown4, hb4⟩ := hcl
        have hk4 : Keep (fun _ => False) w3 w4 := Keep.drewl (Keep.of_none hb4)
        refine ⟨_, rfl, hK.out _ _ (by rw [HCe.out]; exact hk4) (fun K2 hK2 => ?_)⟩
        refine step_buildRef rfl (.tmp 50) rfl c rfl Hcl.out ?_
        refine hK2.out _ _ (by rw [HCe.out]; exact hk4.alloc _) ⟨A4, cap4, w4.heap.size, rfl, rfl, own_below hown4 ((Below.refl _ _).alloc (Nat.le_refl _) _), heap_alloc_new _ _, hk4.size, fun e => by have := (hown4.lt _ e).2; omega⟩
      · refine step_buildRef rfl (.tmp 50) rfl c rfl Hcl.out ?_
        have hk4 : Keep (fun _ => False) w3 (w3.drew.alloc (.cells c.toArray 57)) := Keep.drewl ((Keep.refl _ w3.drew).alloc _)
        refine hK.out _ _ (by rw [HCe.out]; exact hk4) (fun K2 hK2 => ?_)
        refine step_calls rfl 46 #[.tmp 45] _ rfl clone_enters #[.slice AR b.refs.length cR] rfl _ (cloneR_any _ AR cR b.refs.length xsR _ (HrR3.out.drew.alloc _) Hone.out Hn2.out) (fun e w4 hcl => ?_)
        obtain ⟨A4, cap4, rfl, hown4, hb4⟩ := hcl
        have hs : (w3.drew.alloc (.cells c.toArray 57)).heap.size = w3.heap.size + 1 := by simp
        have hk5 : Keep (fun _ => False) w3 w4 := hk4.trans (Keep.of_none hb4)
        refine ⟨_, rfl, hK2.out _ _ (by rw [HCe.out]; exact hk5) ⟨A4, cap4, w3.heap.size, rfl, rfl, ?_, ?_, Nat.le_refl _, fun e => by have := (hown4.lt _ e).1; omega⟩⟩
        · exact ⟨hown4.1, hown4.2.imp (fun h => h) (fun ⟨g, c2, cur, h1, h2, h3⟩ => ⟨g, c2, cur, h1, by omega, h3⟩)⟩
        · exact (hb4.block w3.heap.size (by omega)).trans (heap_alloc_new w3.drew _)
      obtain ⟨A4, cap4, X, rfl, rfl, hown4, hX, hBX, hne⟩ := hR4
      have Hown4 := hide hown4
      have HX := hide hX
      have Hne := hide hne
      have HBX := hide hBX
      have Hk4 := hide (show Keep (fun _ => False) w3 w4 from HCe.out ▸ hS4)
      clear hS4 hown4 hX hne hBX
      refine Mixed.one 8 2 (by kernel_rfl) (by kernel_rfl) (by simp only [List.getElem?_toArray, List.getElem?_cons_zero, List.getElem?_cons_succ]; rfl) (fun K hK => ?_)
      refine step_calls rfl 47 #[.tmp 46, .tmp 47, .tmp 51] _ rfl insert_enters #[.slice A4 b.refs.length cap4, .int .i64 k, .slice (some ⟨X, 0, none⟩) 1 1] rfl _ (insertR_own _ _ _ k X A4 c xsR _ Hown4.out Hone.out Hn2.out hlt HX.out Hcl.out Hc1.out Hne.out Hk4.out.size) (fun e w6 hin => ?_)
      obtain ⟨A6, cap6, rfl, hown6, hk6⟩ := hin
      have hk36 : Keep (fun _ => False) w3 w6 := Hk4.out.step hk6 (fun j hj hl => by have h9 : w3.heap.size ≤ j := hj; omega)
      refine ⟨_, rfl, hK.out _ _ (fun _ => by rw [HCe.out]; exact hk36) ?_⟩
      clear hK K
      have hrow6 := (hk36.block N (Below.lt_of_row Hr0c.out) (fun f => f)).trans Hr0c.out
      have b6 : w6.cell? ⟨N, 4, none⟩ = some (.slice AR b.refs.length cR) := cell_of_row _ _ 4 _ _ _ hrow6
      have f6 : w6.frozen? ⟨N, 4, none⟩ = false := frozen_of_row _ _ _ _ _ hrow6
      have Hrow6 := hide hrow6
      have Hown6 := hide hown6
      have Hk36 := hide hk36
      have HS6 := hide (show C w6 by rw [HCe.out]; exact hk36)
      clear hrow6 hown6 hk6 hk36
      simp only [Act.put, List.setIfInBounds_toArray, List.set_cons_zero, List.set_cons_succ]
      refine Mixed.batch [9] 1 (by kernel_rfl) (by kernel_rfl) (by kernel_rfl) (by kernel_rfl) HS6.out _ (by simp only [List.map_cons, List.map_nil, List.getElem?_toArray, List.getElem?_cons_zero, List.getElem?_cons_succ, Option.getD_some]; rfl) (fun R hR => ?_)
      repeat (first | go_big_quiet_skip | (go_big_quiet_want; go_big_quiet_op; go_big_quiet_on))
      refine wpQuiet_nil (hR.out _ ?_)
      clear hR R
      refine Mixed.one 10 0 (by kernel_rfl) (by kernel_rfl) (by simp only [List.getElem?_toArray, List.getElem?_cons_zero, List.getElem?_cons_succ]; rfl) (fun K hK => ?_)
      go_simp
      refine hK.out _ _ (fun h => absurd rfl h) ?_
      clear hK K
      refine Mixed.done (by kernel_rfl) ?_
      obtain ⟨W, hW⟩ : ∃ W : World, W = w6.setCell ⟨N, 4, none⟩ (.slice A6 (b.refs.length + 1) cap6) := ⟨_, rfl⟩
      have hrN : W.heap[N]? = some (.cells #[.int .u64 b.gen, .int .u64 b.epoch, .int .i64 b.writer, .int .u64 b.stamp, .slice A6 (b.refs.length + 1) cap6, .slice AP b.packs.length cP] 26 (0, 0)) := by
        rw [hW, heap_setCell_same _ _ _ _ _ _ Hrow6.out]; rfl
      have hkW : Keep (· = N) w6 W := by rw [hW]; exact (Keep.refl (· = N) w6).setCell (p := ⟨N, 4, none⟩) (fun _ => rfl) _
      have hr26 := (Hk36.out.block (N + 2) (Below.lt_of_row Hr2c.out) (fun f => f)).trans Hr2c.out
      have hr2W : W.heap[N + 2]? = some (.cells zeroBody.toArray 26 (0, 0)) := (hkW.block (N + 2) (Below.lt_of_row hr26) (by simp)).trans hr26
      have hbW : Below w.heap.size w W := by
        have h1 := Hb3.out.trans ((Hk36.out.none_below).mono Hb3.out.size)
        exact h1.trans (hkW.below h1.size (fun i hi => by have h9 : i = N := hi; have := HN.out; omega))
      have hN3 := Below.lt_of_row Hr0c.out
      have hN23 := Below.lt_of_row Hr2c.out
      have hown7 : W.ownsRow w3.heap.size 57 33 (.slice A6 (b.refs.length + 1) cap6) (b.refs.length + 1) (xsR.take (k * 33) ++ c ++ xsR.drop (k * 33)) := ownsRow_keep Hown6.out hkW (fun j hj e => by have h1 := (Hown6.out.lt j hj).1; have h9 : j = N := e; omega)
      have HrN := hide hrN
      have Hr2W := hide hr2W
      have HbW := hide hbW
      have Hown7 := hide hown7
      rw [← hW]
      clear hW hrN hkW hr26 hr2W hbW hown7 b6 f6
      go_wp2_with (first
        | (with_reducible refine wpList_load_row rfl 26 (.tmp 3) rfl N rfl 26 #[.int .u64 b.gen, .int .u64 b.epoch, .int .i64 b.writer, .int .u64 b.stamp, .slice A6 (b.refs.length + 1) cap6, .slice AP b.packs.length cP] (0, 0) _ HrN.out Tryz.underlying26 rfl (HsB.out _) ?_)
        | (refine wpList_store_all rfl 26 (.tmp 6) (.tmp 54) rfl (N + 2) zeroBody [.int .u64 b.gen, .int .u64 b.epoch, .int .i64 b.writer, .int .u64 b.stamp, .slice A6 (b.refs.length + 1) cap6, .slice AP b.packs.length cP] 26 Hr2W.out rfl rfl rfl (HsL.out _) (HoL.out _ _ _) ?_)
        | fail)
      refine bodyPost_ret (results_cell_two rfl _ _ (N + 2) _ _ _ _ rfl (setRow_heap _ _ _ _ _ _ Hr2W.out) Tryz.underlying26 rfl (HsB.out _)) rfl ?_
      obtain ⟨W3, hW3⟩ : ∃ W3, W3 = W.setRow (N + 2) [.int .u64 b.gen, .int .u64 b.epoch, .int .i64 b.writer, .int .u64 b.stamp, .slice A6 (b.refs.length + 1) cap6, .slice AP b.packs.length cP].toArray := ⟨_, rfl⟩
      have hbb : Below w.heap.size w W3 := by rw [hW3]; exact below_setRow HbW.out (by have := HN.out; omega) _
      have hkr : Keep (· = N + 2) W W3 := by rw [hW3]; exact keep_setRow (F := (· = N + 2)) (g := N + 2) (Keep.refl _ W) (fun _ => rfl) _
      have hown8 := ownsRow_keep Hown7.out hkr (fun j hj e => by have h1 := (Hown7.out.lt j hj).1; have h9 : j = N + 2 := e; omega)
      have hol : (putR b.refs x id).length = b.refs.length + 1 := by rw [put_length, Hat.out]; rfl
      have hels : Els RefC (putR b.refs x id) (xsR.take (k * 33) ++ c ++ xsR.drop (k * 33)) := by
        rw [putR, Hat.out, ← Hk.out, List.append_assoc]
        exact (HeR.out.take (fun r c h => RefC.len r c h) k).append ⟨c, _, rfl, HcR.out, HeR.out.drop (fun r c h => RefC.len r c h) k⟩
      rw [← hW3]
      refine ⟨_, by rw [Hok.out]; rfl, ?_, hbb⟩
      rw [Hout.out]
      have hset := BodyC.setRefs (T' := fun i => T i ∨ (w.heap.size ≤ i ∧ i < W3.heap.size)) (l := putR b.refs x id) (A := A6) (cap := cap6) (xs := xsR.take (k * 33) ++ c ++ xsR.drop (k * 33)) Hb.out hbb (by
        rw [hol]
        exact Rd.of_own hown8 (fun q hq _ => .inr (by
          have h1 := hown8.lt q (by rw [hq]; rfl)
          have h2 := Hb3.out.size
          exact ⟨by omega, h1.2⟩))) hels (by rw [hol]; omega) (fun i hi => .inl hi) (fun i hi => by
        rcases hi with hi | hi
        · exact Nat.lt_of_lt_of_le (HT.out i hi) hbb.size
        · exact hi.2)
      rw [hol] at hset
      exact hset
end Go.Proofs.YtimfmbcihopaaaaGreatDoor
