/- slices.Insert of one reference. -/
import Derived.Test.YtimfmbcihopaaaaGreatDoorBlk
import Derived.Lib.Overlaps
import Derived.Laws.Externs
import Derived.Lib.AppendZerosOnto
import Derived.Laws.IdiomCopy
namespace Go.Proofs.YtimfmbcihopaaaaGreatDoor
open Go.RowKit Go.Cof

theorem Keep.drewl {F : Nat → Prop} {w w' : World} (h : Keep F w.drew w') : Keep F w w' := ⟨h.os, h.tape, h.output, h.size, h.block⟩
theorem shape_of_row {w : World} {g : Nat} {cs : Array Value} {t : TypeId} {fr : Nat × Nat} (h : w.heap[g]? = some (.cells cs t fr)) : w.shape? g = some (t, cs.size) := by unfold World.shape?; rw [h]
/-- What stands behind both copies: the new one among the old ones. -/
theorem over_two (cur c t xs : List Value) (i n m : Nat) (hx : cur.take n = xs) (hxl : xs.length = n) (hin : i ≤ n) (ht : t = xs.drop i) (hcl : c.length = m) (hl : n + m ≤ cur.length) :
    (over (over cur (i + m) t) i c).take (n + m) = xs.take i ++ c ++ t := by
  have htl : t.length = n - i := by rw [ht, List.length_drop, hxl]
  have h1 : (over cur (i + m) t).take i = xs.take i := by
    rw [over, List.take_append_of_le_length (by rw [List.length_take]; omega), List.take_take, ← hx, List.take_take]
    congr 1
    omega
  have h2 : (over cur (i + m) t).drop (i + m) = t ++ cur.drop (n + m) := by
    rw [over, List.drop_append, List.drop_eq_nil_of_le (by rw [List.length_take]; omega), List.nil_append, List.length_take, show i + m - min (i + m) cur.length = 0 by omega, List.drop_zero, show i + m + t.length = n + m by omega]
  rw [over, h1, hcl, h2]
  rw [← List.append_assoc, ← List.append_assoc]
  have hlen : (xs.take i ++ c ++ t).length = n + m := by
    simp only [List.length_append, List.length_take]
    omega
  rw [List.take_append_of_le_length (by omega), List.take_of_length_le (by omega)]
/-- The same the other way round. -/
theorem over_two' (cur c t xs : List Value) (i n m : Nat) (hx : cur.take i = xs.take i) (hxl : xs.length = n) (hin : i ≤ n) (ht : t = xs.drop i) (hcl : c.length = m) (hl : n + m ≤ cur.length) :
    (over (over cur i c) (i + m) t).take (n + m) = xs.take i ++ c ++ t := by
  have htl : t.length = n - i := by rw [ht, List.length_drop, hxl]
  have h1 : (over cur i c).take (i + m) = xs.take i ++ c := by
    rw [over, hx, ← List.append_assoc, List.take_append_of_le_length (by simp only [List.length_append, List.length_take]; omega), List.take_of_length_le (by simp only [List.length_append, List.length_take]; omega)]
  rw [over, h1]
  rw [← List.append_assoc]
  have hlen : (xs.take i ++ c ++ t).length = n + m := by
    simp only [List.length_append, List.length_take]
    omega
  rw [List.take_append_of_le_length (by omega), List.take_of_length_le (by omega)]

def InsP (w w' : World) (B g n i : Nat) (c xs : List Value) (e : Ending) : Prop :=
  ∃ A' cap', e = .returned (.slice A' (n + 1) cap') ∧ w'.ownsRow B 57 33 (.slice A' (n + 1) cap') (n + 1) (xs.take (i * 33) ++ c ++ xs.drop (i * 33)) ∧ Keep (· = g) w w'

theorem wpList_append_zr {ops : Array Oper} {rest : List Oper} {o : Oper} {a : Act} {w : World} {Q : Exit → Act → World → Prop} (hgd : o.guard = none) (s x : Operand) (ho : o.op = .call { callee := .builtin .append, args := #[s, x], argTypes := #[23, 3] })
    (g n cap k : Nat) (hs : a.eval s = .slice (some ⟨g, 0, none⟩) n cap) (z : Int) (hx : a.eval x = .int .i64 z) (hz9 : z = (k : Nat)) (N : Nat) (hN : n + k = N) (xs : List Value) (hxl : xs.length = n * 33) (hc : ∀ j u, xs[j]? = some u → w.cell? ⟨g, j, none⟩ = some u) (h0 : 0 < k) (hg : cap < n + k) (hn : n + k ≤ 2000)
    (h : ∀ capn zs, N ≤ capn → capn ≤ maxLen → (xs ++ zs).length = capn * 33 → wpList Tryz.prog ops Q rest (a.put o.dst (.slice (some ⟨w.heap.size, 0, none⟩) N capn)) (w.drew.alloc (.cells (xs ++ zs).toArray 57))) : wpList Tryz.prog ops Q (o :: rest) a w := by
  subst hz9 hN
  obtain ⟨i, hi, hz, hsz, hb⟩ := info_parts Tryz.info57
  have hadd : ∀ j, (⟨g, 0, none⟩ : Addr).add j = ⟨g, j, none⟩ := fun j => by unfold Addr.add; split <;> simp_all
  have hold := run_firstCells_some (P := Tryz.prog) w.drew i.size n ⟨g, 0, none⟩ n cap xs (by rw [hsz]; exact hxl) (fun j u hj => by rw [hadd]; exact hc j u hj)
  have hge := grownCap_ge w (n + k) cap 57
  have hcm2 : grownCap w (n + k) cap 57 ≤ maxLen := grownCap_le_maxLen w (n + k) cap 57 (by unfold maxLen; omega)
  have hr := Lib.run_append_grow_zeros (P := Tryz.prog) w 23 3 o.type 57 i _ .i64 .i64 Tryz.underlying23 Tryz.underlying3 hi hz (some ⟨g, 0, none⟩) n cap xs hold k h0 (by rw [hsz]; decide) hg (by omega) (by rw [hb]; omega) (growslice_fits (by omega) (by rw [hb]; omega))
  have h33 : ∀ q, (Builtin.zeroCells (Value.agg (#[.string ⟨#[]⟩] ++ Array.replicate 32 (.int .u8 0))).cells q).size = q * 33 := fun q => by rw [size_zeroCells]; simp [Value.cells]
  refine wpList_plain hgd fun K hK => ?_
  unfold Oper.wp execOp
  simp only [ho, resolve, invoke, builtin, Sem.run_bind, Sem.run_pure, Result.andThen_ok, List.map_toArray, List.map_cons, List.map_nil, hs, hx, hr]
  have h2 := h (grownCap w (n + k) cap 57) ((Builtin.zeroCells (Value.agg (#[.string ⟨#[]⟩] ++ Array.replicate 32 (.int .u8 0))).cells k).toList ++ (Builtin.zeroCells (Value.agg (#[.string ⟨#[]⟩] ++ Array.replicate 32 (.int .u8 0))).cells (grownCap w (n + k) cap 57 - (n + k))).toList) hge hcm2 (by
    simp only [List.length_append, Array.length_toList, h33, hxl]
    omega)
  have e : (xs ++ ((Builtin.zeroCells (Value.agg (#[.string ⟨#[]⟩] ++ Array.replicate 32 (.int .u8 0))).cells k).toList ++ (Builtin.zeroCells (Value.agg (#[.string ⟨#[]⟩] ++ Array.replicate 32 (.int .u8 0))).cells (grownCap w (n + k) cap 57 - (n + k))).toList)).toArray = xs.toArray ++ Builtin.zeroCells (Value.agg (#[.string ⟨#[]⟩] ++ Array.replicate 32 (.int .u8 0))).cells k ++ Builtin.zeroCells (Value.agg (#[.string ⟨#[]⟩] ++ Array.replicate 32 (.int .u8 0))).cells (grownCap w (n + k) cap 57 - (n + k)) := by
    apply Array.toList_inj.1
    simp
  rw [e] at h2
  exact hK _ _ h2

set_option maxHeartbeats 8000000 in
set_option maxRecDepth 200000 in
theorem insertR_any (B g n cap i X : Nat) (c xs : List Value) (w : World) (hown : w.ownsRow B 57 33 (.slice (some ⟨g, 0, none⟩) n cap) n xs) (h1 : ∀ u ∈ xs, u.oneCell' = true) (hn : n ≤ 1000) (hi : i ≤ n)
    (hc : w.heap[X]? = some (.cells c.toArray 57 (0, 0))) (hcl : c.length = 33) (hc1 : ∀ u ∈ c, u.oneCell' = true) (hX : X ≠ g) (hB : B ≤ w.heap.size) :
    Calls Tryz.prog 47 #[.slice (some ⟨g, 0, none⟩) n cap, .int .i64 i, .slice (some ⟨X, 0, none⟩) 1 1] w fun e w' => InsP w w' B g n i c xs e := by
  have hxl : xs.length = n * 33 := hown.1
  have hXlt : X < w.heap.size := Below.lt_of_row hc
  have Hrd := hide (show Rd w (fun _ => True) 33 (some ⟨X, 0, none⟩) 1 c from ⟨by rw [hcl], fun _ => ⟨X, 0, rfl, trivial, hXlt, fun j _ => by rw [Nat.zero_add]; exact blk_cell hc j⟩⟩)
  have hi0 : (0 : Int) ≤ (i : Int) := Int.natCast_nonneg i
  have hin : (i : Int) ≤ (n : Int) := Int.ofNat_le.2 hi
  obtain ⟨hBg, hg, cur, hcur, hnc, hcm, hcul, htk⟩ := own_blk hown
  have hncI : (n : Int) ≤ (cap : Int) := Int.ofNat_le.2 hnc
  have hcap2 : cap ≤ 9223372036854775807 := hcm
  have hicI : (i : Int) ≤ (cap : Int) := by omega
  have Hown := hide hown
  have H1 := hide h1
  have Hc := hide hc
  have Hcl := hide hcl
  have Hc1 := hide hc1
  have Hcur := hide hcur
  have Hcul := hide hcul
  have Htk := hide htk
  have Hxl := hide hxl
  clear hown h1 hc hcl hc1 hcur hcul htk hxl
  by_cases hend : i = n
  case pos => as_aux_lemma =>
    subst hend
    have Ls1 := hide (show i + 1 ≤ maxLen by unfold maxLen; omega)
    have Ls2 := hide (show (i + 1) * 48 ≤ 140737488355328 by omega)
    have heq : ((i : Int) == (i : Int)) = true := beq_self_eq_true _
    go_enter Tryz.func47, Tryz.ntmps47
    go_wp2_with (first
      | (at_builtin; refine wpList_append_rd _ rfl (.tmp 23) (.tmp 24) 23 23 rfl B 57 57 _ 33 48 Tryz.underlying23 Tryz.underlying23 Tryz.info57 rfl (by decide) (.slice (some ⟨g, 0, none⟩) i cap) i xs rfl Hown.out _ _ 1 1 c rfl Hrd.out Hc1.out Ls1.out Ls2.out hB ?_; intro A14 cap14 w14 hown14 hgrow14 hat14; have Hown14 := hide hown14; have Hgr := hide hgrow14; clear hown14 hgrow14 hat14)
      | fail)
    all_goals (
      go_ret
      refine ⟨_, cap14, rfl, ?_, (Keep.refl _ w).grown Hgr.out (fun k hk _ => by simp [Value.ownBlock] at hk; exact hk.symm)⟩
      rw [List.take_of_length_le (by rw [Hxl.out]; omega), List.drop_eq_nil_of_le (by rw [Hxl.out]; omega), List.append_nil]
      exact Hown14.out)
  case neg => as_aux_lemma =>
    have hlt : i < n := by omega
    have hltI : (i : Int) < (n : Int) := by omega
    have hne : ((i : Int) == (n : Int)) = false := by rw [beq_eq_false_iff_ne]; omega
    obtain ⟨t, ht⟩ : ∃ t, t = xs.drop (i * 33) := ⟨_, rfl⟩
    have htl : t.length = (n - i) * 33 := by rw [ht, List.length_drop, Hxl.out]; omega
    have hto : ∀ u ∈ t, u.oneCell' = true := by rw [ht]; exact fun u hu => H1.out u (List.mem_of_mem_drop hu)
    have Ht := hide ht
    have Htl := hide htl
    have Hto := hide hto
    clear ht htl hto
    by_cases hcap : n + 1 ≤ cap
    case pos => as_aux_lemma =>
      have hd9 : decide ((cap : Int) < (n : Int) + 1) = false := by simp; omega
      have hov : ∀ lb cb, (callFunc 63 #[.slice (some ⟨X, 0, none⟩) 1 1, .slice (some ⟨g, (i + 1) * 33, none⟩) lb cb]).run Tryz.prog w = .ok (.value (.bool false)) w := fun lb cb => by
        rw [run_callFunc_extern Tryz.func63 (by kernel_rfl) (by kernel_rfl) (by kernel_rfl) (e := Extern.SlicesOverlaps.overlaps #[23, 23] #[4]) (by kernel_rfl),
          Lib.run_overlaps_apart w 23 4 57 Tryz.underlying23 33 (fun w => Tryz.sizeOf57 w) ⟨X, 0, none⟩ ⟨g, (i + 1) * 33, none⟩ 1 1 lb cb hX 57 57 c.toArray.size cur.toArray.size (shape_of_row Hc.out) (shape_of_row Hcur.out) (by rw [List.size_toArray, Hcul.out]; omega) (frozen_of_row _ _ _ _ _ Hc.out) (frozen_of_row _ _ _ _ _ Hc.out)]
        rfl
      have hncI2 : (n : Int) + 1 ≤ (cap : Int) := by omega
      go_enter Tryz.func47, Tryz.ntmps47
      go_upto_region 15 with (simp only [hov])
      have e33 : (i + 1) * 33 = i * 33 + 33 := by omega
      have hb1 : (0 : Int) ≤ (i : Int) + 1 := by omega
      have htn : ((i : Int) + 1).toNat = i + 1 := by omega
      have hb2 : ¬ (cap = i + 1) := by omega
      have hb4 : ¬ (cap = i) := by omega
      have hb3 : (i : Int) + 1 ≤ (n : Int) + 1 := by omega
      have hb5 : (i : Int) ≤ (n : Int) + 1 := by omega
      have Hpos := hide (show 0 < t.length → (some (⟨g, i * 33 + 33, none⟩ : Addr) = some ⟨g, i * 33 + 33, none⟩) ∧ ∃ ad, some (⟨g, i * 33, none⟩ : Addr) = some ad ∧ ∀ j v, t[j]? = some v → w.drew.cell? (ad.add j) = some v from fun _ => ⟨rfl, ⟨g, i * 33, none⟩, rfl, fun j v hj => by
        have hadd : (⟨g, i * 33, none⟩ : Addr).add j = ⟨g, i * 33 + j, none⟩ := by unfold Addr.add; split <;> simp_all
        have hjl := (List.getElem?_eq_some_iff.1 hj).1
        have h9 := Htl.out
        rw [hadd]
        show w.cell? _ = _
        rw [blk_cell Hcur.out, ← hj, Ht.out, List.getElem?_drop, ← Htk.out, List.getElem?_take, if_pos (by omega)]⟩)
      have Hfit := hide (show i * 33 + 33 + t.length ≤ cur.length by rw [Htl.out, Hcul.out]; omega)
      have Hmin := hide (show Nat.min (n + 1 - i) (n - i) = n - i by simp only [Nat.min_def]; split <;> omega)
      have hw1 : IntKind.i64.wrap ((i : Int) + 1) = (i : Int) + 1 := by rw [IntKind.wrap_i64]; omega
      refine wp_region_mix (fun _ => True) (by kernel_rfl) (by kernel_rfl) ?_
      haveI : Nonempty (Wl fun _ : World => True) := ⟨⟨w, trivial⟩⟩
      refine Mixed.batch [0, 1, 2, 3, 4, 5, 6, 7] 1 (by kernel_rfl) (by kernel_rfl) (by kernel_rfl) (by kernel_rfl) trivial _ (by simp only [List.map_cons, List.map_nil, List.getElem?_toArray, List.getElem?_cons_zero, List.getElem?_cons_succ, Option.getD_some]; rfl) (fun R hR => ?_)
      repeat (first | go_big_quiet_skip | (go_big_quiet_want; go_big_quiet_op; go_big_quiet_on))
      refine wpQuiet_nil (hR.out _ ?_)
      clear hR R
      refine Mixed.one 8 0 (by kernel_rfl) (by kernel_rfl) (by simp only [List.getElem?_toArray, List.getElem?_cons_zero, List.getElem?_cons_succ]; rfl) (fun K hK => ?_)
      refine step_copy_sz _ rfl (.tmp 73) (.tmp 76) 23 23 rfl 57 33 Tryz.underlying23 (by kernel_rfl) (by decide) (some ⟨g, i * 33 + 33, none⟩) (some ⟨g, i * 33, none⟩) (n - i) (cap - (i + 1)) (n + 1 - i) (cap - i) rfl rfl g (i * 33 + 33) cur 57 Hcur.out t (n - i) Hmin.out Htl.out Hpos.out Hfit.out Hto.out ?_
      intro w1 hcur1 hk1
      refine hK.out _ _ (fun h => absurd rfl h) ?_
      clear hK K
      refine Mixed.done (by kernel_rfl) ?_
      have Hk1 := hide hk1
      have Hc1w := hide ((hk1.block X (by exact hXlt) hX).trans Hc.out)
      have Hfit2 := hide (show i * 33 + c.length ≤ (over cur (i * 33 + 33) t).length by rw [over_length _ _ _ Hfit.out, Hcl.out, Hcul.out]; omega)
      have Hmin2 := hide (show Nat.min 1 (n + 1 - i) = 1 by simp only [Nat.min_def]; split <;> omega)
      have Hpos2 := hide (show 0 < c.length → (some (⟨g, i * 33, none⟩ : Addr) = some ⟨g, i * 33, none⟩) ∧ ∃ ad, some (⟨X, 0, none⟩ : Addr) = some ad ∧ ∀ j v, c[j]? = some v → w1.cell? (ad.add j) = some v from fun _ => ⟨rfl, ⟨X, 0, none⟩, rfl, fun j v hj => by
        have hadd : (⟨X, 0, none⟩ : Addr).add j = ⟨X, j, none⟩ := by unfold Addr.add; split <;> simp_all
        rw [hadd, blk_cell Hc1w.out]; exact hj⟩)
      have Hcl1 := hide (show c.length = 1 * 33 by rw [Hcl.out])
      clear hk1 hw1 htn
      go_wp2_with (first
        | (refine wpList_copy_sz _ rfl (.tmp 80) (.tmp 81) 23 23 rfl 57 33 Tryz.underlying23 (by kernel_rfl) (by decide) (some ⟨g, i * 33, none⟩) (some ⟨X, 0, none⟩) (n + 1 - i) (cap - i) 1 1 rfl rfl g (i * 33) (over cur (i * 33 + 33) t) 57 hcur1.out c 1 Hmin2.out Hcl1.out Hpos2.out Hfit2.out Hc1.out ?_; intro w2 hcur2 hk2; have Hk2 := hide hk2; clear hk2)
        | fail)
      go_ret
      refine ⟨some ⟨g, 0, none⟩, cap, rfl, ?_, (Keep.drewl Hk1.out).trans Hk2.out⟩
      have htake := over_two cur c t xs (i * 33) (n * 33) 33 Htk.out Hxl.out (by omega) Ht.out Hcl.out (by rw [Hcul.out]; omega)
      have h2 := hcur2.out
      have hlen : (over (over cur (i * 33 + 33) t) (i * 33) c).length = cap * 33 := by
        have f1 := Hfit.out
        have f2 := Hfit2.out
        rw [over_length _ _ _ f2, over_length _ _ _ f1, Hcul.out]
      rw [← Ht.out]
      exact blk_own hBg h2 hcap hcm hlen (by rw [Nat.add_mul, Nat.one_mul]; exact htake)
    case neg => as_aux_lemma =>
      have hd9 : decide ((cap : Int) < (n : Int) + 1) = true := by simp; omega
      obtain ⟨H, hH⟩ : ∃ H, H = w.heap.size := ⟨_, rfl⟩
      have HH := hide hH
      have Hcells := hide (show ∀ j u, (xs.take (i * 33))[j]? = some u → w.cell? ⟨g, j, none⟩ = some u by
        intro j u hj
        have hjl := (List.getElem?_eq_some_iff.1 hj).1
        rw [List.length_take] at hjl
        rw [blk_cell Hcur.out, ← hj, List.getElem?_take, if_pos (by omega), ← Htk.out, List.getElem?_take, if_pos (by have := Hxl.out; omega)])
      have Htl9 := hide (show (xs.take (i * 33)).length = i * 33 by rw [List.length_take, Hxl.out]; omega)
      have Hz9 := hide (show (n : Int) + 1 - (i : Int) = ((n + 1 - i : Nat) : Int) by omega)
      have Hk0 := hide (show 0 < n + 1 - i by omega)
      have Hgrow := hide (show cap < i + (n + 1 - i) by omega)
      have Hsum := hide (show i + (n + 1 - i) = n + 1 by omega)
      have H2000 := hide (show i + (n + 1 - i) ≤ 2000 by omega)
      clear hH
      go_enter Tryz.func47, Tryz.ntmps47
      go_upto_region 10 with (first
        | (refine wpList_append_zr rfl (.tmp 34) (.tmp 39) rfl g i cap (n + 1 - i) rfl _ rfl Hz9.out (n + 1) Hsum.out (xs.take (i * 33)) Htl9.out Hcells.out Hk0.out Hgrow.out H2000.out ?_; intro capn zs hcn hcm2 hzl; have Hcn := hide hcn; have Hcm2 := hide hcm2; have Hzl := hide hzl; clear hcn hcm2 hzl)
        | fail)
      have hHg : g ≠ H := by rw [HH.out]; omega
      have hXH : X ≠ H := by rw [HH.out]; omega
      obtain ⟨base, hbase⟩ : ∃ base, base = xs.take (i * 33) ++ zs := ⟨_, rfl⟩
      rw [← HH.out]
      obtain ⟨W, hW⟩ : ∃ W, W = (w.alloc (.cells (xs.take (i * 33) ++ zs).toArray 57)).drew := ⟨_, rfl⟩
      rw [← hW]
      have HkW := hide (show Keep (fun _ => False) w W by rw [hW]; exact ((Keep.refl _ w).alloc _).drew)
      have HrH := hide (show W.heap[H]? = some (.cells base.toArray 57 (0, 0)) by rw [hW, HH.out, hbase]; exact heap_alloc_new _ _)
      have HcW := hide ((HkW.out.block X hXlt (fun f => f)).trans Hc.out)
      have HgW := hide ((HkW.out.block g hg (fun f => f)).trans Hcur.out)
      have Hbl := hide (show base.length = capn * 33 by rw [hbase]; exact Hzl.out)
      have Hbt := hide (show base.take (i * 33) = xs.take (i * 33) by rw [hbase, List.take_append_of_le_length (by rw [Htl9.out]; exact Nat.le_refl _), List.take_of_length_le (by rw [Htl9.out]; exact Nat.le_refl _)])
      clear hW hbase
      have hcnN := Hcn.out
      have hcnI : (n : Int) + 1 ≤ (capn : Int) := by omega
      have hcmN : capn ≤ 9223372036854775807 := Hcm2.out
      have e33 : (i + 1) * 33 = i * 33 + 33 := by omega
      have hb1 : (0 : Int) ≤ (i : Int) + 1 := by omega
      have hb2 : ¬ (capn = i + 1) := by omega
      have hb4 : ¬ (capn = i) := by omega
      have hb6 : ¬ (cap = i) := by omega
      have hb3 : (i : Int) + 1 ≤ (n : Int) + 1 := by omega
      have hb5 : (i : Int) ≤ (n : Int) + 1 := by omega
      have hw1 : IntKind.i64.wrap ((i : Int) + 1) = (i : Int) + 1 := by rw [IntKind.wrap_i64]; omega
      have htn : ((i : Int) + 1).toNat = i + 1 := by omega
      have HfitA := hide (show i * 33 + c.length ≤ base.length by rw [Hcl.out, Hbl.out]; omega)
      have HminA := hide (show Nat.min 1 (n + 1 - i) = 1 by simp only [Nat.min_def]; split <;> omega)
      have HposA := hide (show 0 < c.length → (some (⟨H, i * 33, none⟩ : Addr) = some ⟨H, i * 33, none⟩) ∧ ∃ ad, some (⟨X, 0, none⟩ : Addr) = some ad ∧ ∀ j v, c[j]? = some v → W.cell? (ad.add j) = some v from fun _ => ⟨rfl, ⟨X, 0, none⟩, rfl, fun j v hj => by
        have hadd : (⟨X, 0, none⟩ : Addr).add j = ⟨X, j, none⟩ := by unfold Addr.add; split <;> simp_all
        rw [hadd, blk_cell HcW.out]; exact hj⟩)
      have Hcl1 := hide (show c.length = 1 * 33 by rw [Hcl.out])
      go_upto_region 11 with (first
        | (refine wpList_copy_sz _ rfl (.tmp 43) (.tmp 44) 23 23 rfl 57 33 Tryz.underlying23 (by kernel_rfl) (by decide) (some ⟨H, i * 33, none⟩) (some ⟨X, 0, none⟩) (n + 1 - i) (capn - i) 1 1 rfl rfl H (i * 33) base 57 HrH.out c 1 HminA.out Hcl1.out HposA.out HfitA.out Hc1.out ?_; intro w1 hcur1 hk1; have Hk1 := hide hk1; have Hcur1 := hide hcur1.out; clear hk1 hcur1)
        | fail)
      have Hg1 := hide ((Hk1.out.block g (Nat.lt_of_lt_of_le hg HkW.out.size) hHg).trans HgW.out)
      have HfitB := hide (show i * 33 + 33 + t.length ≤ (over base (i * 33) c).length by rw [over_length _ _ _ HfitA.out, Htl.out, Hbl.out]; omega)
      have HminB := hide (show Nat.min (n - i) (n - i) = n - i by simp only [Nat.min_def]; split <;> omega)
      have HposB := hide (show 0 < t.length → (some (⟨H, i * 33 + 33, none⟩ : Addr) = some ⟨H, i * 33 + 33, none⟩) ∧ ∃ ad, some (⟨g, i * 33, none⟩ : Addr) = some ad ∧ ∀ j v, t[j]? = some v → w1.drew.cell? (ad.add j) = some v from fun _ => ⟨rfl, ⟨g, i * 33, none⟩, rfl, fun j v hj => by
        have hadd : (⟨g, i * 33, none⟩ : Addr).add j = ⟨g, i * 33 + j, none⟩ := by unfold Addr.add; split <;> simp_all
        have hjl := (List.getElem?_eq_some_iff.1 hj).1
        have h9 := Htl.out
        rw [hadd]
        show w1.cell? _ = _
        rw [blk_cell Hg1.out, ← hj, Ht.out, List.getElem?_drop, ← Htk.out, List.getElem?_take, if_pos (by omega)]⟩)
      go_simp
      refine wp_region_mix (fun _ => True) (by kernel_rfl) (by kernel_rfl) ?_
      haveI : Nonempty (Wl fun _ : World => True) := ⟨⟨w, trivial⟩⟩
      refine Mixed.batch [0, 1, 2, 3, 4, 5, 6, 7] 1 (by kernel_rfl) (by kernel_rfl) (by kernel_rfl) (by kernel_rfl) trivial _ (by simp only [List.map_cons, List.map_nil, List.getElem?_toArray, List.getElem?_cons_zero, List.getElem?_cons_succ, Option.getD_some]; rfl) (fun R hR => ?_)
      repeat (first | go_big_quiet_skip | (go_big_quiet_want; go_big_quiet_op; go_big_quiet_on))
      refine wpQuiet_nil (hR.out _ ?_)
      clear hR R
      refine Mixed.one 8 0 (by kernel_rfl) (by kernel_rfl) (by simp only [List.getElem?_toArray, List.getElem?_cons_zero, List.getElem?_cons_succ]; rfl) (fun K hK => ?_)
      refine step_copy_sz _ rfl (.tmp 50) (.tmp 53) 23 23 rfl 57 33 Tryz.underlying23 (by kernel_rfl) (by decide) (some ⟨H, i * 33 + 33, none⟩) (some ⟨g, i * 33, none⟩) (n - i) (capn - (i + 1)) (n - i) (cap - i) rfl rfl H (i * 33 + 33) (over base (i * 33) c) 57 Hcur1.out t (n - i) HminB.out Htl.out HposB.out HfitB.out Hto.out ?_
      intro w2 hcur2 hk2
      refine hK.out _ _ (fun h => absurd rfl h) ?_
      clear hK K
      refine Mixed.done (by kernel_rfl) ?_
      have Hk2 := hide hk2
      clear hk2 hw1 htn
      go_wp2
      go_ret
      refine ⟨some ⟨H, 0, none⟩, capn, rfl, ?_, ?_⟩
      · have htake := over_two' base c t xs (i * 33) (n * 33) 33 Hbt.out Hxl.out (by omega) Ht.out Hcl.out (by rw [Hbl.out]; omega)
        have hlen : (over (over base (i * 33) c) (i * 33 + 33) t).length = capn * 33 := by
          rw [over_length _ _ _ HfitB.out, over_length _ _ _ HfitA.out, Hbl.out]
        rw [← Ht.out]
        exact blk_own (by rw [HH.out]; exact hB) hcur2.out hcnN Hcm2.out hlen (by rw [Nat.add_mul, Nat.one_mul]; exact htake)
      · have k1 := Keep.step (G := (· = H)) HkW.out Hk1.out (fun j hj hl => by subst hj; rw [HH.out] at hl; omega)
        have k2 := Keep.step (G := (· = H)) k1 (Keep.drewl Hk2.out) (fun j hj hl => by subst hj; rw [HH.out] at hl; omega)
        exact k2.mono (fun _ _ f => f.elim)
set_option maxHeartbeats 8000000 in
set_option maxRecDepth 200000 in
theorem insertR_nil (B X : Nat) (c : List Value) (w : World) (hc : w.heap[X]? = some (.cells c.toArray 57 (0, 0))) (hcl : c.length = 33) (hc1 : ∀ u ∈ c, u.oneCell' = true) (hB : B ≤ w.heap.size) :
    Calls Tryz.prog 47 #[.slice none 0 0, .int .i64 0, .slice (some ⟨X, 0, none⟩) 1 1] w fun e w' => ∃ A' cap', e = .returned (.slice A' 1 cap') ∧ w'.ownsRow B 57 33 (.slice A' 1 cap') 1 c ∧ Below w.heap.size w w' := by
  have hXlt : X < w.heap.size := Below.lt_of_row hc
  have Hrd := hide (show Rd w (fun _ => True) 33 (some ⟨X, 0, none⟩) 1 c from ⟨by rw [hcl], fun _ => ⟨X, 0, rfl, trivial, hXlt, fun j _ => by rw [Nat.zero_add]; exact blk_cell hc j⟩⟩)
  have Hown := hide (show w.ownsRow B 57 33 (.slice none 0 0) 0 [] from ⟨rfl, .inl ⟨rfl, rfl⟩⟩)
  have Hc1 := hide hc1
  have Ls1 := hide (show 0 + 1 ≤ maxLen by unfold maxLen; omega)
  have Ls2 := hide (show (0 + 1) * 48 ≤ 140737488355328 by omega)
  clear hc hcl hc1
  go_enter Tryz.func47, Tryz.ntmps47
  go_wp2_with (first
    | (at_builtin; refine wpList_append_rd _ rfl (.tmp 23) (.tmp 24) 23 23 rfl B 57 57 _ 33 48 Tryz.underlying23 Tryz.underlying23 Tryz.info57 rfl (by decide) (.slice none 0 0) 0 [] rfl Hown.out _ _ 1 1 c rfl Hrd.out Hc1.out Ls1.out Ls2.out hB ?_; intro A14 cap14 w14 hown14 hgrow14 hat14; have Hown14 := hide hown14; have Hgr := hide hgrow14; clear hown14 hgrow14 hat14)
    | fail)
  go_ret
  refine ⟨_, cap14, rfl, ?_, ((Keep.refl (fun _ => False) w).grown Hgr.out (fun k hk _ => by simp [Value.ownBlock] at hk)).none_below⟩
  have h := Hown14.out
  rw [List.nil_append, Nat.zero_add] at h
  exact h
end Go.Proofs.YtimfmbcihopaaaaGreatDoor
