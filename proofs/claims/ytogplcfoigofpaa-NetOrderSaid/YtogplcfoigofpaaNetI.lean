/- NetOrder's walk. -/
import Derived.Test.YtogplcfoigofpaaNetF
import Derived.Deep.RegionWith
import Derived.Deep.DeepCutAuto
import Derived.Deep.CutBlock
namespace Go.Proofs.Ytogplcfoigofpaa
open Go.RowKit Go.Cof

/-- The packets that the law sends: how many stand at the begin of l, at most a hundred, each short. -/
def short (p : Pk) : Bool := decide (p.b.length < 100)

theorem short_small {l : List Pk} (h : ∀ p ∈ l, short p = true) : l.any Pk.big = false := by
  rw [List.any_eq_false]
  intro p hp
  have := h p hp
  simp [short, Pk.big] at *
  omega

set_option maxRecDepth 100000 in
set_option maxHeartbeats 6400000 in
theorem order_any (A : Option Addr) (cap : Nat) (ps : List Pk) (ys : List Value) (w : World) (hr : Rd w (fun b => b < w.heap.size) 3 A ps.length ys) (hp : Els (PkC w (fun b => b < w.heap.size)) ps ys) (hm : ps.length ≤ 140737488351232) :
    Calls Try.prog 3 #[.slice A ps.length cap] w fun e w' => e = .returned (.bool true) ∧ Below w.heap.size w w' := by
  have Hr := hide hr
  have Hp := hide hp
  clear hp
  go_enter Try.func3, Try.ntmps3
  go_upto_block 0 with (go_at_call 6; refine (new_any _).mono ?_; rintro e w1 ⟨rfl, rfl⟩)
  go_cut [4] (fun i wx => ∃ (k : Nat) (v : Value) (xs : List Value), k ≤ ps.length ∧ k ≤ 100 ∧ i = .int .i64 k ∧ (∀ p ∈ ps.take k, short p = true) ∧ NetAt wx w.heap.size w.heap.size v (ps.take k) xs ∧ Below w.heap.size w wx)
  case first =>
    go_wp2_with fail
    go_loopw [4] (fun i wr => ∃ (k : Nat) (v : Value) (xs : List Value), k ≤ ps.length ∧ k ≤ 100 ∧ i = .int .i64 k ∧ (∀ p ∈ ps.take k, short p = true) ∧ NetAt wr w.heap.size w.heap.size v (ps.take k) xs ∧ Below w.heap.size w wr) (fun i _ => 100 - (intOf i).toNat)
    case atStart =>
      exact ⟨0, _, _, Nat.zero_le _, by omega, rfl, by simp, new_net w w.heap.size (Nat.le_refl _), (Below.refl _ _).alloc (Nat.le_refl _) _⟩
    case round =>
      obtain ⟨k, v, xs, hk, hk1, rfl, hsh, hN, hb⟩ := hrel
      have HN := hide hN
      have Hsh := hide hsh
      clear hsh hN
      by_cases hlt : k < ps.length
      · obtain ⟨c, hc, -, hx⟩ := Hp.out.get (fun p c => PkC.len p c) hlt
        obtain ⟨P1, capp, rfl, hrp, hlp⟩ := hc
        obtain ⟨g, off, rfl, hgS, hgl, hcell⟩ := hr.at_ (by omega)
        have c0 := (hb.cell (p := ⟨g, off + k * 3, none⟩) hgl).trans ((hcell (k * 3) (by omega)).trans (hx 0 (by omega)))
        have c1 := (hb.cell (p := ⟨g, off + (k * 3 + 1), none⟩) hgl).trans ((hcell (k * 3 + 1) (by omega)).trans (hx 1 (by omega)))
        have c2 := (hb.cell (p := ⟨g, off + (k * 3 + 2), none⟩) hgl).trans ((hcell (k * 3 + 2) (by omega)).trans (hx 2 (by omega)))
        simp only [List.getElem?_cons_zero, List.getElem?_cons_succ, ← Nat.add_assoc] at c0 c1 c2
        have Hrp := hide (hrp.below hb (fun i hi _ => hi))
        have hsz := hb.size
        clear hcell hx hrp
        by_cases hlt2 : k < 100
        · by_cases hlen : ps[k].b.length < 100
          · have hs : ∀ p ∈ ps.take k ++ [ps[k]], short p = true := fun p hp => by
              rcases List.mem_append.1 hp with h | h
              · exact Hsh.out p h
              · rw [List.mem_singleton.1 h]; exact decide_eq_true hlen
            have Hs := hide hs
            have Hbig := hide (short_small (l := [ps[k]]) (fun p hp => hs p (List.mem_append_right _ hp)))
            clear hs
            go_wp2_with fail
            refine (send_fits _ w.heap.size w.heap.size v (ps.take k) xs (HN.out.alloc _) (some ⟨wr.heap.size, 0, none⟩) 1 [ps[k]] (· = wr.heap.size) (fun b => b < w.heap.size) [.int .i64 ps[k].f, .int .i64 ps[k].t, .slice P1 ps[k].b.length capp] (Rd.new_at _ _ _ _ rfl rfl) (Els.one ⟨P1, capp, rfl, Hrp.out.alloc _, hlp⟩) ?_ ?_ (by simp; omega) Hbig.out).mono ?_
            · rintro j rfl hf
              rcases hf with h | h
              · have := HN.out.lt; omega
              · have := (HN.out.row.lt _ h).2; omega
            · rintro j hj hf
              rcases hf with h | h
              · omega
              · have := (HN.out.row.lt _ h).1; omega
            rintro e w2 ⟨rfl, hS⟩
            have HS := hide hS
            clear hS
            go_wp2_with fail
            obtain ⟨v2, xs2, hN2, _, hk2⟩ := HS.out
            refine ⟨⟨k + 1, v2, xs2, by omega, by omega, by go_num, ?_, ?_, ?_⟩, by simp [intOf]; omega⟩
            · rw [List.take_succ_eq_append_getElem hlt]; exact Hs.out
            · rw [List.take_succ_eq_append_getElem hlt]; exact hN2
            · refine (hb.alloc hsz _).trans (hk2.below (by simp; omega) (fun j hj => ?_))
              rcases hj with h | h
              · omega
              · exact (HN.out.row.lt _ h).1
          · go_wp2_with fail
            go_meet
            exact ⟨k, v, xs, hk, hk1, rfl, Hsh.out, HN.out, hb⟩
        · go_wp2_with fail
          go_meet
          exact ⟨k, v, xs, hk, hk1, rfl, Hsh.out, HN.out, hb⟩
      · go_wp2_with fail
        go_meet
        exact ⟨k, v, xs, hk, hk1, rfl, Hsh.out, HN.out, hb⟩
  case rest =>
    obtain ⟨k, v, xs, hk, hk1, rfl, hsh, hN, hb⟩ := hcut
    have Hsh := hide hsh
    have HN := hide hN
    clear hsh hN
    rcases Nat.eq_zero_or_pos k with rfl | hpos
    · go_wp2_with fail
      refine wp_loop_once ?_
      go_wp2_with fail
      refine (take_out _ w.heap.size w.heap.size v [] xs HN.out 0 (Or.inr (by simp))).mono ?_
      rintro e w8 ⟨rfl, hb8⟩
      have HN8 := hide ((HN.out).below hb8)
      have hb8' := hb.trans (hb8.mono hb.size)
      have Hl := hide (fun O => show Calls Try.prog 11 #[.pointer (some ⟨w.heap.size, 0, none⟩)] (w8.alloc O) fun e w' => e = .returned (.int .i64 0) ∧ w8.alloc O = w' from len_any _ _ _ _ _ _ (HN8.out.alloc O))
      go_wp2_with (first | (go_at_call 11; refine (Hl.out _).mono ?_; rintro e w9 ⟨rfl, rfl⟩) | (go_at_call 12; refine (one_any _).mono ?_; rintro e w9 ⟨rfl, hb9⟩))
      go_ret
      exact ⟨rfl, (hb8'.alloc hb8'.size _).trans (hb9.mono (by simp; have := hb8'.size; omega))⟩
    · have hlt0 : 0 < ps.length := by omega
      have hl0 : 0 < (ps.take k).length := by rw [List.length_take]; omega
      have hg0 : (ps.take k)[0] = ps[0] := List.getElem_take
      have hcode : sendCode (ps.take k) [(ps.take k)[0]] = 0 := by
        have hb0 := short_small (l := [(ps.take k)[0]]) (fun p hp => by rw [List.mem_singleton.1 hp]; exact Hsh.out _ (List.getElem_mem hl0))
        simp only [sendCode, hb0]
        rw [if_neg (by simp), if_neg (by simp; omega)]
      have hcp := copy_in wc w.heap.size w.heap.size v (ps.take k) xs HN.out 0 hl0
      rw [sendList, hcode, if_pos rfl, hg0] at hcp
      have Hcp := hide hcp
      clear hcp hcode hg0
      go_wp2_with (go_at_call 8; refine Hcp.out.mono ?_; rintro e w3 ⟨rfl, v3, xs3, hN3, -, hk3⟩)
      have hb3 : Below w.heap.size w w3 := hb.trans (hk3.below hb.size (fun j hj => by
        rcases hj with rfl | h
        · exact Nat.le_refl _
        · exact (HN.out.row.lt _ h).1))
      have HN3 := hide hN3
      clear hN3 hk3 hb HN Hcp
      go_loopw [5] (fun u wr => ∃ (i : Nat) (v : Value) (xs : List Value), i ≤ k ∧ u = .int .i64 i ∧ NetAt wr w.heap.size w.heap.size v ((ps.take k).drop i ++ [ps[0]]) xs ∧ Below w.heap.size w wr) (fun u _ => k - (intOf u).toNat)
      case atStart => exact ⟨0, v3, xs3, Nat.zero_le _, rfl, HN3.out, hb3⟩
      case round =>
        obtain ⟨i, v4, xs4, hi, rfl, hN4, hb4⟩ := hrel
        by_cases hik : i < k
        · have hlt : i < ps.length := by omega
          have hL : (ps.take k).drop i ++ [ps[0]] = ps[i] :: ((ps.take k).drop (i + 1) ++ [ps[0]]) := by
            rw [List.drop_eq_getElem_cons (by rw [List.length_take]; omega), List.getElem_take]; rfl
          rw [hL] at hN4
          have Ht := hide (take_in wr w.heap.size w.heap.size v4 _ xs4 hN4 0 (by simp))
          have Hlow := hide (show ∀ j, Foot w.heap.size v4 j → w.heap.size ≤ j from fun j hj => by
            rcases hj with rfl | h
            · exact Nat.le_refl _
            · exact (hN4.row.lt _ h).1)
          obtain ⟨c, hc, -, hx⟩ := Hp.out.get (fun p c => PkC.len p c) hlt
          obtain ⟨P1, capp, rfl, hrp, hlp⟩ := hc
          obtain ⟨g, off, rfl, hgS, hgl, hcell⟩ := hr.at_ (by omega)
          clear hN4 hL
          go_upto_region 13 with (go_at_call 9; refine Ht.out.mono ?_; rintro e w5 ⟨⟨A5, cap5, rfl, hR5⟩, ⟨v5, xs5, hN5, -⟩, hk5⟩)
          have hb5 : Below w.heap.size w w5 := hb4.trans (hk5.below hb4.size Hlow.out)
          have c0 := (hb5.cell (p := ⟨g, off + i * 3, none⟩) hgl).trans ((hcell (i * 3) (by omega)).trans (hx 0 (by omega)))
          have c1 := (hb5.cell (p := ⟨g, off + (i * 3 + 1), none⟩) hgl).trans ((hcell (i * 3 + 1) (by omega)).trans (hx 1 (by omega)))
          have c2 := (hb5.cell (p := ⟨g, off + (i * 3 + 2), none⟩) hgl).trans ((hcell (i * 3 + 2) (by omega)).trans (hx 2 (by omega)))
          simp only [List.getElem?_cons_zero, List.getElem?_cons_succ, ← Nat.add_assoc] at c0 c1 c2
          have hsz5 := hb5.size
          have hg5 : g < w5.heap.size := by omega
          have HR1 := hide (hR5.alloc (.cells #[.int .i64 ps[i].f, .int .i64 ps[i].t, .slice A5 ps[i].b.length cap5] 27))
          have HR2 := hide ((hrp.below hb5 (fun _ _ h => h)).alloc (.cells #[.int .i64 ps[i].f, .int .i64 ps[i].t, .slice A5 ps[i].b.length cap5] 27))
          have tok1 : True := trivial
          have HN5 := hide hN5
          clear hcell hx hrp hR5 hN5 Ht hk5
          go_cut [68] (fun b wx => b = .bool false ∧ Below (w5.heap.size + 1) (w5.alloc (.cells #[.int .i64 ps[i].f, .int .i64 ps[i].t, .slice A5 ps[i].b.length cap5] 27)) wx)
          case first =>
            go_region_with (first | (go_at_call 10; have _t := tok1; refine (own_any _ ps[i] _ _ _ (by first | exact HR1.out.drew | exact HR2.out.drew)).mono ?_; rintro e wA ⟨rfl, hbA⟩; obtain ⟨hccA, hffA⟩ := rules hbA; clear tok1) | (go_at_call 10; refine (own_any _ ps[i] _ _ _ (by first | exact HR1.out.drew.below hbA (fun _ _ h => h) | exact HR2.out.drew.below hbA (fun _ _ h => h))).mono ?_; rintro e wB ⟨rfl, hbB⟩; obtain ⟨hccB, hffB⟩ := rules hbB))
            all_goals
              go_wp2_with fail
              go_meet
              refine ⟨by simp, ?_⟩
              have hA1 := hbA.size
              simp only [World.size_drew, World.size_alloc] at hbA hA1
              exact ((Below.refl _ _).drew.trans hbA).trans (hbB.mono hA1)
          case rest =>
            obtain ⟨rfl, hbw⟩ := hcut
            go_wp2_with fail
            have hK5 : Keep (fun _ => False) w5 wc := ((Keep.refl _ w5).alloc _).step (Keep.of_none (by rw [World.size_alloc]; exact hbw)) (fun _ f _ => f)
            exact ⟨⟨i + 1, v5, xs5, by omega, by go_num, HN5.out.keep hK5 (fun _ _ _ f => f), hb5.trans (hK5.below hsz5 (fun _ f => f.elim))⟩, by simp [intOf]; omega⟩
        · obtain rfl : i = k := by omega
          rw [List.drop_of_length_le (by rw [List.length_take]; omega), List.nil_append] at hN4
          have Ht := hide (take_in wr w.heap.size w.heap.size v4 _ xs4 hN4 0 (by simp))
          have Hlow := hide (show ∀ j, Foot w.heap.size v4 j → w.heap.size ≤ j from fun j hj => by
            rcases hj with rfl | h
            · exact Nat.le_refl _
            · exact (hN4.row.lt _ h).1)
          obtain ⟨c, hc, -, hx⟩ := Hp.out.get (fun p c => PkC.len p c) hlt0
          obtain ⟨P1, capp, rfl, hrp, hlp⟩ := hc
          obtain ⟨g, off, rfl, hgS, hgl, hcell⟩ := hr.at_ (by omega)
          simp only [Nat.zero_mul, Nat.zero_add] at hx
          clear hN4
          go_upto_region 17 with (go_at_call 9; refine Ht.out.mono ?_; rintro e w5 ⟨⟨A5, cap5, rfl, hR5⟩, ⟨v5, xs5, hN5, -⟩, hk5⟩)
          have hb5 : Below w.heap.size w w5 := hb4.trans (hk5.below hb4.size Hlow.out)
          have c0 := (hb5.cell (p := ⟨g, off, none⟩) hgl).trans ((hcell 0 (by omega)).trans (hx 0 (by omega)))
          have c1 := (hb5.cell (p := ⟨g, off + 1, none⟩) hgl).trans ((hcell 1 (by omega)).trans (hx 1 (by omega)))
          have c2 := (hb5.cell (p := ⟨g, off + 2, none⟩) hgl).trans ((hcell 2 (by omega)).trans (hx 2 (by omega)))
          simp only [List.getElem?_cons_zero, List.getElem?_cons_succ] at c0 c1 c2
          have hsz5 := hb5.size
          have hg5 : g < w5.heap.size := by omega
          have HR1 := hide (hR5.alloc (.cells #[.int .i64 ps[0].f, .int .i64 ps[0].t, .slice A5 ps[0].b.length cap5] 27))
          have HR2 := hide ((hrp.below hb5 (fun _ _ h => h)).alloc (.cells #[.int .i64 ps[0].f, .int .i64 ps[0].t, .slice A5 ps[0].b.length cap5] 27))
          have tok1 : True := trivial
          have HN5 := hide hN5
          clear hcell hx hrp hR5 hN5 Ht hk5
          clear hpos hl0 hi hik hk hk1 Hsh HN3 Hlow hb4 hb3
          go_cut [86] (fun b wx => b = .bool false ∧ Below (w5.heap.size + 1) (w5.alloc (.cells #[.int .i64 ps[0].f, .int .i64 ps[0].t, .slice A5 ps[0].b.length cap5] 27)) wx)
          case first =>
            go_region_with (first | (go_at_call 10; have _t := tok1; refine (own_any _ ps[0] _ _ _ (by first | exact HR1.out.drew | exact HR2.out.drew)).mono ?_; rintro e wA ⟨rfl, hbA⟩; obtain ⟨hccA, hffA⟩ := rules hbA; clear tok1) | (go_at_call 10; refine (own_any _ ps[0] _ _ _ (by first | exact HR1.out.drew.below hbA (fun _ _ h => h) | exact HR2.out.drew.below hbA (fun _ _ h => h))).mono ?_; rintro e wB ⟨rfl, hbB⟩; obtain ⟨hccB, hffB⟩ := rules hbB))
            all_goals
              go_wp2_with fail
              go_meet
              refine ⟨by simp, ?_⟩
              have hA1 := hbA.size
              simp only [World.size_drew, World.size_alloc] at hbA hA1
              exact ((Below.refl _ _).drew.trans hbA).trans (hbB.mono hA1)
          case rest =>
            obtain ⟨rfl, hbw⟩ := hcut
            have hK5 : Keep (fun _ => False) w5 wc := ((Keep.refl _ w5).alloc _).step (Keep.of_none (by rw [World.size_alloc]; exact hbw)) (fun _ f _ => f)
            have hN6 : NetAt wc w.heap.size w.heap.size v5 [] xs5 := HN5.out.keep hK5 (fun _ _ _ f => f)
            have HN6 := hide hN6
            have hb6 := hb5.trans (hK5.below hsz5 (fun _ f => f.elim))
            clear hN6 HN5 hbw hK5
            go_wp2_with fail
            refine (take_out _ w.heap.size w.heap.size v5 [] xs5 HN6.out 0 (Or.inr (by simp))).mono ?_
            rintro e w8 ⟨rfl, hb8⟩
            have HN8 := hide ((HN6.out).below hb8)
            have hb8' := hb6.trans (hb8.mono hb6.size)
            have Hl := hide (fun O => show Calls Try.prog 11 #[.pointer (some ⟨w.heap.size, 0, none⟩)] (w8.alloc O) fun e w' => e = .returned (.int .i64 0) ∧ w8.alloc O = w' from len_any _ _ _ _ _ _ (HN8.out.alloc O))
            go_wp2_with (first | (go_at_call 11; refine (Hl.out _).mono ?_; rintro e w9 ⟨rfl, rfl⟩) | (go_at_call 12; refine (one_any _).mono ?_; rintro e w9 ⟨rfl, hb9⟩))
            go_ret
            exact ⟨rfl, (hb8'.alloc hb8'.size _).trans (hb9.mono (by simp; have := hb8'.size; omega))⟩
end Go.Proofs.Ytogplcfoigofpaa
