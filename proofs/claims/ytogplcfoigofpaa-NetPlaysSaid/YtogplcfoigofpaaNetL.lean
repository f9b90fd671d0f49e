/- NetPlays' walk. -/
import Derived.Test.YtogplcfoigofpaaNetK
import Derived.Deep.RegionWith
import Derived.Deep.RegionHeld3
import Derived.Deep.QuietTactic
import Derived.BigQuiet
import Derived.Deep.DeepCutAuto
import Derived.Deep.CutBlock
namespace Go.Proofs.Ytogplcfoigofpaa
open Go.RowKit Go.Cof

set_option maxRecDepth 100000 in
set_option maxHeartbeats 40000000 in
theorem plays_any (A : Option Addr) (cap : Nat) (acts : List AcD) (node : Int) (ys : List Value) (w : World) (hr : Rd w (fun b => b < w.heap.size) 3 A acts.length ys) (hp : Els (AcC w (fun b => b < w.heap.size)) acts ys) (hm : acts.length ≤ 140737488351232) :
    Calls Try.prog 4 #[.slice A acts.length cap, .int .i64 node] w fun e w' => e = .returned (.bool true) ∧ Below w.heap.size w w' := by
  have Hr := hide hr
  have Hp := hide hp
  clear hp
  go_enter Try.func4, Try.ntmps4
  go_upto_block 0 with (go_at_call 6; refine (new_any _).mono ?_; rintro e w1 ⟨rfl, rfl⟩)
  go_cut [6] (fun r wx => ∃ (v : Value) (l : List Pk) (xs zs : List Value) (A : Option Addr) (cap : Nat), r = .slice A l.length cap ∧ Hold w wx v l xs zs A cap)
  case first =>
    go_wp2_with fail
    go_loopw [6, 7] (fun r i wr => ∃ (k : Nat) (v : Value) (l : List Pk) (xs zs : List Value) (A : Option Addr) (cap : Nat), k ≤ acts.length ∧ i = .int .i64 k ∧ r = .slice A l.length cap ∧ Hold w wr v l xs zs A cap) (fun _ i _ => acts.length - (intOf i).toNat)
    case atStart =>
      exact ⟨0, _, [], _, [], _, _, Nat.zero_le _, rfl, rfl, new_net w w.heap.size (Nat.le_refl _), Rd.nil _ _ _ _, rfl, ⟨Nat.le_refl _, by unfold maxLen; omega⟩, (Below.refl _ _).alloc (Nat.le_refl _) _⟩
    case round =>
      obtain ⟨k, v, l, xs, zs, A1, cap1, hk, rfl, rfl, hH⟩ := hrel
      obtain ⟨wo, rfl⟩ : ∃ wo : World, wo = wr := ⟨_, rfl⟩
      have HH := hide hH
      clear hH
      by_cases hlt : k < acts.length
      · by_cases hlt2 : k < 200
        · obtain ⟨c, hc, -, hx⟩ := Hp.out.get (fun p c => AcC.len p c) hlt
          obtain ⟨P1, capp, ys1, rfl, hrp, hep, hlp⟩ := hc
          obtain ⟨g, off, rfl, hgS, hgl, hcell⟩ := hr.at_ (by omega)
          have hb := HH.out.below
          have c0 := (hb.cell (p := ⟨g, off + k * 3, none⟩) hgl).trans ((hcell (k * 3) (by omega)).trans (hx 0 (by omega)))
          have c1 := (hb.cell (p := ⟨g, off + (k * 3 + 1), none⟩) hgl).trans ((hcell (k * 3 + 1) (by omega)).trans (hx 1 (by omega)))
          have c2 := (hb.cell (p := ⟨g, off + (k * 3 + 2), none⟩) hgl).trans ((hcell (k * 3 + 2) (by omega)).trans (hx 2 (by omega)))
          simp only [List.getElem?_cons_zero, List.getElem?_cons_succ, ← Nat.add_assoc] at c0 c1 c2
          have Hrp := hide hrp
          have Hep := hide hep
          have hsz := hb.size
          clear hcell hx hrp hep
          generalize acts[k] = a at c0 c1 c2 Hrp Hep hlp
          obtain ⟨kd, q, al⟩ := a
          dsimp only at c0 c1 c2 Hrp Hep hlp
          go_upto_block 1 with fail
          go_cut [6] (fun r wx => ∃ (v : Value) (l : List Pk) (xs zs : List Value) (A : Option Addr) (cap : Nat), r = .slice A l.length cap ∧ Hold w wx v l xs zs A cap)
          case first => as_aux_lemma =>
            go_upto_block 2 with fail
            have HW := hide (HH.out.alloc (.cells #[.int .i64 kd, .int .i64 q, .slice P1 al.length capp] 43))
            go_cut [6] (fun r wx => ∃ (v : Value) (l : List Pk) (xs zs : List Value) (A : Option Addr) (cap : Nat), r = .slice A l.length cap ∧ Hold w wx v l xs zs A cap)
            case first => as_aux_lemma =>
              by_cases h0 : kd = 0
              · have e0 : (kd == 0) = true := by rw [h0]; rfl
                clear h0
                by_cases h300 : 300 < al.length
                · go_wp2_with fail
                  go_meet
                  exact ⟨v, l, xs, zs, A1, cap1, rfl, HW.out⟩
                · go_upto_block 3 with fail
                  go_cut [9, 10, 11] (fun inn sm _ wx => ∃ (A9 : Option Addr) (c9 : Nat) (z9 : List Value) (s9 : Int), inn = .slice A9 al.length c9 ∧ sm = .int .i64 s9 ∧ Rd wx (fun i => wo.heap.size + 1 ≤ i) 3 A9 al.length z9 ∧ Els RkC al z9 ∧ Below (wo.heap.size + 1) (wo.alloc (.cells #[.int .i64 kd, .int .i64 q, .slice P1 al.length capp] 43)) wx)
                  case first => as_aux_lemma =>
                    go_wp2_with fail
                    go_loopw [9, 10, 11] (fun inn sm ii wx => InRel wo (.cells #[.int .i64 kd, .int .i64 q, .slice P1 al.length capp] 43) al inn sm ii wx) (fun _ _ ii _ => al.length - (intOf ii).toNat)
                    case atStart => exact ⟨0, 0, [], Nat.zero_le _, rfl, rfl, by omega, by simp, World.ownsRow_nil _ _ _ _, rfl, Below.refl _ _⟩
                    case round => as_aux_lemma =>
                      obtain ⟨j, s, z, hj, rfl, rfl, hs0, hs1, hown, hEz, hbx⟩ := hrel
                      have Hown := hide hown
                      have HEz := hide hEz
                      clear hown hEz
                      obtain ⟨hcx, hfx⟩ := rules hbx
                      have hszx := hbx.size
                      simp only [World.size_alloc] at hszx
                      by_cases hjl : j < al.length
                      · obtain ⟨c, hc, -, hx⟩ := Hep.out.get (fun p c => PkC.len p c) hjl
                        obtain ⟨P2, capp2, rfl, hrq, hlq⟩ := hc
                        obtain ⟨b2, off2, rfl, -, hb2l, hcell2⟩ := Hrp.out.at_ (by omega)
                        have hball : Below w.heap.size w wr := HW.out.below.trans (hbx.mono (by have := hsz; omega))
                        have d0 := (hball.cell (p := ⟨b2, off2 + j * 3, none⟩) hb2l).trans ((hcell2 (j * 3) (by omega)).trans (hx 0 (by omega)))
                        have d1 := (hball.cell (p := ⟨b2, off2 + (j * 3 + 1), none⟩) hb2l).trans ((hcell2 (j * 3 + 1) (by omega)).trans (hx 1 (by omega)))
                        have d2 := (hball.cell (p := ⟨b2, off2 + (j * 3 + 2), none⟩) hb2l).trans ((hcell2 (j * 3 + 2) (by omega)).trans (hx 2 (by omega)))
                        simp only [List.getElem?_cons_zero, List.getElem?_cons_succ, ← Nat.add_assoc] at d0 d1 d2
                        have Hrq := hide (hrq.below hball (fun _ _ h => h))
                        clear hcell2 hx hrq
                        go_wp2_with (first | (go_at_call 10; refine (own_any _ al[j] _ _ _ Hrq.out).mono ?_; rintro e w2 ⟨rfl, hb2⟩; have hs2 := hb2.size) | (at_builtin; refine wpList_append_rd _ rfl (.tmp 69) (.tmp 76) 40 40 rfl (wo.heap.size + 1) 34 34 _ 3 32 Try.underlying40 Try.underlying40 Try.infoRk rfl (by decide) u9 j z rfl (by exact (own_below Hown.out hb2).alloc _) _ _ 1 1 [.int .i64 al[j].f, .int .i64 al[j].t, .string ⟨al[j].b.toArray⟩] rfl (by exact Rd.new_at _ _ _ _ rfl rfl) (by simp [Value.oneCell']) (by unfold maxLen; omega) (by omega) (by simp; omega) ?_; intro A3 cap3 w3 hown3 hgrow3 hat3))
                        all_goals
                          refine ⟨⟨_, _, _, ⟨j + 1, _, _, by omega, by go_num, rfl, by omega, by omega, hown3, ?_, (hbx.trans ((hb2.mono hszx).alloc (by omega) _)).grown hgrow3 (by simp; omega) (fun q hq => (Hown.out.lt q hq).1)⟩, rfl, rfl, rfl⟩, by simp [intOf]; omega⟩
                          rw [List.take_succ_eq_append_getElem hjl]
                          exact HEz.out.append (Els.one rfl)
                      · obtain rfl : j = al.length := by omega
                        go_wp2_with fail
                        go_meet
                        obtain ⟨A9, c9, hv9, hR9⟩ := own_form Hown.out
                        have hE9 := HEz.out
                        rw [List.take_length] at hE9
                        exact ⟨A9, c9, z, s, hv9, rfl, hR9, hE9, hbx⟩
                  case rest => as_aux_lemma =>
                    obtain ⟨A9, c9, z9, s9, rfl, rfl, hR9, hE9, hb9⟩ := hcut
                    have HW9 := hide (HW.out.keepO hb9)
                    by_cases hsum : 70000 < s9
                    · go_wp2_with fail
                      go_meet
                      exact ⟨v, l, xs, zs, A1, cap1, rfl, HW9.out⟩
                    · have HS1 := hide (rsend_any wc A1 A9 cap1 c9 l al (fun i => ¬ Foot w.heap.size v i) (fun i => wo.heap.size + 1 ≤ i) (fun i => ¬ Foot w.heap.size v i) zs z9 HW9.out.rd HW9.out.els hR9 hE9 HW9.out.net.few HW9.out.caps hlp (fun _ h => h) HW9.out.fresh)
                      obtain ⟨hc9, hf9⟩ := rules hb9
                      have hs9 := hb9.size
                      simp only [World.size_alloc] at hs9
                      have hlt9 : wo.heap.size < wc.heap.size := by omega
                      clear hR9 hE9
                      go_wp2_with (go_at_call 13; refine HS1.out.mono ?_; rintro e w1 ⟨A3, cap3, z3, rfl, hR3, hE3, hC3, hb3⟩; have H3 := hide (And.intro hR3 (And.intro hE3 hC3)); obtain ⟨hc3, hf3⟩ := rules hb3; clear hR3 hE3 hC3)
                      have hb1 : Below w.heap.size w w1 := HW9.out.below.trans (hb3.mono HW9.out.below.size)
                      refine (send_any w1 _ _ _ _ _ (HW9.out.net.below hb3) P1 capp al (fun i => i < w.heap.size) (fun i => i < w.heap.size) ys1 (Hrp.out.below hb1 (fun _ _ h => h)) (Hep.out.imp fun p c _ hp => PkC.keep (Keep.of_below hb1) (fun i hi _ => by omega) p c hp) HW9.out.old HW9.out.old hlp).mono ?_
                      rintro e w2 ⟨rfl, hS2⟩
                      have HS2 := hide hS2
                      clear hS2
                      go_wp2_with fail
                      go_meet
                      obtain ⟨v2, xs2, hN2, hv2, hk2⟩ := HS2.out
                      exact ⟨v2, sendList l al, xs2, z3, A3, cap3, rfl, HW9.out.next H3.out.1 H3.out.2.1 H3.out.2.2 hb3 hN2 hv2 hk2⟩
              · have e0 : (kd == 0) = false := by simp [h0]
                by_cases h1 : kd = 1
                · have e1 : (kd == 1) = true := by rw [h1]; rfl
                  clear h0 h1
                  by_cases hq : 0 ≤ q ∧ q < l.length
                  · obtain ⟨i, rfl⟩ : ∃ i : Nat, q = i := ⟨q.toNat, by omega⟩
                    have hi : i < l.length := by omega
                    clear hq
                    have Ht := hide (take_in _ _ _ _ _ _ HW.out.net i hi)
                    have hnf := HH.out.fresh wo.heap.size (Nat.le_refl _)
                    go_upto_region 26 with (go_at_call 9; refine Ht.out.mono ?_; rintro e w1 ⟨⟨A5, cap5, rfl, hR5⟩, ⟨v1, xs1, hN1, hv1⟩, hk1⟩)
                    have q0 := (hk1.cell (p := ⟨wo.heap.size, 0, none⟩) (by simp) hnf).trans (show _ = some (.int .i64 kd) by simp)
                    have q1 := (hk1.cell (p := ⟨wo.heap.size, 1, none⟩) (by simp) hnf).trans (show _ = some (.int .i64 i) by simp)
                    have q2 := (hk1.cell (p := ⟨wo.heap.size, 2, none⟩) (by simp) hnf).trans (show _ = some (.slice P1 al.length capp) by simp)
                    have hsz1 := hk1.size
                    simp only [World.size_alloc] at hsz1
                    have hlt1 : wo.heap.size < w1.heap.size := by omega
                    have hrd1 := HW.out.rd.keep hk1 (fun _ h _ => h)
                    have HD := hide (rdrop_in (w1.alloc (.cells #[.int .i64 l[i].f, .int .i64 l[i].t, .slice A5 l[i].b.length cap5] 27)) A1 cap1 l (fun i => ¬ Foot w.heap.size v i) (fun i => ¬ Foot w.heap.size v i) zs (hrd1.alloc _) HW.out.els HW.out.net.few HW.out.caps.1 HW.out.caps.2 i hi (fun j hj => HW.out.fresh j (by simp at hj ⊢; omega)))
                    have Hrd1 := hide hrd1
                    have HN1 := hide (And.intro hN1 hv1)
                    have HR5 := hide hR5
                    clear hrd1 hN1 hv1 hR5
                    go_upto_region 27 with (go_at_call 14; refine HD.out.mono ?_; rintro e w2 ⟨A3, cap3, z3, rfl, hR3, hE3, hC3, hb3⟩; have H3 := hide (And.intro hR3 (And.intro hE3 hC3)); clear hR3 hE3 hC3)
                    have K3 : Keep (fun _ => False) w1 w2 := ((Keep.refl _ w1).alloc _).step (Keep.of_none hb3) (fun _ f _ => f)
                    have r0 := (K3.cell (p := ⟨wo.heap.size, 1, none⟩) hlt1 (fun f => f)).trans q1
                    have m0 := (hb3.cell (p := ⟨w1.heap.size, 0, none⟩) (by simp)).trans (show _ = some (.int .i64 l[i].f) by simp)
                    have m1 := (hb3.cell (p := ⟨w1.heap.size, 1, none⟩) (by simp)).trans (show _ = some (.int .i64 l[i].t) by simp)
                    have m2 := (hb3.cell (p := ⟨w1.heap.size, 2, none⟩) (by simp)).trans (show _ = some (.slice A5 l[i].b.length cap5) by simp)
                    obtain ⟨cc, hcc, -, hxx⟩ := HW.out.els.get RkC.len hi
                    unfold RkC at hcc
                    subst hcc
                    obtain ⟨g3, off3, rfl, -, hg3, hcell3⟩ := Hrd1.out.at_ (by omega)
                    have n0 := (K3.cell (p := ⟨g3, off3 + i * 3, none⟩) hg3 (fun f => f)).trans ((hcell3 (i * 3) (by omega)).trans (hxx 0 (by omega)))
                    have n1 := (K3.cell (p := ⟨g3, off3 + (i * 3 + 1), none⟩) hg3 (fun f => f)).trans ((hcell3 (i * 3 + 1) (by omega)).trans (hxx 1 (by omega)))
                    have n2 := (K3.cell (p := ⟨g3, off3 + (i * 3 + 2), none⟩) hg3 (fun f => f)).trans ((hcell3 (i * 3 + 2) (by omega)).trans (hxx 2 (by omega)))
                    simp only [List.getElem?_cons_zero, List.getElem?_cons_succ, ← Nat.add_assoc] at n0 n1 n2
                    have hs2 := hb3.size
                    simp only [World.size_alloc] at hs2
                    have hl1 : w1.heap.size < w2.heap.size := by omega
                    have hl2 : g3 < w2.heap.size := by omega
                    have hl3 : wo.heap.size < w2.heap.size := by omega
                    have HRp := hide (HR5.out.keep K3 (fun _ _ _ f => f))
                    clear hcell3 hxx q0 q1 q2 Ht HD c0 c1 c2 hlt1 hsz1 hs2
                    go_cut [125] (fun b wx => b = .bool false ∧ Below w2.heap.size w2 wx)
                    case first => as_aux_lemma =>
                      go_region_held3 (fun w' => w'.cell? ⟨w1.heap.size, 0, none⟩ = some (.int .i64 l[i].f) ∧ w'.cell? ⟨w1.heap.size, 1, none⟩ = some (.int .i64 l[i].t) ∧ w'.cell? ⟨w1.heap.size, 2, none⟩ = some (.slice A5 l[i].b.length cap5) ∧ w'.cell? ⟨wo.heap.size, 1, none⟩ = some (.int .i64 i) ∧ w'.cell? ⟨g3, off3 + i * 3, none⟩ = some (.int .i64 l[i].f) ∧ w'.cell? ⟨g3, off3 + i * 3 + 1, none⟩ = some (.int .i64 l[i].t) ∧ w'.cell? ⟨g3, off3 + i * 3 + 2, none⟩ = some (.string ⟨l[i].b.toArray⟩)) (first | go_keep | exact ⟨(hbA.cell (p := ⟨w1.heap.size, 0, none⟩) hl1).trans m0, (hbA.cell (p := ⟨w1.heap.size, 1, none⟩) hl1).trans m1, (hbA.cell (p := ⟨w1.heap.size, 2, none⟩) hl1).trans m2, (hbA.cell (p := ⟨wo.heap.size, 1, none⟩) hl3).trans r0, (hbA.cell (p := ⟨g3, off3 + i * 3, none⟩) hl2).trans n0, (hbA.cell (p := ⟨g3, off3 + i * 3 + 1, none⟩) hl2).trans n1, (hbA.cell (p := ⟨g3, off3 + i * 3 + 2, none⟩) hl2).trans n2⟩) (first | (go_at_call 10; refine (own_any _ l[i] _ _ _ (by exact HRp.out.drew)).mono ?_; rintro e wA ⟨rfl, hbA⟩; obtain ⟨hccA, hffA⟩ := rules hbA))
                      all_goals
                        go_wp2_with fail
                        go_meet
                        refine ⟨by simp, ?_⟩
                        exact (Below.refl _ _).drew.trans hbA
                    case rest => as_aux_lemma =>
                      obtain ⟨rfl, hbw⟩ := hcut
                      have Hb3 := hide (((Keep.refl (fun _ => False) w1).alloc (.cells #[.int .i64 l[i].f, .int .i64 l[i].t, .slice A5 l[i].b.length cap5] 27)).step (Keep.of_none (hb3.trans (hbw.mono hb3.size))) (fun _ f _ => f)).none_below
                      have Hbw := hide hbw
                      clear m0 m1 m2 n0 n1 n2 r0 hbw
                      go_wp2_with fail
                      go_meet
                      exact ⟨v1, _, xs1, z3, A3, cap3, rfl, HW.out.next2 HN1.out.1 HN1.out.2 hk1 (H3.out.1.below Hbw.out (fun _ _ h => h)) H3.out.2.1 H3.out.2.2 Hb3.out⟩
                  · have hq2 : q < 0 ∨ l.length ≤ q := by omega
                    have hlc : ((0 : Int) ≤ q ∧ q < l.length) = False := by simp; omega
                    have Ht := hide (take_out _ _ _ _ _ _ HW.out.net q hq2)
                    clear hq hlc
                    go_upto_region 26 with (go_at_call 9; refine Ht.out.mono ?_; rintro e w1 ⟨rfl, hk1⟩)
                    obtain ⟨hck, hfk⟩ := rules hk1
                    have hsz1 := hk1.size
                    simp only [World.size_alloc] at hsz1
                    have hlt1 : wo.heap.size < w1.heap.size := by omega
                    have HW1 := hide ((HW.out.keep hk1).alloc (.cells #[.int .i64 0, .int .i64 0, .slice none 0 0] 27))
                    have HD := hide (rdrop_out _ A1 cap1 l (fun i => ¬ Foot w.heap.size v i) zs HW1.out.rd HW1.out.els HW1.out.caps HW1.out.net.few q hq2)
                    go_upto_region 27 with (go_at_call 14; refine HD.out.mono ?_; rintro e w2 ⟨A3, cap3, z3, rfl, hR3, hE3, hC3, hb3⟩; have H3 := hide (And.intro hR3 (And.intro hE3 hC3)); clear hR3 hE3 hC3)
                    clear hck hfk Ht HD c0 c1 c2
                    go_cut [125] (fun b wx => b = .bool false ∧ Below w2.heap.size w2 wx)
                    case first => as_aux_lemma =>
                      go_quiet (fail)
                      all_goals
                        go_wp2_with fail
                        go_meet
                        exact ⟨rfl, ⟨rfl, rfl, rfl, Nat.le_refl _, fun _ _ => rfl⟩⟩
                    case rest => as_aux_lemma =>
                      obtain ⟨rfl, hbw⟩ := hcut
                      have Hb3 := hide (hb3.trans (hbw.mono hb3.size))
                      have Hbw := hide hbw
                      clear hbw
                      go_wp2_with fail
                      go_meet
                      exact ⟨v, l, xs, z3, A3, cap3, rfl, HW1.out.next2 HW1.out.net rfl (Keep.refl _ _) (H3.out.1.below Hbw.out (fun _ _ h => h)) H3.out.2.1 H3.out.2.2 Hb3.out⟩
                · have e1 : (kd == 1) = false := by simp [h1]
                  by_cases h2 : kd = 2
                  · have e2 : (kd == 2) = true := by rw [h2]; rfl
                    clear h0 h1 h2
                    by_cases hq : 0 ≤ q ∧ q < l.length
                    · obtain ⟨i, rfl⟩ : ∃ i : Nat, q = i := ⟨q.toNat, by omega⟩
                      have hi : i < l.length := by omega
                      clear hq
                      have HD := hide (rdrop_in _ A1 cap1 l (fun i => ¬ Foot w.heap.size v i) (fun i => ¬ Foot w.heap.size v i) zs HW.out.rd HW.out.els HW.out.net.few HW.out.caps.1 HW.out.caps.2 i hi HW.out.fresh)
                      go_wp2_with (go_at_call 14; refine HD.out.mono ?_; rintro e w1 ⟨A3, cap3, z3, rfl, hR3, hE3, hC3, hb3⟩; have H3 := hide (And.intro hR3 (And.intro hE3 hC3)); obtain ⟨hc3, hf3⟩ := rules hb3; clear hR3 hE3 hC3)
                      refine (drop_in w1 _ _ _ _ _ (HW.out.net.below hb3) i hi).mono ?_
                      rintro e w2 ⟨rfl, hS2⟩
                      have HS2 := hide hS2
                      clear hS2
                      go_wp2_with fail
                      go_meet
                      obtain ⟨⟨v2, xs2, hN2, hv2⟩, hk2⟩ := HS2.out
                      exact ⟨v2, _, xs2, z3, A3, cap3, rfl, HW.out.next H3.out.1 H3.out.2.1 H3.out.2.2 hb3 hN2 (.inl hv2) hk2⟩
                    · have hq2 : q < 0 ∨ l.length ≤ q := by omega
                      have HD := hide (rdrop_out _ A1 cap1 l (fun i => ¬ Foot w.heap.size v i) zs HW.out.rd HW.out.els HW.out.caps HW.out.net.few q hq2)
                      clear hq
                      go_wp2_with (go_at_call 14; refine HD.out.mono ?_; rintro e w1 ⟨A3, cap3, z3, rfl, hR3, hE3, hC3, hb3⟩; have H3 := hide (And.intro hR3 (And.intro hE3 hC3)); obtain ⟨hc3, hf3⟩ := rules hb3; clear hR3 hE3 hC3)
                      refine (drop_out w1 _ _ _ _ _ (HW.out.net.below hb3) q hq2).mono ?_
                      rintro e w2 ⟨rfl, hS2⟩
                      go_wp2_with fail
                      go_meet
                      exact ⟨v, l, xs, z3, A3, cap3, rfl, HW.out.next H3.out.1 H3.out.2.1 H3.out.2.2 hb3 ((HW.out.net.below hb3).below hS2) (.inl rfl) ((Keep.of_none hS2).mono fun _ _ f => f.elim)⟩
                  · have e2 : (kd == 2) = false := by simp [h2]
                    by_cases h3 : kd = 3
                    · have e3 : (kd == 3) = true := by rw [h3]; rfl
                      clear h0 h1 h2 h3
                      by_cases hq : 0 ≤ q ∧ q < l.length
                      · obtain ⟨i, rfl⟩ : ∃ i : Nat, q = i := ⟨q.toNat, by omega⟩
                        have hi : i < l.length := by omega
                        clear hq
                        have HD := hide (rcopy_in _ A1 cap1 l (fun i => ¬ Foot w.heap.size v i) (fun i => ¬ Foot w.heap.size v i) zs HW.out.rd HW.out.els HW.out.net.few HW.out.caps i hi (fun _ h => h) HW.out.fresh)
                        go_wp2_with (go_at_call 16; refine HD.out.mono ?_; rintro e w1 ⟨A3, cap3, z3, rfl, hR3, hE3, hC3, hb3⟩; have H3 := hide (And.intro hR3 (And.intro hE3 hC3)); obtain ⟨hc3, hf3⟩ := rules hb3; clear hR3 hE3 hC3)
                        refine (copy_in w1 _ _ _ _ _ (HW.out.net.below hb3) i hi).mono ?_
                        rintro e w2 ⟨rfl, hS2⟩
                        have HS2 := hide hS2
                        clear hS2
                        go_wp2_with fail
                        go_meet
                        obtain ⟨v2, xs2, hN2, hv2, hk2⟩ := HS2.out
                        exact ⟨v2, _, xs2, z3, A3, cap3, rfl, HW.out.next H3.out.1 H3.out.2.1 H3.out.2.2 hb3 hN2 hv2 hk2⟩
                      · have hq2 : q < 0 ∨ l.length ≤ q := by omega
                        have HD := hide (rcopy_out _ A1 cap1 l (fun i => ¬ Foot w.heap.size v i) zs HW.out.rd HW.out.els HW.out.caps q hq2)
                        clear hq
                        go_wp2_with (go_at_call 16; refine HD.out.mono ?_; rintro e w1 ⟨A3, cap3, z3, rfl, hR3, hE3, hC3, hb3⟩; have H3 := hide (And.intro hR3 (And.intro hE3 hC3)); obtain ⟨hc3, hf3⟩ := rules hb3; clear hR3 hE3 hC3)
                        refine (copy_out w1 _ _ _ _ _ (HW.out.net.below hb3) q hq2).mono ?_
                        rintro e w2 ⟨rfl, hS2⟩
                        go_wp2_with fail
                        go_meet
                        exact ⟨v, l, xs, z3, A3, cap3, rfl, HW.out.next H3.out.1 H3.out.2.1 H3.out.2.2 hb3 ((HW.out.net.below hb3).below hS2) (.inl rfl) ((Keep.of_none hS2).mono fun _ _ f => f.elim)⟩
                    · have e3 : (kd == 3) = false := by simp [h3]
                      clear h0 h1 h2 h3
                      go_wp2_with fail
                      go_meet
                      exact ⟨v, l, xs, zs, A1, cap1, rfl, HW.out⟩
            case rest => as_aux_lemma =>
              obtain ⟨v2, l2, xs2, zs2, A2, cap2, rfl, hH2⟩ := hcut
              have HH2 := hide hH2
              have hlen := hide (len_any _ _ _ _ _ _ hH2.net)
              clear hH2
              go_wp2_with (go_at_call 11; refine hlen.out.mono ?_; rintro e w2 ⟨rfl, rfl⟩)
              go_meet
              exact ⟨v2, l2, xs2, zs2, A2, cap2, rfl, HH2.out⟩
          case rest => as_aux_lemma =>
            obtain ⟨v2, l2, xs2, zs2, A2, cap2, rfl, hH2⟩ := hcut
            have HH2 := hide hH2
            clear hH2
            go_wp2_with fail
            exact ⟨⟨k + 1, v2, l2, xs2, zs2, A2, cap2, by omega, by go_num, rfl, HH2.out⟩, by simp [intOf]; omega⟩
        · go_wp2_with fail
          go_meet
          exact ⟨v, l, xs, zs, A1, cap1, rfl, HH.out⟩
      · go_wp2_with fail
        go_meet
        exact ⟨v, l, xs, zs, A1, cap1, rfl, HH.out⟩
  case rest => as_aux_lemma =>
    obtain ⟨v, l, xs, zs, A1, cap1, rfl, hH⟩ := hcut
    have HH := hide hH
    have Hto := hide (to_any _ _ _ _ _ _ hH.net node)
    clear hH
    go_wp2_with (go_at_call 17; refine Hto.out.mono ?_; rintro e w1 ⟨A7, cap7, rfl, hR7, hb7⟩)
    have Hpm := hide (fun i hi ht => places_at l node i hi ht)
    have Hpn := hide (fun i hi ht => places_not l node i hi ht)
    obtain ⟨js, hjs⟩ : ∃ js, js = places l node l.length := ⟨_, rfl⟩
    have HJ := hide hjs
    rw [← hjs] at hR7 Hpm
    rw [← hjs]
    have hlj : js.length ≤ l.length := by rw [hjs]; exact places_len _ _ _
    have HR7 := hide hR7
    have HH1 := hide (HH.out.keep hb7)
    have hfew := HH.out.net.few
    clear hjs hR7 HH Hto
    go_loopw [23, 24] (fun m i wr => ∃ j : Nat, j ≤ l.length ∧ i = .int .i64 j ∧ m = .int .i64 (places l node j).length ∧ Below w1.heap.size w1 wr) (fun _ i _ => l.length - (intOf i).toNat)
    case atStart => exact ⟨0, Nat.zero_le _, rfl, rfl, Below.refl _ _⟩
    case round => as_aux_lemma =>
      obtain ⟨j, hj, rfl, rfl, hbr⟩ := hrel
      have HW := hide (HH1.out.keep hbr)
      by_cases hlt : j < l.length
      · have Hat := hide (at_in _ _ _ _ _ _ HW.out.net j hlt)
        obtain ⟨cc, hcc, -, hxx⟩ := HW.out.els.get RkC.len hlt
        unfold RkC at hcc
        subst hcc
        obtain ⟨g3, off3, rfl, -, hg3, hcell3⟩ := HW.out.rd.at_ (by omega)
        go_upto_region 48 with (go_at_call 18; refine Hat.out.mono ?_; rintro e w2 ⟨⟨A5, cap5, rfl, hR5⟩, hb2⟩)
        have K3 : Keep (fun _ => False) wr (w2.alloc (.cells #[.int .i64 l[j].f, .int .i64 l[j].t, .slice A5 l[j].b.length cap5] 27)) := (Keep.of_none hb2).alloc _
        have n0 := (K3.cell (p := ⟨g3, off3 + j * 3, none⟩) hg3 (fun f => f)).trans ((hcell3 (j * 3) (by omega)).trans (hxx 0 (by omega)))
        have n1 := (K3.cell (p := ⟨g3, off3 + (j * 3 + 1), none⟩) hg3 (fun f => f)).trans ((hcell3 (j * 3 + 1) (by omega)).trans (hxx 1 (by omega)))
        have n2 := (K3.cell (p := ⟨g3, off3 + (j * 3 + 2), none⟩) hg3 (fun f => f)).trans ((hcell3 (j * 3 + 2) (by omega)).trans (hxx 2 (by omega)))
        simp only [List.getElem?_cons_zero, List.getElem?_cons_succ, ← Nat.add_assoc] at n0 n1 n2
        have hs2 := hb2.size
        obtain ⟨wz, hwz⟩ : ∃ wz, wz = w2.alloc (.cells #[.int .i64 l[j].f, .int .i64 l[j].t, .slice A5 l[j].b.length cap5] 27) := ⟨_, rfl⟩
        have m0 : wz.cell? ⟨w2.heap.size, 0, none⟩ = some (.int .i64 l[j].f) := by rw [hwz]; simp
        have m1 : wz.cell? ⟨w2.heap.size, 1, none⟩ = some (.int .i64 l[j].t) := by rw [hwz]; simp
        have m2 : wz.cell? ⟨w2.heap.size, 2, none⟩ = some (.slice A5 l[j].b.length cap5) := by rw [hwz]; simp
        have hl1 : w2.heap.size < wz.heap.size := by rw [hwz]; simp
        have hl2 : g3 < wz.heap.size := by omega
        have HRp := hide (hR5.alloc (.cells #[.int .i64 l[j].f, .int .i64 l[j].t, .slice A5 l[j].b.length cap5] 27))
        rw [← hwz] at n0 n1 n2 HRp K3
        rw [← hwz]
        clear hcell3 hxx Hat hR5 hwz
        go_cut [189] (fun b wx => b = .bool false ∧ Below wz.heap.size wz wx)
        case first => as_aux_lemma =>
          go_region_held3 (fun w' => w'.cell? ⟨w2.heap.size, 0, none⟩ = some (.int .i64 l[j].f) ∧ w'.cell? ⟨w2.heap.size, 1, none⟩ = some (.int .i64 l[j].t) ∧ w'.cell? ⟨w2.heap.size, 2, none⟩ = some (.slice A5 l[j].b.length cap5) ∧ w'.cell? ⟨g3, off3 + j * 3, none⟩ = some (.int .i64 l[j].f) ∧ w'.cell? ⟨g3, off3 + j * 3 + 1, none⟩ = some (.int .i64 l[j].t) ∧ w'.cell? ⟨g3, off3 + j * 3 + 2, none⟩ = some (.string ⟨l[j].b.toArray⟩)) (first | go_keep | exact ⟨(hbA.cell (p := ⟨w2.heap.size, 0, none⟩) hl1).trans m0, (hbA.cell (p := ⟨w2.heap.size, 1, none⟩) hl1).trans m1, (hbA.cell (p := ⟨w2.heap.size, 2, none⟩) hl1).trans m2, (hbA.cell (p := ⟨g3, off3 + j * 3, none⟩) hl2).trans n0, (hbA.cell (p := ⟨g3, off3 + j * 3 + 1, none⟩) hl2).trans n1, (hbA.cell (p := ⟨g3, off3 + j * 3 + 2, none⟩) hl2).trans n2⟩) (first | (go_at_call 10; refine (own_any _ l[j] _ _ _ (by exact HRp.out.drew)).mono ?_; rintro e wA ⟨rfl, hbA⟩; obtain ⟨hccA, hffA⟩ := rules hbA))
          all_goals
            go_wp2_with fail
            go_meet
            refine ⟨by simp, ?_⟩
            exact (Below.refl _ _).drew.trans hbA
        case rest => as_aux_lemma =>
          obtain ⟨rfl, hbw⟩ := hcut
          have n1' := (hbw.cell (p := ⟨g3, off3 + j * 3 + 1, none⟩) hl2).trans n1
          have hbn : Below w1.heap.size w1 wc := hbr.trans ((K3.step (Keep.of_none hbw) (fun _ f _ => f)).none_below.mono hbr.size)
          have Hbn := hide hbn
          have hpl := places_len l node j
          clear m0 m1 m2 n0 n1 n2 hbw K3
          by_cases ht : l[j].t = node
          · have hbt : (l[j].t == node) = true := by rw [ht]; simp
            obtain ⟨hp1, hp2, hp3⟩ := Hpm.out j hlt ht
            have Hp1 := hide hp1
            obtain ⟨g4, off4, rfl, hg4, hg4l, hcell4⟩ := HR7.out.at_ (by omega)
            have o1 := (Hbn.out.cell (p := ⟨g4, off4 + (places l node j).length, none⟩) hg4l).trans (hcell4 _ (by omega))
            rw [List.getElem?_map, hp3, Option.map_some] at o1
            clear hp1 hp3 hcell4 ht
            obtain ⟨m, hm⟩ : ∃ m, m = (places l node j).length := ⟨_, rfl⟩
            have Hm := hide hm
            rw [← hm] at o1 hp2 hpl
            rw [← hm]
            clear hm
            go_wp2_with fail
            exact ⟨⟨j + 1, by omega, by go_num, by rw [Hp1.out, List.length_append, ← Hm.out, List.length_singleton]; go_num, Hbn.out⟩, by simp [intOf]; omega⟩
          · have hbt : (l[j].t == node) = false := by simp [ht]
            have Hp1 := hide (Hpn.out j hlt ht)
            clear ht
            go_wp2_with fail
            exact ⟨⟨j + 1, by omega, by go_num, by rw [Hp1.out], Hbn.out⟩, by simp [intOf]; omega⟩
      · obtain rfl : j = l.length := by omega
        rw [← HJ.out]
        go_wp2_with (go_at_call 12; refine (one_any _).mono ?_; rintro e w9 ⟨rfl, hb9⟩)
        go_ret
        exact ⟨rfl, HW.out.below.trans (hb9.mono HW.out.below.size)⟩
end Go.Proofs.Ytogplcfoigofpaa
