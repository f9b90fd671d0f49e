/- law17's one: a body that is put, and read. -/
import Derived.Test.YtimfmbcihopaaaaGreatDoorLike
namespace Go.Proofs.YtimfmbcihopaaaaGreatDoor
open Go.RowKit Go.Cof

def id3 : Bv 32 := ⟨#[3, 0, 0, 0, 0, 0, 0, 0, 0, 0, 0, 0, 0, 0, 0, 0, 0, 0, 0, 0, 0, 0, 0, 0, 0, 0, 0, 0, 0, 0, 0, 0], rfl⟩
def body1 : BodyA := ⟨1, 0, 2, 0, [⟨[104, 101, 97, 100, 115, 47, 97], id3⟩], []⟩
set_option maxRecDepth 100000 in
theorem ok1 : okB body1 = true := by decide +kernel
set_option maxRecDepth 100000 in
theorem read1 : readOkB (putL body1) = true := by decide +kernel
set_option maxRecDepth 100000 in
theorem back1 : (bodyR (putL body1)).toA = body1 := by decide +kernel
set_option maxRecDepth 100000 in
theorem len1 : (putL body1).length = 3584 := by decide +kernel
set_option maxRecDepth 100000 in
theorem at7 : (putL body1)[7]? = some 1 := by decide +kernel
set_option maxRecDepth 100000 in
theorem at16 : (putL body1)[16]? = some 2 := by decide +kernel

set_option maxHeartbeats 4000000 in
set_option maxRecDepth 100000 in
theorem one_any (m : Int) (w : World) (hm : w.cell? ⟨0, 0, none⟩ = some (.int .i64 m)) :
    Calls Tryz.prog 14 #[] w fun e w' => e = .returned (.bool true) ∧ Below w.heap.size w w' := by
  have h0 : 0 < w.heap.size := World.block_lt_of_cell? w _ hm
  go_enter Tryz.func14, Tryz.ntmps14
  go_upto_region 2 with (fail)
  obtain ⟨cs, hcs⟩ : ∃ cs : List Value, cs = [.string ⟨#[104, 101, 97, 100, 115, 47, 97]⟩, .int .u8 3, .int .u8 0, .int .u8 0, .int .u8 0, .int .u8 0, .int .u8 0, .int .u8 0, .int .u8 0, .int .u8 0, .int .u8 0, .int .u8 0, .int .u8 0, .int .u8 0, .int .u8 0, .int .u8 0, .int .u8 0, .int .u8 0, .int .u8 0, .int .u8 0, .int .u8 0, .int .u8 0, .int .u8 0, .int .u8 0, .int .u8 0, .int .u8 0, .int .u8 0, .int .u8 0, .int .u8 0, .int .u8 0, .int .u8 0, .int .u8 0, .int .u8 0] := ⟨_, rfl⟩
  obtain ⟨N, hN⟩ : ∃ N, N = w.heap.size := ⟨_, rfl⟩
  obtain ⟨W1, hW1⟩ : ∃ W : World, W = (w.alloc (.cells #[.string ⟨#[104, 101, 97, 100, 115, 47, 97]⟩, .int .u8 3, .int .u8 0, .int .u8 0, .int .u8 0, .int .u8 0, .int .u8 0, .int .u8 0, .int .u8 0, .int .u8 0, .int .u8 0, .int .u8 0, .int .u8 0, .int .u8 0, .int .u8 0, .int .u8 0, .int .u8 0, .int .u8 0, .int .u8 0, .int .u8 0, .int .u8 0, .int .u8 0, .int .u8 0, .int .u8 0, .int .u8 0, .int .u8 0, .int .u8 0, .int .u8 0, .int .u8 0, .int .u8 0, .int .u8 0, .int .u8 0, .int .u8 0] 57)).alloc (.cells #[.int .u64 1, .int .u64 0, .int .i64 2, .int .u64 0, .slice (some ⟨w.heap.size, 0, none⟩) 1 1, .slice none 0 0] 26) := ⟨_, rfl⟩
  rw [← hW1]
  have hW2 : W1 = (w.alloc (.cells cs.toArray 57)).alloc (.cells #[.int .u64 1, .int .u64 0, .int .i64 2, .int .u64 0, .slice (some ⟨N, 0, none⟩) 1 1, .slice none 0 0] 26) := by rw [hW1, hcs, hN]
  clear hW1
  have hbw : Below w.heap.size w W1 := by rw [hW2]; exact ((Below.refl _ _).alloc (Nat.le_refl _) _).alloc (by simp) _
  have hsz : W1.heap.size = N + 2 := by rw [hW2, hN]; simp
  have hcs2 : cs = strV [104, 101, 97, 100, 115, 47, 97] :: encB id3 := by rw [hcs]; kernel_rfl
  have hr0 : W1.heap[N]? = some (.cells cs.toArray 57 (0, 0)) := by
    rw [hW2, hN]
    exact (Below.heap_alloc _ _ _ (by simp)).trans (heap_alloc_new _ _)
  have hr1 : W1.heap[N + 1]? = some (.cells #[.int .u64 1, .int .u64 0, .int .i64 2, .int .u64 0, .slice (some ⟨N, 0, none⟩) 1 1, .slice none 0 0] 26 (0, 0)) := by
    have := heap_alloc_new (w.alloc (.cells cs.toArray 57)) (.cells #[.int .u64 1, .int .u64 0, .int .i64 2, .int .u64 0, .slice (some ⟨N, 0, none⟩) 1 1, .slice none 0 0] 26)
    rw [show (w.alloc (.cells cs.toArray 57)).heap.size = N + 1 by rw [hN]; simp] at this
    rw [hW2]; exact this
  have hcl : cs.length = 33 := by rw [hcs2]; simp [encB_len]
  have hb1 : BodyC W1 (fun i => i < W1.heap.size) body1 (.agg #[.int .u64 1, .int .u64 0, .int .i64 2, .int .u64 0, .slice (some ⟨N, 0, none⟩) 1 1, .slice none 0 0]) := by
    refine ⟨some ⟨N, 0, none⟩, 1, cs, none, 0, [], rfl, ⟨hcl, fun _ => ⟨N, 0, rfl, by omega, by omega, fun j _ => by rw [cell_of_row _ _ _ _ _ _ hr0, Nat.zero_add]; simp⟩⟩, ⟨cs, [], by simp, ⟨hcs2, by decide⟩, rfl⟩, Rd.nil _ _ _ _, rfl, by decide, by decide, fun i hi => hi⟩
  obtain ⟨l, hl⟩ : ∃ l, l = putL body1 := ⟨_, rfl⟩
  have hml : mputL body1 = l := by rw [mputL, if_pos ok1, hl]
  have hcode : codeB body1 = 0 := by rw [codeB, if_pos ok1]
  have hll : l.length = 3584 := by rw [hl]; exact len1
  have h7 : l[7]? = some 1 := by rw [hl]; exact at7
  have h16 : l[16]? = some 2 := by rw [hl]; exact at16
  have hro : readOkB l = true := by rw [hl]; exact read1
  have hba : (bodyR l).toA = body1 := by rw [hl]; exact back1
  have hm1 : W1.cell? ⟨0, 0, none⟩ = some (.int .i64 m) := keep_cell hm (fun f => f) W1 (Keep.of_none hbw)
  have Hnum := hide (show NumsA body1 from ⟨by decide, by decide, by decide⟩)
  have HB1 := hide hb1
  have Hr1 := hide hr1
  have Hbw := hide hbw
  have Hml := hide hml
  have Hcode := hide hcode
  have Hll := hide hll
  have H7 := hide h7
  have H16 := hide h16
  have Hro := hide hro
  have Hba := hide hba
  have HN := hide hN
  have Hsz := hide hsz
  have Hm := hide hm1
  have HsB := hide (show (Tryz.prog.info? 26).map (·.size) = some (#[.int .u64 1, .int .u64 0, .int .i64 2, .int .u64 0, .slice (some ⟨N, 0, none⟩) 1 1, .slice none 0 0] : Array Value).size by kernel_rfl)
  rw [← hN]
  clear hW2 hcs hcs2 hr0 hr1 hcl hb1 hl hml hcode hll h7 h16 hro hba hN hsz hbw hm hm1
  have Hlen := hide (show l.length ≤ 100000 by rw [Hll.out]; decide)
  go_wp2_with (first
    | (with_reducible refine wpList_load_row rfl 26 (.tmp 1) rfl (N + 1) rfl 26 #[.int .u64 1, .int .u64 0, .int .i64 2, .int .u64 0, .slice (some ⟨N, 0, none⟩) 1 1, .slice none 0 0] (0, 0) _ Hr1.out Tryz.underlying26 rfl HsB.out ?_)
    | (go_at_call 7; ((with_reducible refine (mput_any _ body1 _ m _ HB1.out Hm.out Hnum.out).mono ?_)); rintro e w2 hput; obtain ⟨A2, cap2, rfl, hown2, hb2⟩ := hput; rw [Hml.out] at hown2; rw [Hml.out, Hcode.out]; obtain ⟨g, capx, hv, hgb, hglt⟩ := hown2.form (by rw [Hll.out]; decide); obtain rfl : A2 = some ⟨g, 0, none⟩ := (by injection hv); have Hown2 := hide hown2; have Hb2 := hide hb2; have HR2 := hide (Rd.of_own (S := fun i => W1.heap.size ≤ i) hown2 (fun g _ hg => hg)); have Hm2 := hide (show w2.cell? ⟨0, 0, none⟩ = some (.int .i64 m) from keep_cell Hm.out (fun f => f) w2 (Keep.of_none hb2)); have Hg := hide hglt; have Hgb := hide hgb; clear hown2 hb2 hv hgb hglt)
    | (go_at_call 10; ((with_reducible refine (mread_any _ _ _ l m _ HR2.out Hlen.out Hm2.out).mono ?_)); rintro e w3 hrd; unfold MRead at hrd; rw [if_pos Hro.out, Hba.out] at hrd; obtain ⟨v3, rfl, hb3, hbel3⟩ := hrd; obtain ⟨AR3, cR3, xs3, AP3, cP3, xp3, rfl, hx3⟩ := id hb3; have Hb3 := hide hb3; have Hbel3 := hide hbel3; have hN3 : N + 1 < w3.heap.size := (by have h1 := Hsz.out; have h2 := Hb2.out.size; have h3 := hbel3.size; omega); have hrow3 := (hbel3.block (N + 1) (by have h1 := Hsz.out; have h2 := Hb2.out.size; omega)).trans ((Hb2.out.block (N + 1) (by have h1 := Hsz.out; omega)).trans Hr1.out); have b0 : w3.cell? ⟨N + 1, 0, none⟩ = some (.int .u64 1) := cell_of_row _ _ 0 _ _ _ hrow3; have b1 : w3.cell? ⟨N + 1, 1, none⟩ = some (.int .u64 0) := cell_of_row _ _ 1 _ _ _ hrow3; have b2 : w3.cell? ⟨N + 1, 2, none⟩ = some (.int .i64 2) := cell_of_row _ _ 2 _ _ _ hrow3; have b3 : w3.cell? ⟨N + 1, 3, none⟩ = some (.int .u64 0) := cell_of_row _ _ 3 _ _ _ hrow3; have b4 : w3.cell? ⟨N + 1, 4, none⟩ = some (.slice (some ⟨N, 0, none⟩) 1 1) := cell_of_row _ _ 4 _ _ _ hrow3; have b5 : w3.cell? ⟨N + 1, 5, none⟩ = some (.slice none 0 0) := cell_of_row _ _ 5 _ _ _ hrow3; have hlen3 : ((l.length : Int) == 3584) = true := (by rw [Hll.out]; rfl); have hle7 : (7 : Int) < (l.length : Int) := (by rw [Hll.out]; decide); have hle16 : (16 : Int) < (l.length : Int) := (by rw [Hll.out]; decide); clear hb3 hbel3 hx3 hrow3)
    | (go_at_call 12; ((with_reducible refine (same_like _ _ body1 _ _ _ rfl (((HB1.out.below Hb2.out).below Hbel3.out).below ((Below.refl _ _).alloc (Nat.le_refl _) _)) (Hb3.out.below ((Below.refl _ _).alloc (Nat.le_refl _) _))).mono ?_)); rintro e w5 ⟨rfl, hb5⟩; have f7 : w5.cell? ⟨g, 7, none⟩ = some (.int .u8 1) := (by have := (own_below (own_below (own_below Hown2.out Hbel3.out) ((Below.refl _ _).alloc (Nat.le_refl _) _)) hb5).cellAt 7 (by rw [Hll.out]; decide); rw [this, bytesV, List.getElem?_map, H7.out]; rfl); have f16 : w5.cell? ⟨g, 16, none⟩ = some (.int .u8 2) := (by have := (own_below (own_below (own_below Hown2.out Hbel3.out) ((Below.refl _ _).alloc (Nat.le_refl _) _)) hb5).cellAt 16 (by rw [Hll.out]; decide); rw [this, bytesV, List.getElem?_map, H16.out]; rfl); have Hb5 := hide (below_alloc hb5); clear hb5)
    | fail)
  go_ret
  refine ⟨rfl, ?_⟩
  exact Hbw.out.trans ((Hb2.out.trans ((Hbel3.out.trans (Hb5.out.mono Hbel3.out.size)).mono Hb2.out.size)).mono Hbw.out.size)
end Go.Proofs.YtimfmbcihopaaaaGreatDoor
