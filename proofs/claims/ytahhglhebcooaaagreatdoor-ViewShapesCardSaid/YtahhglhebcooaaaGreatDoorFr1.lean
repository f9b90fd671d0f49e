/- sha.Sum of bytes; frame.check; bytes.Equal, bytes.Clone. -/
import Derived.Test.YtahhglhebcooaaaGreatDoorSha8
import Derived.Test.YtahhglhebcooaaaGreatDoorWrL
namespace Go.Proofs.YtahhglhebcooaaaGreatDoor
open Go.RowKit Go.Cof Go.Tol

/-- Of at one text. -/
theorem of_one (B cap c : Nat) (A : Option Addr) (R : Nat → Prop) (l : List UInt8) (w : World) (hr : w.rangeAt B 0 [.slice A l.length c]) (hB : B < w.heap.size) (hR : ∀ b, R b → b < w.heap.size) (hs : Rd w R 1 A l.length (bytesV l)) (hc : l.length ≤ c) (hn : l.length ≤ 900000000000000) :
    Calls Tryz.prog 38 #[.slice (some ⟨B, 0, none⟩) 1 cap] w fun e w' => e = .returned (.agg (bytesV (sumH (ofH [l]))).toArray) ∧ Below w.heap.size w w' :=
  of_any B cap R [l] [.slice A l.length c] w rfl hr hB hR (fun i hi => by obtain rfl : i = 0 := (by simpa using hi); exact ⟨_, rfl, A, c, rfl, hs, hc⟩) (by simpa [total] using hn) (by show 1 ≤ 1000; decide)
theorem of_two (B cap c1 c2 : Nat) (A1 A2 : Option Addr) (R : Nat → Prop) (l k : List UInt8) (w : World) (hr : w.rangeAt B 0 [.slice A1 l.length c1, .slice A2 k.length c2]) (hB : B < w.heap.size) (hR : ∀ b, R b → b < w.heap.size) (hs : Rd w R 1 A1 l.length (bytesV l)) (hc : l.length ≤ c1)
    (hs2 : Rd w R 1 A2 k.length (bytesV k)) (hc2 : k.length ≤ c2) (hn : l.length + k.length ≤ 900000000000000) :
    Calls Tryz.prog 38 #[.slice (some ⟨B, 0, none⟩) 2 cap] w fun e w' => e = .returned (.agg (bytesV (sumH (ofH [l, k]))).toArray) ∧ Below w.heap.size w w' :=
  of_any B cap R [l, k] [.slice A1 l.length c1, .slice A2 k.length c2] w rfl hr hB hR (fun i hi => by
    match i, hi with
    | 0, _ => exact ⟨_, rfl, A1, c1, rfl, hs, hc⟩
    | 1, _ => exact ⟨_, rfl, A2, c2, rfl, hs2, hc2⟩) (by simpa [total] using hn) (by show 2 ≤ 1000; decide)
/-- The sum of bytes. -/
def shaL (l : List UInt8) : List UInt8 := sumH (ofH [l])
theorem shaL_length (l : List UInt8) : (shaL l).length = 32 := sumH_length _

set_option maxHeartbeats 4000000 in
set_option maxRecDepth 100000 in
theorem shasum_any (S : Nat → Prop) (A : Option Addr) (cap : Nat) (l : List UInt8) (w : World) (hr : Rd w S 1 A l.length (bytesV l)) (hc : l.length ≤ cap) (hl : l.length ≤ 140737488351232) (hS : ∀ b, S b → b < w.heap.size) :
    Calls Tryz.prog 71 #[.slice A l.length cap] w fun e w' => e = .returned (.agg (bytesV (shaL l)).toArray) ∧ Below w.heap.size w w' := by
  have Hr := hide hr
  have Hc := hide hc
  have Hl := hide hl
  have HS := hide hS
  obtain ⟨N, hN⟩ : ∃ N, N = w.heap.size := ⟨_, rfl⟩
  have HN := hide hN
  have Hszl := hide (show (Tryz.prog.info? 59).map (·.size) = some (bytesV (shaL l)).length by rw [bytesV_length, shaL_length]; kernel_rfl)
  have Hsza := hide (show (Tryz.prog.info? 59).map (·.size) = some (bytesV (shaL l)).toArray.size by rw [List.size_toArray, bytesV_length, shaL_length]; kernel_rfl)
  have Hlen := hide (show (bytesV (shaL l)).length = z32L.length by rw [bytesV_length, shaL_length]; rfl)
  clear hr hc hl hS hN
  go_enter Tryz.func71, Tryz.ntmps71
  go_upto_region 1 with (fail)
  rw [← HN.out]
  obtain ⟨W, hW⟩ : ∃ W : World, W = w.alloc (.cells #[.int .u8 0, .int .u8 0, .int .u8 0, .int .u8 0, .int .u8 0, .int .u8 0, .int .u8 0, .int .u8 0, .int .u8 0, .int .u8 0, .int .u8 0, .int .u8 0, .int .u8 0, .int .u8 0, .int .u8 0, .int .u8 0, .int .u8 0, .int .u8 0, .int .u8 0, .int .u8 0, .int .u8 0, .int .u8 0, .int .u8 0, .int .u8 0, .int .u8 0, .int .u8 0, .int .u8 0, .int .u8 0, .int .u8 0, .int .u8 0, .int .u8 0, .int .u8 0] 59) := ⟨_, rfl⟩
  have hbW : Below w.heap.size w W := by rw [hW]; exact (Below.refl _ _).alloc (Nat.le_refl _) _
  have HWz := hide (show W.heap.size = N + 1 by rw [hW, HN.out]; simp)
  have HWN := hide (show W.heap[N]? = some (.cells z32L.toArray 59 (0, 0)) by rw [hW, HN.out]; exact heap_new _ _)
  have HbW := hide hbW
  rw [← hW]
  clear hW hbW
  have HSl := hide (show Rd (W.alloc (.cells #[.slice A l.length cap] 28)) S 1 A l.length (bytesV l) from (Hr.out.keep (Keep.of_none HbW.out) (fun _ _ _ f => f)).alloc _)
  go_wp2_with (first
    | (go_at_call 38; ((with_reducible refine (of_one W.heap.size 1 cap A S l _ (blk_range (heap_new _ _)) (by simp) (fun b hb => by have h1 := HS.out b hb; have h2 := HbW.out.size; simp; omega) HSl.out Hc.out (by have := Hl.out; omega)).mono ?_)); rintro e w7 ⟨rfl, hb7⟩; have Hb7 := hide hb7; have HrN := hide ((hb7.block N (by have := HWz.out; simp; omega)).trans (heap_old HWN.out _)); clear hb7)
    | (refine wpList_store_all rfl 59 (.tmp 2) (.tmp 5) rfl N z32L (bytesV (shaL l)) 59 HrN.out rfl rfl Hlen.out Hszl.out (bytesV_one _) ?_)
    | fail)
  refine bodyPost_ret (results_cell_row rfl _ _ N _ _ _ _ rfl (setRow_heap _ _ _ _ _ _ HrN.out) Tryz.underlying59 rfl Hsza.out) rfl ?_
  exact ⟨rfl, below_setRow ((HbW.out.alloc HbW.out.size _).trans (Hb7.out.mono (by have := HbW.out.size; simp; omega))) (by have := HN.out; omega) _⟩

set_option maxHeartbeats 4000000 in
set_option maxRecDepth 100000 in
theorem check_any (S : Nat → Prop) (A : Option Addr) (cap : Nat) (l : List UInt8) (w : World) (hr : Rd w S 1 A l.length (bytesV l)) (hc : l.length ≤ cap) (hl : l.length ≤ 140737488351232) (hS : ∀ b, S b → b < w.heap.size) :
    Calls Tryz.prog 46 #[.slice A l.length cap] w fun e w' => ∃ g, e = .returned (.slice (some ⟨g, 0, none⟩) 4 32) ∧ Rd w' (fun i => w.heap.size ≤ i) 1 (some ⟨g, 0, none⟩) 4 (bytesV ((shaL l).take 4)) ∧ w.heap.size ≤ g ∧ Below w.heap.size w w' := by
  have Hcon := hide (shasum_any S A cap l w hr hc hl hS)
  have hszl : (bytesV (shaL l)).length = 32 := by rw [bytesV_length, shaL_length]
  have Hszl := hide hszl
  clear hr hc hl hS
  go_enter Tryz.func46, Tryz.ntmps46
  go_upto_region 2 with (first
    | (go_at_call 71; ((with_reducible refine Hcon.out.mono ?_)); rintro e w7 ⟨rfl, hb7⟩; have Hb7 := hide hb7; have hst := Go.Tol.store_new (P := Tryz.prog) w7 59 32 (bytesV (shaL l)) (by kernel_rfl) Hszl.out (bytesV_one _); clear hb7)
    | fail)
  go_wp2_with (fail)
  go_ret
  refine ⟨w7.heap.size, rfl, ?_, Hb7.out.size, Hb7.out.alloc Hb7.out.size _⟩
  have h1 := (Rd.new (n := 32) (sz := 1) w7 59 (bytesV (shaL l)) (0, 0) Hszl.out).take (k := 4) (by decide)
  have e : (bytesV (shaL l)).take (4 * 1) = bytesV ((shaL l).take 4) := by simp [bytesV, List.map_take]
  rw [e] at h1
  exact h1.mono (fun b _ e => by have := Hb7.out.size; omega)

set_option maxHeartbeats 4000000 in
theorem bequal_any (S S2 : Nat → Prop) (A B : Option Addr) (c c2 : Nat) (l k : List UInt8) (w : World) (h : Rd w S 1 A l.length (bytesV l)) (h2 : Rd w S2 1 B k.length (bytesV k)) :
    Calls Tryz.prog 22 #[.slice A l.length c, .slice B k.length c2] w fun e w' => e = .returned (.bool (l == k)) ∧ w = w' := by
  have q1 : ∀ w', w' = w → (convert 28 9 (.slice A l.length c)).run Tryz.prog w' = .ok (.string ⟨l.toArray⟩) w' := fun w' e => run_convert_rd (P := Tryz.prog) w' 28 9 5 Tryz.underlying28 Tryz.underlying5 Tryz.underlying9 S A l c (e ▸ h)
  have q2 : ∀ w', w' = w → (convert 28 9 (.slice B k.length c2)).run Tryz.prog w' = .ok (.string ⟨k.toArray⟩) w' := fun w' e => run_convert_rd (P := Tryz.prog) w' 28 9 5 Tryz.underlying28 Tryz.underlying5 Tryz.underlying9 S2 B k c2 (e ▸ h2)
  have q3 := q1 w rfl
  have q4 := q2 w rfl
  clear q1 q2 h h2
  go_enter Tryz.func22, Tryz.ntmps22
  go_wp2_with (fail)
  go_ret
  exact ⟨rfl, rfl⟩

set_option maxHeartbeats 4000000 in
theorem bclone_any (S : Nat → Prop) (A : Option Addr) (cap : Nat) (l : List UInt8) (w : World) (hr : Rd w S 1 A l.length (bytesV l)) (hl : l.length ≤ 140737488351232) :
    Calls Tryz.prog 36 #[.slice A l.length cap] w fun e w' => Cloned w w' l e := by
  rcases A with _ | ad
  · have hn : l.length = 0 := by
      rcases Nat.eq_zero_or_pos l.length with h | h
      · exact h
      · obtain ⟨_, _, h, _⟩ := hr.at_ h
        cases h
    obtain rfl : l = [] := List.eq_nil_of_length_eq_zero hn
    clear hn hr hl
    have hq := fun wx => Lib.run_eql_slice_nil (P := Tryz.prog) wx 28 5 none 0 cap 0 0 Tryz.underlying28
    simp only [List.length_nil]
    go_enter Tryz.func36, Tryz.ntmps36
    go_wp2_with fail
    go_ret
    exact ⟨none, 0, rfl, World.ownsRow_nil _ _ _ _, Below.refl _ _⟩
  · have hq := fun wx => Lib.run_eql_slice_nil (P := Tryz.prog) wx 28 5 (some ad) l.length cap 0 0 Tryz.underlying28
    have hr1 := hr.alloc (.cells #[] 5)
    have ho : (w.alloc (.cells #[] 5)).ownsRow w.heap.size 5 1 (.slice (some ⟨w.heap.size, 0, none⟩) 0 0) 0 [] := World.ownsRow_made w #[] 0 (Nat.le_refl _) (by simp) (by simp)
    go_enter Tryz.func36, Tryz.ntmps36
    go_wp2_with (at_builtin; refine wpList_append_rd _ rfl (.tmp 5) (.tmp 6) 28 28 rfl w.heap.size 5 5 (.int .u8 0) 1 1 Tryz.underlying28 Tryz.underlying28 Tryz.infoU8 rfl (by decide) (.slice (some ⟨w.heap.size, 0, none⟩) 0 0) 0 [] rfl ho S (some ad) l.length cap (bytesV l) rfl hr1 (bytesV_one l) (by unfold maxLen; omega) (by omega) (by simp) ?_; intro A' cap' w' hown hgrow hat; clear hr1 ho)
    go_ret
    refine ⟨A', cap', by simp, by simpa using hown, ?_⟩
    exact ((Below.refl _ _).alloc (Nat.le_refl _) _).grown hgrow (by simp) (fun k h => by simp [Value.ownBlock] at h; omega)
end Go.Proofs.YtahhglhebcooaaaGreatDoor
