/- manifest.Names: the loops. -/
import Derived.Test.YtimfmbcihopaaaaGreatDoorMapSn
import Derived.Deep.WholeRow
namespace Go.Proofs.YtimfmbcihopaaaaGreatDoor
open Go.RowKit Go.Cof Go.Sort Go.Shelf

/-- A value of many cells goes into the block that was just made. -/
theorem store_new (w : World) (t : TypeId) (n : Nat) (c : List Value) (hi : (Tryz.prog.info? t).map (·.size) = some n) (hc : c.length = n) (h1 : ∀ v ∈ c, v.oneCell' = true) :
    ∀ z : Array Value, z.size = n → (storeCells ⟨w.heap.size, 0, none⟩ c).run Tryz.prog (w.alloc (.cells z t)) = .ok () (w.alloc (.cells c.toArray t)) := fun z hz => by
  have := run_storeCells_new (P := Tryz.prog) w t z c.toArray (by rw [hi]; simpa using hc.symm) (by rw [hz]; simpa using hc.symm) (all_oneCell_toArray h1)
  simpa using this

/-- A built array. -/
theorem build_at : ∀ (l : List Value) (k : Nat) (z : Array Value), k + l.length ≤ z.size → List.foldl (fun (cs : Array Value) (x : Value × Nat) => cs.setIfInBounds x.snd x.fst) z (l.zipIdx k) = (z.toList.take k ++ l ++ z.toList.drop (k + l.length)).toArray
  | [], k, z, _ => by simp
  | v :: l, k, z, h => by
    rw [List.length_cons] at h
    rw [List.zipIdx_cons, List.foldl_cons, build_at l (k + 1) _ (by simp; omega)]
    have h2 : (z.setIfInBounds k v).toList = z.toList.set k v := by simp
    rw [h2, List.length_cons]
    congr 1
    have hk : k < z.toList.length := by rw [Array.length_toList]; omega
    rw [List.take_succ_eq_append_getElem (by rw [List.length_set]; exact hk), List.getElem_set_self, List.take_set_of_le (Nat.le_refl k), List.drop_set_of_lt (by omega), show k + 1 + l.length = k + (l.length + 1) by omega]
    simp
theorem build_eq (l : List Value) (n : Nat) (h : l.length = n) : ∀ z : Array Value, z.size = n → List.foldl (fun (cs : Array Value) (x : Value × Nat) => cs.setIfInBounds x.snd x.fst) z l.zipIdx = l.toArray := fun z hz => by
  have := build_at l 0 z (by omega)
  rw [List.drop_of_length_le (by rw [Array.length_toList]; omega)] at this
  simpa using this

/-- All blobs' names, as they come. -/
def blobsOf (l : List PackA) : List BlobA := l.flatMap (·.blobs)
def namesOf (l : List PackA) : List (Bv 16) := (blobsOf l).map (·.name)
theorem names_next (l : List PackA) (k : Nat) (h : k < l.length) : namesOf (l.take (k + 1)) = namesOf (l.take k) ++ (l[k].blobs).map (·.name) := by
  rw [namesOf, blobsOf, List.take_succ_eq_append_getElem h, List.flatMap_append, List.map_append]
  simp [namesOf, blobsOf]
theorem names_few (l : List PackA) (h : ∀ p ∈ l, p.blobs.length ≤ 48) : (namesOf l).length ≤ 48 * l.length := by
  induction l with
  | nil => simp [namesOf, blobsOf]
  | cons p l ih =>
    have h1 := ih (fun q hq => h q (List.mem_cons_of_mem _ hq))
    have h2 := h p List.mem_cons_self
    simp only [namesOf, blobsOf, List.flatMap_cons, List.map_append, List.length_append, List.length_map, List.length_cons] at h1 ⊢
    omega

theorem Tryz.info65 : (Tryz.prog.info? 65).map (fun i => (i.zero, i.size, i.bytes)) = some (some (.agg (Array.replicate 16 (.int .u8 0))), 16, 16) := by kernel_rfl

set_option maxHeartbeats 4000000 in
set_option maxRecDepth 100000 in
theorem names_any (Ar Ap : Option Addr) (cr cp nr : Nat) (g ep st : Nat) (wt : Int) (l : List PackA) (S T : Nat → Prop) (xs : List Value) (w : World) (hr : Rd w S 34 Ap l.length xs) (hp : Els (PackC w T) l xs) (hT : ∀ i, T i → i < w.heap.size) (hl : l.length ≤ 12) (hall : ∀ p ∈ l, p.blobs.length ≤ 48) :
    Calls Tryz.prog 19 #[.agg #[.int .u64 g, .int .u64 ep, .int .i64 wt, .int .u64 st, .slice Ar nr cr, .slice Ap l.length cp]] w fun e w' => Sorted w w' (namesOf l) e := by
  have Hr := hide hr
  have Hp := hide hp
  have HT := hide hT
  have Hall := hide hall
  clear hr hp hT hall
  go_enter Tryz.func19, Tryz.ntmps19
  go_wp2_with fail
  go_loopw [3, 11] (fun out i wr => ∃ k : Nat, k ≤ l.length ∧ i = .int .i64 k ∧ wr.ownsRow w.heap.size 65 16 out (namesOf (l.take k)).length (namesV (namesOf (l.take k))) ∧ Below w.heap.size w wr) (fun _ i _ => l.length - (intOf i).toNat)
  case atStart => exact ⟨0, Nat.zero_le _, rfl, World.ownsRow_nil _ _ _ _, (Below.refl _ _).alloc (Nat.le_refl _) _⟩
  case round =>
    obtain ⟨k, hk, rfl, hown, hb⟩ := hrel
    have Hown := hide hown
    have Hb := hide hb
    have hsz1 := hb.size
    clear hown hb
    by_cases hlt : k < l.length
    · obtain ⟨b, off, hA, _, hbl, _⟩ := Hr.out.at_ (by omega)
      obtain ⟨c, hc, hcl, hrg⟩ := rd_range (hA ▸ Hr.out) Hp.out rfl (fun p c => PackC.len p c) hlt
      subst hA
      have hrg2 := hide (range_keep hrg (Keep.of_none Hb.out) hbl (fun f => f))
      have Hc := hide hc
      have hcl2 := hcl
      have hsz := hide (show (Tryz.prog.info? 61).map (·.size) = some c.length by rw [hcl]; kernel_rfl)
      clear hrg hcl
      obtain ⟨Ab, capb, bs, hcc, hrb, heb, hbb, _, _⟩ := hc
      obtain ⟨h32, h33⟩ := at32 (encB l[k].key) (.int .i64 l[k].count) (.slice Ab l[k].blobs.length capb) (encB_len _)
      rw [← hcc] at h32 h33
      have e33 : c[33]'(by omega) = .slice Ab l[k].blobs.length capb := (List.getElem?_eq_some_iff.1 h33).2
      have Hrb := hide hrb
      have Heb := hide heb
      have Hcc := hide hcc
      clear hrb heb hcc h32 h33
      have hst := store_new wr 61 34 c (by kernel_rfl) hcl2 (fun v hv => PackC.one l[k] c Hc.out v hv)
      go_wp2_with (refine wpList_load_mid rfl 61 (.tmp 13) rfl b (off + k * 34) rfl c _ hrg2.out Tryz.underlying61 rfl hsz.out ?_)
      have Hst := hide hst
      clear hst
      obtain ⟨wo, hwo⟩ : ∃ wo : World, wo = wr.alloc (.cells c.toArray 61) := ⟨_, rfl⟩
      rw [← hwo]
      obtain ⟨ko, hko⟩ : ∃ ko, ko = k := ⟨_, rfl⟩
      go_loopw [3, 18] (fun out i wr2 => ∃ m : Nat, m ≤ l[k].blobs.length ∧ i = .int .i64 m ∧ wr2.ownsRow w.heap.size 65 16 out (namesOf (l.take k) ++ (l[k].blobs.take m).map (·.name)).length (namesV (namesOf (l.take k) ++ (l[k].blobs.take m).map (·.name))) ∧ Below w.heap.size w wr2) (fun _ i _ => l[k].blobs.length - (intOf i).toNat)
      case atStart =>
        refine ⟨0, Nat.zero_le _, rfl, ?_, ?_⟩
        · rw [List.take_zero, List.map_nil, List.append_nil, hwo]
          exact own_below Hown.out ((Below.refl _ _).alloc (Nat.le_refl _) _)
        · rw [hwo]; exact Hb.out.alloc hsz1 _
      case round =>
        obtain ⟨m, hm, rfl, hown2, hb2⟩ := hrel
        have Hown2 := hide hown2
        have Hb2 := hide hb2
        have hsz2 := hb2.size
        clear hown2 hb2
        by_cases hlt2 : m < l[k].blobs.length
        · obtain ⟨b2, off2, hA2, hTb, hbl2, _⟩ := Hrb.out.at_ (by omega)
          obtain ⟨d, hd, hdl, hrgd⟩ := rd_range (hA2 ▸ Hrb.out) Heb.out rfl (fun p c => BlobC.len p c) hlt2
          subst hA2
          have hrg3 := hide (range_keep hrgd (Keep.of_none Hb2.out) hbl2 (fun f => f))
          have hszd := hide (show (Tryz.prog.info? 73).map (·.size) = some d.length by rw [hdl]; kernel_rfl)
          have hst2 := store_new wr 73 48 d (by kernel_rfl) hdl (fun v hv => BlobC.one _ d hd v hv)
          have hrg4 := hide (show (wr.alloc (.cells d.toArray 73)).rangeAt wr.heap.size 0 (encB l[k].blobs[m].name) from fun j v hj => by
            rw [cell_of_row _ _ _ _ _ _ (heap_alloc_new _ _)]
            have hjl := (List.getElem?_eq_some_iff.1 hj).1
            rw [hd, Nat.zero_add, List.getElem?_toArray, List.getElem?_append_left hjl]
            exact hj)
          have hszn := hide (show (Tryz.prog.info? 65).map (·.size) = some (encB l[k].blobs[m].name).length by rw [encB_len]; kernel_rfl)
          obtain ⟨nm, hnm⟩ : ∃ nm, nm = encB l[k].blobs[m].name := ⟨_, rfl⟩
          rw [← hnm] at hrg4 hszn
          have hnl : nm.length = 16 := by rw [hnm]; exact encB_len _
          have Hnm := hide hnm
          have hbu := build_eq nm 16 hnl
          have hfew : (namesOf (l.take k) ++ (l[k].blobs.take m).map (·.name)).length ≤ 140000 := by
            have h1 := names_few (l.take k) (fun p hp => Hall.out p (List.mem_of_mem_take hp))
            have h2 := Hall.out l[k] (List.getElem_mem hlt)
            rw [List.length_take] at h1
            rw [List.length_append, List.length_map, List.length_take]
            omega
          clear hrgd hd hnm
          go_wp2_with (first | (refine wpList_load_mid rfl 73 (.tmp 20) rfl b2 (off2 + m * 48) rfl d _ hrg3.out Tryz.underlying73 rfl hszd.out ?_) | (refine wpList_load_mid rfl 65 (.tmp 23) rfl wr.heap.size 0 rfl nm _ hrg4.out Tryz.underlying65 rfl hszn.out ?_) | (at_builtin; refine wpList_append_rd _ rfl (.tmp 22) (.tmp 25) 62 62 rfl w.heap.size 65 65 _ 16 16 Tryz.underlying62 Tryz.underlying62 Tryz.info65 rfl (by decide) u3 (namesOf (l.take k) ++ (l[k].blobs.take m).map (·.name)).length (namesV (namesOf (l.take k) ++ (l[k].blobs.take m).map (·.name))) rfl (by exact own_below Hown2.out (((Below.refl _ _).alloc (Nat.le_refl _) _).alloc (by simp) _)) _ _ 1 1 nm rfl (by exact Rd.new_at _ _ _ _ (by simp) (by rw [hnl])) (by rw [Hnm.out]; exact encB_one _) (by unfold maxLen; omega) (by omega) (by simp; omega) ?_; intro A3 cap3 w3 hown3 hgrow3 hat3))
          refine ⟨⟨m + 1, by omega, by go_num, ?_, ((Hb2.out.alloc hsz2 _).alloc (by simp; omega) _).grown hgrow3 (by simp; omega) (fun j hj => (Hown2.out.lt j hj).1)⟩, by simp [intOf]; omega⟩
          have e1 : (namesOf (l.take k) ++ (l[k].blobs.take m).map (·.name)).length = (namesOf (l.take k)).length + m := by simp; omega
          have e3 : (l[k].blobs.take (m + 1)).map (·.name) = (l[k].blobs.take m).map (·.name) ++ [l[k].blobs[m].name] := by rw [List.take_succ_eq_append_getElem hlt2, List.map_append]; rfl
          rw [e3, ← List.append_assoc, namesV_append, List.length_append, e1]
          rw [e1, Hnm.out] at hown3
          have e4 : namesV [l[k].blobs[m].name] = encB l[k].blobs[m].name := by simp [namesV]
          rw [e4]
          exact hown3
        · obtain rfl : m = l[k].blobs.length := by omega
          rw [List.take_of_length_le (Nat.le_refl _)] at Hown2
          go_wp2_with fail
          refine ⟨⟨k + 1, by omega, by go_num, ?_, Hb2.out⟩, by simp [intOf]; omega⟩
          rw [names_next l k hlt]
          exact Hown2.out
    · obtain rfl : k = l.length := by omega
      rw [List.take_of_length_le (Nat.le_refl _)] at Hown
      have hN : (namesOf l).length ≤ 1000000 := by
        have h1 := names_few l (fun p hp => Hall.out p hp)
        omega
      have hsc := hide (sortN_any w.heap.size u3 (namesOf l) wr Hown.out hN hsz1)
      go_wp2_with (go_at_call 52; refine hsc.out.mono ?_; rintro e w1 ⟨rfl, hb1, A, cap, rfl, hpos⟩; have Hb1 := hide hb1; have Hpos := hide hpos; clear hb1 hpos)
      go_ret
      refine ⟨A, cap, rfl, Hb.out.trans Hb1.out, Hpos.out⟩
end Go.Proofs.YtimfmbcihopaaaaGreatDoor
