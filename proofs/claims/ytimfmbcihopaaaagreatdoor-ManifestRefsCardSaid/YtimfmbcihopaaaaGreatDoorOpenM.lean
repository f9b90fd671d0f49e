/- A manifest's body that came in, opened. -/
import Derived.Test.YtimfmbcihopaaaaGreatDoorOpen
import Derived.Test.YtimfmbcihopaaaaGreatDoorPuts
import Derived.OpenShut
namespace Go.Proofs.YtimfmbcihopaaaaGreatDoor
open Go.RowKit Go.Deep Go.Cof

theorem opens_arr {n : Nat} {t e : TypeId} {w : World} (ht : Tryz.prog.underlying t = some (.array n e)) (he : Tryz.prog.underlying e = some (.int .u8)) (hc : Tryz.prog.cellsOf e = 1) (hn : Tryz.prog.cellsOf t = n) : Opens Tryz.prog w t (fun (x : Bv n) cs => cs = encB x) := by
  intro H enc base spare held fuel cs x h hw
  obtain ⟨xs, m, rfl, rfl, hl, hxl, hel⟩ := DataW.trod_array ht h
  rw [hn] at hl
  have hb : ∀ i, i < n → ∃ c : UInt8, cs[i]? = some (.int .u8 c.toNat) := by
    intro i hi
    have h1 := hel i hi
    rw [hc, Nat.mul_one, List.getElem?_eq_getElem (by omega)] at h1
    obtain ⟨k, e1, _, hwf⟩ := DataW.trod_int he h1
    have hb := bounds_u8 hwf
    have h2 : cs[i]? = some (.int .u8 k) := by
      have : ((cs.drop i).take 1)[0]? = some (.int .u8 k) := by rw [e1]; rfl
      rw [List.getElem?_take, if_pos (by omega), List.getElem?_drop, Nat.add_zero] at this
      exact this
    refine ⟨UInt8.ofNat k.toNat, ?_⟩
    have h3 : (UInt8.ofNat k.toNat).toNat = k.toNat % 2 ^ 8 := UInt8.toNat_ofNat'
    have h4 : ((UInt8.ofNat k.toNat).toNat : Int) = k := by rw [h3]; omega
    rw [h2, h4]
  obtain ⟨f, hf⟩ := choose_lt hb
  refine ⟨⟨((List.range n).map f).toArray, by simp⟩, ?_⟩
  apply List.ext_getElem?
  intro i
  by_cases hi : i < n
  · rw [hf i hi]
    simp [encB, bytesV, hi]
  · rw [List.getElem?_eq_none (by omega), List.getElem?_eq_none (by rw [encB_len]; omega)]
theorem Tryz.cells5 : Tryz.prog.cellsOf 5 = 1 := by kernel_rfl
theorem Tryz.cells49 : Tryz.prog.cellsOf 49 = 32 := by kernel_rfl
theorem Tryz.cells58 : Tryz.prog.cellsOf 58 = 32 := by kernel_rfl
theorem Tryz.cells65 : Tryz.prog.cellsOf 65 = 16 := by kernel_rfl
theorem Tryz.cells73 : Tryz.prog.cellsOf 73 = 48 := by kernel_rfl
theorem Tryz.cells57 : Tryz.prog.cellsOf 57 = 33 := by kernel_rfl
theorem Tryz.cells61 : Tryz.prog.cellsOf 61 = 34 := by kernel_rfl
theorem Tryz.cells26 : Tryz.prog.cellsOf 26 = 6 := by kernel_rfl
theorem Tryz.cells9 : Tryz.prog.cellsOf 9 = 1 := by kernel_rfl
theorem Tryz.cells3 : Tryz.prog.cellsOf 3 = 1 := by kernel_rfl
theorem Tryz.cells22 : Tryz.prog.cellsOf 22 = 1 := by kernel_rfl
theorem Tryz.cells59 : Tryz.prog.cellsOf 59 = 1 := by kernel_rfl
theorem Tryz.cells23 : Tryz.prog.cellsOf 23 = 1 := by kernel_rfl
theorem Tryz.cells24 : Tryz.prog.cellsOf 24 = 1 := by kernel_rfl
theorem Tryz.bytes73 : Tryz.prog.bytesOf 73 = 48 := by kernel_rfl
theorem Tryz.bytes57 : Tryz.prog.bytesOf 57 = 48 := by kernel_rfl
theorem Tryz.bytes61 : Tryz.prog.bytesOf 61 = 64 := by kernel_rfl

/-- A list of cells out of its parts. -/
theorem two_parts (cs : List Value) (m n : Nat) (a b : List Value) (h : cs.length = m + n) (h1 : (cs.drop 0).take m = a) (h2 : (cs.drop m).take n = b) : cs = a ++ b := by
  rw [← h1, ← h2, List.drop_zero, List.take_of_length_le (l := cs.drop m) (by simp; omega), List.take_append_drop]
theorem part_more (cs : List Value) (o m n : Nat) (a b : List Value) (h1 : (cs.drop o).take m = a) (h2 : (cs.drop (o + m)).take n = b) : (cs.drop o).take (m + n) = a ++ b := by
  rw [← h1, ← h2, ← List.drop_drop, List.take_add]

theorem opens_id (w : World) : Opens Tryz.prog w 49 (fun (x : Bv 32) cs => cs = encB x) := opens_arr Tryz.underlying49 Tryz.underlying5 Tryz.cells5 Tryz.cells49
theorem opens_key (w : World) : Opens Tryz.prog w 58 (fun (x : Bv 32) cs => cs = encB x) := opens_arr Tryz.underlying58 Tryz.underlying5 Tryz.cells5 Tryz.cells58
theorem opens_name (w : World) : Opens Tryz.prog w 65 (fun (x : Bv 16) cs => cs = encB x) := opens_arr Tryz.underlying65 Tryz.underlying5 Tryz.cells5 Tryz.cells65
theorem opens_blob (w : World) : Opens Tryz.prog w 73 BlobC := by
  intro H enc base spare held fuel cs x h hw
  have hl := open_len Tryz.underlying73 h
  rw [Tryz.cells73] at hl
  obtain ⟨a, h1⟩ := open_field Tryz.underlying73 h hw 0 65 0 16 rfl Tryz.cells65 (opens_name w)
  obtain ⟨b, h2⟩ := open_field Tryz.underlying73 h hw 1 49 16 32 rfl Tryz.cells49 (opens_id w)
  exact ⟨⟨a, b⟩, two_parts cs 16 32 _ _ hl h1 h2⟩
theorem opens_ref (w : World) : Opens Tryz.prog w 57 RefC := by
  intro H enc base spare held fuel cs x h hw
  have hl := open_len Tryz.underlying57 h
  rw [Tryz.cells57] at hl
  obtain ⟨a, h1, h1s⟩ := open_field Tryz.underlying57 h hw 0 9 0 1 rfl Tryz.cells9 (opens_string Tryz.underlying9)
  obtain ⟨b, h2⟩ := open_field Tryz.underlying57 h hw 1 49 1 32 rfl Tryz.cells49 (opens_id w)
  refine ⟨⟨a.data.toList, b⟩, ?_, ?_⟩
  · rw [two_parts cs 1 32 _ _ hl h1 h2]
    simp [strV]
  · simpa using h1s
/-- The blobs' slice. -/
theorem opens_blobs (w : World) : Opens Tryz.prog w 59 (SlC w 48 48 BlobC) :=
  opens_slice Tryz.underlying59 Tryz.cells73 (by omega) Tryz.bytes73 (opens_blob w) (fun p c h => BlobC.len p c h)
theorem opens_pack (w : World) : Opens Tryz.prog w 61 (PackC w (fun b => b < w.heap.size)) := by
  intro H enc base spare held fuel cs x h hw
  have hl := open_len Tryz.underlying61 h
  rw [Tryz.cells61] at hl
  obtain ⟨a, h1⟩ := open_field Tryz.underlying61 h hw 0 58 0 32 rfl Tryz.cells58 (opens_key w)
  obtain ⟨c, h2, hwf⟩ := open_field Tryz.underlying61 h hw 1 3 32 1 rfl Tryz.cells3 (opens_int Tryz.underlying3)
  obtain ⟨l, A, cap, xs, h3, hr, he, _, _, hb⟩ := open_field Tryz.underlying61 h hw 2 59 33 1 rfl Tryz.cells59 (opens_blobs w)
  have hcb := bounds_i64 hwf
  refine ⟨⟨a, c, l⟩, A, cap, xs, ?_, hr, he, by show l.length ≤ _; omega, by show (-9223372036854775808 : Int) ≤ c ∧ c ≤ 9223372036854775807; omega⟩
  exact two_parts cs 32 2 _ _ hl h1 (part_more cs 32 1 1 _ _ h2 h3)
theorem opens_refs (w : World) : Opens Tryz.prog w 23 (SlC w 33 48 RefC) :=
  opens_slice Tryz.underlying23 Tryz.cells57 (by omega) Tryz.bytes57 (opens_ref w) (fun p c h => RefC.len p c h)
theorem opens_packs (w : World) : Opens Tryz.prog w 24 (SlC w 34 64 (PackC w (fun b => b < w.heap.size))) :=
  opens_slice Tryz.underlying24 Tryz.cells61 (by omega) Tryz.bytes61 (opens_pack w) (fun p c h => PackC.len p c h)
theorem opens_body (w : World) : Opens Tryz.prog w 26 (fun (b : BodyA) cs => BodyC w (fun i => i < w.heap.size) b (.agg cs.toArray) ∧ NumsA b) := by
  intro H enc base spare held fuel cs x h hw
  have hl := open_len Tryz.underlying26 h
  rw [Tryz.cells26] at hl
  obtain ⟨g, h0, w0⟩ := open_field Tryz.underlying26 h hw 0 22 0 1 rfl Tryz.cells22 (opens_int Tryz.underlying22)
  obtain ⟨ep, h1, w1⟩ := open_field Tryz.underlying26 h hw 1 22 1 1 rfl Tryz.cells22 (opens_int Tryz.underlying22)
  obtain ⟨wt, h2, w2⟩ := open_field Tryz.underlying26 h hw 2 3 2 1 rfl Tryz.cells3 (opens_int Tryz.underlying3)
  obtain ⟨st, h3, w3⟩ := open_field Tryz.underlying26 h hw 3 22 3 1 rfl Tryz.cells22 (opens_int Tryz.underlying22)
  obtain ⟨lr, AR, cR, xr, h4, rr, er, _, _, br⟩ := open_field Tryz.underlying26 h hw 4 23 4 1 rfl Tryz.cells23 (opens_refs w)
  obtain ⟨lp, AP, cP, xp, h5, rp, ep2, _, _, bp⟩ := open_field Tryz.underlying26 h hw 5 24 5 1 rfl Tryz.cells24 (opens_packs w)
  have hcs : cs = [.int .u64 g, .int .u64 ep, .int .i64 wt, .int .u64 st, .slice AR lr.length cR, .slice AP lp.length cP] := by
    have p1 := part_more cs 4 1 1 _ _ h4 h5
    have p2 := part_more cs 3 1 2 _ _ h3 p1
    have p3 := part_more cs 2 1 3 _ _ h2 p2
    have p4 := part_more cs 1 1 4 _ _ h1 p3
    exact two_parts cs 1 5 _ _ hl h0 p4
  have b0 := bounds_u64 w0
  have b1 := bounds_u64 w1
  have b3 := bounds_u64 w3
  have hcs2 : cs = [.int .u64 (g.toNat : Nat), .int .u64 (ep.toNat : Nat), .int .i64 wt, .int .u64 (st.toNat : Nat), .slice AR lr.length cR, .slice AP lp.length cP] := by
    rw [hcs]
    congr 4
    · omega
    · congr 2; omega
    · congr 4; omega
  refine ⟨⟨g.toNat, ep.toNat, wt, st.toNat, lr, lp⟩, ⟨AR, cR, xr, AP, cP, xp, by rw [hcs2], rr, er, rp, ep2, by show lr.length ≤ _; omega, by show lp.length ≤ _; omega, fun i hi => hi⟩, ?_⟩
  refine ⟨?_, ?_, ?_⟩ <;> simp only <;> omega
end Go.Proofs.YtimfmbcihopaaaaGreatDoor
