/- A request that came in, opened. -/
import Derived.Test.YtahhglhebcooaaaGreatDoorOpen
import Derived.Test.YtahhglhebcooaaaGreatDoorLw2
import Derived.OpenShut
namespace Go.Proofs.YtahhglhebcooaaaGreatDoor
open Go.RowKit Go.Deep Go.Cof Go.Tol

/-- A row of n bytes. -/
def ArrC (n : Nat) (x : List UInt8) (cs : List Value) : Prop := x.length = n ∧ cs = bytesV x
theorem opens_arr {n : Nat} {t e : TypeId} {w : World} (ht : Tryz.prog.underlying t = some (.array n e)) (he : Tryz.prog.underlying e = some (.int .u8)) (hc : Tryz.prog.cellsOf e = 1) (hn : Tryz.prog.cellsOf t = n) : Opens Tryz.prog w t (ArrC n) := by
  intro H enc base spare held fuel cs x h hw
  obtain ⟨xs, m, rfl, rfl, hl, hxl, hel⟩ := DataW.trod_array ht h
  rw [hn] at hl
  have hb : ∀ i, i < n → ∃ c : UInt8, cs[i]? = some (.int .u8 c.toNat) := by
    intro i hi
    have h1 := hel i hi
    rw [hc, Nat.mul_one, List.getElem?_eq_getElem (by omega)] at h1
    obtain ⟨k, e1, _, hwf⟩ := DataW.trod_int he h1
    have hb := bounds_u8 hwf
    have h2 : cs[i]? = some (.int .u8 k) := by
      have : ((cs.drop i).take 1)[0]? = some (.int .u8 k) := by rw [e1]; rfl
      rw [List.getElem?_take, if_pos (by omega), List.getElem?_drop, Nat.add_zero] at this
      exact this
    refine ⟨UInt8.ofNat k.toNat, ?_⟩
    have h3 : (UInt8.ofNat k.toNat).toNat = k.toNat % 2 ^ 8 := UInt8.toNat_ofNat'
    have h4 : ((UInt8.ofNat k.toNat).toNat : Int) = k := by rw [h3]; omega
    rw [h2, h4]
  obtain ⟨f, hf⟩ := choose_lt hb
  refine ⟨(List.range n).map f, by simp, ?_⟩
  apply List.ext_getElem?
  intro i
  by_cases hi : i < n
  · rw [hf i hi]
    simp [bytesV, hi]
  · rw [List.getElem?_eq_none (by omega), List.getElem?_eq_none (by simp; omega)]
theorem Tryz.cells5 : Tryz.prog.cellsOf 5 = 1 := by kernel_rfl
theorem Tryz.bytes5 : Tryz.prog.bytesOf 5 = 1 := by kernel_rfl
theorem Tryz.cells40 : Tryz.prog.cellsOf 40 = 16 := by kernel_rfl
theorem Tryz.bytes40 : Tryz.prog.bytesOf 40 = 16 := by kernel_rfl
theorem Tryz.cells3 : Tryz.prog.cellsOf 3 = 1 := by kernel_rfl
theorem Tryz.cells38 : Tryz.prog.cellsOf 38 = 1 := by kernel_rfl
theorem Tryz.cells43 : Tryz.prog.cellsOf 43 = 22 := by kernel_rfl
theorem Tryz.cells28 : Tryz.prog.cellsOf 28 = 1 := by kernel_rfl
theorem Tryz.cells41 : Tryz.prog.cellsOf 41 = 1 := by kernel_rfl
theorem two_parts (cs : List Value) (m n : Nat) (a b : List Value) (h : cs.length = m + n) (h1 : (cs.drop 0).take m = a) (h2 : (cs.drop m).take n = b) : cs = a ++ b := by
  rw [← h1, ← h2, List.drop_zero, List.take_of_length_le (l := cs.drop m) (by simp; omega), List.take_append_drop]
theorem part_more (cs : List Value) (o m n : Nat) (a b : List Value) (h1 : (cs.drop o).take m = a) (h2 : (cs.drop (o + m)).take n = b) : (cs.drop o).take (m + n) = a ++ b := by
  rw [← h1, ← h2, ← List.drop_drop, List.take_add]
theorem opens_name (w : World) : Opens Tryz.prog w 40 (ArrC 16) := opens_arr Tryz.underlying40 Tryz.underlying5 Tryz.cells5 Tryz.cells40
theorem opens_names (w : World) : Opens Tryz.prog w 41 (SlC w 16 16 (ArrC 16)) :=
  opens_slice Tryz.underlying41 Tryz.cells40 (by omega) Tryz.bytes40 (opens_name w) (fun p c h => by rw [h.2, bytesV_length, h.1])
theorem opens_data (w : World) : Opens Tryz.prog w 28 (BytC w) := opens_bytes Tryz.underlying28 Tryz.underlying5 Tryz.cells5 Tryz.bytes5
theorem els_arr {n : Nat} : ∀ (l : List (List UInt8)) (xs : List Value), Els (ArrC n) l xs → xs = bytesV l.flatten ∧ ∀ x ∈ l, x.length = n
  | [], xs, h => ⟨by rw [show xs = [] from h]; rfl, by intro x hx; cases hx⟩
  | a :: l, xs, h => by
    obtain ⟨c, r, rfl, ⟨h1, rfl⟩, hr⟩ := h
    obtain ⟨rfl, h3⟩ := els_arr l r hr
    refine ⟨by rw [List.flatten_cons, bytesV_append], fun x hx => ?_⟩
    rcases List.mem_cons.1 hx with rfl | hx
    · exact h1
    · exact h3 x hx
/-- A request's cells. -/
def ReqC (w : World) (q : ReqA) (cs : List Value) : Prop :=
  ∃ AN cN AD cD, cs = reqV q AN cN AD cD ∧ ReqOk q ∧ Rd w (fun b => b < w.heap.size) 16 AN q.names.length (bytesV q.names.flatten) ∧ Rd w (fun b => b < w.heap.size) 1 AD q.data.length (bytesV q.data)
theorem opens_req (w : World) : Opens Tryz.prog w 43 (ReqC w) := by
  intro H enc base spare held fuel cs x h hw
  have hl := open_len Tryz.underlying43 h
  rw [Tryz.cells43] at hl
  obtain ⟨c, h0, w0⟩ := open_field Tryz.underlying43 h hw 0 3 0 1 rfl Tryz.cells3 (opens_int Tryz.underlying3)
  obtain ⟨i, h1, w1⟩ := open_field Tryz.underlying43 h hw 1 38 1 1 rfl Tryz.cells38 (opens_int Tryz.underlying38)
  obtain ⟨k, h2, w2⟩ := open_field Tryz.underlying43 h hw 2 3 2 1 rfl Tryz.cells3 (opens_int Tryz.underlying3)
  obtain ⟨nm, hn, h3⟩ := open_field Tryz.underlying43 h hw 3 40 3 16 rfl Tryz.cells40 (opens_name w)
  obtain ⟨g, h4, w4⟩ := open_field Tryz.underlying43 h hw 4 38 19 1 rfl Tryz.cells38 (opens_int Tryz.underlying38)
  obtain ⟨ns, AN, cN, xN, h5, rN, eN, _, _, bN⟩ := open_field Tryz.underlying43 h hw 5 41 20 1 rfl Tryz.cells41 (opens_names w)
  obtain ⟨d, AD, cD, h6, rD, _, _, bD⟩ := open_field Tryz.underlying43 h hw 6 28 21 1 rfl Tryz.cells28 (opens_data w)
  obtain ⟨rfl, hns⟩ := els_arr _ _ eN
  have b0 := bounds_i64 w0
  have b1 := bounds_u64 w1
  have b4 := bounds_u64 w4
  have hcs : cs = [.int .i64 c, .int .u64 i, .int .i64 k] ++ bytesV nm ++ [.int .u64 g, .slice AN ns.length cN, .slice AD d.length cD] := by
    have p1 := part_more cs 20 1 1 _ _ h5 h6
    have p2 := part_more cs 19 1 2 _ _ h4 p1
    have p3 := part_more cs 3 16 3 _ _ h3 p2
    have p4 := part_more cs 2 1 19 _ _ h2 p3
    have p5 := part_more cs 1 1 20 _ _ h1 p4
    have p6 := two_parts cs 1 21 _ _ hl h0 p5
    rw [p6]
    simp only [List.cons_append, List.nil_append, List.append_assoc]
  have hi : ((i.toNat : Nat) : Int) = i := by omega
  have hg : ((g.toNat : Nat) : Int) = g := by omega
  refine ⟨⟨c, i.toNat, k, nm, g.toNat, ns, d⟩, AN, cN, AD, cD, ?_, ⟨hn, hns, ?_, ?_, ?_⟩, rN, rD⟩
  · rw [hcs]
    simp only [reqV, hi, hg]
  · show i.toNat < 18446744073709551616
    omega
  · show g.toNat < 18446744073709551616
    omega
  · show (-9223372036854775808 : Int) ≤ c ∧ c ≤ 9223372036854775807
    omega
end Go.Proofs.YtahhglhebcooaaaGreatDoor
