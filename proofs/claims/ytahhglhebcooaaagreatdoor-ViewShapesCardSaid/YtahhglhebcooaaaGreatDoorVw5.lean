/- view.text, view.Name, at one name. -/
import Derived.Test.YtahhglhebcooaaaGreatDoorVw4
import Derived.Lib.ConvBytes
import Derived.Laws.IdiomStrings
namespace Go.Proofs.YtahhglhebcooaaaGreatDoor
open Go.RowKit Go.Cof Go.Tol

theorem heap_set_fr {w : World} {b : Nat} {cur : List Value} {t : TypeId} {fr : Nat × Nat} (h : w.heap[b]? = some (.cells cur.toArray t fr)) (o : Nat) (v : Value) : (w.setCell ⟨b, o, none⟩ v).heap[b]? = some (.cells (cur.set o v).toArray t fr) := by
  simp [World.setCell, Array.getElem?_modify, h]
/-- The name on its way, k letters done. -/
def tagL (k : Nat) : List UInt8 := [116, 97, 103, 115, 47, if 5 < k then 50 else 49, 46, if 7 < k then 48 else 57]
def TagAt (w : World) (g k : Nat) : Prop := ∃ (rest : List Value) (S : Nat), w.heap[g]? = some (.cells (bytesV (tagL k) ++ rest).toArray 5 (S, S + 1)) ∧ 8 ≤ S
theorem TagAt.cell {w : World} {g k j : Nat} (h : TagAt w g k) (hj : j < 8) : w.cell? ⟨g, j, none⟩ = (bytesV (tagL k))[j]? ∧ w.frozen? ⟨g, j, none⟩ = false := by
  obtain ⟨rest, S, h1, h2⟩ := h
  refine ⟨?_, ?_⟩
  · rw [cell_of_row _ _ j _ _ _ h1, List.getElem?_toArray, List.getElem?_append_left (by rw [bytesV_length]; exact hj)]
  · simp [World.frozen?, h1]; omega
theorem TagAt.set {w : World} {g k j : Nat} (h : TagAt w g k) (v : Value) (he : (bytesV (tagL k)).set j v = bytesV (tagL (k + 1))) (hj : j < 8) : TagAt (w.setCell ⟨g, j, none⟩ v) g (k + 1) := by
  obtain ⟨rest, S, h1, h2⟩ := h
  refine ⟨rest, S, ?_, h2⟩
  rw [heap_set_fr h1, List.set_append_left _ _ (by rw [bytesV_length]; exact hj), he]
theorem TagAt.same {w : World} {g k : Nat} (h : TagAt w g k) (he : tagL k = tagL (k + 1)) : TagAt w g (k + 1) := by
  obtain ⟨rest, S, h1, h2⟩ := h
  exact ⟨rest, S, by rw [← he]; exact h1, h2⟩

set_option maxHeartbeats 4000000 in
set_option maxRecDepth 100000 in
theorem text_one (w : World) : Calls Tryz.prog 44 #[.string ⟨#[116, 97, 103, 115, 47, 49, 46, 57]⟩, .int .u8 1, .bool false] w fun e w' => e = .returned (.string ⟨#[116, 97, 103, 115, 47, 50, 46, 48]⟩) ∧ Below w.heap.size w w' := by
  have hcv := Lib.run_convert_string_bytes (P := Tryz.prog) w 9 28 5 ⟨#[116, 97, 103, 115, 47, 49, 46, 57]⟩ Tryz.underlying9 Tryz.underlying28 Tryz.underlying5
  obtain ⟨W, hW⟩ : ∃ W : World, W = Lib.bytesWorld w 5 ⟨#[116, 97, 103, 115, 47, 49, 46, 57]⟩ := ⟨_, rfl⟩
  obtain ⟨N, hN⟩ : ∃ N, N = w.heap.size := ⟨_, rfl⟩
  obtain ⟨cap, hcap⟩ : ∃ cap, grownCap w (⟨#[116, 97, 103, 115, 47, 49, 46, 57]⟩ : ByteArray).size 0 5 = cap := ⟨_, rfl⟩
  have hbc : Lib.bytesCells w 5 ⟨#[116, 97, 103, 115, 47, 49, 46, 57]⟩ = (bytesV (tagL 0) ++ List.replicate (cap - 8) (Value.int .u8 0)).toArray := by
    rw [Lib.bytesCells, hcap]
    simp [bytesV, tagL]
    rfl
  have HT0 := hide (show TagAt W N 0 from ⟨List.replicate (cap - 8) (.int .u8 0), (Lib.bytesCells w 5 ⟨#[116, 97, 103, 115, 47, 49, 46, 57]⟩).size, by
    rw [hW, hN, Lib.bytesWorld_at_new, hbc], by
    rw [hbc]
    simp [bytesV, tagL]⟩)
  have HB0 := hide (show Below N w W from ⟨by rw [hW]; rfl, by rw [hW]; rfl, by rw [hW]; rfl, by rw [hW, Lib.bytesWorld_size]; omega, fun k hk => by rw [hW]; exact Lib.bytesWorld_at_old _ _ _ _ (by omega)⟩)
  rw [← hW, ← hN, hcap] at hcv
  rw [show (⟨#[116, 97, 103, 115, 47, 49, 46, 57]⟩ : ByteArray).size = 8 from rfl] at hcv
  have HN := hide hN
  clear hW hN hcap hbc
  go_enter Tryz.func44, Tryz.ntmps44
  go_upto_block 0 with (fail)
  go_wp2_with (fail)
  go_loopw [14] (fun i wr => ∃ k : Nat, k ≤ 8 ∧ i = .int .i64 k ∧ TagAt wr N k ∧ Below N w wr) (fun i _ => 8 - (intOf i).toNat)
  case atStart => exact ⟨0, Nat.zero_le _, rfl, HT0.out, HB0.out⟩
  case round => as_aux_lemma =>
    obtain ⟨k, hk, rfl, ht, hb⟩ := hrel
    have Ht := hide ht
    have Hb := hide hb
    clear ht hb
    by_cases h8 : k = 8
    · subst h8
      have hback := run_convert_bytes_back (P := Tryz.prog) wr 28 9 5 ⟨N, 0, none⟩ cap (tagL 8) Tryz.underlying28 Tryz.underlying5 Tryz.underlying9 (fun j hj => by
        rw [addr_plus, Nat.zero_add, (Ht.out.cell hj).1, bytesV, List.getElem?_map, List.getElem?_eq_getElem hj]; rfl)
      rw [show (tagL 8).length = 8 from rfl, show (tagL 8).toArray = #[116, 97, 103, 115, 47, 50, 46, 48] from rfl] at hback
      go_wp2_with (fail)
      go_ret
      exact ⟨rfl, by rw [← HN.out]; exact Hb.out⟩
    · have hc : k = 0 ∨ k = 1 ∨ k = 2 ∨ k = 3 ∨ k = 4 ∨ k = 5 ∨ k = 6 ∨ k = 7 := by omega
      clear hcv
      rcases hc with rfl | rfl | rfl | rfl | rfl | rfl | rfl | rfl
      case inr.inr.inr.inr.inr.inl =>
        have ck : wr.cell? ⟨N, 5, none⟩ = some (.int .u8 49) := (Ht.out.cell (by decide)).1
        have fk : wr.frozen? ⟨N, 5, none⟩ = false := (Ht.out.cell (by decide)).2
        go_wp2_with (first
          | (go_at_call 70; refine (moved_any 49 50 (.inl ⟨rfl, rfl⟩) _).mono ?_; rintro e w6 ⟨rfl, rfl⟩)
          | fail)
        exact ⟨⟨6, by decide, rfl, Ht.out.set _ rfl (by decide), Hb.out.setCell (Nat.le_refl _) _⟩, by decide⟩
      case inr.inr.inr.inr.inr.inr.inr =>
        have ck : wr.cell? ⟨N, 7, none⟩ = some (.int .u8 57) := (Ht.out.cell (by decide)).1
        have fk : wr.frozen? ⟨N, 7, none⟩ = false := (Ht.out.cell (by decide)).2
        go_wp2_with (first
          | (go_at_call 70; refine (moved_any 57 48 (.inr ⟨rfl, rfl⟩) _).mono ?_; rintro e w6 ⟨rfl, rfl⟩)
          | fail)
        exact ⟨⟨8, by decide, rfl, Ht.out.set _ rfl (by decide), Hb.out.setCell (Nat.le_refl _) _⟩, by decide⟩
      case inl =>
        have ck : wr.cell? ⟨N, 0, none⟩ = some (.int .u8 116) := (Ht.out.cell (by decide)).1
        go_wp2_with (fail)
        exact ⟨⟨1, by decide, rfl, Ht.out.same rfl, Hb.out⟩, by decide⟩
      case inr.inl =>
        have ck : wr.cell? ⟨N, 1, none⟩ = some (.int .u8 97) := (Ht.out.cell (by decide)).1
        go_wp2_with (fail)
        exact ⟨⟨2, by decide, rfl, Ht.out.same rfl, Hb.out⟩, by decide⟩
      case inr.inr.inl =>
        have ck : wr.cell? ⟨N, 2, none⟩ = some (.int .u8 103) := (Ht.out.cell (by decide)).1
        go_wp2_with (fail)
        exact ⟨⟨3, by decide, rfl, Ht.out.same rfl, Hb.out⟩, by decide⟩
      case inr.inr.inr.inl =>
        have ck : wr.cell? ⟨N, 3, none⟩ = some (.int .u8 115) := (Ht.out.cell (by decide)).1
        go_wp2_with (fail)
        exact ⟨⟨4, by decide, rfl, Ht.out.same rfl, Hb.out⟩, by decide⟩
      case inr.inr.inr.inr.inl =>
        have ck : wr.cell? ⟨N, 4, none⟩ = some (.int .u8 47) := (Ht.out.cell (by decide)).1
        go_wp2_with (fail)
        exact ⟨⟨5, by decide, rfl, Ht.out.same rfl, Hb.out⟩, by decide⟩
      case inr.inr.inr.inr.inr.inr.inl =>
        have ck : wr.cell? ⟨N, 6, none⟩ = some (.int .u8 46) := (Ht.out.cell (by decide)).1
        go_wp2_with (fail)
        exact ⟨⟨7, by decide, rfl, Ht.out.same rfl, Hb.out⟩, by decide⟩
theorem name_one (w : World) : Calls Tryz.prog 23 #[.string ⟨#[116, 97, 103, 115, 47, 49, 46, 57]⟩, .int .u8 1] w fun e w' => e = .returned (.string ⟨#[116, 97, 103, 115, 47, 50, 46, 48]⟩) ∧ Below w.heap.size w w' := by
  go_enter Tryz.func23, Tryz.ntmps23
  go_wp2_with (first
    | (go_at_call 44; refine (text_one _).mono ?_; rintro e w6 ⟨rfl, hb6⟩)
    | fail)
  go_ret
  exact ⟨rfl, hb6⟩
end Go.Proofs.YtahhglhebcooaaaGreatDoor
