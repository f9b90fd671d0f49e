/- What comes in, at the types of net. -/
import Derived.Test.YtogplcfoigofpaaNetE
import Derived.Test.YtogplcfoigofpaaOpen
namespace Go.Proofs.Ytogplcfoigofpaa
open Go.RowKit Go.Cof

theorem Try.own : ownKnob Try.prog.godebug = none := by kernel_rfl
theorem Try.laidOut : laidOutB Try.prog = true := by kernel_rfl
theorem Try.cells27 : Try.prog.cellsOf 27 = 3 := by kernel_rfl
theorem Try.cells3 : Try.prog.cellsOf 3 = 1 := by kernel_rfl
theorem Try.cells5 : Try.prog.cellsOf 5 = 1 := by kernel_rfl
theorem Try.cells25 : Try.prog.cellsOf 25 = 1 := by kernel_rfl
theorem Try.bytes5 : Try.prog.bytesOf 5 = 1 := by kernel_rfl
theorem Try.bytes27 : Try.prog.bytesOf 27 = 40 := by kernel_rfl

theorem list3 {α : Type} {l : List α} (h : l.length = 3) : ∃ a b c, l = [a, b, c] := by
  match l, h with
  | [a, b, c], _ => exact ⟨a, b, c, rfl⟩

theorem opens_pk (w : World) : Opens Try.prog w 27 (PkC w (fun b => b < w.heap.size)) := by
  intro H enc base spare held fuel cs x h hw
  have hl := open_len Try.underlying27 h
  rw [Try.cells27] at hl
  obtain ⟨c0, c1, c2, rfl⟩ := list3 hl
  obtain ⟨f, e0, _⟩ := open_field Try.underlying27 h hw 0 3 0 1 rfl Try.cells3 (opens_int (w := w) Try.underlying3)
  obtain ⟨t, e1, _⟩ := open_field Try.underlying27 h hw 1 3 1 1 rfl Try.cells3 (opens_int (w := w) Try.underlying3)
  obtain ⟨l, A, cap, e2, hr, _, _, hb⟩ := open_field Try.underlying27 h hw 2 25 2 1 rfl Try.cells25 (opens_bytes (w := w) Try.underlying25 Try.underlying5 Try.cells5 Try.bytes5)
  simp at e0 e1 e2
  subst e0 e1 e2
  exact ⟨⟨f, t, l⟩, A, cap, rfl, hr, hb⟩

theorem opens_pks (w : World) : Opens Try.prog w 22 (SlC w 3 40 (PkC w (fun b => b < w.heap.size))) :=
  opens_slice Try.underlying22 Try.cells27 (by omega) Try.bytes27 (opens_pk w) (fun p c h => PkC.len p c h)
end Go.Proofs.Ytogplcfoigofpaa
