/- Words for memory: what a slice reads as, what a call keeps. -/
import Derived.WalkKit
import Derived.WalkSpells
import Derived.WalkLawsBesides
import Derived.Maps.AppendAt
import Derived.Deep.AppendLies
import Derived.Deep.RegionLaw
import Derived.Laws.CopyRow
import Derived.Laws.BytesArg
import Derived.Deep.Draws
namespace Go.Cof
open Go.RowKit

theorem hide {p : Prop} (h : p) : Hid p := h

/-- Outside the blocks of F the world w' holds what w held; nothing else has turned but the draws. -/
structure Keep (F : Nat → Prop) (w w' : World) : Prop where
  os : w'.os = w.os
  tape : w'.tape = w.tape
  output : w'.output = w.output
  size : w.heap.size ≤ w'.heap.size
  block : ∀ k, k < w.heap.size → ¬ F k → w'.heap[k]? = w.heap[k]?

section
variable {F G : Nat → Prop} {w w' w'' : World}
theorem Keep.refl (F : Nat → Prop) (w : World) : Keep F w w := ⟨rfl, rfl, rfl, Nat.le_refl _, fun _ _ _ => rfl⟩
theorem Keep.trans (h : Keep F w w') (k : Keep F w' w'') : Keep F w w'' :=
  ⟨k.os.trans h.os, k.tape.trans h.tape, k.output.trans h.output, Nat.le_trans h.size k.size,
    fun i hi hf => (k.block i (Nat.lt_of_lt_of_le hi h.size) hf).trans (h.block i hi hf)⟩
/-- Two steps, the second of which writes only what the first one made, or what F has. -/
theorem Keep.step (h : Keep F w w') (k : Keep G w' w'') (hg : ∀ i, G i → i < w.heap.size → F i) : Keep F w w'' :=
  ⟨k.os.trans h.os, k.tape.trans h.tape, k.output.trans h.output, Nat.le_trans h.size k.size,
    fun i hi hf => (k.block i (Nat.lt_of_lt_of_le hi h.size) (fun g => hf (hg i g hi))).trans (h.block i hi hf)⟩
theorem Keep.mono (h : Keep F w w') (hf : ∀ i, i < w.heap.size → F i → G i) : Keep G w w' :=
  ⟨h.os, h.tape, h.output, h.size, fun k hk hg => h.block k hk fun f => hg (hf k hk f)⟩
theorem Keep.drew (h : Keep F w w') : Keep F w w'.drew := ⟨h.os, h.tape, h.output, h.size, h.block⟩
theorem Keep.drewN (h : Keep F w w') (n : Nat) : Keep F w (w'.drewN n) := ⟨h.os, h.tape, h.output, h.size, h.block⟩
theorem Keep.alloc (h : Keep F w w') (o : Obj) : Keep F w (w'.alloc o) :=
  ⟨h.os, h.tape, h.output, by simp; have := h.size; omega, fun k hk hf => (Below.heap_alloc _ _ _ (Nat.lt_of_lt_of_le hk h.size)).trans (h.block k hk hf)⟩
theorem Keep.setCell (h : Keep F w w') {p : Addr} (hp : p.block < w.heap.size → F p.block) (u : Value) : Keep F w (w'.setCell p u) :=
  ⟨h.os, h.tape, h.output, by simpa [World.setCell] using h.size, fun k hk hf =>
    (Below.heap_setCell _ _ _ _ (fun e => hf (by rw [e]; exact hp (by rw [← e]; exact hk)))).trans (h.block k hk hf)⟩
theorem Keep.grown (h : Keep F w w') {row : Option Nat} (hg : w'.grownBy w'' row) (hr : ∀ k, row = some k → k < w.heap.size → F k) : Keep F w w'' :=
  ⟨hg.os.trans h.os, hg.tape.trans h.tape, hg.output.trans h.output, Nat.le_trans h.size hg.size, fun k hk hf =>
    (hg.block k (Nat.lt_of_lt_of_le hk h.size) (fun e => hf (hr k e.symm hk))).trans (h.block k hk hf)⟩
theorem Keep.below (h : Keep F w w') {B : Nat} (hB : B ≤ w.heap.size) (hf : ∀ i, F i → B ≤ i) : Below B w w' :=
  ⟨h.os, h.tape, h.output, h.size, fun k hk => h.block k (by omega) (fun f => by have := hf k f; omega)⟩
theorem Keep.of_below {B : Nat} (h : Below B w w') : Keep (fun i => B ≤ i) w w' :=
  ⟨h.os, h.tape, h.output, h.size, fun k _ hf => h.block k (by omega)⟩
theorem Keep.none_below (h : Keep (fun _ => False) w w') : Below w.heap.size w w' := h.below (Nat.le_refl _) (fun _ f => f.elim)
theorem Keep.of_none (h : Below w.heap.size w w') : Keep (fun _ => False) w w' :=
  ⟨h.os, h.tape, h.output, h.size, fun k hk _ => h.block k hk⟩
theorem Keep.cell (h : Keep F w w') {p : Addr} (hp : p.block < w.heap.size) (hf : ¬ F p.block) : w'.cell? p = w.cell? p := World.cell?_of_block (w := w) (h.block _ hp hf)
theorem Keep.frozen (h : Keep F w w') {p : Addr} (hp : p.block < w.heap.size) (hf : ¬ F p.block) : w'.frozen? p = w.frozen? p := World.frozen?_of_block (w := w) (h.block _ hp hf)
/-- The two rules for the walk. -/
theorem Keep.cells (h : Keep F w w') : (∀ b o, b < w.heap.size → ¬ F b → w'.cell? ⟨b, o, none⟩ = w.cell? ⟨b, o, none⟩) ∧ (∀ b o, b < w.heap.size → ¬ F b → w'.frozen? ⟨b, o, none⟩ = w.frozen? ⟨b, o, none⟩) :=
  ⟨fun b o hb hf => h.cell (p := ⟨b, o, none⟩) hb hf, fun b o hb hf => h.frozen (p := ⟨b, o, none⟩) hb hf⟩
end

/-- The two rules for the walk, behind a contract that makes memory alone. -/
theorem rules {w w' : World} {N : Nat} (h : Below N w w') : (∀ b o, b < N → w'.cell? ⟨b, o, none⟩ = w.cell? ⟨b, o, none⟩) ∧ (∀ b o, b < N → w'.frozen? ⟨b, o, none⟩ = w.frozen? ⟨b, o, none⟩) :=
  ⟨fun b o hb => h.cell (p := ⟨b, o, none⟩) hb, fun b o hb => h.frozen (p := ⟨b, o, none⟩) hb⟩

/-- A slice value '.slice A n c' reads as the cells xs, sz to an element, out of a block in S. -/
structure Rd (w : World) (S : Nat → Prop) (sz : Nat) (A : Option Addr) (n : Nat) (xs : List Value) : Prop where
  len : xs.length = n * sz
  at_ : 0 < n → ∃ b off, A = some ⟨b, off, none⟩ ∧ S b ∧ b < w.heap.size ∧ ∀ j, j < n * sz → w.cell? ⟨b, off + j, none⟩ = xs[j]?

section
variable {F S S' : Nat → Prop} {w w' : World} {sz n : Nat} {A : Option Addr} {xs : List Value}
theorem Rd.nil (w : World) (S : Nat → Prop) (sz : Nat) (A : Option Addr) : Rd w S sz A 0 [] := ⟨by simp, fun h => by omega⟩
theorem Rd.keep (h : Rd w S sz A n xs) (hk : Keep F w w') (hd : ∀ b, S b → b < w.heap.size → ¬ F b) : Rd w' S sz A n xs :=
  ⟨h.len, fun hn => by
    obtain ⟨b, off, e, hs, hb, hc⟩ := h.at_ hn
    exact ⟨b, off, e, hs, Nat.lt_of_lt_of_le hb hk.size, fun j hj => (hk.cell (p := ⟨b, off + j, none⟩) hb (hd b hs hb)).trans (hc j hj)⟩⟩
theorem Rd.mono (h : Rd w S sz A n xs) (hs : ∀ b, b < w.heap.size → S b → S' b) : Rd w S' sz A n xs :=
  ⟨h.len, fun hn => by
    obtain ⟨b, off, e, h1, hb, hc⟩ := h.at_ hn
    exact ⟨b, off, e, hs b hb h1, hb, hc⟩⟩
theorem Rd.alloc (h : Rd w S sz A n xs) (o : Obj) : Rd (w.alloc o) S sz A n xs := h.keep ((Keep.refl (fun _ => False) w).alloc o) (fun _ _ _ f => f)
theorem Rd.drew (h : Rd w S sz A n xs) : Rd w.drew S sz A n xs := ⟨h.len, h.at_⟩
theorem Rd.drewN (h : Rd w S sz A n xs) (k : Nat) : Rd (w.drewN k) S sz A n xs := ⟨h.len, h.at_⟩
theorem Rd.below (h : Rd w S sz A n xs) {B : Nat} (hk : Below B w w') (hd : ∀ b, S b → b < w.heap.size → b < B) : Rd w' S sz A n xs :=
  h.keep (Keep.of_below hk) (fun b hs hb => by have := hd b hs hb; omega)
theorem Rd.setCell (h : Rd w S sz A n xs) {p : Addr} (hp : ∀ b, S b → b < w.heap.size → b ≠ p.block) (u : Value) : Rd (w.setCell p u) S sz A n xs :=
  h.keep ((Keep.refl (fun i => i = p.block) w).setCell (fun _ => rfl) u) (fun b hs hb e => hp b hs hb e)
theorem Rd.cell (h : Rd w S sz A n xs) {b off : Nat} (hA : A = some ⟨b, off, none⟩) {j : Nat} (hj : j < n * sz) : w.cell? ⟨b, off + j, none⟩ = xs[j]? := by
  have hn : 0 < n := by rcases Nat.eq_zero_or_pos n with h0 | h0; · subst h0; omega
                        · exact h0
  obtain ⟨b', off', e, _, _, hc⟩ := h.at_ hn
  rw [hA] at e
  simp only [Option.some.injEq, Addr.mk.injEq, and_true] at e
  obtain ⟨rfl, rfl⟩ := e
  exact hc j hj
theorem Rd.of_own {base : Nat} {e : TypeId} {c : Nat} (h : w.ownsRow base e sz (.slice A n c) n xs) (hs : ∀ g, A = some ⟨g, 0, none⟩ → base ≤ g → S g) : Rd w S sz A n xs := by
  refine ⟨h.1, fun hn => ?_⟩
  obtain ⟨g, cap, hv, hb, hlt⟩ := h.form hn
  have hA : A = some ⟨g, 0, none⟩ := by injection hv
  subst hA
  exact ⟨g, 0, rfl, hs g rfl hb, hlt, fun j hj => by rw [Nat.zero_add]; exact h.cellAt j hj⟩
/-- A block that was just made. -/
theorem Rd.new (w : World) (t : TypeId) (xs : List Value) (fr : Nat × Nat) (hx : xs.length = n * sz) : Rd (w.alloc (.cells xs.toArray t fr)) (· = w.heap.size) sz (some ⟨w.heap.size, 0, none⟩) n xs :=
  ⟨hx, fun _ => ⟨w.heap.size, 0, rfl, rfl, by simp, fun j _ => by rw [Nat.zero_add, cell_of_row _ w.heap.size j _ _ _ (heap_alloc_new w _)]; simp⟩⟩
theorem Rd.new_at (w : World) (t : TypeId) (xs : List Value) (N : Nat) (hN : N = w.heap.size) (hx : xs.length = n * sz) {fr : Nat × Nat} : Rd (w.alloc (.cells xs.toArray t fr)) (· = N) sz (some ⟨N, 0, none⟩) n xs := by
  subst hN
  exact Rd.new w t xs fr hx
/-- What an owned row looks like, nil let in. -/
theorem own_form {base : Nat} {e : TypeId} {v : Value} (h : w.ownsRow base e sz v n xs) : ∃ A cap, v = .slice A n cap ∧ Rd w (fun b => base ≤ b) sz A n xs := by
  rcases h.2 with ⟨rfl, rfl⟩ | ⟨g, cap, cur, rfl, _⟩
  · exact ⟨none, 0, rfl, Rd.of_own h (fun _ _ hb => hb)⟩
  · exact ⟨_, cap, rfl, Rd.of_own h (fun _ _ hb => hb)⟩
theorem own_caps {base : Nat} {e : TypeId} {A : Option Addr} {c : Nat} (h : w.ownsRow base e sz (.slice A n c) n xs) : n ≤ c ∧ c ≤ maxLen := by
  rcases h.2 with ⟨hv, rfl⟩ | ⟨g, cap, cur, hv, _, _, hnc, hcm, _⟩
  · simp only [Value.slice.injEq] at hv
    obtain ⟨_, _, rfl⟩ := hv
    exact ⟨Nat.le_refl _, by unfold maxLen; omega⟩
  · simp only [Value.slice.injEq] at hv
    obtain ⟨_, _, rfl⟩ := hv
    exact ⟨hnc, hcm⟩
/-- A cut from k on. -/
theorem Rd.drop (h : Rd w S sz A n xs) {k : Nat} (hk : k ≤ n) {A' : Option Addr} (hA : ∀ b off, A = some ⟨b, off, none⟩ → k < n → A' = some ⟨b, off + k * sz, none⟩) :
    Rd w S sz A' (n - k) (xs.drop (k * sz)) := by
  refine ⟨by rw [List.length_drop, h.len, Nat.sub_mul], fun hn => ?_⟩
  obtain ⟨b, off, e, hs, hb, hc⟩ := h.at_ (by omega)
  refine ⟨b, off + k * sz, hA b off e (by omega), hs, hb, fun j hj => ?_⟩
  rw [List.getElem?_drop, Nat.add_assoc]
  refine hc _ ?_
  have : (n - k) * sz = n * sz - k * sz := Nat.sub_mul _ _ _
  have : k * sz ≤ n * sz := Nat.mul_le_mul_right _ hk
  omega
theorem Rd.take (h : Rd w S sz A n xs) {k : Nat} (hk : k ≤ n) : Rd w S sz A k (xs.take (k * sz)) := by
  have hl : k * sz ≤ n * sz := Nat.mul_le_mul_right _ hk
  refine ⟨by rw [List.length_take, h.len]; omega, fun hn => ?_⟩
  obtain ⟨b, off, e, hs, hb, hc⟩ := h.at_ (by omega)
  refine ⟨b, off, e, hs, hb, fun j hj => ?_⟩
  rw [List.getElem?_take, if_pos hj]
  exact hc j (by omega)
end

/-- The source's type counts for nothing but whether it is a slice. -/
theorem run_append_tx {P : Program} (w : World) (t tx ty e e2 : TypeId) (ht : P.underlying t = some (.slice e)) (htx : P.underlying tx = some (.slice e2)) (a : Option Addr) (n c : Nat) (x : Value) :
    (Builtin.append_ #[t, tx] ty #[.slice a n c, x]).run P w = (Builtin.append_ #[t, t] ty #[.slice a n c, x]).run P w := by
  simp [Builtin.append_, run_underlying ht, run_underlying htx]

/-- append onto a row of the call's own, from whatever source: the value, and where it lies. -/
theorem run_append_rd {P : Program} (w : World) (base : Nat) (t tx ty e e2 : TypeId) (z : Value) (size bytes : Nat) (ht : P.underlying t = some (.slice e)) (htx : P.underlying tx = some (.slice e2))
    (hI : (P.info? e).map (fun i => (i.zero, i.size, i.bytes)) = some (some z, size, bytes)) (hzs : z.cells.size = size) (hsz : 0 < size)
    (v : Value) (n : Nat) (xs : List Value) (hown : w.ownsRow base e size v n xs)
    (S : Nat → Prop) (A : Option Addr) (m c : Nat) (news : List Value) (hr : Rd w S size A m news) (h1 : ∀ u ∈ news, u.oneCell' = true)
    (h63 : n + m ≤ maxLen) (hbytes : (n + m) * bytes ≤ 140737488355328) (hbase : base ≤ w.heap.size) :
    ∃ v' w', (Builtin.append_ #[t, tx] ty #[v, .slice A m c]).run P w = .ok v' w' ∧ w'.ownsRow base e size v' (n + m) (xs ++ news) ∧ w.grownBy w' v.ownBlock ∧
      (v'.ownBlock = v.ownBlock ∨ v'.ownBlock = some w.heap.size) := by
  obtain ⟨A0, c0, hv0, _⟩ := own_form hown
  have htt : (Builtin.append_ #[t, tx] ty #[v, .slice A m c]).run P w = (Builtin.append_ #[t, t] ty #[v, .slice A m c]).run P w := by
    rw [hv0]; exact run_append_tx w t tx ty e e2 ht htx _ _ _ _
  rw [htt]
  obtain ⟨i, hi, hz, hs, hb⟩ := info_parts hI
  rcases A with _ | ad
  · have hm : m = 0 := by
      rcases Nat.eq_zero_or_pos m with h0 | h0
      · exact h0
      · obtain ⟨_, _, h, _⟩ := hr.at_ h0
        cases h
    subst hm
    have hn : news = [] := List.eq_nil_of_length_eq_zero (by simpa using hr.len)
    subst hn
    obtain ⟨w', hrun, hown'⟩ : ∃ w', (Builtin.append_ #[t, t] ty #[v, .slice none 0 c]).run P w = .ok v w' ∧ w' = w := by
      refine ⟨w, ?_, rfl⟩
      rcases hown.2 with ⟨hv, rfl⟩ | ⟨g, cap, cur, hv, _, _, hnc, _⟩ <;> rw [hv]
      · simp [Builtin.append_, run_underlying ht, sizeOf, typeInfo, hi, Builtin.lenOf, Builtin.firstCells]
      · simp [Builtin.append_, run_underlying ht, sizeOf, typeInfo, hi, Builtin.lenOf, Builtin.firstCells, hnc, storeCells]
    subst hown'
    exact ⟨v, w', hrun, by simpa using hown, World.grownBy.refl w' _, .inl rfl⟩
  · have hcells : ∀ j u, news[j]? = some u → w.cell? (ad.add j) = some u := by
      intro j u hu
      have hj : j < m * size := by rw [← hr.len]; exact (List.getElem?_eq_some_iff.1 hu).1
      have hm : 0 < m := by rcases Nat.eq_zero_or_pos m with h0 | h0; · subst h0; omega
                            · exact h0
      obtain ⟨b, off, e, _, _, hc⟩ := hr.at_ hm
      simp only [Option.some.injEq] at e
      subst e
      have hadd : (⟨b, off, none⟩ : Addr).add j = ⟨b, off + j, none⟩ := by unfold Addr.add; split <;> simp_all
      rw [hadd, hc j hj, hu]
    obtain ⟨v', w', hrun, h2, h3, _, h5⟩ := run_append_own_at (P := P) w base t ty e i z size bytes ht hi hz hs hb hzs hsz v n xs hown ad m c news hr.len hcells h1 h63 hbytes hbase
    exact ⟨v', w', hrun, h2, h3, h5⟩

theorem wp_append_rd {P : Program} (w : World) {o : Oper} {a : Act} {K : Act → World → Prop} {Q : Exit → Act → World → Prop} (s x : Operand) (t tx : TypeId)
    (ho : o.op = .call { callee := .builtin .append, args := #[s, x], argTypes := #[t, tx] })
    (base : Nat) (e e2 : TypeId) (z : Value) (size bytes : Nat) (ht : P.underlying t = some (.slice e)) (htx : P.underlying tx = some (.slice e2))
    (hI : (P.info? e).map (fun i => (i.zero, i.size, i.bytes)) = some (some z, size, bytes)) (hzs : z.cells.size = size) (hsz : 0 < size)
    (v : Value) (n : Nat) (xs : List Value) (hs : a.eval s = v) (hown : w.ownsRow base e size v n xs)
    (S : Nat → Prop) (A : Option Addr) (m c : Nat) (news : List Value) (hx : a.eval x = .slice A m c) (hr : Rd w S size A m news) (h1 : ∀ u ∈ news, u.oneCell' = true)
    (h63 : n + m ≤ maxLen) (hbytes : (n + m) * bytes ≤ 140737488355328) (hbase : base ≤ w.heap.size)
    (h : ∀ A' cap' w', w'.ownsRow base e size (.slice A' (n + m) cap') (n + m) (xs ++ news) → w.grownBy w' v.ownBlock → ((Value.slice A' (n + m) cap').ownBlock = v.ownBlock ∨ (Value.slice A' (n + m) cap').ownBlock = some w.heap.size) → K (a.put o.dst (.slice A' (n + m) cap')) w') :
    o.wp P a w K Q := by
  obtain ⟨v', w', hrun, h2, h3, h5⟩ := run_append_rd (P := P) w base t tx o.type e e2 z size bytes ht htx hI hzs hsz v n xs hown S A m c news hr h1 h63 hbytes hbase
  unfold Oper.wp execOp
  simp only [ho, resolve, invoke, builtin, Sem.run_bind, Sem.run_pure, Result.andThen_ok, List.map_toArray, List.map_cons, List.map_nil, hs, hx, hrun]
  obtain ⟨A', cap', rfl, _⟩ := own_form h2
  exact h A' cap' w' h2 h3 h5

theorem wpList_append_rd {P : Program} (w : World) {ops : Array Oper} {rest : List Oper} {o : Oper} {a : Act} {Q : Exit → Act → World → Prop} (hgd : o.guard = none) (s x : Operand) (t tx : TypeId)
    (ho : o.op = .call { callee := .builtin .append, args := #[s, x], argTypes := #[t, tx] })
    (base : Nat) (e e2 : TypeId) (z : Value) (size bytes : Nat) (ht : P.underlying t = some (.slice e)) (htx : P.underlying tx = some (.slice e2))
    (hI : (P.info? e).map (fun i => (i.zero, i.size, i.bytes)) = some (some z, size, bytes)) (hzs : z.cells.size = size) (hsz : 0 < size)
    (v : Value) (n : Nat) (xs : List Value) (hs : a.eval s = v) (hown : w.ownsRow base e size v n xs)
    (S : Nat → Prop) (A : Option Addr) (m c : Nat) (news : List Value) (hx : a.eval x = .slice A m c) (hr : Rd w S size A m news) (h1 : ∀ u ∈ news, u.oneCell' = true)
    (h63 : n + m ≤ maxLen) (hbytes : (n + m) * bytes ≤ 140737488355328) (hbase : base ≤ w.heap.size)
    (h : ∀ A' cap' w', w'.ownsRow base e size (.slice A' (n + m) cap') (n + m) (xs ++ news) → w.grownBy w' v.ownBlock → ((Value.slice A' (n + m) cap').ownBlock = v.ownBlock ∨ (Value.slice A' (n + m) cap').ownBlock = some w.heap.size) → wpList P ops Q rest (a.put o.dst (.slice A' (n + m) cap')) w') :
    wpList P ops Q (o :: rest) a w :=
  wpList_plain hgd fun _ hK => wp_append_rd w s x t tx ho base e e2 z size bytes ht htx hI hzs hsz v n xs hs hown S A m c news hx hr h1 h63 hbytes hbase fun A' cap' w' h2 h3 h5 => hK _ _ (h A' cap' w' h2 h3 h5)

theorem step_append_rd {P : Program} (w : World) {ops : Array Oper} {o : Oper} {a : Act} {K : Act → World → Prop} {Q : Exit → Act → World → Prop} {E : Prop} (hgd : o.guard = none) (s x : Operand) (t tx : TypeId)
    (ho : o.op = .call { callee := .builtin .append, args := #[s, x], argTypes := #[t, tx] })
    (base : Nat) (e e2 : TypeId) (z : Value) (size bytes : Nat) (ht : P.underlying t = some (.slice e)) (htx : P.underlying tx = some (.slice e2))
    (hI : (P.info? e).map (fun i => (i.zero, i.size, i.bytes)) = some (some z, size, bytes)) (hzs : z.cells.size = size) (hsz : 0 < size)
    (v : Value) (n : Nat) (xs : List Value) (hs : a.eval s = v) (hown : w.ownsRow base e size v n xs)
    (S : Nat → Prop) (A : Option Addr) (m c : Nat) (news : List Value) (hx : a.eval x = .slice A m c) (hr : Rd w S size A m news) (h1 : ∀ u ∈ news, u.oneCell' = true)
    (h63 : n + m ≤ maxLen) (hbytes : (n + m) * bytes ≤ 140737488355328) (hbase : base ≤ w.heap.size)
    (h : ∀ A' cap' w', w'.ownsRow base e size (.slice A' (n + m) cap') (n + m) (xs ++ news) → w.grownBy w' v.ownBlock → ((Value.slice A' (n + m) cap').ownBlock = v.ownBlock ∨ (Value.slice A' (n + m) cap').ownBlock = some w.heap.size) → K (a.put o.dst (.slice A' (n + m) cap')) w') :
    if Region.wanted o (yielded ops a.tmps) = true then Oper.wp P o a w K Q else E := by
  have hw : Region.wanted o (yielded ops a.tmps) = true := by simp [Region.wanted, hgd]
  rw [if_pos hw]
  exact wp_append_rd w s x t tx ho base e e2 z size bytes ht htx hI hzs hsz v n xs hs hown S A m c news hx hr h1 h63 hbytes hbase h

/-- cs laid over L from place o on. -/
def over (L : List Value) (o : Nat) (cs : List Value) : List Value := L.take o ++ (cs ++ L.drop (o + cs.length))
theorem over_length (L : List Value) (o : Nat) (cs : List Value) (h : o + cs.length ≤ L.length) : (over L o cs).length = L.length := by simp [over]; omega

theorem run_copy_sz {P : Program} (w : World) (dT sT ty elem : TypeId) (sz : Nat) (hu : P.underlying dT = some (.slice elem)) (hsz : (P.info? elem).map (·.size) = some sz) (hz : 0 < sz)
    (dp sp : Option Addr) (dLen dCap sLen sCap g o : Nat) (cur : List Value) (t : TypeId) (hg : w.heap[g]? = some (.cells cur.toArray t (0, 0))) (cs : List Value) (hn : cs.length = Nat.min sLen dLen * sz)
    (hpos : 0 < cs.length → dp = some ⟨g, o, none⟩ ∧ ∃ ad, sp = some ad ∧ ∀ j v, cs[j]? = some v → w.cell? (ad.add j) = some v)
    (hfit : o + cs.length ≤ cur.length) (h1 : ∀ v ∈ cs, v.oneCell' = true) :
    ∃ w', (Builtin.copy_ #[dT, sT] ty #[.slice dp dLen dCap, .slice sp sLen sCap]).run P w = .ok (goInt (Nat.min sLen dLen)) w' ∧ w'.heap[g]? = some (.cells (over cur o cs).toArray t (0, 0)) ∧ Keep (· = g) w w' := by
  obtain ⟨i, hq, hi⟩ : ∃ i, P.info? elem = some i ∧ i.size = sz := by
    cases hq : P.info? elem with
    | none => simp [hq] at hsz
    | some i => exact ⟨i, rfl, by simpa [hq] using hsz⟩
  by_cases h0 : cs.length = 0
  · obtain rfl : cs = [] := List.eq_nil_of_length_eq_zero h0
    have hm : Nat.min sLen dLen = 0 := by
      rcases Nat.eq_zero_or_pos (Nat.min sLen dLen) with h | h
      · exact h
      · have := Nat.mul_pos h hz; simp at hn; omega
    refine ⟨w, ?_, by simpa [over] using hg, Keep.refl _ _⟩
    cases sp <;> cases dp <;> simp [Builtin.copy_, run_underlying hu, Builtin.lenOf, Builtin.firstCells, sizeOf, typeInfo, hq, hm, loadCells, loadCellsFrom, storeCells]
  · obtain ⟨rfl, ad, rfl, hsrc⟩ := hpos (by omega)
    have hl := run_loadCells_list (P := P) w ad cs hsrc
    have hst := run_storeCells_at P g o t cs 0 cur.toArray w hg (by simpa using hfit) h1
    refine ⟨_, ?_, setRow_heap w g _ _ t _ hg, ⟨rfl, rfl, rfl, by simp [World.setRow], fun k _ hk => setRow_other w g k _ (fun e => hk e)⟩⟩
    rw [hn] at hl
    simp [Builtin.copy_, run_underlying hu, Builtin.lenOf, Builtin.firstCells, sizeOf, typeInfo, hq, hi, hl, hst, over]

theorem wp_copy_sz {P : Program} (w : World) {o : Oper} {a : Act} {K : Act → World → Prop} {Q : Exit → Act → World → Prop} (d s : Operand) (dT sT : TypeId)
    (ho : o.op = .call { callee := .builtin .copy, args := #[d, s], argTypes := #[dT, sT] }) (elem : TypeId) (sz : Nat) (hu : P.underlying dT = some (.slice elem)) (hsz : (P.info? elem).map (·.size) = some sz) (hz : 0 < sz)
    (dp sp : Option Addr) (dLen dCap sLen sCap : Nat) (hd : a.eval d = .slice dp dLen dCap) (hs : a.eval s = .slice sp sLen sCap) (g of : Nat) (cur : List Value) (t : TypeId) (hg : w.heap[g]? = some (.cells cur.toArray t (0, 0))) (cs : List Value) (n : Nat) (hnn : Nat.min sLen dLen = n) (hn : cs.length = n * sz)
    (hpos : 0 < cs.length → dp = some ⟨g, of, none⟩ ∧ ∃ ad, sp = some ad ∧ ∀ j v, cs[j]? = some v → w.cell? (ad.add j) = some v)
    (hfit : of + cs.length ≤ cur.length) (h1 : ∀ v ∈ cs, v.oneCell' = true)
    (h : ∀ w', Hid (w'.heap[g]? = some (.cells (over cur of cs).toArray t (0, 0))) → Keep (· = g) w w' → K (a.put o.dst (.int .i64 (n : Nat))) w') : o.wp P a w K Q := by
  obtain ⟨w', hrun, h2, h3⟩ := run_copy_sz (P := P) w dT sT o.type elem sz hu hsz hz dp sp dLen dCap sLen sCap g of cur t hg cs (by rw [hnn]; exact hn) hpos hfit h1
  unfold Oper.wp execOp
  simp only [ho, resolve, invoke, builtin, Sem.run_bind, Sem.run_pure, Result.andThen_ok, List.map_toArray, List.map_cons, List.map_nil, hd, hs, hrun]
  rw [hnn]
  exact h w' h2 h3

theorem wpList_copy_sz {P : Program} (w : World) {ops : Array Oper} {rest : List Oper} {o : Oper} {a : Act} {Q : Exit → Act → World → Prop} (hgd : o.guard = none) (d s : Operand) (dT sT : TypeId)
    (ho : o.op = .call { callee := .builtin .copy, args := #[d, s], argTypes := #[dT, sT] }) (elem : TypeId) (sz : Nat) (hu : P.underlying dT = some (.slice elem)) (hsz : (P.info? elem).map (·.size) = some sz) (hz : 0 < sz)
    (dp sp : Option Addr) (dLen dCap sLen sCap : Nat) (hd : a.eval d = .slice dp dLen dCap) (hs : a.eval s = .slice sp sLen sCap) (g of : Nat) (cur : List Value) (t : TypeId) (hg : w.heap[g]? = some (.cells cur.toArray t (0, 0))) (cs : List Value) (n : Nat) (hnn : Nat.min sLen dLen = n) (hn : cs.length = n * sz)
    (hpos : 0 < cs.length → dp = some ⟨g, of, none⟩ ∧ ∃ ad, sp = some ad ∧ ∀ j v, cs[j]? = some v → w.cell? (ad.add j) = some v)
    (hfit : of + cs.length ≤ cur.length) (h1 : ∀ v ∈ cs, v.oneCell' = true)
    (h : ∀ w', Hid (w'.heap[g]? = some (.cells (over cur of cs).toArray t (0, 0))) → Keep (· = g) w w' → wpList P ops Q rest (a.put o.dst (.int .i64 (n : Nat))) w') : wpList P ops Q (o :: rest) a w :=
  wpList_plain hgd fun _ hK => wp_copy_sz w d s dT sT ho elem sz hu hsz hz dp sp dLen dCap sLen sCap hd hs g of cur t hg cs n hnn hn hpos hfit h1 fun w' h2 h3 => hK _ _ (h w' h2 h3)

theorem step_copy_sz {P : Program} (w : World) {ops : Array Oper} {o : Oper} {a : Act} {K : Act → World → Prop} {Q : Exit → Act → World → Prop} {E : Prop} (hgd : o.guard = none) (d s : Operand) (dT sT : TypeId)
    (ho : o.op = .call { callee := .builtin .copy, args := #[d, s], argTypes := #[dT, sT] }) (elem : TypeId) (sz : Nat) (hu : P.underlying dT = some (.slice elem)) (hsz : (P.info? elem).map (·.size) = some sz) (hz : 0 < sz)
    (dp sp : Option Addr) (dLen dCap sLen sCap : Nat) (hd : a.eval d = .slice dp dLen dCap) (hs : a.eval s = .slice sp sLen sCap) (g of : Nat) (cur : List Value) (t : TypeId) (hg : w.heap[g]? = some (.cells cur.toArray t (0, 0))) (cs : List Value) (n : Nat) (hnn : Nat.min sLen dLen = n) (hn : cs.length = n * sz)
    (hpos : 0 < cs.length → dp = some ⟨g, of, none⟩ ∧ ∃ ad, sp = some ad ∧ ∀ j v, cs[j]? = some v → w.cell? (ad.add j) = some v)
    (hfit : of + cs.length ≤ cur.length) (h1 : ∀ v ∈ cs, v.oneCell' = true)
    (h : ∀ w', Hid (w'.heap[g]? = some (.cells (over cur of cs).toArray t (0, 0))) → Keep (· = g) w w' → K (a.put o.dst (.int .i64 (n : Nat))) w') :
    if Region.wanted o (yielded ops a.tmps) = true then Oper.wp P o a w K Q else E := by
  have hw : Region.wanted o (yielded ops a.tmps) = true := by simp [Region.wanted, hgd]
  rw [if_pos hw]
  exact wp_copy_sz w d s dT sT ho elem sz hu hsz hz dp sp dLen dCap sLen sCap hd hs g of cur t hg cs n hnn hn hpos hfit h1 h

/-- The cells of bytes. -/
def bytesV (l : List UInt8) : List Value := l.map fun c => .int .u8 c.toNat
@[simp] theorem bytesV_length (l : List UInt8) : (bytesV l).length = l.length := by simp [bytesV]
theorem bytesV_one (l : List UInt8) : ∀ u ∈ bytesV l, u.oneCell' = true := by
  intro u hu
  simp only [bytesV, List.mem_map] at hu
  obtain ⟨c, _, rfl⟩ := hu
  rfl
/-- string(b). -/
theorem run_convert_rd {P : Program} (w : World) (src dst e : TypeId) (hs : P.underlying src = some (.slice e)) (he : P.underlying e = some (.int .u8)) (hd : P.underlying dst = some .string)
    (S : Nat → Prop) (A : Option Addr) (l : List UInt8) (c : Nat) (hr : Rd w S 1 A l.length (bytesV l)) :
    (convert src dst (.slice A l.length c)).run P w = .ok (.string ⟨l.toArray⟩) w := by
  rcases A with _ | ad
  · have hn : l.length = 0 := by
      rcases Nat.eq_zero_or_pos l.length with h | h
      · exact h
      · obtain ⟨_, _, h, _⟩ := hr.at_ h
        cases h
    obtain rfl : l = [] := List.eq_nil_of_length_eq_zero hn
    exact run_convert_bytes_nil w src e hs he _ _ dst hd
  · have hl : (loadCells ad l.length).run P w = .ok ((l.map fun c => (c.toNat : Int)).map (Value.int .u8)).toArray w := by
      have := run_loadCells_list (P := P) w ad (bytesV l) (fun j v hj => by
        have hjl : j < l.length := by
          have := (List.getElem?_eq_some_iff.1 hj).1
          simpa using this
        obtain ⟨b, off, e, _, _, hc⟩ := hr.at_ (by omega)
        simp only [Option.some.injEq] at e
        subst e
        have hadd : (⟨b, off, none⟩ : Addr).add j = ⟨b, off + j, none⟩ := by unfold Addr.add; split <;> simp_all
        rw [hadd, hc j (by omega), hj])
      rw [bytesV_length] at this
      rw [this]
      simp [bytesV]
    rw [run_convert_bytes_string w src dst e _ _ c hs he hd, run_bytesToString w ad _ c _ hl, foldl_push_bytes]
    simp [ByteArray.empty, ByteArray.emptyWithCapacity, Function.comp_def]
    rfl
theorem bytesV_append (l k : List UInt8) : bytesV (l ++ k) = bytesV l ++ bytesV k := by simp [bytesV]

/-- The cells xs are those of the elements of l, one behind the other. -/
def Els {α : Type} (E : α → List Value → Prop) : List α → List Value → Prop
  | [], xs => xs = []
  | a :: l, xs => ∃ c r, xs = c ++ r ∧ E a c ∧ Els E l r

section
variable {α : Type} {E E' : α → List Value → Prop} {l k : List α} {xs ys : List Value} {sz : Nat}
theorem Els.imp (h : Els E l xs) (hi : ∀ a c, a ∈ l → E a c → E' a c) : Els E' l xs := by
  induction l generalizing xs with
  | nil => exact h
  | cons a l ih =>
    obtain ⟨c, r, rfl, ha, hr⟩ := h
    exact ⟨c, r, rfl, hi a c List.mem_cons_self ha, ih hr (fun b d hb => hi b d (List.mem_cons_of_mem _ hb))⟩
theorem Els.length (h : Els E l xs) (hE : ∀ a c, E a c → c.length = sz) : xs.length = l.length * sz := by
  induction l generalizing xs with
  | nil => rw [show xs = [] from h]; simp
  | cons a l ih =>
    obtain ⟨c, r, rfl, ha, hr⟩ := h
    rw [List.length_append, hE a c ha, ih hr, List.length_cons, Nat.add_mul, Nat.one_mul, Nat.add_comm]
theorem Els_one (hE : ∀ a c, E a c → ∀ u ∈ c, u.oneCell' = true) (h : Els E l xs) : ∀ u ∈ xs, u.oneCell' = true := by
  induction l generalizing xs with
  | nil => rw [show xs = [] from h]; simp
  | cons a l ih =>
    obtain ⟨c, r, rfl, ha, hr⟩ := h
    intro u hu
    rcases List.mem_append.1 hu with hu | hu
    · exact hE a c ha u hu
    · exact ih hr u hu
theorem Els.append (h : Els E l xs) (h' : Els E k ys) : Els E (l ++ k) (xs ++ ys) := by
  induction l generalizing xs with
  | nil => rw [show xs = [] from h]; exact h'
  | cons a l ih =>
    obtain ⟨c, r, rfl, ha, hr⟩ := h
    exact ⟨c, r ++ ys, by rw [List.append_assoc], ha, ih hr⟩
theorem Els.one {a : α} {c : List Value} (h : E a c) : Els E [a] c := ⟨c, [], by simp, h, rfl⟩
theorem Els.get (h : Els E l xs) (hE : ∀ a c, E a c → c.length = sz) {i : Nat} (hi : i < l.length) : ∃ c, E l[i] c ∧ c.length = sz ∧ ∀ j, j < sz → xs[i * sz + j]? = c[j]? := by
  induction l generalizing xs i with
  | nil => simp at hi
  | cons a l ih =>
    obtain ⟨c, r, rfl, ha, hr⟩ := h
    rcases i with _ | i
    · refine ⟨c, ha, hE a c ha, fun j hj => ?_⟩
      rw [Nat.zero_mul, Nat.zero_add, List.getElem?_append_left (by rw [hE a c ha]; exact hj)]
    · obtain ⟨d, hd, hl, hx⟩ := ih hr (i := i) (by simpa using hi)
      refine ⟨d, hd, hl, fun j hj => ?_⟩
      rw [List.getElem?_append_right (by rw [hE a c ha, Nat.add_mul]; omega), hE a c ha, ← hx j hj]
      congr 1
      rw [Nat.add_mul]; omega
theorem Els.drop (h : Els E l xs) (hE : ∀ a c, E a c → c.length = sz) (i : Nat) : Els E (l.drop i) (xs.drop (i * sz)) := by
  induction i generalizing l xs with
  | zero => simpa using h
  | succ i ih =>
    rcases l with _ | ⟨a, l⟩
    · rw [show xs = [] from h]; simp [Els]
    · obtain ⟨c, r, rfl, ha, hr⟩ := h
      have := ih hr
      rw [List.drop_succ_cons, show (i + 1) * sz = c.length + i * sz by rw [hE a c ha, Nat.add_mul]; omega, ← List.drop_drop, List.drop_left]
      exact this
theorem Els.take (h : Els E l xs) (hE : ∀ a c, E a c → c.length = sz) (i : Nat) : Els E (l.take i) (xs.take (i * sz)) := by
  induction i generalizing l xs with
  | zero => simp [Els]
  | succ i ih =>
    rcases l with _ | ⟨a, l⟩
    · rw [show xs = [] from h]; simp [Els]
    · obtain ⟨c, r, rfl, ha, hr⟩ := h
      refine ⟨c, r.take (i * sz), ?_, ha, ih hr⟩
      rw [show (i + 1) * sz = c.length + i * sz by rw [hE a c ha, Nat.add_mul]; omega, List.take_append, List.take_of_length_le (by omega)]
      simp
end
end Go.Cof
