/- msg: what read reads, in plain lists; a block of one's own beside a reader. -/
import Derived.Test.YtahhglhebcooaaaGreatDoorMs6
namespace Go.Proofs.YtahhglhebcooaaaGreatDoor
open Go.RowKit Go.Cof Go.Tol

theorem keep_setCells {F : Nat → Prop} {g : Nat} (hg : F g) : ∀ (cs : List Value) (o : Nat) {w w' : World}, Keep F w w' → Keep F w (w'.setCells g o cs)
  | [], _, _, _, h => h
  | v :: cs, o, w, w', h => by
    rw [World.setCells]
    exact keep_setCells hg cs (o + 1) (h.setCell (fun _ => hg) v)
/-- A part of a known block stored. -/
theorem wpList_store_over {P : Program} {ops : Array Oper} {rest : List Oper} {op : Oper} {a : Act} {w : World} {Q : Exit → Act → World → Prop} (hgd : op.guard = none) (ty : TypeId) (x y : Operand) (ho : op.op = .store ty x y)
    (g o : Nat) (cur cs : List Value) (t : TypeId) (hg : w.heap[g]? = some (.cells cur.toArray t (0, 0))) (hx : a.eval x = .pointer (some ⟨g, o, none⟩)) (hy : a.eval y = .agg cs.toArray) (hl : o + cs.length ≤ cur.length)
    (hi : (P.info? ty).map (·.size) = some cs.length) (h1 : ∀ v ∈ cs, v.oneCell' = true)
    (h : ∀ w', Hid (w'.heap[g]? = some (.cells (over cur o cs).toArray t (0, 0))) → Keep (· = g) w w' → wpList P ops Q rest (a.put op.dst undef) w') : wpList P ops Q (op :: rest) a w := by
  refine wpList_store_mid hgd ty x y ho g o cs.toArray hx hy (fun j hj => ?_) (by simpa using hi) (all_oneCell_toArray h1) ?_
  · have hj2 : j < cs.length := by simpa using hj
    refine ⟨?_, ?_⟩
    · rw [blk_cell hg, List.getElem?_eq_getElem (by omega)]; rfl
    · exact frozen_of_row _ _ _ _ _ hg
  · exact h _ (hide (heap_sets g t cs cur o w hg hl)) (keep_setCells (F := fun i => i = g) rfl cs o (Keep.refl _ _))
theorem results_row_tmp2 {P : Program} {fn : Func} {p u v : Tmp} {ty : TypeId} (h : fn.results = #[.cell p ty, .tmp u, .tmp v]) (tmps : Array Value) (w : World) (g : Nat)
    {cs : Array Value} {t : TypeId} {fr : Nat × Nat} {d : TypeDesc} (hp : tmps.getD p undef = .pointer (some ⟨g, 0, none⟩)) (hg : w.heap[g]? = some (.cells cs t fr))
    (hu : P.underlying ty = some d) (hd : (match d with | .struct _ | .array _ _ => true | _ => false) = true) (hi : (P.info? ty).map (·.size) = some cs.size) :
    (results fn tmps).run P w = .ok (.tuple #[.agg cs, tmps.getD u undef, tmps.getD v undef]) w := by
  have h1 : (results fn tmps).run P w = ((asAddr (tmps.getD p undef)).run P w).andThen fun a w₁ => ((loadVar ty a).run P w₁).andThen fun z w₂ => .ok (.tuple #[z, tmps.getD u undef, tmps.getD v undef]) w₂ := by
    simp only [results, h]
    simp [Sem.run_bind, Result.andThen]
  rw [h1, hp]
  simp only [asAddr, Sem.run_pure, Result.andThen_ok, run_loadVar_row w g t ty cs fr d hg hu hd hi]

/-- The faults that a reader knows. -/
def OkB (b : Nat) : Prop := b = 0 ∨ b = 3 ∨ b = 10
theorem okB_take {s : Rs} (h : OkB s.2) (n : Int) : OkB (takeR n s).2.2 := by
  unfold takeR
  split
  · exact h
  · split <;> simp [OkB]
theorem okB_num {s : Rs} (h : OkB s.2) (n : Int) : OkB (numR n s).2.2 := okB_take h _
theorem okB_name {s : Rs} (h : OkB s.2) : OkB (nameR s).2.2 := okB_take h _
theorem okB_sized {s : Rs} (h : OkB s.2) : OkB (sizedR s).2.2 := by
  unfold sizedR
  split
  · exact .inr (.inl rfl)
  · exact okB_take (okB_num h 4) _
theorem numR_lt (n : Nat) (s : Rs) (hn : n ≤ 8) : (numR n s).1 < 256 ^ n := by
  have h1 := takeR_short (min (n : Int) 8) s (by omega)
  have h2 := beV_lt (takeR (min (n : Int) 8) s).1
  refine Nat.lt_of_lt_of_le h2 (Nat.pow_le_pow_right (by decide) (by omega))
theorem nameR_length (s : Rs) : (nameR s).1.length = 16 := pad16_length _ (by have := takeR_short 16 s (by decide); omega)
/-- Names read, as long as nothing is wrong. -/
def manyN : Nat → Rs → List (List UInt8) × Rs
  | 0, s => ([], s)
  | n + 1, s => if s.2 ≠ 0 then ([], s) else ((nameR s).1 :: (manyN n (nameR s).2).1, (manyN n (nameR s).2).2)
theorem manyN_step (n : Nat) (s : Rs) (h : s.2 = 0) : manyN (n + 1) s = ((nameR s).1 :: (manyN n (nameR s).2).1, (manyN n (nameR s).2).2) := by
  conv => lhs; unfold manyN
  rw [if_neg (by simp [h])]
theorem manyN_over (n : Nat) (s : Rs) (h : n = 0 ∨ s.2 ≠ 0) : manyN n s = ([], s) := by
  rcases n with _ | n
  · rfl
  · unfold manyN
    rw [if_pos (by rcases h with h | h; · omega
                   · exact h)]
theorem manyN_16 (n : Nat) : ∀ s, ∀ x ∈ (manyN n s).1, x.length = 16 := by
  induction n with
  | zero => intro s x hx; simp [manyN] at hx
  | succ n ih =>
    intro s x hx
    unfold manyN at hx
    split at hx
    · simp at hx
    · rcases List.mem_cons.1 hx with rfl | h
      · exact nameR_length s
      · exact ih _ _ h
theorem manyN_le (n : Nat) : ∀ s, (manyN n s).1.length ≤ n := by
  induction n with
  | zero => intro s; simp [manyN]
  | succ n ih =>
    intro s
    unfold manyN
    split
    · simp
    · have := ih (nameR s).2; simp; omega
/-- What read reads. -/
def readN (l : List UInt8) : ReqA :=
  let c := numR 1 (l, 0)
  let i := numR 8 c.2
  let k := numR 1 i.2
  let nm := nameR k.2
  let g := numR 8 nm.2
  let n := numR 2 g.2
  let ns := manyN n.1 n.2
  ⟨c.1, i.1, k.1, nm.1, g.1, ns.1, (sizedR ns.2).1⟩

/-- A reader, and a block of one's own beside it. -/
structure RSt (w0 w : World) (N M rb : Nat) (s : Rs) (cur : List Value) : Prop where
  rdr : RdrIn w (fun i => N < i ∧ i < M) rb s.1 s.2
  core : w.heap[N]? = some (.cells cur.toArray 83 (0, 0))
  bel : Below N w0 w
  big : M ≤ w.heap.size
theorem RSt.rb {w0 w : World} {N M rb : Nat} {s : Rs} {cur : List Value} (h : RSt w0 w N M rb s cur) : N < rb ∧ rb < M := by
  obtain ⟨_, _, h1⟩ := h.rdr
  exact h1.low
theorem RSt.step {w0 w w' : World} {N M rb : Nat} {s s2 : Rs} {cur : List Value} (h : RSt w0 w N M rb s cur) (hN : N = w0.heap.size) (hr : RdrIn w' (fun i => N < i ∧ i < M) rb s2.1 s2.2) (hk : Keep (· = rb) w w') : RSt w0 w' N M rb s2 cur :=
  ⟨hr, (hk.block N (blk_lt h.core) (fun e => by have := h.rb; have : N = rb := e; omega)).trans h.core,
    h.bel.trans (hk.below (by have := h.bel.size; omega) (fun i e => by have := h.rb; have : i = rb := e; omega)), Nat.le_trans h.big hk.size⟩
theorem RSt.set {w0 w w' : World} {N M rb : Nat} {s : Rs} {cur cur2 : List Value} (h : RSt w0 w N M rb s cur) (hN : N = w0.heap.size) (hr : w'.heap[N]? = some (.cells cur2.toArray 83 (0, 0))) (hk : Keep (· = N) w w') : RSt w0 w' N M rb s cur2 := by
  obtain ⟨A, c, h1⟩ := h.rdr
  exact ⟨⟨A, c, h1.keep hk (fun i hi _ e => by have := hi.1; have : i = N := e; omega)⟩, hr,
    h.bel.trans (hk.below (by have := h.bel.size; omega) (fun i e => by have : i = N := e; omega)), Nat.le_trans h.big hk.size⟩
/-- Memory elsewhere made or written. -/
theorem RSt.far {w0 w w' : World} {N M rb : Nat} {s : Rs} {cur : List Value} (h : RSt w0 w N M rb s cur) (hN : N = w0.heap.size) (hk : Keep (fun i => M ≤ i) w w') (hNM : N < M) : RSt w0 w' N M rb s cur := by
  obtain ⟨A, c, h1⟩ := h.rdr
  exact ⟨⟨A, c, h1.keep hk (fun i hi _ e => by have := hi.2; have : M ≤ i := e; omega)⟩,
    (hk.block N (blk_lt h.core) (fun e => by have : M ≤ N := e; omega)).trans h.core,
    h.bel.trans (hk.below (by have := h.bel.size; omega) (fun i e => by have : M ≤ i := e; omega)), Nat.le_trans h.big hk.size⟩
end Go.Proofs.YtahhglhebcooaaaGreatDoor
