/- A reference that is put is found, and no other one is another; one that is taken out is not; and a body that may be is one still: ManifestRefs returns true for every body, name and id. No conditions. -/
import Derived.Test.YtimfmbcihopaaaaGreatDoorOpenM
import Derived.Test.YtimfmbcihopaaaaGreatDoorRefM
import Derived.Test.YtimfmbcihopaaaaGreatDoorTie
import Derived.Test.YtimfmbcihopaaaaGreatDoorCards
import Derived.ProofKit
import Derived.OpenShut
import Derived.LaidMore
import Derived.Lay
import Derived.SevenTiedAt
import Derived.Stop.Joined
import Derived.ChangeOld
import Derived.Shelf.Vars
namespace Go.Proofs.YtimfmbcihopaaaaGreatDoor
open Go.ChangeShapes Go.WideShapes Go.ChangeAt Go.RowKit Go.Cof

theorem Tryz.own : ownKnob Tryz.prog.godebug = none := by kernel_rfl
theorem Tryz.laidOut : laidOutB Tryz.prog = true := by kernel_rfl
/-- What the rows list. -/
def laid2 : List (String × DataW Unit) := Rows.manifestRefsRow.laid

/-- The wrap, with the world's shape and what the row lists. -/
theorem wrap_laid {H : Type} {enc : TypeId × Value → H} {f : FuncId} {fn : Func} {C : Checked} {os : Os} {s : ChangeSpec} {conds : List PathCond} {apart fresh handsOn again : Bool} {X : World → Array Value → Prop}
    (own : ownKnob C.prog.godebug = none) (started : os.Started) (noInit : C.prog.inits.idxOf? f = none) (hfn : C.prog.funcs[f]? = some fn)
    (witness : ∃ (w : World) (tape : Tape) (i : Input), w.os = os ∧ (w.forCall tape i).Shaped C.prog ∧ i.vars = [] ∧ Input.okWide C.prog (w.forCall tape i) .any w.heap.size f i ∧
      ((s.pre enc C.prog fn conds apart (w.forCall tape i).memory i.args ∧ X (w.forCall tape i).memory i.args) ∧ sizedMet enc C.prog fn (OpenSpec.ofChange s) apart (w.forCall tape i).memory i.args) ∧ ({} : Assume).holds C.prog (lone (Frame.enter C.prog f i.args .normal) [] (w.forCall tape i)))
    (contract : ∀ (W : World) (base : Nat) (args : Array Value) (ds gs : List (DataW H)) (before : List MemPlace),
      (∀ (j : Nat) t v, fn.params[j]? = some t → args[j]? = some v → Value.okWide C.prog W .any base t v) →
      DataW.Whole enc C.prog fn.params.toList s.vars apart W args.toList ds gs before →
      (DataW.weightsEach C.prog (fn.params.toList ++ s.plain.varTypes C.prog) (ds ++ gs)).all (· ≤ reachBytes) = true →
      W.ShapedOpen C.prog →
      Calls C.prog f args W fun e W' => ∃ v, e = .returned v ∧ s.post enc C.prog fn apart fresh handsOn again W args v W') :
    ReturnsInHanded {} C os f .any (fun w args => (s.pre enc C.prog fn conds apart w args ∧ X w args) ∧ sizedMet enc C.prog fn (OpenSpec.ofChange s) apart w args) (s.post enc C.prog fn apart fresh handsOn again) := by
  refine returnsInHanded_of_calls own started noInit witness ?_
  intro w tape i _ hsh _ hok hpre _
  obtain ⟨_, _, _, fn', hfn', _, _, _, _, hval⟩ := hok
  have e : fn' = fn := Option.some.inj (hfn'.symm.trans hfn)
  subst e
  obtain ⟨⟨⟨ds, gs, before, hw, _⟩, _⟩, hz⟩ := hpre
  have hw' := DataW.Whole.of_heap (w' := w.forCall tape i) (by rfl) hw
  refine (contract (w.forCall tape i) w.heap.size i.args ds gs before hval hw' (hz.weights hw) hsh).mono fun e W' ⟨v, he, hp⟩ => ?_
  subst he
  exact ChangeSpec.post_blind hp

theorem refs_any (T : Nat → Prop) (b : BodyA) (v : Value) (x : List UInt8) (id : Bv 32) (m : Int) (w : World) (h : BodyC w T b v) (hm : w.cell? ⟨0, 0, none⟩ = some (.int .i64 m)) (hxl : x.length ≤ 140737488351232) :
    Calls Tryz.prog 4 #[v, .string ⟨x.toArray⟩, .agg (encB id).toArray] w fun e w' => e = .returned (.bool true) ∧ Below w.heap.size w w' := by
  by_cases hc : fewB b = true ∧ x.length ≤ 200 ∧ codeB b = 0
  · obtain ⟨h1, h2, h3⟩ := hc
    refine refs_main T b v x id m w h hm h1 h2 ?_
    rcases hk : okB b with _ | _
    · rw [codeB, hk] at h3; cases h3
    · rfl
  · exact refs_early T b v x id m w h hm hxl hc

set_option maxRecDepth 100000 in
theorem refs_lifted (os : Os) (started : os.Started) (H : Type) (enc : TypeId × Value → H) :
    ReturnsInHanded {} Tryz.checked os 4 .any (fun w args => (Rows.manifestRefsSpec.pre enc Tryz.prog Tryz.f4 Rows.manifestRefsRow.domain false w args ∧ laidMetH Tryz.prog laid2 w) ∧ sizedMet enc Tryz.prog Tryz.f4 (OpenSpec.ofChange Rows.manifestRefsSpec) false w args)
      (Rows.manifestRefsSpec.post enc Tryz.prog Tryz.f4 false true false false) := by
  refine wrap_laid (C := Tryz.checked) (X := fun w _ => laidMetH Tryz.prog laid2 w) Tryz.own started (by kernel_rfl) Tryz.func4
    (ChangeSpec.witness_shaped (enc := enc) (C := Tryz.checked) (os := os) (X := fun w _ => laidMetH Tryz.prog laid2 w) false (World.laidAll Tryz.prog os laid2) #[.agg #[.int .u64 0, .int .u64 0, .int .i64 0, .int .u64 0, .slice none 0 0, .slice none 0 0], .string ⟨#[]⟩, .agg (Array.replicate 32 (.int .u8 0))] 8 (World.laidAll_os _ _ _)
      (World.shaped_of_ZipB (by kernel_rfl) (by kernel_rfl)) (by kernel_rfl) (by kernel_rfl) (by kernel_rfl)
      (by rw [MakeChecks.laidMetH_plain _ _ _ (by kernel_rfl)]; exact laidMet_laidAll _ (by kernel_rfl) (by kernel_rfl))) ?_
  intro W base args ds gs before hval0 hW hsz0 hsh
  have hsz : (DataW.weightsEach Tryz.prog (Tryz.f4.params.toList ++ Rows.manifestRefsSpec.plain.varTypes Tryz.prog) (ds ++ gs)).all (· ≤ reachBytes) = true := hsz0
  have hval : ∀ (j : Nat) t v, Tryz.f4.params[j]? = some t → args[j]? = some v → Value.okWide Tryz.prog W .any base t v := hval0
  have hW' := hW
  obtain ⟨p, q, hA0, hV, rfl, hfz, hnd⟩ := hW
  have hA : DataW.TrodAll enc Tryz.prog W 0 (fun _ => true) true Tryz.f4.params.toList args.toList ds p := hA0
  rw [Tryz.params4] at hA hval hsz
  obtain ⟨v0, vs0, d0, ds0, p0, q0, hargs, rfl, rfl, h0, r0⟩ := trodAll_cons hA
  obtain ⟨v1, vs1, d1, ds1, p1, q1, rfl, rfl, rfl, h1, r1⟩ := trodAll_cons r0
  obtain ⟨v2, vs2, d2, ds2, p2, q2, rfl, rfl, rfl, h2, r2⟩ := trodAll_cons r1
  obtain ⟨rfl, rfl, rfl⟩ := trodAll_nil r2
  obtain rfl : args = #[v0, v1, v2] := by cases args; simp_all
  obtain ⟨rfl, rfl⟩ := trodVars_none hV
  have k0 := h0
  have k1 := h1
  have k2 := h2
  have lt0 : ∀ x ∈ p0, x.block < W.heap.size := by obtain ⟨m, hm⟩ := k0; exact DataW.trod_lt m _ _ _ hm
  have lt1 : ∀ x ∈ p1, x.block < W.heap.size := by obtain ⟨m, hm⟩ := k1; exact DataW.trod_lt m _ _ _ hm
  have lt2 : ∀ x ∈ p2, x.block < W.heap.size := by obtain ⟨m, hm⟩ := k2; exact DataW.trod_lt m _ _ _ hm
  obtain ⟨m, hm⟩ := cell_of_shapedOpen_int (P := Tryz.prog) (g := 0) (t := 3) (zero := #[.int .i64 0]) hsh (of_decide_eq_true (by kernel_rfl)) (by kernel_rfl) rfl (by kernel_rfl) (by kernel_rfl) Tryz.underlying3
  obtain ⟨cs0, rfl, _, _⟩ : ∃ cs, v0 = .agg cs ∧ cs.size = Tryz.prog.cellsOf 26 ∧ Row.okWide Tryz.prog W .any base 26 cs := by
    have := hval 0 26 v0 rfl rfl
    simp only [Value.okWide, Tryz.underlying26] at this
    exact this
  obtain ⟨s1, rfl⟩ : ∃ s, v1 = .string s := okWide_string Tryz.underlying9 (hval 1 9 v1 rfl rfl)
  obtain ⟨cs2, rfl, _, _⟩ : ∃ cs, v2 = .agg cs ∧ cs.size = Tryz.prog.cellsOf 49 ∧ Row.okWide Tryz.prog W .any base 49 cs := by
    have := hval 2 49 v2 rfl rfl
    simp only [Value.okWide, Tryz.underlying49] at this
    exact this
  obtain ⟨f0, hf0⟩ := h0
  obtain ⟨f1, hf1⟩ := h1
  obtain ⟨f2, hf2⟩ := h2
  obtain ⟨b, hb, hn⟩ := opens_body W H enc _ _ _ _ _ _ hf0 (by
    rw [List.all_eq_true]
    intro k hk
    exact List.all_eq_true.1 hsz k (DataW.weights_mem_each (j := 0) (t := 26) rfl rfl k hk))
  obtain ⟨s, e1, hsl⟩ := opens_string (w := W) Tryz.underlying9 H enc _ _ _ _ _ _ hf1 (by
    rw [List.all_eq_true]
    intro k hk
    exact List.all_eq_true.1 hsz k (DataW.weights_mem_each (j := 1) (t := 9) rfl rfl k hk))
  simp [Value.cells] at e1
  subst e1
  obtain ⟨id, e2⟩ := opens_id W H enc _ _ _ _ _ _ hf2 (by
    rw [List.all_eq_true]
    intro k hk
    exact List.all_eq_true.1 hsz k (DataW.weights_mem_each (j := 2) (t := 49) rfl rfl k hk))
  have e2c : cs2 = (encB id).toArray := by
    have h9 : cs2.toList = encB id := by simpa [Value.cells] using e2
    rw [← h9]
  subst e2c
  have hb2 : BodyC W (fun i => i < W.heap.size) b (.agg cs0) := by simpa [Value.cells] using hb
  have hse : s1 = ⟨s1.data.toList.toArray⟩ := by cases s1; simp
  have hxl : s1.data.toList.length ≤ 140737488351232 := by rw [Array.length_toList]; exact hsl
  clear hA0 hval0
  rw [hse]
  refine (refs_any _ b _ s1.data.toList id m W hb2 hm hxl).mono fun e W' ⟨he, bel⟩ => ?_
  subst he
  rw [← hse]
  exact ⟨_, rfl, _, _, _, [], _, [], hW', trodAll_mk1 (shut_bool Tryz.underlying4 _), (trodAll_cons_mk (Below.trod Tryz.laidOut (by kernel_rfl) (of_decide_eq_true (by kernel_rfl)) k0 bel lt0) (trodAll_cons_mk (Below.trod Tryz.laidOut (by kernel_rfl) (of_decide_eq_true (by kernel_rfl)) k1 bel lt1) (trodAll_cons_mk (Below.trod Tryz.laidOut (by kernel_rfl) (of_decide_eq_true (by kernel_rfl)) k2 bel lt2) trodAll_mk0))), rfl, bel.frame _, fun h => by cases h⟩

theorem refs_holds : Rows.ManifestRefsSaid :=
  OpenClaim.holds_of_wide 4 Tryz.f4 rfl rfl rfl rfl rfl rfl rfl ⟨rfl, rfl, rfl, rfl, rfl⟩ rfl rfl rfl rfl rfl (by kernel_rfl) Tryz.func4 (by kernel_rfl)
    (of_decide_eq_true (by kernel_rfl)) (by unfold Func.isWrapper; rw [if_neg (of_decide_eq_false (by kernel_rfl))]; exact ⟨rfl, rfl⟩)
    (fun os started H enc _ => refs_lifted os started H enc)

theorem refs_card : Rows.ManifestRefsCardSaid :=
  Claim7.holds_tied_plain_at .later [] [.data, .pinned] true (true, "56e57a02b69a4ff3cd92f26c068c14ad0adc8a7b96e562623b7be8b63dde9d51") true refs_holds (fun _ h => by cases h) (by kernel_rfl) (fun _ h => by cases h) manifestRefs_row_tie rfl ⟨rfl, rfl⟩ (by kernel_rfl) rfl
    (fun f fn hf hfn => by
      obtain rfl : f = 4 := Option.some.inj ((show Tryz.prog.funcNamed Rows.manifestRefsRow.func = some 4 by kernel_rfl).symm.trans hf) |>.symm
      obtain rfl : fn = Tryz.f4 := (Option.some.inj (Tryz.func4.symm.trans hfn)).symm
      exact ⟨by kernel_rfl, fun j t ht => by
        rw [Tryz.params4] at ht
        have hm : t ∈ [26, 9, 49] := by simpa using Array.mem_of_getElem? ht
        have hall : ([26, 9, 49].all fun u => !Tryz.prog.wantsStandIn u) = true := by kernel_rfl
        exact (show Tryz.prog.wantsStandIn t = false by simpa using List.all_eq_true.1 hall t hm)⟩)
    (by kernel_rfl)
#print axioms refs_holds
#print axioms refs_card
end Go.Proofs.YtimfmbcihopaaaaGreatDoor
