/- 17.Check. -/
import Derived.Test.YtimfmbcihopaaaaGreatDoorMapX
namespace Go.Proofs.YtimfmbcihopaaaaGreatDoor
open Go.RowKit Go.Cof

/-- A body of the document's: texts of any length. -/
structure BlobD where
  name : List UInt8
  sum : List UInt8
  deriving DecidableEq
structure PackD where
  key : List UInt8
  count : Int
  blobs : List BlobD
  deriving DecidableEq
structure RefD where
  name : List UInt8
  id : List UInt8
  deriving DecidableEq
structure BodyD where
  gen : Nat
  epoch : Nat
  writer : Int
  stamp : Nat
  refs : List RefD
  packs : List PackD
  deriving DecidableEq
def packOkD (p : PackD) : Bool := decide (0 ≤ p.count ∧ p.count ≤ 256 ∧ 0 < p.blobs.length ∧ p.blobs.length ≤ 48)
def blobsOfD (l : List PackD) : List BlobD := l.flatMap (·.blobs)
def namesOfD (l : List PackD) : List (List UInt8) := (blobsOfD l).map (·.name)
theorem namesD_next (l : List PackD) (k : Nat) (h : k < l.length) : namesOfD (l.take (k + 1)) = namesOfD (l.take k) ++ (l[k].blobs).map (·.name) := by
  rw [namesOfD, blobsOfD, List.take_succ_eq_append_getElem h, List.flatMap_append, List.map_append]
  simp [namesOfD, blobsOfD]
theorem namesD_few (l : List PackD) (h : ∀ p ∈ l, p.blobs.length ≤ 48) : (namesOfD l).length ≤ 48 * l.length := by
  induction l with
  | nil => simp [namesOfD, blobsOfD]
  | cons p l ih =>
    have h1 := ih (fun q hq => h q (List.mem_cons_of_mem _ hq))
    have h2 := h p List.mem_cons_self
    simp only [namesOfD, blobsOfD, List.flatMap_cons, List.map_append, List.length_append, List.length_map, List.length_cons] at h1 ⊢
    omega
def nameAtD (l : List RefD) (i : Nat) : List UInt8 := (l[i]?.map (·.name)).getD []
theorem nameAtD_of (l : List RefD) (i : Nat) (h : i < l.length) : nameAtD l i = l[i].name := by simp [nameAtD, List.getElem?_eq_getElem h]
def refOkD (l : List RefD) (i : Nat) : Bool := kindL (nameAtD l i) != 0 && (i == 0 || lessL (nameAtD l (i - 1)) (nameAtD l i))
def refsOkD (l : List RefD) : Bool := (List.range l.length).all (refOkD l)
theorem refsOkD_iff (l : List RefD) : refsOkD l = true ↔ ∀ i, i < l.length → refOkD l i = true := by simp [refsOkD]
/-- May a body of the document's be? -/
def okD (b : BodyD) : Bool := decide (1 ≤ b.writer ∧ b.writer ≤ 255 ∧ b.refs.length ≤ 8 ∧ b.packs.length ≤ 12) && (refsOkD b.refs && (b.packs.all packOkD && (decide ((namesOfD b.packs).length ≤ 48) && decide (namesOfD b.packs).Nodup)))
def codeD (b : BodyD) : Nat := if okD b then 0 else 2
theorem codeD_bad1 (b : BodyD) (h : ¬ (1 ≤ b.writer ∧ b.writer ≤ 255 ∧ b.refs.length ≤ 8 ∧ b.packs.length ≤ 12)) : codeD b = 2 := by
  simp only [codeD, okD, decide_eq_false h, Bool.false_and]; rfl
theorem codeD_bad2 (b : BodyD) (k : Nat) (hk : k < b.refs.length) (h : refOkD b.refs k = false) : codeD b = 2 := by
  have : refsOkD b.refs = false := by
    rw [Bool.eq_false_iff]
    intro h2
    rw [(refsOkD_iff _).1 h2 k hk] at h
    cases h
  simp only [codeD, okD, this, Bool.false_and, Bool.and_false]; rfl
/-- A body, as the document's. -/
def BlobA.toD (x : BlobA) : BlobD := ⟨x.name.toList, x.sum.toList⟩
def PackA.toD (p : PackA) : PackD := ⟨p.key.toList, p.count, p.blobs.map BlobA.toD⟩
def RefA.toD (r : RefA) : RefD := ⟨r.name, r.id.toList⟩
def BodyA.toD (b : BodyA) : BodyD := ⟨b.gen, b.epoch, b.writer, b.stamp, b.refs.map RefA.toD, b.packs.map PackA.toD⟩
theorem nodup_map {α β : Type} (f : α → β) (hf : ∀ a b, f a = f b → a = b) (l : List α) : (l.map f).Nodup ↔ l.Nodup := by
  induction l with
  | nil => simp
  | cons a l ih =>
    rw [List.map_cons, List.nodup_cons, List.nodup_cons, ih, List.mem_map]
    constructor
    · rintro ⟨h1, h2⟩; exact ⟨fun h => h1 ⟨a, h, rfl⟩, h2⟩
    · rintro ⟨h1, h2⟩
      refine ⟨?_, h2⟩
      rintro ⟨b, hb, e⟩
      rw [hf _ _ e] at hb
      exact h1 hb
theorem names_toD (l : List PackA) : namesOfD (l.map PackA.toD) = (namesOf l).map (·.toList) := by
  induction l with
  | nil => rfl
  | cons p l ih =>
    simp only [namesOfD, blobsOfD, namesOf, blobsOf, List.map_cons, List.flatMap_cons, List.map_append] at ih ⊢
    rw [ih]
    congr 1
    simp [PackA.toD, BlobA.toD, Function.comp_def]
theorem ok_toD (b : BodyA) : okD b.toD = okB b := by
  have h1 : refsOkD (b.refs.map RefA.toD) = refsOk b.refs := by
    have h0 : ∀ i, nameAtD (b.refs.map RefA.toD) i = nameAt b.refs i := fun i => by
      simp only [nameAtD, nameAt, List.getElem?_map, Option.map_map]
      rfl
    simp only [refsOkD, refsOk, List.length_map]
    congr 1
    funext i
    simp only [refOkD, refOkAt, h0]
  have h2 : (b.packs.map PackA.toD).all packOkD = b.packs.all packOk := by
    rw [List.all_map]
    congr 1
    funext p
    simp [packOkD, packOk, PackA.toD]
  have h3 : (namesOfD (b.packs.map PackA.toD)).Nodup ↔ (namesOf b.packs).Nodup := by
    rw [names_toD]
    exact nodup_map _ (fun a b h => Vector.toList_inj.1 h) _
  have h4 : (namesOfD (b.packs.map PackA.toD)).length = (namesOf b.packs).length := by rw [names_toD, List.length_map]
  simp only [okD, okB, BodyA.toD, h1, h2, h3, h4, List.length_map]
theorem code_toD (b : BodyA) : codeD b.toD = codeB b := by rw [codeD, codeB, ok_toD]

/-- The document's cells of a reference, of a blob, of a pack; its body. -/
def DRefC (r : RefD) (cs : List Value) : Prop := cs = [strV r.name, strV r.id]
def DBlobC (x : BlobD) (cs : List Value) : Prop := cs = [strV x.name, strV x.sum]
def DPackC (w : World) (S : Nat → Prop) (p : PackD) (cs : List Value) : Prop :=
  ∃ A cap xs, cs = [strV p.key, .int .i64 p.count, .slice A p.blobs.length cap] ∧ Rd w S 2 A p.blobs.length xs ∧ Els DBlobC p.blobs xs ∧ p.blobs.length ≤ 1000 ∧ (-9223372036854775808 ≤ p.count ∧ p.count ≤ 9223372036854775807)
theorem DRefC.len (x : RefD) (cs : List Value) (h : DRefC x cs) : cs.length = 2 := by rw [h]; rfl
theorem DBlobC.len (x : BlobD) (cs : List Value) (h : DBlobC x cs) : cs.length = 2 := by rw [h]; rfl
section
variable {w w' : World} {S S' F : Nat → Prop}
theorem DPackC.len (x : PackD) (cs : List Value) (h : DPackC w S x cs) : cs.length = 3 := by obtain ⟨A, cap, xs, rfl, _⟩ := h; rfl
theorem DPackC.keep (hk : Keep F w w') (hd : ∀ b, S b → b < w.heap.size → ¬ F b) (p : PackD) (c : List Value) (h : DPackC w S p c) : DPackC w' S p c := by
  obtain ⟨A, cap, xs, rfl, hr, h2⟩ := h
  exact ⟨A, cap, xs, rfl, hr.keep hk hd, h2⟩
end
def DBodyC (w : World) (T : Nat → Prop) (b : BodyD) (v : Value) : Prop :=
  ∃ AR cR xsR AP cP xsP, v = .agg #[.int .u64 b.gen, .int .u64 b.epoch, .int .i64 b.writer, .int .u64 b.stamp, .slice AR b.refs.length cR, .slice AP b.packs.length cP] ∧
    Rd w T 2 AR b.refs.length xsR ∧ Els DRefC b.refs xsR ∧ Rd w T 3 AP b.packs.length xsP ∧ Els (DPackC w T) b.packs xsP ∧ b.refs.length ≤ 1000 ∧ b.packs.length ≤ 1000 ∧ (∀ i, T i → i < w.heap.size) ∧ (∀ r ∈ b.refs, r.name.length ≤ 100000)

theorem dkind_enters : ∀ (args : Array Value) (w : World), (callFunc 29 args).run Tryz.prog w = .ok (.enter 29 args) w := enters_of Tryz.func29 (by kernel_rfl) rfl
theorem dless_enters : ∀ (args : Array Value) (w : World), (callFunc 30 args).run Tryz.prog w = .ok (.enter 30 args) w := enters_of Tryz.func30 (by kernel_rfl) rfl
/-- A name as a text. -/
def nameV (x : List UInt8) : Value := strV x
theorem dup_bad (l : List PackD) (n m : Nat) (hn : n < l.length) (hm : m < l[n].blobs.length) (L : List (List UInt8)) (hL : L = namesOfD (l.take n) ++ (l[n].blobs.take m).map (·.name)) (x : List UInt8) (hx : x = l[n].blobs[m].name) (hmem : x ∈ L) : ¬ (namesOfD l).Nodup := by
  intro h
  have h1 : l = l.take n ++ l[n] :: l.drop (n + 1) := by rw [← List.drop_eq_getElem_cons hn, List.take_append_drop]
  have h2 : l[n].blobs = l[n].blobs.take m ++ l[n].blobs[m] :: l[n].blobs.drop (m + 1) := by rw [← List.drop_eq_getElem_cons hm, List.take_append_drop]
  have h3 : namesOfD l = L ++ (x :: ((l[n].blobs.drop (m + 1)).map (·.name) ++ namesOfD (l.drop (n + 1)))) := by
    have e1 : namesOfD l = namesOfD (l.take n) ++ (l[n].blobs.map (·.name) ++ namesOfD (l.drop (n + 1))) := by
      have e0 : namesOfD (l.take n ++ l[n] :: l.drop (n + 1)) = namesOfD (l.take n) ++ (l[n].blobs.map (·.name) ++ namesOfD (l.drop (n + 1))) := by simp only [namesOfD, blobsOfD, List.flatMap_append, List.flatMap_cons, List.map_append]
      rw [← h1] at e0
      exact e0
    have e2 : l[n].blobs.map (·.name) = (l[n].blobs.take m).map (·.name) ++ x :: (l[n].blobs.drop (m + 1)).map (·.name) := by
      have e0 : (l[n].blobs.take m ++ l[n].blobs[m] :: l[n].blobs.drop (m + 1)).map (·.name) = (l[n].blobs.take m).map (·.name) ++ x :: (l[n].blobs.drop (m + 1)).map (·.name) := by rw [List.map_append, List.map_cons, hx]
      rw [← h2] at e0
      exact e0
    rw [e1, e2, hL]
    simp
  rw [h3] at h
  exact (List.nodup_append.1 h).2.2 x hmem x List.mem_cons_self rfl
theorem codeD_dup (b : BodyD) (h : ¬ (namesOfD b.packs).Nodup) : codeD b = 2 := by
  simp only [codeD, okD, decide_eq_false h, Bool.and_false]; rfl
theorem str_list (l : List UInt8) : (⟨l.toArray⟩ : ByteArray).data.toList = l := List.toList_toArray

set_option maxHeartbeats 4000000 in
set_option maxRecDepth 100000 in
theorem dcheck_any (T : Nat → Prop) (b : BodyD) (v : Value) (w : World) (h : DBodyC w T b v) :
    Calls Tryz.prog 9 #[v] w fun e w' => e = .returned (.int .i64 (codeD b)) ∧ Below w.heap.size w w' := by
  obtain ⟨AR, cR, xsR, AP, cP, xsP, rfl, hrR, heR, hrP, heP, hlR, hlP, hT, hnm⟩ := h
  have HrR := hide hrR
  have HeR := hide heR
  have HrP := hide hrP
  have HeP := hide heP
  have HT := hide hT
  have Hnm := hide hnm
  clear hrR heR hrP heP hT hnm
  by_cases hb : 1 ≤ b.writer ∧ b.writer ≤ 255 ∧ b.refs.length ≤ 8 ∧ b.packs.length ≤ 12
  · obtain ⟨h1, h2, h3, h4⟩ := hb
    go_enter Tryz.func9, Tryz.ntmps9
    go_wp2_with fail
    have Hbelow : Below w.heap.size w (w.alloc (.cells #[.int .u64 b.gen, .int .u64 b.epoch, .int .i64 b.writer, .int .u64 b.stamp, .slice AR b.refs.length cR, .slice AP b.packs.length cP] 31)) := (Below.refl _ _).alloc (Nat.le_refl _) _
    obtain ⟨wo, hwo⟩ : ∃ wo : World, wo = w.alloc (.cells #[.int .u64 b.gen, .int .u64 b.epoch, .int .i64 b.writer, .int .u64 b.stamp, .slice AR b.refs.length cR, .slice AP b.packs.length cP] 31) := ⟨_, rfl⟩
    have hrow : wo.heap[w.heap.size]? = some (.cells #[.int .u64 b.gen, .int .u64 b.epoch, .int .i64 b.writer, .int .u64 b.stamp, .slice AR b.refs.length cR, .slice AP b.packs.length cP] 31) := by rw [hwo]; exact heap_alloc_new _ _
    have hszo : wo.heap.size = w.heap.size + 1 := by rw [hwo]; simp
    rw [← hwo] at Hbelow ⊢
    have Hrow := hide hrow
    have Hszo := hide hszo
    have HB := hide Hbelow
    have H1 := hide h1
    have H2 := hide h2
    have H3 := hide h3
    have H4 := hide h4
    clear hwo Hbelow hrow hszo h1 h2 h3 h4
    go_loopw [3] (fun i wr => ∃ k : Nat, k ≤ b.refs.length ∧ i = .int .i64 k ∧ (∀ i, i < k → refOkD b.refs i = true) ∧ Below wo.heap.size wo wr) (fun i _ => b.refs.length - (intOf i).toNat)
    case atStart => exact ⟨0, Nat.zero_le _, rfl, fun i hi => by omega, Below.refl _ _⟩
    case round =>
      obtain ⟨k, hk, rfl, hno, hb⟩ := hrel
      have Hno := hide hno
      have Hb := hide hb
      have hsz1 := hb.size
      have hc4 : wr.cell? ⟨w.heap.size, 4, none⟩ = some (.slice AR b.refs.length cR) := (Hb.out.cell (p := ⟨w.heap.size, 4, none⟩) (by have := Hszo.out; show w.heap.size < _; omega)).trans (cell_of_row _ _ 4 _ _ _ Hrow.out)
      have hNlt : w.heap.size < wr.heap.size := by have := Hszo.out; omega
      clear hno hb
      by_cases hlt : k < b.refs.length
      · obtain ⟨bb, off, hA, hTb, hbl, _⟩ := HrR.out.at_ (by omega)
        subst hA
        have hbl2 : bb < wr.heap.size := by have := HB.out.size; omega
        have hrx : ∀ j, (hj : j < b.refs.length) → wr.cell? ⟨bb, off + j * 2, none⟩ = some (.string ⟨b.refs[j].name.toArray⟩) := fun j hj => by
          obtain ⟨c, hc, _, hrg⟩ := rd_range HrR.out HeR.out rfl (fun p c => DRefC.len p c) hj
          have h1 := range_keep (range_keep hrg (Keep.of_none HB.out) hbl (fun f => f)) (Keep.of_none Hb.out) (by have := HB.out.size; omega) (fun f => f) 0 (.string ⟨b.refs[j].name.toArray⟩) (by rw [hc]; rfl)
          simpa using h1
        have Hrx := hide hrx
        have hxl : b.refs[k].name.length ≤ 100000 := Hnm.out _ (List.getElem_mem hlt)
        obtain ⟨x, hx⟩ : ∃ x, x = b.refs[k].name := ⟨_, rfl⟩
        have hcx := hrx k hlt
        rw [← hx] at hxl hcx
        obtain ⟨kv, hkv⟩ : ∃ kv : Int, kv = kindL x := ⟨_, rfl⟩
        have hK : ∀ W : World, Calls Tryz.prog 29 #[.string ⟨x.toArray⟩] W fun e w' => e = .returned (.int .i64 kv) ∧ Below W.heap.size W w' := fun W => by
          have h1 := rkind_any W ⟨x.toArray⟩ (by show x.toArray.size < _; rw [List.size_toArray]; omega)
          rw [str_list] at h1
          rw [hkv]
          exact h1
        have hkv2 : kv = 0 ∨ kv = 1 ∨ kv = 2 := by have := kindL_cases x; omega
        obtain ⟨C, hC⟩ : ∃ C : World → Prop, C = fun w' => Below wr.heap.size wr w' := ⟨_, rfl⟩
        have hC0 : C wr.drew := by rw [hC]; exact (Below.refl _ _).drew
        haveI : Nonempty (Wl C) := ⟨⟨_, hC0⟩⟩
        have HC4 := hide (InC.of (C := C) (R := fun w' => w'.cell? ⟨w.heap.size, 4, none⟩ = some (.slice (some ⟨bb, off, none⟩) b.refs.length cR)) (fun w' hw => by rw [hC] at hw; exact (hw.cell (p := ⟨w.heap.size, 4, none⟩) hNlt).trans hc4))
        have HCx := hide (InC.of (C := C) (R := fun w' => w'.cell? ⟨bb, off + k * 2, none⟩ = some (.string ⟨x.toArray⟩)) (fun w' hw => by rw [hC] at hw; exact (hw.cell (p := ⟨bb, off + k * 2, none⟩) hbl2).trans hcx))
        have HCall := hide (InC.of (C := C) (R := fun w' => Calls Tryz.prog 29 #[.string ⟨x.toArray⟩] w' fun e w2 => e = .returned (.int .i64 kv) ∧ InC C w2) (fun w' hw => (hK w').mono fun _ w2 hh => ⟨hh.1, ⟨w2, by rw [hC] at hw ⊢; exact hw.trans (hh.2.mono hw.size)⟩, rfl⟩))
        have HC0 := hide hC0
        have HCd := hide hC
        have Hx := hide hx
        have Hkv := hide hkv
        have Hkv2 := hide hkv2
        have Hxl := hide hxl
        have Hk0 := hide (show (0 : Int) ≤ (k : Int) from Int.natCast_nonneg k)
        clear hrx hcx hx hkv hkv2 hC hC0 hxl hK
        go_wp2_with fail
        rcases Hkv2.out with rfl | hk12
        · have Hbad := hide (codeD_bad2 b k hlt (by
            have h1 : kindL (nameAtD b.refs k) = 0 := by
              rw [nameAtD_of _ _ hlt, ← Hx.out]
              have := Hkv.out
              omega
            simp [refOkD, h1]))
          refine wp_region_class C (by kernel_rfl) (by kernel_rfl) HC0.out ?_
          repeat (first | go_big_quiet_skip | (go_big_quiet_want; first
            | (refine quiet_load 28 (.tmp 36) rfl ⟨w.heap.size, 4, none⟩ rfl (.slice (some ⟨bb, off, none⟩) b.refs.length cR) HC4.out _ Tryz.underlying28 rfl ?_; go_simp; go_big_quiet_on)
            | (refine quiet_load 9 (.tmp 40) rfl ⟨bb, off + k * 2, none⟩ rfl (.string ⟨x.toArray⟩) HCx.out _ Tryz.underlying9 rfl ?_; go_simp; go_big_quiet_on)
            | (refine quiet_call 29 #[.tmp 41] #[9] rfl dkind_enters #[.string ⟨x.toArray⟩] (by simp only [List.map_toArray, List.map_cons, List.map_nil]; rfl) (.int .i64 0) HCall.out ?_; go_simp; go_big_quiet_on)
            | (go_big_quiet_op; go_big_quiet_on)))
          refine wpQuiet_nil ?_
          intro wz hwz
          obtain ⟨⟨_, hz⟩, rfl⟩ := hwz
          rw [HCd.out] at hz
          have Hz := hide (Hb.out.trans (hz.mono Hb.out.size))
          clear hz
          go_wp2_with fail
          go_ret
          exact ⟨by rw [Hbad.out]; rfl, HB.out.trans (Hz.out.mono HB.out.size)⟩
        · have Hkn := hide (show kindL x ≠ 0 by have := Hkv.out; omega)
          have hkz : (kv == (0 : Int)) = false := by rw [beq_eq_false_iff_ne]; omega
          clear hk12
          rcases k with _ | j
          · have Hgood := hide (show refOkD b.refs 0 = true by
              have h1 : nameAtD b.refs 0 = x := by rw [nameAtD_of _ _ hlt, ← Hx.out]
              simp [refOkD, h1, Hkn.out])
            have hcx0 := HCx.out
            rw [Nat.zero_mul, Nat.add_zero] at hcx0
            have HCx := hide hcx0
            clear hcx0
            refine wp_region_class C (by kernel_rfl) (by kernel_rfl) HC0.out ?_
            repeat (first | go_big_quiet_skip | (go_big_quiet_want; first
              | (refine quiet_load 28 (.tmp 36) rfl ⟨w.heap.size, 4, none⟩ rfl (.slice (some ⟨bb, off, none⟩) b.refs.length cR) HC4.out _ Tryz.underlying28 rfl ?_; go_simp; go_big_quiet_on)
              | (refine quiet_load 9 (.tmp 40) rfl ⟨bb, off, none⟩ rfl (.string ⟨x.toArray⟩) HCx.out _ Tryz.underlying9 rfl ?_; go_simp; go_big_quiet_on)
              | (refine quiet_call 29 #[.tmp 41] #[9] rfl dkind_enters #[.string ⟨x.toArray⟩] (by simp only [List.map_toArray, List.map_cons, List.map_nil]; rfl) (.int .i64 kv) HCall.out ?_; go_simp; go_big_quiet_on)
              | (go_big_quiet_op; go_big_quiet_on)))
            refine wpQuiet_nil ?_
            intro wz hwz
            obtain ⟨⟨_, hz⟩, rfl⟩ := hwz
            rw [HCd.out] at hz
            have Hz := hide (Hb.out.trans (hz.mono Hb.out.size))
            clear hz
            go_wp2_with fail
            refine ⟨⟨0 + 1, by omega, by go_num, ?_, Hz.out⟩, by simp [intOf]; omega⟩
            intro i hi
            by_cases e : i = 0
            · subst e; exact Hgood.out
            · exact Hno.out i (by omega)
          · have hj : j < b.refs.length := by omega
            obtain ⟨y, hy⟩ : ∃ y, y = b.refs[j].name := ⟨_, rfl⟩
            have hyl : y.length ≤ 100000 := by rw [hy]; exact Hnm.out _ (List.getElem_mem hj)
            have hcy := Hrx.out j hj
            rw [← hy] at hcy
            have HCy := hide (InC.of (C := C) (R := fun w' => w'.cell? ⟨bb, off + j * 2, none⟩ = some (.string ⟨y.toArray⟩)) (fun w' hw => by rw [HCd.out] at hw; exact (hw.cell (p := ⟨bb, off + j * 2, none⟩) hbl2).trans hcy))
            have Hy := hide hy
            have hj0 : (0 : Int) ≤ (j : Int) := Int.natCast_nonneg j
            have hj1 : (j : Int) < b.refs.length := Int.ofNat_lt.2 hj
            have hjp : (0 : Int) < (j : Int) + 1 := by omega
            have hL := fun W : World => rless_any W ⟨y.toArray⟩ ⟨x.toArray⟩ (by show y.toArray.size < _; rw [List.size_toArray]; omega)
            simp only [str_list] at hL
            rcases hls : lessL y x with _ | _
            · have Hbad := hide (codeD_bad2 b (j + 1) hlt (by
                have h1 : nameAtD b.refs (j + 1) = x := by rw [nameAtD_of _ _ hlt, ← Hx.out]
                have h2 : nameAtD b.refs j = y := by rw [nameAtD_of _ _ hj, ← Hy.out]
                simp [refOkD, h1, h2, hls]))
              rw [hls] at hL
              have HCall2 := hide (InC.of (C := C) (R := fun w' => Calls Tryz.prog 30 #[.string ⟨y.toArray⟩, .string ⟨x.toArray⟩] w' fun e w2 => e = .returned (.bool false) ∧ InC C w2) (fun w' hw => (hL w').mono fun _ w2 hh => ⟨hh.1, ⟨w2, by rw [HCd.out] at hw ⊢; exact hw.trans (hh.2.mono hw.size)⟩, rfl⟩))
              have hwj2 : wrap64 (j : Int) = j := w64 _ (by omega)
              clear hls hL hcy hy hyl
              refine wp_region_class C (by kernel_rfl) (by kernel_rfl) HC0.out ?_
              repeat (first | go_big_quiet_skip | (go_big_quiet_want; first
                | (refine quiet_load 28 (.tmp 36) rfl ⟨w.heap.size, 4, none⟩ rfl (.slice (some ⟨bb, off, none⟩) b.refs.length cR) HC4.out _ Tryz.underlying28 rfl ?_; go_simp; go_big_quiet_on)
                | (refine quiet_load 9 (.tmp 40) rfl ⟨bb, off + (j + 1) * 2, none⟩ rfl (.string ⟨x.toArray⟩) HCx.out _ Tryz.underlying9 rfl ?_; go_simp; go_big_quiet_on)
                | (refine quiet_call 29 #[.tmp 41] #[9] rfl dkind_enters #[.string ⟨x.toArray⟩] (by simp only [List.map_toArray, List.map_cons, List.map_nil]; rfl) (.int .i64 kv) HCall.out ?_; go_simp; go_big_quiet_on)
                | (refine quiet_load 28 (.tmp 48) rfl ⟨w.heap.size, 4, none⟩ rfl (.slice (some ⟨bb, off, none⟩) b.refs.length cR) HC4.out _ Tryz.underlying28 rfl ?_; go_simp; go_big_quiet_on)
                | (refine quiet_load 28 (.tmp 55) rfl ⟨w.heap.size, 4, none⟩ rfl (.slice (some ⟨bb, off, none⟩) b.refs.length cR) HC4.out _ Tryz.underlying28 rfl ?_; go_simp; go_big_quiet_on)
                | (refine quiet_load 9 (.tmp 53) rfl ⟨bb, off + j * 2, none⟩ rfl (.string ⟨y.toArray⟩) HCy.out _ Tryz.underlying9 rfl ?_; go_simp; go_big_quiet_on)
                | (refine quiet_load 9 (.tmp 59) rfl ⟨bb, off + (j + 1) * 2, none⟩ rfl (.string ⟨x.toArray⟩) HCx.out _ Tryz.underlying9 rfl ?_; go_simp; go_big_quiet_on)
                | (refine quiet_call 30 #[.tmp 54, .tmp 60] #[9, 9] rfl dless_enters #[.string ⟨y.toArray⟩, .string ⟨x.toArray⟩] (by simp only [List.map_toArray, List.map_cons, List.map_nil]; rfl) (.bool false) HCall2.out ?_; go_simp; go_big_quiet_on)
                | (go_big_quiet_op; go_big_quiet_on)))
              refine wpQuiet_nil ?_
              intro wz hwz
              obtain ⟨⟨_, hz⟩, rfl⟩ := hwz
              rw [HCd.out] at hz
              have Hz := hide (Hb.out.trans (hz.mono Hb.out.size))
              clear hz
              go_wp2_with fail
              go_ret
              exact ⟨by rw [Hbad.out]; rfl, HB.out.trans (Hz.out.mono HB.out.size)⟩
            · have Hgood := hide (show refOkD b.refs (j + 1) = true by
                have h1 : nameAtD b.refs (j + 1) = x := by rw [nameAtD_of _ _ hlt, ← Hx.out]
                have h2 : nameAtD b.refs j = y := by rw [nameAtD_of _ _ hj, ← Hy.out]
                simp [refOkD, h1, h2, hls, Hkn.out])
              rw [hls] at hL
              have HCall2 := hide (InC.of (C := C) (R := fun w' => Calls Tryz.prog 30 #[.string ⟨y.toArray⟩, .string ⟨x.toArray⟩] w' fun e w2 => e = .returned (.bool true) ∧ InC C w2) (fun w' hw => (hL w').mono fun _ w2 hh => ⟨hh.1, ⟨w2, by rw [HCd.out] at hw ⊢; exact hw.trans (hh.2.mono hw.size)⟩, rfl⟩))
              have hwj2 : wrap64 (j : Int) = j := w64 _ (by omega)
              clear hls hL hcy hy hyl
              refine wp_region_class C (by kernel_rfl) (by kernel_rfl) HC0.out ?_
              repeat (first | go_big_quiet_skip | (go_big_quiet_want; first
                | (refine quiet_load 28 (.tmp 36) rfl ⟨w.heap.size, 4, none⟩ rfl (.slice (some ⟨bb, off, none⟩) b.refs.length cR) HC4.out _ Tryz.underlying28 rfl ?_; go_simp; go_big_quiet_on)
                | (refine quiet_load 9 (.tmp 40) rfl ⟨bb, off + (j + 1) * 2, none⟩ rfl (.string ⟨x.toArray⟩) HCx.out _ Tryz.underlying9 rfl ?_; go_simp; go_big_quiet_on)
                | (refine quiet_call 29 #[.tmp 41] #[9] rfl dkind_enters #[.string ⟨x.toArray⟩] (by simp only [List.map_toArray, List.map_cons, List.map_nil]; rfl) (.int .i64 kv) HCall.out ?_; go_simp; go_big_quiet_on)
                | (refine quiet_load 28 (.tmp 48) rfl ⟨w.heap.size, 4, none⟩ rfl (.slice (some ⟨bb, off, none⟩) b.refs.length cR) HC4.out _ Tryz.underlying28 rfl ?_; go_simp; go_big_quiet_on)
                | (refine quiet_load 28 (.tmp 55) rfl ⟨w.heap.size, 4, none⟩ rfl (.slice (some ⟨bb, off, none⟩) b.refs.length cR) HC4.out _ Tryz.underlying28 rfl ?_; go_simp; go_big_quiet_on)
                | (refine quiet_load 9 (.tmp 53) rfl ⟨bb, off + j * 2, none⟩ rfl (.string ⟨y.toArray⟩) HCy.out _ Tryz.underlying9 rfl ?_; go_simp; go_big_quiet_on)
                | (refine quiet_load 9 (.tmp 59) rfl ⟨bb, off + (j + 1) * 2, none⟩ rfl (.string ⟨x.toArray⟩) HCx.out _ Tryz.underlying9 rfl ?_; go_simp; go_big_quiet_on)
                | (refine quiet_call 30 #[.tmp 54, .tmp 60] #[9, 9] rfl dless_enters #[.string ⟨y.toArray⟩, .string ⟨x.toArray⟩] (by simp only [List.map_toArray, List.map_cons, List.map_nil]; rfl) (.bool true) HCall2.out ?_; go_simp; go_big_quiet_on)
                | (go_big_quiet_op; go_big_quiet_on)))
              refine wpQuiet_nil ?_
              intro wz hwz
              obtain ⟨⟨_, hz⟩, rfl⟩ := hwz
              rw [HCd.out] at hz
              have Hz := hide (Hb.out.trans (hz.mono Hb.out.size))
              clear hz
              go_wp2_with fail
              refine ⟨⟨(j + 1) + 1, by omega, by go_num, ?_, Hz.out⟩, by simp [intOf]; omega⟩
              intro i hi
              by_cases e : i = (j + 1)
              · subst e; exact Hgood.out
              · exact Hno.out i (by omega)
      · have hrefs : refsOkD b.refs = true := (refsOkD_iff _).2 (fun i hi => Hno.out i (by omega))
        have Hrefs := hide hrefs
        have Hout := hide (World.ownsRow_nil wr wo.heap.size 9 1)
        have HNlt := hide hNlt
        have Hhb := hide hsz1
        clear hrefs
        go_wp2_with fail
        obtain ⟨wq, hwq⟩ : ∃ wq : World, wq = wr := ⟨_, rfl⟩
        rw [← hwq] at Hb Hout ⊢
        clear hc4 hNlt hsz1 hwq
        go_loopw [4, 5] (fun out i w2 => ∃ n : Nat, n ≤ b.packs.length ∧ i = .int .i64 n ∧ (∀ p ∈ b.packs.take n, packOkD p = true) ∧ (namesOfD (b.packs.take n)).Nodup ∧ w2.ownsRow wo.heap.size 9 1 out (namesOfD (b.packs.take n)).length ((namesOfD (b.packs.take n)).map nameV) ∧ Below wo.heap.size wo w2) (fun _ i _ => b.packs.length - (intOf i).toNat)
        case atStart => exact ⟨0, Nat.zero_le _, rfl, by simp, List.nodup_nil, Hout.out, Hb.out⟩
        case round =>
          obtain ⟨n, hn, rfl, hpk, hnd, hown, hb2⟩ := hrel
          have Hpk := hide hpk
          have Hnd := hide hnd
          have Hown := hide hown
          have Hb2 := hide hb2
          have hs2 := hb2.size
          have hc5 : wr.cell? ⟨w.heap.size, 5, none⟩ = some (.slice AP b.packs.length cP) := (Hb2.out.cell (p := ⟨w.heap.size, 5, none⟩) (by have := Hszo.out; show w.heap.size < _; omega)).trans (cell_of_row _ _ 5 _ _ _ Hrow.out)
          have hNlt2 : w.heap.size < wr.heap.size := by have := Hszo.out; omega
          clear hpk hnd hown hb2
          by_cases hlt2 : n < b.packs.length
          · obtain ⟨bp, op, hAP, hTp, hblp, _⟩ := HrP.out.at_ (by omega)
            obtain ⟨cp, hcp, hclp, hrgp⟩ := rd_range (hAP ▸ HrP.out) HeP.out rfl (fun p c => DPackC.len p c) hlt2
            subst hAP
            obtain ⟨pk, hpkq⟩ : ∃ pk, pk = b.packs[n] := ⟨_, rfl⟩
            rw [← hpkq] at hcp
            obtain ⟨Ab, capb, bs, hcv, hrb, heb, hbl60, hct1, hct2⟩ := hcp
            have e1 : cp[1]'(by omega) = .int .i64 pk.count := by simp only [hcv]; rfl
            have e2 : cp[2]'(by omega) = .slice Ab pk.blobs.length capb := by simp only [hcv]; rfl
            have hst := store_new wr 71 3 cp (by kernel_rfl) hclp (fun v hv => by rw [hcv] at hv; simp [strV] at hv; rcases hv with rfl | rfl | rfl <;> rfl)
            have hblp2 : bp < wo.heap.size := Nat.lt_of_lt_of_le hblp HB.out.size
            have hblp3 : bp < wr.heap.size := by omega
            have Hrgp := hide (range_keep (range_keep hrgp (Keep.of_none HB.out) hblp (fun f => f)) (Keep.of_none Hb2.out) hblp2 (fun f => f))
            have Hrb := hide hrb
            have Heb := hide heb
            have Hpkq := hide hpkq
            have Hszp := hide (show (Tryz.prog.info? 71).map (·.size) = some cp.length by rw [hclp]; kernel_rfl)
            have Hhl := hide hblp2
            clear hrgp hrb heb hpkq hblp2 hcv
            have hnext : namesOfD (b.packs.take (n + 1)) = namesOfD (b.packs.take n) ++ pk.blobs.map (·.name) := by rw [namesD_next _ _ hlt2, Hpkq.out]
            have Hnext := hide hnext
            clear hnext
            by_cases hok : packOkD pk = true
            · have hok2 := hok
              unfold packOkD at hok2
              obtain ⟨q1, q2, q3, q4⟩ := of_decide_eq_true hok2
              have Hok := hide hok
              clear hok hok2
              go_wp2_with (refine wpList_load_mid rfl 71 (.tmp 75) rfl bp (op + n * 3) rfl cp _ Hrgp.out Tryz.underlying71 rfl Hszp.out ?_)
              obtain ⟨wp, hwp⟩ : ∃ wp : World, wp = wr.alloc (.cells cp.toArray 71) := ⟨_, rfl⟩
              have hpc : wp.cell? ⟨wr.heap.size, 2, none⟩ = some (.slice Ab pk.blobs.length capb) := by
                rw [hwp, cell_of_row _ _ 2 _ _ _ (heap_alloc_new _ _), List.getElem?_toArray, List.getElem?_eq_getElem (by omega), e2]
              have Hpc := hide hpc
              have HBp := hide (show Below wo.heap.size wo wp by rw [hwp]; exact Hb2.out.alloc hs2 _)
              have Hownp := hide (show wp.ownsRow wo.heap.size 9 1 u4 (namesOfD (b.packs.take n)).length ((namesOfD (b.packs.take n)).map nameV) by rw [hwp]; exact own_below (w := wr) (by exact (Hown.out : _)) ((Below.refl _ _).alloc (Nat.le_refl _) _) )
              have Hwps := hide (show wr.heap.size < wp.heap.size by rw [hwp]; simp)
              have Hne := hide (show ∀ j, u4.ownBlock = some j → j ≠ wr.heap.size from fun j hj => by have := (Hown.out.lt j hj).2; omega)
              obtain ⟨Pb, hPb⟩ : ∃ Pb, Pb = wr.heap.size := ⟨_, rfl⟩
              rw [← hwp]
              rw [← hPb] at Hpc Hwps Hne ⊢
              have Hq := hide (And.intro q3 q4)
              clear hpc hwp hPb hst q1 q2 q3 q4 e1 e2 hc5 hs2 hNlt2
              go_loopw [4, 7] (fun out i w2 => ∃ m : Nat, m ≤ pk.blobs.length ∧ i = .int .i64 m ∧ (namesOfD (b.packs.take n) ++ (pk.blobs.take m).map (·.name)).Nodup ∧ w2.ownsRow wo.heap.size 9 1 out (namesOfD (b.packs.take n) ++ (pk.blobs.take m).map (·.name)).length ((namesOfD (b.packs.take n) ++ (pk.blobs.take m).map (·.name)).map nameV) ∧ Below wo.heap.size wo w2 ∧ w2.cell? ⟨Pb, 2, none⟩ = some (.slice Ab pk.blobs.length capb) ∧ Pb < w2.heap.size ∧ (∀ j, out.ownBlock = some j → j ≠ Pb)) (fun _ i _ => pk.blobs.length - (intOf i).toNat)
              case atStart =>
                refine ⟨0, Nat.zero_le _, rfl, ?_, ?_, HBp.out, Hpc.out, Hwps.out, Hne.out⟩
                · simpa using Hnd.out
                · simpa using Hownp.out
              case round =>
                obtain ⟨m, hm, rfl, hnd2, hown2, hb3, hpc2, hps2, hne2⟩ := hrel
                have Hnd2 := hide hnd2
                have Hown2 := hide hown2
                have Hb3 := hide hb3
                have Hne2 := hide hne2
                have Hps2 := hide hps2
                clear hnd2 hown2 hb3 hne2
                by_cases hlt3 : m < pk.blobs.length
                · obtain ⟨bk, ok, hAk, hTk, hblk, _⟩ := Hrb.out.at_ (by omega)
                  subst hAk
                  obtain ⟨ck, hck, hckl, hrgk⟩ := rd_range Hrb.out Heb.out rfl (fun p c => DBlobC.len p c) hlt3
                  obtain ⟨x, hx⟩ : ∃ x, x = pk.blobs[m].name := ⟨_, rfl⟩
                  obtain ⟨L, hL⟩ : ∃ L, L = namesOfD (b.packs.take n) ++ (pk.blobs.take m).map (·.name) := ⟨_, rfl⟩
                  rw [← hL] at Hnd2 Hown2
                  have hLl : L.length ≤ 1000000 := by
                    have h1 := namesD_few (b.packs.take n) (fun p hp => by
                      have h1 := Hpk.out p hp
                      unfold packOkD at h1
                      exact (of_decide_eq_true h1).2.2.2)
                    rw [hL, List.length_append, List.length_map, List.length_take]
                    rw [List.length_take] at h1
                    have := H4.out
                    omega
                  have hckx : wr.cell? ⟨bk, ok + m * 2, none⟩ = some (.string ⟨x.toArray⟩) := by
                    have h1 := range_keep (range_keep hrgk (Keep.of_none HB.out) hblk (fun f => f)) (Keep.of_none Hb3.out) (by have := HB.out.size; omega) (fun f => f) 0 (.string ⟨x.toArray⟩) (by rw [hck, hx]; rfl)
                    simpa using h1
                  have Hckx := hide hckx
                  have Hpc2 := hide hpc2
                  have HL := hide hL
                  have Hx := hide hx
                  have Hm := hide hm
                  obtain ⟨A4, c4, rfl, _⟩ := own_form Hown2.out
                  obtain ⟨NL, hNL⟩ : ∃ NL, NL = L.length := ⟨_, rfl⟩
                  rw [← hNL] at Hown2 Hne2 hLl ⊢
                  have HNL := hide hNL
                  clear hL hx hck hckl hrgk hckx hNL hm
                  go_wp2_with fail
                  clear hpc2
                  obtain ⟨w5, hw5⟩ : ∃ w5 : World, w5 = wr := ⟨_, rfl⟩
                  rw [← hw5] at Hown2 Hb3 Hps2 Hckx Hpc2 ⊢
                  clear hw5
                  go_loopw [8] (fun i w6 => ∃ q : Nat, q ≤ NL ∧ i = .int .i64 q ∧ (∀ j, (hj : j < L.length) → j < q → L[j] ≠ x) ∧ Keep (fun _ => False) w5 w6) (fun i _ => NL - (intOf i).toNat)
                  case atStart => exact ⟨0, Nat.zero_le _, rfl, fun j _ hj => by omega, Keep.refl _ _⟩
                  case round =>
                    obtain ⟨q, hq, rfl, hno6, hk6⟩ := hrel
                    have Hno6 := hide hno6
                    have Hk6 := hide hk6
                    clear hno6 hk6
                    have c2 := (Hk6.out.cell (p := ⟨Pb, 2, none⟩) Hps2.out (fun f => f)).trans Hpc2.out
                    have c3 := (Hk6.out.cell (p := ⟨bk, ok + m * 2, none⟩) (World.block_lt_of_cell? _ _ Hckx.out) (fun f => f)).trans Hckx.out
                    by_cases hlt6 : q < NL
                    · have hq6 : q < L.length := by rw [← HNL.out]; exact hlt6
                      obtain ⟨g, rfl⟩ : ∃ g, A4 = some ⟨g, 0, none⟩ := by
                        rcases Hown2.out.2 with ⟨_, h0⟩ | ⟨g3, _, _, hv, _⟩
                        · omega
                        · simp only [Value.slice.injEq] at hv
                          exact ⟨g3, hv.1⟩
                      have c1 : wr.cell? ⟨g, q, none⟩ = some (.string ⟨L[q].toArray⟩) := by
                        have h1 := own_get Hown2.out q hlt6
                        rw [List.getElem?_map, List.getElem?_eq_getElem hq6] at h1
                        exact (Hk6.out.cell (p := ⟨g, q, none⟩) (own_at Hown2.out).2.1 (fun f => f)).trans h1
                      obtain ⟨y, hy⟩ : ∃ y, y = L[q] := ⟨_, rfl⟩
                      rw [← hy] at c1
                      have Hy := hide hy
                      clear hy
                      go_wp2_with fail
                      go_quiet (fail)
                      go_wp2_with fail
                      · rename_i hyx
                        have hbad := codeD_dup b (dup_bad b.packs n m hlt2 (by rw [← Hpkq.out]; exact hlt3) L (by rw [HL.out, Hpkq.out]) x (by rw [Hx.out]; simp only [Hpkq.out]) (by
                          have h1 : y = x := by simpa using hyx
                          rw [← h1, Hy.out]
                          exact List.getElem_mem hq6))
                        have Hbad := hide hbad
                        clear hbad
                        go_ret
                        exact ⟨by rw [Hbad.out]; rfl, (HB.out.trans (Hb3.out.mono HB.out.size)).trans (below_drewN (Hk6.out.none_below.mono (Nat.le_trans HB.out.size Hb3.out.size)) nq)⟩
                      · rename_i hyx
                        refine ⟨⟨q + 1, by omega, by go_num, ?_, Hk6.out.drewN nq⟩, by simp [intOf]; omega⟩
                        intro j hj hjq
                        by_cases e : j = q
                        · subst e; rw [← Hy.out]; simpa using hyx
                        · exact Hno6.out j hj (by omega)
                    · obtain rfl : q = NL := by omega
                      have hown7 := own_below Hown2.out Hk6.out.none_below
                      have Hown7 := hide hown7
                      have hb7 := Hb3.out.trans (Hk6.out.none_below.mono Hb3.out.size)
                      have Hb7 := hide hb7
                      have hs7 := hb7.size
                      have hs57 := Hk6.out.size
                      clear hown7 hb7
                      go_wp2_with (at_builtin; refine wpList_append_rd _ rfl (.tmp 121) (.tmp 128) 84 84 rfl wo.heap.size 9 9 _ 1 16 Tryz.underlying84 Tryz.underlying84 Tryz.info9 rfl (by decide) (.slice A4 q c4) q (L.map nameV) rfl (by exact own_below Hown7.out ((Below.refl _ _).alloc (Nat.le_refl _) _)) _ _ 1 1 [.string ⟨x.toArray⟩] rfl (by exact Rd.new_at _ _ _ _ rfl rfl) (by simp [Value.oneCell']) (by unfold maxLen; omega) (by omega) (by simp; omega) ?_; intro A8 cap8 w8 hown8 hgrow8 hat8)
                      have e3 : namesOfD (b.packs.take n) ++ (pk.blobs.take (m + 1)).map (·.name) = L ++ [x] := by
                        rw [List.take_succ_eq_append_getElem hlt3, List.map_append, ← List.append_assoc, ← HL.out, Hx.out]
                        rfl
                      have hPbw : Pb < wr.heap.size := Nat.lt_of_lt_of_le Hps2.out hs57
                      refine ⟨⟨m + 1, by have := Hm.out; omega, by go_num, ?_, ?_, (Hb7.out.alloc hs7 _).grown hgrow8 (by simp; omega) (fun j hj => (Hown7.out.lt j hj).1), ?_, ?_, ?_⟩, by simp [intOf]; omega⟩
                      · rw [e3]
                        refine List.nodup_append.2 ⟨Hnd2.out, by simp, ?_⟩
                        intro u hu v hv
                        obtain rfl : v = x := by simpa using hv
                        obtain ⟨j, hj, rfl⟩ := List.getElem_of_mem hu
                        exact Hno6.out j hj (by have := HNL.out; omega)
                      · rw [e3, List.map_append, List.length_append, ← HNL.out]
                        exact hown8
                      · have h1 := World.cell?_of_block (a := ⟨Pb, 2, none⟩) (hgrow8.block Pb (by simp; omega) (fun e => Hne2.out Pb e.symm rfl))
                        exact h1.trans ((World.cell?_of_block (a := ⟨Pb, 2, none⟩) (Below.heap_alloc wr _ Pb hPbw)).trans c2)
                      · have := hgrow8.size
                        simp at this
                        omega
                      · intro j hj
                        rcases hat8 with h8 | h8
                        · exact Hne2.out j (by rw [← h8]; exact hj)
                        · rw [h8] at hj
                          simp at hj
                          omega
                · obtain rfl : m = pk.blobs.length := by omega
                  rw [List.take_of_length_le (Nat.le_refl _)] at Hnd2 Hown2
                  go_wp2_with fail
                  refine ⟨⟨n + 1, by omega, by go_num, ?_, ?_, ?_, Hb3.out⟩, by simp [intOf]; omega⟩
                  · intro p hp
                    rw [List.take_succ_eq_append_getElem hlt2, List.mem_append, List.mem_singleton] at hp
                    rcases hp with hp | rfl
                    · exact Hpk.out p hp
                    · rw [← Hpkq.out]; exact Hok.out
                  · rw [Hnext.out]; exact Hnd2.out
                  · rw [Hnext.out]; exact Hown2.out
            · have hbad : codeD b = 2 := by
                have h2 : b.packs.all packOkD = false := List.all_eq_false.2 ⟨b.packs[n], List.getElem_mem hlt2, by rw [← Hpkq.out]; exact hok⟩
                simp only [codeD, okD, h2, Bool.false_and, Bool.and_false]; rfl
              have Hbad := hide hbad
              clear hbad
              have hok2 : ¬ (0 ≤ pk.count ∧ pk.count ≤ 256 ∧ 0 < pk.blobs.length ∧ pk.blobs.length ≤ 48) := fun h => hok (decide_eq_true h)
              clear hok
              by_cases q1 : 0 ≤ pk.count
              · by_cases q2 : pk.count ≤ 256
                · by_cases q3 : 0 < pk.blobs.length
                  · have q4 : ¬ pk.blobs.length ≤ 48 := fun q4 => hok2 ⟨q1, q2, q3, q4⟩
                    clear hok2
                    go_wp2_with (refine wpList_load_mid rfl 71 (.tmp 75) rfl bp (op + n * 3) rfl cp _ Hrgp.out Tryz.underlying71 rfl Hszp.out ?_)
                    go_ret
                    exact ⟨by rw [Hbad.out]; rfl, HB.out.trans ((Hb2.out.alloc hs2 _).mono HB.out.size)⟩
                  · clear hok2
                    go_wp2_with (refine wpList_load_mid rfl 71 (.tmp 75) rfl bp (op + n * 3) rfl cp _ Hrgp.out Tryz.underlying71 rfl Hszp.out ?_)
                    go_ret
                    exact ⟨by rw [Hbad.out]; rfl, HB.out.trans ((Hb2.out.alloc hs2 _).mono HB.out.size)⟩
                · clear hok2
                  go_wp2_with (refine wpList_load_mid rfl 71 (.tmp 75) rfl bp (op + n * 3) rfl cp _ Hrgp.out Tryz.underlying71 rfl Hszp.out ?_)
                  go_ret
                  exact ⟨by rw [Hbad.out]; rfl, HB.out.trans ((Hb2.out.alloc hs2 _).mono HB.out.size)⟩
              · clear hok2
                go_wp2_with (refine wpList_load_mid rfl 71 (.tmp 75) rfl bp (op + n * 3) rfl cp _ Hrgp.out Tryz.underlying71 rfl Hszp.out ?_)
                go_ret
                exact ⟨by rw [Hbad.out]; rfl, HB.out.trans ((Hb2.out.alloc hs2 _).mono HB.out.size)⟩
          · obtain rfl : n = b.packs.length := by omega
            rw [List.take_of_length_le (Nat.le_refl _)] at Hpk Hnd Hown
            have hgood : codeD b = if decide ((namesOfD b.packs).length ≤ 48) then 0 else 2 := by
              have h1 : decide (1 ≤ b.writer ∧ b.writer ≤ 255 ∧ b.refs.length ≤ 8 ∧ b.packs.length ≤ 12) = true := decide_eq_true ⟨H1.out, H2.out, H3.out, H4.out⟩
              have h2 : b.packs.all packOkD = true := List.all_eq_true.2 Hpk.out
              simp only [codeD, okD, h1, Hrefs.out, h2, Bool.true_and, decide_eq_true Hnd.out, Bool.and_true]
            have hfew : (namesOfD b.packs).length ≤ 1000000 := by
              have h1 := namesD_few b.packs (fun p hp => by
                have h1 := Hpk.out p hp
                unfold packOkD at h1
                exact (of_decide_eq_true h1).2.2.2)
              have := H4.out
              omega
            obtain ⟨A4, c4, rfl, _⟩ := own_form Hown.out
            obtain ⟨N, hN⟩ : ∃ N, N = (namesOfD b.packs).length := ⟨_, rfl⟩
            rw [← hN] at hgood hfew ⊢
            have HNN := hide hN
            clear hN
            by_cases h48 : N ≤ 48
            · have Hcode := hide (show codeD b = 0 by rw [hgood, decide_eq_true h48]; rfl)
              clear hgood
              go_wp2_with fail
              go_ret
              exact ⟨by rw [Hcode.out]; rfl, HB.out.trans (Hb2.out.mono HB.out.size)⟩
            · have Hcode := hide (show codeD b = 2 by rw [hgood, decide_eq_false h48]; rfl)
              clear hgood
              go_wp2_with fail
              go_ret
              exact ⟨by rw [Hcode.out]; rfl, HB.out.trans (Hb2.out.mono HB.out.size)⟩
  · rw [codeD_bad1 b hb]
    by_cases h1 : 1 ≤ b.writer
    · by_cases h2 : b.writer ≤ 255
      · by_cases h3 : b.refs.length ≤ 8
        · have h4 : ¬ b.packs.length ≤ 12 := fun h4 => hb ⟨h1, h2, h3, h4⟩
          go_enter Tryz.func9, Tryz.ntmps9
          go_wp2_with fail
          go_ret
          exact ⟨rfl, (Below.refl _ _).alloc (Nat.le_refl _) _⟩
        · go_enter Tryz.func9, Tryz.ntmps9
          go_wp2_with fail
          go_ret
          exact ⟨rfl, (Below.refl _ _).alloc (Nat.le_refl _) _⟩
      · go_enter Tryz.func9, Tryz.ntmps9
        go_wp2_with fail
        go_ret
        exact ⟨rfl, (Below.refl _ _).alloc (Nat.le_refl _) _⟩
    · go_enter Tryz.func9, Tryz.ntmps9
      go_wp2_with fail
      go_ret
      exact ⟨rfl, (Below.refl _ _).alloc (Nat.le_refl _) _⟩
end Go.Proofs.YtimfmbcihopaaaaGreatDoor
