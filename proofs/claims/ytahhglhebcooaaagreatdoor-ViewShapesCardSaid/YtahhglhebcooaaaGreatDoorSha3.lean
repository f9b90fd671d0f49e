/- sha: the constants; a block taken in. -/
import Derived.Test.YtahhglhebcooaaaGreatDoorSha2
import Derived.StillTailTactics
namespace Go.Proofs.YtahhglhebcooaaaGreatDoor
open Go.RowKit Go.Cof Go.Tol

def kW : List Int := [1116352408, 1899447441, 3049323471, 3921009573, 961987163, 1508970993, 2453635748, 2870763221, 3624381080, 310598401, 607225278, 1426881987, 1925078388, 2162078206, 2614888103, 3248222580, 3835390401, 4022224774, 264347078, 604807628, 770255983, 1249150122, 1555081692, 1996064986, 2554220882, 2821834349, 2952996808, 3210313671, 3336571891, 3584528711, 113926993, 338241895, 666307205, 773529912, 1294757372, 1396182291, 1695183700, 1986661051, 2177026350, 2456956037, 2730485921, 2820302411, 3259730800, 3345764771, 3516065817, 3600352804, 4094571909, 275423344, 430227734, 506948616, 659060556, 883997877, 958139571, 1322822218, 1537002063, 1747873779, 1955562222, 2024104815, 2227730452, 2361852424, 2428436474, 2756734187, 3204031479, 3329325298]
theorem kW_length : kW.length = 64 := rfl
theorem kW_cells : (#[.int .u32 1116352408, .int .u32 1899447441, .int .u32 3049323471, .int .u32 3921009573, .int .u32 961987163, .int .u32 1508970993, .int .u32 2453635748, .int .u32 2870763221, .int .u32 3624381080, .int .u32 310598401, .int .u32 607225278, .int .u32 1426881987, .int .u32 1925078388, .int .u32 2162078206, .int .u32 2614888103, .int .u32 3248222580, .int .u32 3835390401, .int .u32 4022224774, .int .u32 264347078, .int .u32 604807628, .int .u32 770255983, .int .u32 1249150122, .int .u32 1555081692, .int .u32 1996064986, .int .u32 2554220882, .int .u32 2821834349, .int .u32 2952996808, .int .u32 3210313671, .int .u32 3336571891, .int .u32 3584528711, .int .u32 113926993, .int .u32 338241895, .int .u32 666307205, .int .u32 773529912, .int .u32 1294757372, .int .u32 1396182291, .int .u32 1695183700, .int .u32 1986661051, .int .u32 2177026350, .int .u32 2456956037, .int .u32 2730485921, .int .u32 2820302411, .int .u32 3259730800, .int .u32 3345764771, .int .u32 3516065817, .int .u32 3600352804, .int .u32 4094571909, .int .u32 275423344, .int .u32 430227734, .int .u32 506948616, .int .u32 659060556, .int .u32 883997877, .int .u32 958139571, .int .u32 1322822218, .int .u32 1537002063, .int .u32 1747873779, .int .u32 1955562222, .int .u32 2024104815, .int .u32 2227730452, .int .u32 2361852424, .int .u32 2428436474, .int .u32 2756734187, .int .u32 3204031479, .int .u32 3329325298] : Array Value) = (u32V kW).toArray := by kernel_rfl
theorem zW_cells : (#[.int .u32 0, .int .u32 0, .int .u32 0, .int .u32 0, .int .u32 0, .int .u32 0, .int .u32 0, .int .u32 0, .int .u32 0, .int .u32 0, .int .u32 0, .int .u32 0, .int .u32 0, .int .u32 0, .int .u32 0, .int .u32 0, .int .u32 0, .int .u32 0, .int .u32 0, .int .u32 0, .int .u32 0, .int .u32 0, .int .u32 0, .int .u32 0, .int .u32 0, .int .u32 0, .int .u32 0, .int .u32 0, .int .u32 0, .int .u32 0, .int .u32 0, .int .u32 0, .int .u32 0, .int .u32 0, .int .u32 0, .int .u32 0, .int .u32 0, .int .u32 0, .int .u32 0, .int .u32 0, .int .u32 0, .int .u32 0, .int .u32 0, .int .u32 0, .int .u32 0, .int .u32 0, .int .u32 0, .int .u32 0, .int .u32 0, .int .u32 0, .int .u32 0, .int .u32 0, .int .u32 0, .int .u32 0, .int .u32 0, .int .u32 0, .int .u32 0, .int .u32 0, .int .u32 0, .int .u32 0, .int .u32 0, .int .u32 0, .int .u32 0, .int .u32 0] : Array Value) = (u32V zerosW).toArray := by kernel_rfl

set_option maxHeartbeats 4000000 in
set_option maxRecDepth 100000 in
theorem constants_any (w : World) : Calls Tryz.prog 95 #[] w fun e w' => e = .returned (.agg (u32V kW).toArray) ∧ Below w.heap.size w w' := by
  obtain ⟨N, hN⟩ : ∃ N, N = w.heap.size := ⟨_, rfl⟩
  have HN := hide hN
  obtain ⟨k, hk⟩ : ∃ k : List Value, k = u32V kW := ⟨_, rfl⟩
  have hk2 := kW_cells
  rw [← hk] at hk2 ⊢
  have hkl : k.length = 64 := by rw [hk, u32V_length]; rfl
  have Hk1 := hide (show ∀ v ∈ k, v.oneCell' = true by rw [hk]; exact u32V_one _)
  have Hk2 := hide hk2
  have Hkl := hide (show k.length = (u32V zerosW).length by rw [hkl]; rfl)
  have HszL := hide (show (Tryz.prog.info? 167).map (·.size) = some k.length by rw [hkl]; kernel_rfl)
  have HszA := hide (show (Tryz.prog.info? 167).map (·.size) = some k.toArray.size by rw [List.size_toArray, hkl]; kernel_rfl)
  clear hN hk hk2 hkl
  go_enter Tryz.func95, Tryz.ntmps95
  go_upto_region 1 with (fail)
  rw [zW_cells, ← HN.out]
  obtain ⟨W1, hW1⟩ : ∃ W : World, W = w.alloc (.cells (u32V zerosW).toArray 167) := ⟨_, rfl⟩
  have hbw : Below w.heap.size w W1 := by rw [hW1]; exact (Below.refl _ _).alloc (Nat.le_refl _) _
  have Hr0 := hide (show W1.heap[N]? = some (.cells (u32V zerosW).toArray 167 (0, 0)) by rw [hW1, HN.out]; exact heap_new _ _)
  have Hbw := hide hbw
  rw [← hW1]
  clear hW1 hbw
  go_wp2_with (first
    | (refine wpList_store_all rfl 167 (.tmp 0) (.tmp 1) rfl N (u32V zerosW) k 167 Hr0.out rfl (by rw [← Hk2.out]; rfl) Hkl.out HszL.out Hk1.out ?_)
    | fail)
  refine bodyPost_ret (results_cell_row rfl _ _ N _ _ _ _ rfl (setRow_heap _ _ _ _ _ _ Hr0.out) Tryz.underlying167 rfl HszA.out) rfl ?_
  exact ⟨rfl, below_setRow Hbw.out (by have := HN.out; omega) _⟩

/-- One round. -/
def xV (a4 a5 a6 a7 k x : Int) : Int := (a7 + bits .xor .u32 (bits .xor .u32 (rotV a4 26) (rotV a4 21)) (rotV a4 7) + bits .xor .u32 a6 (bits .and .u32 a4 (bits .xor .u32 a5 a6)) + k + x) % 4294967296
def yV (a0 a1 a2 : Int) : Int := (bits .xor .u32 (bits .xor .u32 (rotV a0 30) (rotV a0 19)) (rotV a0 10) + bits .or .u32 (bits .and .u32 a0 a1) (bits .and .u32 a2 (bits .or .u32 a0 a1))) % 4294967296
def roundW (k x : Int) : List Int → List Int
  | [a0, a1, a2, a3, a4, a5, a6, a7] => [(xV a4 a5 a6 a7 k x + yV a0 a1 a2) % 4294967296, a0, a1, a2, (a3 + xV a4 a5 a6 a7 k x) % 4294967296, a4, a5, a6]
  | l => l
theorem roundW_length (k x : Int) (l : List Int) (h : l.length = 8) : (roundW k x l).length = 8 := by
  match l, h with
  | [_, _, _, _, _, _, _, _], _ => rfl
def roundsW (F : List Int) (v : List Int) : Nat → List Int
  | 0 => v
  | t + 1 => roundW kW[t]! F[t]! (roundsW F v t)
theorem roundsW_length (F v : List Int) (h : v.length = 8) : ∀ t, (roundsW F v t).length = 8
  | 0 => h
  | t + 1 => roundW_length _ _ _ (roundsW_length F v h t)
def sumW (s v : List Int) : Nat → List Int
  | 0 => s
  | i + 1 => (sumW s v i).set i (((sumW s v i)[i]! + v[i]!) % 4294967296)
theorem sumW_length (s v : List Int) : ∀ i, (sumW s v i).length = s.length
  | 0 => rfl
  | i + 1 => by rw [sumW, List.length_set, sumW_length s v i]
theorem sumW_at (s v : List Int) : ∀ i j, i ≤ j → (sumW s v i)[j]! = s[j]!
  | 0, _, _ => rfl
  | i + 1, j, h => by
    rw [sumW, List.getElem!_eq_getElem?_getD, List.getElem?_set_ne (by omega), ← List.getElem!_eq_getElem?_getD, sumW_at s v i j (by omega)]
/-- A block taken in. -/
def takeW (s : List Int) (blk : List UInt8) : List Int := sumW s (roundsW (schedW blk 64) s 64) 8

end Go.Proofs.YtahhglhebcooaaaGreatDoor
