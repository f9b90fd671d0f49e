/- Plain: what is put is read back. -/
import Derived.Test.YtahhglhebcooaaaGreatDoorVw2
namespace Go.Proofs.YtahhglhebcooaaaGreatDoor
open Go.RowKit Go.Cof Go.Tol

theorem beV_fold (l : List UInt8) : ∀ a : Nat, l.foldl (fun v c => v * 256 + c.toNat) a = a * 256 ^ l.length + beV l := by
  induction l with
  | nil => intro a; simp [beV]
  | cons c l ih =>
    intro a
    have h1 : beV (c :: l) = (0 * 256 + c.toNat) * 256 ^ l.length + beV l := by rw [beV, List.foldl_cons]; exact ih _
    rw [List.foldl_cons, ih, h1, List.length_cons, Nat.pow_succ, Nat.zero_mul, Nat.zero_add, Nat.add_mul, Nat.mul_assoc, Nat.mul_comm 256, Nat.add_assoc]
theorem beV_cons (c : UInt8) (l : List UInt8) : beV (c :: l) = c.toNat * 256 ^ l.length + beV l := by
  rw [beV, List.foldl_cons, beV_fold, Nat.zero_mul, Nat.zero_add]
theorem beV_beL (v n : Nat) : beV (beL v n) = v % 256 ^ n := by
  induction n with
  | zero => simp [beL, beV, Nat.mod_one]
  | succ n ih =>
    rw [beL, beV_cons, beL_length, ih, Nat.pow_succ, Nat.mod_mul, UInt8.toNat_ofNat']
    rw [Nat.add_comm, Nat.mul_comm]
theorem takeR_app (x t : List UInt8) (n : Nat) (h : x.length = n) (hn : 0 < n) : takeR (n : Int) (x ++ t, 0) = (x, (t, 0)) := by
  unfold takeR
  rw [if_neg (by simp; omega), if_neg (by simp; omega)]
  simp only [Int.toNat_natCast, ← h, List.take_left', List.drop_left']
theorem numR_app (v n : Nat) (t : List UInt8) (hn : 0 < n ∧ n ≤ 8) (hv : v < 256 ^ n) : numR (n : Int) (beL v n ++ t, 0) = (v, (t, 0)) := by
  have h := takeR_app (beL v n) t n (beL_length v n) hn.1
  have hm : min (n : Int) 8 = n := by omega
  rw [numR, hm, h, beV_beL, Nat.mod_eq_of_lt hv]
theorem numR_one (c : UInt8) (t : List UInt8) : numR 1 ([c] ++ t, 0) = (c.toNat, (t, 0)) := by
  have h : takeR 1 ([c] ++ t, 0) = ([c], (t, 0)) := takeR_app [c] t 1 rfl (by decide)
  rw [numR, show min (1 : Int) 8 = 1 by decide, h]
  simp [beV]
theorem nameR_app (nm t : List UInt8) (h : nm.length = 16) : nameR (nm ++ t, 0) = (nm, (t, 0)) := by
  have h1 : takeR 16 (nm ++ t, 0) = (nm, (t, 0)) := takeR_app nm t 16 h (by decide)
  rw [nameR, h1]
  simp [pad16, h]
theorem manyN_app (ns : List (List UInt8)) (t : List UInt8) (h : ∀ x ∈ ns, x.length = 16) : manyN ns.length (ns.flatten ++ t, 0) = (ns, (t, 0)) := by
  induction ns with
  | nil => simp [manyN]
  | cons x xs ih =>
    rw [List.length_cons, manyN_step _ _ rfl, List.flatten_cons, List.append_assoc, nameR_app x _ (h x (List.mem_cons_self ..))]
    simp only [ih (fun y hy => h y (List.mem_cons_of_mem _ hy))]
theorem sizedR_app (d : List UInt8) (h : d.length ≤ 65536) : sizedR (beL d.length 4 ++ d, 0) = (d, ([], 0)) := by
  have h1 : numR 4 (beL d.length 4 ++ d, 0) = (d.length, (d, 0)) := numR_app d.length 4 d (by decide) (by omega)
  unfold sizedR
  rw [h1, if_neg (by simp only; omega)]
  simp only
  by_cases hd : d = []
  · subst hd; simp [takeR]
  · have h2 := takeR_app d [] d.length rfl (List.length_pos_iff.2 hd)
    rw [List.append_nil] at h2
    exact h2
theorem byte_back (z : Int) (h : 0 ≤ z) (h2 : z ≤ 255) : (((UInt8.ofNat z.toNat).toNat : Nat) : Int) = z := by rw [UInt8.toNat_ofNat']; omega
theorem readN_put (q : ReqA) (hq : ReqOk q) (hm : mayB q = true) : readN (reqTl q) = q := by
  obtain ⟨m1, m2, m3, m4, m5, m6⟩ := mayB_of q hm
  obtain ⟨client, id, kind, name, gen, names, data⟩ := q
  obtain ⟨k1, k2, k3, k4, _⟩ := hq
  simp only at m1 m2 m3 m4 m5 m6 k1 k2 k3 k4
  have hx : reqTl ⟨client, id, kind, name, gen, names, data⟩ = [UInt8.ofNat client.toNat] ++ (beL id 8 ++ ([UInt8.ofNat kind.toNat] ++ (name ++ (beL gen 8 ++ (beL names.length 2 ++ (names.flatten ++ (beL data.length 4 ++ data))))))) := by
    simp only [reqTl, tailL, reqHd, headL, List.append_assoc]
  rw [hx]
  have f1 := numR_one (UInt8.ofNat client.toNat) (beL id 8 ++ ([UInt8.ofNat kind.toNat] ++ (name ++ (beL gen 8 ++ (beL names.length 2 ++ (names.flatten ++ (beL data.length 4 ++ data)))))))
  have f2 : numR 8 (beL id 8 ++ ([UInt8.ofNat kind.toNat] ++ (name ++ (beL gen 8 ++ (beL names.length 2 ++ (names.flatten ++ (beL data.length 4 ++ data)))))), 0) = _ := numR_app id 8 _ (by decide) (by omega)
  have f3 := numR_one (UInt8.ofNat kind.toNat) (name ++ (beL gen 8 ++ (beL names.length 2 ++ (names.flatten ++ (beL data.length 4 ++ data)))))
  have f4 := nameR_app name (beL gen 8 ++ (beL names.length 2 ++ (names.flatten ++ (beL data.length 4 ++ data)))) k1
  have f5 : numR 8 (beL gen 8 ++ (beL names.length 2 ++ (names.flatten ++ (beL data.length 4 ++ data))), 0) = _ := numR_app gen 8 _ (by decide) (by omega)
  have f6 : numR 2 (beL names.length 2 ++ (names.flatten ++ (beL data.length 4 ++ data)), 0) = _ := numR_app names.length 2 _ (by decide) (by omega)
  have f7 := manyN_app names (beL data.length 4 ++ data) k2
  have f8 := sizedR_app data (by omega)
  simp only [readN, f1, f2, f3, f4, f5, f6, f7, f8, byte_back client (by omega) (by omega), byte_back kind (by omega) (by omega)]
theorem lenF_frame (l : List UInt8) (h : l.length ≤ 65536) : lenF (frameL l) = (12 + l.length, 0) := by
  have hl := frameL_length l
  have hf : frameL l = 67 :: 70 :: 49 :: 1 :: (beL l.length 4 ++ (l ++ (shaL (frontL l)).take 4)) := by
    rw [frameL, frontL]; simp
  have hb : badM (frameL l) = false := badM_no _ (fun i hi _ => by
    rw [hf]
    rcases i with _ | _ | _ | i
    · rfl
    · rfl
    · rfl
    · omega)
  have h3 : ¬ (3 < (frameL l).length ∧ (frameL l)[3]! = 0) := fun hh => by
    have := hh.2
    rw [hf] at this
    exact absurd this (by simp)
  have h4 : ((frameL l).drop 4).take 4 = beL l.length 4 := by
    rw [hf]
    show (beL l.length 4 ++ (l ++ (shaL (frontL l)).take 4)).take 4 = _
    rw [List.take_left' (beL_length _ _)]
  have h5 : beV (((frameL l).drop 4).take 4) = l.length := by rw [h4, beV_beL, Nat.mod_eq_of_lt (by omega)]
  rw [lenF, hb, if_neg (by decide), if_neg h3, if_neg (by omega), h5, if_neg (by omega)]
theorem within_frame (l : List UInt8) (h : l.length ≤ 65536) : withinO (frameL l) = l := by
  have hl := frameL_length l
  have hF := lenF_frame l h
  have hfl := frontL_length l
  have e1 : (frameL l).take (12 + l.length - 4) = frontL l := by rw [frameL, List.take_left' (by omega)]
  have e2 : ((frameL l).drop (12 + l.length - 4)).take 4 = (shaL (frontL l)).take 4 := by rw [frameL, List.drop_left' (by omega), List.take_take, Nat.min_self]
  rw [withinO, hF, if_neg (by simp only; omega), withinR, hF, if_neg (by simp), if_neg (by simp only; omega)]
  simp only [e1, e2]
  rw [if_neg (by simp), frontL, List.drop_left' (by rw [List.length_append, beL_length]; rfl)]
theorem readQ_put (q : ReqA) (hq : ReqOk q) (hm : mayB q = true) : readQ (reqL q) = (q, 0) := by
  have h1 : withinO (reqL q) = reqTl q := within_frame _ (by rw [reqTl_length q hq]; have := mayB_of q hm; omega)
  rw [readQ, h1, readN_put q hq hm, if_pos ⟨hm, rfl⟩]
theorem readQ_nil : (readQ []).2 ≠ 0 := by
  unfold readQ
  have h : ¬ (mayB (readN (withinO [])) = true ∧ reqL (readN (withinO [])) = []) := fun h => by
    have := congrArg List.length h.2
    rw [reqL, frameL_length, List.length_nil] at this
    omega
  rw [if_neg h]
  decide
end Go.Proofs.YtahhglhebcooaaaGreatDoor
