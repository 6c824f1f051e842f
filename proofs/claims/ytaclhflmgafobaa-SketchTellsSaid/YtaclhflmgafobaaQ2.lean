/- What the models of counts, sets and sketches compute. -/
import Derived.Test.YtaclhflmgafobaaQ1
namespace Go.Proofs.Ytaclhflmgafobaa
open Go Go.Ab Go.Proofs
set_option linter.unusedSimpArgs false
set_option linter.unusedVariables false
set_option maxRecDepth 20000

theorem c1 : BitVec.ofInt 64 6148914691236517205 = 6148914691236517205#64 := by decide
theorem c2 : BitVec.ofInt 64 3689348814741910323 = 3689348814741910323#64 := by decide
theorem c3 : BitVec.ofInt 64 1085102592571150095 = 1085102592571150095#64 := by decide
theorem ones_up (x : BitVec 64) : F_math_bits_OnesCount64 x = some (iand (BitVec.toInt (onesUp 32 (onesUp 16 (onesUp 8 (ones3 (ones2 (ones1 x))))))) 127) := by
  unfold F_math_bits_OnesCount64 onesUp ones3 ones2 ones1
  rw [c1, c2, c3]
theorem ones_eq (x : BitVec 64) : F_math_bits_OnesCount64 x = some (pop x : Int) := by
  obtain ⟨L, hL, h8, hs, m, k, hm, hm1, hk, hk1, hv⟩ := three x.toNat (Nat.lt_of_lt_of_eq x.isLt (by decide))
  obtain ⟨a, b, c, ha, ha1, hb, hb1, hc, hc1, hsum⟩ := spread hL h8
  have e1 : (ones1 x).toNat = m := by
    rw [ones1, BitVec.toNat_add, BitVec.toNat_and, BitVec.toNat_and, BitVec.toNat_ushiftRight, ofm1, Nat.shiftRight_eq_div_pow, ← hm]
    exact Nat.mod_eq_of_lt hm1
  have e2 : (ones2 (ones1 x)).toNat = k := by
    rw [ones2, BitVec.toNat_add, BitVec.toNat_and, BitVec.toNat_and, BitVec.toNat_ushiftRight, ofm2, e1, Nat.shiftRight_eq_div_pow, ← hk]
    exact Nat.mod_eq_of_lt (Nat.lt_trans hk1 (by decide))
  have e3 : (ones3 (ones2 (ones1 x))).toNat = val L := by
    rw [ones3, BitVec.toNat_and, BitVec.toNat_add, BitVec.toNat_ushiftRight, ofm3, e2, Nat.shiftRight_eq_div_pow, ← hv]
    rw [Nat.mod_eq_of_lt]
    clear hc hc1 hb hb1 ha ha1 hv hk hm hs
    omega
  have e4 : (onesUp 8 (ones3 (ones2 (ones1 x)))).toNat = a := by
    rw [onesUp, BitVec.toNat_add, BitVec.toNat_ushiftRight, e3, Nat.shiftRight_eq_div_pow, ha]
    rw [Nat.mod_eq_of_lt (by rw [← ha]; exact ha1)]
  have e5 : (onesUp 16 (onesUp 8 (ones3 (ones2 (ones1 x))))).toNat = b := by
    rw [onesUp, BitVec.toNat_add, BitVec.toNat_ushiftRight, e4, Nat.shiftRight_eq_div_pow, hb]
    rw [Nat.mod_eq_of_lt (by rw [← hb]; exact hb1)]
  have e6 : (onesUp 32 (onesUp 16 (onesUp 8 (ones3 (ones2 (ones1 x)))))).toNat = c := by
    rw [onesUp, BitVec.toNat_add, BitVec.toNat_ushiftRight, e5, Nat.shiftRight_eq_div_pow, hc]
    rw [Nat.mod_eq_of_lt (by rw [← hc]; exact hc1)]
  have e7 : (BitVec.ofInt 64 (onesUp 32 (onesUp 16 (onesUp 8 (ones3 (ones2 (ones1 x)))))).toInt &&& BitVec.ofInt 64 127).toNat = pop x := by
    rw [BitVec.ofInt_toInt, BitVec.toNat_and, e6, show (BitVec.ofInt 64 127).toNat = 2 ^ 7 - 1 by decide, Nat.and_two_pow_sub_one_eq_mod]
    rw [show (2 ^ 7 : Nat) = 128 by decide, hsum, hs]; rfl
  rw [ones_up, iand, e7]
  have := pop_le x
  rw [wrap_i64 (by omega) (by omega)]
theorem count_eq {xs : W} (hx : xs.length ≤ 1000000) : F_bitset_Count xs = some (cnt xs : Int) := by
  unfold F_bitset_Count
  rw [cut_eq hx, Option.bind_some]
  have hl : (xs.take 64).length = min xs.length 64 := by simp; omega
  have hc : cnt xs = cntN (xs.take 64) (xs.take 64).length := by rw [hl, cntN_take _ _ _ (by omega)]; rfl
  rw [hc]
  generalize hz : xs.take 64 = a at hl ⊢
  refine loop_at (fun i : Nat => ((cntN a i : Int), (i : Int))) a.length _ (by omega) (fun i hi next => ?_) (fun next => ?_)
  · unfold F_bitset_Count_b1
    dsimp only
    have h1 := cntN_le a i
    have h2 := pop_le (a.getD i 0#64)
    rw [if_pos (by omega), gx_at hi 0#64, Option.bind_some, ones_eq, Option.bind_some, wr_succ (by omega), wr_of (by omega) (by omega), cntN, Int.natCast_add (cntN a i) (pop (a.getD i 0#64))]
  · unfold F_bitset_Count_b1
    dsimp only
    rw [if_neg (by omega)]
theorem trim_len (xs : W) : (trim xs).length ≤ xs.length := by unfold trim; simp; omega
theorem both_len (F : BitVec 64 → BitVec 64 → BitVec 64) (xs ys : W) : (both F xs ys).length ≤ 64 := by
  unfold both
  refine Nat.le_trans (trim_len _) ?_
  simp [lay]; omega
theorem apart_le (xs ys : W) : apart xs ys ≤ 4096 := by
  unfold apart cnt
  refine Nat.le_trans (cntN_le _ _) ?_
  omega
theorem apart_eq {xs ys : W} (hx : xs.length ≤ 1000000) (hy : ys.length ≤ 1000000) : F_sketch_Apart xs ys = some (apart xs ys : Int) := by
  have h1 := both_len (fun x y => x &&& ~~~y) xs ys
  have h2 := both_len (fun x y => x &&& ~~~y) ys xs
  have h3 := both_len (· ||| ·) (diff xs ys) (diff ys xs)
  unfold F_sketch_Apart
  rw [less_eq hx hy, Option.bind_some, less_eq hy hx, Option.bind_some, union_eq (by unfold diff; omega) (by unfold diff; omega), Option.bind_some, count_eq (by omega), Option.bind_some]
  rfl

theorem getD_mem {l : List Int} {i : Nat} (h : i < l.length) : l.getD i 0 ∈ l := List.mem_of_getElem? (getD_some h 0)
theorem quo64 {n : Nat} : Int.tdiv (n : Int) 64 = ((n / 64 : Nat) : Int) := by rw [Int.tdiv_eq_ediv_of_nonneg (by omega)]; omega
theorem rem64 {n : Nat} : Int.tmod (n : Int) 64 = ((n % 64 : Nat) : Int) := by rw [Int.tmod_eq_emod_of_nonneg (by omega)]; omega
theorem of_eq {l : List Int} (hlen : l.length ≤ 100000) (hlo : ∀ x ∈ l, 0 ≤ x) : F_bitset_Of l = some (setOf l) := by
  unfold F_bitset_Of
  refine loop_at (fun i : Nat => (mostN l i, (i : Int))) l.length _ (by omega) (fun i hi next => ?_) (fun next => ?_)
  · unfold F_bitset_Of_b1
    dsimp only
    have h0 := hlo _ (getD_mem hi)
    rw [if_pos (by omega), gx_at hi 0, Option.bind_some, mostN]
    by_cases h : l.getD i 0 < 4096
    · rw [if_pos h, if_pos h, wr_succ (by omega), wr_of (by omega) (by omega)]
    · rw [if_neg h, if_neg h, wr_succ (by omega)]
  · unfold F_bitset_Of_b1
    dsimp only
    have hr := mostN_rng l l.length
    have hw := wordsN_le l
    have hq : wr (Int.tdiv (wr (wr (mostN l l.length + 64) - 1)) 64) = (wordsN l : Int) := by
      rw [wr_of (n := mostN l l.length + 64) (by omega) (by omega), wr_of (n := mostN l l.length + 64 - 1) (by omega) (by omega), Int.tdiv_eq_ediv_of_nonneg (by omega)]
      unfold wordsN
      rw [wr_of (by omega) (by omega)]; omega
    have hm : mkn (wordsN l : Int) (0#64) = some (List.replicate (wordsN l) 0#64) := by unfold mkn; rw [if_pos (by omega)]; rfl
    rw [if_neg (by omega), hq, hm, Option.bind_some]
    refine loop_at (fun i : Nat => ((i : Int), outN l i)) l.length _ (by omega) (fun i hi next2 => ?_) (fun next2 => ?_)
    · unfold F_bitset_Of_b2
      dsimp only
      have h0 := hlo _ (getD_mem hi)
      rw [if_pos (by omega), gx_at hi 0, Option.bind_some, if_pos h0, outN]
      by_cases h : l.getD i 0 < 4096
      · rw [if_pos h, if_pos ⟨h0, h⟩]
        have hg := mostN_ge l i l.length hi h
        obtain ⟨n, hn⟩ : ∃ n : Nat, l.getD i 0 = (n : Int) := ⟨(l.getD i 0).toNat, by omega⟩
        rw [hn] at h hg ⊢
        have hlt : n / 64 < (outN l i).length := by rw [outN_len]; unfold wordsN; omega
        rw [quo64, rem64, wr_nat (by omega), gx_at hlt 0#64, Option.bind_some, if_pos (by omega), Option.bind_some, wr_succ (by omega)]
        unfold setBit
        rw [k4]
        simp only [Int.toNat_natCast]
      · rw [if_neg h, if_neg (by omega), wr_succ (by omega)]
    · unfold F_bitset_Of_b2
      dsimp only
      rw [if_neg (by omega), short_eq (by rw [outN_len]; omega), Option.bind_some]
      rfl
theorem above_eq {l : List Int} (hs : Small l) (s : BitVec 64) (p : Int) : F_sketch_above l s p = some (aboveOf s p l) := by
  unfold F_sketch_above
  rw [at_eq, Option.bind_some]
  have hl := hs.1
  refine loop_at (fun i : Nat => (sumN s p l i, (i : Int))) l.length _ (by omega) (fun i hi next => ?_) (fun next => ?_)
  · unfold F_sketch_above_b1
    dsimp only
    have h1 := sumN_bd hs s p i
    have h2 := hs.getD i
    have hb : atRng (atRng s (BitVec.ofInt 64 p)) (BitVec.ofInt 64 (i : Int)) &&& 1#64 = bitAt s p (i : Int) := by rw [bitAt, k4]
    rw [if_pos (by omega), gx_at hi 0, Option.bind_some, at_eq, Option.bind_some, hb, sumN, wr_succ (by omega), wr_of (n := l.getD i 0) (by omega) (by omega)]
    by_cases h : bitAt s p (i : Int) = 0#64
    · rw [if_pos h, if_pos h, wr_of (by omega) (by omega)]
    · rw [if_neg h, if_neg h, wr_of (by omega) (by omega)]
  · unfold F_sketch_above_b1
    dsimp only
    rw [if_neg (by omega)]
    rfl
theorem app_at {α : Type} {xs : List α} {x : α} (h : xs.length ≤ 1000000) : app 8 xs [x] = some (xs ++ [x]) := by
  unfold app; rw [if_pos (by simp; omega)]
theorem sketch_eq {l : List Int} (hs : Small l) (s : BitVec 64) (n : Int) : F_sketch_Of l s n = some (sketchOf s l n) := by
  unfold F_sketch_Of
  have hm := howMany_eq n
  have hm2 : howMany n ≤ 4096 := by omega
  refine loop_at (fun i : Nat => ((i : Int), planes s l i)) (howMany n) _ (by omega) (fun i hi next => ?_) (fun next => ?_)
  · unfold F_sketch_Of_b1
    dsimp only
    have hp := planes_len s l i
    rw [if_pos (by omega), above_eq hs, Option.bind_some, planes]
    by_cases h : aboveOf s (i : Int) l = true
    · rw [if_pos h, if_pos h, app_at (by omega), Option.bind_some, wr_succ (by omega)]
    · rw [if_neg h, if_neg h, wr_succ (by omega), List.append_nil]
  · unfold F_sketch_Of_b1
    dsimp only
    have hp := planes_len s l (howMany n)
    rw [if_neg (by omega), of_eq (by omega) (fun x hx => (planes_mem.1 hx).1), Option.bind_some]
    rfl
end Go.Proofs.Ytaclhflmgafobaa
