/- What the models of words and sets compute. -/
import Derived.Test.YtaclhflmgafobaaD
import Derived.Test.YtaclhflmgafobaaQ0
namespace Go.Proofs.Ytaclhflmgafobaa
open Go Go.Ab Go.Proofs
set_option linter.unusedSimpArgs false
set_option linter.unusedVariables false
set_option maxRecDepth 20000

theorem gx_at {α : Type} {xs : List α} {i : Nat} (h : i < xs.length) (d : α) : gx xs (i : Int) = some (xs.getD i d) := by rw [gx_nat, getD_some h d]
theorem wr_nat {n : Nat} (h : n ≤ 9223372036854775807) : wr (n : Int) = n := wr_of (by omega) (by omega)
theorem wr_succ {n : Nat} (h : n < 9223372036854775807) : wr ((n : Int) + 1) = ((n + 1 : Nat) : Int) := by rw [wr_of (by omega) (by omega)]; omega
theorem fuel_gt {n : Nat} (h : n < 18446744073709551616) : n < fuel := Nat.lt_of_lt_of_le h fuel_ge
theorem loop_at {S R : Type} {body : (S → Option R) → S → Option R} (st : Nat → S) (N : Nat) (out : Option R) (hN : N < 18446744073709551616) (hs : ∀ i, i < N → ∀ next, body next (st i) = next (st (i + 1))) (he : ∀ next, body next (st N) = out) : loopK body fuel (st 0) = out :=
  loopK_trace st N out hs he (fuel_gt hN)

theorem cut_take {α : Type} {xs : List α} {n : Nat} (h : n ≤ xs.length) : cut xs (lo? none) (hi? xs (some (n : Int))) = some (xs.take n) := by
  have h0 : 0 ≤ lo? none ∧ lo? none ≤ hi? xs (some (n : Int)) ∧ hi? xs (some (n : Int)) ≤ (xs.length : Int) := ⟨Int.le_refl _, Int.natCast_nonneg _, Int.ofNat_le.2 h⟩
  unfold cut
  rw [if_pos h0]
  rfl

theorem k1 : BitVec.ofInt 64 11400714819323198485 = 11400714819323198485#64 := by decide
theorem k2 : BitVec.ofInt 64 13787848793156543929 = 13787848793156543929#64 := by decide
theorem k3 : BitVec.ofInt 64 10723151780598845931 = 10723151780598845931#64 := by decide
theorem k4 : BitVec.ofInt 64 1 = 1#64 := by decide
theorem mix_eq (x : BitVec 64) : F_rng_Mix x = some (mix x) := by simp only [F_rng_Mix, mix, mix1, mix2, mix3, k1, k2, k3]
theorem quo_shift (x : BitVec 64) (k : Nat) (c : BitVec 64) (hc : c.toNat = 2 ^ k) : x / c = x >>> k := by
  apply BitVec.eq_of_toNat_eq
  rw [BitVec.toNat_udiv, hc, BitVec.toNat_ushiftRight, Nat.shiftRight_eq_div_pow]
theorem rmix_eq (x : BitVec 64) : F_R03_Mix x = some (mix x) := by
  simp only [F_R03_Mix, mix, mix1, mix2, mix3, k1, k2, k3, quo_shift _ 30 1073741824#64 (by decide), quo_shift _ 27 134217728#64 (by decide), quo_shift _ 31 2147483648#64 (by decide)]
theorem at_eq (s n : BitVec 64) : F_rng_At s n = some (atRng s n) := by simp only [F_rng_At, mix_eq, Option.bind_some, atRng, k1]
theorem rat_eq (s n : BitVec 64) : F_R03_At s n = some (atRng s n) := by simp only [F_R03_At, rmix_eq, Option.bind_some, atRng, k1]
theorem sign_eq (s : BitVec 64) (p c : Int) : F_sketch_Sign s p c = some (signOf s p c) := by
  unfold F_sketch_Sign signOf
  by_cases h : min p c < 0
  · rw [if_pos h, if_pos h]
  · rw [if_neg h, if_neg h, at_eq, Option.bind_some, at_eq, Option.bind_some, k4, wr]
theorem two_rem (x : BitVec 64) : x % 2#64 = x &&& 1#64 := by
  apply BitVec.eq_of_toNat_eq
  rw [BitVec.toNat_umod, BitVec.toNat_and]
  show x.toNat % 2 = x.toNat &&& 1
  rw [Nat.and_one_is_mod]
theorem rsign_eq (s : BitVec 64) (p c : Int) : F_R44_Sign s p c = some (signOf s p c) := by
  unfold F_R44_Sign
  by_cases hp : p < 0
  · rw [if_pos hp, signOf, if_pos (by omega)]
  · rw [if_neg hp]
    by_cases hc : c < 0
    · rw [if_pos hc, signOf, if_pos (by omega)]
    · have hb : atRng (atRng s (BitVec.ofInt 64 p)) (BitVec.ofInt 64 c) % 2#64 = bitAt s p c := by rw [two_rem, bitAt, k4]
      rw [if_neg hc, rat_eq, Option.bind_some, rat_eq, Option.bind_some, signOf_eq s p c (by omega) (by omega), hb]
      have ho := bitAt_or s p c
      generalize bitAt s p c = z at ho ⊢
      rcases ho with rfl | rfl <;> simp

theorem short_eq {xs : W} (hx : xs.length ≤ 1000000) : F_bitset_short xs = some (trim xs) := by
  have key : ∀ n m, n ≤ xs.length → n < m → loopK (F_bitset_short_b1 xs) m (n : Int) = some (xs.take (trimN xs n)) := by
    intro n
    induction n with
    | zero =>
      intro m h1 h2
      obtain ⟨m, rfl⟩ : ∃ k, m = k + 1 := ⟨m - 1, by omega⟩
      rw [loopK]
      simp [F_bitset_short_b1, cut, lo?, hi?, trimN]
    | succ n ih =>
      intro m h1 h2
      obtain ⟨m, rfl⟩ : ∃ k, m = k + 1 := ⟨m - 1, by omega⟩
      rw [loopK]
      have ih' := ih m (by omega) (by omega)
      generalize loopK (F_bitset_short_b1 xs) m = next at ih' ⊢
      unfold F_bitset_short_b1
      have e : wr (((n + 1 : Nat) : Int) - 1) = (n : Int) := by rw [wr_of (by omega) (by omega)]; omega
      rw [if_pos (by omega), e, gx_at (by omega) 0#64, Option.bind_some]
      have hg := getD_some (l := xs) (i := n) (by omega) 0#64
      by_cases hz : xs.getD n 0#64 = 0#64
      · rw [if_pos hz, ih', trimN, if_pos (by rw [hg, hz])]
      · rw [if_neg hz, trimN, if_neg (by rw [hg]; intro h; exact hz (Option.some.inj h)), cut_take h1]; rfl
  exact key xs.length fuel (Nat.le_refl _) (fuel_gt (by omega))
theorem cut_eq {xs : W} (hx : xs.length ≤ 1000000) : F_bitset_cut xs = some (xs.take 64) := by
  unfold F_bitset_cut
  rw [show min (xs.length : Int) 64 = ((min xs.length 64 : Nat) : Int) by omega, cut_take (by omega), Option.bind_some]
  congr 1
  by_cases h : xs.length ≤ 64
  · rw [List.take_of_length_le (by omega), List.take_of_length_le h]
  · rw [show min xs.length 64 = 64 by omega]
theorem one_eq (xs : W) (i : Nat) : F_bitset_both_1 xs (i : Int) = some (xs.getD i 0#64) := by
  unfold F_bitset_both_1
  split
  · rw [gx_at (by omega) 0#64, Option.bind_some]
  · rw [getD_none (by omega)]
theorem part_zero (F : BitVec 64 → BitVec 64 → BitVec 64) (xs ys : W) (n : Nat) : part F xs ys n 0 = List.replicate n 0#64 := by simp [part, lay]
theorem part_all (F : BitVec 64 → BitVec 64 → BitVec 64) (xs ys : W) (n : Nat) : part F xs ys n n = lay F xs ys n := by simp [part]
theorem less_eq {xs ys : W} (hx : xs.length ≤ 1000000) (hy : ys.length ≤ 1000000) : F_bitset_Less xs ys = some (diff xs ys) := by
  unfold F_bitset_Less F_bitset_both_bitset_Less_1
  rw [cut_eq hx, Option.bind_some, cut_eq hy, Option.bind_some]
  generalize ha : xs.take 64 = a
  generalize hb : ys.take 64 = b
  have la : a.length ≤ 64 := by rw [← ha]; simp; omega
  have lb : b.length ≤ 64 := by rw [← hb]; simp; omega
  have hm : mkn (max (a.length : Int) (b.length : Int)) (0#64) = some (List.replicate (max a.length b.length) 0#64) := by
    unfold mkn; rw [if_pos (by omega)]; congr 2; omega
  rw [hm, Option.bind_some]
  generalize hn : max a.length b.length = n
  rw [show diff xs ys = trim (lay (fun x y => x &&& ~~~y) a b n) by unfold diff both; rw [ha, hb, hn], ← part_zero (fun x y => x &&& ~~~y) a b n]
  rw [show ((0 : Int), part (fun x y => x &&& ~~~y) a b n 0) = (fun i : Nat => ((i : Int), part (fun x y => x &&& ~~~y) a b n i)) 0 from rfl]
  rw [loop_at (fun i : Nat => ((i : Int), part (fun x y => x &&& ~~~y) a b n i)) n (some (trim (lay (fun x y => x &&& ~~~y) a b n))) (by omega)]
  · rfl
  · intro i hi next
    unfold F_bitset_both_bitset_Less_1_b1
    dsimp only
    rw [part_len _ _ _ (Nat.zero_le _), if_pos (by omega), one_eq, Option.bind_some, one_eq, Option.bind_some, gx_at (by rw [part_len _ _ _ (by omega)]; exact hi) 0#64]
    simp only [F_bitset_Less_1, Option.bind_some]
    rw [wr_succ (by omega), show (i : Int).toNat = i by omega, part_set (fun x y => x &&& ~~~y) a b hi]
  · intro next
    unfold F_bitset_both_bitset_Less_1_b1
    dsimp only
    rw [part_len _ _ _ (Nat.zero_le _), if_neg (by omega), part_all, short_eq (by simp [lay]; omega), Option.bind_some]
theorem union_eq {xs ys : W} (hx : xs.length ≤ 1000000) (hy : ys.length ≤ 1000000) : F_bitset_Union xs ys = some (both (· ||| ·) xs ys) := by
  unfold F_bitset_Union F_bitset_both_bitset_Union_1
  rw [cut_eq hx, Option.bind_some, cut_eq hy, Option.bind_some]
  generalize ha : xs.take 64 = a
  generalize hb : ys.take 64 = b
  have la : a.length ≤ 64 := by rw [← ha]; simp; omega
  have lb : b.length ≤ 64 := by rw [← hb]; simp; omega
  have hm : mkn (max (a.length : Int) (b.length : Int)) (0#64) = some (List.replicate (max a.length b.length) 0#64) := by
    unfold mkn; rw [if_pos (by omega)]; congr 2; omega
  rw [hm, Option.bind_some]
  generalize hn : max a.length b.length = n
  rw [show both (· ||| ·) xs ys = trim (lay (· ||| ·) a b n) by unfold both; rw [ha, hb, hn], ← part_zero (· ||| ·) a b n]
  rw [show ((0 : Int), part (· ||| ·) a b n 0) = (fun i : Nat => ((i : Int), part (· ||| ·) a b n i)) 0 from rfl]
  rw [loop_at (fun i : Nat => ((i : Int), part (· ||| ·) a b n i)) n (some (trim (lay (· ||| ·) a b n))) (by omega)]
  · rfl
  · intro i hi next
    unfold F_bitset_both_bitset_Union_1_b1
    dsimp only
    rw [part_len _ _ _ (Nat.zero_le _), if_pos (by omega), one_eq, Option.bind_some, one_eq, Option.bind_some, gx_at (by rw [part_len _ _ _ (by omega)]; exact hi) 0#64]
    simp only [F_bitset_Union_1, Option.bind_some]
    rw [wr_succ (by omega), show (i : Int).toNat = i by omega, part_set (· ||| ·) a b hi]
  · intro next
    unfold F_bitset_both_bitset_Union_1_b1
    dsimp only
    rw [part_len _ _ _ (Nat.zero_le _), if_neg (by omega), part_all, short_eq (by simp [lay]; omega), Option.bind_some]
end Go.Proofs.Ytaclhflmgafobaa
