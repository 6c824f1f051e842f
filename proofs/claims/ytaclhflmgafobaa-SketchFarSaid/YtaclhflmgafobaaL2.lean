/- The plain law of sketches. -/
import Derived.Test.YtaclhflmgafobaaL1
namespace Go.Proofs.Ytaclhflmgafobaa
open Go Go.Ab Go.Proofs
set_option linter.unusedSimpArgs false
set_option linter.unusedVariables false
set_option maxRecDepth 20000
theorem bit_or (xs ys : W) (p : Nat) : bit (both (· ||| ·) xs ys) p = (decide (p < 4096) && (bit xs p || bit ys p)) := by
  rw [bit_wd, wd_both (by decide)]
  by_cases h : p < 4096
  · rw [if_pos (by omega), BitVec.getLsbD_or, decide_eq_true h, Bool.true_and]; rfl
  · rw [if_neg (by omega), decide_eq_false h, Bool.false_and]; simp
theorem bit_less (xs ys : W) (p : Nat) : bit (both (fun x y => x &&& ~~~y) xs ys) p = (decide (p < 4096) && (bit xs p && !bit ys p)) := by
  have hm : p % 64 < 64 := Nat.mod_lt _ (by decide)
  rw [bit_wd, wd_both (by decide)]
  by_cases h : p < 4096
  · rw [if_pos (by omega), BitVec.getLsbD_and, BitVec.getLsbD_not, decide_eq_true h, decide_eq_true hm, Bool.true_and, Bool.true_and]; rfl
  · rw [if_neg (by omega), decide_eq_false h, Bool.false_and]; simp
def cB (xs : W) : Nat → Nat
  | 0 => 0
  | k + 1 => cB xs k + (bit xs k).toNat
theorem cB_pop (xs : W) (n k : Nat) (hk : k ≤ 64) : cB xs (64 * n + k) = cB xs (64 * n) + popN (wd xs n).toNat k := by
  induction k with
  | zero => rfl
  | succ k ih =>
    rw [← Nat.add_assoc, cB, ih (by omega), popN, bit_wd, show (64 * n + k) / 64 = n by omega, show (64 * n + k) % 64 = k by omega, BitVec.testBit_toNat, Nat.add_assoc]
theorem cntN_cB (xs : W) (n : Nat) : cntN xs n = cB xs (64 * n) := by
  induction n with
  | zero => rfl
  | succ n ih => rw [cntN, ih, show 64 * (n + 1) = 64 * n + 64 by omega, cB_pop _ _ _ (Nat.le_refl _)]; rfl
theorem cB_below (xs : W) (m k : Nat) (h : ∀ p, p < k → bit xs p = decide (p < m)) : cB xs k = min k m := by
  induction k with
  | zero => simp [cB]
  | succ k ih =>
    rw [cB, ih fun p hp => h p (by omega), h k (by omega)]
    by_cases hk : k < m
    · rw [decide_eq_true hk]; simp; omega
    · rw [decide_eq_false hk]; simp; omega
theorem cnt_below (xs : W) (m : Nat) (hm : m ≤ 4096) (h : ∀ p, p < 4096 → bit xs p = decide (p < m)) : cnt xs = m := by
  rw [cnt_all, cntN_cB, cB_below xs m _ h]; omega
theorem bit_high (l : List Int) (p : Nat) (h : 4096 ≤ p) : bit (setOf l) p = false := by
  cases hb : bit (setOf l) p with
  | false => rfl
  | true => have := (bit_setOf l p).1 hb; omega
theorem bit_sketch (s : BitVec 64) (l : List Int) (n : Int) (p : Nat) : bit (sketchOf s l n) p = (decide (p < howMany n) && aboveOf s (p : Int) l) := by
  have hN : howMany n ≤ 4096 := by unfold howMany; omega
  rw [Bool.eq_iff_iff, sketchOf, bit_setOf, planes_mem]
  simp only [Bool.and_eq_true, decide_eq_true_eq]
  constructor
  · rintro ⟨h1, h2, h3, h4⟩; exact ⟨by omega, h4⟩
  · rintro ⟨h1, h2⟩; exact ⟨by omega, by omega, by omega, h2⟩
theorem getD_map {f : Int → Int} (hf : f 0 = 0) (l : List Int) (i : Nat) : (l.map f).getD i 0 = f (l.getD i 0) := by
  simp only [List.getD, List.getElem?_map]
  cases l[i]? with
  | none => simp [hf]
  | some x => rfl
def twice (l : List Int) : List Int := l.map (2 * ·)
def back (l : List Int) : List Int := l.map (0 - ·)
theorem sumN_twice (s : BitVec 64) (p : Int) (l : List Int) (i : Nat) : sumN s p (twice l) i = 2 * sumN s p l i := by
  induction i with
  | zero => rfl
  | succ i ih =>
    simp only [sumN, ih]
    rw [twice, getD_map (by decide)]
    split <;> omega
theorem sumN_back (s : BitVec 64) (p : Int) (l : List Int) (i : Nat) : sumN s p (back l) i = 0 - sumN s p l i := by
  induction i with
  | zero => rfl
  | succ i ih =>
    simp only [sumN, ih]
    rw [back, getD_map (by decide)]
    split <;> omega
theorem above_twice (s : BitVec 64) (p : Int) (l : List Int) : aboveOf s p (twice l) = aboveOf s p l := by
  rw [aboveOf, aboveOf, show (twice l).length = l.length by simp [twice], sumN_twice]
  exact decide_eq_decide.2 (by omega)
theorem planes_congr (s : BitVec 64) {l l' : List Int} (h : ∀ p, aboveOf s p l = aboveOf s p l') (n : Nat) : planes s l n = planes s l' n := by
  induction n with
  | zero => rfl
  | succ n ih => rw [planes, planes, ih, h]
theorem sketch_twice (s : BitVec 64) (l : List Int) (n : Int) : apart (sketchOf s l n) (sketchOf s (twice l) n) = 0 := by
  rw [sketchOf, sketchOf, planes_congr s (fun p => above_twice s p l), apart_self]
theorem sketch_back (s : BitVec 64) (l : List Int) (n : Int) : cnt (both (· ||| ·) (sketchOf s l n) (sketchOf s (back l) n)) = howMany n := by
  refine cnt_below _ _ (by unfold howMany; omega) fun p hp => ?_
  rw [bit_or, bit_sketch, bit_sketch, decide_eq_true hp, Bool.true_and, ← Bool.and_or_distrib_left]
  have : (aboveOf s (p : Int) l || aboveOf s (p : Int) (back l)) = true := by
    rw [aboveOf, aboveOf, show (back l).length = l.length by simp [back], sumN_back]
    simp only [Bool.or_eq_true, decide_eq_true_eq]
    omega
  rw [this, Bool.and_true]
theorem howMany_eq (n : Int) : ((howMany n : Nat) : Int) = min (max n 0) 4096 := by unfold howMany; omega
theorem bitAt_or (s : BitVec 64) (p i : Int) : bitAt s p i = 0#64 ∨ bitAt s p i = 1#64 := by
  unfold bitAt
  generalize atRng (atRng s (BitVec.ofInt 64 p)) (BitVec.ofInt 64 i) = x
  have e : BitVec.ofInt 64 1 = 1#64 := by decide
  rw [e]
  cases hb : x.getLsbD 0 with
  | false =>
    left
    apply BitVec.eq_of_getLsbD_eq
    intro j hj
    rw [BitVec.getLsbD_and, BitVec.getLsbD_one]
    by_cases h0 : j = 0
    · subst h0; simp only [hb, Bool.false_and]; simp
    · simp [h0]
  | true =>
    right
    apply BitVec.eq_of_getLsbD_eq
    intro j hj
    rw [BitVec.getLsbD_and, BitVec.getLsbD_one]
    by_cases h0 : j = 0
    · subst h0; rw [hb]; decide
    · simp [h0]
theorem signOf_eq (s : BitVec 64) (p i : Int) (hp : 0 ≤ p) (hi : 0 ≤ i) : signOf s p i = if bitAt s p i = 0#64 then -1 else 1 := by
  rw [signOf, if_neg (by omega)]
  show IntKind.i64.wrap ((bitAt s p i <<< 1).toInt - 1) = _
  rcases bitAt_or s p i with h | h
  · rw [h, if_pos rfl]; decide
  · rw [h, if_neg (by decide)]; decide
theorem has_sketch (s : BitVec 64) (l : List Int) (n : Int) (p : Nat) (hp : (p : Int) < n) (hn : n ≤ 300) : hasOf (sketchOf s l n) (p : Int) = aboveOf s (p : Int) l := by
  have hb : bit ((sketchOf s l n).take 64) p = bit (sketchOf s l n) p := by
    rw [bit_wd, wd_take, if_pos (by omega)]; rfl
  rw [hasOf, decide_eq_true (show (0 : Int) ≤ (p : Int) by omega), Bool.true_and, Int.toNat_natCast, hb, bit_sketch]
  have hm : p < howMany n := by unfold howMany; omega
  rw [decide_eq_true hm, Bool.true_and]
theorem sketch_next (s : BitVec 64) (l : List Int) (n : Int) (hn : n ≤ 300) : sketchOf s l n = both (fun x y => x &&& ~~~y) (sketchOf s l (n + 1)) (setOf [n]) := by
  refine trimmed_ext (trim_trimmed _) (trim_trimmed _) fun j => wd_ext (fun p => ?_) j
  rw [bit_less, bit_sketch, bit_sketch]
  by_cases hp : p < 4096
  · rw [decide_eq_true hp, Bool.true_and]
    have hs : bit (setOf [n]) p = decide ((p : Int) = n) := by
      rw [Bool.eq_iff_iff, bit_setOf]; simp [hp]
    rw [hs]
    unfold howMany
    by_cases h1 : (p : Int) = n
    · rw [decide_eq_true h1, decide_eq_false (by omega)]; simp
    · rw [decide_eq_false h1, Bool.not_false, Bool.and_true]
      congr 1
      exact decide_eq_decide.2 (by omega)
  · rw [decide_eq_false hp, Bool.false_and, decide_eq_false (by unfold howMany; omega), Bool.false_and]
end Go.Proofs.Ytaclhflmgafobaa
