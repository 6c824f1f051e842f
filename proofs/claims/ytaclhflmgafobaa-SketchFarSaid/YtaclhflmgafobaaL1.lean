/- The plain law of sets and sketches. -/
import Derived.Test.YtaclhflmgafobaaS6
namespace Go.Proofs.Ytaclhflmgafobaa
open Go Go.Ab Go.Proofs
set_option linter.unusedSimpArgs false
set_option linter.unusedVariables false
set_option maxRecDepth 20000
abbrev W := List (BitVec 64)
def wd (xs : W) (j : Nat) : BitVec 64 := xs.getD j 0#64
theorem trimN_zero (xs : W) (n : Nat) (hn : n ≤ xs.length) : ∀ j, trimN xs n ≤ j → j < n → wd xs j = 0#64 := by
  induction n with
  | zero => intro j _ h; omega
  | succ n ih =>
    intro j h1 h2
    simp only [trimN] at h1
    split at h1
    · next hz =>
      rcases Nat.lt_or_ge j n with h | h
      · exact ih (by omega) j h1 h
      · obtain rfl : j = n := by omega
        simp [wd, List.getD, hz]
    · omega
theorem wd_trim (xs : W) (j : Nat) : wd (trim xs) j = wd xs j := by
  unfold trim
  by_cases h : j < trimN xs xs.length
  · simp [wd, List.getD, List.getElem?_take, h]
  · have e : wd (xs.take (trimN xs xs.length)) j = 0#64 := getD_none (by simp; omega) _
    rw [e]
    rcases Nat.lt_or_ge j xs.length with h1 | h1
    · exact (trimN_zero xs _ (Nat.le_refl _) j (by omega) h1).symm
    · exact (getD_none h1 _).symm
theorem wd_take (xs : W) (j : Nat) : wd (xs.take 64) j = if j < 64 then wd xs j else 0#64 := by
  by_cases h : j < 64
  · simp [wd, List.getD, List.getElem?_take, h]
  · rw [if_neg h]; exact getD_none (by simp; omega) _
theorem wd_lay (F : BitVec 64 → BitVec 64 → BitVec 64) (xs ys : W) (n j : Nat) : wd (lay F xs ys n) j = if j < n then F (wd xs j) (wd ys j) else 0#64 := by
  by_cases h : j < n
  · rw [if_pos h]; simp [wd, lay, List.getD, h]
  · rw [if_neg h]; exact getD_none (by simp [lay]; omega) _
theorem wd_both {F : BitVec 64 → BitVec 64 → BitVec 64} (hF : F 0#64 0#64 = 0#64) (xs ys : W) (j : Nat) : wd (both F xs ys) j = if j < 64 then F (wd xs j) (wd ys j) else 0#64 := by
  rw [both, wd_trim, wd_lay, wd_take, wd_take]
  by_cases h : j < 64
  · simp only [if_pos h]
    by_cases h2 : j < max (xs.take 64).length (ys.take 64).length
    · rw [if_pos h2]
    · rw [if_neg h2]
      have h3 : xs.length ≤ j := by simp at h2; omega
      have h4 : ys.length ≤ j := by simp at h2; omega
      rw [show wd xs j = 0#64 from getD_none h3 _, show wd ys j = 0#64 from getD_none h4 _, hF]
  · simp only [if_neg h]; split <;> simp [hF]
theorem pop_zero : pop 0#64 = 0 := by decide +kernel
theorem cntN_more (xs : W) (n : Nat) (h : min xs.length 64 ≤ n) (h' : xs.length ≤ 64 ∨ n = 64) : cntN xs n = cnt xs ∨ n > 64 := by
  unfold cnt
  induction n with
  | zero => left; rw [show min xs.length 64 = 0 by omega]
  | succ n ih =>
    by_cases h1 : min xs.length 64 = n + 1
    · left; rw [h1]
    · rcases Nat.lt_or_ge n 64 with h2 | h2
      · have h3 : xs.length ≤ n := by omega
        rcases ih (by omega) (.inl (by omega)) with h4 | h4
        · left; rw [cntN, h4, getD_none h3, pop_zero]; rfl
        · omega
      · omega
theorem cnt_all (xs : W) : cnt xs = cntN xs 64 := by
  rcases cntN_more xs 64 (by omega) (.inr rfl) with h | h
  · exact h.symm
  · omega
theorem cntN_congr {xs ys : W} (n : Nat) (h : ∀ j, j < n → pop (wd xs j) = pop (wd ys j)) : cntN xs n = cntN ys n := by
  induction n with
  | zero => rfl
  | succ n ih => rw [cntN, cntN, ih fun j hj => h j (by omega)]; have := h n (by omega); unfold wd at this; omega
theorem cntN_le_add {xs ys zs : W} (n : Nat) (h : ∀ j, j < n → pop (wd xs j) ≤ pop (wd ys j) + pop (wd zs j)) : cntN xs n ≤ cntN ys n + cntN zs n := by
  induction n with
  | zero => exact Nat.zero_le _
  | succ n ih => have h1 := ih fun j hj => h j (by omega); have := h n (by omega); unfold wd at this; simp only [cntN]; omega
theorem popN_le_add (x y z k : Nat) (h : ∀ j, j < k → x.testBit j = true → y.testBit j = true ∨ z.testBit j = true) : popN x k ≤ popN y k + popN z k := by
  induction k with
  | zero => exact Nat.zero_le _
  | succ k ih =>
    have h1 := ih fun j hj => h j (by omega)
    have h2 := h k (by omega)
    simp only [popN]
    cases hx : x.testBit k <;> cases hy : y.testBit k <;> cases hz : z.testBit k <;> simp_all <;> omega
def xor' (x y : BitVec 64) : BitVec 64 := (x &&& ~~~y) ||| (y &&& ~~~x)
theorem wd_apart (xs ys : W) (j : Nat) : wd (both (· ||| ·) (diff xs ys) (diff ys xs)) j = if j < 64 then xor' (wd xs j) (wd ys j) else 0#64 := by
  rw [wd_both (by decide), diff, diff, wd_both (by decide), wd_both (by decide)]
  by_cases h : j < 64
  · simp only [if_pos h, xor']
  · simp only [if_neg h]
theorem apart_comm (xs ys : W) : apart xs ys = apart ys xs := by
  rw [apart, apart, cnt_all, cnt_all]
  refine cntN_congr 64 fun j hj => ?_
  rw [wd_apart, wd_apart, xor', xor', BitVec.or_comm]
theorem apart_tri (xs ys zs : W) : apart xs zs ≤ apart xs ys + apart ys zs := by
  rw [apart, apart, apart, cnt_all, cnt_all, cnt_all]
  refine cntN_le_add 64 fun j hj => ?_
  rw [wd_apart, wd_apart, wd_apart, if_pos hj, if_pos hj, if_pos hj]
  generalize wd xs j = x
  generalize wd ys j = y
  generalize wd zs j = z
  refine popN_le_add _ _ _ 64 fun i hi => ?_
  simp only [BitVec.testBit_toNat, xor', BitVec.getLsbD_or, BitVec.getLsbD_and, BitVec.getLsbD_not, hi, decide_true, Bool.true_and]
  cases x.getLsbD i <;> cases y.getLsbD i <;> cases z.getLsbD i <;> simp
theorem cntN_zero {xs : W} (n : Nat) (h : ∀ j, j < n → wd xs j = 0#64) : cntN xs n = 0 := by
  induction n with
  | zero => rfl
  | succ n ih => rw [cntN, ih fun j hj => h j (by omega), show xs.getD n 0#64 = 0#64 from h n (by omega), pop_zero]
theorem apart_self (xs : W) : apart xs xs = 0 := by
  rw [apart, cnt_all]
  refine cntN_zero 64 fun j hj => ?_
  rw [wd_apart, if_pos hj, xor']
  apply BitVec.eq_of_getLsbD_eq
  intro i hi
  simp only [BitVec.getLsbD_or, BitVec.getLsbD_and, BitVec.getLsbD_not, hi, decide_true, Bool.true_and]
  cases (wd xs j).getLsbD i <;> simp
/-! what is in a set -/
theorem bit_wd (xs : W) (p : Nat) : bit xs p = (wd xs (p / 64)).getLsbD (p % 64) := rfl
theorem bit_trim (xs : W) (p : Nat) : bit (trim xs) p = bit xs p := by rw [bit_wd, wd_trim]; rfl
theorem bit_setBit (xs : W) (n p : Nat) (h : n / 64 < xs.length) : bit (setBit xs n) p = (bit xs p || decide (p = n)) := by
  have e : BitVec.ofInt 64 1 = 1#64 := by decide
  rw [bit_wd, bit_wd]
  have hm : p % 64 < 64 := Nat.mod_lt _ (by decide)
  by_cases hj : p / 64 = n / 64
  · have : wd (setBit xs n) (p / 64) = wd xs (p / 64) ||| (1#64 <<< (n % 64)) := by
      rw [hj]; simp [wd, setBit, List.getD, h, e]
    rw [this, BitVec.getLsbD_or, BitVec.getLsbD_shiftLeft, BitVec.getLsbD_one]
    congr 1
    by_cases hp : p = n
    · subst hp; simp [hm]
    · rw [decide_eq_false hp]
      have : p % 64 ≠ n % 64 := fun h' => hp (by omega)
      by_cases hlt : p % 64 < n % 64
      · simp [hlt]
      · have : p % 64 - n % 64 ≠ 0 := by omega
        simp [this]
  · have : wd (setBit xs n) (p / 64) = wd xs (p / 64) := by
      simp only [wd, setBit, List.getD, List.getElem?_set, if_neg (Ne.symm hj)]
    have hp : p ≠ n := fun h' => hj (by rw [h'])
    rw [this, decide_eq_false hp, Bool.or_false]
theorem bit_outN (l : List Int) (i : Nat) (hi : i ≤ l.length) (p : Nat) : bit (outN l i) p = true ↔ p < 4096 ∧ ∃ j, j < i ∧ l.getD j 0 = (p : Int) := by
  induction i with
  | zero =>
    have : bit (outN l 0) p = false := by
      rw [bit_wd, outN, wd]
      rcases Nat.lt_or_ge (p / 64) (wordsN l) with h | h
      · simp [List.getD, h]
      · rw [getD_none (by simpa using h)]; simp
    simp [this]
  | succ i ih =>
    have ih := ih (by omega)
    simp only [outN]
    split
    · next h =>
      have hge := mostN_ge l i l.length (by omega) h.2
      rw [bit_setBit _ _ _ (by rw [outN_len, wordsN]; omega)]
      simp only [Bool.or_eq_true, ih, decide_eq_true_eq]
      constructor
      · rintro (⟨h1, j, h2, h3⟩ | h1)
        · exact ⟨h1, j, by omega, h3⟩
        · exact ⟨by omega, i, by omega, by omega⟩
      · rintro ⟨h1, j, h2, h3⟩
        rcases Nat.lt_or_ge j i with h4 | h4
        · exact .inl ⟨h1, j, h4, h3⟩
        · obtain rfl : j = i := by omega
          exact .inr (by omega)
    · next h =>
      rw [ih]
      constructor
      · rintro ⟨h1, j, h2, h3⟩; exact ⟨h1, j, by omega, h3⟩
      · rintro ⟨h1, j, h2, h3⟩
        rcases Nat.lt_or_ge j i with h4 | h4
        · exact ⟨h1, j, h4, h3⟩
        · obtain rfl : j = i := by omega
          exact absurd ⟨by omega, by omega⟩ h
theorem bit_setOf (l : List Int) (p : Nat) : bit (setOf l) p = true ↔ p < 4096 ∧ (p : Int) ∈ l := by
  rw [setOf, bit_trim, bit_outN l _ (Nat.le_refl _)]
  constructor
  · rintro ⟨h1, j, h2, h3⟩
    exact ⟨h1, by rw [← h3]; exact List.mem_of_getElem? (getD_some h2 0)⟩
  · rintro ⟨h1, h2⟩
    obtain ⟨j, hj, h3⟩ := List.getElem_of_mem h2
    exact ⟨h1, j, hj, by simp [List.getD, hj, h3]⟩
theorem wd_ext {xs ys : W} (h : ∀ p, bit xs p = bit ys p) (j : Nat) : wd xs j = wd ys j := by
  apply BitVec.eq_of_getLsbD_eq
  intro i hi
  have := h (64 * j + i)
  rw [bit_wd, bit_wd, show (64 * j + i) / 64 = j by omega, show (64 * j + i) % 64 = i by omega] at this
  exact this
def Trimmed (xs : W) : Prop := xs.length = 0 ∨ wd xs (xs.length - 1) ≠ 0#64
theorem trim_trimmed (xs : W) : Trimmed (trim xs) := by
  have key : ∀ n, n ≤ xs.length → trimN xs n = 0 ∨ wd xs (trimN xs n - 1) ≠ 0#64 := by
    intro n
    induction n with
    | zero => intro _; exact .inl rfl
    | succ n ih =>
      intro hn
      simp only [trimN]
      split
      · exact ih (by omega)
      · next h =>
        right
        intro h'
        apply h
        rw [List.getElem?_eq_getElem (by omega)]
        simpa [wd, List.getD, show n < xs.length by omega] using h'
  have hl : (trim xs).length = trimN xs xs.length := by have := trimN_le xs xs.length; simp [trim]; omega
  rcases key xs.length (Nat.le_refl _) with h | h
  · exact .inl (by rw [hl, h])
  · right; rw [hl, wd_trim]; exact h
theorem trimmed_ext {xs ys : W} (hx : Trimmed xs) (hy : Trimmed ys) (h : ∀ j, wd xs j = wd ys j) : xs = ys := by
  have len : ∀ {xs ys : W}, Trimmed xs → (∀ j, wd xs j = wd ys j) → xs.length ≤ ys.length := by
    intro xs ys hx h
    rcases hx with h0 | h0
    · omega
    · rcases Nat.lt_or_ge ys.length xs.length with h1 | h1
      · exact absurd (by rw [h, wd, getD_none (by omega)]) h0
      · exact h1
  have hlen : xs.length = ys.length := Nat.le_antisymm (len hx h) (len hy fun j => (h j).symm)
  apply List.ext_getElem hlen
  intro i h1 h2
  have := h i
  simpa [wd, List.getD, h1, h2] using this
end Go.Proofs.Ytaclhflmgafobaa
