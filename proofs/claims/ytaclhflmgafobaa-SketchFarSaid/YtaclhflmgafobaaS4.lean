/- How many are in a set; how far two are apart. -/
import Derived.Test.YtaclhflmgafobaaS3
import Derived.Test.YtaclhflmgafobaaAbO
namespace Go.Proofs.Ytaclhflmgafobaa
open Go Go.Ab Go.Proofs
set_option linter.unusedSimpArgs false
set_option linter.unusedVariables false
set_option maxRecDepth 20000
/-- How many bits of a word are set. -/
def pop (x : BitVec 64) : Nat := popN x.toNat 64
theorem pop_le (x : BitVec 64) : pop x ≤ 64 := popN_le _ _
theorem ofm1 : (BitVec.ofInt 64 6148914691236517205).toNat = m1 := by decide
theorem ofm2 : (BitVec.ofInt 64 3689348814741910323).toNat = m2 := by decide
theorem ofm3 : (BitVec.ofInt 64 1085102592571150095).toNat = m3 := by decide
theorem onesOf_eq (x : BitVec 64) : onesOf x = .int .i64 (pop x : Int) := by
  obtain ⟨L, hL, h8, hs, m, k, hm, hm1, hk, hk1, hv⟩ := three x.toNat (Nat.lt_of_lt_of_eq x.isLt (by decide))
  obtain ⟨a, b, c, ha, ha1, hb, hb1, hc, hc1, hsum⟩ := spread hL h8
  have e1 : (ones1 x).toNat = m := by
    rw [ones1, BitVec.toNat_add, BitVec.toNat_and, BitVec.toNat_and, BitVec.toNat_ushiftRight, ofm1, Nat.shiftRight_eq_div_pow, ← hm]
    exact Nat.mod_eq_of_lt hm1
  have e2 : (ones2 (ones1 x)).toNat = k := by
    rw [ones2, BitVec.toNat_add, BitVec.toNat_and, BitVec.toNat_and, BitVec.toNat_ushiftRight, ofm2, e1, Nat.shiftRight_eq_div_pow, ← hk]
    exact Nat.mod_eq_of_lt (Nat.lt_trans hk1 (by decide))
  have e3 : (ones3 (ones2 (ones1 x))).toNat = val L := by
    rw [ones3, BitVec.toNat_and, BitVec.toNat_add, BitVec.toNat_ushiftRight, ofm3, e2, Nat.shiftRight_eq_div_pow, ← hv]
    rw [Nat.mod_eq_of_lt]
    clear hc hc1 hb hb1 ha ha1 hv hk hm hs
    omega
  have e4 : (onesUp 8 (ones3 (ones2 (ones1 x)))).toNat = a := by
    rw [onesUp, BitVec.toNat_add, BitVec.toNat_ushiftRight, e3, Nat.shiftRight_eq_div_pow, ha]
    rw [Nat.mod_eq_of_lt (by rw [← ha]; exact ha1)]
  have e5 : (onesUp 16 (onesUp 8 (ones3 (ones2 (ones1 x))))).toNat = b := by
    rw [onesUp, BitVec.toNat_add, BitVec.toNat_ushiftRight, e4, Nat.shiftRight_eq_div_pow, hb]
    rw [Nat.mod_eq_of_lt (by rw [← hb]; exact hb1)]
  have e6 : (onesUp 32 (onesUp 16 (onesUp 8 (ones3 (ones2 (ones1 x)))))).toNat = c := by
    rw [onesUp, BitVec.toNat_add, BitVec.toNat_ushiftRight, e5, Nat.shiftRight_eq_div_pow, hc]
    rw [Nat.mod_eq_of_lt (by rw [← hc]; exact hc1)]
  have e7 : (BitVec.ofInt 64 (onesUp 32 (onesUp 16 (onesUp 8 (ones3 (ones2 (ones1 x)))))).toInt &&& BitVec.ofInt 64 127).toNat = pop x := by
    rw [BitVec.ofInt_toInt, BitVec.toNat_and, e6, show (BitVec.ofInt 64 127).toNat = 2 ^ 7 - 1 by decide, Nat.and_two_pow_sub_one_eq_mod]
    rw [show (2 ^ 7 : Nat) = 128 by decide, hsum, hs]; rfl
  rw [onesOf, e7]
  have := pop_le x
  rw [wrap_i64 (by omega) (by omega)]
/-- How many are in a set. -/
def cntN (xs : List (BitVec 64)) : Nat → Nat
  | 0 => 0
  | n + 1 => cntN xs n + pop (xs.getD n 0#64)
def cnt (xs : List (BitVec 64)) : Nat := cntN xs (min xs.length 64)
theorem cntN_le (xs : List (BitVec 64)) (n : Nat) : cntN xs n ≤ 64 * n := by
  induction n with
  | zero => exact Nat.le_refl _
  | succ n ih => simp only [cntN]; have := pop_le (xs.getD n 0#64); omega
theorem cntN_take (xs : List (BitVec 64)) (m n : Nat) (h : n ≤ m) : cntN (xs.take m) n = cntN xs n := by
  induction n with
  | zero => rfl
  | succ n ih => simp only [cntN]; rw [ih (by omega)]; simp [List.getD, List.getElem?_take, show n < m by omega]
theorem count_ret {σ : AH} {v : Value} {xs : List (BitVec 64)} (h : Vec w64 σ v xs) : Ret Try.prog sm 16 [v] σ fun r σ' => r = .int .i64 (cnt xs : Int) ∧ σ' = σ := by
  refine Ret.enter rfl Try.func16 rfl (of_decide_eq_true rfl) ?_
  show WC _ _ _ _ _ _ _
  repeat with_reducible refine WC.seq ?_
  refine WC.region ?_
  refine WO.op rfl (by simp only [EV, LK, ne_eq, Nat.reduceEqDiff, not_false_eq_true]; rfl) rfl ?_
  refine WO.nil ?_
  show WC _ _ _ _ _ _ _
  repeat with_reducible refine WC.seq ?_
  refine WC.region ?_
  refine WO.op rfl (by simp only [EV, LK, ne_eq, Nat.reduceEqDiff, not_false_eq_true]; rfl) rfl ?_
  refine WO.nil ?_
  show WC _ _ _ _ _ _ _
  repeat with_reducible refine WC.seq ?_
  refine WC.region ?_
  refine WO.op rfl (by simp only [EV, LK, ne_eq, Nat.reduceEqDiff, not_false_eq_true]; rfl) rfl ?_
  refine WO.call rfl rfl (by simp only [LK, ne_eq, Nat.reduceEqDiff, not_false_eq_true, callee, List.map_cons, List.map_nil]; rfl) ((cut_ret h).mono fun c1 σ1 hR => ⟨_, rfl, ?_⟩)
  obtain ⟨hc, _, rfl⟩ := hR
  have hl := hc.len Try.underlying25
  have hxl : (xs.take 64).length = min xs.length 64 := by simp; omega
  rw [hxl] at hl
  generalize hN : min xs.length 64 = N at *
  have hN64 : N ≤ 64 := by omega
  refine WO.op rfl (by simp only [EV, LK, ne_eq, Nat.reduceEqDiff, not_false_eq_true, hl]; rfl) rfl ?_
  refine WO.op rfl (by simp only [EV, LK, ne_eq, Nat.reduceEqDiff, not_false_eq_true, hl]; rfl) rfl ?_
  refine WO.nil ?_
  show WC _ _ _ _ _ _ _
  repeat with_reducible refine WC.seq ?_
  refine WC.loops (fun m t σ2 => ∃ i, m = N - i ∧ i ≤ N ∧ σ2 = σ1 ∧ t 3 = .int .i64 (cntN xs i : Int) ∧ t 7 = c1 ∧ t 8 = .int .i64 (N : Int) ∧ t 9 = .int .i64 (i : Int)) (fun t σ2 => σ2 = σ1 ∧ t 3 = .int .i64 (cntN xs N : Int)) N ?_ ?_ ?_
  · exact ⟨0, rfl, Nat.zero_le _, rfl, (by simp only [LK, ne_eq, Nat.reduceEqDiff, not_false_eq_true]; rfl), (by simp only [LK, ne_eq, Nat.reduceEqDiff, not_false_eq_true]), (by simp only [LK, ne_eq, Nat.reduceEqDiff, not_false_eq_true]), (by simp only [LK, ne_eq, Nat.reduceEqDiff, not_false_eq_true]; rfl)⟩
  · rintro m t _ ⟨i, rfl, hi, rfl, t3, t7, t8, t9⟩
    by_cases hiN : i < N
    · have hq : decide ((i : Int) < (N : Int)) = true := decide_eq_true (by omega)
      show WC _ _ _ _ _ _ _
      repeat with_reducible refine WC.seq ?_
      refine WC.region ?_
      refine WO.op rfl (by simp only [EV, LK, AR, WR, ne_eq, Nat.reduceEqDiff, not_false_eq_true, t3, t7, t8, t9, hq]; rfl) rfl ?_
      refine WO.nil ?_
      show WC _ _ _ _ _ _ _
      repeat with_reducible refine WC.seq ?_
      refine WC.condT (by simp only [LK, ne_eq, Nat.reduceEqDiff, not_false_eq_true, t3, t7, t8, t9, decide_true, decide_false, decide_not, Bool.not_true, Bool.not_false]) ?_
      refine WC.skip ?_
      refine WC.seq ?_
      refine WC.block ?_
      have hx : (xs.take 64)[i]? = some (xs.getD i 0#64) := by
        rw [List.getElem?_take, if_pos (by omega), List.getElem?_eq_getElem (by omega)]; simp [List.getD, show i < xs.length by omega]
      obtain ⟨p, hp1, _, hp2⟩ := hc.elem Try.underlying25 sz23 ag23 (i := (i : Int)) (k := .i64) (by omega) hx
      have hw : IntKind.i64.wrap ((i : Int) + 1) = ((i + 1 : Nat) : Int) := by rw [wrap_i64 (by omega) (by omega)]; omega
      have hs : IntKind.i64.wrap ((cntN xs i : Int) + (pop (xs.getD i 0#64) : Int)) = (cntN xs (i + 1) : Int) := by
        have h1 := cntN_le xs i
        have h2 := pop_le (xs.getD i 0#64)
        rw [wrap_i64 (by omega) (by omega), cntN]; omega
      show WC _ _ _ _ _ _ _
      repeat with_reducible refine WC.seq ?_
      refine WC.region ?_
      refine WO.op rfl (by simp only [EV, LK, ne_eq, Nat.reduceEqDiff, not_false_eq_true, t3, t7, t8, t9, hp1, hp2]; rfl) rfl ?_
      refine WO.op rfl (by simp only [EV, LK, ne_eq, Nat.reduceEqDiff, not_false_eq_true, t3, t7, t8, t9, hp1, hp2]; rfl) rfl ?_
      refine WO.op rfl (by simp only [EV, LK, ne_eq, Nat.reduceEqDiff, not_false_eq_true, t3, t7, t8, t9, hp1, hp2]; rfl) rfl ?_
      refine WO.nil ?_
      show WC _ _ _ _ _ _ _
      repeat with_reducible refine WC.seq ?_
      refine WC.region ?_
      refine WO.op rfl (by simp only [EV, LK, ne_eq, Nat.reduceEqDiff, not_false_eq_true, t3, t7, t8, t9]; rfl) rfl ?_
      refine WO.op rfl (by simp only [EV, LK, ne_eq, Nat.reduceEqDiff, not_false_eq_true, t3, t7, t8, t9]; rfl) rfl ?_
      refine WO.call rfl rfl (by simp only [LK, ne_eq, Nat.reduceEqDiff, not_false_eq_true, t3, t7, t8, t9, callee, List.map_cons, List.map_nil]; rfl) ((ones_ret _ _).mono fun v σ1 hR => ⟨_, rfl, ?_⟩)
      obtain ⟨rfl, rfl⟩ := hR
      refine WO.op rfl (by simp only [EV, LK, AR, WR, ne_eq, Nat.reduceEqDiff, not_false_eq_true, t3, t7, t8, t9, onesOf_eq, hs]; rfl) rfl ?_
      refine WO.op rfl (by simp only [EV, LK, ne_eq, Nat.reduceEqDiff, not_false_eq_true, t3, t7, t8, t9, onesOf_eq, hs]; rfl) rfl ?_
      refine WO.nil ?_
      show WC _ _ _ _ _ _ _
      repeat with_reducible refine WC.seq ?_
      refine WC.region ?_
      refine WO.op rfl (by simp only [EV, LK, AR, WR, ne_eq, Nat.reduceEqDiff, not_false_eq_true, t3, t7, t8, t9, hw]; rfl) rfl ?_
      refine WO.op rfl (by simp only [EV, LK, ne_eq, Nat.reduceEqDiff, not_false_eq_true, t3, t7, t8, t9, hw]; rfl) rfl ?_
      refine WO.nil ?_
      exact ⟨N - (i + 1), by omega, i + 1, rfl, by omega, rfl, (by simp only [LK, ne_eq, Nat.reduceEqDiff, not_false_eq_true, t3, t7, t8, t9]), (by simp only [LK, ne_eq, Nat.reduceEqDiff, not_false_eq_true, t3, t7, t8, t9]), (by simp only [LK, ne_eq, Nat.reduceEqDiff, not_false_eq_true, t3, t7, t8, t9]), (by simp only [LK, ne_eq, Nat.reduceEqDiff, not_false_eq_true, t3, t7, t8, t9])⟩
    · have hq : decide ((i : Int) < (N : Int)) = false := decide_eq_false (by omega)
      obtain rfl : i = N := by omega
      show WC _ _ _ _ _ _ _
      repeat with_reducible refine WC.seq ?_
      refine WC.region ?_
      refine WO.op rfl (by simp only [EV, LK, AR, WR, ne_eq, Nat.reduceEqDiff, not_false_eq_true, t3, t7, t8, t9, hq]; rfl) rfl ?_
      refine WO.nil ?_
      show WC _ _ _ _ _ _ _
      repeat with_reducible refine WC.seq ?_
      refine WC.condF (by simp only [LK, ne_eq, Nat.reduceEqDiff, not_false_eq_true, t3, t7, t8, t9, decide_true, decide_false, decide_not, Bool.not_true, Bool.not_false]) ?_
      exact .exit ⟨rfl, (by simp only [LK, ne_eq, Nat.reduceEqDiff, not_false_eq_true, t3, t7, t8, t9])⟩
  · rintro t _ ⟨rfl, t3⟩
    show WC _ _ _ _ _ _ _
    repeat with_reducible refine WC.seq ?_
    refine WC.region ?_
    refine WO.op rfl (by simp only [EV, LK, ne_eq, Nat.reduceEqDiff, not_false_eq_true, t3]; rfl) rfl ?_
    refine WO.op rfl (by simp only [EV, LK, ne_eq, Nat.reduceEqDiff, not_false_eq_true, t3]; rfl) rfl ?_
    refine WO.nil ?_
    exact .ret ⟨.inr rfl, [.int .i64 (cntN xs N : Int)], rfl, by rw [cnt, hN]; rfl, rfl⟩
/-- How far two sets are apart. -/
def diff (xs ys : List (BitVec 64)) : List (BitVec 64) := both (fun x y => x &&& ~~~y) xs ys
def apart (xs ys : List (BitVec 64)) : Nat := cnt (both (· ||| ·) (diff xs ys) (diff ys xs))
theorem apart_ret {σ : AH} {a b : Value} {xs ys : List (BitVec 64)} (ha : Vec w64 σ a xs) (hb : Vec w64 σ b ys) (hba : σ.base ≤ σ.size) : Ret Try.prog sm 6 [a, b] σ fun r σ' => r = .int .i64 (apart xs ys : Int) ∧ Since σ.size σ σ' := by
  refine Ret.enter rfl Try.func6 rfl (of_decide_eq_true rfl) ?_
  show WC _ _ _ _ _ _ _
  repeat with_reducible refine WC.seq ?_
  refine WC.region ?_
  refine WO.op rfl (by simp only [EV, LK, ne_eq, Nat.reduceEqDiff, not_false_eq_true]; rfl) rfl ?_
  refine WO.nil ?_
  show WC _ _ _ _ _ _ _
  repeat with_reducible refine WC.seq ?_
  refine WC.region ?_
  refine WO.op rfl (by simp only [EV, LK, ne_eq, Nat.reduceEqDiff, not_false_eq_true]; rfl) rfl ?_
  refine WO.op rfl (by simp only [EV, LK, ne_eq, Nat.reduceEqDiff, not_false_eq_true]; rfl) rfl ?_
  refine WO.call rfl rfl (by simp only [LK, ne_eq, Nat.reduceEqDiff, not_false_eq_true, callee, List.map_cons, List.map_nil]; rfl) ((less2_ret ha hb hba).mono fun u1 σ1 hR => ⟨_, rfl, ?_⟩)
  obtain ⟨h1, hS1⟩ := hR
  refine WO.op rfl (by simp only [EV, LK, ne_eq, Nat.reduceEqDiff, not_false_eq_true]; rfl) rfl ?_
  refine WO.op rfl (by simp only [EV, LK, ne_eq, Nat.reduceEqDiff, not_false_eq_true]; rfl) rfl ?_
  have hb1 := hS1.based hba
  refine WO.call rfl rfl (by simp only [LK, ne_eq, Nat.reduceEqDiff, not_false_eq_true, callee, List.map_cons, List.map_nil]; rfl) ((less2_ret (hb.keeps hS1) (ha.keeps hS1) hb1).mono fun u2 σ1 hR => ⟨_, rfl, ?_⟩)
  obtain ⟨h2, hS2⟩ := hR
  refine WO.call rfl rfl (by simp only [LK, ne_eq, Nat.reduceEqDiff, not_false_eq_true, callee, List.map_cons, List.map_nil]; rfl) ((union_ret (h1.keeps hS2) h2 (hS2.based hb1)).mono fun u3 σ1 hR => ⟨_, rfl, ?_⟩)
  obtain ⟨h3, hS3⟩ := hR
  refine WO.call rfl rfl (by simp only [LK, ne_eq, Nat.reduceEqDiff, not_false_eq_true, callee, List.map_cons, List.map_nil]; rfl) ((count_ret h3).mono fun v σ1 hR => ⟨_, rfl, ?_⟩)
  obtain ⟨rfl, rfl⟩ := hR
  refine WO.op rfl (by simp only [EV, LK, ne_eq, Nat.reduceEqDiff, not_false_eq_true]; rfl) rfl ?_
  refine WO.nil ?_
  exact .ret ⟨.inr rfl, [_], rfl, rfl, (hS1.trans (hS2.mono hS1.size)).trans (hS3.mono (Nat.le_trans hS1.size hS2.size))⟩
