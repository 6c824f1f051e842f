/- What the functions of sets compute. -/
import Derived.Test.YtaclhflmgafobaaS1
import Derived.Test.YtaclhflmgafobaaAbN
namespace Go.Proofs.Ytaclhflmgafobaa
open Go Go.Ab Go.Proofs
set_option linter.unusedSimpArgs false
set_option linter.unusedVariables false
set_option maxRecDepth 20000
theorem sz23 : szOf Try.prog 23 = some 1 := by kernel_rfl
theorem ag23 : isAggT Try.prog 23 = some false := by kernel_rfl
theorem ze23 : zeroOf Try.prog 23 = some (w64 0#64) := by kernel_rfl
theorem et23 : ElemT Try.prog 23 1 8 := ⟨by kernel_rfl, by decide, by decide⟩
theorem cut_ret {σ : AH} {v : Value} {xs : List (BitVec 64)} (h : Vec w64 σ v xs) : Ret Try.prog sm 30 [v] σ fun r σ' => Vec w64 σ r (xs.take 64) ∧ blockOf r = blockOf v ∧ σ' = σ := by
  have hl := h.len Try.underlying25
  have hm : ((min (xs.length : Int) 64).toNat) = min xs.length 64 := by omega
  obtain ⟨r, hr, hv, hb⟩ := h.sliceTo Try.underlying25 sz23 (m := min xs.length 64) (by omega) (by omega) (k := .i64)
  refine Ret.enter rfl Try.func30 rfl (of_decide_eq_true rfl) ?_
  show WC _ _ _ _ _ _ _
  repeat with_reducible refine WC.seq ?_
  refine WC.region ?_
  refine WO.op rfl (by simp only [EV, LK, ne_eq, Nat.reduceEqDiff, not_false_eq_true]; rfl) rfl ?_
  refine WO.nil ?_
  show WC _ _ _ _ _ _ _
  repeat with_reducible refine WC.seq ?_
  refine WC.region ?_
  refine WO.op rfl (by simp only [EV, LK, ne_eq, Nat.reduceEqDiff, not_false_eq_true, hl, hr]; rfl) rfl ?_
  refine WO.op rfl (by simp only [EV, LK, ne_eq, Nat.reduceEqDiff, not_false_eq_true, hl, hr]; rfl) rfl ?_
  refine WO.op rfl (by simp only [EV, LK, ne_eq, Nat.reduceEqDiff, not_false_eq_true, hl, hr]; rfl) rfl ?_
  refine WO.op rfl (by simp only [EV, LK, AR, WR, ne_eq, Nat.reduceEqDiff, not_false_eq_true, hl, hr]; rfl) rfl ?_
  refine WO.op rfl (by simp only [EV, LK, ne_eq, Nat.reduceEqDiff, not_false_eq_true, hl, hr]; rfl) rfl ?_
  refine WO.op rfl (by simp only [EV, LK, ne_eq, Nat.reduceEqDiff, not_false_eq_true, hl, hr]; rfl) rfl ?_
  refine WO.nil ?_
  refine .ret ⟨.inr rfl, [r], rfl, ?_, hb, rfl⟩
  rw [hm] at hv
  rwa [List.take_eq_take_min, Nat.min_comm]
/-- A set's words without the zeros at its end: how many. -/
def trimN (xs : List (BitVec 64)) : Nat → Nat
  | 0 => 0
  | n + 1 => if xs[n]? = some 0#64 then trimN xs n else n + 1
def trim (xs : List (BitVec 64)) : List (BitVec 64) := xs.take (trimN xs xs.length)
theorem trimN_le (xs : List (BitVec 64)) (n : Nat) : trimN xs n ≤ n := by
  induction n with
  | zero => exact Nat.le_refl _
  | succ n ih => simp only [trimN]; split <;> omega
theorem short_ret {σ : AH} {v : Value} {xs : List (BitVec 64)} (h : Vec w64 σ v xs) (hn : xs.length ≤ 1000000) : Ret Try.prog sm 35 [v] σ fun r σ' => Vec w64 σ r (trim xs) ∧ blockOf r = blockOf v ∧ σ' = σ := by
  have hl := h.len Try.underlying25
  refine Ret.enter rfl Try.func35 rfl (of_decide_eq_true rfl) ?_
  show WC _ _ _ _ _ _ _
  repeat with_reducible refine WC.seq ?_
  refine WC.region ?_
  refine WO.op rfl (by simp only [EV, LK, ne_eq, Nat.reduceEqDiff, not_false_eq_true]; rfl) rfl ?_
  refine WO.nil ?_
  show WC _ _ _ _ _ _ _
  repeat with_reducible refine WC.seq ?_
  refine WC.region ?_
  refine WO.op rfl (by simp only [EV, LK, ne_eq, Nat.reduceEqDiff, not_false_eq_true, hl]; rfl) rfl ?_
  refine WO.op rfl (by simp only [EV, LK, ne_eq, Nat.reduceEqDiff, not_false_eq_true, hl]; rfl) rfl ?_
  refine WO.op rfl (by simp only [EV, LK, ne_eq, Nat.reduceEqDiff, not_false_eq_true, hl]; rfl) rfl ?_
  refine WO.nil ?_
  refine WC.while (fun m t σ' => σ' = σ ∧ t 0 = v ∧ t 3 = .int .i64 (m : Int) ∧ m ≤ xs.length ∧ trimN xs xs.length = trimN xs m) (fun t σ' => σ' = σ ∧ t 0 = v ∧ t 3 = .int .i64 (trimN xs xs.length : Int)) xs.length ⟨rfl, (by simp only [LK, ne_eq, Nat.reduceEqDiff, not_false_eq_true]), (by simp only [LK, ne_eq, Nat.reduceEqDiff, not_false_eq_true]), Nat.le_refl _, rfl⟩ ?_ ?_
  · rintro m t _ ⟨rfl, t0, t3, hm, htr⟩
    rcases Nat.eq_zero_or_pos m with rfl | hp
    · have hq : decide ((0 : Int) < ((0 : Nat) : Int)) = false := by decide
      show WC _ _ _ _ _ _ _
      repeat with_reducible refine WC.seq ?_
      refine WC.region ?_
      refine WO.op rfl (by simp only [EV, LK, ne_eq, Nat.reduceEqDiff, not_false_eq_true, t0, t3, hq]; rfl) rfl ?_
      refine WO.op rfl (by simp only [EV, LK, AR, WR, ne_eq, Nat.reduceEqDiff, not_false_eq_true, t0, t3, hq]; rfl) rfl ?_
      refine WO.op rfl (by simp only [EV, LK, ne_eq, Nat.reduceEqDiff, not_false_eq_true, t0, t3, hq]; rfl) rfl ?_
      first | (refine WO.skip (out_t rfl rfl ?_) rfl ?_; focus (simp only [LK, ne_eq, Nat.reduceEqDiff, not_false_eq_true, t0, t3, hq]; done)) | refine WO.op (want_in rfl rfl (by simp only [LK, ne_eq, Nat.reduceEqDiff, not_false_eq_true, t0, t3, hq])) (by simp only [EV, LK, ne_eq, Nat.reduceEqDiff, not_false_eq_true, t0, t3, hq]; rfl) rfl ?_
      first | (refine WO.skip (out_t rfl rfl ?_) rfl ?_; focus (simp only [LK, ne_eq, Nat.reduceEqDiff, not_false_eq_true, t0, t3, hq]; done)) | refine WO.op (want_in rfl rfl (by simp only [LK, ne_eq, Nat.reduceEqDiff, not_false_eq_true, t0, t3, hq])) (by simp only [EV, LK, ne_eq, Nat.reduceEqDiff, not_false_eq_true, t0, t3, hq]; rfl) rfl ?_
      first | (refine WO.skip (out_t rfl rfl ?_) rfl ?_; focus (simp only [LK, ne_eq, Nat.reduceEqDiff, not_false_eq_true, t0, t3, hq]; done)) | refine WO.op (want_in rfl rfl (by simp only [LK, ne_eq, Nat.reduceEqDiff, not_false_eq_true, t0, t3, hq])) (by simp only [EV, LK, AR, WR, ne_eq, Nat.reduceEqDiff, not_false_eq_true, t0, t3, hq]; rfl) rfl ?_
      first | (refine WO.skip (out_t rfl rfl ?_) rfl ?_; focus (simp only [LK, ne_eq, Nat.reduceEqDiff, not_false_eq_true, t0, t3, hq]; done)) | refine WO.op (want_in rfl rfl (by simp only [LK, ne_eq, Nat.reduceEqDiff, not_false_eq_true, t0, t3, hq])) (by simp only [EV, LK, ne_eq, Nat.reduceEqDiff, not_false_eq_true, t0, t3, hq]; rfl) rfl ?_
      first | (refine WO.skip (out_t rfl rfl ?_) rfl ?_; focus (simp only [LK, ne_eq, Nat.reduceEqDiff, not_false_eq_true, t0, t3, hq]; done)) | refine WO.op (want_in rfl rfl (by simp only [LK, ne_eq, Nat.reduceEqDiff, not_false_eq_true, t0, t3, hq])) (by simp only [EV, LK, ne_eq, Nat.reduceEqDiff, not_false_eq_true, t0, t3, hq]; rfl) rfl ?_
      first | (refine WO.skip (out_t rfl rfl ?_) rfl ?_; focus (simp only [LK, ne_eq, Nat.reduceEqDiff, not_false_eq_true, t0, t3, hq]; done)) | refine WO.op (want_in rfl rfl (by simp only [LK, ne_eq, Nat.reduceEqDiff, not_false_eq_true, t0, t3, hq])) (by simp only [EV, LK, AR, WR, ne_eq, Nat.reduceEqDiff, not_false_eq_true, t0, t3, hq]; rfl) rfl ?_
      refine WO.op rfl (by simp only [EV, LK, ne_eq, Nat.reduceEqDiff, not_false_eq_true, t0, t3, hq]; rfl) rfl ?_
      refine WO.nil ?_
      show WC _ _ _ _ _ _ _
      repeat with_reducible refine WC.seq ?_
      refine WC.condF (by simp only [LK, ne_eq, Nat.reduceEqDiff, not_false_eq_true, hq, t0, t3, decide_true, decide_false, decide_not, Bool.not_true, Bool.not_false]) ?_
      exact .exit ⟨rfl, (by simp only [LK, ne_eq, Nat.reduceEqDiff, not_false_eq_true, t0]), (by simp only [LK, ne_eq, Nat.reduceEqDiff, not_false_eq_true, t3, htr, trimN])⟩
    · obtain ⟨k, rfl⟩ : ∃ k, m = k + 1 := ⟨m - 1, by omega⟩
      have hq : decide ((0 : Int) < ((k + 1 : Nat) : Int)) = true := decide_eq_true (by omega)
      have hw : IntKind.i64.wrap (((k + 1 : Nat) : Int) - 1) = (k : Int) := by rw [wrap_i64 (by omega) (by omega)]; omega
      obtain ⟨p, hp1, _, hp2⟩ := h.elem Try.underlying25 sz23 ag23 (i := (k : Int)) (k := .i64) (by omega) (x := xs[k]) (List.getElem?_eq_getElem (by omega))
      show WC _ _ _ _ _ _ _
      repeat with_reducible refine WC.seq ?_
      refine WC.region ?_
      refine WO.op rfl (by simp only [EV, LK, ne_eq, Nat.reduceEqDiff, not_false_eq_true, t0, t3, hq, hw, hp1, hp2]; rfl) rfl ?_
      refine WO.op rfl (by simp only [EV, LK, AR, WR, ne_eq, Nat.reduceEqDiff, not_false_eq_true, t0, t3, hq, hw, hp1, hp2]; rfl) rfl ?_
      refine WO.op rfl (by simp only [EV, LK, ne_eq, Nat.reduceEqDiff, not_false_eq_true, t0, t3, hq, hw, hp1, hp2]; rfl) rfl ?_
      first | (refine WO.skip (out_t rfl rfl ?_) rfl ?_; focus (simp only [LK, ne_eq, Nat.reduceEqDiff, not_false_eq_true, t0, t3, hq, hw, hp1, hp2]; done)) | refine WO.op (want_in rfl rfl (by simp only [LK, ne_eq, Nat.reduceEqDiff, not_false_eq_true, t0, t3, hq, hw, hp1, hp2])) (by simp only [EV, LK, ne_eq, Nat.reduceEqDiff, not_false_eq_true, t0, t3, hq, hw, hp1, hp2]; rfl) rfl ?_
      first | (refine WO.skip (out_t rfl rfl ?_) rfl ?_; focus (simp only [LK, ne_eq, Nat.reduceEqDiff, not_false_eq_true, t0, t3, hq, hw, hp1, hp2]; done)) | refine WO.op (want_in rfl rfl (by simp only [LK, ne_eq, Nat.reduceEqDiff, not_false_eq_true, t0, t3, hq, hw, hp1, hp2])) (by simp only [EV, LK, ne_eq, Nat.reduceEqDiff, not_false_eq_true, t0, t3, hq, hw, hp1, hp2]; rfl) rfl ?_
      first | (refine WO.skip (out_t rfl rfl ?_) rfl ?_; focus (simp only [LK, ne_eq, Nat.reduceEqDiff, not_false_eq_true, t0, t3, hq, hw, hp1, hp2]; done)) | refine WO.op (want_in rfl rfl (by simp only [LK, ne_eq, Nat.reduceEqDiff, not_false_eq_true, t0, t3, hq, hw, hp1, hp2])) (by simp only [EV, LK, AR, WR, ne_eq, Nat.reduceEqDiff, not_false_eq_true, t0, t3, hq, hw, hp1, hp2]; rfl) rfl ?_
      first | (refine WO.skip (out_t rfl rfl ?_) rfl ?_; focus (simp only [LK, ne_eq, Nat.reduceEqDiff, not_false_eq_true, t0, t3, hq, hw, hp1, hp2]; done)) | refine WO.op (want_in rfl rfl (by simp only [LK, ne_eq, Nat.reduceEqDiff, not_false_eq_true, t0, t3, hq, hw, hp1, hp2])) (by simp only [EV, LK, ne_eq, Nat.reduceEqDiff, not_false_eq_true, t0, t3, hq, hw, hp1, hp2]; rfl) rfl ?_
      first | (refine WO.skip (out_t rfl rfl ?_) rfl ?_; focus (simp only [LK, ne_eq, Nat.reduceEqDiff, not_false_eq_true, t0, t3, hq, hw, hp1, hp2]; done)) | refine WO.op (want_in rfl rfl (by simp only [LK, ne_eq, Nat.reduceEqDiff, not_false_eq_true, t0, t3, hq, hw, hp1, hp2])) (by simp only [EV, LK, ne_eq, Nat.reduceEqDiff, not_false_eq_true, t0, t3, hq, hw, hp1, hp2]; rfl) rfl ?_
      first | (refine WO.skip (out_t rfl rfl ?_) rfl ?_; focus (simp only [LK, ne_eq, Nat.reduceEqDiff, not_false_eq_true, t0, t3, hq, hw, hp1, hp2]; done)) | refine WO.op (want_in rfl rfl (by simp only [LK, ne_eq, Nat.reduceEqDiff, not_false_eq_true, t0, t3, hq, hw, hp1, hp2])) (by simp only [EV, LK, AR, WR, ne_eq, Nat.reduceEqDiff, not_false_eq_true, t0, t3, hq, hw, hp1, hp2]; rfl) rfl ?_
      refine WO.op rfl (by simp only [EV, LK, ne_eq, Nat.reduceEqDiff, not_false_eq_true, t0, t3, hq, hw, hp1, hp2]; rfl) rfl ?_
      refine WO.nil ?_
      by_cases hz : xs[k] = 0#64
      · show WC _ _ _ _ _ _ _
        repeat with_reducible refine WC.seq ?_
        refine WC.condT (by simp only [LK, ne_eq, Nat.reduceEqDiff, not_false_eq_true, hz, decide_true, decide_false, decide_not, Bool.not_true, Bool.not_false]) ?_
        refine WC.skip ?_
        refine WC.block ?_
        show WC _ _ _ _ _ _ _
        repeat with_reducible refine WC.seq ?_
        refine WC.region ?_
        refine WO.op rfl (by simp only [EV, LK, ne_eq, Nat.reduceEqDiff, not_false_eq_true, t3, hw]; rfl) rfl ?_
        refine WO.op rfl (by simp only [EV, LK, AR, WR, ne_eq, Nat.reduceEqDiff, not_false_eq_true, t3, hw]; rfl) rfl ?_
        refine WO.op rfl (by simp only [EV, LK, ne_eq, Nat.reduceEqDiff, not_false_eq_true, t3, hw]; rfl) rfl ?_
        refine WO.nil ?_
        refine ⟨k, by omega, rfl, (by simp only [LK, ne_eq, Nat.reduceEqDiff, not_false_eq_true, t0]), (by simp only [LK, ne_eq, Nat.reduceEqDiff, not_false_eq_true]), by omega, ?_⟩
        rw [htr, trimN, if_pos (by rw [List.getElem?_eq_getElem (by omega), hz])]
      · show WC _ _ _ _ _ _ _
        repeat with_reducible refine WC.seq ?_
        refine WC.condF (by simp only [LK, ne_eq, Nat.reduceEqDiff, not_false_eq_true, hz, decide_true, decide_false, decide_not, Bool.not_true, Bool.not_false]) ?_
        refine .exit ⟨rfl, (by simp only [LK, ne_eq, Nat.reduceEqDiff, not_false_eq_true, t0]), ?_⟩
        rw [htr, trimN, if_neg (by rw [List.getElem?_eq_getElem (by omega)]; simpa using hz)]
        simp only [LK, ne_eq, Nat.reduceEqDiff, not_false_eq_true, t3]
  · rintro t _ ⟨rfl, t0, t3⟩
    obtain ⟨r, hr, hv, hb⟩ := h.sliceTo Try.underlying25 sz23 (m := trimN xs xs.length) (by omega) (by have := trimN_le xs xs.length; omega) (k := .i64)
    show WC _ _ _ _ _ _ _
    repeat with_reducible refine WC.seq ?_
    refine WC.region ?_
    refine WO.op rfl (by simp only [EV, LK, ne_eq, Nat.reduceEqDiff, not_false_eq_true, t0, t3, hr]; rfl) rfl ?_
    refine WO.op rfl (by simp only [EV, LK, ne_eq, Nat.reduceEqDiff, not_false_eq_true, t0, t3, hr]; rfl) rfl ?_
    refine WO.op rfl (by simp only [EV, LK, ne_eq, Nat.reduceEqDiff, not_false_eq_true, t0, t3, hr]; rfl) rfl ?_
    refine WO.op rfl (by simp only [EV, LK, ne_eq, Nat.reduceEqDiff, not_false_eq_true, t0, t3, hr]; rfl) rfl ?_
    refine WO.nil ?_
    exact .ret ⟨.inr rfl, [r], rfl, by simpa [trim, tupleOf] using hv, hb, rfl⟩
