/- Are two sets one? -/
import Derived.Test.YtaclhflmgafobaaL2
namespace Go.Proofs.Ytaclhflmgafobaa
open Go Go.Ab Go.Proofs
set_option linter.unusedSimpArgs false
set_option linter.unusedVariables false
set_option maxRecDepth 20000
theorem same_ret {σ : AH} {a b : Value} {xs ys : W} (ha : Vec w64 σ a xs) (hb : Vec w64 σ b ys) (hlen : xs.length ≤ 1000000) : Ret Try.prog sm 10 [a, b] σ fun r σ' => r = .bool (decide (xs = ys)) ∧ σ' = σ := by
  have hla := ha.len Try.underlying25
  have hlb := hb.len Try.underlying25
  refine Ret.enter rfl Try.func10 rfl (of_decide_eq_true rfl) ?_
  show WC _ _ _ _ _ _ _
  repeat with_reducible refine WC.seq ?_
  refine WC.region ?_
  refine WO.op rfl (by simp only [EV, LK, ne_eq, Nat.reduceEqDiff, not_false_eq_true]; rfl) rfl ?_
  refine WO.nil ?_
  by_cases he : (xs.length : Int) = (ys.length : Int)
  · have hq : decide (¬ (xs.length : Int) = (ys.length : Int)) = false := decide_eq_false (not_not_intro he)
    have hlen' : xs.length = ys.length := by omega
    show WC _ _ _ _ _ _ _
    repeat with_reducible refine WC.seq ?_
    refine WC.region ?_
    refine WO.op rfl (by simp only [EV, LK, ne_eq, Nat.reduceEqDiff, not_false_eq_true, hla, hlb, hq]; rfl) rfl ?_
    refine WO.op rfl (by simp only [EV, LK, ne_eq, Nat.reduceEqDiff, not_false_eq_true, hla, hlb, hq]; rfl) rfl ?_
    refine WO.op rfl (by simp only [EV, LK, ne_eq, Nat.reduceEqDiff, not_false_eq_true, hla, hlb, hq]; rfl) rfl ?_
    refine WO.op rfl (by simp only [EV, LK, ne_eq, Nat.reduceEqDiff, not_false_eq_true, hla, hlb, hq]; rfl) rfl ?_
    refine WO.op rfl (by simp only [EV, LK, AR, WR, ne_eq, Nat.reduceEqDiff, not_false_eq_true, hla, hlb, hq]; rfl) rfl ?_
    refine WO.nil ?_
    show WC _ _ _ _ _ _ _
    repeat with_reducible refine WC.seq ?_
    refine WC.condF (by simp only [LK, ne_eq, Nat.reduceEqDiff, not_false_eq_true, decide_true, decide_false, decide_not, Bool.not_true, Bool.not_false]) ?_
    refine WC.skip ?_
    show WC _ _ _ _ _ _ _
    repeat with_reducible refine WC.seq ?_
    refine WC.region ?_
    refine WO.op rfl (by simp only [EV, LK, ne_eq, Nat.reduceEqDiff, not_false_eq_true, hla]; rfl) rfl ?_
    refine WO.op rfl (by simp only [EV, LK, ne_eq, Nat.reduceEqDiff, not_false_eq_true, hla]; rfl) rfl ?_
    refine WO.op rfl (by simp only [EV, LK, ne_eq, Nat.reduceEqDiff, not_false_eq_true, hla]; rfl) rfl ?_
    refine WO.nil ?_
    show WC _ _ _ _ _ _ _
    repeat with_reducible refine WC.seq ?_
    refine WC.loops (fun m t σ2 => ∃ i, m = xs.length - i ∧ i ≤ xs.length ∧ σ2 = σ ∧ (∀ j, j < i → wd xs j = wd ys j) ∧ t 0 = a ∧ t 1 = b ∧ t 12 = .int .i64 (xs.length : Int) ∧ t 13 = .int .i64 (i : Int)) (fun t σ2 => σ2 = σ ∧ (∀ j, j < xs.length → wd xs j = wd ys j)) xs.length ?_ ?_ ?_
    · exact ⟨0, rfl, Nat.zero_le _, rfl, fun j hj => absurd hj (by omega), (by simp only [LK, ne_eq, Nat.reduceEqDiff, not_false_eq_true]), (by simp only [LK, ne_eq, Nat.reduceEqDiff, not_false_eq_true]), (by simp only [LK, ne_eq, Nat.reduceEqDiff, not_false_eq_true]), (by simp only [LK, ne_eq, Nat.reduceEqDiff, not_false_eq_true]; rfl)⟩
    · rintro m t σ ⟨i, rfl, hi, rfl, heq, t0, t1, t12, t13⟩
      by_cases hiN : i < xs.length
      · have hq : decide ((i : Int) < (xs.length : Int)) = true := decide_eq_true (by omega)
        show WC _ _ _ _ _ _ _
        repeat with_reducible refine WC.seq ?_
        refine WC.region ?_
        refine WO.op rfl (by simp only [EV, LK, AR, WR, ne_eq, Nat.reduceEqDiff, not_false_eq_true, t0, t1, t12, t13, hq]; rfl) rfl ?_
        refine WO.nil ?_
        show WC _ _ _ _ _ _ _
        repeat with_reducible refine WC.seq ?_
        refine WC.condT (by simp only [LK, ne_eq, Nat.reduceEqDiff, not_false_eq_true, t0, t1, t12, t13, decide_true, decide_false, decide_not, Bool.not_true, Bool.not_false]) ?_
        refine WC.skip ?_
        obtain ⟨p, hp1, hp2, _⟩ := ha.elem Try.underlying25 sz23 ag23 (i := (i : Int)) (k := .i64) (by omega) (getD_some (by omega) 0#64)
        obtain ⟨q, hq1, hq2, _⟩ := hb.elem Try.underlying25 sz23 ag23 (i := (i : Int)) (k := .i64) (by omega) (getD_some (by omega) 0#64)
        have hp3 : ∀ n, aLoad Try.prog 23 p (σ.withBase n) = some (w64 (wd xs i)) := fun n => hp2 _ fun _ _ => rfl
        have hq3 : ∀ n, aLoad Try.prog 23 q (σ.withBase n) = some (w64 (wd ys i)) := fun n => hq2 _ fun _ _ => rfl
        have hw : IntKind.i64.wrap ((i : Int) + 1) = ((i + 1 : Nat) : Int) := by rw [wrap_i64 (by omega) (by omega)]; omega
        refine WC.seq ?_
        refine WC.block ?_
        show WC _ _ _ _ _ _ _
        repeat with_reducible refine WC.seq ?_
        refine WC.region ?_
        refine WO.op rfl (by simp only [EV, LK, ne_eq, Nat.reduceEqDiff, not_false_eq_true, t0, t1, t12, t13]; rfl) rfl ?_
        refine WO.op rfl (by simp only [EV, LK, ne_eq, Nat.reduceEqDiff, not_false_eq_true, t0, t1, t12, t13]; rfl) rfl ?_
        refine WO.nil ?_
        by_cases hx : wd xs i = wd ys i
        · have hz : decide (¬ wd xs i = wd ys i) = false := decide_eq_false (not_not_intro hx)
          show WC _ _ _ _ _ _ _
          repeat with_reducible refine WC.seq ?_
          refine WC.draw (fr := [false, false, false, false, false, false, false, false, true]) (by kernel_rfl) (by kernel_rfl) ?_
          refine WD.same rfl (fun n => by simp only [EV, LK, ne_eq, Nat.reduceEqDiff, not_false_eq_true, t0, t1, t12, t13, hp1, hq1, hp3, hq3, hz]; rfl) rfl ?_
          refine WD.same rfl (fun n => by simp only [EV, LK, ne_eq, Nat.reduceEqDiff, not_false_eq_true, t0, t1, t12, t13, hp1, hq1, hp3, hq3, hz]; rfl) rfl ?_
          refine WD.same rfl (fun n => by simp only [EV, LK, ne_eq, Nat.reduceEqDiff, not_false_eq_true, t0, t1, t12, t13, hp1, hq1, hp3, hq3, hz]; rfl) rfl ?_
          refine WD.same rfl (fun n => by simp only [EV, LK, ne_eq, Nat.reduceEqDiff, not_false_eq_true, t0, t1, t12, t13, hp1, hq1, hp3, hq3, hz]; rfl) rfl ?_
          refine WD.same rfl (fun n => by simp only [EV, LK, ne_eq, Nat.reduceEqDiff, not_false_eq_true, t0, t1, t12, t13, hp1, hq1, hp3, hq3, hz]; rfl) rfl ?_
          refine WD.same rfl (fun n => by simp only [EV, LK, ne_eq, Nat.reduceEqDiff, not_false_eq_true, t0, t1, t12, t13, hp1, hq1, hp3, hq3, hz]; rfl) rfl ?_
          refine WD.same rfl (fun n => by simp only [EV, LK, ne_eq, Nat.reduceEqDiff, not_false_eq_true, t0, t1, t12, t13, hp1, hq1, hp3, hq3, hz]; rfl) rfl ?_
          refine WD.same rfl (fun n => by simp only [EV, LK, ne_eq, Nat.reduceEqDiff, not_false_eq_true, t0, t1, t12, t13, hp1, hq1, hp3, hq3, hz]; rfl) rfl ?_
          refine WD.same rfl (fun n => by simp only [EV, LK, AR, WR, ne_eq, Nat.reduceEqDiff, not_false_eq_true, t0, t1, t12, t13, hp1, hq1, hp3, hq3, hz]; rfl) rfl ?_
          refine WD.nil ?_
          show WC _ _ _ _ _ _ _
          repeat with_reducible refine WC.seq ?_
          refine WC.condF (by simp only [LK, ne_eq, Nat.reduceEqDiff, not_false_eq_true, t0, t1, t12, t13, decide_true, decide_false, decide_not, Bool.not_true, Bool.not_false]) ?_
          refine WC.skip ?_
          show WC _ _ _ _ _ _ _
          repeat with_reducible refine WC.seq ?_
          refine WC.region ?_
          refine WO.op rfl (by simp only [EV, LK, AR, WR, ne_eq, Nat.reduceEqDiff, not_false_eq_true, t0, t1, t12, t13, hw]; rfl) rfl ?_
          refine WO.op rfl (by simp only [EV, LK, ne_eq, Nat.reduceEqDiff, not_false_eq_true, t0, t1, t12, t13, hw]; rfl) rfl ?_
          refine WO.nil ?_
          refine ⟨xs.length - (i + 1), by omega, i + 1, rfl, by omega, rfl, fun j hj => ?_, (by simp only [LK, ne_eq, Nat.reduceEqDiff, not_false_eq_true, t0, t1, t12, t13]), (by simp only [LK, ne_eq, Nat.reduceEqDiff, not_false_eq_true, t0, t1, t12, t13]), (by simp only [LK, ne_eq, Nat.reduceEqDiff, not_false_eq_true, t0, t1, t12, t13]), (by simp only [LK, ne_eq, Nat.reduceEqDiff, not_false_eq_true, t0, t1, t12, t13])⟩
          rcases Nat.lt_or_ge j i with h1 | h1
          · exact heq j h1
          · obtain rfl : j = i := by omega
            exact hx
        · have hz : decide (¬ wd xs i = wd ys i) = true := decide_eq_true hx
          show WC _ _ _ _ _ _ _
          repeat with_reducible refine WC.seq ?_
          refine WC.draw (fr := [false, false, false, false, false, false, false, false, true]) (by kernel_rfl) (by kernel_rfl) ?_
          refine WD.same rfl (fun n => by simp only [EV, LK, ne_eq, Nat.reduceEqDiff, not_false_eq_true, t0, t1, t12, t13, hp1, hq1, hp3, hq3, hz]; rfl) rfl ?_
          refine WD.same rfl (fun n => by simp only [EV, LK, ne_eq, Nat.reduceEqDiff, not_false_eq_true, t0, t1, t12, t13, hp1, hq1, hp3, hq3, hz]; rfl) rfl ?_
          refine WD.same rfl (fun n => by simp only [EV, LK, ne_eq, Nat.reduceEqDiff, not_false_eq_true, t0, t1, t12, t13, hp1, hq1, hp3, hq3, hz]; rfl) rfl ?_
          refine WD.same rfl (fun n => by simp only [EV, LK, ne_eq, Nat.reduceEqDiff, not_false_eq_true, t0, t1, t12, t13, hp1, hq1, hp3, hq3, hz]; rfl) rfl ?_
          refine WD.same rfl (fun n => by simp only [EV, LK, ne_eq, Nat.reduceEqDiff, not_false_eq_true, t0, t1, t12, t13, hp1, hq1, hp3, hq3, hz]; rfl) rfl ?_
          refine WD.same rfl (fun n => by simp only [EV, LK, ne_eq, Nat.reduceEqDiff, not_false_eq_true, t0, t1, t12, t13, hp1, hq1, hp3, hq3, hz]; rfl) rfl ?_
          refine WD.same rfl (fun n => by simp only [EV, LK, ne_eq, Nat.reduceEqDiff, not_false_eq_true, t0, t1, t12, t13, hp1, hq1, hp3, hq3, hz]; rfl) rfl ?_
          refine WD.same rfl (fun n => by simp only [EV, LK, ne_eq, Nat.reduceEqDiff, not_false_eq_true, t0, t1, t12, t13, hp1, hq1, hp3, hq3, hz]; rfl) rfl ?_
          refine WD.same rfl (fun n => by simp only [EV, LK, AR, WR, ne_eq, Nat.reduceEqDiff, not_false_eq_true, t0, t1, t12, t13, hp1, hq1, hp3, hq3, hz]; rfl) rfl ?_
          refine WD.nil ?_
          show WC _ _ _ _ _ _ _
          repeat with_reducible refine WC.seq ?_
          refine WC.condT (by simp only [LK, ne_eq, Nat.reduceEqDiff, not_false_eq_true, t0, t1, t12, t13, decide_true, decide_false, decide_not, Bool.not_true, Bool.not_false]) ?_
          show WC _ _ _ _ _ _ _
          repeat with_reducible refine WC.seq ?_
          refine WC.region ?_
          refine WO.op rfl (by simp only [EV, LK, ne_eq, Nat.reduceEqDiff, not_false_eq_true, t0, t1, t12, t13]; rfl) rfl ?_
          refine WO.nil ?_
          refine .ret ⟨.inr rfl, [.bool false], rfl, ?_, rfl⟩
          rw [decide_eq_false (fun h => hx (by rw [h]))]; rfl
      · have hq : decide ((i : Int) < (xs.length : Int)) = false := decide_eq_false (by omega)
        obtain rfl : i = xs.length := by omega
        show WC _ _ _ _ _ _ _
        repeat with_reducible refine WC.seq ?_
        refine WC.region ?_
        refine WO.op rfl (by simp only [EV, LK, AR, WR, ne_eq, Nat.reduceEqDiff, not_false_eq_true, t0, t1, t12, t13, hq]; rfl) rfl ?_
        refine WO.nil ?_
        show WC _ _ _ _ _ _ _
        repeat with_reducible refine WC.seq ?_
        refine WC.condF (by simp only [LK, ne_eq, Nat.reduceEqDiff, not_false_eq_true, t0, t1, t12, t13, decide_true, decide_false, decide_not, Bool.not_true, Bool.not_false]) ?_
        exact .exit ⟨rfl, heq⟩
    · rintro t σ ⟨rfl, heq⟩
      show WC _ _ _ _ _ _ _
      repeat with_reducible refine WC.seq ?_
      refine WC.region ?_
      refine WO.op rfl (by simp only [EV, LK, ne_eq, Nat.reduceEqDiff, not_false_eq_true]; rfl) rfl ?_
      refine WO.nil ?_
      refine .ret ⟨.inr rfl, [.bool true], rfl, ?_, rfl⟩
      rw [decide_eq_true]
      · rfl
      · apply List.ext_getElem hlen'
        intro i h1 h2
        have := heq i h1
        simpa [wd, List.getD, h1, h2] using this
  · have hd : xs ≠ ys := fun h => he (by rw [h])
    have hq : decide (¬ (xs.length : Int) = (ys.length : Int)) = true := decide_eq_true he
    show WC _ _ _ _ _ _ _
    repeat with_reducible refine WC.seq ?_
    refine WC.region ?_
    refine WO.op rfl (by simp only [EV, LK, ne_eq, Nat.reduceEqDiff, not_false_eq_true, hla, hlb, hq]; rfl) rfl ?_
    refine WO.op rfl (by simp only [EV, LK, ne_eq, Nat.reduceEqDiff, not_false_eq_true, hla, hlb, hq]; rfl) rfl ?_
    refine WO.op rfl (by simp only [EV, LK, ne_eq, Nat.reduceEqDiff, not_false_eq_true, hla, hlb, hq]; rfl) rfl ?_
    refine WO.op rfl (by simp only [EV, LK, ne_eq, Nat.reduceEqDiff, not_false_eq_true, hla, hlb, hq]; rfl) rfl ?_
    refine WO.op rfl (by simp only [EV, LK, AR, WR, ne_eq, Nat.reduceEqDiff, not_false_eq_true, hla, hlb, hq]; rfl) rfl ?_
    refine WO.nil ?_
    show WC _ _ _ _ _ _ _
    repeat with_reducible refine WC.seq ?_
    refine WC.condT (by simp only [LK, ne_eq, Nat.reduceEqDiff, not_false_eq_true, decide_true, decide_false, decide_not, Bool.not_true, Bool.not_false]) ?_
    show WC _ _ _ _ _ _ _
    repeat with_reducible refine WC.seq ?_
    refine WC.region ?_
    refine WO.op rfl (by simp only [EV, LK, ne_eq, Nat.reduceEqDiff, not_false_eq_true]; rfl) rfl ?_
    refine WO.nil ?_
    refine .ret ⟨.inr rfl, [.bool false], rfl, ?_, rfl⟩
    rw [decide_eq_false hd]; rfl
