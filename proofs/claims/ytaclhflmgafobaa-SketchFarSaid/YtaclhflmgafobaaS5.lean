/- A set of numbers; what is in it. -/
import Derived.Test.YtaclhflmgafobaaS4
namespace Go.Proofs.Ytaclhflmgafobaa
open Go Go.Ab Go.Proofs
set_option linter.unusedSimpArgs false
set_option linter.unusedVariables false
set_option maxRecDepth 20000
theorem sz3 : szOf Try.prog 3 = some 1 := by kernel_rfl
theorem ag3 : isAggT Try.prog 3 = some false := by kernel_rfl
theorem ze3 : zeroOf Try.prog 3 = some (.int .i64 0) := by kernel_rfl
theorem et3 : ElemT Try.prog 3 1 8 := ⟨by kernel_rfl, by decide, by decide⟩
abbrev Ints (σ : AH) (v : Value) (l : List Int) : Prop := Vec (Value.int .i64) σ v l
/-- The most number below the bound, and one. -/
def mostN (l : List Int) : Nat → Int
  | 0 => 0
  | i + 1 => if l.getD i 0 < 4096 then max (mostN l i) (l.getD i 0 + 1) else mostN l i
theorem mostN_rng (l : List Int) (i : Nat) : 0 ≤ mostN l i ∧ mostN l i ≤ 4096 := by
  induction i with
  | zero => exact ⟨Int.le_refl _, show (0 : Int) ≤ 4096 by decide⟩
  | succ i ih => simp only [mostN]; split <;> omega
theorem mostN_mono (l : List Int) (i j : Nat) (h : i ≤ j) : mostN l i ≤ mostN l j := by
  induction j with
  | zero => obtain rfl : i = 0 := by omega
            exact Int.le_refl _
  | succ j ih =>
    rcases Nat.lt_or_ge j i with hj | hj
    · obtain rfl : i = j + 1 := by omega
      exact Int.le_refl _
    · have := ih hj
      simp only [mostN]; split <;> omega
theorem mostN_ge (l : List Int) (i j : Nat) (h : i < j) (h1 : l.getD i 0 < 4096) : l.getD i 0 + 1 ≤ mostN l j := by
  refine Int.le_trans ?_ (mostN_mono l (i + 1) j h)
  rw [mostN, if_pos h1]; omega
def wordsN (l : List Int) : Nat := ((mostN l l.length + 63) / 64).toNat
def setBit (xs : List (BitVec 64)) (n : Nat) : List (BitVec 64) := xs.set (n / 64) (xs.getD (n / 64) 0#64 ||| (BitVec.ofInt 64 1 <<< (n % 64)))
def outN (l : List Int) : Nat → List (BitVec 64)
  | 0 => List.replicate (wordsN l) 0#64
  | i + 1 => if 0 ≤ l.getD i 0 ∧ l.getD i 0 < 4096 then setBit (outN l i) (l.getD i 0).toNat else outN l i
theorem outN_len (l : List Int) (i : Nat) : (outN l i).length = wordsN l := by
  induction i with
  | zero => simp [outN]
  | succ i ih => simp only [outN]; split <;> simp [setBit, ih]
def setOf (l : List Int) : List (BitVec 64) := trim (outN l l.length)
theorem wordsN_le (l : List Int) : wordsN l ≤ 64 := by have := mostN_rng l l.length; unfold wordsN; omega
theorem of_ret {σ : AH} {v : Value} {l : List Int} (h : Ints σ v l) (hlen : l.length ≤ 100000) (hlo : ∀ x ∈ l, -9223372036854775808 ≤ x) (hba : σ.base ≤ σ.size) : Ret Try.prog sm 20 [v] σ fun r σ' => Vec w64 σ' r (setOf l) ∧ Since σ.size σ σ' := by
  have hl := h.len Try.underlying32
  refine Ret.enter rfl Try.func20 rfl (of_decide_eq_true rfl) ?_
  show WC _ _ _ _ _ _ _
  repeat with_reducible refine WC.seq ?_
  refine WC.region ?_
  refine WO.op rfl (by simp only [EV, LK, ne_eq, Nat.reduceEqDiff, not_false_eq_true]; rfl) rfl ?_
  refine WO.nil ?_
  show WC _ _ _ _ _ _ _
  repeat with_reducible refine WC.seq ?_
  refine WC.region ?_
  refine WO.op rfl (by simp only [EV, LK, ne_eq, Nat.reduceEqDiff, not_false_eq_true]; rfl) rfl ?_
  refine WO.nil ?_
  show WC _ _ _ _ _ _ _
  repeat with_reducible refine WC.seq ?_
  refine WC.region ?_
  refine WO.op rfl (by simp only [EV, LK, ne_eq, Nat.reduceEqDiff, not_false_eq_true, hl]; rfl) rfl ?_
  refine WO.op rfl (by simp only [EV, LK, ne_eq, Nat.reduceEqDiff, not_false_eq_true, hl]; rfl) rfl ?_
  refine WO.op rfl (by simp only [EV, LK, ne_eq, Nat.reduceEqDiff, not_false_eq_true, hl]; rfl) rfl ?_
  refine WO.nil ?_
  show WC _ _ _ _ _ _ _
  repeat with_reducible refine WC.seq ?_
  refine WC.loops (fun m t σ2 => ∃ i, m = l.length - i ∧ i ≤ l.length ∧ σ2 = σ ∧ t 0 = v ∧ t 3 = .int .i64 (mostN l i) ∧ t 9 = v ∧ t 10 = .int .i64 (l.length : Int) ∧ t 11 = .int .i64 (i : Int)) (fun t σ2 => σ2 = σ ∧ t 0 = v ∧ t 3 = .int .i64 (mostN l l.length)) l.length ?_ ?_ ?_
  · exact ⟨0, rfl, Nat.zero_le _, rfl, (by simp only [LK, ne_eq, Nat.reduceEqDiff, not_false_eq_true]), (by simp only [LK, ne_eq, Nat.reduceEqDiff, not_false_eq_true]; rfl), (by simp only [LK, ne_eq, Nat.reduceEqDiff, not_false_eq_true]), (by simp only [LK, ne_eq, Nat.reduceEqDiff, not_false_eq_true]), (by simp only [LK, ne_eq, Nat.reduceEqDiff, not_false_eq_true]; rfl)⟩
  · rintro m t σ ⟨i, rfl, hi, rfl, t0, t3, t9, t10, t11⟩
    by_cases hiN : i < l.length
    · have hq : decide ((i : Int) < (l.length : Int)) = true := decide_eq_true (by omega)
      show WC _ _ _ _ _ _ _
      repeat with_reducible refine WC.seq ?_
      refine WC.region ?_
      refine WO.op rfl (by simp only [EV, LK, AR, WR, ne_eq, Nat.reduceEqDiff, not_false_eq_true, t0, t3, t9, t10, t11, hq]; rfl) rfl ?_
      refine WO.nil ?_
      show WC _ _ _ _ _ _ _
      repeat with_reducible refine WC.seq ?_
      refine WC.condT (by simp only [LK, ne_eq, Nat.reduceEqDiff, not_false_eq_true, t0, t3, t9, t10, t11, decide_true, decide_false, decide_not, Bool.not_true, Bool.not_false]) ?_
      refine WC.skip ?_
      have hx : l[((i : Int)).toNat]? = some (l.getD i 0) := by
        rw [Int.toNat_natCast, List.getElem?_eq_getElem hiN]; simp [List.getD, hiN]
      obtain ⟨p, hp1, _, hp2⟩ := h.elem Try.underlying32 sz3 ag3 (i := (i : Int)) (k := .i64) (by omega) hx
      have hlo' : -9223372036854775808 ≤ l.getD i 0 := hlo _ (List.mem_of_getElem? hx)
      have hw : IntKind.i64.wrap ((i : Int) + 1) = ((i + 1 : Nat) : Int) := by rw [wrap_i64 (by omega) (by omega)]; omega
      refine WC.seq ?_
      refine WC.to (fun t' σ2 => σ2 = σ ∧ t' 0 = v ∧ t' 3 = .int .i64 (mostN l (i + 1)) ∧ t' 9 = v ∧ t' 10 = .int .i64 (l.length : Int) ∧ t' 11 = .int .i64 (i : Int)) ?_ ?_
      · refine WC.block ?_
        show WC _ _ _ _ _ _ _
        repeat with_reducible refine WC.seq ?_
        refine WC.region ?_
        refine WO.op rfl (by simp only [EV, LK, ne_eq, Nat.reduceEqDiff, not_false_eq_true, t0, t3, t9, t10, t11, hp1, hp2]; rfl) rfl ?_
        refine WO.op rfl (by simp only [EV, LK, ne_eq, Nat.reduceEqDiff, not_false_eq_true, t0, t3, t9, t10, t11, hp1, hp2]; rfl) rfl ?_
        refine WO.op rfl (by simp only [EV, LK, ne_eq, Nat.reduceEqDiff, not_false_eq_true, t0, t3, t9, t10, t11, hp1, hp2]; rfl) rfl ?_
        refine WO.nil ?_
        show WC _ _ _ _ _ _ _
        repeat with_reducible refine WC.seq ?_
        refine WC.region ?_
        refine WO.op rfl (by simp only [EV, LK, ne_eq, Nat.reduceEqDiff, not_false_eq_true, t0, t3, t9, t10, t11]; rfl) rfl ?_
        refine WO.op rfl (by simp only [EV, LK, AR, WR, ne_eq, Nat.reduceEqDiff, not_false_eq_true, t0, t3, t9, t10, t11]; rfl) rfl ?_
        refine WO.nil ?_
        by_cases hx4 : l.getD i 0 < 4096
        · have hw1 : IntKind.i64.wrap (l.getD i 0 + 1) = l.getD i 0 + 1 := wrap_i64 (by omega) (by omega)
          show WC _ _ _ _ _ _ _
          repeat with_reducible refine WC.seq ?_
          refine WC.condT (by simp only [LK, ne_eq, Nat.reduceEqDiff, not_false_eq_true, t0, t3, t9, t10, t11, hx4, decide_true, decide_false, decide_not, Bool.not_true, Bool.not_false]) ?_
          show WC _ _ _ _ _ _ _
          repeat with_reducible refine WC.seq ?_
          refine WC.region ?_
          refine WO.op rfl (by simp only [EV, LK, ne_eq, Nat.reduceEqDiff, not_false_eq_true, t0, t3, t9, t10, t11, hw1]; rfl) rfl ?_
          refine WO.op rfl (by simp only [EV, LK, ne_eq, Nat.reduceEqDiff, not_false_eq_true, t0, t3, t9, t10, t11, hw1]; rfl) rfl ?_
          refine WO.op rfl (by simp only [EV, LK, AR, WR, ne_eq, Nat.reduceEqDiff, not_false_eq_true, t0, t3, t9, t10, t11, hw1]; rfl) rfl ?_
          refine WO.op rfl (by simp only [EV, LK, AR, WR, ne_eq, Nat.reduceEqDiff, not_false_eq_true, t0, t3, t9, t10, t11, hw1]; rfl) rfl ?_
          refine WO.op rfl (by simp only [EV, LK, ne_eq, Nat.reduceEqDiff, not_false_eq_true, t0, t3, t9, t10, t11, hw1]; rfl) rfl ?_
          refine WO.nil ?_
          exact ⟨rfl, (by simp only [LK, ne_eq, Nat.reduceEqDiff, not_false_eq_true, t0, t3, t9, t10, t11]), by rw [mostN, if_pos hx4]; rfl, (by simp only [LK, ne_eq, Nat.reduceEqDiff, not_false_eq_true, t0, t3, t9, t10, t11]), (by simp only [LK, ne_eq, Nat.reduceEqDiff, not_false_eq_true, t0, t3, t9, t10, t11]), (by simp only [LK, ne_eq, Nat.reduceEqDiff, not_false_eq_true, t0, t3, t9, t10, t11])⟩
        · show WC _ _ _ _ _ _ _
          repeat with_reducible refine WC.seq ?_
          refine WC.condF (by simp only [LK, ne_eq, Nat.reduceEqDiff, not_false_eq_true, t0, t3, t9, t10, t11, hx4, decide_true, decide_false, decide_not, Bool.not_true, Bool.not_false]) ?_
          refine WC.skip ?_
          refine ⟨rfl, (by simp only [LK, ne_eq, Nat.reduceEqDiff, not_false_eq_true, t0, t3, t9, t10, t11]), ?_, (by simp only [LK, ne_eq, Nat.reduceEqDiff, not_false_eq_true, t0, t3, t9, t10, t11]), (by simp only [LK, ne_eq, Nat.reduceEqDiff, not_false_eq_true, t0, t3, t9, t10, t11]), (by simp only [LK, ne_eq, Nat.reduceEqDiff, not_false_eq_true, t0, t3, t9, t10, t11])⟩
          rw [mostN, if_neg hx4]; exact t3
      · rintro t' σ ⟨rfl, t0', t3', t9', t10', t11'⟩
        show WC _ _ _ _ _ _ _
        repeat with_reducible refine WC.seq ?_
        refine WC.region ?_
        refine WO.op rfl (by simp only [EV, LK, AR, WR, ne_eq, Nat.reduceEqDiff, not_false_eq_true, t0', t3', t9', t10', t11', hw]; rfl) rfl ?_
        refine WO.op rfl (by simp only [EV, LK, ne_eq, Nat.reduceEqDiff, not_false_eq_true, t0', t3', t9', t10', t11', hw]; rfl) rfl ?_
        refine WO.nil ?_
        exact ⟨l.length - (i + 1), by omega, i + 1, rfl, by omega, rfl, (by simp only [LK, ne_eq, Nat.reduceEqDiff, not_false_eq_true, t0', t3', t9', t10', t11']), (by simp only [LK, ne_eq, Nat.reduceEqDiff, not_false_eq_true, t0', t3', t9', t10', t11']), (by simp only [LK, ne_eq, Nat.reduceEqDiff, not_false_eq_true, t0', t3', t9', t10', t11']), (by simp only [LK, ne_eq, Nat.reduceEqDiff, not_false_eq_true, t0', t3', t9', t10', t11']), (by simp only [LK, ne_eq, Nat.reduceEqDiff, not_false_eq_true, t0', t3', t9', t10', t11'])⟩
    · have hq : decide ((i : Int) < (l.length : Int)) = false := decide_eq_false (by omega)
      obtain rfl : i = l.length := by omega
      show WC _ _ _ _ _ _ _
      repeat with_reducible refine WC.seq ?_
      refine WC.region ?_
      refine WO.op rfl (by simp only [EV, LK, AR, WR, ne_eq, Nat.reduceEqDiff, not_false_eq_true, t0, t3, t9, t10, t11, hq]; rfl) rfl ?_
      refine WO.nil ?_
      show WC _ _ _ _ _ _ _
      repeat with_reducible refine WC.seq ?_
      refine WC.condF (by simp only [LK, ne_eq, Nat.reduceEqDiff, not_false_eq_true, t0, t3, t9, t10, t11, decide_true, decide_false, decide_not, Bool.not_true, Bool.not_false]) ?_
      exact .exit ⟨rfl, (by simp only [LK, ne_eq, Nat.reduceEqDiff, not_false_eq_true, t0, t3, t9, t10, t11]), (by simp only [LK, ne_eq, Nat.reduceEqDiff, not_false_eq_true, t0, t3, t9, t10, t11])⟩
  · rintro t σ ⟨rfl, t0, t3⟩
    have hr := mostN_rng l l.length
    have hw1 : IntKind.i64.wrap (mostN l l.length + 64) = mostN l l.length + 64 := wrap_i64 (by omega) (by omega)
    have hw2 : IntKind.i64.wrap (mostN l l.length + 64 - 1) = mostN l l.length + 63 := by rw [wrap_i64 (by omega) (by omega)]; omega
    have hw3 : IntKind.i64.wrap ((mostN l l.length + 63).tdiv 64) = (wordsN l : Int) := by
      rw [Int.tdiv_eq_ediv_of_nonneg (by omega), wrap_i64 (by omega) (by omega), wordsN]; omega
    have h64 : (64 : Int) ≠ 0 := by decide
    have hW := wordsN_le l
    obtain ⟨o, σ', hmk, ho, hS⟩ := OVec.make (t := 25) (B := σ.size) (Nat.le_refl _) hba Try.underlying25 et23 (x := 0#64) ze23 rfl (n := (wordsN l : Int)) (by omega) (by omega) (by decide) (k := .i64) (k' := .i64)
    show WC _ _ _ _ _ _ _
    repeat with_reducible refine WC.seq ?_
    refine WC.region ?_
    refine WO.op rfl (by simp only [EV, LK, ne_eq, Nat.reduceEqDiff, not_false_eq_true, t3, hw1, hw2]; rfl) rfl ?_
    refine WO.op rfl (by simp only [EV, LK, AR, WR, ne_eq, Nat.reduceEqDiff, not_false_eq_true, t3, hw1, hw2]; rfl) rfl ?_
    refine WO.op rfl (by simp only [EV, LK, AR, WR, ne_eq, Nat.reduceEqDiff, not_false_eq_true, t3, hw1, hw2]; rfl) rfl ?_
    refine WO.op rfl (by rw [EV.2.2.2.2.2.1]; simp only [LK, ne_eq, Nat.reduceEqDiff, not_false_eq_true, int_quo h64, hw3, EV]; rfl) rfl ?_
    refine WO.op rfl (by simp only [EV, LK, ne_eq, Nat.reduceEqDiff, not_false_eq_true, hmk]; rfl) rfl ?_
    refine WO.op rfl (by simp only [EV, LK, ne_eq, Nat.reduceEqDiff, not_false_eq_true, hmk]; rfl) rfl ?_
    refine WO.nil ?_
    show WC _ _ _ _ _ _ _
    repeat with_reducible refine WC.seq ?_
    refine WC.region ?_
    refine WO.op rfl (by simp only [EV, LK, ne_eq, Nat.reduceEqDiff, not_false_eq_true, t0, hl]; rfl) rfl ?_
    refine WO.op rfl (by simp only [EV, LK, ne_eq, Nat.reduceEqDiff, not_false_eq_true, t0, hl]; rfl) rfl ?_
    refine WO.op rfl (by simp only [EV, LK, ne_eq, Nat.reduceEqDiff, not_false_eq_true, t0, hl]; rfl) rfl ?_
    refine WO.nil ?_
    show WC _ _ _ _ _ _ _
    repeat with_reducible refine WC.seq ?_
    refine WC.loops (fun m t σ2 => ∃ i, m = l.length - i ∧ i ≤ l.length ∧ Since σ.size σ σ2 ∧ OVec w64 σ2 σ.size o (outN l i) ∧ t 6 = o ∧ t 27 = v ∧ t 28 = .int .i64 (l.length : Int) ∧ t 29 = .int .i64 (i : Int)) (fun t σ2 => Since σ.size σ σ2 ∧ OVec w64 σ2 σ.size o (outN l l.length) ∧ t 6 = o) l.length ?_ ?_ ?_
    · exact ⟨0, rfl, Nat.zero_le _, hS, by simpa [outN] using ho, (by simp only [LK, ne_eq, Nat.reduceEqDiff, not_false_eq_true]), (by simp only [LK, ne_eq, Nat.reduceEqDiff, not_false_eq_true, t0]), (by simp only [LK, ne_eq, Nat.reduceEqDiff, not_false_eq_true]), (by simp only [LK, ne_eq, Nat.reduceEqDiff, not_false_eq_true]; rfl)⟩
    · rintro m t σ2 ⟨i, rfl, hi, hS2, hO, t6, t27, t28, t29⟩
      by_cases hiN : i < l.length
      · have hq : decide ((i : Int) < (l.length : Int)) = true := decide_eq_true (by omega)
        show WC _ _ _ _ _ _ _
        repeat with_reducible refine WC.seq ?_
        refine WC.region ?_
        refine WO.op rfl (by simp only [EV, LK, AR, WR, ne_eq, Nat.reduceEqDiff, not_false_eq_true, t6, t27, t28, t29, hq]; rfl) rfl ?_
        refine WO.nil ?_
        show WC _ _ _ _ _ _ _
        repeat with_reducible refine WC.seq ?_
        refine WC.condT (by simp only [LK, ne_eq, Nat.reduceEqDiff, not_false_eq_true, t6, t27, t28, t29, decide_true, decide_false, decide_not, Bool.not_true, Bool.not_false]) ?_
        refine WC.skip ?_
        have hx : l[((i : Int)).toNat]? = some (l.getD i 0) := by
          rw [Int.toNat_natCast, List.getElem?_eq_getElem hiN]; simp [List.getD, hiN]
        obtain ⟨p, hp1, _, hp2⟩ := (h.keeps hS2).elem Try.underlying32 sz3 ag3 (i := (i : Int)) (k := .i64) (by omega) hx
        have hw : IntKind.i64.wrap ((i : Int) + 1) = ((i + 1 : Nat) : Int) := by rw [wrap_i64 (by omega) (by omega)]; omega
        refine WC.seq ?_
        refine WC.to (fun t' σ3 => Since σ.size σ σ3 ∧ OVec w64 σ3 σ.size o (outN l (i + 1)) ∧ t' 6 = o ∧ t' 27 = v ∧ t' 28 = .int .i64 (l.length : Int) ∧ t' 29 = .int .i64 (i : Int)) ?_ ?_
        · refine WC.block ?_
          show WC _ _ _ _ _ _ _
          repeat with_reducible refine WC.seq ?_
          refine WC.region ?_
          refine WO.op rfl (by simp only [EV, LK, ne_eq, Nat.reduceEqDiff, not_false_eq_true, t6, t27, t28, t29, hp1, hp2]; rfl) rfl ?_
          refine WO.op rfl (by simp only [EV, LK, ne_eq, Nat.reduceEqDiff, not_false_eq_true, t6, t27, t28, t29, hp1, hp2]; rfl) rfl ?_
          refine WO.op rfl (by simp only [EV, LK, ne_eq, Nat.reduceEqDiff, not_false_eq_true, t6, t27, t28, t29, hp1, hp2]; rfl) rfl ?_
          refine WO.nil ?_
          by_cases h0 : 0 ≤ l.getD i 0
          · by_cases h4 : l.getD i 0 < 4096
            · have hq1 : decide (0 ≤ l.getD i 0) = true := decide_eq_true h0
              have hq2 : decide (l.getD i 0 < 4096) = true := decide_eq_true h4
              show WC _ _ _ _ _ _ _
              repeat with_reducible refine WC.seq ?_
              refine WC.region ?_
              refine WO.op rfl (by simp only [EV, LK, ne_eq, Nat.reduceEqDiff, not_false_eq_true, t6, t27, t28, t29, hq1, hq2]; rfl) rfl ?_
              refine WO.op rfl (by simp only [EV, LK, AR, WR, ne_eq, Nat.reduceEqDiff, not_false_eq_true, t6, t27, t28, t29, hq1, hq2]; rfl) rfl ?_
              refine WO.op rfl (by simp only [EV, LK, ne_eq, Nat.reduceEqDiff, not_false_eq_true, t6, t27, t28, t29, hq1, hq2]; rfl) rfl ?_
              first | (refine WO.skip (out_t rfl rfl ?_) rfl ?_; focus (simp only [LK, ne_eq, Nat.reduceEqDiff, not_false_eq_true, t6, t27, t28, t29, hq1, hq2]; done)) | refine WO.op (want_in rfl rfl (by simp only [LK, ne_eq, Nat.reduceEqDiff, not_false_eq_true, t6, t27, t28, t29, hq1, hq2])) (by simp only [EV, LK, ne_eq, Nat.reduceEqDiff, not_false_eq_true, t6, t27, t28, t29, hq1, hq2]; rfl) rfl ?_
              first | (refine WO.skip (out_t rfl rfl ?_) rfl ?_; focus (simp only [LK, ne_eq, Nat.reduceEqDiff, not_false_eq_true, t6, t27, t28, t29, hq1, hq2]; done)) | refine WO.op (want_in rfl rfl (by simp only [LK, ne_eq, Nat.reduceEqDiff, not_false_eq_true, t6, t27, t28, t29, hq1, hq2])) (by simp only [EV, LK, AR, WR, ne_eq, Nat.reduceEqDiff, not_false_eq_true, t6, t27, t28, t29, hq1, hq2]; rfl) rfl ?_
              refine WO.op rfl (by simp only [EV, LK, ne_eq, Nat.reduceEqDiff, not_false_eq_true, t6, t27, t28, t29, hq1, hq2]; rfl) rfl ?_
              refine WO.nil ?_
              show WC _ _ _ _ _ _ _
              repeat with_reducible refine WC.seq ?_
              refine WC.condT (by simp only [LK, ne_eq, Nat.reduceEqDiff, not_false_eq_true, t6, t27, t28, t29, decide_true, decide_false, decide_not, Bool.not_true, Bool.not_false]) ?_
              have hge := mostN_ge l i l.length hiN h4
              have hin : (l.getD i 0 / 64).toNat < (outN l i).length := by rw [outN_len, wordsN]; omega
              have hwq : IntKind.i64.wrap ((l.getD i 0).tdiv 64) = l.getD i 0 / 64 := by rw [Int.tdiv_eq_ediv_of_nonneg h0, wrap_i64 (by omega) (by omega)]
              have hrm : (l.getD i 0).tmod 64 = l.getD i 0 % 64 := Int.tmod_eq_emod_of_nonneg h0
              have hr0 : 0 ≤ l.getD i 0 % 64 := by omega
              have hxo : (outN l i)[(l.getD i 0 / 64).toNat]? = some ((outN l i).getD (l.getD i 0 / 64).toNat 0#64) := getD_some hin _
              obtain ⟨p2, hp3, hp4, _⟩ := hO.vec.elem Try.underlying25 sz23 ag23 (i := l.getD i 0 / 64) (k := .i64) (by omega) hxo
              have hp5 : ∀ n, aLoad Try.prog 23 p2 (σ2.withBase n) = some (w64 ((outN l i).getD (l.getD i 0 / 64).toNat 0#64)) := fun n => hp4 _ fun _ _ => rfl
              obtain ⟨p3, hp6, σ3, hst, hO3, hS3, _⟩ := hO.store Try.underlying25 sz23 (i := l.getD i 0 / 64) (k := .i64) (by omega) (by omega) (x := (outN l i).getD (l.getD i 0 / 64).toNat 0#64 ||| (BitVec.ofInt 64 1 <<< (l.getD i 0 % 64).toNat)) rfl rfl
              obtain rfl : p2 = p3 := by rw [hp3] at hp6; exact Option.some.inj hp6
              have hbs := hS3.base
              have hshl : aBin Try.prog .shl 23 (.int .u64 1) (.int .i64 (l.getD i 0 % 64)) = some (w64 (BitVec.ofInt 64 1 <<< (l.getD i 0 % 64).toNat)) := word_shl hr0
              show WC _ _ _ _ _ _ _
              repeat with_reducible refine WC.seq ?_
              refine WC.draw (fr := [true, true, true, true, true, false, false, false, true, true, true]) (by kernel_rfl) (by kernel_rfl) ?_
              refine WD.same rfl (fun n => by simp only [EV, LK, ne_eq, Nat.reduceEqDiff, not_false_eq_true, t6, t27, t28, t29, int_quo h64, int_rem h64, hwq, hrm, hp3, hp5, hshl, hst]; rfl) rfl ?_
              refine WD.same rfl (fun n => by simp only [EV, LK, ne_eq, Nat.reduceEqDiff, not_false_eq_true, t6, t27, t28, t29, int_quo h64, int_rem h64, hwq, hrm, hp3, hp5, hshl, hst]; rfl) rfl ?_
              refine WD.same rfl (fun n => by simp only [EV, LK, AR, WR, ne_eq, Nat.reduceEqDiff, not_false_eq_true, t6, t27, t28, t29, int_quo h64, int_rem h64, hwq, hrm, hp3, hp5, hshl, hst]; rfl) rfl ?_
              refine WD.same rfl (fun n => by simp only [EV, LK, ne_eq, Nat.reduceEqDiff, not_false_eq_true, t6, t27, t28, t29, int_quo h64, int_rem h64, hwq, hrm, hp3, hp5, hshl, hst]; rfl) rfl ?_
              refine WD.same rfl (fun n => by simp only [EV, LK, ne_eq, Nat.reduceEqDiff, not_false_eq_true, t6, t27, t28, t29, int_quo h64, int_rem h64, hwq, hrm, hp3, hp5, hshl, hst]; rfl) rfl ?_
              refine WD.same rfl (fun n => by simp only [EV, LK, ne_eq, Nat.reduceEqDiff, not_false_eq_true, t6, t27, t28, t29, int_quo h64, int_rem h64, hwq, hrm, hp3, hp5, hshl, hst]; rfl) rfl ?_
              refine WD.same rfl (fun n => by simp only [EV, LK, AR, WR, ne_eq, Nat.reduceEqDiff, not_false_eq_true, t6, t27, t28, t29, int_quo h64, int_rem h64, hwq, hrm, hp3, hp5, hshl, hst]; rfl) rfl ?_
              refine WD.same rfl (fun n => by simp only [EV, LK, AR, WR, Int.reduceLE, Int.reduceToNat, ne_eq, Nat.reduceEqDiff, not_false_eq_true, t6, t27, t28, t29, int_quo h64, int_rem h64, hwq, hrm, hp3, hp5, hshl, hst]; rfl) rfl ?_
              refine WD.same rfl (fun n => by simp only [EV, LK, AR, WR, ne_eq, Nat.reduceEqDiff, not_false_eq_true, t6, t27, t28, t29, int_quo h64, int_rem h64, hwq, hrm, hp3, hp5, hshl, hst]; rfl) rfl ?_
              refine WD.same rfl (fun n => by simp only [EV, LK, ne_eq, Nat.reduceEqDiff, not_false_eq_true, t6, t27, t28, t29, int_quo h64, int_rem h64, hwq, hrm, hp3, hp5, hshl, hst]; rfl) rfl ?_
              refine WD.own rfl (by assumption) (by simp only [EV, LK, ne_eq, Nat.reduceEqDiff, not_false_eq_true, t6, t27, t28, t29, int_quo h64, int_rem h64, hwq, hrm, hp3, hp5, hshl, hst]; rfl) rfl ?_
              refine WD.nil ?_
              refine ⟨hS2.trans hS3, ?_, (by simp only [LK, ne_eq, Nat.reduceEqDiff, not_false_eq_true, t6, t27, t28, t29]), (by simp only [LK, ne_eq, Nat.reduceEqDiff, not_false_eq_true, t6, t27, t28, t29]), (by simp only [LK, ne_eq, Nat.reduceEqDiff, not_false_eq_true, t6, t27, t28, t29]), (by simp only [LK, ne_eq, Nat.reduceEqDiff, not_false_eq_true, t6, t27, t28, t29])⟩
              rw [outN, if_pos ⟨h0, h4⟩, setBit, show (l.getD i 0).toNat / 64 = (l.getD i 0 / 64).toNat by omega, show (l.getD i 0).toNat % 64 = (l.getD i 0 % 64).toNat by omega]
              exact hO3
            · have hq1 : decide (0 ≤ l.getD i 0) = true := decide_eq_true h0
              have hq2 : decide (l.getD i 0 < 4096) = false := decide_eq_false h4
              show WC _ _ _ _ _ _ _
              repeat with_reducible refine WC.seq ?_
              refine WC.region ?_
              refine WO.op rfl (by simp only [EV, LK, ne_eq, Nat.reduceEqDiff, not_false_eq_true, t6, t27, t28, t29, hq1, hq2]; rfl) rfl ?_
              refine WO.op rfl (by simp only [EV, LK, AR, WR, ne_eq, Nat.reduceEqDiff, not_false_eq_true, t6, t27, t28, t29, hq1, hq2]; rfl) rfl ?_
              refine WO.op rfl (by simp only [EV, LK, ne_eq, Nat.reduceEqDiff, not_false_eq_true, t6, t27, t28, t29, hq1, hq2]; rfl) rfl ?_
              first | (refine WO.skip (out_t rfl rfl ?_) rfl ?_; focus (simp only [LK, ne_eq, Nat.reduceEqDiff, not_false_eq_true, t6, t27, t28, t29, hq1, hq2]; done)) | refine WO.op (want_in rfl rfl (by simp only [LK, ne_eq, Nat.reduceEqDiff, not_false_eq_true, t6, t27, t28, t29, hq1, hq2])) (by simp only [EV, LK, ne_eq, Nat.reduceEqDiff, not_false_eq_true, t6, t27, t28, t29, hq1, hq2]; rfl) rfl ?_
              first | (refine WO.skip (out_t rfl rfl ?_) rfl ?_; focus (simp only [LK, ne_eq, Nat.reduceEqDiff, not_false_eq_true, t6, t27, t28, t29, hq1, hq2]; done)) | refine WO.op (want_in rfl rfl (by simp only [LK, ne_eq, Nat.reduceEqDiff, not_false_eq_true, t6, t27, t28, t29, hq1, hq2])) (by simp only [EV, LK, AR, WR, ne_eq, Nat.reduceEqDiff, not_false_eq_true, t6, t27, t28, t29, hq1, hq2]; rfl) rfl ?_
              refine WO.op rfl (by simp only [EV, LK, ne_eq, Nat.reduceEqDiff, not_false_eq_true, t6, t27, t28, t29, hq1, hq2]; rfl) rfl ?_
              refine WO.nil ?_
              show WC _ _ _ _ _ _ _
              repeat with_reducible refine WC.seq ?_
              refine WC.condF (by simp only [LK, ne_eq, Nat.reduceEqDiff, not_false_eq_true, t6, t27, t28, t29, decide_true, decide_false, decide_not, Bool.not_true, Bool.not_false]) ?_
              refine WC.skip ⟨hS2, ?_, (by simp only [LK, ne_eq, Nat.reduceEqDiff, not_false_eq_true, t6, t27, t28, t29]), (by simp only [LK, ne_eq, Nat.reduceEqDiff, not_false_eq_true, t6, t27, t28, t29]), (by simp only [LK, ne_eq, Nat.reduceEqDiff, not_false_eq_true, t6, t27, t28, t29]), (by simp only [LK, ne_eq, Nat.reduceEqDiff, not_false_eq_true, t6, t27, t28, t29])⟩
              rw [outN, if_neg (by omega)]; exact hO
          · have hq1 : decide (0 ≤ l.getD i 0) = false := decide_eq_false h0
            show WC _ _ _ _ _ _ _
            repeat with_reducible refine WC.seq ?_
            refine WC.region ?_
            refine WO.op rfl (by simp only [EV, LK, ne_eq, Nat.reduceEqDiff, not_false_eq_true, t6, t27, t28, t29, hq1]; rfl) rfl ?_
            refine WO.op rfl (by simp only [EV, LK, AR, WR, ne_eq, Nat.reduceEqDiff, not_false_eq_true, t6, t27, t28, t29, hq1]; rfl) rfl ?_
            refine WO.op rfl (by simp only [EV, LK, ne_eq, Nat.reduceEqDiff, not_false_eq_true, t6, t27, t28, t29, hq1]; rfl) rfl ?_
            first | (refine WO.skip (out_t rfl rfl ?_) rfl ?_; focus (simp only [LK, ne_eq, Nat.reduceEqDiff, not_false_eq_true, t6, t27, t28, t29, hq1]; done)) | refine WO.op (want_in rfl rfl (by simp only [LK, ne_eq, Nat.reduceEqDiff, not_false_eq_true, t6, t27, t28, t29, hq1])) (by simp only [EV, LK, ne_eq, Nat.reduceEqDiff, not_false_eq_true, t6, t27, t28, t29, hq1]; rfl) rfl ?_
            first | (refine WO.skip (out_t rfl rfl ?_) rfl ?_; focus (simp only [LK, ne_eq, Nat.reduceEqDiff, not_false_eq_true, t6, t27, t28, t29, hq1]; done)) | refine WO.op (want_in rfl rfl (by simp only [LK, ne_eq, Nat.reduceEqDiff, not_false_eq_true, t6, t27, t28, t29, hq1])) (by simp only [EV, LK, AR, WR, ne_eq, Nat.reduceEqDiff, not_false_eq_true, t6, t27, t28, t29, hq1]; rfl) rfl ?_
            refine WO.op rfl (by simp only [EV, LK, ne_eq, Nat.reduceEqDiff, not_false_eq_true, t6, t27, t28, t29, hq1]; rfl) rfl ?_
            refine WO.nil ?_
            show WC _ _ _ _ _ _ _
            repeat with_reducible refine WC.seq ?_
            refine WC.condF (by simp only [LK, ne_eq, Nat.reduceEqDiff, not_false_eq_true, t6, t27, t28, t29, decide_true, decide_false, decide_not, Bool.not_true, Bool.not_false]) ?_
            refine WC.skip ⟨hS2, ?_, (by simp only [LK, ne_eq, Nat.reduceEqDiff, not_false_eq_true, t6, t27, t28, t29]), (by simp only [LK, ne_eq, Nat.reduceEqDiff, not_false_eq_true, t6, t27, t28, t29]), (by simp only [LK, ne_eq, Nat.reduceEqDiff, not_false_eq_true, t6, t27, t28, t29]), (by simp only [LK, ne_eq, Nat.reduceEqDiff, not_false_eq_true, t6, t27, t28, t29])⟩
            rw [outN, if_neg (by omega)]; exact hO
        · rintro t' σ3 ⟨hS3, hO3, t6', t27', t28', t29'⟩
          show WC _ _ _ _ _ _ _
          repeat with_reducible refine WC.seq ?_
          refine WC.region ?_
          refine WO.op rfl (by simp only [EV, LK, AR, WR, ne_eq, Nat.reduceEqDiff, not_false_eq_true, t6', t27', t28', t29', hw]; rfl) rfl ?_
          refine WO.op rfl (by simp only [EV, LK, ne_eq, Nat.reduceEqDiff, not_false_eq_true, t6', t27', t28', t29', hw]; rfl) rfl ?_
          refine WO.nil ?_
          exact ⟨l.length - (i + 1), by omega, i + 1, rfl, by omega, hS3, hO3, (by simp only [LK, ne_eq, Nat.reduceEqDiff, not_false_eq_true, t6', t27', t28', t29']), (by simp only [LK, ne_eq, Nat.reduceEqDiff, not_false_eq_true, t6', t27', t28', t29']), (by simp only [LK, ne_eq, Nat.reduceEqDiff, not_false_eq_true, t6', t27', t28', t29']), (by simp only [LK, ne_eq, Nat.reduceEqDiff, not_false_eq_true, t6', t27', t28', t29'])⟩
      · have hq : decide ((i : Int) < (l.length : Int)) = false := decide_eq_false (by omega)
        obtain rfl : i = l.length := by omega
        show WC _ _ _ _ _ _ _
        repeat with_reducible refine WC.seq ?_
        refine WC.region ?_
        refine WO.op rfl (by simp only [EV, LK, AR, WR, ne_eq, Nat.reduceEqDiff, not_false_eq_true, t6, t27, t28, t29, hq]; rfl) rfl ?_
        refine WO.nil ?_
        show WC _ _ _ _ _ _ _
        repeat with_reducible refine WC.seq ?_
        refine WC.condF (by simp only [LK, ne_eq, Nat.reduceEqDiff, not_false_eq_true, t6, t27, t28, t29, decide_true, decide_false, decide_not, Bool.not_true, Bool.not_false]) ?_
        exact .exit ⟨hS2, hO, (by simp only [LK, ne_eq, Nat.reduceEqDiff, not_false_eq_true, t6, t27, t28, t29])⟩
    · rintro t σ2 ⟨hS2, hO, t6⟩
      have hol : (outN l l.length).length ≤ 1000000 := by rw [outN_len]; omega
      show WC _ _ _ _ _ _ _
      repeat with_reducible refine WC.seq ?_
      refine WC.region ?_
      refine WO.op rfl (by simp only [EV, LK, ne_eq, Nat.reduceEqDiff, not_false_eq_true, t6]; rfl) rfl ?_
      refine WO.call rfl rfl (by simp only [LK, ne_eq, Nat.reduceEqDiff, not_false_eq_true, callee, List.map_cons, List.map_nil]; rfl) ((short_ret hO.vec hol).mono fun v σ1 hR => ⟨_, rfl, ?_⟩)
      obtain ⟨hv, _, rfl⟩ := hR
      refine WO.op rfl (by simp only [EV, LK, ne_eq, Nat.reduceEqDiff, not_false_eq_true]; rfl) rfl ?_
      refine WO.nil ?_
      exact .ret ⟨.inr rfl, [_], rfl, hv, hS2⟩

/-- Is a number in a set? -/
def bit (xs : List (BitVec 64)) (p : Nat) : Bool := (xs.getD (p / 64) 0#64).getLsbD (p % 64)
def hasOf (xs : List (BitVec 64)) (n : Int) : Bool := decide (0 ≤ n) && bit (xs.take 64) n.toNat
theorem word_bit (x : BitVec 64) (k : Nat) : decide ((x >>> k) &&& BitVec.ofInt 64 1 ≠ 0#64) = x.getLsbD k := by
  have e : BitVec.ofInt 64 1 = 1#64 := by decide
  rw [e]
  cases hb : x.getLsbD k with
  | true =>
    apply decide_eq_true
    intro hz
    have := congrArg (fun y => BitVec.getLsbD y 0) hz
    simp [hb] at this
  | false =>
    apply decide_eq_false
    intro hz
    apply hz
    apply BitVec.eq_of_getLsbD_eq
    intro i hi
    rw [BitVec.getLsbD_and, BitVec.getLsbD_ushiftRight, BitVec.getLsbD_one]
    by_cases h0 : i = 0
    · subst h0; simp [hb]
    · simp [h0]
theorem has_ret {σ : AH} {v : Value} {xs : List (BitVec 64)} (h : Vec w64 σ v xs) (n : Int) (hn : n ≤ 9223372036854775807) : Ret Try.prog sm 18 [v, .int .i64 n] σ fun r σ' => r = .bool (hasOf xs n) ∧ σ' = σ := by
  refine Ret.enter rfl Try.func18 rfl (of_decide_eq_true rfl) ?_
  show WC _ _ _ _ _ _ _
  repeat with_reducible refine WC.seq ?_
  refine WC.region ?_
  refine WO.op rfl (by simp only [EV, LK, ne_eq, Nat.reduceEqDiff, not_false_eq_true]; rfl) rfl ?_
  refine WO.nil ?_
  show WC _ _ _ _ _ _ _
  repeat with_reducible refine WC.seq ?_
  refine WC.region ?_
  refine WO.op rfl (by simp only [EV, LK, ne_eq, Nat.reduceEqDiff, not_false_eq_true]; rfl) rfl ?_
  refine WO.call rfl rfl (by simp only [LK, ne_eq, Nat.reduceEqDiff, not_false_eq_true, callee, List.map_cons, List.map_nil]; rfl) ((cut_ret h).mono fun c1 σ1 hR => ⟨_, rfl, ?_⟩)
  obtain ⟨hc, _, rfl⟩ := hR
  refine WO.op rfl (by simp only [EV, LK, ne_eq, Nat.reduceEqDiff, not_false_eq_true]; rfl) rfl ?_
  refine WO.nil ?_
  have hl := hc.len Try.underlying25
  have h64 : (64 : Int) ≠ 0 := by decide
  by_cases h0 : 0 ≤ n
  · have hq1 : decide (0 ≤ n) = true := decide_eq_true h0
    have hwq : IntKind.i64.wrap (n.tdiv 64) = n / 64 := by rw [Int.tdiv_eq_ediv_of_nonneg h0, wrap_i64 (by omega) (by omega)]
    have hrm : n.tmod 64 = n % 64 := Int.tmod_eq_emod_of_nonneg h0
    have hr0 : 0 ≤ n % 64 := by omega
    by_cases h1 : n / 64 < ((xs.take 64).length : Int)
    · have hq2 : decide (n / 64 < ((xs.take 64).length : Int)) = true := decide_eq_true h1
      obtain ⟨p, hp1, _, hp2⟩ := hc.elem Try.underlying25 sz23 ag23 (i := n / 64) (k := .i64) (by omega) (getD_some (by omega) 0#64)
      have hshr : ∀ x : BitVec 64, aBin Try.prog .shr 23 (w64 x) (.int .i64 (n % 64)) = some (w64 (x >>> (n % 64).toNat)) := fun x => word_shr hr0
      show WC _ _ _ _ _ _ _
      repeat with_reducible refine WC.seq ?_
      refine WC.region ?_
      refine WO.op rfl (by simp only [EV, LK, ne_eq, Nat.reduceEqDiff, not_false_eq_true, hq1, int_quo h64, int_rem h64, hwq, hrm, hl, hq2, hp1, hp2, hshr, word_bit]; rfl) rfl ?_
      refine WO.op rfl (by simp only [EV, LK, AR, WR, ne_eq, Nat.reduceEqDiff, not_false_eq_true, hq1, int_quo h64, int_rem h64, hwq, hrm, hl, hq2, hp1, hp2, hshr, word_bit]; rfl) rfl ?_
      refine WO.op rfl (by simp only [EV, LK, ne_eq, Nat.reduceEqDiff, not_false_eq_true, hq1, int_quo h64, int_rem h64, hwq, hrm, hl, hq2, hp1, hp2, hshr, word_bit]; rfl) rfl ?_
      first | (refine WO.skip (out_t rfl rfl ?_) rfl ?_; focus (simp only [LK, ne_eq, Nat.reduceEqDiff, not_false_eq_true, hq1, int_quo h64, int_rem h64, hwq, hrm, hl, hq2, hp1, hp2, hshr, word_bit]; done)) | refine WO.op (want_in rfl rfl (by simp only [LK, ne_eq, Nat.reduceEqDiff, not_false_eq_true, hq1, int_quo h64, int_rem h64, hwq, hrm, hl, hq2, hp1, hp2, hshr, word_bit])) (by simp only [EV, LK, ne_eq, Nat.reduceEqDiff, not_false_eq_true, hq1, int_quo h64, int_rem h64, hwq, hrm, hl, hq2, hp1, hp2, hshr, word_bit]; rfl) rfl ?_
      first | (refine WO.skip (out_t rfl rfl ?_) rfl ?_; focus (simp only [LK, ne_eq, Nat.reduceEqDiff, not_false_eq_true, hq1, int_quo h64, int_rem h64, hwq, hrm, hl, hq2, hp1, hp2, hshr, word_bit]; done)) | refine WO.op (want_in rfl rfl (by simp only [LK, ne_eq, Nat.reduceEqDiff, not_false_eq_true, hq1, int_quo h64, int_rem h64, hwq, hrm, hl, hq2, hp1, hp2, hshr, word_bit])) (by simp only [EV, LK, AR, WR, ne_eq, Nat.reduceEqDiff, not_false_eq_true, hq1, int_quo h64, int_rem h64, hwq, hrm, hl, hq2, hp1, hp2, hshr, word_bit]; rfl) rfl ?_
      first | (refine WO.skip (out_t rfl rfl ?_) rfl ?_; focus (simp only [LK, ne_eq, Nat.reduceEqDiff, not_false_eq_true, hq1, int_quo h64, int_rem h64, hwq, hrm, hl, hq2, hp1, hp2, hshr, word_bit]; done)) | refine WO.op (want_in rfl rfl (by simp only [LK, ne_eq, Nat.reduceEqDiff, not_false_eq_true, hq1, int_quo h64, int_rem h64, hwq, hrm, hl, hq2, hp1, hp2, hshr, word_bit])) (by simp only [EV, LK, ne_eq, Nat.reduceEqDiff, not_false_eq_true, hq1, int_quo h64, int_rem h64, hwq, hrm, hl, hq2, hp1, hp2, hshr, word_bit]; rfl) rfl ?_
      first | (refine WO.skip (out_t rfl rfl ?_) rfl ?_; focus (simp only [LK, ne_eq, Nat.reduceEqDiff, not_false_eq_true, hq1, int_quo h64, int_rem h64, hwq, hrm, hl, hq2, hp1, hp2, hshr, word_bit]; done)) | refine WO.op (want_in rfl rfl (by simp only [LK, ne_eq, Nat.reduceEqDiff, not_false_eq_true, hq1, int_quo h64, int_rem h64, hwq, hrm, hl, hq2, hp1, hp2, hshr, word_bit])) (by simp only [EV, LK, ne_eq, Nat.reduceEqDiff, not_false_eq_true, hq1, int_quo h64, int_rem h64, hwq, hrm, hl, hq2, hp1, hp2, hshr, word_bit]; rfl) rfl ?_
      first | (refine WO.skip (out_t rfl rfl ?_) rfl ?_; focus (simp only [LK, ne_eq, Nat.reduceEqDiff, not_false_eq_true, hq1, int_quo h64, int_rem h64, hwq, hrm, hl, hq2, hp1, hp2, hshr, word_bit]; done)) | refine WO.op (want_in rfl rfl (by simp only [LK, ne_eq, Nat.reduceEqDiff, not_false_eq_true, hq1, int_quo h64, int_rem h64, hwq, hrm, hl, hq2, hp1, hp2, hshr, word_bit])) (by simp only [EV, LK, AR, WR, ne_eq, Nat.reduceEqDiff, not_false_eq_true, hq1, int_quo h64, int_rem h64, hwq, hrm, hl, hq2, hp1, hp2, hshr, word_bit]; rfl) rfl ?_
      refine WO.op rfl (by simp only [EV, LK, ne_eq, Nat.reduceEqDiff, not_false_eq_true, hq1, int_quo h64, int_rem h64, hwq, hrm, hl, hq2, hp1, hp2, hshr, word_bit]; rfl) rfl ?_
      refine WO.op rfl (by simp only [EV, LK, ne_eq, Nat.reduceEqDiff, not_false_eq_true, hq1, int_quo h64, int_rem h64, hwq, hrm, hl, hq2, hp1, hp2, hshr, word_bit]; rfl) rfl ?_
      first | (refine WO.skip (out_t rfl rfl ?_) rfl ?_; focus (simp only [LK, ne_eq, Nat.reduceEqDiff, not_false_eq_true, hq1, int_quo h64, int_rem h64, hwq, hrm, hl, hq2, hp1, hp2, hshr, word_bit]; done)) | refine WO.op (want_in rfl rfl (by simp only [LK, ne_eq, Nat.reduceEqDiff, not_false_eq_true, hq1, int_quo h64, int_rem h64, hwq, hrm, hl, hq2, hp1, hp2, hshr, word_bit])) (by simp only [EV, LK, ne_eq, Nat.reduceEqDiff, not_false_eq_true, hq1, int_quo h64, int_rem h64, hwq, hrm, hl, hq2, hp1, hp2, hshr, word_bit]; rfl) rfl ?_
      first | (refine WO.skip (out_t rfl rfl ?_) rfl ?_; focus (simp only [LK, ne_eq, Nat.reduceEqDiff, not_false_eq_true, hq1, int_quo h64, int_rem h64, hwq, hrm, hl, hq2, hp1, hp2, hshr, word_bit]; done)) | refine WO.op (want_in rfl rfl (by simp only [LK, ne_eq, Nat.reduceEqDiff, not_false_eq_true, hq1, int_quo h64, int_rem h64, hwq, hrm, hl, hq2, hp1, hp2, hshr, word_bit])) (by simp only [EV, LK, ne_eq, Nat.reduceEqDiff, not_false_eq_true, hq1, int_quo h64, int_rem h64, hwq, hrm, hl, hq2, hp1, hp2, hshr, word_bit]; rfl) rfl ?_
      first | (refine WO.skip (out_t rfl rfl ?_) rfl ?_; focus (simp only [LK, ne_eq, Nat.reduceEqDiff, not_false_eq_true, hq1, int_quo h64, int_rem h64, hwq, hrm, hl, hq2, hp1, hp2, hshr, word_bit]; done)) | refine WO.op (want_in rfl rfl (by simp only [LK, ne_eq, Nat.reduceEqDiff, not_false_eq_true, hq1, int_quo h64, int_rem h64, hwq, hrm, hl, hq2, hp1, hp2, hshr, word_bit])) (by simp only [EV, LK, AR, WR, ne_eq, Nat.reduceEqDiff, not_false_eq_true, hq1, int_quo h64, int_rem h64, hwq, hrm, hl, hq2, hp1, hp2, hshr, word_bit]; rfl) rfl ?_
      first | (refine WO.skip (out_t rfl rfl ?_) rfl ?_; focus (simp only [LK, ne_eq, Nat.reduceEqDiff, not_false_eq_true, hq1, int_quo h64, int_rem h64, hwq, hrm, hl, hq2, hp1, hp2, hshr, word_bit]; done)) | refine WO.op (want_in rfl rfl (by simp only [LK, ne_eq, Nat.reduceEqDiff, not_false_eq_true, hq1, int_quo h64, int_rem h64, hwq, hrm, hl, hq2, hp1, hp2, hshr, word_bit])) (by simp only [EV, LK, ne_eq, Nat.reduceEqDiff, not_false_eq_true, hq1, int_quo h64, int_rem h64, hwq, hrm, hl, hq2, hp1, hp2, hshr, word_bit]; rfl) rfl ?_
      first | (refine WO.skip (out_t rfl rfl ?_) rfl ?_; focus (simp only [LK, ne_eq, Nat.reduceEqDiff, not_false_eq_true, hq1, int_quo h64, int_rem h64, hwq, hrm, hl, hq2, hp1, hp2, hshr, word_bit]; done)) | refine WO.op (want_in rfl rfl (by simp only [LK, ne_eq, Nat.reduceEqDiff, not_false_eq_true, hq1, int_quo h64, int_rem h64, hwq, hrm, hl, hq2, hp1, hp2, hshr, word_bit])) (by simp only [EV, LK, ne_eq, Nat.reduceEqDiff, not_false_eq_true, hq1, int_quo h64, int_rem h64, hwq, hrm, hl, hq2, hp1, hp2, hshr, word_bit]; rfl) rfl ?_
      first | (refine WO.skip (out_t rfl rfl ?_) rfl ?_; focus (simp only [LK, ne_eq, Nat.reduceEqDiff, not_false_eq_true, hq1, int_quo h64, int_rem h64, hwq, hrm, hl, hq2, hp1, hp2, hshr, word_bit]; done)) | refine WO.op (want_in rfl rfl (by simp only [LK, ne_eq, Nat.reduceEqDiff, not_false_eq_true, hq1, int_quo h64, int_rem h64, hwq, hrm, hl, hq2, hp1, hp2, hshr, word_bit])) (by simp only [EV, LK, ne_eq, Nat.reduceEqDiff, not_false_eq_true, hq1, int_quo h64, int_rem h64, hwq, hrm, hl, hq2, hp1, hp2, hshr, word_bit]; rfl) rfl ?_
      first | (refine WO.skip (out_t rfl rfl ?_) rfl ?_; focus (simp only [LK, ne_eq, Nat.reduceEqDiff, not_false_eq_true, hq1, int_quo h64, int_rem h64, hwq, hrm, hl, hq2, hp1, hp2, hshr, word_bit]; done)) | refine WO.op (want_in rfl rfl (by simp only [LK, ne_eq, Nat.reduceEqDiff, not_false_eq_true, hq1, int_quo h64, int_rem h64, hwq, hrm, hl, hq2, hp1, hp2, hshr, word_bit])) (by simp only [EV, LK, AR, WR, ne_eq, Nat.reduceEqDiff, not_false_eq_true, hq1, int_quo h64, int_rem h64, hwq, hrm, hl, hq2, hp1, hp2, hshr, word_bit]; rfl) rfl ?_
      first | (refine WO.skip (out_t rfl rfl ?_) rfl ?_; focus (simp only [LK, ne_eq, Nat.reduceEqDiff, not_false_eq_true, hq1, int_quo h64, int_rem h64, hwq, hrm, hl, hq2, hp1, hp2, hshr, word_bit]; done)) | refine WO.op (want_in rfl rfl (by simp only [LK, ne_eq, Nat.reduceEqDiff, not_false_eq_true, hq1, int_quo h64, int_rem h64, hwq, hrm, hl, hq2, hp1, hp2, hshr, word_bit])) (by simp only [EV, LK, AR, WR, Int.reduceLE, Int.reduceToNat, ne_eq, Nat.reduceEqDiff, not_false_eq_true, hq1, int_quo h64, int_rem h64, hwq, hrm, hl, hq2, hp1, hp2, hshr, word_bit]; rfl) rfl ?_
      first | (refine WO.skip (out_t rfl rfl ?_) rfl ?_; focus (simp only [LK, ne_eq, Nat.reduceEqDiff, not_false_eq_true, hq1, int_quo h64, int_rem h64, hwq, hrm, hl, hq2, hp1, hp2, hshr, word_bit]; done)) | refine WO.op (want_in rfl rfl (by simp only [LK, ne_eq, Nat.reduceEqDiff, not_false_eq_true, hq1, int_quo h64, int_rem h64, hwq, hrm, hl, hq2, hp1, hp2, hshr, word_bit])) (by simp only [EV, LK, AR, WR, ne_eq, Nat.reduceEqDiff, not_false_eq_true, hq1, int_quo h64, int_rem h64, hwq, hrm, hl, hq2, hp1, hp2, hshr, word_bit]; rfl) rfl ?_
      first | (refine WO.skip (out_t rfl rfl ?_) rfl ?_; focus (simp only [LK, ne_eq, Nat.reduceEqDiff, not_false_eq_true, hq1, int_quo h64, int_rem h64, hwq, hrm, hl, hq2, hp1, hp2, hshr, word_bit]; done)) | refine WO.op (want_in rfl rfl (by simp only [LK, ne_eq, Nat.reduceEqDiff, not_false_eq_true, hq1, int_quo h64, int_rem h64, hwq, hrm, hl, hq2, hp1, hp2, hshr, word_bit])) (by simp only [EV, LK, AR, WR, ne_eq, Nat.reduceEqDiff, not_false_eq_true, hq1, int_quo h64, int_rem h64, hwq, hrm, hl, hq2, hp1, hp2, hshr, word_bit]; rfl) rfl ?_
      refine WO.op rfl (by simp only [EV, LK, ne_eq, Nat.reduceEqDiff, not_false_eq_true, hq1, int_quo h64, int_rem h64, hwq, hrm, hl, hq2, hp1, hp2, hshr, word_bit]; rfl) rfl ?_
      refine WO.op rfl (by simp only [EV, LK, ne_eq, Nat.reduceEqDiff, not_false_eq_true, hq1, int_quo h64, int_rem h64, hwq, hrm, hl, hq2, hp1, hp2, hshr, word_bit]; rfl) rfl ?_
      refine WO.nil ?_
      refine .ret ⟨.inr rfl, [_], rfl, ?_, rfl⟩
      show Value.bool _ = _
      rw [hasOf, bit, hq1, Bool.true_and, show n.toNat / 64 = (n / 64).toNat by omega, show n.toNat % 64 = (n % 64).toNat by omega]
    · have hq2 : decide (n / 64 < ((xs.take 64).length : Int)) = false := decide_eq_false h1
      show WC _ _ _ _ _ _ _
      repeat with_reducible refine WC.seq ?_
      refine WC.region ?_
      refine WO.op rfl (by simp only [EV, LK, ne_eq, Nat.reduceEqDiff, not_false_eq_true, hq1, int_quo h64, int_rem h64, hwq, hl, hq2]; rfl) rfl ?_
      refine WO.op rfl (by simp only [EV, LK, AR, WR, ne_eq, Nat.reduceEqDiff, not_false_eq_true, hq1, int_quo h64, int_rem h64, hwq, hl, hq2]; rfl) rfl ?_
      refine WO.op rfl (by simp only [EV, LK, ne_eq, Nat.reduceEqDiff, not_false_eq_true, hq1, int_quo h64, int_rem h64, hwq, hl, hq2]; rfl) rfl ?_
      first | (refine WO.skip (out_t rfl rfl ?_) rfl ?_; focus (simp only [LK, ne_eq, Nat.reduceEqDiff, not_false_eq_true, hq1, int_quo h64, int_rem h64, hwq, hl, hq2]; done)) | refine WO.op (want_in rfl rfl (by simp only [LK, ne_eq, Nat.reduceEqDiff, not_false_eq_true, hq1, int_quo h64, int_rem h64, hwq, hl, hq2])) (by simp only [EV, LK, ne_eq, Nat.reduceEqDiff, not_false_eq_true, hq1, int_quo h64, int_rem h64, hwq, hl, hq2]; rfl) rfl ?_
      first | (refine WO.skip (out_t rfl rfl ?_) rfl ?_; focus (simp only [LK, ne_eq, Nat.reduceEqDiff, not_false_eq_true, hq1, int_quo h64, int_rem h64, hwq, hl, hq2]; done)) | refine WO.op (want_in rfl rfl (by simp only [LK, ne_eq, Nat.reduceEqDiff, not_false_eq_true, hq1, int_quo h64, int_rem h64, hwq, hl, hq2])) (by simp only [EV, LK, AR, WR, ne_eq, Nat.reduceEqDiff, not_false_eq_true, hq1, int_quo h64, int_rem h64, hwq, hl, hq2]; rfl) rfl ?_
      first | (refine WO.skip (out_t rfl rfl ?_) rfl ?_; focus (simp only [LK, ne_eq, Nat.reduceEqDiff, not_false_eq_true, hq1, int_quo h64, int_rem h64, hwq, hl, hq2]; done)) | refine WO.op (want_in rfl rfl (by simp only [LK, ne_eq, Nat.reduceEqDiff, not_false_eq_true, hq1, int_quo h64, int_rem h64, hwq, hl, hq2])) (by simp only [EV, LK, ne_eq, Nat.reduceEqDiff, not_false_eq_true, hq1, int_quo h64, int_rem h64, hwq, hl, hq2]; rfl) rfl ?_
      first | (refine WO.skip (out_t rfl rfl ?_) rfl ?_; focus (simp only [LK, ne_eq, Nat.reduceEqDiff, not_false_eq_true, hq1, int_quo h64, int_rem h64, hwq, hl, hq2]; done)) | refine WO.op (want_in rfl rfl (by simp only [LK, ne_eq, Nat.reduceEqDiff, not_false_eq_true, hq1, int_quo h64, int_rem h64, hwq, hl, hq2])) (by simp only [EV, LK, ne_eq, Nat.reduceEqDiff, not_false_eq_true, hq1, int_quo h64, int_rem h64, hwq, hl, hq2]; rfl) rfl ?_
      first | (refine WO.skip (out_t rfl rfl ?_) rfl ?_; focus (simp only [LK, ne_eq, Nat.reduceEqDiff, not_false_eq_true, hq1, int_quo h64, int_rem h64, hwq, hl, hq2]; done)) | refine WO.op (want_in rfl rfl (by simp only [LK, ne_eq, Nat.reduceEqDiff, not_false_eq_true, hq1, int_quo h64, int_rem h64, hwq, hl, hq2])) (by simp only [EV, LK, AR, WR, ne_eq, Nat.reduceEqDiff, not_false_eq_true, hq1, int_quo h64, int_rem h64, hwq, hl, hq2]; rfl) rfl ?_
      refine WO.op rfl (by simp only [EV, LK, ne_eq, Nat.reduceEqDiff, not_false_eq_true, hq1, int_quo h64, int_rem h64, hwq, hl, hq2]; rfl) rfl ?_
      refine WO.op rfl (by simp only [EV, LK, ne_eq, Nat.reduceEqDiff, not_false_eq_true, hq1, int_quo h64, int_rem h64, hwq, hl, hq2]; rfl) rfl ?_
      first | (refine WO.skip (out_t rfl rfl ?_) rfl ?_; focus (simp only [LK, ne_eq, Nat.reduceEqDiff, not_false_eq_true, hq1, int_quo h64, int_rem h64, hwq, hl, hq2]; done)) | refine WO.op (want_in rfl rfl (by simp only [LK, ne_eq, Nat.reduceEqDiff, not_false_eq_true, hq1, int_quo h64, int_rem h64, hwq, hl, hq2])) (by simp only [EV, LK, ne_eq, Nat.reduceEqDiff, not_false_eq_true, hq1, int_quo h64, int_rem h64, hwq, hl, hq2]; rfl) rfl ?_
      first | (refine WO.skip (out_t rfl rfl ?_) rfl ?_; focus (simp only [LK, ne_eq, Nat.reduceEqDiff, not_false_eq_true, hq1, int_quo h64, int_rem h64, hwq, hl, hq2]; done)) | refine WO.op (want_in rfl rfl (by simp only [LK, ne_eq, Nat.reduceEqDiff, not_false_eq_true, hq1, int_quo h64, int_rem h64, hwq, hl, hq2])) (by simp only [EV, LK, ne_eq, Nat.reduceEqDiff, not_false_eq_true, hq1, int_quo h64, int_rem h64, hwq, hl, hq2]; rfl) rfl ?_
      first | (refine WO.skip (out_t rfl rfl ?_) rfl ?_; focus (simp only [LK, ne_eq, Nat.reduceEqDiff, not_false_eq_true, hq1, int_quo h64, int_rem h64, hwq, hl, hq2]; done)) | refine WO.op (want_in rfl rfl (by simp only [LK, ne_eq, Nat.reduceEqDiff, not_false_eq_true, hq1, int_quo h64, int_rem h64, hwq, hl, hq2])) (by simp only [EV, LK, AR, WR, ne_eq, Nat.reduceEqDiff, not_false_eq_true, hq1, int_quo h64, int_rem h64, hwq, hl, hq2]; rfl) rfl ?_
      first | (refine WO.skip (out_t rfl rfl ?_) rfl ?_; focus (simp only [LK, ne_eq, Nat.reduceEqDiff, not_false_eq_true, hq1, int_quo h64, int_rem h64, hwq, hl, hq2]; done)) | refine WO.op (want_in rfl rfl (by simp only [LK, ne_eq, Nat.reduceEqDiff, not_false_eq_true, hq1, int_quo h64, int_rem h64, hwq, hl, hq2])) (by simp only [EV, LK, ne_eq, Nat.reduceEqDiff, not_false_eq_true, hq1, int_quo h64, int_rem h64, hwq, hl, hq2]; rfl) rfl ?_
      first | (refine WO.skip (out_t rfl rfl ?_) rfl ?_; focus (simp only [LK, ne_eq, Nat.reduceEqDiff, not_false_eq_true, hq1, int_quo h64, int_rem h64, hwq, hl, hq2]; done)) | refine WO.op (want_in rfl rfl (by simp only [LK, ne_eq, Nat.reduceEqDiff, not_false_eq_true, hq1, int_quo h64, int_rem h64, hwq, hl, hq2])) (by simp only [EV, LK, ne_eq, Nat.reduceEqDiff, not_false_eq_true, hq1, int_quo h64, int_rem h64, hwq, hl, hq2]; rfl) rfl ?_
      first | (refine WO.skip (out_t rfl rfl ?_) rfl ?_; focus (simp only [LK, ne_eq, Nat.reduceEqDiff, not_false_eq_true, hq1, int_quo h64, int_rem h64, hwq, hl, hq2]; done)) | refine WO.op (want_in rfl rfl (by simp only [LK, ne_eq, Nat.reduceEqDiff, not_false_eq_true, hq1, int_quo h64, int_rem h64, hwq, hl, hq2])) (by simp only [EV, LK, ne_eq, Nat.reduceEqDiff, not_false_eq_true, hq1, int_quo h64, int_rem h64, hwq, hl, hq2]; rfl) rfl ?_
      first | (refine WO.skip (out_t rfl rfl ?_) rfl ?_; focus (simp only [LK, ne_eq, Nat.reduceEqDiff, not_false_eq_true, hq1, int_quo h64, int_rem h64, hwq, hl, hq2]; done)) | refine WO.op (want_in rfl rfl (by simp only [LK, ne_eq, Nat.reduceEqDiff, not_false_eq_true, hq1, int_quo h64, int_rem h64, hwq, hl, hq2])) (by simp only [EV, LK, AR, WR, ne_eq, Nat.reduceEqDiff, not_false_eq_true, hq1, int_quo h64, int_rem h64, hwq, hl, hq2]; rfl) rfl ?_
      first | (refine WO.skip (out_t rfl rfl ?_) rfl ?_; focus (simp only [LK, ne_eq, Nat.reduceEqDiff, not_false_eq_true, hq1, int_quo h64, int_rem h64, hwq, hl, hq2]; done)) | refine WO.op (want_in rfl rfl (by simp only [LK, ne_eq, Nat.reduceEqDiff, not_false_eq_true, hq1, int_quo h64, int_rem h64, hwq, hl, hq2])) (by simp only [EV, LK, AR, WR, Int.reduceLE, Int.reduceToNat, ne_eq, Nat.reduceEqDiff, not_false_eq_true, hq1, int_quo h64, int_rem h64, hwq, hl, hq2]; rfl) rfl ?_
      first | (refine WO.skip (out_t rfl rfl ?_) rfl ?_; focus (simp only [LK, ne_eq, Nat.reduceEqDiff, not_false_eq_true, hq1, int_quo h64, int_rem h64, hwq, hl, hq2]; done)) | refine WO.op (want_in rfl rfl (by simp only [LK, ne_eq, Nat.reduceEqDiff, not_false_eq_true, hq1, int_quo h64, int_rem h64, hwq, hl, hq2])) (by simp only [EV, LK, AR, WR, ne_eq, Nat.reduceEqDiff, not_false_eq_true, hq1, int_quo h64, int_rem h64, hwq, hl, hq2]; rfl) rfl ?_
      first | (refine WO.skip (out_t rfl rfl ?_) rfl ?_; focus (simp only [LK, ne_eq, Nat.reduceEqDiff, not_false_eq_true, hq1, int_quo h64, int_rem h64, hwq, hl, hq2]; done)) | refine WO.op (want_in rfl rfl (by simp only [LK, ne_eq, Nat.reduceEqDiff, not_false_eq_true, hq1, int_quo h64, int_rem h64, hwq, hl, hq2])) (by simp only [EV, LK, AR, WR, ne_eq, Nat.reduceEqDiff, not_false_eq_true, hq1, int_quo h64, int_rem h64, hwq, hl, hq2]; rfl) rfl ?_
      refine WO.op rfl (by simp only [EV, LK, ne_eq, Nat.reduceEqDiff, not_false_eq_true, hq1, int_quo h64, int_rem h64, hwq, hl, hq2]; rfl) rfl ?_
      refine WO.op rfl (by simp only [EV, LK, ne_eq, Nat.reduceEqDiff, not_false_eq_true, hq1, int_quo h64, int_rem h64, hwq, hl, hq2]; rfl) rfl ?_
      refine WO.nil ?_
      refine .ret ⟨.inr rfl, [_], rfl, ?_, rfl⟩
      rw [hasOf, bit, hq1, Bool.true_and, getD_none (by omega)]
      simp; rfl
  · have hq1 : decide (0 ≤ n) = false := decide_eq_false h0
    show WC _ _ _ _ _ _ _
    repeat with_reducible refine WC.seq ?_
    refine WC.region ?_
    refine WO.op rfl (by simp only [EV, LK, ne_eq, Nat.reduceEqDiff, not_false_eq_true, hq1]; rfl) rfl ?_
    refine WO.op rfl (by simp only [EV, LK, AR, WR, ne_eq, Nat.reduceEqDiff, not_false_eq_true, hq1]; rfl) rfl ?_
    refine WO.op rfl (by simp only [EV, LK, ne_eq, Nat.reduceEqDiff, not_false_eq_true, hq1]; rfl) rfl ?_
    first | (refine WO.skip (out_t rfl rfl ?_) rfl ?_; focus (simp only [LK, ne_eq, Nat.reduceEqDiff, not_false_eq_true, hq1]; done)) | refine WO.op (want_in rfl rfl (by simp only [LK, ne_eq, Nat.reduceEqDiff, not_false_eq_true, hq1])) (by simp only [EV, LK, ne_eq, Nat.reduceEqDiff, not_false_eq_true, hq1]; rfl) rfl ?_
    first | (refine WO.skip (out_t rfl rfl ?_) rfl ?_; focus (simp only [LK, ne_eq, Nat.reduceEqDiff, not_false_eq_true, hq1]; done)) | refine WO.op (want_in rfl rfl (by simp only [LK, ne_eq, Nat.reduceEqDiff, not_false_eq_true, hq1])) (by simp only [EV, LK, AR, WR, ne_eq, Nat.reduceEqDiff, not_false_eq_true, hq1]; rfl) rfl ?_
    first | (refine WO.skip (out_t rfl rfl ?_) rfl ?_; focus (simp only [LK, ne_eq, Nat.reduceEqDiff, not_false_eq_true, hq1]; done)) | refine WO.op (want_in rfl rfl (by simp only [LK, ne_eq, Nat.reduceEqDiff, not_false_eq_true, hq1])) (by simp only [EV, LK, ne_eq, Nat.reduceEqDiff, not_false_eq_true, hq1]; rfl) rfl ?_
    first | (refine WO.skip (out_t rfl rfl ?_) rfl ?_; focus (simp only [LK, ne_eq, Nat.reduceEqDiff, not_false_eq_true, hq1]; done)) | refine WO.op (want_in rfl rfl (by simp only [LK, ne_eq, Nat.reduceEqDiff, not_false_eq_true, hq1])) (by simp only [EV, LK, ne_eq, Nat.reduceEqDiff, not_false_eq_true, hq1]; rfl) rfl ?_
    first | (refine WO.skip (out_t rfl rfl ?_) rfl ?_; focus (simp only [LK, ne_eq, Nat.reduceEqDiff, not_false_eq_true, hq1]; done)) | refine WO.op (want_in rfl rfl (by simp only [LK, ne_eq, Nat.reduceEqDiff, not_false_eq_true, hq1])) (by simp only [EV, LK, AR, WR, ne_eq, Nat.reduceEqDiff, not_false_eq_true, hq1]; rfl) rfl ?_
    refine WO.op rfl (by simp only [EV, LK, ne_eq, Nat.reduceEqDiff, not_false_eq_true, hq1]; rfl) rfl ?_
    refine WO.op rfl (by simp only [EV, LK, ne_eq, Nat.reduceEqDiff, not_false_eq_true, hq1]; rfl) rfl ?_
    first | (refine WO.skip (out_t rfl rfl ?_) rfl ?_; focus (simp only [LK, ne_eq, Nat.reduceEqDiff, not_false_eq_true, hq1]; done)) | refine WO.op (want_in rfl rfl (by simp only [LK, ne_eq, Nat.reduceEqDiff, not_false_eq_true, hq1])) (by simp only [EV, LK, ne_eq, Nat.reduceEqDiff, not_false_eq_true, hq1]; rfl) rfl ?_
    first | (refine WO.skip (out_t rfl rfl ?_) rfl ?_; focus (simp only [LK, ne_eq, Nat.reduceEqDiff, not_false_eq_true, hq1]; done)) | refine WO.op (want_in rfl rfl (by simp only [LK, ne_eq, Nat.reduceEqDiff, not_false_eq_true, hq1])) (by simp only [EV, LK, ne_eq, Nat.reduceEqDiff, not_false_eq_true, hq1]; rfl) rfl ?_
    first | (refine WO.skip (out_t rfl rfl ?_) rfl ?_; focus (simp only [LK, ne_eq, Nat.reduceEqDiff, not_false_eq_true, hq1]; done)) | refine WO.op (want_in rfl rfl (by simp only [LK, ne_eq, Nat.reduceEqDiff, not_false_eq_true, hq1])) (by simp only [EV, LK, AR, WR, ne_eq, Nat.reduceEqDiff, not_false_eq_true, hq1]; rfl) rfl ?_
    first | (refine WO.skip (out_t rfl rfl ?_) rfl ?_; focus (simp only [LK, ne_eq, Nat.reduceEqDiff, not_false_eq_true, hq1]; done)) | refine WO.op (want_in rfl rfl (by simp only [LK, ne_eq, Nat.reduceEqDiff, not_false_eq_true, hq1])) (by simp only [EV, LK, ne_eq, Nat.reduceEqDiff, not_false_eq_true, hq1]; rfl) rfl ?_
    first | (refine WO.skip (out_t rfl rfl ?_) rfl ?_; focus (simp only [LK, ne_eq, Nat.reduceEqDiff, not_false_eq_true, hq1]; done)) | refine WO.op (want_in rfl rfl (by simp only [LK, ne_eq, Nat.reduceEqDiff, not_false_eq_true, hq1])) (by simp only [EV, LK, ne_eq, Nat.reduceEqDiff, not_false_eq_true, hq1]; rfl) rfl ?_
    first | (refine WO.skip (out_t rfl rfl ?_) rfl ?_; focus (simp only [LK, ne_eq, Nat.reduceEqDiff, not_false_eq_true, hq1]; done)) | refine WO.op (want_in rfl rfl (by simp only [LK, ne_eq, Nat.reduceEqDiff, not_false_eq_true, hq1])) (by simp only [EV, LK, ne_eq, Nat.reduceEqDiff, not_false_eq_true, hq1]; rfl) rfl ?_
    first | (refine WO.skip (out_t rfl rfl ?_) rfl ?_; focus (simp only [LK, ne_eq, Nat.reduceEqDiff, not_false_eq_true, hq1]; done)) | refine WO.op (want_in rfl rfl (by simp only [LK, ne_eq, Nat.reduceEqDiff, not_false_eq_true, hq1])) (by simp only [EV, LK, AR, WR, ne_eq, Nat.reduceEqDiff, not_false_eq_true, hq1]; rfl) rfl ?_
    first | (refine WO.skip (out_t rfl rfl ?_) rfl ?_; focus (simp only [LK, ne_eq, Nat.reduceEqDiff, not_false_eq_true, hq1]; done)) | refine WO.op (want_in rfl rfl (by simp only [LK, ne_eq, Nat.reduceEqDiff, not_false_eq_true, hq1])) (by simp only [EV, LK, AR, WR, Int.reduceLE, Int.reduceToNat, ne_eq, Nat.reduceEqDiff, not_false_eq_true, hq1]; rfl) rfl ?_
    first | (refine WO.skip (out_t rfl rfl ?_) rfl ?_; focus (simp only [LK, ne_eq, Nat.reduceEqDiff, not_false_eq_true, hq1]; done)) | refine WO.op (want_in rfl rfl (by simp only [LK, ne_eq, Nat.reduceEqDiff, not_false_eq_true, hq1])) (by simp only [EV, LK, AR, WR, ne_eq, Nat.reduceEqDiff, not_false_eq_true, hq1]; rfl) rfl ?_
    first | (refine WO.skip (out_t rfl rfl ?_) rfl ?_; focus (simp only [LK, ne_eq, Nat.reduceEqDiff, not_false_eq_true, hq1]; done)) | refine WO.op (want_in rfl rfl (by simp only [LK, ne_eq, Nat.reduceEqDiff, not_false_eq_true, hq1])) (by simp only [EV, LK, AR, WR, ne_eq, Nat.reduceEqDiff, not_false_eq_true, hq1]; rfl) rfl ?_
    refine WO.op rfl (by simp only [EV, LK, ne_eq, Nat.reduceEqDiff, not_false_eq_true, hq1]; rfl) rfl ?_
    refine WO.op rfl (by simp only [EV, LK, ne_eq, Nat.reduceEqDiff, not_false_eq_true, hq1]; rfl) rfl ?_
    refine WO.nil ?_
    refine .ret ⟨.inr rfl, [_], rfl, ?_, rfl⟩
    rw [hasOf, hq1, Bool.false_and]; rfl
