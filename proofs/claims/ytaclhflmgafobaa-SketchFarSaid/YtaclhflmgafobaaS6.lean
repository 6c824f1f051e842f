/- A vector's sketch. -/
import Derived.Test.YtaclhflmgafobaaS5
namespace Go.Proofs.Ytaclhflmgafobaa
open Go Go.Ab Go.Proofs
set_option linter.unusedSimpArgs false
set_option linter.unusedVariables false
set_option maxRecDepth 20000
theorem sz21 : szOf Try.prog 21 = some 1 := by kernel_rfl
theorem ag21 : isAggT Try.prog 21 = some false := by kernel_rfl
abbrev I32s (σ : AH) (v : Value) (l : List Int) : Prop := Vec (Value.int .i32) σ v l
def bitAt (s : BitVec 64) (p i : Int) : BitVec 64 := atRng (atRng s (BitVec.ofInt 64 p)) (BitVec.ofInt 64 i) &&& BitVec.ofInt 64 1
def sumN (s : BitVec 64) (p : Int) (l : List Int) : Nat → Int
  | 0 => 0
  | i + 1 => if bitAt s p (i : Int) = 0#64 then sumN s p l i - l.getD i 0 else sumN s p l i + l.getD i 0
def aboveOf (s : BitVec 64) (p : Int) (l : List Int) : Bool := decide (0 ≤ sumN s p l l.length)
def Small (l : List Int) : Prop := l.length ≤ 1000 ∧ ∀ x ∈ l, -2147483648 ≤ x ∧ x ≤ 2147483647
theorem Small.getD {l : List Int} (h : Small l) (i : Nat) : -2147483648 ≤ l.getD i 0 ∧ l.getD i 0 ≤ 2147483647 := by
  by_cases hi : i < l.length
  · exact h.2 _ (List.mem_of_getElem? (getD_some hi 0))
  · rw [getD_none (by omega)]; omega
theorem sumN_bd {l : List Int} (h : Small l) (s : BitVec 64) (p : Int) (i : Nat) : -2147483648 * (i : Int) ≤ sumN s p l i ∧ sumN s p l i ≤ 2147483648 * (i : Int) := by
  induction i with
  | zero => exact ⟨by simp [sumN], by simp [sumN]⟩
  | succ i ih =>
    have := h.getD i
    simp only [sumN]; split <;> omega
theorem above_ret {σ : AH} {v : Value} {l : List Int} (h : I32s σ v l) (hs : Small l) (s : BitVec 64) (p : Int) : Ret Try.prog sm 25 [v, w64 s, .int .i64 p] σ fun r σ' => r = .bool (aboveOf s p l) ∧ σ' = σ := by
  have hl := h.len Try.underlying22
  have hlen := hs.1
  refine Ret.enter rfl Try.func25 rfl (of_decide_eq_true rfl) ?_
  show WC _ _ _ _ _ _ _
  repeat with_reducible refine WC.seq ?_
  refine WC.region ?_
  refine WO.op rfl (by simp only [EV, LK, ne_eq, Nat.reduceEqDiff, not_false_eq_true]; rfl) rfl ?_
  refine WO.nil ?_
  show WC _ _ _ _ _ _ _
  repeat with_reducible refine WC.seq ?_
  refine WC.region ?_
  refine WO.op rfl (by simp only [EV, LK, ne_eq, Nat.reduceEqDiff, not_false_eq_true]; rfl) rfl ?_
  refine WO.nil ?_
  show WC _ _ _ _ _ _ _
  repeat with_reducible refine WC.seq ?_
  refine WC.region ?_
  refine WO.op rfl (by simp only [EV, LK, ne_eq, Nat.reduceEqDiff, not_false_eq_true, conv_word Try.underlying3 Try.underlying23]; rfl) rfl ?_
  refine WO.op rfl (by simp only [EV, LK, ne_eq, Nat.reduceEqDiff, not_false_eq_true, conv_word Try.underlying3 Try.underlying23]; rfl) rfl ?_
  refine WO.op rfl (by simp only [EV, LK, ne_eq, Nat.reduceEqDiff, not_false_eq_true, conv_word Try.underlying3 Try.underlying23]; rfl) rfl ?_
  refine WO.call rfl rfl (by simp only [LK, ne_eq, Nat.reduceEqDiff, not_false_eq_true, callee, List.map_cons, List.map_nil]; rfl) ((at_ret _ _ _).mono fun v σ hR => ⟨_, rfl, ?_⟩)
  obtain ⟨rfl, rfl⟩ := hR
  refine WO.op rfl (by simp only [EV, LK, ne_eq, Nat.reduceEqDiff, not_false_eq_true]; rfl) rfl ?_
  refine WO.nil ?_
  show WC _ _ _ _ _ _ _
  repeat with_reducible refine WC.seq ?_
  refine WC.region ?_
  refine WO.op rfl (by simp only [EV, LK, ne_eq, Nat.reduceEqDiff, not_false_eq_true, hl]; rfl) rfl ?_
  refine WO.op rfl (by simp only [EV, LK, ne_eq, Nat.reduceEqDiff, not_false_eq_true, hl]; rfl) rfl ?_
  refine WO.op rfl (by simp only [EV, LK, ne_eq, Nat.reduceEqDiff, not_false_eq_true, hl]; rfl) rfl ?_
  refine WO.nil ?_
  show WC _ _ _ _ _ _ _
  repeat with_reducible refine WC.seq ?_
  refine WC.loops (fun m t σ2 => ∃ i, m = l.length - i ∧ i ≤ l.length ∧ σ2 = σ ∧ t 7 = .int .i64 (sumN s p l i) ∧ t 8 = w64 (atRng s (BitVec.ofInt 64 p)) ∧ t 15 = v ∧ t 16 = .int .i64 (l.length : Int) ∧ t 17 = .int .i64 (i : Int)) (fun t σ2 => σ2 = σ ∧ t 7 = .int .i64 (sumN s p l l.length)) l.length ?_ ?_ ?_
  · exact ⟨0, rfl, Nat.zero_le _, rfl, (by simp only [LK, ne_eq, Nat.reduceEqDiff, not_false_eq_true]; rfl), (by simp only [LK, ne_eq, Nat.reduceEqDiff, not_false_eq_true]), (by simp only [LK, ne_eq, Nat.reduceEqDiff, not_false_eq_true]), (by simp only [LK, ne_eq, Nat.reduceEqDiff, not_false_eq_true]), (by simp only [LK, ne_eq, Nat.reduceEqDiff, not_false_eq_true]; rfl)⟩
  · rintro m t σ ⟨i, rfl, hi, rfl, t7, t8, t15, t16, t17⟩
    by_cases hiN : i < l.length
    · have hq : decide ((i : Int) < (l.length : Int)) = true := decide_eq_true (by omega)
      show WC _ _ _ _ _ _ _
      repeat with_reducible refine WC.seq ?_
      refine WC.region ?_
      refine WO.op rfl (by simp only [EV, LK, AR, WR, ne_eq, Nat.reduceEqDiff, not_false_eq_true, t7, t8, t15, t16, t17, hq]; rfl) rfl ?_
      refine WO.nil ?_
      show WC _ _ _ _ _ _ _
      repeat with_reducible refine WC.seq ?_
      refine WC.condT (by simp only [LK, ne_eq, Nat.reduceEqDiff, not_false_eq_true, t7, t8, t15, t16, t17, decide_true, decide_false, decide_not, Bool.not_true, Bool.not_false]) ?_
      refine WC.skip ?_
      obtain ⟨q, hp1, _, hp2⟩ := h.elem Try.underlying22 sz21 ag21 (i := (i : Int)) (k := .i64) (by omega) (getD_some (by omega) 0)
      have hw : IntKind.i64.wrap ((i : Int) + 1) = ((i + 1 : Nat) : Int) := by rw [wrap_i64 (by omega) (by omega)]; omega
      have hx := hs.getD i
      have hb := sumN_bd hs s p i
      have hwx : IntKind.i64.wrap (l.getD i 0) = l.getD i 0 := wrap_i64 (by omega) (by omega)
      have hadd : IntKind.i64.wrap (sumN s p l i + l.getD i 0) = sumN s p l i + l.getD i 0 := wrap_i64 (by omega) (by omega)
      have hsub : IntKind.i64.wrap (sumN s p l i - l.getD i 0) = sumN s p l i - l.getD i 0 := wrap_i64 (by omega) (by omega)
      refine WC.seq ?_
      refine WC.to (fun t' σ2 => σ2 = σ ∧ t' 7 = .int .i64 (sumN s p l (i + 1)) ∧ t' 8 = w64 (atRng s (BitVec.ofInt 64 p)) ∧ t' 15 = v ∧ t' 16 = .int .i64 (l.length : Int) ∧ t' 17 = .int .i64 (i : Int)) ?_ ?_
      · refine WC.block ?_
        show WC _ _ _ _ _ _ _
        repeat with_reducible refine WC.seq ?_
        refine WC.region ?_
        refine WO.op rfl (by simp only [EV, LK, ne_eq, Nat.reduceEqDiff, not_false_eq_true, t7, t8, t15, t16, t17, hp1, hp2, Int.toNat_natCast]; rfl) rfl ?_
        refine WO.op rfl (by simp only [EV, LK, ne_eq, Nat.reduceEqDiff, not_false_eq_true, t7, t8, t15, t16, t17, hp1, hp2, Int.toNat_natCast]; rfl) rfl ?_
        refine WO.op rfl (by simp only [EV, LK, ne_eq, Nat.reduceEqDiff, not_false_eq_true, t7, t8, t15, t16, t17, hp1, hp2, Int.toNat_natCast]; rfl) rfl ?_
        refine WO.op rfl (by simp only [EV, LK, ne_eq, Nat.reduceEqDiff, not_false_eq_true, t7, t8, t15, t16, t17, hp1, hp2, Int.toNat_natCast]; rfl) rfl ?_
        refine WO.op rfl (by simp only [EV, LK, ne_eq, Nat.reduceEqDiff, not_false_eq_true, t7, t8, t15, t16, t17, hp1, hp2, Int.toNat_natCast]; rfl) rfl ?_
        refine WO.nil ?_
        show WC _ _ _ _ _ _ _
        repeat with_reducible refine WC.seq ?_
        refine WC.region ?_
        refine WO.op rfl (by simp only [EV, LK, ne_eq, Nat.reduceEqDiff, not_false_eq_true, t7, t8, t15, t16, t17, conv_word Try.underlying3 Try.underlying23]; rfl) rfl ?_
        refine WO.op rfl (by simp only [EV, LK, ne_eq, Nat.reduceEqDiff, not_false_eq_true, t7, t8, t15, t16, t17, conv_word Try.underlying3 Try.underlying23]; rfl) rfl ?_
        refine WO.op rfl (by simp only [EV, LK, ne_eq, Nat.reduceEqDiff, not_false_eq_true, t7, t8, t15, t16, t17, conv_word Try.underlying3 Try.underlying23]; rfl) rfl ?_
        refine WO.call rfl rfl (by simp only [LK, ne_eq, Nat.reduceEqDiff, not_false_eq_true, t7, t8, t15, t16, t17, callee, List.map_cons, List.map_nil]; rfl) ((at_ret _ _ _).mono fun v σ hR => ⟨_, rfl, ?_⟩)
        obtain ⟨rfl, rfl⟩ := hR
        have hbit : ∀ (h : atRng (atRng s (BitVec.ofInt 64 p)) (BitVec.ofInt 64 (i : Int)) &&& BitVec.ofInt 64 1 = 0#64), bitAt s p (i : Int) = 0#64 := fun h => h
        refine WO.op rfl (by simp only [EV, LK, AR, WR, ne_eq, Nat.reduceEqDiff, not_false_eq_true, t7, t8, t15, t16, t17]; rfl) rfl ?_
        refine WO.op rfl (by simp only [EV, LK, AR, WR, ne_eq, Nat.reduceEqDiff, not_false_eq_true, t7, t8, t15, t16, t17]; rfl) rfl ?_
        refine WO.nil ?_
        by_cases hz : atRng (atRng s (BitVec.ofInt 64 p)) (BitVec.ofInt 64 (i : Int)) &&& BitVec.ofInt 64 1 = 0#64
        · show WC _ _ _ _ _ _ _
          repeat with_reducible refine WC.seq ?_
          refine WC.condT (by simp only [LK, ne_eq, Nat.reduceEqDiff, not_false_eq_true, t7, t8, t15, t16, t17, hz, decide_true, decide_false, decide_not, Bool.not_true, Bool.not_false]) ?_
          show WC _ _ _ _ _ _ _
          repeat with_reducible refine WC.seq ?_
          refine WC.region ?_
          refine WO.op rfl (by simp only [EV, LK, ne_eq, Nat.reduceEqDiff, not_false_eq_true, t7, t8, t15, t16, t17, conv_int Try.underlying21 Try.underlying2, hwx, hsub]; rfl) rfl ?_
          refine WO.op rfl (by simp only [EV, LK, ne_eq, Nat.reduceEqDiff, not_false_eq_true, t7, t8, t15, t16, t17, conv_int Try.underlying21 Try.underlying2, hwx, hsub]; rfl) rfl ?_
          refine WO.op rfl (by simp only [EV, LK, ne_eq, Nat.reduceEqDiff, not_false_eq_true, t7, t8, t15, t16, t17, conv_int Try.underlying21 Try.underlying2, hwx, hsub]; rfl) rfl ?_
          refine WO.op rfl (by simp only [EV, LK, AR, WR, ne_eq, Nat.reduceEqDiff, not_false_eq_true, t7, t8, t15, t16, t17, conv_int Try.underlying21 Try.underlying2, hwx, hsub]; rfl) rfl ?_
          refine WO.op rfl (by simp only [EV, LK, ne_eq, Nat.reduceEqDiff, not_false_eq_true, t7, t8, t15, t16, t17, conv_int Try.underlying21 Try.underlying2, hwx, hsub]; rfl) rfl ?_
          refine WO.nil ?_
          refine WC.exit ?_
          refine ⟨rfl, ?_, (by simp only [LK, ne_eq, Nat.reduceEqDiff, not_false_eq_true, t7, t8, t15, t16, t17]), (by simp only [LK, ne_eq, Nat.reduceEqDiff, not_false_eq_true, t7, t8, t15, t16, t17]), (by simp only [LK, ne_eq, Nat.reduceEqDiff, not_false_eq_true, t7, t8, t15, t16, t17]), (by simp only [LK, ne_eq, Nat.reduceEqDiff, not_false_eq_true, t7, t8, t15, t16, t17])⟩
          rw [sumN, if_pos (hbit hz)]; rfl
        · show WC _ _ _ _ _ _ _
          repeat with_reducible refine WC.seq ?_
          refine WC.condF (by simp only [LK, ne_eq, Nat.reduceEqDiff, not_false_eq_true, t7, t8, t15, t16, t17, hz, decide_true, decide_false, decide_not, Bool.not_true, Bool.not_false]) ?_
          refine WC.skip ?_
          show WC _ _ _ _ _ _ _
          repeat with_reducible refine WC.seq ?_
          refine WC.region ?_
          refine WO.op rfl (by simp only [EV, LK, ne_eq, Nat.reduceEqDiff, not_false_eq_true, t7, t8, t15, t16, t17, conv_int Try.underlying21 Try.underlying2, hwx, hadd]; rfl) rfl ?_
          refine WO.op rfl (by simp only [EV, LK, ne_eq, Nat.reduceEqDiff, not_false_eq_true, t7, t8, t15, t16, t17, conv_int Try.underlying21 Try.underlying2, hwx, hadd]; rfl) rfl ?_
          refine WO.op rfl (by simp only [EV, LK, ne_eq, Nat.reduceEqDiff, not_false_eq_true, t7, t8, t15, t16, t17, conv_int Try.underlying21 Try.underlying2, hwx, hadd]; rfl) rfl ?_
          refine WO.op rfl (by simp only [EV, LK, AR, WR, ne_eq, Nat.reduceEqDiff, not_false_eq_true, t7, t8, t15, t16, t17, conv_int Try.underlying21 Try.underlying2, hwx, hadd]; rfl) rfl ?_
          refine WO.op rfl (by simp only [EV, LK, ne_eq, Nat.reduceEqDiff, not_false_eq_true, t7, t8, t15, t16, t17, conv_int Try.underlying21 Try.underlying2, hwx, hadd]; rfl) rfl ?_
          refine WO.nil ?_
          refine ⟨rfl, ?_, (by simp only [LK, ne_eq, Nat.reduceEqDiff, not_false_eq_true, t7, t8, t15, t16, t17]), (by simp only [LK, ne_eq, Nat.reduceEqDiff, not_false_eq_true, t7, t8, t15, t16, t17]), (by simp only [LK, ne_eq, Nat.reduceEqDiff, not_false_eq_true, t7, t8, t15, t16, t17]), (by simp only [LK, ne_eq, Nat.reduceEqDiff, not_false_eq_true, t7, t8, t15, t16, t17])⟩
          rw [sumN, if_neg (show ¬ bitAt s p (i : Int) = 0#64 from hz)]; rfl
      · rintro t' σ ⟨rfl, t7', t8', t15', t16', t17'⟩
        show WC _ _ _ _ _ _ _
        repeat with_reducible refine WC.seq ?_
        refine WC.region ?_
        refine WO.op rfl (by simp only [EV, LK, AR, WR, ne_eq, Nat.reduceEqDiff, not_false_eq_true, t7', t8', t15', t16', t17', hw]; rfl) rfl ?_
        refine WO.op rfl (by simp only [EV, LK, ne_eq, Nat.reduceEqDiff, not_false_eq_true, t7', t8', t15', t16', t17', hw]; rfl) rfl ?_
        refine WO.nil ?_
        exact ⟨l.length - (i + 1), by omega, i + 1, rfl, by omega, rfl, (by simp only [LK, ne_eq, Nat.reduceEqDiff, not_false_eq_true, t7', t8', t15', t16', t17']), (by simp only [LK, ne_eq, Nat.reduceEqDiff, not_false_eq_true, t7', t8', t15', t16', t17']), (by simp only [LK, ne_eq, Nat.reduceEqDiff, not_false_eq_true, t7', t8', t15', t16', t17']), (by simp only [LK, ne_eq, Nat.reduceEqDiff, not_false_eq_true, t7', t8', t15', t16', t17']), (by simp only [LK, ne_eq, Nat.reduceEqDiff, not_false_eq_true, t7', t8', t15', t16', t17'])⟩
    · have hq : decide ((i : Int) < (l.length : Int)) = false := decide_eq_false (by omega)
      obtain rfl : i = l.length := by omega
      show WC _ _ _ _ _ _ _
      repeat with_reducible refine WC.seq ?_
      refine WC.region ?_
      refine WO.op rfl (by simp only [EV, LK, AR, WR, ne_eq, Nat.reduceEqDiff, not_false_eq_true, t7, t8, t15, t16, t17, hq]; rfl) rfl ?_
      refine WO.nil ?_
      show WC _ _ _ _ _ _ _
      repeat with_reducible refine WC.seq ?_
      refine WC.condF (by simp only [LK, ne_eq, Nat.reduceEqDiff, not_false_eq_true, t7, t8, t15, t16, t17, decide_true, decide_false, decide_not, Bool.not_true, Bool.not_false]) ?_
      exact .exit ⟨rfl, (by simp only [LK, ne_eq, Nat.reduceEqDiff, not_false_eq_true, t7, t8, t15, t16, t17])⟩
  · rintro t σ ⟨rfl, t7⟩
    show WC _ _ _ _ _ _ _
    repeat with_reducible refine WC.seq ?_
    refine WC.region ?_
    refine WO.op rfl (by simp only [EV, LK, ne_eq, Nat.reduceEqDiff, not_false_eq_true, t7]; rfl) rfl ?_
    refine WO.op rfl (by simp only [EV, LK, AR, WR, ne_eq, Nat.reduceEqDiff, not_false_eq_true, t7]; rfl) rfl ?_
    refine WO.op rfl (by simp only [EV, LK, ne_eq, Nat.reduceEqDiff, not_false_eq_true, t7]; rfl) rfl ?_
    refine WO.nil ?_
    exact .ret ⟨.inr rfl, [.bool _], rfl, rfl, rfl⟩
/-- The planes that a vector is above. -/
def planes (s : BitVec 64) (l : List Int) : Nat → List Int
  | 0 => []
  | n + 1 => planes s l n ++ (if aboveOf s (n : Int) l then [(n : Int)] else [])
theorem planes_len (s : BitVec 64) (l : List Int) (n : Nat) : (planes s l n).length ≤ n := by
  induction n with
  | zero => exact Nat.le_refl _
  | succ n ih => simp only [planes]; split <;> simp <;> omega
theorem planes_mem {s : BitVec 64} {l : List Int} {n : Nat} {x : Int} : x ∈ planes s l n ↔ 0 ≤ x ∧ x < (n : Int) ∧ aboveOf s x l = true := by
  induction n with
  | zero => simp [planes]; omega
  | succ n ih =>
    simp only [planes, List.mem_append, ih]
    by_cases h : aboveOf s (n : Int) l = true
    · simp only [h, if_true, List.mem_singleton]
      constructor
      · rintro (h1 | rfl)
        · exact ⟨h1.1, by omega, h1.2.2⟩
        · exact ⟨by omega, by omega, h⟩
      · rintro ⟨h1, h2, h3⟩
        rcases Int.lt_or_eq_of_le (Int.le_of_lt_add_one (by omega : x < (n : Int) + 1)) with h4 | h4
        · exact .inl ⟨h1, h4, h3⟩
        · exact .inr h4
    · simp only [Bool.not_eq_true] at h
      simp only [h, Bool.false_eq_true, if_false, List.not_mem_nil, or_false]
      constructor
      · rintro ⟨h1, h2, h3⟩
        exact ⟨h1, by omega, h3⟩
      · rintro ⟨h1, h2, h3⟩
        refine ⟨h1, ?_, h3⟩
        rcases Int.lt_or_eq_of_le (Int.le_of_lt_add_one (by omega : x < (n : Int) + 1)) with h4 | h4
        · exact h4
        · rw [h4, h] at h3; cases h3
def howMany (n : Int) : Nat := (min (max n 0) 4096).toNat
def sketchOf (s : BitVec 64) (l : List Int) (n : Int) : List (BitVec 64) := setOf (planes s l (howMany n))
theorem sk_ret {σ : AH} {v : Value} {l : List Int} (h : I32s σ v l) (hs : Small l) (s : BitVec 64) (n : Int) (hba : σ.base ≤ σ.size) : Ret Try.prog sm 11 [v, w64 s, .int .i64 n] σ fun r σ' => Vec w64 σ' r (sketchOf s l n) ∧ Since σ.size σ σ' := by
  refine Ret.enter rfl Try.func11 rfl (of_decide_eq_true rfl) ?_
  have hm : min (max n 0) 4096 = ((howMany n : Nat) : Int) := by unfold howMany; omega
  have hN : howMany n ≤ 4096 := by unfold howMany; omega
  unfold sketchOf
  generalize howMany n = N at *
  show WC _ _ _ _ _ _ _
  repeat with_reducible refine WC.seq ?_
  refine WC.region ?_
  refine WO.op rfl (by simp only [EV, LK, ne_eq, Nat.reduceEqDiff, not_false_eq_true]; rfl) rfl ?_
  refine WO.nil ?_
  show WC _ _ _ _ _ _ _
  repeat with_reducible refine WC.seq ?_
  refine WC.region ?_
  refine WO.op rfl (by simp only [EV, LK, ne_eq, Nat.reduceEqDiff, not_false_eq_true]; rfl) rfl ?_
  refine WO.nil ?_
  show WC _ _ _ _ _ _ _
  repeat with_reducible refine WC.seq ?_
  refine WC.region ?_
  refine WO.op rfl (by simp only [EV, LK, ne_eq, Nat.reduceEqDiff, not_false_eq_true, hm]; rfl) rfl ?_
  refine WO.op rfl (by simp only [EV, LK, AR, WR, ne_eq, Nat.reduceEqDiff, not_false_eq_true, hm]; rfl) rfl ?_
  refine WO.op rfl (by simp only [EV, LK, AR, WR, ne_eq, Nat.reduceEqDiff, not_false_eq_true, hm]; rfl) rfl ?_
  refine WO.op rfl (by simp only [EV, LK, ne_eq, Nat.reduceEqDiff, not_false_eq_true, hm]; rfl) rfl ?_
  refine WO.nil ?_
  show WC _ _ _ _ _ _ _
  repeat with_reducible refine WC.seq ?_
  refine WC.loops (fun m t σ2 => ∃ i w, m = N - i ∧ i ≤ N ∧ Since σ.size σ σ2 ∧ OVec (Value.int .i64) σ2 σ.size w (planes s l i) ∧ t 0 = v ∧ t 1 = w64 s ∧ t 7 = w ∧ t 11 = .int .i64 (N : Int) ∧ t 12 = .int .i64 (i : Int)) (fun t σ2 => ∃ w, Since σ.size σ σ2 ∧ OVec (Value.int .i64) σ2 σ.size w (planes s l N) ∧ t 7 = w) N ?_ ?_ ?_
  · exact ⟨0, _, rfl, Nat.zero_le _, .refl _ _, OVec.nil _ _ _, (by simp only [LK, ne_eq, Nat.reduceEqDiff, not_false_eq_true]), (by simp only [LK, ne_eq, Nat.reduceEqDiff, not_false_eq_true]), (by simp only [LK, ne_eq, Nat.reduceEqDiff, not_false_eq_true]), (by simp only [LK, ne_eq, Nat.reduceEqDiff, not_false_eq_true]), (by simp only [LK, ne_eq, Nat.reduceEqDiff, not_false_eq_true]; rfl)⟩
  · rintro m t σ2 ⟨i, w, rfl, hi, hS, hO, t0, t1, t7, t11, t12⟩
    by_cases hiN : i < N
    · have hq : decide ((i : Int) < (N : Int)) = true := decide_eq_true (by omega)
      show WC _ _ _ _ _ _ _
      repeat with_reducible refine WC.seq ?_
      refine WC.region ?_
      refine WO.op rfl (by simp only [EV, LK, AR, WR, ne_eq, Nat.reduceEqDiff, not_false_eq_true, t0, t1, t7, t11, t12, hq]; rfl) rfl ?_
      refine WO.nil ?_
      show WC _ _ _ _ _ _ _
      repeat with_reducible refine WC.seq ?_
      refine WC.condT (by simp only [LK, ne_eq, Nat.reduceEqDiff, not_false_eq_true, t0, t1, t7, t11, t12, decide_true, decide_false, decide_not, Bool.not_true, Bool.not_false]) ?_
      refine WC.skip ?_
      have hw : IntKind.i64.wrap ((i : Int) + 1) = ((i + 1 : Nat) : Int) := by rw [wrap_i64 (by omega) (by omega)]; omega
      refine WC.seq ?_
      refine WC.to (fun t' σ3 => ∃ w, Since σ.size σ σ3 ∧ OVec (Value.int .i64) σ3 σ.size w (planes s l (i + 1)) ∧ t' 0 = v ∧ t' 1 = w64 s ∧ t' 7 = w ∧ t' 11 = .int .i64 (N : Int) ∧ t' 12 = .int .i64 (i : Int)) ?_ ?_
      · refine WC.block ?_
        show WC _ _ _ _ _ _ _
        repeat with_reducible refine WC.seq ?_
        refine WC.region ?_
        refine WO.op rfl (by simp only [EV, LK, ne_eq, Nat.reduceEqDiff, not_false_eq_true, t0, t1, t7, t11, t12]; rfl) rfl ?_
        refine WO.op rfl (by simp only [EV, LK, ne_eq, Nat.reduceEqDiff, not_false_eq_true, t0, t1, t7, t11, t12]; rfl) rfl ?_
        refine WO.nil ?_
        show WC _ _ _ _ _ _ _
        repeat with_reducible refine WC.seq ?_
        refine WC.region ?_
        refine WO.op rfl (by simp only [EV, LK, ne_eq, Nat.reduceEqDiff, not_false_eq_true, t0, t1, t7, t11, t12]; rfl) rfl ?_
        refine WO.op rfl (by simp only [EV, LK, ne_eq, Nat.reduceEqDiff, not_false_eq_true, t0, t1, t7, t11, t12]; rfl) rfl ?_
        refine WO.op rfl (by simp only [EV, LK, ne_eq, Nat.reduceEqDiff, not_false_eq_true, t0, t1, t7, t11, t12]; rfl) rfl ?_
        refine WO.call rfl rfl (by simp only [LK, ne_eq, Nat.reduceEqDiff, not_false_eq_true, t0, t1, t7, t11, t12, callee, List.map_cons, List.map_nil]; rfl) ((above_ret (h.keeps hS) hs s (i : Int)).mono fun r1 σ1 hR => ⟨_, rfl, ?_⟩)
        obtain ⟨rfl, rfl⟩ := hR
        refine WO.nil ?_
        by_cases ha : aboveOf s (i : Int) l = true
        · show WC _ _ _ _ _ _ _
          repeat with_reducible refine WC.seq ?_
          refine WC.condT (by simp only [LK, ne_eq, Nat.reduceEqDiff, not_false_eq_true, t0, t1, t7, t11, t12, ha, decide_true, decide_false, decide_not, Bool.not_true, Bool.not_false]) ?_
          obtain ⟨y, σ3, hb1, hy, hS3, hby⟩ := build1 (P := Try.prog) (enc := Value.int .i64) (t := 32) (Nat.le_refl _) Try.underlying32 et3 ze3 (x := (i : Int)) rfl rfl (σ := σ1)
          have hpl := planes_len s l i
          have hB3 : σ.size ≤ σ3.size := Nat.le_trans hS.size hS3.size
          obtain ⟨w', σ4, hap, hO4, hS4, _⟩ := (hO.keeps hS3).append1 (P := Try.prog) (t := 32) hB3 ((hS.trans (hS3.mono hS.size)).based hba) hy Try.underlying32 et3 rfl (by omega)
          show WC _ _ _ _ _ _ _
          repeat with_reducible refine WC.seq ?_
          refine WC.region ?_
          refine WO.op rfl (by simp only [EV, LK, ne_eq, Nat.reduceEqDiff, not_false_eq_true, t0, t1, t7, t11, t12, hb1, hap]; rfl) rfl ?_
          refine WO.op rfl (by simp only [EV, LK, ne_eq, Nat.reduceEqDiff, not_false_eq_true, t0, t1, t7, t11, t12, hb1, hap]; rfl) rfl ?_
          refine WO.op rfl (by simp only [EV, LK, ne_eq, Nat.reduceEqDiff, not_false_eq_true, t0, t1, t7, t11, t12, hb1, hap]; rfl) rfl ?_
          refine WO.op rfl (by simp only [EV, LK, ne_eq, Nat.reduceEqDiff, not_false_eq_true, t0, t1, t7, t11, t12, hb1, hap]; rfl) rfl ?_
          refine WO.op rfl (by simp only [EV, LK, ne_eq, Nat.reduceEqDiff, not_false_eq_true, t0, t1, t7, t11, t12, hb1, hap]; rfl) rfl ?_
          refine WO.nil ?_
          refine ⟨w', (hS.trans (hS3.mono hS.size)).trans hS4, ?_, (by simp only [LK, ne_eq, Nat.reduceEqDiff, not_false_eq_true, t0, t1, t7, t11, t12]), (by simp only [LK, ne_eq, Nat.reduceEqDiff, not_false_eq_true, t0, t1, t7, t11, t12]), (by simp only [LK, ne_eq, Nat.reduceEqDiff, not_false_eq_true, t0, t1, t7, t11, t12]), (by simp only [LK, ne_eq, Nat.reduceEqDiff, not_false_eq_true, t0, t1, t7, t11, t12]), (by simp only [LK, ne_eq, Nat.reduceEqDiff, not_false_eq_true, t0, t1, t7, t11, t12])⟩
          simpa [planes, ha] using hO4
        · rw [Bool.not_eq_true] at ha
          show WC _ _ _ _ _ _ _
          repeat with_reducible refine WC.seq ?_
          refine WC.condF (by simp only [LK, ne_eq, Nat.reduceEqDiff, not_false_eq_true, t0, t1, t7, t11, t12, ha, decide_true, decide_false, decide_not, Bool.not_true, Bool.not_false]) ?_
          refine WC.skip ⟨w, hS, ?_, (by simp only [LK, ne_eq, Nat.reduceEqDiff, not_false_eq_true, t0, t1, t7, t11, t12]), (by simp only [LK, ne_eq, Nat.reduceEqDiff, not_false_eq_true, t0, t1, t7, t11, t12]), (by simp only [LK, ne_eq, Nat.reduceEqDiff, not_false_eq_true, t0, t1, t7, t11, t12]), (by simp only [LK, ne_eq, Nat.reduceEqDiff, not_false_eq_true, t0, t1, t7, t11, t12]), (by simp only [LK, ne_eq, Nat.reduceEqDiff, not_false_eq_true, t0, t1, t7, t11, t12])⟩
          simpa [planes, ha] using hO
      · rintro t' σ3 ⟨w, hS3, hO3, t0', t1', t7', t11', t12'⟩
        show WC _ _ _ _ _ _ _
        repeat with_reducible refine WC.seq ?_
        refine WC.region ?_
        refine WO.op rfl (by simp only [EV, LK, AR, WR, ne_eq, Nat.reduceEqDiff, not_false_eq_true, t0', t1', t7', t11', t12', hw]; rfl) rfl ?_
        refine WO.op rfl (by simp only [EV, LK, ne_eq, Nat.reduceEqDiff, not_false_eq_true, t0', t1', t7', t11', t12', hw]; rfl) rfl ?_
        refine WO.nil ?_
        exact ⟨N - (i + 1), by omega, i + 1, w, rfl, by omega, hS3, hO3, (by simp only [LK, ne_eq, Nat.reduceEqDiff, not_false_eq_true, t0', t1', t7', t11', t12']), (by simp only [LK, ne_eq, Nat.reduceEqDiff, not_false_eq_true, t0', t1', t7', t11', t12']), (by simp only [LK, ne_eq, Nat.reduceEqDiff, not_false_eq_true, t0', t1', t7', t11', t12']), (by simp only [LK, ne_eq, Nat.reduceEqDiff, not_false_eq_true, t0', t1', t7', t11', t12']), (by simp only [LK, ne_eq, Nat.reduceEqDiff, not_false_eq_true, t0', t1', t7', t11', t12'])⟩
    · have hq : decide ((i : Int) < (N : Int)) = false := decide_eq_false (by omega)
      obtain rfl : i = N := by omega
      show WC _ _ _ _ _ _ _
      repeat with_reducible refine WC.seq ?_
      refine WC.region ?_
      refine WO.op rfl (by simp only [EV, LK, AR, WR, ne_eq, Nat.reduceEqDiff, not_false_eq_true, t0, t1, t7, t11, t12, hq]; rfl) rfl ?_
      refine WO.nil ?_
      show WC _ _ _ _ _ _ _
      repeat with_reducible refine WC.seq ?_
      refine WC.condF (by simp only [LK, ne_eq, Nat.reduceEqDiff, not_false_eq_true, t0, t1, t7, t11, t12, decide_true, decide_false, decide_not, Bool.not_true, Bool.not_false]) ?_
      exact .exit ⟨w, hS, hO, (by simp only [LK, ne_eq, Nat.reduceEqDiff, not_false_eq_true, t0, t1, t7, t11, t12])⟩
  · rintro t σ2 ⟨w, hS, hO, t7⟩
    have hpl := planes_len s l N
    have hlo : ∀ x ∈ planes s l N, -9223372036854775808 ≤ x := fun x hx => by have := planes_mem.1 hx; omega
    show WC _ _ _ _ _ _ _
    repeat with_reducible refine WC.seq ?_
    refine WC.region ?_
    refine WO.op rfl (by simp only [EV, LK, ne_eq, Nat.reduceEqDiff, not_false_eq_true, t7]; rfl) rfl ?_
    refine WO.call rfl rfl (by simp only [LK, ne_eq, Nat.reduceEqDiff, not_false_eq_true, callee, List.map_cons, List.map_nil]; rfl) ((of_ret hO.vec (by omega) hlo (hS.based hba)).mono fun r2 σ1 hR => ⟨_, rfl, ?_⟩)
    obtain ⟨hv, hS2⟩ := hR
    refine WO.op rfl (by simp only [EV, LK, ne_eq, Nat.reduceEqDiff, not_false_eq_true]; rfl) rfl ?_
    refine WO.nil ?_
    exact .ret ⟨.inr rfl, [_], rfl, hv, hS.trans (hS2.mono hS.size)⟩
