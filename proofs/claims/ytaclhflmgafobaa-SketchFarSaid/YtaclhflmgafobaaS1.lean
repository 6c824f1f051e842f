/- What the functions of words and of sets compute. -/
import Derived.Test.YtaclhflmgafobaaAbM
import Derived.Test.YtaclhflmgafobaaProg
namespace Go.Proofs.Ytaclhflmgafobaa
open Go Go.Ab Go.Proofs
set_option linter.unusedSimpArgs false
set_option linter.unusedVariables false
set_option maxRecDepth 20000

/-- What the seat's own summaries tell: what the law's first question answers. -/
def sm : Caller := oneSum 5 (.bool true)
/-- The words' mixer. -/
def mix1 (x : BitVec 64) : BitVec 64 := x + BitVec.ofInt 64 11400714819323198485
def mix2 (x : BitVec 64) : BitVec 64 := (x ^^^ (x >>> 30)) * BitVec.ofInt 64 13787848793156543929
def mix3 (x : BitVec 64) : BitVec 64 := (x ^^^ (x >>> 27)) * BitVec.ofInt 64 10723151780598845931
def mix (x : BitVec 64) : BitVec 64 := mix3 (mix2 (mix1 x)) ^^^ (mix3 (mix2 (mix1 x)) >>> 31)
theorem mix_ret (x : BitVec 64) (σ : AH) : Ret Try.prog sm 37 [w64 x] σ fun v σ' => v = w64 (mix x) ∧ σ' = σ := by
  refine Ret.enter rfl Try.func37 rfl (of_decide_eq_true rfl) ?_
  show WC _ _ _ _ _ _ _
  repeat with_reducible refine WC.seq ?_
  refine WC.region ?_
  refine WO.op rfl (by simp only [EV, LK, ne_eq, Nat.reduceEqDiff, not_false_eq_true]; rfl) rfl ?_
  refine WO.nil ?_
  show WC _ _ _ _ _ _ _
  repeat with_reducible refine WC.seq ?_
  refine WC.region ?_
  refine WO.op rfl (by simp only [EV, LK, ne_eq, Nat.reduceEqDiff, not_false_eq_true]; rfl) rfl ?_
  refine WO.op rfl (by simp only [EV, LK, AR, WR, ne_eq, Nat.reduceEqDiff, not_false_eq_true]; rfl) rfl ?_
  refine WO.op rfl (by simp only [EV, LK, ne_eq, Nat.reduceEqDiff, not_false_eq_true]; rfl) rfl ?_
  refine WO.nil ?_
  show WC _ _ _ _ _ _ _
  repeat with_reducible refine WC.seq ?_
  refine WC.region ?_
  refine WO.op rfl (by simp only [EV, LK, ne_eq, Nat.reduceEqDiff, not_false_eq_true]; rfl) rfl ?_
  refine WO.op rfl (by simp only [EV, LK, ne_eq, Nat.reduceEqDiff, not_false_eq_true]; rfl) rfl ?_
  refine WO.op rfl (by simp only [EV, LK, AR, WR, Int.reduceLE, Int.reduceToNat, ne_eq, Nat.reduceEqDiff, not_false_eq_true]; rfl) rfl ?_
  refine WO.op rfl (by simp only [EV, LK, AR, WR, ne_eq, Nat.reduceEqDiff, not_false_eq_true]; rfl) rfl ?_
  refine WO.op rfl (by simp only [EV, LK, AR, WR, ne_eq, Nat.reduceEqDiff, not_false_eq_true]; rfl) rfl ?_
  refine WO.op rfl (by simp only [EV, LK, ne_eq, Nat.reduceEqDiff, not_false_eq_true]; rfl) rfl ?_
  refine WO.nil ?_
  show WC _ _ _ _ _ _ _
  repeat with_reducible refine WC.seq ?_
  refine WC.region ?_
  refine WO.op rfl (by simp only [EV, LK, ne_eq, Nat.reduceEqDiff, not_false_eq_true]; rfl) rfl ?_
  refine WO.op rfl (by simp only [EV, LK, ne_eq, Nat.reduceEqDiff, not_false_eq_true]; rfl) rfl ?_
  refine WO.op rfl (by simp only [EV, LK, AR, WR, Int.reduceLE, Int.reduceToNat, ne_eq, Nat.reduceEqDiff, not_false_eq_true]; rfl) rfl ?_
  refine WO.op rfl (by simp only [EV, LK, AR, WR, ne_eq, Nat.reduceEqDiff, not_false_eq_true]; rfl) rfl ?_
  refine WO.op rfl (by simp only [EV, LK, AR, WR, ne_eq, Nat.reduceEqDiff, not_false_eq_true]; rfl) rfl ?_
  refine WO.op rfl (by simp only [EV, LK, ne_eq, Nat.reduceEqDiff, not_false_eq_true]; rfl) rfl ?_
  refine WO.nil ?_
  show WC _ _ _ _ _ _ _
  repeat with_reducible refine WC.seq ?_
  refine WC.region ?_
  refine WO.op rfl (by simp only [EV, LK, ne_eq, Nat.reduceEqDiff, not_false_eq_true]; rfl) rfl ?_
  refine WO.op rfl (by simp only [EV, LK, ne_eq, Nat.reduceEqDiff, not_false_eq_true]; rfl) rfl ?_
  refine WO.op rfl (by simp only [EV, LK, AR, WR, Int.reduceLE, Int.reduceToNat, ne_eq, Nat.reduceEqDiff, not_false_eq_true]; rfl) rfl ?_
  refine WO.op rfl (by simp only [EV, LK, AR, WR, ne_eq, Nat.reduceEqDiff, not_false_eq_true]; rfl) rfl ?_
  refine WO.op rfl (by simp only [EV, LK, ne_eq, Nat.reduceEqDiff, not_false_eq_true]; rfl) rfl ?_
  refine WO.nil ?_
  exact .ret ⟨.inr rfl, [w64 (mix x)], rfl, rfl, rfl⟩
/-- The n-th of a row of words that begins at a seed. -/
def atRng (s n : BitVec 64) : BitVec 64 := mix (s + n * BitVec.ofInt 64 11400714819323198485)
theorem at_ret (s n : BitVec 64) (σ : AH) : Ret Try.prog sm 23 [w64 s, w64 n] σ fun v σ' => v = w64 (atRng s n) ∧ σ' = σ := by
  refine Ret.enter rfl Try.func23 rfl (of_decide_eq_true rfl) ?_
  show WC _ _ _ _ _ _ _
  repeat with_reducible refine WC.seq ?_
  refine WC.region ?_
  refine WO.op rfl (by simp only [EV, LK, ne_eq, Nat.reduceEqDiff, not_false_eq_true]; rfl) rfl ?_
  refine WO.nil ?_
  show WC _ _ _ _ _ _ _
  repeat with_reducible refine WC.seq ?_
  refine WC.region ?_
  refine WO.op rfl (by simp only [EV, LK, ne_eq, Nat.reduceEqDiff, not_false_eq_true]; rfl) rfl ?_
  refine WO.op rfl (by simp only [EV, LK, ne_eq, Nat.reduceEqDiff, not_false_eq_true]; rfl) rfl ?_
  refine WO.op rfl (by simp only [EV, LK, AR, WR, ne_eq, Nat.reduceEqDiff, not_false_eq_true]; rfl) rfl ?_
  refine WO.op rfl (by simp only [EV, LK, AR, WR, ne_eq, Nat.reduceEqDiff, not_false_eq_true]; rfl) rfl ?_
  refine WO.call rfl rfl (by simp only [LK, ne_eq, Nat.reduceEqDiff, not_false_eq_true, callee, List.map_cons, List.map_nil]; rfl) ((mix_ret _ _).mono fun v σ1 hR => ⟨_, rfl, ?_⟩)
  obtain ⟨rfl, rfl⟩ := hR
  refine WO.op rfl (by simp only [EV, LK, ne_eq, Nat.reduceEqDiff, not_false_eq_true]; rfl) rfl ?_
  refine WO.nil ?_
  exact .ret ⟨.inr rfl, [w64 (atRng s n)], rfl, rfl, rfl⟩
/-- The bits of a word, counted as the program does. -/
def ones1 (x : BitVec 64) : BitVec 64 := ((x >>> 1) &&& BitVec.ofInt 64 6148914691236517205) + (x &&& BitVec.ofInt 64 6148914691236517205)
def ones2 (x : BitVec 64) : BitVec 64 := ((x >>> 2) &&& BitVec.ofInt 64 3689348814741910323) + (x &&& BitVec.ofInt 64 3689348814741910323)
def ones3 (x : BitVec 64) : BitVec 64 := ((x >>> 4) + x) &&& BitVec.ofInt 64 1085102592571150095
def onesUp (k : Nat) (x : BitVec 64) : BitVec 64 := x + (x >>> k)
def onesOf (x : BitVec 64) : Value := .int .i64 (IntKind.i64.wrap ((BitVec.ofInt 64 (onesUp 32 (onesUp 16 (onesUp 8 (ones3 (ones2 (ones1 x)))))).toInt &&& BitVec.ofInt 64 127).toNat : Int))
theorem aBits_i64 (a b : Int) : aBin Try.prog .and 3 (.int .i64 a) (.int .i64 b) = some (.int .i64 (IntKind.i64.wrap ((BitVec.ofInt 64 a &&& BitVec.ofInt 64 b).toNat : Int))) := rfl
theorem ones_ret (x : BitVec 64) (σ : AH) : Ret Try.prog sm 31 [w64 x] σ fun v σ' => v = onesOf x ∧ σ' = σ := by
  refine Ret.enter rfl Try.func31 rfl (of_decide_eq_true rfl) ?_
  show WC _ _ _ _ _ _ _
  repeat with_reducible refine WC.seq ?_
  refine WC.region ?_
  refine WO.op rfl (by simp only [EV, LK, ne_eq, Nat.reduceEqDiff, not_false_eq_true]; rfl) rfl ?_
  refine WO.nil ?_
  show WC _ _ _ _ _ _ _
  repeat with_reducible refine WC.seq ?_
  refine WC.region ?_
  refine WO.op rfl (by simp only [EV, LK, ne_eq, Nat.reduceEqDiff, not_false_eq_true]; rfl) rfl ?_
  refine WO.op rfl (by simp only [EV, LK, AR, WR, Int.reduceLE, Int.reduceToNat, ne_eq, Nat.reduceEqDiff, not_false_eq_true]; rfl) rfl ?_
  refine WO.op rfl (by simp only [EV, LK, AR, WR, ne_eq, Nat.reduceEqDiff, not_false_eq_true]; rfl) rfl ?_
  refine WO.op rfl (by simp only [EV, LK, ne_eq, Nat.reduceEqDiff, not_false_eq_true]; rfl) rfl ?_
  refine WO.op rfl (by simp only [EV, LK, AR, WR, ne_eq, Nat.reduceEqDiff, not_false_eq_true]; rfl) rfl ?_
  refine WO.op rfl (by simp only [EV, LK, AR, WR, ne_eq, Nat.reduceEqDiff, not_false_eq_true]; rfl) rfl ?_
  refine WO.op rfl (by simp only [EV, LK, ne_eq, Nat.reduceEqDiff, not_false_eq_true]; rfl) rfl ?_
  refine WO.nil ?_
  show WC _ _ _ _ _ _ _
  repeat with_reducible refine WC.seq ?_
  refine WC.region ?_
  refine WO.op rfl (by simp only [EV, LK, ne_eq, Nat.reduceEqDiff, not_false_eq_true]; rfl) rfl ?_
  refine WO.op rfl (by simp only [EV, LK, AR, WR, Int.reduceLE, Int.reduceToNat, ne_eq, Nat.reduceEqDiff, not_false_eq_true]; rfl) rfl ?_
  refine WO.op rfl (by simp only [EV, LK, AR, WR, ne_eq, Nat.reduceEqDiff, not_false_eq_true]; rfl) rfl ?_
  refine WO.op rfl (by simp only [EV, LK, ne_eq, Nat.reduceEqDiff, not_false_eq_true]; rfl) rfl ?_
  refine WO.op rfl (by simp only [EV, LK, AR, WR, ne_eq, Nat.reduceEqDiff, not_false_eq_true]; rfl) rfl ?_
  refine WO.op rfl (by simp only [EV, LK, AR, WR, ne_eq, Nat.reduceEqDiff, not_false_eq_true]; rfl) rfl ?_
  refine WO.op rfl (by simp only [EV, LK, ne_eq, Nat.reduceEqDiff, not_false_eq_true]; rfl) rfl ?_
  refine WO.nil ?_
  show WC _ _ _ _ _ _ _
  repeat with_reducible refine WC.seq ?_
  refine WC.region ?_
  refine WO.op rfl (by simp only [EV, LK, ne_eq, Nat.reduceEqDiff, not_false_eq_true]; rfl) rfl ?_
  refine WO.op rfl (by simp only [EV, LK, AR, WR, Int.reduceLE, Int.reduceToNat, ne_eq, Nat.reduceEqDiff, not_false_eq_true]; rfl) rfl ?_
  refine WO.op rfl (by simp only [EV, LK, ne_eq, Nat.reduceEqDiff, not_false_eq_true]; rfl) rfl ?_
  refine WO.op rfl (by simp only [EV, LK, AR, WR, ne_eq, Nat.reduceEqDiff, not_false_eq_true]; rfl) rfl ?_
  refine WO.op rfl (by simp only [EV, LK, AR, WR, ne_eq, Nat.reduceEqDiff, not_false_eq_true]; rfl) rfl ?_
  refine WO.op rfl (by simp only [EV, LK, ne_eq, Nat.reduceEqDiff, not_false_eq_true]; rfl) rfl ?_
  refine WO.nil ?_
  show WC _ _ _ _ _ _ _
  repeat with_reducible refine WC.seq ?_
  refine WC.region ?_
  refine WO.op rfl (by simp only [EV, LK, ne_eq, Nat.reduceEqDiff, not_false_eq_true]; rfl) rfl ?_
  refine WO.op rfl (by simp only [EV, LK, ne_eq, Nat.reduceEqDiff, not_false_eq_true]; rfl) rfl ?_
  refine WO.op rfl (by simp only [EV, LK, AR, WR, Int.reduceLE, Int.reduceToNat, ne_eq, Nat.reduceEqDiff, not_false_eq_true]; rfl) rfl ?_
  refine WO.op rfl (by simp only [EV, LK, AR, WR, ne_eq, Nat.reduceEqDiff, not_false_eq_true]; rfl) rfl ?_
  refine WO.op rfl (by simp only [EV, LK, ne_eq, Nat.reduceEqDiff, not_false_eq_true]; rfl) rfl ?_
  refine WO.nil ?_
  show WC _ _ _ _ _ _ _
  repeat with_reducible refine WC.seq ?_
  refine WC.region ?_
  refine WO.op rfl (by simp only [EV, LK, ne_eq, Nat.reduceEqDiff, not_false_eq_true]; rfl) rfl ?_
  refine WO.op rfl (by simp only [EV, LK, ne_eq, Nat.reduceEqDiff, not_false_eq_true]; rfl) rfl ?_
  refine WO.op rfl (by simp only [EV, LK, AR, WR, Int.reduceLE, Int.reduceToNat, ne_eq, Nat.reduceEqDiff, not_false_eq_true]; rfl) rfl ?_
  refine WO.op rfl (by simp only [EV, LK, AR, WR, ne_eq, Nat.reduceEqDiff, not_false_eq_true]; rfl) rfl ?_
  refine WO.op rfl (by simp only [EV, LK, ne_eq, Nat.reduceEqDiff, not_false_eq_true]; rfl) rfl ?_
  refine WO.nil ?_
  show WC _ _ _ _ _ _ _
  repeat with_reducible refine WC.seq ?_
  refine WC.region ?_
  refine WO.op rfl (by simp only [EV, LK, ne_eq, Nat.reduceEqDiff, not_false_eq_true]; rfl) rfl ?_
  refine WO.op rfl (by simp only [EV, LK, ne_eq, Nat.reduceEqDiff, not_false_eq_true]; rfl) rfl ?_
  refine WO.op rfl (by simp only [EV, LK, AR, WR, Int.reduceLE, Int.reduceToNat, ne_eq, Nat.reduceEqDiff, not_false_eq_true]; rfl) rfl ?_
  refine WO.op rfl (by simp only [EV, LK, AR, WR, ne_eq, Nat.reduceEqDiff, not_false_eq_true]; rfl) rfl ?_
  refine WO.op rfl (by simp only [EV, LK, ne_eq, Nat.reduceEqDiff, not_false_eq_true]; rfl) rfl ?_
  refine WO.nil ?_
  show WC _ _ _ _ _ _ _
  repeat with_reducible refine WC.seq ?_
  refine WC.region ?_
  refine WO.op rfl (by simp only [EV, LK, ne_eq, Nat.reduceEqDiff, not_false_eq_true, conv_back Try.underlying23 Try.underlying3, aBits_i64]; rfl) rfl ?_
  refine WO.op rfl (by simp only [EV, LK, ne_eq, Nat.reduceEqDiff, not_false_eq_true, conv_back Try.underlying23 Try.underlying3, aBits_i64]; rfl) rfl ?_
  refine WO.op rfl (by simp only [EV, LK, AR, WR, ne_eq, Nat.reduceEqDiff, not_false_eq_true, conv_back Try.underlying23 Try.underlying3, aBits_i64]; rfl) rfl ?_
  refine WO.op rfl (by simp only [EV, LK, ne_eq, Nat.reduceEqDiff, not_false_eq_true, conv_back Try.underlying23 Try.underlying3, aBits_i64]; rfl) rfl ?_
  refine WO.nil ?_
  exact .ret ⟨.inr rfl, [onesOf x], rfl, rfl, rfl⟩
theorem or_ret (x y : BitVec 64) (σ : AH) : Ret Try.prog sm 33 [w64 x, w64 y] σ fun v σ' => v = w64 (x ||| y) ∧ σ' = σ := by
  refine Ret.enter rfl Try.func33 rfl (of_decide_eq_true rfl) ?_
  show WC _ _ _ _ _ _ _
  repeat with_reducible refine WC.seq ?_
  refine WC.region ?_
  refine WO.op rfl (by simp only [EV, LK, ne_eq, Nat.reduceEqDiff, not_false_eq_true]; rfl) rfl ?_
  refine WO.nil ?_
  show WC _ _ _ _ _ _ _
  repeat with_reducible refine WC.seq ?_
  refine WC.region ?_
  refine WO.op rfl (by simp only [EV, LK, ne_eq, Nat.reduceEqDiff, not_false_eq_true]; rfl) rfl ?_
  refine WO.op rfl (by simp only [EV, LK, ne_eq, Nat.reduceEqDiff, not_false_eq_true]; rfl) rfl ?_
  refine WO.op rfl (by simp only [EV, LK, AR, WR, ne_eq, Nat.reduceEqDiff, not_false_eq_true]; rfl) rfl ?_
  refine WO.op rfl (by simp only [EV, LK, ne_eq, Nat.reduceEqDiff, not_false_eq_true]; rfl) rfl ?_
  refine WO.nil ?_
  exact .ret ⟨.inr rfl, [w64 (x ||| y)], rfl, rfl, rfl⟩
theorem less_ret (x y : BitVec 64) (σ : AH) : Ret Try.prog sm 34 [w64 x, w64 y] σ fun v σ' => v = w64 (x &&& ~~~y) ∧ σ' = σ := by
  refine Ret.enter rfl Try.func34 rfl (of_decide_eq_true rfl) ?_
  show WC _ _ _ _ _ _ _
  repeat with_reducible refine WC.seq ?_
  refine WC.region ?_
  refine WO.op rfl (by simp only [EV, LK, ne_eq, Nat.reduceEqDiff, not_false_eq_true]; rfl) rfl ?_
  refine WO.nil ?_
  show WC _ _ _ _ _ _ _
  repeat with_reducible refine WC.seq ?_
  refine WC.region ?_
  refine WO.op rfl (by simp only [EV, LK, ne_eq, Nat.reduceEqDiff, not_false_eq_true]; rfl) rfl ?_
  refine WO.op rfl (by simp only [EV, LK, ne_eq, Nat.reduceEqDiff, not_false_eq_true]; rfl) rfl ?_
  refine WO.op rfl (by simp only [EV, LK, AR, WR, ne_eq, Nat.reduceEqDiff, not_false_eq_true]; rfl) rfl ?_
  refine WO.op rfl (by simp only [EV, LK, ne_eq, Nat.reduceEqDiff, not_false_eq_true]; rfl) rfl ?_
  refine WO.nil ?_
  exact .ret ⟨.inr rfl, [w64 (x &&& ~~~y)], rfl, rfl, rfl⟩
/-- A sign. -/
def signOf (s : BitVec 64) (p c : Int) : Int := if min p c < 0 then 0 else IntKind.i64.wrap (((atRng (atRng s (BitVec.ofInt 64 p)) (BitVec.ofInt 64 c) &&& BitVec.ofInt 64 1) <<< 1).toInt - 1)
theorem sign_ret (s : BitVec 64) (p c : Int) (σ : AH) : Ret Try.prog sm 8 [w64 s, .int .i64 p, .int .i64 c] σ fun v σ' => v = .int .i64 (signOf s p c) ∧ σ' = σ := by
  refine Ret.enter rfl Try.func8 rfl (of_decide_eq_true rfl) ?_
  show WC _ _ _ _ _ _ _
  repeat with_reducible refine WC.seq ?_
  refine WC.region ?_
  refine WO.op rfl (by simp only [EV, LK, ne_eq, Nat.reduceEqDiff, not_false_eq_true]; rfl) rfl ?_
  refine WO.nil ?_
  show WC _ _ _ _ _ _ _
  repeat with_reducible refine WC.seq ?_
  refine WC.region ?_
  refine WO.op rfl (by simp only [EV, LK, ne_eq, Nat.reduceEqDiff, not_false_eq_true]; rfl) rfl ?_
  refine WO.op rfl (by simp only [EV, LK, ne_eq, Nat.reduceEqDiff, not_false_eq_true]; rfl) rfl ?_
  refine WO.op rfl (by simp only [EV, LK, AR, WR, ne_eq, Nat.reduceEqDiff, not_false_eq_true]; rfl) rfl ?_
  refine WO.op rfl (by simp only [EV, LK, AR, WR, ne_eq, Nat.reduceEqDiff, not_false_eq_true]; rfl) rfl ?_
  refine WO.nil ?_
  by_cases h : min p c < 0
  · show WC _ _ _ _ _ _ _
    repeat with_reducible refine WC.seq ?_
    refine WC.condT (by simp only [LK, ne_eq, Nat.reduceEqDiff, not_false_eq_true, h, decide_true, decide_false, decide_not, Bool.not_true, Bool.not_false]) ?_
    show WC _ _ _ _ _ _ _
    repeat with_reducible refine WC.seq ?_
    refine WC.region ?_
    refine WO.op rfl (by simp only [EV, LK, ne_eq, Nat.reduceEqDiff, not_false_eq_true]; rfl) rfl ?_
    refine WO.nil ?_
    refine .ret ⟨.inr rfl, [.int .i64 0], rfl, ?_, rfl⟩
    rw [signOf, if_pos h]; rfl
  · show WC _ _ _ _ _ _ _
    repeat with_reducible refine WC.seq ?_
    refine WC.condF (by simp only [LK, ne_eq, Nat.reduceEqDiff, not_false_eq_true, h, decide_true, decide_false, decide_not, Bool.not_true, Bool.not_false]) ?_
    refine WC.skip ?_
    show WC _ _ _ _ _ _ _
    repeat with_reducible refine WC.seq ?_
    refine WC.region ?_
    refine WO.op rfl (by simp only [EV, LK, ne_eq, Nat.reduceEqDiff, not_false_eq_true, conv_word Try.underlying3 Try.underlying23]; rfl) rfl ?_
    refine WO.op rfl (by simp only [EV, LK, ne_eq, Nat.reduceEqDiff, not_false_eq_true, conv_word Try.underlying3 Try.underlying23]; rfl) rfl ?_
    refine WO.op rfl (by simp only [EV, LK, ne_eq, Nat.reduceEqDiff, not_false_eq_true, conv_word Try.underlying3 Try.underlying23]; rfl) rfl ?_
    refine WO.call rfl rfl (by simp only [LK, ne_eq, Nat.reduceEqDiff, not_false_eq_true, callee, List.map_cons, List.map_nil]; rfl) ((at_ret _ _ _).mono fun v σ1 hR => ⟨_, rfl, ?_⟩)
    obtain ⟨rfl, rfl⟩ := hR
    refine WO.op rfl (by simp only [EV, LK, ne_eq, Nat.reduceEqDiff, not_false_eq_true, conv_word Try.underlying3 Try.underlying23]; rfl) rfl ?_
    refine WO.op rfl (by simp only [EV, LK, ne_eq, Nat.reduceEqDiff, not_false_eq_true, conv_word Try.underlying3 Try.underlying23]; rfl) rfl ?_
    refine WO.call rfl rfl (by simp only [LK, ne_eq, Nat.reduceEqDiff, not_false_eq_true, callee, List.map_cons, List.map_nil]; rfl) ((at_ret _ _ _).mono fun v σ1 hR => ⟨_, rfl, ?_⟩)
    obtain ⟨rfl, rfl⟩ := hR
    refine WO.op rfl (by simp only [EV, LK, AR, WR, ne_eq, Nat.reduceEqDiff, not_false_eq_true]; rfl) rfl ?_
    refine WO.op rfl (by simp only [EV, LK, ne_eq, Nat.reduceEqDiff, not_false_eq_true]; rfl) rfl ?_
    refine WO.nil ?_
    show WC _ _ _ _ _ _ _
    repeat with_reducible refine WC.seq ?_
    refine WC.region ?_
    refine WO.op rfl (by simp only [EV, LK, ne_eq, Nat.reduceEqDiff, not_false_eq_true, conv_back Try.underlying23 Try.underlying3]; rfl) rfl ?_
    refine WO.op rfl (by simp only [EV, LK, AR, WR, Int.reduceLE, Int.reduceToNat, ne_eq, Nat.reduceEqDiff, not_false_eq_true, conv_back Try.underlying23 Try.underlying3]; rfl) rfl ?_
    refine WO.op rfl (by simp only [EV, LK, ne_eq, Nat.reduceEqDiff, not_false_eq_true, conv_back Try.underlying23 Try.underlying3]; rfl) rfl ?_
    refine WO.op rfl (by simp only [EV, LK, AR, WR, ne_eq, Nat.reduceEqDiff, not_false_eq_true, conv_back Try.underlying23 Try.underlying3]; rfl) rfl ?_
    refine WO.op rfl (by simp only [EV, LK, ne_eq, Nat.reduceEqDiff, not_false_eq_true, conv_back Try.underlying23 Try.underlying3]; rfl) rfl ?_
    refine WO.nil ?_
    refine .ret ⟨.inr rfl, [.int .i64 _], rfl, ?_, rfl⟩
    rw [signOf, if_neg h]; rfl
