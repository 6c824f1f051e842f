/- The law's own walk: how far sketches are apart. -/
import Derived.Test.YtaclhflmgafobaaS7
namespace Go.Proofs.Ytaclhflmgafobaa
open Go Go.Ab Go.Proofs
set_option linter.unusedSimpArgs false
set_option linter.unusedVariables false
set_option maxRecDepth 20000
set_option maxHeartbeats 1000000
theorem ze21 : zeroOf Try.prog 21 = some (.int .i32 0) := by kernel_rfl
theorem et21 : ElemT Try.prog 21 1 4 := ⟨by kernel_rfl, by decide, by decide⟩
theorem bool_neq (p q : Bool) : aBin Try.prog .neq 4 (.bool p) (.bool q) = some (.bool (!(p == q))) := by
  simp only [aBin, aEq, Try.underlying4, Option.map_some]
theorem cnt_le (xs : W) : cnt xs ≤ 4096 := by have := cntN_le xs 64; rw [cnt_all]; omega
theorem lives_ret (σ : AH) : Ret Try.prog sm 5 [] σ fun v σ' => v = .bool true ∧ σ' = σ := Ret.sum rfl ⟨rfl, rfl⟩
def fits (l : List Int) : Prop := ∀ x ∈ l, -16777216 ≤ x ∧ x ≤ 16777216
theorem small_twice {l : List Int} (h : fits l) (hl : l.length ≤ 1000) : Small (twice l) := ⟨by simpa [twice] using hl, fun x hx => by
  obtain ⟨y, hy, rfl⟩ := List.mem_map.1 hx
  have := h y hy
  omega⟩
theorem small_back {l : List Int} (h : fits l) (hl : l.length ≤ 1000) : Small (back l) := ⟨by simpa [back] using hl, fun x hx => by
  obtain ⟨y, hy, rfl⟩ := List.mem_map.1 hx
  have := h y hy
  omega⟩
theorem take_next {l : List Int} {i : Nat} (h : i < l.length) : l.take (i + 1) = l.take i ++ [l.getD i 0] := by
  rw [List.take_add_one, getD_some h 0]; rfl
theorem _root_.Go.Ab.Since.then' {B : Nat} {a b c : AH} (h : Since B a b) (k : Since b.size b c) (hB : B ≤ b.size := by omega) : Since B a c := h.trans (k.mono hB)
def sumS (s : BitVec 64) (p : Int) (l : List Int) : Nat → Int
  | 0 => 0
  | i + 1 => sumS s p l i + signOf s p (i : Int) * l.getD i 0
theorem sumS_eq (s : BitVec 64) (p : Int) (hp : 0 ≤ p) (l : List Int) (i : Nat) : sumS s p l i = sumN s p l i := by
  induction i with
  | zero => rfl
  | succ i ih =>
    rw [sumS, sumN, ih, signOf_eq s p i hp (by omega)]
    split <;> omega
theorem far_ret {σ : AH} {a b c v : Value} {xs ys zs : W} {l : List Int} (ha : Vec w64 σ a xs) (hb : Vec w64 σ b ys) (hc : Vec w64 σ c zs) (hv : I32s σ v l) (hr : ∀ x ∈ l, -2147483648 ≤ x ∧ x ≤ 2147483647) (s : BitVec 64) (n : Int) (hn : -9223372036854775808 ≤ n) (hba : σ.base ≤ σ.size) :
    Ret Try.prog sm 4 [a, b, c, v, w64 s, .int .i64 n] σ fun r σ' => r = .bool true ∧ Since σ.size σ σ' := by
  have hla := ha.len Try.underlying25
  have hlb := hb.len Try.underlying25
  have hlc := hc.len Try.underlying25
  have hlv := hv.len Try.underlying22
  refine Ret.enter rfl Try.func4 rfl (of_decide_eq_true rfl) ?_
  show WC _ _ _ _ _ _ _
  repeat with_reducible refine WC.seq ?_
  refine WC.region ?_
  refine WO.op rfl (by simp only [EV, LK, ne_eq, Nat.reduceEqDiff, not_false_eq_true]; rfl) rfl ?_
  refine WO.nil ?_
  show WC _ _ _ _ _ _ _
  repeat with_reducible refine WC.seq ?_
  refine WC.region ?_
  refine WO.call rfl rfl (by simp only [LK, ne_eq, Nat.reduceEqDiff, not_false_eq_true, callee, List.map_cons, List.map_nil]; rfl) ((lives_ret _).mono fun v0 σ hR => ⟨_, rfl, ?_⟩)
  obtain ⟨rfl, rfl⟩ := hR
  refine WO.op rfl (by simp only [EV, LK, AR, WR, ne_eq, Nat.reduceEqDiff, not_false_eq_true]; rfl) rfl ?_
  refine WO.nil ?_
  show WC _ _ _ _ _ _ _
  repeat with_reducible refine WC.seq ?_
  refine WC.condF (by simp only [LK, ne_eq, Nat.reduceEqDiff, not_false_eq_true, decide_true, decide_false, decide_not, Bool.not_true, Bool.not_false]) ?_
  refine WC.skip ?_
  by_cases g1 : (80 : Int) < (xs.length : Int)
  · have q1 : decide ((80 : Int) < (xs.length : Int)) = true := decide_eq_true g1
    show WC _ _ _ _ _ _ _
    repeat with_reducible refine WC.seq ?_
    refine WC.region ?_
    refine WO.op rfl (by simp only [EV, LK, ne_eq, Nat.reduceEqDiff, not_false_eq_true, hla, hlb, hlc, hlv, q1]; rfl) rfl ?_
    refine WO.op rfl (by simp only [EV, LK, ne_eq, Nat.reduceEqDiff, not_false_eq_true, hla, hlb, hlc, hlv, q1]; rfl) rfl ?_
    refine WO.op rfl (by simp only [EV, LK, AR, WR, ne_eq, Nat.reduceEqDiff, not_false_eq_true, hla, hlb, hlc, hlv, q1]; rfl) rfl ?_
    refine WO.op rfl (by simp only [EV, LK, ne_eq, Nat.reduceEqDiff, not_false_eq_true, hla, hlb, hlc, hlv, q1]; rfl) rfl ?_
    first | (refine WO.skip (out_f rfl rfl ?_) rfl ?_; focus (simp only [LK, ne_eq, Nat.reduceEqDiff, not_false_eq_true, hla, hlb, hlc, hlv, q1]; done)) | refine WO.op (want_in rfl rfl (by simp only [LK, ne_eq, Nat.reduceEqDiff, not_false_eq_true, hla, hlb, hlc, hlv, q1])) (by simp only [EV, LK, ne_eq, Nat.reduceEqDiff, not_false_eq_true, hla, hlb, hlc, hlv, q1]; rfl) rfl ?_
    first | (refine WO.skip (out_f rfl rfl ?_) rfl ?_; focus (simp only [LK, ne_eq, Nat.reduceEqDiff, not_false_eq_true, hla, hlb, hlc, hlv, q1]; done)) | refine WO.op (want_in rfl rfl (by simp only [LK, ne_eq, Nat.reduceEqDiff, not_false_eq_true, hla, hlb, hlc, hlv, q1])) (by simp only [EV, LK, ne_eq, Nat.reduceEqDiff, not_false_eq_true, hla, hlb, hlc, hlv, q1]; rfl) rfl ?_
    first | (refine WO.skip (out_f rfl rfl ?_) rfl ?_; focus (simp only [LK, ne_eq, Nat.reduceEqDiff, not_false_eq_true, hla, hlb, hlc, hlv, q1]; done)) | refine WO.op (want_in rfl rfl (by simp only [LK, ne_eq, Nat.reduceEqDiff, not_false_eq_true, hla, hlb, hlc, hlv, q1])) (by simp only [EV, LK, AR, WR, ne_eq, Nat.reduceEqDiff, not_false_eq_true, hla, hlb, hlc, hlv, q1]; rfl) rfl ?_
    refine WO.op rfl (by simp only [EV, LK, ne_eq, Nat.reduceEqDiff, not_false_eq_true, hla, hlb, hlc, hlv, q1]; rfl) rfl ?_
    refine WO.op rfl (by simp only [EV, LK, ne_eq, Nat.reduceEqDiff, not_false_eq_true, hla, hlb, hlc, hlv, q1]; rfl) rfl ?_
    first | (refine WO.skip (out_f rfl rfl ?_) rfl ?_; focus (simp only [LK, ne_eq, Nat.reduceEqDiff, not_false_eq_true, hla, hlb, hlc, hlv, q1]; done)) | refine WO.op (want_in rfl rfl (by simp only [LK, ne_eq, Nat.reduceEqDiff, not_false_eq_true, hla, hlb, hlc, hlv, q1])) (by simp only [EV, LK, ne_eq, Nat.reduceEqDiff, not_false_eq_true, hla, hlb, hlc, hlv, q1]; rfl) rfl ?_
    first | (refine WO.skip (out_f rfl rfl ?_) rfl ?_; focus (simp only [LK, ne_eq, Nat.reduceEqDiff, not_false_eq_true, hla, hlb, hlc, hlv, q1]; done)) | refine WO.op (want_in rfl rfl (by simp only [LK, ne_eq, Nat.reduceEqDiff, not_false_eq_true, hla, hlb, hlc, hlv, q1])) (by simp only [EV, LK, ne_eq, Nat.reduceEqDiff, not_false_eq_true, hla, hlb, hlc, hlv, q1]; rfl) rfl ?_
    first | (refine WO.skip (out_f rfl rfl ?_) rfl ?_; focus (simp only [LK, ne_eq, Nat.reduceEqDiff, not_false_eq_true, hla, hlb, hlc, hlv, q1]; done)) | refine WO.op (want_in rfl rfl (by simp only [LK, ne_eq, Nat.reduceEqDiff, not_false_eq_true, hla, hlb, hlc, hlv, q1])) (by simp only [EV, LK, AR, WR, ne_eq, Nat.reduceEqDiff, not_false_eq_true, hla, hlb, hlc, hlv, q1]; rfl) rfl ?_
    refine WO.op rfl (by simp only [EV, LK, ne_eq, Nat.reduceEqDiff, not_false_eq_true, hla, hlb, hlc, hlv, q1]; rfl) rfl ?_
    refine WO.op rfl (by simp only [EV, LK, ne_eq, Nat.reduceEqDiff, not_false_eq_true, hla, hlb, hlc, hlv, q1]; rfl) rfl ?_
    first | (refine WO.skip (out_f rfl rfl ?_) rfl ?_; focus (simp only [LK, ne_eq, Nat.reduceEqDiff, not_false_eq_true, hla, hlb, hlc, hlv, q1]; done)) | refine WO.op (want_in rfl rfl (by simp only [LK, ne_eq, Nat.reduceEqDiff, not_false_eq_true, hla, hlb, hlc, hlv, q1])) (by simp only [EV, LK, ne_eq, Nat.reduceEqDiff, not_false_eq_true, hla, hlb, hlc, hlv, q1]; rfl) rfl ?_
    first | (refine WO.skip (out_f rfl rfl ?_) rfl ?_; focus (simp only [LK, ne_eq, Nat.reduceEqDiff, not_false_eq_true, hla, hlb, hlc, hlv, q1]; done)) | refine WO.op (want_in rfl rfl (by simp only [LK, ne_eq, Nat.reduceEqDiff, not_false_eq_true, hla, hlb, hlc, hlv, q1])) (by simp only [EV, LK, ne_eq, Nat.reduceEqDiff, not_false_eq_true, hla, hlb, hlc, hlv, q1]; rfl) rfl ?_
    first | (refine WO.skip (out_f rfl rfl ?_) rfl ?_; focus (simp only [LK, ne_eq, Nat.reduceEqDiff, not_false_eq_true, hla, hlb, hlc, hlv, q1]; done)) | refine WO.op (want_in rfl rfl (by simp only [LK, ne_eq, Nat.reduceEqDiff, not_false_eq_true, hla, hlb, hlc, hlv, q1])) (by simp only [EV, LK, AR, WR, ne_eq, Nat.reduceEqDiff, not_false_eq_true, hla, hlb, hlc, hlv, q1]; rfl) rfl ?_
    refine WO.op rfl (by simp only [EV, LK, ne_eq, Nat.reduceEqDiff, not_false_eq_true, hla, hlb, hlc, hlv, q1]; rfl) rfl ?_
    refine WO.op rfl (by simp only [EV, LK, ne_eq, Nat.reduceEqDiff, not_false_eq_true, hla, hlb, hlc, hlv, q1]; rfl) rfl ?_
    first | (refine WO.skip (out_f rfl rfl ?_) rfl ?_; focus (simp only [LK, ne_eq, Nat.reduceEqDiff, not_false_eq_true, hla, hlb, hlc, hlv, q1]; done)) | refine WO.op (want_in rfl rfl (by simp only [LK, ne_eq, Nat.reduceEqDiff, not_false_eq_true, hla, hlb, hlc, hlv, q1])) (by simp only [EV, LK, ne_eq, Nat.reduceEqDiff, not_false_eq_true, hla, hlb, hlc, hlv, q1]; rfl) rfl ?_
    first | (refine WO.skip (out_f rfl rfl ?_) rfl ?_; focus (simp only [LK, ne_eq, Nat.reduceEqDiff, not_false_eq_true, hla, hlb, hlc, hlv, q1]; done)) | refine WO.op (want_in rfl rfl (by simp only [LK, ne_eq, Nat.reduceEqDiff, not_false_eq_true, hla, hlb, hlc, hlv, q1])) (by simp only [EV, LK, AR, WR, ne_eq, Nat.reduceEqDiff, not_false_eq_true, hla, hlb, hlc, hlv, q1]; rfl) rfl ?_
    refine WO.op rfl (by simp only [EV, LK, ne_eq, Nat.reduceEqDiff, not_false_eq_true, hla, hlb, hlc, hlv, q1]; rfl) rfl ?_
    refine WO.nil ?_
    show WC _ _ _ _ _ _ _
    repeat with_reducible refine WC.seq ?_
    refine WC.condT (by simp only [LK, ne_eq, Nat.reduceEqDiff, not_false_eq_true, decide_true, decide_false, decide_not, Bool.not_true, Bool.not_false]) ?_
    show WC _ _ _ _ _ _ _
    repeat with_reducible refine WC.seq ?_
    refine WC.region ?_
    refine WO.op rfl (by simp only [EV, LK, ne_eq, Nat.reduceEqDiff, not_false_eq_true]; rfl) rfl ?_
    refine WO.nil ?_
    exact .ret ⟨.inr rfl, [.bool true], rfl, rfl, .refl _ _⟩
  have q1 : decide ((80 : Int) < (xs.length : Int)) = false := decide_eq_false g1
  by_cases g2 : (80 : Int) < (ys.length : Int)
  · have q2 : decide ((80 : Int) < (ys.length : Int)) = true := decide_eq_true g2
    show WC _ _ _ _ _ _ _
    repeat with_reducible refine WC.seq ?_
    refine WC.region ?_
    refine WO.op rfl (by simp only [EV, LK, ne_eq, Nat.reduceEqDiff, not_false_eq_true, hla, hlb, hlc, hlv, q1, q2]; rfl) rfl ?_
    refine WO.op rfl (by simp only [EV, LK, ne_eq, Nat.reduceEqDiff, not_false_eq_true, hla, hlb, hlc, hlv, q1, q2]; rfl) rfl ?_
    refine WO.op rfl (by simp only [EV, LK, AR, WR, ne_eq, Nat.reduceEqDiff, not_false_eq_true, hla, hlb, hlc, hlv, q1, q2]; rfl) rfl ?_
    refine WO.op rfl (by simp only [EV, LK, ne_eq, Nat.reduceEqDiff, not_false_eq_true, hla, hlb, hlc, hlv, q1, q2]; rfl) rfl ?_
    first | (refine WO.skip (out_f rfl rfl ?_) rfl ?_; focus (simp only [LK, ne_eq, Nat.reduceEqDiff, not_false_eq_true, hla, hlb, hlc, hlv, q1, q2]; done)) | refine WO.op (want_in rfl rfl (by simp only [LK, ne_eq, Nat.reduceEqDiff, not_false_eq_true, hla, hlb, hlc, hlv, q1, q2])) (by simp only [EV, LK, ne_eq, Nat.reduceEqDiff, not_false_eq_true, hla, hlb, hlc, hlv, q1, q2]; rfl) rfl ?_
    first | (refine WO.skip (out_f rfl rfl ?_) rfl ?_; focus (simp only [LK, ne_eq, Nat.reduceEqDiff, not_false_eq_true, hla, hlb, hlc, hlv, q1, q2]; done)) | refine WO.op (want_in rfl rfl (by simp only [LK, ne_eq, Nat.reduceEqDiff, not_false_eq_true, hla, hlb, hlc, hlv, q1, q2])) (by simp only [EV, LK, ne_eq, Nat.reduceEqDiff, not_false_eq_true, hla, hlb, hlc, hlv, q1, q2]; rfl) rfl ?_
    first | (refine WO.skip (out_f rfl rfl ?_) rfl ?_; focus (simp only [LK, ne_eq, Nat.reduceEqDiff, not_false_eq_true, hla, hlb, hlc, hlv, q1, q2]; done)) | refine WO.op (want_in rfl rfl (by simp only [LK, ne_eq, Nat.reduceEqDiff, not_false_eq_true, hla, hlb, hlc, hlv, q1, q2])) (by simp only [EV, LK, AR, WR, ne_eq, Nat.reduceEqDiff, not_false_eq_true, hla, hlb, hlc, hlv, q1, q2]; rfl) rfl ?_
    refine WO.op rfl (by simp only [EV, LK, ne_eq, Nat.reduceEqDiff, not_false_eq_true, hla, hlb, hlc, hlv, q1, q2]; rfl) rfl ?_
    refine WO.op rfl (by simp only [EV, LK, ne_eq, Nat.reduceEqDiff, not_false_eq_true, hla, hlb, hlc, hlv, q1, q2]; rfl) rfl ?_
    first | (refine WO.skip (out_f rfl rfl ?_) rfl ?_; focus (simp only [LK, ne_eq, Nat.reduceEqDiff, not_false_eq_true, hla, hlb, hlc, hlv, q1, q2]; done)) | refine WO.op (want_in rfl rfl (by simp only [LK, ne_eq, Nat.reduceEqDiff, not_false_eq_true, hla, hlb, hlc, hlv, q1, q2])) (by simp only [EV, LK, ne_eq, Nat.reduceEqDiff, not_false_eq_true, hla, hlb, hlc, hlv, q1, q2]; rfl) rfl ?_
    first | (refine WO.skip (out_f rfl rfl ?_) rfl ?_; focus (simp only [LK, ne_eq, Nat.reduceEqDiff, not_false_eq_true, hla, hlb, hlc, hlv, q1, q2]; done)) | refine WO.op (want_in rfl rfl (by simp only [LK, ne_eq, Nat.reduceEqDiff, not_false_eq_true, hla, hlb, hlc, hlv, q1, q2])) (by simp only [EV, LK, ne_eq, Nat.reduceEqDiff, not_false_eq_true, hla, hlb, hlc, hlv, q1, q2]; rfl) rfl ?_
    first | (refine WO.skip (out_f rfl rfl ?_) rfl ?_; focus (simp only [LK, ne_eq, Nat.reduceEqDiff, not_false_eq_true, hla, hlb, hlc, hlv, q1, q2]; done)) | refine WO.op (want_in rfl rfl (by simp only [LK, ne_eq, Nat.reduceEqDiff, not_false_eq_true, hla, hlb, hlc, hlv, q1, q2])) (by simp only [EV, LK, AR, WR, ne_eq, Nat.reduceEqDiff, not_false_eq_true, hla, hlb, hlc, hlv, q1, q2]; rfl) rfl ?_
    refine WO.op rfl (by simp only [EV, LK, ne_eq, Nat.reduceEqDiff, not_false_eq_true, hla, hlb, hlc, hlv, q1, q2]; rfl) rfl ?_
    refine WO.op rfl (by simp only [EV, LK, ne_eq, Nat.reduceEqDiff, not_false_eq_true, hla, hlb, hlc, hlv, q1, q2]; rfl) rfl ?_
    first | (refine WO.skip (out_f rfl rfl ?_) rfl ?_; focus (simp only [LK, ne_eq, Nat.reduceEqDiff, not_false_eq_true, hla, hlb, hlc, hlv, q1, q2]; done)) | refine WO.op (want_in rfl rfl (by simp only [LK, ne_eq, Nat.reduceEqDiff, not_false_eq_true, hla, hlb, hlc, hlv, q1, q2])) (by simp only [EV, LK, ne_eq, Nat.reduceEqDiff, not_false_eq_true, hla, hlb, hlc, hlv, q1, q2]; rfl) rfl ?_
    first | (refine WO.skip (out_f rfl rfl ?_) rfl ?_; focus (simp only [LK, ne_eq, Nat.reduceEqDiff, not_false_eq_true, hla, hlb, hlc, hlv, q1, q2]; done)) | refine WO.op (want_in rfl rfl (by simp only [LK, ne_eq, Nat.reduceEqDiff, not_false_eq_true, hla, hlb, hlc, hlv, q1, q2])) (by simp only [EV, LK, ne_eq, Nat.reduceEqDiff, not_false_eq_true, hla, hlb, hlc, hlv, q1, q2]; rfl) rfl ?_
    first | (refine WO.skip (out_f rfl rfl ?_) rfl ?_; focus (simp only [LK, ne_eq, Nat.reduceEqDiff, not_false_eq_true, hla, hlb, hlc, hlv, q1, q2]; done)) | refine WO.op (want_in rfl rfl (by simp only [LK, ne_eq, Nat.reduceEqDiff, not_false_eq_true, hla, hlb, hlc, hlv, q1, q2])) (by simp only [EV, LK, AR, WR, ne_eq, Nat.reduceEqDiff, not_false_eq_true, hla, hlb, hlc, hlv, q1, q2]; rfl) rfl ?_
    refine WO.op rfl (by simp only [EV, LK, ne_eq, Nat.reduceEqDiff, not_false_eq_true, hla, hlb, hlc, hlv, q1, q2]; rfl) rfl ?_
    refine WO.op rfl (by simp only [EV, LK, ne_eq, Nat.reduceEqDiff, not_false_eq_true, hla, hlb, hlc, hlv, q1, q2]; rfl) rfl ?_
    first | (refine WO.skip (out_f rfl rfl ?_) rfl ?_; focus (simp only [LK, ne_eq, Nat.reduceEqDiff, not_false_eq_true, hla, hlb, hlc, hlv, q1, q2]; done)) | refine WO.op (want_in rfl rfl (by simp only [LK, ne_eq, Nat.reduceEqDiff, not_false_eq_true, hla, hlb, hlc, hlv, q1, q2])) (by simp only [EV, LK, ne_eq, Nat.reduceEqDiff, not_false_eq_true, hla, hlb, hlc, hlv, q1, q2]; rfl) rfl ?_
    first | (refine WO.skip (out_f rfl rfl ?_) rfl ?_; focus (simp only [LK, ne_eq, Nat.reduceEqDiff, not_false_eq_true, hla, hlb, hlc, hlv, q1, q2]; done)) | refine WO.op (want_in rfl rfl (by simp only [LK, ne_eq, Nat.reduceEqDiff, not_false_eq_true, hla, hlb, hlc, hlv, q1, q2])) (by simp only [EV, LK, AR, WR, ne_eq, Nat.reduceEqDiff, not_false_eq_true, hla, hlb, hlc, hlv, q1, q2]; rfl) rfl ?_
    refine WO.op rfl (by simp only [EV, LK, ne_eq, Nat.reduceEqDiff, not_false_eq_true, hla, hlb, hlc, hlv, q1, q2]; rfl) rfl ?_
    refine WO.nil ?_
    show WC _ _ _ _ _ _ _
    repeat with_reducible refine WC.seq ?_
    refine WC.condT (by simp only [LK, ne_eq, Nat.reduceEqDiff, not_false_eq_true, decide_true, decide_false, decide_not, Bool.not_true, Bool.not_false]) ?_
    show WC _ _ _ _ _ _ _
    repeat with_reducible refine WC.seq ?_
    refine WC.region ?_
    refine WO.op rfl (by simp only [EV, LK, ne_eq, Nat.reduceEqDiff, not_false_eq_true]; rfl) rfl ?_
    refine WO.nil ?_
    exact .ret ⟨.inr rfl, [.bool true], rfl, rfl, .refl _ _⟩
  have q2 : decide ((80 : Int) < (ys.length : Int)) = false := decide_eq_false g2
  by_cases g3 : (80 : Int) < (zs.length : Int)
  · have q3 : decide ((80 : Int) < (zs.length : Int)) = true := decide_eq_true g3
    show WC _ _ _ _ _ _ _
    repeat with_reducible refine WC.seq ?_
    refine WC.region ?_
    refine WO.op rfl (by simp only [EV, LK, ne_eq, Nat.reduceEqDiff, not_false_eq_true, hla, hlb, hlc, hlv, q1, q2, q3]; rfl) rfl ?_
    refine WO.op rfl (by simp only [EV, LK, ne_eq, Nat.reduceEqDiff, not_false_eq_true, hla, hlb, hlc, hlv, q1, q2, q3]; rfl) rfl ?_
    refine WO.op rfl (by simp only [EV, LK, AR, WR, ne_eq, Nat.reduceEqDiff, not_false_eq_true, hla, hlb, hlc, hlv, q1, q2, q3]; rfl) rfl ?_
    refine WO.op rfl (by simp only [EV, LK, ne_eq, Nat.reduceEqDiff, not_false_eq_true, hla, hlb, hlc, hlv, q1, q2, q3]; rfl) rfl ?_
    first | (refine WO.skip (out_f rfl rfl ?_) rfl ?_; focus (simp only [LK, ne_eq, Nat.reduceEqDiff, not_false_eq_true, hla, hlb, hlc, hlv, q1, q2, q3]; done)) | refine WO.op (want_in rfl rfl (by simp only [LK, ne_eq, Nat.reduceEqDiff, not_false_eq_true, hla, hlb, hlc, hlv, q1, q2, q3])) (by simp only [EV, LK, ne_eq, Nat.reduceEqDiff, not_false_eq_true, hla, hlb, hlc, hlv, q1, q2, q3]; rfl) rfl ?_
    first | (refine WO.skip (out_f rfl rfl ?_) rfl ?_; focus (simp only [LK, ne_eq, Nat.reduceEqDiff, not_false_eq_true, hla, hlb, hlc, hlv, q1, q2, q3]; done)) | refine WO.op (want_in rfl rfl (by simp only [LK, ne_eq, Nat.reduceEqDiff, not_false_eq_true, hla, hlb, hlc, hlv, q1, q2, q3])) (by simp only [EV, LK, ne_eq, Nat.reduceEqDiff, not_false_eq_true, hla, hlb, hlc, hlv, q1, q2, q3]; rfl) rfl ?_
    first | (refine WO.skip (out_f rfl rfl ?_) rfl ?_; focus (simp only [LK, ne_eq, Nat.reduceEqDiff, not_false_eq_true, hla, hlb, hlc, hlv, q1, q2, q3]; done)) | refine WO.op (want_in rfl rfl (by simp only [LK, ne_eq, Nat.reduceEqDiff, not_false_eq_true, hla, hlb, hlc, hlv, q1, q2, q3])) (by simp only [EV, LK, AR, WR, ne_eq, Nat.reduceEqDiff, not_false_eq_true, hla, hlb, hlc, hlv, q1, q2, q3]; rfl) rfl ?_
    refine WO.op rfl (by simp only [EV, LK, ne_eq, Nat.reduceEqDiff, not_false_eq_true, hla, hlb, hlc, hlv, q1, q2, q3]; rfl) rfl ?_
    refine WO.op rfl (by simp only [EV, LK, ne_eq, Nat.reduceEqDiff, not_false_eq_true, hla, hlb, hlc, hlv, q1, q2, q3]; rfl) rfl ?_
    first | (refine WO.skip (out_f rfl rfl ?_) rfl ?_; focus (simp only [LK, ne_eq, Nat.reduceEqDiff, not_false_eq_true, hla, hlb, hlc, hlv, q1, q2, q3]; done)) | refine WO.op (want_in rfl rfl (by simp only [LK, ne_eq, Nat.reduceEqDiff, not_false_eq_true, hla, hlb, hlc, hlv, q1, q2, q3])) (by simp only [EV, LK, ne_eq, Nat.reduceEqDiff, not_false_eq_true, hla, hlb, hlc, hlv, q1, q2, q3]; rfl) rfl ?_
    first | (refine WO.skip (out_f rfl rfl ?_) rfl ?_; focus (simp only [LK, ne_eq, Nat.reduceEqDiff, not_false_eq_true, hla, hlb, hlc, hlv, q1, q2, q3]; done)) | refine WO.op (want_in rfl rfl (by simp only [LK, ne_eq, Nat.reduceEqDiff, not_false_eq_true, hla, hlb, hlc, hlv, q1, q2, q3])) (by simp only [EV, LK, ne_eq, Nat.reduceEqDiff, not_false_eq_true, hla, hlb, hlc, hlv, q1, q2, q3]; rfl) rfl ?_
    first | (refine WO.skip (out_f rfl rfl ?_) rfl ?_; focus (simp only [LK, ne_eq, Nat.reduceEqDiff, not_false_eq_true, hla, hlb, hlc, hlv, q1, q2, q3]; done)) | refine WO.op (want_in rfl rfl (by simp only [LK, ne_eq, Nat.reduceEqDiff, not_false_eq_true, hla, hlb, hlc, hlv, q1, q2, q3])) (by simp only [EV, LK, AR, WR, ne_eq, Nat.reduceEqDiff, not_false_eq_true, hla, hlb, hlc, hlv, q1, q2, q3]; rfl) rfl ?_
    refine WO.op rfl (by simp only [EV, LK, ne_eq, Nat.reduceEqDiff, not_false_eq_true, hla, hlb, hlc, hlv, q1, q2, q3]; rfl) rfl ?_
    refine WO.op rfl (by simp only [EV, LK, ne_eq, Nat.reduceEqDiff, not_false_eq_true, hla, hlb, hlc, hlv, q1, q2, q3]; rfl) rfl ?_
    first | (refine WO.skip (out_f rfl rfl ?_) rfl ?_; focus (simp only [LK, ne_eq, Nat.reduceEqDiff, not_false_eq_true, hla, hlb, hlc, hlv, q1, q2, q3]; done)) | refine WO.op (want_in rfl rfl (by simp only [LK, ne_eq, Nat.reduceEqDiff, not_false_eq_true, hla, hlb, hlc, hlv, q1, q2, q3])) (by simp only [EV, LK, ne_eq, Nat.reduceEqDiff, not_false_eq_true, hla, hlb, hlc, hlv, q1, q2, q3]; rfl) rfl ?_
    first | (refine WO.skip (out_f rfl rfl ?_) rfl ?_; focus (simp only [LK, ne_eq, Nat.reduceEqDiff, not_false_eq_true, hla, hlb, hlc, hlv, q1, q2, q3]; done)) | refine WO.op (want_in rfl rfl (by simp only [LK, ne_eq, Nat.reduceEqDiff, not_false_eq_true, hla, hlb, hlc, hlv, q1, q2, q3])) (by simp only [EV, LK, ne_eq, Nat.reduceEqDiff, not_false_eq_true, hla, hlb, hlc, hlv, q1, q2, q3]; rfl) rfl ?_
    first | (refine WO.skip (out_f rfl rfl ?_) rfl ?_; focus (simp only [LK, ne_eq, Nat.reduceEqDiff, not_false_eq_true, hla, hlb, hlc, hlv, q1, q2, q3]; done)) | refine WO.op (want_in rfl rfl (by simp only [LK, ne_eq, Nat.reduceEqDiff, not_false_eq_true, hla, hlb, hlc, hlv, q1, q2, q3])) (by simp only [EV, LK, AR, WR, ne_eq, Nat.reduceEqDiff, not_false_eq_true, hla, hlb, hlc, hlv, q1, q2, q3]; rfl) rfl ?_
    refine WO.op rfl (by simp only [EV, LK, ne_eq, Nat.reduceEqDiff, not_false_eq_true, hla, hlb, hlc, hlv, q1, q2, q3]; rfl) rfl ?_
    refine WO.op rfl (by simp only [EV, LK, ne_eq, Nat.reduceEqDiff, not_false_eq_true, hla, hlb, hlc, hlv, q1, q2, q3]; rfl) rfl ?_
    first | (refine WO.skip (out_f rfl rfl ?_) rfl ?_; focus (simp only [LK, ne_eq, Nat.reduceEqDiff, not_false_eq_true, hla, hlb, hlc, hlv, q1, q2, q3]; done)) | refine WO.op (want_in rfl rfl (by simp only [LK, ne_eq, Nat.reduceEqDiff, not_false_eq_true, hla, hlb, hlc, hlv, q1, q2, q3])) (by simp only [EV, LK, ne_eq, Nat.reduceEqDiff, not_false_eq_true, hla, hlb, hlc, hlv, q1, q2, q3]; rfl) rfl ?_
    first | (refine WO.skip (out_f rfl rfl ?_) rfl ?_; focus (simp only [LK, ne_eq, Nat.reduceEqDiff, not_false_eq_true, hla, hlb, hlc, hlv, q1, q2, q3]; done)) | refine WO.op (want_in rfl rfl (by simp only [LK, ne_eq, Nat.reduceEqDiff, not_false_eq_true, hla, hlb, hlc, hlv, q1, q2, q3])) (by simp only [EV, LK, AR, WR, ne_eq, Nat.reduceEqDiff, not_false_eq_true, hla, hlb, hlc, hlv, q1, q2, q3]; rfl) rfl ?_
    refine WO.op rfl (by simp only [EV, LK, ne_eq, Nat.reduceEqDiff, not_false_eq_true, hla, hlb, hlc, hlv, q1, q2, q3]; rfl) rfl ?_
    refine WO.nil ?_
    show WC _ _ _ _ _ _ _
    repeat with_reducible refine WC.seq ?_
    refine WC.condT (by simp only [LK, ne_eq, Nat.reduceEqDiff, not_false_eq_true, decide_true, decide_false, decide_not, Bool.not_true, Bool.not_false]) ?_
    show WC _ _ _ _ _ _ _
    repeat with_reducible refine WC.seq ?_
    refine WC.region ?_
    refine WO.op rfl (by simp only [EV, LK, ne_eq, Nat.reduceEqDiff, not_false_eq_true]; rfl) rfl ?_
    refine WO.nil ?_
    exact .ret ⟨.inr rfl, [.bool true], rfl, rfl, .refl _ _⟩
  have q3 : decide ((80 : Int) < (zs.length : Int)) = false := decide_eq_false g3
  by_cases g4 : (200 : Int) < (l.length : Int)
  · have q4 : decide ((200 : Int) < (l.length : Int)) = true := decide_eq_true g4
    show WC _ _ _ _ _ _ _
    repeat with_reducible refine WC.seq ?_
    refine WC.region ?_
    refine WO.op rfl (by simp only [EV, LK, ne_eq, Nat.reduceEqDiff, not_false_eq_true, hla, hlb, hlc, hlv, q1, q2, q3, q4]; rfl) rfl ?_
    refine WO.op rfl (by simp only [EV, LK, ne_eq, Nat.reduceEqDiff, not_false_eq_true, hla, hlb, hlc, hlv, q1, q2, q3, q4]; rfl) rfl ?_
    refine WO.op rfl (by simp only [EV, LK, AR, WR, ne_eq, Nat.reduceEqDiff, not_false_eq_true, hla, hlb, hlc, hlv, q1, q2, q3, q4]; rfl) rfl ?_
    refine WO.op rfl (by simp only [EV, LK, ne_eq, Nat.reduceEqDiff, not_false_eq_true, hla, hlb, hlc, hlv, q1, q2, q3, q4]; rfl) rfl ?_
    first | (refine WO.skip (out_f rfl rfl ?_) rfl ?_; focus (simp only [LK, ne_eq, Nat.reduceEqDiff, not_false_eq_true, hla, hlb, hlc, hlv, q1, q2, q3, q4]; done)) | refine WO.op (want_in rfl rfl (by simp only [LK, ne_eq, Nat.reduceEqDiff, not_false_eq_true, hla, hlb, hlc, hlv, q1, q2, q3, q4])) (by simp only [EV, LK, ne_eq, Nat.reduceEqDiff, not_false_eq_true, hla, hlb, hlc, hlv, q1, q2, q3, q4]; rfl) rfl ?_
    first | (refine WO.skip (out_f rfl rfl ?_) rfl ?_; focus (simp only [LK, ne_eq, Nat.reduceEqDiff, not_false_eq_true, hla, hlb, hlc, hlv, q1, q2, q3, q4]; done)) | refine WO.op (want_in rfl rfl (by simp only [LK, ne_eq, Nat.reduceEqDiff, not_false_eq_true, hla, hlb, hlc, hlv, q1, q2, q3, q4])) (by simp only [EV, LK, ne_eq, Nat.reduceEqDiff, not_false_eq_true, hla, hlb, hlc, hlv, q1, q2, q3, q4]; rfl) rfl ?_
    first | (refine WO.skip (out_f rfl rfl ?_) rfl ?_; focus (simp only [LK, ne_eq, Nat.reduceEqDiff, not_false_eq_true, hla, hlb, hlc, hlv, q1, q2, q3, q4]; done)) | refine WO.op (want_in rfl rfl (by simp only [LK, ne_eq, Nat.reduceEqDiff, not_false_eq_true, hla, hlb, hlc, hlv, q1, q2, q3, q4])) (by simp only [EV, LK, AR, WR, ne_eq, Nat.reduceEqDiff, not_false_eq_true, hla, hlb, hlc, hlv, q1, q2, q3, q4]; rfl) rfl ?_
    refine WO.op rfl (by simp only [EV, LK, ne_eq, Nat.reduceEqDiff, not_false_eq_true, hla, hlb, hlc, hlv, q1, q2, q3, q4]; rfl) rfl ?_
    refine WO.op rfl (by simp only [EV, LK, ne_eq, Nat.reduceEqDiff, not_false_eq_true, hla, hlb, hlc, hlv, q1, q2, q3, q4]; rfl) rfl ?_
    first | (refine WO.skip (out_f rfl rfl ?_) rfl ?_; focus (simp only [LK, ne_eq, Nat.reduceEqDiff, not_false_eq_true, hla, hlb, hlc, hlv, q1, q2, q3, q4]; done)) | refine WO.op (want_in rfl rfl (by simp only [LK, ne_eq, Nat.reduceEqDiff, not_false_eq_true, hla, hlb, hlc, hlv, q1, q2, q3, q4])) (by simp only [EV, LK, ne_eq, Nat.reduceEqDiff, not_false_eq_true, hla, hlb, hlc, hlv, q1, q2, q3, q4]; rfl) rfl ?_
    first | (refine WO.skip (out_f rfl rfl ?_) rfl ?_; focus (simp only [LK, ne_eq, Nat.reduceEqDiff, not_false_eq_true, hla, hlb, hlc, hlv, q1, q2, q3, q4]; done)) | refine WO.op (want_in rfl rfl (by simp only [LK, ne_eq, Nat.reduceEqDiff, not_false_eq_true, hla, hlb, hlc, hlv, q1, q2, q3, q4])) (by simp only [EV, LK, ne_eq, Nat.reduceEqDiff, not_false_eq_true, hla, hlb, hlc, hlv, q1, q2, q3, q4]; rfl) rfl ?_
    first | (refine WO.skip (out_f rfl rfl ?_) rfl ?_; focus (simp only [LK, ne_eq, Nat.reduceEqDiff, not_false_eq_true, hla, hlb, hlc, hlv, q1, q2, q3, q4]; done)) | refine WO.op (want_in rfl rfl (by simp only [LK, ne_eq, Nat.reduceEqDiff, not_false_eq_true, hla, hlb, hlc, hlv, q1, q2, q3, q4])) (by simp only [EV, LK, AR, WR, ne_eq, Nat.reduceEqDiff, not_false_eq_true, hla, hlb, hlc, hlv, q1, q2, q3, q4]; rfl) rfl ?_
    refine WO.op rfl (by simp only [EV, LK, ne_eq, Nat.reduceEqDiff, not_false_eq_true, hla, hlb, hlc, hlv, q1, q2, q3, q4]; rfl) rfl ?_
    refine WO.op rfl (by simp only [EV, LK, ne_eq, Nat.reduceEqDiff, not_false_eq_true, hla, hlb, hlc, hlv, q1, q2, q3, q4]; rfl) rfl ?_
    first | (refine WO.skip (out_f rfl rfl ?_) rfl ?_; focus (simp only [LK, ne_eq, Nat.reduceEqDiff, not_false_eq_true, hla, hlb, hlc, hlv, q1, q2, q3, q4]; done)) | refine WO.op (want_in rfl rfl (by simp only [LK, ne_eq, Nat.reduceEqDiff, not_false_eq_true, hla, hlb, hlc, hlv, q1, q2, q3, q4])) (by simp only [EV, LK, ne_eq, Nat.reduceEqDiff, not_false_eq_true, hla, hlb, hlc, hlv, q1, q2, q3, q4]; rfl) rfl ?_
    first | (refine WO.skip (out_f rfl rfl ?_) rfl ?_; focus (simp only [LK, ne_eq, Nat.reduceEqDiff, not_false_eq_true, hla, hlb, hlc, hlv, q1, q2, q3, q4]; done)) | refine WO.op (want_in rfl rfl (by simp only [LK, ne_eq, Nat.reduceEqDiff, not_false_eq_true, hla, hlb, hlc, hlv, q1, q2, q3, q4])) (by simp only [EV, LK, ne_eq, Nat.reduceEqDiff, not_false_eq_true, hla, hlb, hlc, hlv, q1, q2, q3, q4]; rfl) rfl ?_
    first | (refine WO.skip (out_f rfl rfl ?_) rfl ?_; focus (simp only [LK, ne_eq, Nat.reduceEqDiff, not_false_eq_true, hla, hlb, hlc, hlv, q1, q2, q3, q4]; done)) | refine WO.op (want_in rfl rfl (by simp only [LK, ne_eq, Nat.reduceEqDiff, not_false_eq_true, hla, hlb, hlc, hlv, q1, q2, q3, q4])) (by simp only [EV, LK, AR, WR, ne_eq, Nat.reduceEqDiff, not_false_eq_true, hla, hlb, hlc, hlv, q1, q2, q3, q4]; rfl) rfl ?_
    refine WO.op rfl (by simp only [EV, LK, ne_eq, Nat.reduceEqDiff, not_false_eq_true, hla, hlb, hlc, hlv, q1, q2, q3, q4]; rfl) rfl ?_
    refine WO.op rfl (by simp only [EV, LK, ne_eq, Nat.reduceEqDiff, not_false_eq_true, hla, hlb, hlc, hlv, q1, q2, q3, q4]; rfl) rfl ?_
    first | (refine WO.skip (out_f rfl rfl ?_) rfl ?_; focus (simp only [LK, ne_eq, Nat.reduceEqDiff, not_false_eq_true, hla, hlb, hlc, hlv, q1, q2, q3, q4]; done)) | refine WO.op (want_in rfl rfl (by simp only [LK, ne_eq, Nat.reduceEqDiff, not_false_eq_true, hla, hlb, hlc, hlv, q1, q2, q3, q4])) (by simp only [EV, LK, ne_eq, Nat.reduceEqDiff, not_false_eq_true, hla, hlb, hlc, hlv, q1, q2, q3, q4]; rfl) rfl ?_
    first | (refine WO.skip (out_f rfl rfl ?_) rfl ?_; focus (simp only [LK, ne_eq, Nat.reduceEqDiff, not_false_eq_true, hla, hlb, hlc, hlv, q1, q2, q3, q4]; done)) | refine WO.op (want_in rfl rfl (by simp only [LK, ne_eq, Nat.reduceEqDiff, not_false_eq_true, hla, hlb, hlc, hlv, q1, q2, q3, q4])) (by simp only [EV, LK, AR, WR, ne_eq, Nat.reduceEqDiff, not_false_eq_true, hla, hlb, hlc, hlv, q1, q2, q3, q4]; rfl) rfl ?_
    refine WO.op rfl (by simp only [EV, LK, ne_eq, Nat.reduceEqDiff, not_false_eq_true, hla, hlb, hlc, hlv, q1, q2, q3, q4]; rfl) rfl ?_
    refine WO.nil ?_
    show WC _ _ _ _ _ _ _
    repeat with_reducible refine WC.seq ?_
    refine WC.condT (by simp only [LK, ne_eq, Nat.reduceEqDiff, not_false_eq_true, decide_true, decide_false, decide_not, Bool.not_true, Bool.not_false]) ?_
    show WC _ _ _ _ _ _ _
    repeat with_reducible refine WC.seq ?_
    refine WC.region ?_
    refine WO.op rfl (by simp only [EV, LK, ne_eq, Nat.reduceEqDiff, not_false_eq_true]; rfl) rfl ?_
    refine WO.nil ?_
    exact .ret ⟨.inr rfl, [.bool true], rfl, rfl, .refl _ _⟩
  have q4 : decide ((200 : Int) < (l.length : Int)) = false := decide_eq_false g4
  by_cases g5 : (300 : Int) < n
  · have q5 : decide ((300 : Int) < n) = true := decide_eq_true g5
    show WC _ _ _ _ _ _ _
    repeat with_reducible refine WC.seq ?_
    refine WC.region ?_
    refine WO.op rfl (by simp only [EV, LK, ne_eq, Nat.reduceEqDiff, not_false_eq_true, hla, hlb, hlc, hlv, q1, q2, q3, q4, q5]; rfl) rfl ?_
    refine WO.op rfl (by simp only [EV, LK, ne_eq, Nat.reduceEqDiff, not_false_eq_true, hla, hlb, hlc, hlv, q1, q2, q3, q4, q5]; rfl) rfl ?_
    refine WO.op rfl (by simp only [EV, LK, AR, WR, ne_eq, Nat.reduceEqDiff, not_false_eq_true, hla, hlb, hlc, hlv, q1, q2, q3, q4, q5]; rfl) rfl ?_
    refine WO.op rfl (by simp only [EV, LK, ne_eq, Nat.reduceEqDiff, not_false_eq_true, hla, hlb, hlc, hlv, q1, q2, q3, q4, q5]; rfl) rfl ?_
    first | (refine WO.skip (out_f rfl rfl ?_) rfl ?_; focus (simp only [LK, ne_eq, Nat.reduceEqDiff, not_false_eq_true, hla, hlb, hlc, hlv, q1, q2, q3, q4, q5]; done)) | refine WO.op (want_in rfl rfl (by simp only [LK, ne_eq, Nat.reduceEqDiff, not_false_eq_true, hla, hlb, hlc, hlv, q1, q2, q3, q4, q5])) (by simp only [EV, LK, ne_eq, Nat.reduceEqDiff, not_false_eq_true, hla, hlb, hlc, hlv, q1, q2, q3, q4, q5]; rfl) rfl ?_
    first | (refine WO.skip (out_f rfl rfl ?_) rfl ?_; focus (simp only [LK, ne_eq, Nat.reduceEqDiff, not_false_eq_true, hla, hlb, hlc, hlv, q1, q2, q3, q4, q5]; done)) | refine WO.op (want_in rfl rfl (by simp only [LK, ne_eq, Nat.reduceEqDiff, not_false_eq_true, hla, hlb, hlc, hlv, q1, q2, q3, q4, q5])) (by simp only [EV, LK, ne_eq, Nat.reduceEqDiff, not_false_eq_true, hla, hlb, hlc, hlv, q1, q2, q3, q4, q5]; rfl) rfl ?_
    first | (refine WO.skip (out_f rfl rfl ?_) rfl ?_; focus (simp only [LK, ne_eq, Nat.reduceEqDiff, not_false_eq_true, hla, hlb, hlc, hlv, q1, q2, q3, q4, q5]; done)) | refine WO.op (want_in rfl rfl (by simp only [LK, ne_eq, Nat.reduceEqDiff, not_false_eq_true, hla, hlb, hlc, hlv, q1, q2, q3, q4, q5])) (by simp only [EV, LK, AR, WR, ne_eq, Nat.reduceEqDiff, not_false_eq_true, hla, hlb, hlc, hlv, q1, q2, q3, q4, q5]; rfl) rfl ?_
    refine WO.op rfl (by simp only [EV, LK, ne_eq, Nat.reduceEqDiff, not_false_eq_true, hla, hlb, hlc, hlv, q1, q2, q3, q4, q5]; rfl) rfl ?_
    refine WO.op rfl (by simp only [EV, LK, ne_eq, Nat.reduceEqDiff, not_false_eq_true, hla, hlb, hlc, hlv, q1, q2, q3, q4, q5]; rfl) rfl ?_
    first | (refine WO.skip (out_f rfl rfl ?_) rfl ?_; focus (simp only [LK, ne_eq, Nat.reduceEqDiff, not_false_eq_true, hla, hlb, hlc, hlv, q1, q2, q3, q4, q5]; done)) | refine WO.op (want_in rfl rfl (by simp only [LK, ne_eq, Nat.reduceEqDiff, not_false_eq_true, hla, hlb, hlc, hlv, q1, q2, q3, q4, q5])) (by simp only [EV, LK, ne_eq, Nat.reduceEqDiff, not_false_eq_true, hla, hlb, hlc, hlv, q1, q2, q3, q4, q5]; rfl) rfl ?_
    first | (refine WO.skip (out_f rfl rfl ?_) rfl ?_; focus (simp only [LK, ne_eq, Nat.reduceEqDiff, not_false_eq_true, hla, hlb, hlc, hlv, q1, q2, q3, q4, q5]; done)) | refine WO.op (want_in rfl rfl (by simp only [LK, ne_eq, Nat.reduceEqDiff, not_false_eq_true, hla, hlb, hlc, hlv, q1, q2, q3, q4, q5])) (by simp only [EV, LK, ne_eq, Nat.reduceEqDiff, not_false_eq_true, hla, hlb, hlc, hlv, q1, q2, q3, q4, q5]; rfl) rfl ?_
    first | (refine WO.skip (out_f rfl rfl ?_) rfl ?_; focus (simp only [LK, ne_eq, Nat.reduceEqDiff, not_false_eq_true, hla, hlb, hlc, hlv, q1, q2, q3, q4, q5]; done)) | refine WO.op (want_in rfl rfl (by simp only [LK, ne_eq, Nat.reduceEqDiff, not_false_eq_true, hla, hlb, hlc, hlv, q1, q2, q3, q4, q5])) (by simp only [EV, LK, AR, WR, ne_eq, Nat.reduceEqDiff, not_false_eq_true, hla, hlb, hlc, hlv, q1, q2, q3, q4, q5]; rfl) rfl ?_
    refine WO.op rfl (by simp only [EV, LK, ne_eq, Nat.reduceEqDiff, not_false_eq_true, hla, hlb, hlc, hlv, q1, q2, q3, q4, q5]; rfl) rfl ?_
    refine WO.op rfl (by simp only [EV, LK, ne_eq, Nat.reduceEqDiff, not_false_eq_true, hla, hlb, hlc, hlv, q1, q2, q3, q4, q5]; rfl) rfl ?_
    first | (refine WO.skip (out_f rfl rfl ?_) rfl ?_; focus (simp only [LK, ne_eq, Nat.reduceEqDiff, not_false_eq_true, hla, hlb, hlc, hlv, q1, q2, q3, q4, q5]; done)) | refine WO.op (want_in rfl rfl (by simp only [LK, ne_eq, Nat.reduceEqDiff, not_false_eq_true, hla, hlb, hlc, hlv, q1, q2, q3, q4, q5])) (by simp only [EV, LK, ne_eq, Nat.reduceEqDiff, not_false_eq_true, hla, hlb, hlc, hlv, q1, q2, q3, q4, q5]; rfl) rfl ?_
    first | (refine WO.skip (out_f rfl rfl ?_) rfl ?_; focus (simp only [LK, ne_eq, Nat.reduceEqDiff, not_false_eq_true, hla, hlb, hlc, hlv, q1, q2, q3, q4, q5]; done)) | refine WO.op (want_in rfl rfl (by simp only [LK, ne_eq, Nat.reduceEqDiff, not_false_eq_true, hla, hlb, hlc, hlv, q1, q2, q3, q4, q5])) (by simp only [EV, LK, ne_eq, Nat.reduceEqDiff, not_false_eq_true, hla, hlb, hlc, hlv, q1, q2, q3, q4, q5]; rfl) rfl ?_
    first | (refine WO.skip (out_f rfl rfl ?_) rfl ?_; focus (simp only [LK, ne_eq, Nat.reduceEqDiff, not_false_eq_true, hla, hlb, hlc, hlv, q1, q2, q3, q4, q5]; done)) | refine WO.op (want_in rfl rfl (by simp only [LK, ne_eq, Nat.reduceEqDiff, not_false_eq_true, hla, hlb, hlc, hlv, q1, q2, q3, q4, q5])) (by simp only [EV, LK, AR, WR, ne_eq, Nat.reduceEqDiff, not_false_eq_true, hla, hlb, hlc, hlv, q1, q2, q3, q4, q5]; rfl) rfl ?_
    refine WO.op rfl (by simp only [EV, LK, ne_eq, Nat.reduceEqDiff, not_false_eq_true, hla, hlb, hlc, hlv, q1, q2, q3, q4, q5]; rfl) rfl ?_
    refine WO.op rfl (by simp only [EV, LK, ne_eq, Nat.reduceEqDiff, not_false_eq_true, hla, hlb, hlc, hlv, q1, q2, q3, q4, q5]; rfl) rfl ?_
    first | (refine WO.skip (out_f rfl rfl ?_) rfl ?_; focus (simp only [LK, ne_eq, Nat.reduceEqDiff, not_false_eq_true, hla, hlb, hlc, hlv, q1, q2, q3, q4, q5]; done)) | refine WO.op (want_in rfl rfl (by simp only [LK, ne_eq, Nat.reduceEqDiff, not_false_eq_true, hla, hlb, hlc, hlv, q1, q2, q3, q4, q5])) (by simp only [EV, LK, ne_eq, Nat.reduceEqDiff, not_false_eq_true, hla, hlb, hlc, hlv, q1, q2, q3, q4, q5]; rfl) rfl ?_
    first | (refine WO.skip (out_f rfl rfl ?_) rfl ?_; focus (simp only [LK, ne_eq, Nat.reduceEqDiff, not_false_eq_true, hla, hlb, hlc, hlv, q1, q2, q3, q4, q5]; done)) | refine WO.op (want_in rfl rfl (by simp only [LK, ne_eq, Nat.reduceEqDiff, not_false_eq_true, hla, hlb, hlc, hlv, q1, q2, q3, q4, q5])) (by simp only [EV, LK, AR, WR, ne_eq, Nat.reduceEqDiff, not_false_eq_true, hla, hlb, hlc, hlv, q1, q2, q3, q4, q5]; rfl) rfl ?_
    refine WO.op rfl (by simp only [EV, LK, ne_eq, Nat.reduceEqDiff, not_false_eq_true, hla, hlb, hlc, hlv, q1, q2, q3, q4, q5]; rfl) rfl ?_
    refine WO.nil ?_
    show WC _ _ _ _ _ _ _
    repeat with_reducible refine WC.seq ?_
    refine WC.condT (by simp only [LK, ne_eq, Nat.reduceEqDiff, not_false_eq_true, decide_true, decide_false, decide_not, Bool.not_true, Bool.not_false]) ?_
    show WC _ _ _ _ _ _ _
    repeat with_reducible refine WC.seq ?_
    refine WC.region ?_
    refine WO.op rfl (by simp only [EV, LK, ne_eq, Nat.reduceEqDiff, not_false_eq_true]; rfl) rfl ?_
    refine WO.nil ?_
    exact .ret ⟨.inr rfl, [.bool true], rfl, rfl, .refl _ _⟩
  have q5 : decide ((300 : Int) < n) = false := decide_eq_false g5
  show WC _ _ _ _ _ _ _
  repeat with_reducible refine WC.seq ?_
  refine WC.region ?_
  refine WO.op rfl (by simp only [EV, LK, ne_eq, Nat.reduceEqDiff, not_false_eq_true, hla, hlb, hlc, hlv, q1, q2, q3, q4, q5]; rfl) rfl ?_
  refine WO.op rfl (by simp only [EV, LK, ne_eq, Nat.reduceEqDiff, not_false_eq_true, hla, hlb, hlc, hlv, q1, q2, q3, q4, q5]; rfl) rfl ?_
  refine WO.op rfl (by simp only [EV, LK, AR, WR, ne_eq, Nat.reduceEqDiff, not_false_eq_true, hla, hlb, hlc, hlv, q1, q2, q3, q4, q5]; rfl) rfl ?_
  refine WO.op rfl (by simp only [EV, LK, ne_eq, Nat.reduceEqDiff, not_false_eq_true, hla, hlb, hlc, hlv, q1, q2, q3, q4, q5]; rfl) rfl ?_
  first | (refine WO.skip (out_f rfl rfl ?_) rfl ?_; focus (simp only [LK, ne_eq, Nat.reduceEqDiff, not_false_eq_true, hla, hlb, hlc, hlv, q1, q2, q3, q4, q5]; done)) | refine WO.op (want_in rfl rfl (by simp only [LK, ne_eq, Nat.reduceEqDiff, not_false_eq_true, hla, hlb, hlc, hlv, q1, q2, q3, q4, q5])) (by simp only [EV, LK, ne_eq, Nat.reduceEqDiff, not_false_eq_true, hla, hlb, hlc, hlv, q1, q2, q3, q4, q5]; rfl) rfl ?_
  first | (refine WO.skip (out_f rfl rfl ?_) rfl ?_; focus (simp only [LK, ne_eq, Nat.reduceEqDiff, not_false_eq_true, hla, hlb, hlc, hlv, q1, q2, q3, q4, q5]; done)) | refine WO.op (want_in rfl rfl (by simp only [LK, ne_eq, Nat.reduceEqDiff, not_false_eq_true, hla, hlb, hlc, hlv, q1, q2, q3, q4, q5])) (by simp only [EV, LK, ne_eq, Nat.reduceEqDiff, not_false_eq_true, hla, hlb, hlc, hlv, q1, q2, q3, q4, q5]; rfl) rfl ?_
  first | (refine WO.skip (out_f rfl rfl ?_) rfl ?_; focus (simp only [LK, ne_eq, Nat.reduceEqDiff, not_false_eq_true, hla, hlb, hlc, hlv, q1, q2, q3, q4, q5]; done)) | refine WO.op (want_in rfl rfl (by simp only [LK, ne_eq, Nat.reduceEqDiff, not_false_eq_true, hla, hlb, hlc, hlv, q1, q2, q3, q4, q5])) (by simp only [EV, LK, AR, WR, ne_eq, Nat.reduceEqDiff, not_false_eq_true, hla, hlb, hlc, hlv, q1, q2, q3, q4, q5]; rfl) rfl ?_
  refine WO.op rfl (by simp only [EV, LK, ne_eq, Nat.reduceEqDiff, not_false_eq_true, hla, hlb, hlc, hlv, q1, q2, q3, q4, q5]; rfl) rfl ?_
  refine WO.op rfl (by simp only [EV, LK, ne_eq, Nat.reduceEqDiff, not_false_eq_true, hla, hlb, hlc, hlv, q1, q2, q3, q4, q5]; rfl) rfl ?_
  first | (refine WO.skip (out_f rfl rfl ?_) rfl ?_; focus (simp only [LK, ne_eq, Nat.reduceEqDiff, not_false_eq_true, hla, hlb, hlc, hlv, q1, q2, q3, q4, q5]; done)) | refine WO.op (want_in rfl rfl (by simp only [LK, ne_eq, Nat.reduceEqDiff, not_false_eq_true, hla, hlb, hlc, hlv, q1, q2, q3, q4, q5])) (by simp only [EV, LK, ne_eq, Nat.reduceEqDiff, not_false_eq_true, hla, hlb, hlc, hlv, q1, q2, q3, q4, q5]; rfl) rfl ?_
  first | (refine WO.skip (out_f rfl rfl ?_) rfl ?_; focus (simp only [LK, ne_eq, Nat.reduceEqDiff, not_false_eq_true, hla, hlb, hlc, hlv, q1, q2, q3, q4, q5]; done)) | refine WO.op (want_in rfl rfl (by simp only [LK, ne_eq, Nat.reduceEqDiff, not_false_eq_true, hla, hlb, hlc, hlv, q1, q2, q3, q4, q5])) (by simp only [EV, LK, ne_eq, Nat.reduceEqDiff, not_false_eq_true, hla, hlb, hlc, hlv, q1, q2, q3, q4, q5]; rfl) rfl ?_
  first | (refine WO.skip (out_f rfl rfl ?_) rfl ?_; focus (simp only [LK, ne_eq, Nat.reduceEqDiff, not_false_eq_true, hla, hlb, hlc, hlv, q1, q2, q3, q4, q5]; done)) | refine WO.op (want_in rfl rfl (by simp only [LK, ne_eq, Nat.reduceEqDiff, not_false_eq_true, hla, hlb, hlc, hlv, q1, q2, q3, q4, q5])) (by simp only [EV, LK, AR, WR, ne_eq, Nat.reduceEqDiff, not_false_eq_true, hla, hlb, hlc, hlv, q1, q2, q3, q4, q5]; rfl) rfl ?_
  refine WO.op rfl (by simp only [EV, LK, ne_eq, Nat.reduceEqDiff, not_false_eq_true, hla, hlb, hlc, hlv, q1, q2, q3, q4, q5]; rfl) rfl ?_
  refine WO.op rfl (by simp only [EV, LK, ne_eq, Nat.reduceEqDiff, not_false_eq_true, hla, hlb, hlc, hlv, q1, q2, q3, q4, q5]; rfl) rfl ?_
  first | (refine WO.skip (out_f rfl rfl ?_) rfl ?_; focus (simp only [LK, ne_eq, Nat.reduceEqDiff, not_false_eq_true, hla, hlb, hlc, hlv, q1, q2, q3, q4, q5]; done)) | refine WO.op (want_in rfl rfl (by simp only [LK, ne_eq, Nat.reduceEqDiff, not_false_eq_true, hla, hlb, hlc, hlv, q1, q2, q3, q4, q5])) (by simp only [EV, LK, ne_eq, Nat.reduceEqDiff, not_false_eq_true, hla, hlb, hlc, hlv, q1, q2, q3, q4, q5]; rfl) rfl ?_
  first | (refine WO.skip (out_f rfl rfl ?_) rfl ?_; focus (simp only [LK, ne_eq, Nat.reduceEqDiff, not_false_eq_true, hla, hlb, hlc, hlv, q1, q2, q3, q4, q5]; done)) | refine WO.op (want_in rfl rfl (by simp only [LK, ne_eq, Nat.reduceEqDiff, not_false_eq_true, hla, hlb, hlc, hlv, q1, q2, q3, q4, q5])) (by simp only [EV, LK, ne_eq, Nat.reduceEqDiff, not_false_eq_true, hla, hlb, hlc, hlv, q1, q2, q3, q4, q5]; rfl) rfl ?_
  first | (refine WO.skip (out_f rfl rfl ?_) rfl ?_; focus (simp only [LK, ne_eq, Nat.reduceEqDiff, not_false_eq_true, hla, hlb, hlc, hlv, q1, q2, q3, q4, q5]; done)) | refine WO.op (want_in rfl rfl (by simp only [LK, ne_eq, Nat.reduceEqDiff, not_false_eq_true, hla, hlb, hlc, hlv, q1, q2, q3, q4, q5])) (by simp only [EV, LK, AR, WR, ne_eq, Nat.reduceEqDiff, not_false_eq_true, hla, hlb, hlc, hlv, q1, q2, q3, q4, q5]; rfl) rfl ?_
  refine WO.op rfl (by simp only [EV, LK, ne_eq, Nat.reduceEqDiff, not_false_eq_true, hla, hlb, hlc, hlv, q1, q2, q3, q4, q5]; rfl) rfl ?_
  refine WO.op rfl (by simp only [EV, LK, ne_eq, Nat.reduceEqDiff, not_false_eq_true, hla, hlb, hlc, hlv, q1, q2, q3, q4, q5]; rfl) rfl ?_
  first | (refine WO.skip (out_f rfl rfl ?_) rfl ?_; focus (simp only [LK, ne_eq, Nat.reduceEqDiff, not_false_eq_true, hla, hlb, hlc, hlv, q1, q2, q3, q4, q5]; done)) | refine WO.op (want_in rfl rfl (by simp only [LK, ne_eq, Nat.reduceEqDiff, not_false_eq_true, hla, hlb, hlc, hlv, q1, q2, q3, q4, q5])) (by simp only [EV, LK, ne_eq, Nat.reduceEqDiff, not_false_eq_true, hla, hlb, hlc, hlv, q1, q2, q3, q4, q5]; rfl) rfl ?_
  first | (refine WO.skip (out_f rfl rfl ?_) rfl ?_; focus (simp only [LK, ne_eq, Nat.reduceEqDiff, not_false_eq_true, hla, hlb, hlc, hlv, q1, q2, q3, q4, q5]; done)) | refine WO.op (want_in rfl rfl (by simp only [LK, ne_eq, Nat.reduceEqDiff, not_false_eq_true, hla, hlb, hlc, hlv, q1, q2, q3, q4, q5])) (by simp only [EV, LK, AR, WR, ne_eq, Nat.reduceEqDiff, not_false_eq_true, hla, hlb, hlc, hlv, q1, q2, q3, q4, q5]; rfl) rfl ?_
  refine WO.op rfl (by simp only [EV, LK, ne_eq, Nat.reduceEqDiff, not_false_eq_true, hla, hlb, hlc, hlv, q1, q2, q3, q4, q5]; rfl) rfl ?_
  refine WO.nil ?_
  show WC _ _ _ _ _ _ _
  repeat with_reducible refine WC.seq ?_
  refine WC.condF (by simp only [LK, ne_eq, Nat.reduceEqDiff, not_false_eq_true, decide_true, decide_false, decide_not, Bool.not_true, Bool.not_false]) ?_
  refine WC.skip ?_
  have e1 : decide (¬ (apart xs ys : Int) = (apart ys xs : Int)) = false := decide_eq_false (by rw [apart_comm]; exact not_not_intro rfl)
  have hle1 : apart xs ys ≤ 4096 := cnt_le _
  have hle2 : apart ys zs ≤ 4096 := cnt_le _
  have htri := apart_tri xs ys zs
  have e2 : IntKind.i64.wrap ((apart xs ys : Int) + (apart ys zs : Int)) = (apart xs ys : Int) + (apart ys zs : Int) := wrap_i64 (by omega) (by omega)
  have e3 : decide ((apart xs ys : Int) + (apart ys zs : Int) < (apart xs zs : Int)) = false := decide_eq_false (by omega)
  have e4 : decide (¬ (apart xs xs : Int) = 0) = false := decide_eq_false (by rw [apart_self]; decide)
  show WC _ _ _ _ _ _ _
  repeat with_reducible refine WC.seq ?_
  refine WC.region ?_
  refine WO.op rfl (by simp only [EV, LK, ne_eq, Nat.reduceEqDiff, not_false_eq_true, e1, e2, e3, e4]; rfl) rfl ?_
  refine WO.op rfl (by simp only [EV, LK, ne_eq, Nat.reduceEqDiff, not_false_eq_true, e1, e2, e3, e4]; rfl) rfl ?_
  refine WO.call rfl rfl (by simp only [LK, ne_eq, Nat.reduceEqDiff, not_false_eq_true, e1, e2, e3, e4, callee, List.map_cons, List.map_nil]; rfl) ((apart_ret ha hb hba).mono fun r1 s1 hR => ⟨_, rfl, ?_⟩)
  obtain ⟨rfl, k1⟩ := hR
  refine WO.op rfl (by simp only [EV, LK, ne_eq, Nat.reduceEqDiff, not_false_eq_true, e1, e2, e3, e4]; rfl) rfl ?_
  refine WO.op rfl (by simp only [EV, LK, ne_eq, Nat.reduceEqDiff, not_false_eq_true, e1, e2, e3, e4]; rfl) rfl ?_
  refine WO.call rfl rfl (by simp only [LK, ne_eq, Nat.reduceEqDiff, not_false_eq_true, e1, e2, e3, e4, callee, List.map_cons, List.map_nil]; rfl) ((apart_ret (hb.keeps k1) (ha.keeps k1) (k1.based hba)).mono fun r2 s2 hR => ⟨_, rfl, ?_⟩)
  obtain ⟨rfl, k2⟩ := hR
  have K2 := k1.then k2
  refine WO.op rfl (by simp only [EV, LK, AR, WR, ne_eq, Nat.reduceEqDiff, not_false_eq_true, e1, e2, e3, e4]; rfl) rfl ?_
  refine WO.op rfl (by simp only [EV, LK, ne_eq, Nat.reduceEqDiff, not_false_eq_true, e1, e2, e3, e4]; rfl) rfl ?_
  first | (refine WO.skip (out_f rfl rfl ?_) rfl ?_; focus (simp only [LK, ne_eq, Nat.reduceEqDiff, not_false_eq_true, e1, e2, e3, e4]; done)) | refine WO.op (want_in rfl rfl (by simp only [LK, ne_eq, Nat.reduceEqDiff, not_false_eq_true, e1, e2, e3, e4])) (by simp only [EV, LK, ne_eq, Nat.reduceEqDiff, not_false_eq_true, e1, e2, e3, e4]; rfl) rfl ?_
  first | (refine WO.skip (out_f rfl rfl ?_) rfl ?_; focus (simp only [LK, ne_eq, Nat.reduceEqDiff, not_false_eq_true, e1, e2, e3, e4]; done)) | refine WO.op (want_in rfl rfl (by simp only [LK, ne_eq, Nat.reduceEqDiff, not_false_eq_true, e1, e2, e3, e4])) (by simp only [EV, LK, ne_eq, Nat.reduceEqDiff, not_false_eq_true, e1, e2, e3, e4]; rfl) rfl ?_
  refine WO.call (want_in rfl rfl (by simp only [LK, ne_eq, Nat.reduceEqDiff, not_false_eq_true, e1, e2, e3, e4])) rfl (by simp only [LK, ne_eq, Nat.reduceEqDiff, not_false_eq_true, e1, e2, e3, e4, callee, List.map_cons, List.map_nil]; rfl) ((apart_ret (ha.keeps K2) (hc.keeps K2) (K2.based hba)).mono fun r3 s3 hR => ⟨_, rfl, ?_⟩)
  obtain ⟨rfl, k3⟩ := hR
  have K3 := K2.then k3
  first | (refine WO.skip (out_f rfl rfl ?_) rfl ?_; focus (simp only [LK, ne_eq, Nat.reduceEqDiff, not_false_eq_true, e1, e2, e3, e4]; done)) | refine WO.op (want_in rfl rfl (by simp only [LK, ne_eq, Nat.reduceEqDiff, not_false_eq_true, e1, e2, e3, e4])) (by simp only [EV, LK, ne_eq, Nat.reduceEqDiff, not_false_eq_true, e1, e2, e3, e4]; rfl) rfl ?_
  first | (refine WO.skip (out_f rfl rfl ?_) rfl ?_; focus (simp only [LK, ne_eq, Nat.reduceEqDiff, not_false_eq_true, e1, e2, e3, e4]; done)) | refine WO.op (want_in rfl rfl (by simp only [LK, ne_eq, Nat.reduceEqDiff, not_false_eq_true, e1, e2, e3, e4])) (by simp only [EV, LK, ne_eq, Nat.reduceEqDiff, not_false_eq_true, e1, e2, e3, e4]; rfl) rfl ?_
  refine WO.call (want_in rfl rfl (by simp only [LK, ne_eq, Nat.reduceEqDiff, not_false_eq_true, e1, e2, e3, e4])) rfl (by simp only [LK, ne_eq, Nat.reduceEqDiff, not_false_eq_true, e1, e2, e3, e4, callee, List.map_cons, List.map_nil]; rfl) ((apart_ret (ha.keeps K3) (hb.keeps K3) (K3.based hba)).mono fun r4 s4 hR => ⟨_, rfl, ?_⟩)
  obtain ⟨rfl, k4⟩ := hR
  have K4 := K3.then k4
  first | (refine WO.skip (out_f rfl rfl ?_) rfl ?_; focus (simp only [LK, ne_eq, Nat.reduceEqDiff, not_false_eq_true, e1, e2, e3, e4]; done)) | refine WO.op (want_in rfl rfl (by simp only [LK, ne_eq, Nat.reduceEqDiff, not_false_eq_true, e1, e2, e3, e4])) (by simp only [EV, LK, ne_eq, Nat.reduceEqDiff, not_false_eq_true, e1, e2, e3, e4]; rfl) rfl ?_
  first | (refine WO.skip (out_f rfl rfl ?_) rfl ?_; focus (simp only [LK, ne_eq, Nat.reduceEqDiff, not_false_eq_true, e1, e2, e3, e4]; done)) | refine WO.op (want_in rfl rfl (by simp only [LK, ne_eq, Nat.reduceEqDiff, not_false_eq_true, e1, e2, e3, e4])) (by simp only [EV, LK, ne_eq, Nat.reduceEqDiff, not_false_eq_true, e1, e2, e3, e4]; rfl) rfl ?_
  refine WO.call (want_in rfl rfl (by simp only [LK, ne_eq, Nat.reduceEqDiff, not_false_eq_true, e1, e2, e3, e4])) rfl (by simp only [LK, ne_eq, Nat.reduceEqDiff, not_false_eq_true, e1, e2, e3, e4, callee, List.map_cons, List.map_nil]; rfl) ((apart_ret (hb.keeps K4) (hc.keeps K4) (K4.based hba)).mono fun r5 s5 hR => ⟨_, rfl, ?_⟩)
  obtain ⟨rfl, k5⟩ := hR
  have K5 := K4.then k5
  first | (refine WO.skip (out_f rfl rfl ?_) rfl ?_; focus (simp only [LK, ne_eq, Nat.reduceEqDiff, not_false_eq_true, e1, e2, e3, e4]; done)) | refine WO.op (want_in rfl rfl (by simp only [LK, ne_eq, Nat.reduceEqDiff, not_false_eq_true, e1, e2, e3, e4])) (by simp only [EV, LK, AR, WR, ne_eq, Nat.reduceEqDiff, not_false_eq_true, e1, e2, e3, e4]; rfl) rfl ?_
  first | (refine WO.skip (out_f rfl rfl ?_) rfl ?_; focus (simp only [LK, ne_eq, Nat.reduceEqDiff, not_false_eq_true, e1, e2, e3, e4]; done)) | refine WO.op (want_in rfl rfl (by simp only [LK, ne_eq, Nat.reduceEqDiff, not_false_eq_true, e1, e2, e3, e4])) (by simp only [EV, LK, AR, WR, ne_eq, Nat.reduceEqDiff, not_false_eq_true, e1, e2, e3, e4]; rfl) rfl ?_
  refine WO.op rfl (by simp only [EV, LK, ne_eq, Nat.reduceEqDiff, not_false_eq_true, e1, e2, e3, e4]; rfl) rfl ?_
  refine WO.op rfl (by simp only [EV, LK, ne_eq, Nat.reduceEqDiff, not_false_eq_true, e1, e2, e3, e4]; rfl) rfl ?_
  first | (refine WO.skip (out_f rfl rfl ?_) rfl ?_; focus (simp only [LK, ne_eq, Nat.reduceEqDiff, not_false_eq_true, e1, e2, e3, e4]; done)) | refine WO.op (want_in rfl rfl (by simp only [LK, ne_eq, Nat.reduceEqDiff, not_false_eq_true, e1, e2, e3, e4])) (by simp only [EV, LK, ne_eq, Nat.reduceEqDiff, not_false_eq_true, e1, e2, e3, e4]; rfl) rfl ?_
  first | (refine WO.skip (out_f rfl rfl ?_) rfl ?_; focus (simp only [LK, ne_eq, Nat.reduceEqDiff, not_false_eq_true, e1, e2, e3, e4]; done)) | refine WO.op (want_in rfl rfl (by simp only [LK, ne_eq, Nat.reduceEqDiff, not_false_eq_true, e1, e2, e3, e4])) (by simp only [EV, LK, ne_eq, Nat.reduceEqDiff, not_false_eq_true, e1, e2, e3, e4]; rfl) rfl ?_
  refine WO.call (want_in rfl rfl (by simp only [LK, ne_eq, Nat.reduceEqDiff, not_false_eq_true, e1, e2, e3, e4])) rfl (by simp only [LK, ne_eq, Nat.reduceEqDiff, not_false_eq_true, e1, e2, e3, e4, callee, List.map_cons, List.map_nil]; rfl) ((apart_ret (ha.keeps K5) (ha.keeps K5) (K5.based hba)).mono fun r6 s6 hR => ⟨_, rfl, ?_⟩)
  obtain ⟨rfl, k6⟩ := hR
  have K6 := K5.then k6
  first | (refine WO.skip (out_f rfl rfl ?_) rfl ?_; focus (simp only [LK, ne_eq, Nat.reduceEqDiff, not_false_eq_true, e1, e2, e3, e4]; done)) | refine WO.op (want_in rfl rfl (by simp only [LK, ne_eq, Nat.reduceEqDiff, not_false_eq_true, e1, e2, e3, e4])) (by simp only [EV, LK, AR, WR, ne_eq, Nat.reduceEqDiff, not_false_eq_true, e1, e2, e3, e4]; rfl) rfl ?_
  refine WO.op rfl (by simp only [EV, LK, ne_eq, Nat.reduceEqDiff, not_false_eq_true, e1, e2, e3, e4]; rfl) rfl ?_
  refine WO.nil ?_
  show WC _ _ _ _ _ _ _
  repeat with_reducible refine WC.seq ?_
  refine WC.condF (by simp only [LK, ne_eq, Nat.reduceEqDiff, not_false_eq_true, e1, e2, e3, e4, decide_true, decide_false, decide_not, Bool.not_true, Bool.not_false]) ?_
  refine WC.skip ?_
  clear e1 e2 e3 e4 k1 k2 k3 k4 k5 k6 K2 K3 K4 K5 ha hb hc hla hlb hlc htri hle1 hle2
  have hvl : l.length ≤ 200 := by omega
  show WC _ _ _ _ _ _ _
  repeat with_reducible refine WC.seq ?_
  refine WC.region ?_
  refine WO.op rfl (by simp only [EV, LK, ne_eq, Nat.reduceEqDiff, not_false_eq_true]; rfl) rfl ?_
  refine WO.op rfl (by simp only [EV, LK, ne_eq, Nat.reduceEqDiff, not_false_eq_true]; rfl) rfl ?_
  refine WO.nil ?_
  show WC _ _ _ _ _ _ _
  repeat with_reducible refine WC.seq ?_
  refine WC.region ?_
  refine WO.op rfl (by simp only [EV, LK, ne_eq, Nat.reduceEqDiff, not_false_eq_true, hlv]; rfl) rfl ?_
  refine WO.op rfl (by simp only [EV, LK, ne_eq, Nat.reduceEqDiff, not_false_eq_true, hlv]; rfl) rfl ?_
  refine WO.op rfl (by simp only [EV, LK, ne_eq, Nat.reduceEqDiff, not_false_eq_true, hlv]; rfl) rfl ?_
  refine WO.nil ?_
  show WC _ _ _ _ _ _ _
  repeat with_reducible refine WC.seq ?_
  refine WC.loops (fun m t σ2 => ∃ i w u, m = l.length - i ∧ i ≤ l.length ∧ Since σ.size σ σ2 ∧ OVec (Value.int .i32) σ2 σ.size w (twice (l.take i)) ∧ OVec (Value.int .i32) σ2 σ.size u (back (l.take i)) ∧ (∀ b, blockOf w = some b → blockOf u ≠ some b) ∧ fits (l.take i)
      ∧ t 3 = v ∧ t 4 = w64 s ∧ t 5 = .int .i64 n ∧ t 13 = w ∧ t 14 = u ∧ t 75 = v ∧ t 76 = .int .i64 (l.length : Int) ∧ t 77 = .int .i64 (i : Int))
    (fun t σ2 => ∃ w u, Since σ.size σ σ2 ∧ OVec (Value.int .i32) σ2 σ.size w (twice l) ∧ OVec (Value.int .i32) σ2 σ.size u (back l) ∧ fits l ∧ t 3 = v ∧ t 4 = w64 s ∧ t 5 = .int .i64 n ∧ t 13 = w ∧ t 14 = u) l.length ?_ ?_ ?_
  · exact ⟨0, _, _, rfl, Nat.zero_le _, K6, OVec.nil _ _ _, OVec.nil _ _ _, fun b h => (by cases h), fun x hx => (by cases hx), (by simp only [LK, ne_eq, Nat.reduceEqDiff, not_false_eq_true]), (by simp only [LK, ne_eq, Nat.reduceEqDiff, not_false_eq_true]), (by simp only [LK, ne_eq, Nat.reduceEqDiff, not_false_eq_true]), (by simp only [LK, ne_eq, Nat.reduceEqDiff, not_false_eq_true]), (by simp only [LK, ne_eq, Nat.reduceEqDiff, not_false_eq_true]), (by simp only [LK, ne_eq, Nat.reduceEqDiff, not_false_eq_true]), (by simp only [LK, ne_eq, Nat.reduceEqDiff, not_false_eq_true]), (by simp only [LK, ne_eq, Nat.reduceEqDiff, not_false_eq_true]; rfl)⟩
  · rintro m t σ2 ⟨i, w, u, rfl, hi, hS, hW, hU, hwu, hf, t3, t4, t5, t13, t14, t75, t76, t77⟩
    by_cases hiN : i < l.length
    · have hq : decide ((i : Int) < (l.length : Int)) = true := decide_eq_true (by omega)
      show WC _ _ _ _ _ _ _
      repeat with_reducible refine WC.seq ?_
      refine WC.region ?_
      refine WO.op rfl (by simp only [EV, LK, AR, WR, ne_eq, Nat.reduceEqDiff, not_false_eq_true, t3, t4, t5, t13, t14, t75, t76, t77, hq]; rfl) rfl ?_
      refine WO.nil ?_
      show WC _ _ _ _ _ _ _
      repeat with_reducible refine WC.seq ?_
      refine WC.condT (by simp only [LK, ne_eq, Nat.reduceEqDiff, not_false_eq_true, t3, t4, t5, t13, t14, t75, t76, t77, decide_true, decide_false, decide_not, Bool.not_true, Bool.not_false]) ?_
      refine WC.skip ?_
      obtain ⟨p, hp1, _, hp2⟩ := (hv.keeps hS).elem Try.underlying22 sz21 ag21 (i := (i : Int)) (k := .i64) (by omega) (getD_some (by omega) 0)
      rw [Int.toNat_natCast] at hp2
      have hw : IntKind.i64.wrap ((i : Int) + 1) = ((i + 1 : Nat) : Int) := by rw [wrap_i64 (by omega) (by omega)]; omega
      show WC _ _ _ _ _ _ _
      repeat with_reducible refine WC.seq ?_
      refine WC.to (fun t' σ3 => ∃ w u, Since σ.size σ σ3 ∧ OVec (Value.int .i32) σ3 σ.size w (twice (l.take (i + 1))) ∧ OVec (Value.int .i32) σ3 σ.size u (back (l.take (i + 1))) ∧ (∀ b, blockOf w = some b → blockOf u ≠ some b) ∧ fits (l.take (i + 1))
        ∧ t' 3 = v ∧ t' 4 = w64 s ∧ t' 5 = .int .i64 n ∧ t' 13 = w ∧ t' 14 = u ∧ t' 75 = v ∧ t' 76 = .int .i64 (l.length : Int) ∧ t' 77 = .int .i64 (i : Int)) ?_ ?_
      · refine WC.block ?_
        show WC _ _ _ _ _ _ _
        repeat with_reducible refine WC.seq ?_
        refine WC.region ?_
        refine WO.op rfl (by simp only [EV, LK, ne_eq, Nat.reduceEqDiff, not_false_eq_true, t3, t4, t5, t13, t14, t75, t76, t77, hp1, hp2]; rfl) rfl ?_
        refine WO.op rfl (by simp only [EV, LK, ne_eq, Nat.reduceEqDiff, not_false_eq_true, t3, t4, t5, t13, t14, t75, t76, t77, hp1, hp2]; rfl) rfl ?_
        refine WO.op rfl (by simp only [EV, LK, ne_eq, Nat.reduceEqDiff, not_false_eq_true, t3, t4, t5, t13, t14, t75, t76, t77, hp1, hp2]; rfl) rfl ?_
        refine WO.nil ?_
        by_cases b1 : l.getD i 0 < -16777216
        · have z1 : decide (l.getD i 0 < -16777216) = true := decide_eq_true b1
          show WC _ _ _ _ _ _ _
          repeat with_reducible refine WC.seq ?_
          refine WC.region ?_
          refine WO.op rfl (by simp only [EV, LK, ne_eq, Nat.reduceEqDiff, not_false_eq_true, t3, t4, t5, t13, t14, t75, t76, t77, z1]; rfl) rfl ?_
          refine WO.op rfl (by simp only [EV, LK, AR, WR, ne_eq, Nat.reduceEqDiff, not_false_eq_true, t3, t4, t5, t13, t14, t75, t76, t77, z1]; rfl) rfl ?_
          refine WO.op rfl (by simp only [EV, LK, ne_eq, Nat.reduceEqDiff, not_false_eq_true, t3, t4, t5, t13, t14, t75, t76, t77, z1]; rfl) rfl ?_
          first | (refine WO.skip (out_f rfl rfl ?_) rfl ?_; focus (simp only [LK, ne_eq, Nat.reduceEqDiff, not_false_eq_true, t3, t4, t5, t13, t14, t75, t76, t77, z1]; done)) | refine WO.op (want_in rfl rfl (by simp only [LK, ne_eq, Nat.reduceEqDiff, not_false_eq_true, t3, t4, t5, t13, t14, t75, t76, t77, z1])) (by simp only [EV, LK, ne_eq, Nat.reduceEqDiff, not_false_eq_true, t3, t4, t5, t13, t14, t75, t76, t77, z1]; rfl) rfl ?_
          first | (refine WO.skip (out_f rfl rfl ?_) rfl ?_; focus (simp only [LK, ne_eq, Nat.reduceEqDiff, not_false_eq_true, t3, t4, t5, t13, t14, t75, t76, t77, z1]; done)) | refine WO.op (want_in rfl rfl (by simp only [LK, ne_eq, Nat.reduceEqDiff, not_false_eq_true, t3, t4, t5, t13, t14, t75, t76, t77, z1])) (by simp only [EV, LK, AR, WR, ne_eq, Nat.reduceEqDiff, not_false_eq_true, t3, t4, t5, t13, t14, t75, t76, t77, z1]; rfl) rfl ?_
          refine WO.op rfl (by simp only [EV, LK, ne_eq, Nat.reduceEqDiff, not_false_eq_true, t3, t4, t5, t13, t14, t75, t76, t77, z1]; rfl) rfl ?_
          refine WO.nil ?_
          show WC _ _ _ _ _ _ _
          repeat with_reducible refine WC.seq ?_
          refine WC.condT (by simp only [LK, ne_eq, Nat.reduceEqDiff, not_false_eq_true, t3, t4, t5, t13, t14, t75, t76, t77, decide_true, decide_false, decide_not, Bool.not_true, Bool.not_false]) ?_
          show WC _ _ _ _ _ _ _
          repeat with_reducible refine WC.seq ?_
          refine WC.region ?_
          refine WO.op rfl (by simp only [EV, LK, ne_eq, Nat.reduceEqDiff, not_false_eq_true, t3, t4, t5, t13, t14, t75, t76, t77]; rfl) rfl ?_
          refine WO.nil ?_
          exact .ret ⟨.inr rfl, [.bool true], rfl, rfl, hS⟩
        have z1 : decide (l.getD i 0 < -16777216) = false := decide_eq_false b1
        by_cases b2 : 16777216 < l.getD i 0
        · have z2 : decide (16777216 < l.getD i 0) = true := decide_eq_true b2
          show WC _ _ _ _ _ _ _
          repeat with_reducible refine WC.seq ?_
          refine WC.region ?_
          refine WO.op rfl (by simp only [EV, LK, ne_eq, Nat.reduceEqDiff, not_false_eq_true, t3, t4, t5, t13, t14, t75, t76, t77, z1, z2]; rfl) rfl ?_
          refine WO.op rfl (by simp only [EV, LK, AR, WR, ne_eq, Nat.reduceEqDiff, not_false_eq_true, t3, t4, t5, t13, t14, t75, t76, t77, z1, z2]; rfl) rfl ?_
          refine WO.op rfl (by simp only [EV, LK, ne_eq, Nat.reduceEqDiff, not_false_eq_true, t3, t4, t5, t13, t14, t75, t76, t77, z1, z2]; rfl) rfl ?_
          first | (refine WO.skip (out_f rfl rfl ?_) rfl ?_; focus (simp only [LK, ne_eq, Nat.reduceEqDiff, not_false_eq_true, t3, t4, t5, t13, t14, t75, t76, t77, z1, z2]; done)) | refine WO.op (want_in rfl rfl (by simp only [LK, ne_eq, Nat.reduceEqDiff, not_false_eq_true, t3, t4, t5, t13, t14, t75, t76, t77, z1, z2])) (by simp only [EV, LK, ne_eq, Nat.reduceEqDiff, not_false_eq_true, t3, t4, t5, t13, t14, t75, t76, t77, z1, z2]; rfl) rfl ?_
          first | (refine WO.skip (out_f rfl rfl ?_) rfl ?_; focus (simp only [LK, ne_eq, Nat.reduceEqDiff, not_false_eq_true, t3, t4, t5, t13, t14, t75, t76, t77, z1, z2]; done)) | refine WO.op (want_in rfl rfl (by simp only [LK, ne_eq, Nat.reduceEqDiff, not_false_eq_true, t3, t4, t5, t13, t14, t75, t76, t77, z1, z2])) (by simp only [EV, LK, AR, WR, ne_eq, Nat.reduceEqDiff, not_false_eq_true, t3, t4, t5, t13, t14, t75, t76, t77, z1, z2]; rfl) rfl ?_
          refine WO.op rfl (by simp only [EV, LK, ne_eq, Nat.reduceEqDiff, not_false_eq_true, t3, t4, t5, t13, t14, t75, t76, t77, z1, z2]; rfl) rfl ?_
          refine WO.nil ?_
          show WC _ _ _ _ _ _ _
          repeat with_reducible refine WC.seq ?_
          refine WC.condT (by simp only [LK, ne_eq, Nat.reduceEqDiff, not_false_eq_true, t3, t4, t5, t13, t14, t75, t76, t77, decide_true, decide_false, decide_not, Bool.not_true, Bool.not_false]) ?_
          show WC _ _ _ _ _ _ _
          repeat with_reducible refine WC.seq ?_
          refine WC.region ?_
          refine WO.op rfl (by simp only [EV, LK, ne_eq, Nat.reduceEqDiff, not_false_eq_true, t3, t4, t5, t13, t14, t75, t76, t77]; rfl) rfl ?_
          refine WO.nil ?_
          exact .ret ⟨.inr rfl, [.bool true], rfl, rfl, hS⟩
        have z2 : decide (16777216 < l.getD i 0) = false := decide_eq_false b2
        show WC _ _ _ _ _ _ _
        repeat with_reducible refine WC.seq ?_
        refine WC.region ?_
        refine WO.op rfl (by simp only [EV, LK, ne_eq, Nat.reduceEqDiff, not_false_eq_true, t3, t4, t5, t13, t14, t75, t76, t77, z1, z2]; rfl) rfl ?_
        refine WO.op rfl (by simp only [EV, LK, AR, WR, ne_eq, Nat.reduceEqDiff, not_false_eq_true, t3, t4, t5, t13, t14, t75, t76, t77, z1, z2]; rfl) rfl ?_
        refine WO.op rfl (by simp only [EV, LK, ne_eq, Nat.reduceEqDiff, not_false_eq_true, t3, t4, t5, t13, t14, t75, t76, t77, z1, z2]; rfl) rfl ?_
        first | (refine WO.skip (out_f rfl rfl ?_) rfl ?_; focus (simp only [LK, ne_eq, Nat.reduceEqDiff, not_false_eq_true, t3, t4, t5, t13, t14, t75, t76, t77, z1, z2]; done)) | refine WO.op (want_in rfl rfl (by simp only [LK, ne_eq, Nat.reduceEqDiff, not_false_eq_true, t3, t4, t5, t13, t14, t75, t76, t77, z1, z2])) (by simp only [EV, LK, ne_eq, Nat.reduceEqDiff, not_false_eq_true, t3, t4, t5, t13, t14, t75, t76, t77, z1, z2]; rfl) rfl ?_
        first | (refine WO.skip (out_f rfl rfl ?_) rfl ?_; focus (simp only [LK, ne_eq, Nat.reduceEqDiff, not_false_eq_true, t3, t4, t5, t13, t14, t75, t76, t77, z1, z2]; done)) | refine WO.op (want_in rfl rfl (by simp only [LK, ne_eq, Nat.reduceEqDiff, not_false_eq_true, t3, t4, t5, t13, t14, t75, t76, t77, z1, z2])) (by simp only [EV, LK, AR, WR, ne_eq, Nat.reduceEqDiff, not_false_eq_true, t3, t4, t5, t13, t14, t75, t76, t77, z1, z2]; rfl) rfl ?_
        refine WO.op rfl (by simp only [EV, LK, ne_eq, Nat.reduceEqDiff, not_false_eq_true, t3, t4, t5, t13, t14, t75, t76, t77, z1, z2]; rfl) rfl ?_
        refine WO.nil ?_
        show WC _ _ _ _ _ _ _
        repeat with_reducible refine WC.seq ?_
        refine WC.condF (by simp only [LK, ne_eq, Nat.reduceEqDiff, not_false_eq_true, t3, t4, t5, t13, t14, t75, t76, t77, decide_true, decide_false, decide_not, Bool.not_true, Bool.not_false]) ?_
        refine WC.skip ?_
        have m1 : IntKind.i32.wrap (2 * l.getD i 0) = 2 * l.getD i 0 := wrap_i32 (by omega) (by omega)
        have m2 : IntKind.i32.wrap (0 - l.getD i 0) = 0 - l.getD i 0 := wrap_i32 (by omega) (by omega)
        have hB := hS.size
        have hbs := hS.based hba
        -- twice
        obtain ⟨y, σ3, hb1, hy, hS3, hby⟩ := build1 (P := Try.prog) (enc := Value.int .i32) (t := 22) (Nat.le_refl _) Try.underlying22 et21 ze21 (x := 2 * l.getD i 0) rfl rfl (σ := σ2)
        have hB3 := Nat.le_trans hB hS3.size
        obtain ⟨w', σ4, hap, hW4, hS4, hfr4, hbl4⟩ := (hW.keeps hS3).append1 (P := Try.prog) (t := 22) hB3 (hS3.based hbs) hy Try.underlying22 et21 rfl (by simp [twice]; omega)
        have hU4 : OVec (Value.int .i32) σ4 σ.size u (back (l.take i)) := (hU.keeps hS3).other (fun b hb => hfr4 b (Nat.lt_of_lt_of_le (hU.vec.lt b hb) hS3.size) (fun h => hwu b h hb)) hS4.base
        have hwu4 : ∀ b, blockOf w' = some b → blockOf u ≠ some b := by
          intro b h1 h2
          rcases hbl4 with h | h
          · exact hwu b (by rw [← h]; exact h1) h2
          · rw [h] at h1
            have h3 := hU.vec.lt b h2
            have h4 := hS3.size
            have h5 := Option.some.inj h1
            omega
        have hS24 : Since σ.size σ σ4 := (hS.then' hS3).trans hS4
        show WC _ _ _ _ _ _ _
        repeat with_reducible refine WC.seq ?_
        refine WC.region ?_
        refine WO.op rfl (by simp only [EV, LK, ne_eq, Nat.reduceEqDiff, not_false_eq_true, t3, t4, t5, t13, t14, t75, t76, t77, m1, hb1, hap]; rfl) rfl ?_
        refine WO.op rfl (by simp only [EV, LK, ne_eq, Nat.reduceEqDiff, not_false_eq_true, t3, t4, t5, t13, t14, t75, t76, t77, m1, hb1, hap]; rfl) rfl ?_
        refine WO.op rfl (by simp only [EV, LK, AR, WR, ne_eq, Nat.reduceEqDiff, not_false_eq_true, t3, t4, t5, t13, t14, t75, t76, t77, m1, hb1, hap]; rfl) rfl ?_
        refine WO.op rfl (by simp only [EV, LK, ne_eq, Nat.reduceEqDiff, not_false_eq_true, t3, t4, t5, t13, t14, t75, t76, t77, m1, hb1, hap]; rfl) rfl ?_
        refine WO.op rfl (by simp only [EV, LK, ne_eq, Nat.reduceEqDiff, not_false_eq_true, t3, t4, t5, t13, t14, t75, t76, t77, m1, hb1, hap]; rfl) rfl ?_
        refine WO.op rfl (by simp only [EV, LK, ne_eq, Nat.reduceEqDiff, not_false_eq_true, t3, t4, t5, t13, t14, t75, t76, t77, m1, hb1, hap]; rfl) rfl ?_
        refine WO.nil ?_
        -- back
        obtain ⟨y5, σ5, hb5, hy5, hS5, hby5⟩ := build1 (P := Try.prog) (enc := Value.int .i32) (t := 22) (Nat.le_refl _) Try.underlying22 et21 ze21 (x := 0 - l.getD i 0) rfl rfl (σ := σ4)
        have hB5 := Nat.le_trans hS24.size hS5.size
        obtain ⟨u', σ6, hap6, hU6, hS6, hfr6, hbl6⟩ := (hU4.keeps hS5).append1 (P := Try.prog) (t := 22) hB5 (hS5.based (hS24.based hba)) hy5 Try.underlying22 et21 rfl (by simp [back]; omega)
        have hW6 : OVec (Value.int .i32) σ6 σ.size w' (twice (l.take i) ++ [2 * l.getD i 0]) := (hW4.keeps hS5).other (fun b hb => hfr6 b (Nat.lt_of_lt_of_le (hW4.vec.lt b hb) hS5.size) (fun h => hwu4 b hb h)) hS6.base
        show WC _ _ _ _ _ _ _
        repeat with_reducible refine WC.seq ?_
        refine WC.region ?_
        refine WO.op rfl (by simp only [EV, LK, ne_eq, Nat.reduceEqDiff, not_false_eq_true, t3, t4, t5, t13, t14, t75, t76, t77, m2, hb5, hap6]; rfl) rfl ?_
        refine WO.op rfl (by simp only [EV, LK, ne_eq, Nat.reduceEqDiff, not_false_eq_true, t3, t4, t5, t13, t14, t75, t76, t77, m2, hb5, hap6]; rfl) rfl ?_
        refine WO.op rfl (by simp only [EV, LK, AR, WR, ne_eq, Nat.reduceEqDiff, not_false_eq_true, t3, t4, t5, t13, t14, t75, t76, t77, m2, hb5, hap6]; rfl) rfl ?_
        refine WO.op rfl (by simp only [EV, LK, ne_eq, Nat.reduceEqDiff, not_false_eq_true, t3, t4, t5, t13, t14, t75, t76, t77, m2, hb5, hap6]; rfl) rfl ?_
        refine WO.op rfl (by simp only [EV, LK, ne_eq, Nat.reduceEqDiff, not_false_eq_true, t3, t4, t5, t13, t14, t75, t76, t77, m2, hb5, hap6]; rfl) rfl ?_
        refine WO.op rfl (by simp only [EV, LK, ne_eq, Nat.reduceEqDiff, not_false_eq_true, t3, t4, t5, t13, t14, t75, t76, t77, m2, hb5, hap6]; rfl) rfl ?_
        refine WO.nil ?_
        refine ⟨w', u', (hS24.trans (hS5.mono hS24.size)).trans hS6, ?_, ?_, ?_, ?_, (by simp only [LK, ne_eq, Nat.reduceEqDiff, not_false_eq_true, t3, t4, t5, t13, t14, t75, t76, t77]), (by simp only [LK, ne_eq, Nat.reduceEqDiff, not_false_eq_true, t3, t4, t5, t13, t14, t75, t76, t77]), (by simp only [LK, ne_eq, Nat.reduceEqDiff, not_false_eq_true, t3, t4, t5, t13, t14, t75, t76, t77]), (by simp only [LK, ne_eq, Nat.reduceEqDiff, not_false_eq_true, t3, t4, t5, t13, t14, t75, t76, t77]), (by simp only [LK, ne_eq, Nat.reduceEqDiff, not_false_eq_true, t3, t4, t5, t13, t14, t75, t76, t77]), (by simp only [LK, ne_eq, Nat.reduceEqDiff, not_false_eq_true, t3, t4, t5, t13, t14, t75, t76, t77]), (by simp only [LK, ne_eq, Nat.reduceEqDiff, not_false_eq_true, t3, t4, t5, t13, t14, t75, t76, t77]), (by simp only [LK, ne_eq, Nat.reduceEqDiff, not_false_eq_true, t3, t4, t5, t13, t14, t75, t76, t77])⟩
        · rw [take_next hiN, twice, List.map_append]; exact hW6
        · rw [take_next hiN, back, List.map_append]; exact hU6
        · intro b h1 h2
          rcases hbl6 with h | h
          · exact hwu4 b h1 (by rw [← h]; exact h2)
          · rw [h] at h2
            have h3 := hW4.vec.lt b h1
            have h4 := hS5.size
            have h5 := Option.some.inj h2
            omega
        · rw [take_next hiN]
          intro x hx
          rcases List.mem_append.1 hx with h | h
          · exact hf x h
          · have := List.mem_singleton.1 h
            omega
      · rintro t' σ3 ⟨w, u, hS3, hW3, hU3, hwu3, hf3, t3', t4', t5', t13', t14', t75', t76', t77'⟩
        show WC _ _ _ _ _ _ _
        repeat with_reducible refine WC.seq ?_
        refine WC.region ?_
        refine WO.op rfl (by simp only [EV, LK, AR, WR, ne_eq, Nat.reduceEqDiff, not_false_eq_true, t3', t4', t5', t13', t14', t75', t76', t77', hw]; rfl) rfl ?_
        refine WO.op rfl (by simp only [EV, LK, ne_eq, Nat.reduceEqDiff, not_false_eq_true, t3', t4', t5', t13', t14', t75', t76', t77', hw]; rfl) rfl ?_
        refine WO.nil ?_
        exact ⟨l.length - (i + 1), by omega, i + 1, w, u, rfl, by omega, hS3, hW3, hU3, hwu3, hf3, (by simp only [LK, ne_eq, Nat.reduceEqDiff, not_false_eq_true, t3', t4', t5', t13', t14', t75', t76', t77']), (by simp only [LK, ne_eq, Nat.reduceEqDiff, not_false_eq_true, t3', t4', t5', t13', t14', t75', t76', t77']), (by simp only [LK, ne_eq, Nat.reduceEqDiff, not_false_eq_true, t3', t4', t5', t13', t14', t75', t76', t77']), (by simp only [LK, ne_eq, Nat.reduceEqDiff, not_false_eq_true, t3', t4', t5', t13', t14', t75', t76', t77']), (by simp only [LK, ne_eq, Nat.reduceEqDiff, not_false_eq_true, t3', t4', t5', t13', t14', t75', t76', t77']), (by simp only [LK, ne_eq, Nat.reduceEqDiff, not_false_eq_true, t3', t4', t5', t13', t14', t75', t76', t77']), (by simp only [LK, ne_eq, Nat.reduceEqDiff, not_false_eq_true, t3', t4', t5', t13', t14', t75', t76', t77']), (by simp only [LK, ne_eq, Nat.reduceEqDiff, not_false_eq_true, t3', t4', t5', t13', t14', t75', t76', t77'])⟩
    · have hq : decide ((i : Int) < (l.length : Int)) = false := decide_eq_false (by omega)
      obtain rfl : i = l.length := by omega
      rw [List.take_length] at hW hU hf
      show WC _ _ _ _ _ _ _
      repeat with_reducible refine WC.seq ?_
      refine WC.region ?_
      refine WO.op rfl (by simp only [EV, LK, AR, WR, ne_eq, Nat.reduceEqDiff, not_false_eq_true, t3, t4, t5, t13, t14, t75, t76, t77, hq]; rfl) rfl ?_
      refine WO.nil ?_
      show WC _ _ _ _ _ _ _
      repeat with_reducible refine WC.seq ?_
      refine WC.condF (by simp only [LK, ne_eq, Nat.reduceEqDiff, not_false_eq_true, t3, t4, t5, t13, t14, t75, t76, t77, decide_true, decide_false, decide_not, Bool.not_true, Bool.not_false]) ?_
      exact .exit ⟨w, u, hS, hW, hU, hf, (by simp only [LK, ne_eq, Nat.reduceEqDiff, not_false_eq_true, t3, t4, t5, t13, t14, t75, t76, t77]), (by simp only [LK, ne_eq, Nat.reduceEqDiff, not_false_eq_true, t3, t4, t5, t13, t14, t75, t76, t77]), (by simp only [LK, ne_eq, Nat.reduceEqDiff, not_false_eq_true, t3, t4, t5, t13, t14, t75, t76, t77]), (by simp only [LK, ne_eq, Nat.reduceEqDiff, not_false_eq_true, t3, t4, t5, t13, t14, t75, t76, t77]), (by simp only [LK, ne_eq, Nat.reduceEqDiff, not_false_eq_true, t3, t4, t5, t13, t14, t75, t76, t77])⟩
  · rintro t σ2 ⟨w, u, hS, hW, hU, hf, t3, t4, t5, t13, t14⟩
    clear K6
    have hs0 : Small l := ⟨by omega, hr⟩
    have hs1 := small_twice hf (by omega)
    have hs2 := small_back hf (by omega)
    -- the three sketches
    show WC _ _ _ _ _ _ _
    repeat with_reducible refine WC.seq ?_
    refine WC.region ?_
    refine WO.op rfl (by simp only [EV, LK, ne_eq, Nat.reduceEqDiff, not_false_eq_true, t3, t4, t5]; rfl) rfl ?_
    refine WO.op rfl (by simp only [EV, LK, ne_eq, Nat.reduceEqDiff, not_false_eq_true, t3, t4, t5]; rfl) rfl ?_
    refine WO.op rfl (by simp only [EV, LK, ne_eq, Nat.reduceEqDiff, not_false_eq_true, t3, t4, t5]; rfl) rfl ?_
    refine WO.call rfl rfl (by simp only [LK, ne_eq, Nat.reduceEqDiff, not_false_eq_true, callee, List.map_cons, List.map_nil]; rfl) ((sk_ret (hv.keeps hS) hs0 s n (hS.based hba)).mono fun o1 s1 hR => ⟨_, rfl, ?_⟩)
    obtain ⟨h1, k1⟩ := hR
    have K1 := hS.then k1
    refine WO.op rfl (by simp only [EV, LK, ne_eq, Nat.reduceEqDiff, not_false_eq_true, t4, t5, t13]; rfl) rfl ?_
    refine WO.op rfl (by simp only [EV, LK, ne_eq, Nat.reduceEqDiff, not_false_eq_true, t4, t5, t13]; rfl) rfl ?_
    refine WO.op rfl (by simp only [EV, LK, ne_eq, Nat.reduceEqDiff, not_false_eq_true, t4, t5, t13]; rfl) rfl ?_
    refine WO.call rfl rfl (by simp only [LK, ne_eq, Nat.reduceEqDiff, not_false_eq_true, callee, List.map_cons, List.map_nil]; rfl) ((sk_ret (hW.vec.keeps k1) hs1 s n (K1.based hba)).mono fun o2 s2 hR => ⟨_, rfl, ?_⟩)
    obtain ⟨h2, k2⟩ := hR
    have K2 := K1.then k2
    refine WO.op rfl (by simp only [EV, LK, ne_eq, Nat.reduceEqDiff, not_false_eq_true, t4, t5, t14]; rfl) rfl ?_
    refine WO.op rfl (by simp only [EV, LK, ne_eq, Nat.reduceEqDiff, not_false_eq_true, t4, t5, t14]; rfl) rfl ?_
    refine WO.op rfl (by simp only [EV, LK, ne_eq, Nat.reduceEqDiff, not_false_eq_true, t4, t5, t14]; rfl) rfl ?_
    refine WO.call rfl rfl (by simp only [LK, ne_eq, Nat.reduceEqDiff, not_false_eq_true, callee, List.map_cons, List.map_nil]; rfl) ((sk_ret (hU.vec.keeps (k1.then k2)) hs2 s n (K2.based hba)).mono fun o3 s3 hR => ⟨_, rfl, ?_⟩)
    obtain ⟨h3, k3⟩ := hR
    have K3 := K2.then k3
    refine WO.op rfl (by simp only [EV, LK, ne_eq, Nat.reduceEqDiff, not_false_eq_true]; rfl) rfl ?_
    refine WO.op rfl (by simp only [EV, LK, ne_eq, Nat.reduceEqDiff, not_false_eq_true]; rfl) rfl ?_
    refine WO.op rfl (by simp only [EV, LK, ne_eq, Nat.reduceEqDiff, not_false_eq_true]; rfl) rfl ?_
    refine WO.nil ?_
    have h1 := h1.keeps (k2.then k3)
    have h2 := h2.keeps k3
    have e1 : decide (¬ (apart (sketchOf s l n) (sketchOf s (twice l) n) : Int) = 0) = false := decide_eq_false (by rw [sketch_twice]; decide)
    have e2 : decide (¬ (cnt (both (· ||| ·) (sketchOf s l n) (sketchOf s (back l) n)) : Int) = min (max n 0) 4096) = false := decide_eq_false (by rw [sketch_back, howMany_eq]; exact not_not_intro rfl)
    show WC _ _ _ _ _ _ _
    repeat with_reducible refine WC.seq ?_
    refine WC.region ?_
    refine WO.op rfl (by simp only [EV, LK, ne_eq, Nat.reduceEqDiff, not_false_eq_true, e1, e2, t3, t4, t5]; rfl) rfl ?_
    refine WO.op rfl (by simp only [EV, LK, ne_eq, Nat.reduceEqDiff, not_false_eq_true, e1, e2, t3, t4, t5]; rfl) rfl ?_
    refine WO.call rfl rfl (by simp only [LK, ne_eq, Nat.reduceEqDiff, not_false_eq_true, e1, e2, t3, t4, t5, callee, List.map_cons, List.map_nil]; rfl) ((apart_ret h1 h2 (K3.based hba)).mono fun o4 s4 hR => ⟨_, rfl, ?_⟩)
    obtain ⟨rfl, k4⟩ := hR
    have K4 := K3.then k4
    refine WO.op rfl (by simp only [EV, LK, AR, WR, ne_eq, Nat.reduceEqDiff, not_false_eq_true, e1, e2, t3, t4, t5]; rfl) rfl ?_
    refine WO.op rfl (by simp only [EV, LK, ne_eq, Nat.reduceEqDiff, not_false_eq_true, e1, e2, t3, t4, t5]; rfl) rfl ?_
    first | (refine WO.skip (out_f rfl rfl ?_) rfl ?_; focus (simp only [LK, ne_eq, Nat.reduceEqDiff, not_false_eq_true, e1, e2, t3, t4, t5]; done)) | refine WO.op (want_in rfl rfl (by simp only [LK, ne_eq, Nat.reduceEqDiff, not_false_eq_true, e1, e2, t3, t4, t5])) (by simp only [EV, LK, ne_eq, Nat.reduceEqDiff, not_false_eq_true, e1, e2, t3, t4, t5]; rfl) rfl ?_
    first | (refine WO.skip (out_f rfl rfl ?_) rfl ?_; focus (simp only [LK, ne_eq, Nat.reduceEqDiff, not_false_eq_true, e1, e2, t3, t4, t5]; done)) | refine WO.op (want_in rfl rfl (by simp only [LK, ne_eq, Nat.reduceEqDiff, not_false_eq_true, e1, e2, t3, t4, t5])) (by simp only [EV, LK, ne_eq, Nat.reduceEqDiff, not_false_eq_true, e1, e2, t3, t4, t5]; rfl) rfl ?_
    refine WO.call (want_in rfl rfl (by simp only [LK, ne_eq, Nat.reduceEqDiff, not_false_eq_true, e1, e2, t3, t4, t5])) rfl (by simp only [LK, ne_eq, Nat.reduceEqDiff, not_false_eq_true, e1, e2, t3, t4, t5, callee, List.map_cons, List.map_nil]; rfl) ((union_ret (h1.keeps k4) (h3.keeps k4) (K4.based hba)).mono fun o5 s5 hR => ⟨_, rfl, ?_⟩)
    obtain ⟨h5, k5⟩ := hR
    have K5 := K4.then k5
    refine WO.call (want_in rfl rfl (by simp only [LK, ne_eq, Nat.reduceEqDiff, not_false_eq_true, e1, e2, t3, t4, t5])) rfl (by simp only [LK, ne_eq, Nat.reduceEqDiff, not_false_eq_true, e1, e2, t3, t4, t5, callee, List.map_cons, List.map_nil]; rfl) ((count_ret h5).mono fun o6 s5 hR => ⟨_, rfl, ?_⟩)
    obtain ⟨rfl, rfl⟩ := hR
    first | (refine WO.skip (out_f rfl rfl ?_) rfl ?_; focus (simp only [LK, ne_eq, Nat.reduceEqDiff, not_false_eq_true, e1, e2, t3, t4, t5]; done)) | refine WO.op (want_in rfl rfl (by simp only [LK, ne_eq, Nat.reduceEqDiff, not_false_eq_true, e1, e2, t3, t4, t5])) (by simp only [EV, LK, ne_eq, Nat.reduceEqDiff, not_false_eq_true, e1, e2, t3, t4, t5]; rfl) rfl ?_
    first | (refine WO.skip (out_f rfl rfl ?_) rfl ?_; focus (simp only [LK, ne_eq, Nat.reduceEqDiff, not_false_eq_true, e1, e2, t3, t4, t5]; done)) | refine WO.op (want_in rfl rfl (by simp only [LK, ne_eq, Nat.reduceEqDiff, not_false_eq_true, e1, e2, t3, t4, t5])) (by simp only [EV, LK, AR, WR, ne_eq, Nat.reduceEqDiff, not_false_eq_true, e1, e2, t3, t4, t5]; rfl) rfl ?_
    first | (refine WO.skip (out_f rfl rfl ?_) rfl ?_; focus (simp only [LK, ne_eq, Nat.reduceEqDiff, not_false_eq_true, e1, e2, t3, t4, t5]; done)) | refine WO.op (want_in rfl rfl (by simp only [LK, ne_eq, Nat.reduceEqDiff, not_false_eq_true, e1, e2, t3, t4, t5])) (by simp only [EV, LK, AR, WR, ne_eq, Nat.reduceEqDiff, not_false_eq_true, e1, e2, t3, t4, t5]; rfl) rfl ?_
    first | (refine WO.skip (out_f rfl rfl ?_) rfl ?_; focus (simp only [LK, ne_eq, Nat.reduceEqDiff, not_false_eq_true, e1, e2, t3, t4, t5]; done)) | refine WO.op (want_in rfl rfl (by simp only [LK, ne_eq, Nat.reduceEqDiff, not_false_eq_true, e1, e2, t3, t4, t5])) (by simp only [EV, LK, AR, WR, ne_eq, Nat.reduceEqDiff, not_false_eq_true, e1, e2, t3, t4, t5]; rfl) rfl ?_
    refine WO.op rfl (by simp only [EV, LK, ne_eq, Nat.reduceEqDiff, not_false_eq_true, e1, e2, t3, t4, t5]; rfl) rfl ?_
    refine WO.nil ?_
    show WC _ _ _ _ _ _ _
    repeat with_reducible refine WC.seq ?_
    refine WC.condF (by simp only [LK, ne_eq, Nat.reduceEqDiff, not_false_eq_true, e1, e2, t3, t4, t5, decide_true, decide_false, decide_not, Bool.not_true, Bool.not_false]) ?_
    refine WC.skip ?_
    have h1 := h1.keeps (k4.then k5)
    clear h5 h3 h2 k1 k2 k3 k4 k5 K1 K2 K3 K4 hW hU hS e1 e2
    obtain ⟨N, hN⟩ : ∃ N : Nat, (N : Int) = max n 0 := ⟨(max n 0).toNat, by omega⟩
    show WC _ _ _ _ _ _ _
    repeat with_reducible refine WC.seq ?_
    refine WC.region ?_
    refine WO.op rfl (by simp only [EV, LK, ne_eq, Nat.reduceEqDiff, not_false_eq_true, t3, t4, t5, hN.symm]; rfl) rfl ?_
    refine WO.op rfl (by simp only [EV, LK, AR, WR, ne_eq, Nat.reduceEqDiff, not_false_eq_true, t3, t4, t5, hN.symm]; rfl) rfl ?_
    refine WO.op rfl (by simp only [EV, LK, ne_eq, Nat.reduceEqDiff, not_false_eq_true, t3, t4, t5, hN.symm]; rfl) rfl ?_
    refine WO.nil ?_
    show WC _ _ _ _ _ _ _
    repeat with_reducible refine WC.seq ?_
    refine WC.loops (fun m t σ2 => ∃ p, m = N - p ∧ p ≤ N ∧ σ2 = s5 ∧ t 3 = v ∧ t 4 = w64 s ∧ t 5 = .int .i64 n ∧ t 17 = o1 ∧ t 125 = .int .i64 (N : Int) ∧ t 126 = .int .i64 (p : Int)) (fun t σ2 => σ2 = s5 ∧ t 3 = v ∧ t 4 = w64 s ∧ t 5 = .int .i64 n ∧ t 17 = o1) N ?_ ?_ ?_
    · exact ⟨0, rfl, Nat.zero_le _, rfl, (by simp only [LK, ne_eq, Nat.reduceEqDiff, not_false_eq_true, t3, t4, t5]), (by simp only [LK, ne_eq, Nat.reduceEqDiff, not_false_eq_true, t3, t4, t5]), (by simp only [LK, ne_eq, Nat.reduceEqDiff, not_false_eq_true, t3, t4, t5]), (by simp only [LK, ne_eq, Nat.reduceEqDiff, not_false_eq_true, t3, t4, t5]), (by simp only [LK, ne_eq, Nat.reduceEqDiff, not_false_eq_true, t3, t4, t5]), (by simp only [LK, ne_eq, Nat.reduceEqDiff, not_false_eq_true, t3, t4, t5]; rfl)⟩
    · rintro m t s5 ⟨p, rfl, hp, rfl, t3, t4, t5, t17, t125, t126⟩
      by_cases hpN : p < N
      · have hq : decide ((p : Int) < (N : Int)) = true := decide_eq_true (by omega)
        have hw : IntKind.i64.wrap ((p : Int) + 1) = ((p + 1 : Nat) : Int) := by rw [wrap_i64 (by omega) (by omega)]; omega
        show WC _ _ _ _ _ _ _
        repeat with_reducible refine WC.seq ?_
        refine WC.region ?_
        refine WO.op rfl (by simp only [EV, LK, AR, WR, ne_eq, Nat.reduceEqDiff, not_false_eq_true, t3, t4, t5, t17, t125, t126, hq]; rfl) rfl ?_
        refine WO.nil ?_
        show WC _ _ _ _ _ _ _
        repeat with_reducible refine WC.seq ?_
        refine WC.condT (by simp only [LK, ne_eq, Nat.reduceEqDiff, not_false_eq_true, t3, t4, t5, t17, t125, t126, decide_true, decide_false, decide_not, Bool.not_true, Bool.not_false]) ?_
        refine WC.skip ?_
        show WC _ _ _ _ _ _ _
        repeat with_reducible refine WC.seq ?_
        refine WC.to (fun t' σ2 => σ2 = s5 ∧ t' 3 = v ∧ t' 4 = w64 s ∧ t' 5 = .int .i64 n ∧ t' 17 = o1 ∧ t' 125 = .int .i64 (N : Int) ∧ t' 126 = .int .i64 (p : Int)) ?_ ?_
        · refine WC.block ?_
          show WC _ _ _ _ _ _ _
          repeat with_reducible refine WC.seq ?_
          refine WC.region ?_
          refine WO.op rfl (by simp only [EV, LK, ne_eq, Nat.reduceEqDiff, not_false_eq_true, t3, t4, t5, t17, t125, t126]; rfl) rfl ?_
          refine WO.op rfl (by simp only [EV, LK, ne_eq, Nat.reduceEqDiff, not_false_eq_true, t3, t4, t5, t17, t125, t126]; rfl) rfl ?_
          refine WO.nil ?_
          show WC _ _ _ _ _ _ _
          repeat with_reducible refine WC.seq ?_
          refine WC.region ?_
          refine WO.op rfl (by simp only [EV, LK, ne_eq, Nat.reduceEqDiff, not_false_eq_true, t3, t4, t5, t17, t125, t126]; rfl) rfl ?_
          refine WO.nil ?_
          show WC _ _ _ _ _ _ _
          repeat with_reducible refine WC.seq ?_
          refine WC.region ?_
          refine WO.op rfl (by simp only [EV, LK, ne_eq, Nat.reduceEqDiff, not_false_eq_true, t3, t4, t5, t17, t125, t126, hlv]; rfl) rfl ?_
          refine WO.op rfl (by simp only [EV, LK, ne_eq, Nat.reduceEqDiff, not_false_eq_true, t3, t4, t5, t17, t125, t126, hlv]; rfl) rfl ?_
          refine WO.op rfl (by simp only [EV, LK, ne_eq, Nat.reduceEqDiff, not_false_eq_true, t3, t4, t5, t17, t125, t126, hlv]; rfl) rfl ?_
          refine WO.nil ?_
          show WC _ _ _ _ _ _ _
          repeat with_reducible refine WC.seq ?_
          refine WC.loops (fun m t σ2 => ∃ i, m = l.length - i ∧ i ≤ l.length ∧ σ2 = s5 ∧ t 3 = v ∧ t 4 = w64 s ∧ t 5 = .int .i64 n ∧ t 17 = o1 ∧ t 20 = .int .i64 (p : Int) ∧ t 21 = .int .i64 (sumS s (p : Int) l i) ∧ t 125 = .int .i64 (N : Int) ∧ t 126 = .int .i64 (p : Int) ∧ t 129 = v ∧ t 130 = .int .i64 (l.length : Int) ∧ t 131 = .int .i64 (i : Int))
            (fun t σ2 => σ2 = s5 ∧ t 3 = v ∧ t 4 = w64 s ∧ t 5 = .int .i64 n ∧ t 17 = o1 ∧ t 20 = .int .i64 (p : Int) ∧ t 21 = .int .i64 (sumS s (p : Int) l l.length) ∧ t 125 = .int .i64 (N : Int) ∧ t 126 = .int .i64 (p : Int)) l.length ?_ ?_ ?_
          · exact ⟨0, rfl, Nat.zero_le _, rfl, (by simp only [LK, ne_eq, Nat.reduceEqDiff, not_false_eq_true, t3, t4, t5, t17, t125, t126]), (by simp only [LK, ne_eq, Nat.reduceEqDiff, not_false_eq_true, t3, t4, t5, t17, t125, t126]), (by simp only [LK, ne_eq, Nat.reduceEqDiff, not_false_eq_true, t3, t4, t5, t17, t125, t126]), (by simp only [LK, ne_eq, Nat.reduceEqDiff, not_false_eq_true, t3, t4, t5, t17, t125, t126]), (by simp only [LK, ne_eq, Nat.reduceEqDiff, not_false_eq_true, t3, t4, t5, t17, t125, t126]), (by simp only [LK, ne_eq, Nat.reduceEqDiff, not_false_eq_true, t3, t4, t5, t17, t125, t126]; rfl), (by simp only [LK, ne_eq, Nat.reduceEqDiff, not_false_eq_true, t3, t4, t5, t17, t125, t126]), (by simp only [LK, ne_eq, Nat.reduceEqDiff, not_false_eq_true, t3, t4, t5, t17, t125, t126]), (by simp only [LK, ne_eq, Nat.reduceEqDiff, not_false_eq_true, t3, t4, t5, t17, t125, t126]), (by simp only [LK, ne_eq, Nat.reduceEqDiff, not_false_eq_true, t3, t4, t5, t17, t125, t126]), (by simp only [LK, ne_eq, Nat.reduceEqDiff, not_false_eq_true, t3, t4, t5, t17, t125, t126]; rfl)⟩
          · rintro m t s5 ⟨i, rfl, hi, rfl, t3, t4, t5, t17, t20, t21, t125, t126, t129, t130, t131⟩
            by_cases hiN : i < l.length
            · have hq : decide ((i : Int) < (l.length : Int)) = true := decide_eq_true (by omega)
              have hw : IntKind.i64.wrap ((i : Int) + 1) = ((i + 1 : Nat) : Int) := by rw [wrap_i64 (by omega) (by omega)]; omega
              obtain ⟨q, hp1, _, hp2⟩ := (hv.keeps K5).elem Try.underlying22 sz21 ag21 (i := (i : Int)) (k := .i64) (by omega) (getD_some (by omega) 0)
              rw [Int.toNat_natCast] at hp2
              have hx := hs0.getD i
              have hbd := sumN_bd hs0 s (p : Int) (i + 1)
              have hcv : IntKind.i64.wrap (l.getD i 0) = l.getD i 0 := wrap_i64 (by omega) (by omega)
              have hsg : signOf s (p : Int) (i : Int) = -1 ∨ signOf s (p : Int) (i : Int) = 1 := by
                rw [signOf_eq s _ _ (by omega) (by omega)]
                split
                · exact .inl rfl
                · exact .inr rfl
              have hmul : IntKind.i64.wrap (signOf s (p : Int) (i : Int) * l.getD i 0) = signOf s (p : Int) (i : Int) * l.getD i 0 := by
                rcases hsg with h | h <;> rw [h] <;> exact wrap_i64 (by omega) (by omega)
              have hadd : IntKind.i64.wrap (sumS s (p : Int) l i + signOf s (p : Int) (i : Int) * l.getD i 0) = sumS s (p : Int) l (i + 1) := by
                rw [← sumS_eq s _ (by omega), sumS] at hbd
                rw [wrap_i64 (by omega) (by omega), sumS]
              show WC _ _ _ _ _ _ _
              repeat with_reducible refine WC.seq ?_
              refine WC.region ?_
              refine WO.op rfl (by simp only [EV, LK, AR, WR, ne_eq, Nat.reduceEqDiff, not_false_eq_true, t3, t4, t5, t17, t20, t21, t125, t126, t129, t130, t131, hq]; rfl) rfl ?_
              refine WO.nil ?_
              show WC _ _ _ _ _ _ _
              repeat with_reducible refine WC.seq ?_
              refine WC.condT (by simp only [LK, ne_eq, Nat.reduceEqDiff, not_false_eq_true, t3, t4, t5, t17, t20, t21, t125, t126, t129, t130, t131, decide_true, decide_false, decide_not, Bool.not_true, Bool.not_false]) ?_
              refine WC.skip ?_
              show WC _ _ _ _ _ _ _
              repeat with_reducible refine WC.seq ?_
              refine WC.block ?_
              show WC _ _ _ _ _ _ _
              repeat with_reducible refine WC.seq ?_
              refine WC.region ?_
              refine WO.op rfl (by simp only [EV, LK, ne_eq, Nat.reduceEqDiff, not_false_eq_true, t3, t4, t5, t17, t20, t21, t125, t126, t129, t130, t131, hp1, hp2]; rfl) rfl ?_
              refine WO.op rfl (by simp only [EV, LK, ne_eq, Nat.reduceEqDiff, not_false_eq_true, t3, t4, t5, t17, t20, t21, t125, t126, t129, t130, t131, hp1, hp2]; rfl) rfl ?_
              refine WO.op rfl (by simp only [EV, LK, ne_eq, Nat.reduceEqDiff, not_false_eq_true, t3, t4, t5, t17, t20, t21, t125, t126, t129, t130, t131, hp1, hp2]; rfl) rfl ?_
              refine WO.op rfl (by simp only [EV, LK, ne_eq, Nat.reduceEqDiff, not_false_eq_true, t3, t4, t5, t17, t20, t21, t125, t126, t129, t130, t131, hp1, hp2]; rfl) rfl ?_
              refine WO.op rfl (by simp only [EV, LK, ne_eq, Nat.reduceEqDiff, not_false_eq_true, t3, t4, t5, t17, t20, t21, t125, t126, t129, t130, t131, hp1, hp2]; rfl) rfl ?_
              refine WO.nil ?_
              show WC _ _ _ _ _ _ _
              repeat with_reducible refine WC.seq ?_
              refine WC.region ?_
              refine WO.op rfl (by simp only [EV, LK, ne_eq, Nat.reduceEqDiff, not_false_eq_true, t3, t4, t5, t17, t20, t21, t125, t126, t129, t130, t131]; rfl) rfl ?_
              refine WO.op rfl (by simp only [EV, LK, ne_eq, Nat.reduceEqDiff, not_false_eq_true, t3, t4, t5, t17, t20, t21, t125, t126, t129, t130, t131]; rfl) rfl ?_
              refine WO.op rfl (by simp only [EV, LK, ne_eq, Nat.reduceEqDiff, not_false_eq_true, t3, t4, t5, t17, t20, t21, t125, t126, t129, t130, t131]; rfl) rfl ?_
              refine WO.call rfl rfl (by simp only [LK, ne_eq, Nat.reduceEqDiff, not_false_eq_true, t3, t4, t5, t17, t20, t21, t125, t126, t129, t130, t131, callee, List.map_cons, List.map_nil]; rfl) ((sign_ret _ _ _ _).mono fun v7 s5 hR => ⟨_, rfl, ?_⟩)
              obtain ⟨rfl, rfl⟩ := hR
              refine WO.op rfl (by simp only [EV, LK, ne_eq, Nat.reduceEqDiff, not_false_eq_true, t3, t4, t5, t17, t20, t21, t125, t126, t129, t130, t131]; rfl) rfl ?_
              refine WO.nil ?_
              have hk : (decide (¬ signOf s (p : Int) (i : Int) = 1) = false) ∨ (decide (¬ signOf s (p : Int) (i : Int) = 1) = true ∧ decide (¬ signOf s (p : Int) (i : Int) = -1) = false) := by
                rcases hsg with h | h <;> rw [h] <;> decide
              refine WC.seq (WC.to (fun t' σ2 => σ2 = s5 ∧ t' 3 = v ∧ t' 4 = w64 s ∧ t' 5 = .int .i64 n ∧ t' 17 = o1 ∧ t' 20 = .int .i64 (p : Int) ∧ t' 21 = .int .i64 (sumS s (p : Int) l i) ∧ t' 23 = .int .i32 (l.getD i 0) ∧ t' 24 = .int .i64 (signOf s (p : Int) (i : Int)) ∧ t' 125 = .int .i64 (N : Int) ∧ t' 126 = .int .i64 (p : Int) ∧ t' 129 = v ∧ t' 130 = .int .i64 (l.length : Int) ∧ t' 131 = .int .i64 (i : Int)) ?_ ?_)
              · rcases hk with k1 | ⟨k1, k2⟩
                · show WC _ _ _ _ _ _ _
                  repeat with_reducible refine WC.seq ?_
                  refine WC.region ?_
                  refine WO.op rfl (by simp only [EV, LK, ne_eq, Nat.reduceEqDiff, not_false_eq_true, t3, t4, t5, t17, t20, t21, t125, t126, t129, t130, t131, k1]; rfl) rfl ?_
                  refine WO.op rfl (by simp only [EV, LK, AR, WR, ne_eq, Nat.reduceEqDiff, not_false_eq_true, t3, t4, t5, t17, t20, t21, t125, t126, t129, t130, t131, k1]; rfl) rfl ?_
                  refine WO.op rfl (by simp only [EV, LK, ne_eq, Nat.reduceEqDiff, not_false_eq_true, t3, t4, t5, t17, t20, t21, t125, t126, t129, t130, t131, k1]; rfl) rfl ?_
                  first | (refine WO.skip (out_t rfl rfl ?_) rfl ?_; focus (simp only [LK, ne_eq, Nat.reduceEqDiff, not_false_eq_true, t3, t4, t5, t17, t20, t21, t125, t126, t129, t130, t131, k1]; done)) | refine WO.op (want_in rfl rfl (by simp only [LK, ne_eq, Nat.reduceEqDiff, not_false_eq_true, t3, t4, t5, t17, t20, t21, t125, t126, t129, t130, t131, k1])) (by simp only [EV, LK, ne_eq, Nat.reduceEqDiff, not_false_eq_true, t3, t4, t5, t17, t20, t21, t125, t126, t129, t130, t131, k1]; rfl) rfl ?_
                  first | (refine WO.skip (out_t rfl rfl ?_) rfl ?_; focus (simp only [LK, ne_eq, Nat.reduceEqDiff, not_false_eq_true, t3, t4, t5, t17, t20, t21, t125, t126, t129, t130, t131, k1]; done)) | refine WO.op (want_in rfl rfl (by simp only [LK, ne_eq, Nat.reduceEqDiff, not_false_eq_true, t3, t4, t5, t17, t20, t21, t125, t126, t129, t130, t131, k1])) (by simp only [EV, LK, AR, WR, ne_eq, Nat.reduceEqDiff, not_false_eq_true, t3, t4, t5, t17, t20, t21, t125, t126, t129, t130, t131, k1]; rfl) rfl ?_
                  refine WO.op rfl (by simp only [EV, LK, ne_eq, Nat.reduceEqDiff, not_false_eq_true, t3, t4, t5, t17, t20, t21, t125, t126, t129, t130, t131, k1]; rfl) rfl ?_
                  refine WO.nil ?_
                  show WC _ _ _ _ _ _ _
                  repeat with_reducible refine WC.seq ?_
                  refine WC.condF (by simp only [LK, ne_eq, Nat.reduceEqDiff, not_false_eq_true, t3, t4, t5, t17, t20, t21, t125, t126, t129, t130, t131, decide_true, decide_false, decide_not, Bool.not_true, Bool.not_false]) ?_
                  exact WC.skip ⟨rfl, (by simp only [LK, ne_eq, Nat.reduceEqDiff, not_false_eq_true, t3, t4, t5, t17, t20, t21, t125, t126, t129, t130, t131]), (by simp only [LK, ne_eq, Nat.reduceEqDiff, not_false_eq_true, t3, t4, t5, t17, t20, t21, t125, t126, t129, t130, t131]), (by simp only [LK, ne_eq, Nat.reduceEqDiff, not_false_eq_true, t3, t4, t5, t17, t20, t21, t125, t126, t129, t130, t131]), (by simp only [LK, ne_eq, Nat.reduceEqDiff, not_false_eq_true, t3, t4, t5, t17, t20, t21, t125, t126, t129, t130, t131]), (by simp only [LK, ne_eq, Nat.reduceEqDiff, not_false_eq_true, t3, t4, t5, t17, t20, t21, t125, t126, t129, t130, t131]), (by simp only [LK, ne_eq, Nat.reduceEqDiff, not_false_eq_true, t3, t4, t5, t17, t20, t21, t125, t126, t129, t130, t131]), (by simp only [LK, ne_eq, Nat.reduceEqDiff, not_false_eq_true, t3, t4, t5, t17, t20, t21, t125, t126, t129, t130, t131]), (by simp only [LK, ne_eq, Nat.reduceEqDiff, not_false_eq_true, t3, t4, t5, t17, t20, t21, t125, t126, t129, t130, t131]), (by simp only [LK, ne_eq, Nat.reduceEqDiff, not_false_eq_true, t3, t4, t5, t17, t20, t21, t125, t126, t129, t130, t131]), (by simp only [LK, ne_eq, Nat.reduceEqDiff, not_false_eq_true, t3, t4, t5, t17, t20, t21, t125, t126, t129, t130, t131]), (by simp only [LK, ne_eq, Nat.reduceEqDiff, not_false_eq_true, t3, t4, t5, t17, t20, t21, t125, t126, t129, t130, t131]), (by simp only [LK, ne_eq, Nat.reduceEqDiff, not_false_eq_true, t3, t4, t5, t17, t20, t21, t125, t126, t129, t130, t131]), (by simp only [LK, ne_eq, Nat.reduceEqDiff, not_false_eq_true, t3, t4, t5, t17, t20, t21, t125, t126, t129, t130, t131])⟩
                · show WC _ _ _ _ _ _ _
                  repeat with_reducible refine WC.seq ?_
                  refine WC.region ?_
                  refine WO.op rfl (by simp only [EV, LK, ne_eq, Nat.reduceEqDiff, not_false_eq_true, t3, t4, t5, t17, t20, t21, t125, t126, t129, t130, t131, k1, k2]; rfl) rfl ?_
                  refine WO.op rfl (by simp only [EV, LK, AR, WR, ne_eq, Nat.reduceEqDiff, not_false_eq_true, t3, t4, t5, t17, t20, t21, t125, t126, t129, t130, t131, k1, k2]; rfl) rfl ?_
                  refine WO.op rfl (by simp only [EV, LK, ne_eq, Nat.reduceEqDiff, not_false_eq_true, t3, t4, t5, t17, t20, t21, t125, t126, t129, t130, t131, k1, k2]; rfl) rfl ?_
                  first | (refine WO.skip (out_t rfl rfl ?_) rfl ?_; focus (simp only [LK, ne_eq, Nat.reduceEqDiff, not_false_eq_true, t3, t4, t5, t17, t20, t21, t125, t126, t129, t130, t131, k1, k2]; done)) | refine WO.op (want_in rfl rfl (by simp only [LK, ne_eq, Nat.reduceEqDiff, not_false_eq_true, t3, t4, t5, t17, t20, t21, t125, t126, t129, t130, t131, k1, k2])) (by simp only [EV, LK, ne_eq, Nat.reduceEqDiff, not_false_eq_true, t3, t4, t5, t17, t20, t21, t125, t126, t129, t130, t131, k1, k2]; rfl) rfl ?_
                  first | (refine WO.skip (out_t rfl rfl ?_) rfl ?_; focus (simp only [LK, ne_eq, Nat.reduceEqDiff, not_false_eq_true, t3, t4, t5, t17, t20, t21, t125, t126, t129, t130, t131, k1, k2]; done)) | refine WO.op (want_in rfl rfl (by simp only [LK, ne_eq, Nat.reduceEqDiff, not_false_eq_true, t3, t4, t5, t17, t20, t21, t125, t126, t129, t130, t131, k1, k2])) (by simp only [EV, LK, AR, WR, ne_eq, Nat.reduceEqDiff, not_false_eq_true, t3, t4, t5, t17, t20, t21, t125, t126, t129, t130, t131, k1, k2]; rfl) rfl ?_
                  refine WO.op rfl (by simp only [EV, LK, ne_eq, Nat.reduceEqDiff, not_false_eq_true, t3, t4, t5, t17, t20, t21, t125, t126, t129, t130, t131, k1, k2]; rfl) rfl ?_
                  refine WO.nil ?_
                  show WC _ _ _ _ _ _ _
                  repeat with_reducible refine WC.seq ?_
                  refine WC.condF (by simp only [LK, ne_eq, Nat.reduceEqDiff, not_false_eq_true, t3, t4, t5, t17, t20, t21, t125, t126, t129, t130, t131, decide_true, decide_false, decide_not, Bool.not_true, Bool.not_false]) ?_
                  exact WC.skip ⟨rfl, (by simp only [LK, ne_eq, Nat.reduceEqDiff, not_false_eq_true, t3, t4, t5, t17, t20, t21, t125, t126, t129, t130, t131]), (by simp only [LK, ne_eq, Nat.reduceEqDiff, not_false_eq_true, t3, t4, t5, t17, t20, t21, t125, t126, t129, t130, t131]), (by simp only [LK, ne_eq, Nat.reduceEqDiff, not_false_eq_true, t3, t4, t5, t17, t20, t21, t125, t126, t129, t130, t131]), (by simp only [LK, ne_eq, Nat.reduceEqDiff, not_false_eq_true, t3, t4, t5, t17, t20, t21, t125, t126, t129, t130, t131]), (by simp only [LK, ne_eq, Nat.reduceEqDiff, not_false_eq_true, t3, t4, t5, t17, t20, t21, t125, t126, t129, t130, t131]), (by simp only [LK, ne_eq, Nat.reduceEqDiff, not_false_eq_true, t3, t4, t5, t17, t20, t21, t125, t126, t129, t130, t131]), (by simp only [LK, ne_eq, Nat.reduceEqDiff, not_false_eq_true, t3, t4, t5, t17, t20, t21, t125, t126, t129, t130, t131]), (by simp only [LK, ne_eq, Nat.reduceEqDiff, not_false_eq_true, t3, t4, t5, t17, t20, t21, t125, t126, t129, t130, t131]), (by simp only [LK, ne_eq, Nat.reduceEqDiff, not_false_eq_true, t3, t4, t5, t17, t20, t21, t125, t126, t129, t130, t131]), (by simp only [LK, ne_eq, Nat.reduceEqDiff, not_false_eq_true, t3, t4, t5, t17, t20, t21, t125, t126, t129, t130, t131]), (by simp only [LK, ne_eq, Nat.reduceEqDiff, not_false_eq_true, t3, t4, t5, t17, t20, t21, t125, t126, t129, t130, t131]), (by simp only [LK, ne_eq, Nat.reduceEqDiff, not_false_eq_true, t3, t4, t5, t17, t20, t21, t125, t126, t129, t130, t131]), (by simp only [LK, ne_eq, Nat.reduceEqDiff, not_false_eq_true, t3, t4, t5, t17, t20, t21, t125, t126, t129, t130, t131])⟩
              · rintro t' s5 ⟨rfl, t3', t4', t5', t17', t20', t21', t23', t24', t125', t126', t129', t130', t131'⟩
                show WC _ _ _ _ _ _ _
                repeat with_reducible refine WC.seq ?_
                refine WC.region ?_
                refine WO.op rfl (by simp only [EV, LK, ne_eq, Nat.reduceEqDiff, not_false_eq_true, t3', t4', t5', t17', t20', t21', t23', t24', t125', t126', t129', t130', t131', conv_int Try.underlying21 Try.underlying3, hcv, hmul, hadd]; rfl) rfl ?_
                refine WO.op rfl (by simp only [EV, LK, ne_eq, Nat.reduceEqDiff, not_false_eq_true, t3', t4', t5', t17', t20', t21', t23', t24', t125', t126', t129', t130', t131', conv_int Try.underlying21 Try.underlying3, hcv, hmul, hadd]; rfl) rfl ?_
                refine WO.op rfl (by simp only [EV, LK, ne_eq, Nat.reduceEqDiff, not_false_eq_true, t3', t4', t5', t17', t20', t21', t23', t24', t125', t126', t129', t130', t131', conv_int Try.underlying21 Try.underlying3, hcv, hmul, hadd]; rfl) rfl ?_
                refine WO.op rfl (by simp only [EV, LK, ne_eq, Nat.reduceEqDiff, not_false_eq_true, t3', t4', t5', t17', t20', t21', t23', t24', t125', t126', t129', t130', t131', conv_int Try.underlying21 Try.underlying3, hcv, hmul, hadd]; rfl) rfl ?_
                refine WO.op rfl (by simp only [EV, LK, AR, WR, ne_eq, Nat.reduceEqDiff, not_false_eq_true, t3', t4', t5', t17', t20', t21', t23', t24', t125', t126', t129', t130', t131', conv_int Try.underlying21 Try.underlying3, hcv, hmul, hadd]; rfl) rfl ?_
                refine WO.op rfl (by simp only [EV, LK, AR, WR, ne_eq, Nat.reduceEqDiff, not_false_eq_true, t3', t4', t5', t17', t20', t21', t23', t24', t125', t126', t129', t130', t131', conv_int Try.underlying21 Try.underlying3, hcv, hmul, hadd]; rfl) rfl ?_
                refine WO.op rfl (by simp only [EV, LK, ne_eq, Nat.reduceEqDiff, not_false_eq_true, t3', t4', t5', t17', t20', t21', t23', t24', t125', t126', t129', t130', t131', conv_int Try.underlying21 Try.underlying3, hcv, hmul, hadd]; rfl) rfl ?_
                refine WO.nil ?_
                show WC _ _ _ _ _ _ _
                repeat with_reducible refine WC.seq ?_
                refine WC.region ?_
                refine WO.op rfl (by simp only [EV, LK, AR, WR, ne_eq, Nat.reduceEqDiff, not_false_eq_true, t3', t4', t5', t17', t20', t21', t23', t24', t125', t126', t129', t130', t131', hw]; rfl) rfl ?_
                refine WO.op rfl (by simp only [EV, LK, ne_eq, Nat.reduceEqDiff, not_false_eq_true, t3', t4', t5', t17', t20', t21', t23', t24', t125', t126', t129', t130', t131', hw]; rfl) rfl ?_
                refine WO.nil ?_
                exact ⟨l.length - (i + 1), by omega, i + 1, rfl, by omega, rfl, (by simp only [LK, ne_eq, Nat.reduceEqDiff, not_false_eq_true, t3', t4', t5', t17', t20', t21', t23', t24', t125', t126', t129', t130', t131']), (by simp only [LK, ne_eq, Nat.reduceEqDiff, not_false_eq_true, t3', t4', t5', t17', t20', t21', t23', t24', t125', t126', t129', t130', t131']), (by simp only [LK, ne_eq, Nat.reduceEqDiff, not_false_eq_true, t3', t4', t5', t17', t20', t21', t23', t24', t125', t126', t129', t130', t131']), (by simp only [LK, ne_eq, Nat.reduceEqDiff, not_false_eq_true, t3', t4', t5', t17', t20', t21', t23', t24', t125', t126', t129', t130', t131']), (by simp only [LK, ne_eq, Nat.reduceEqDiff, not_false_eq_true, t3', t4', t5', t17', t20', t21', t23', t24', t125', t126', t129', t130', t131']), (by simp only [LK, ne_eq, Nat.reduceEqDiff, not_false_eq_true, t3', t4', t5', t17', t20', t21', t23', t24', t125', t126', t129', t130', t131']), (by simp only [LK, ne_eq, Nat.reduceEqDiff, not_false_eq_true, t3', t4', t5', t17', t20', t21', t23', t24', t125', t126', t129', t130', t131']), (by simp only [LK, ne_eq, Nat.reduceEqDiff, not_false_eq_true, t3', t4', t5', t17', t20', t21', t23', t24', t125', t126', t129', t130', t131']), (by simp only [LK, ne_eq, Nat.reduceEqDiff, not_false_eq_true, t3', t4', t5', t17', t20', t21', t23', t24', t125', t126', t129', t130', t131']), (by simp only [LK, ne_eq, Nat.reduceEqDiff, not_false_eq_true, t3', t4', t5', t17', t20', t21', t23', t24', t125', t126', t129', t130', t131']), (by simp only [LK, ne_eq, Nat.reduceEqDiff, not_false_eq_true, t3', t4', t5', t17', t20', t21', t23', t24', t125', t126', t129', t130', t131'])⟩
            · have hq : decide ((i : Int) < (l.length : Int)) = false := decide_eq_false (by omega)
              obtain rfl : i = l.length := by omega
              show WC _ _ _ _ _ _ _
              repeat with_reducible refine WC.seq ?_
              refine WC.region ?_
              refine WO.op rfl (by simp only [EV, LK, AR, WR, ne_eq, Nat.reduceEqDiff, not_false_eq_true, t3, t4, t5, t17, t20, t21, t125, t126, t129, t130, t131, hq]; rfl) rfl ?_
              refine WO.nil ?_
              show WC _ _ _ _ _ _ _
              repeat with_reducible refine WC.seq ?_
              refine WC.condF (by simp only [LK, ne_eq, Nat.reduceEqDiff, not_false_eq_true, t3, t4, t5, t17, t20, t21, t125, t126, t129, t130, t131, decide_true, decide_false, decide_not, Bool.not_true, Bool.not_false]) ?_
              exact .exit ⟨rfl, (by simp only [LK, ne_eq, Nat.reduceEqDiff, not_false_eq_true, t3, t4, t5, t17, t20, t21, t125, t126, t129, t130, t131]), (by simp only [LK, ne_eq, Nat.reduceEqDiff, not_false_eq_true, t3, t4, t5, t17, t20, t21, t125, t126, t129, t130, t131]), (by simp only [LK, ne_eq, Nat.reduceEqDiff, not_false_eq_true, t3, t4, t5, t17, t20, t21, t125, t126, t129, t130, t131]), (by simp only [LK, ne_eq, Nat.reduceEqDiff, not_false_eq_true, t3, t4, t5, t17, t20, t21, t125, t126, t129, t130, t131]), (by simp only [LK, ne_eq, Nat.reduceEqDiff, not_false_eq_true, t3, t4, t5, t17, t20, t21, t125, t126, t129, t130, t131]), (by simp only [LK, ne_eq, Nat.reduceEqDiff, not_false_eq_true, t3, t4, t5, t17, t20, t21, t125, t126, t129, t130, t131]), (by simp only [LK, ne_eq, Nat.reduceEqDiff, not_false_eq_true, t3, t4, t5, t17, t20, t21, t125, t126, t129, t130, t131]), (by simp only [LK, ne_eq, Nat.reduceEqDiff, not_false_eq_true, t3, t4, t5, t17, t20, t21, t125, t126, t129, t130, t131])⟩
          · rintro t s5 ⟨rfl, t3, t4, t5, t17, t20, t21, t125, t126⟩
            have hhas := has_sketch s l n p (by omega) (by omega)
            have hsum : aboveOf s (p : Int) l = decide (0 ≤ sumS s (p : Int) l l.length) := by rw [sumS_eq s _ (by omega)]; rfl
            have hne : (!(hasOf (sketchOf s l n) (p : Int) == decide (0 ≤ sumS s (p : Int) l l.length))) = false := by rw [hhas, hsum]; simp
            show WC _ _ _ _ _ _ _
            repeat with_reducible refine WC.seq ?_
            refine WC.region ?_
            refine WO.op rfl (by simp only [EV, LK, ne_eq, Nat.reduceEqDiff, not_false_eq_true, t3, t4, t5, t17, t20, t21, t125, t126]; rfl) rfl ?_
            refine WO.op rfl (by simp only [EV, LK, ne_eq, Nat.reduceEqDiff, not_false_eq_true, t3, t4, t5, t17, t20, t21, t125, t126]; rfl) rfl ?_
            refine WO.call rfl rfl (by simp only [LK, ne_eq, Nat.reduceEqDiff, not_false_eq_true, t3, t4, t5, t17, t20, t21, t125, t126, callee, List.map_cons, List.map_nil]; rfl) ((has_ret h1 (p : Int) (by omega)).mono fun v8 s5 hR => ⟨_, rfl, ?_⟩)
            obtain ⟨rfl, rfl⟩ := hR
            refine WO.op rfl (by simp only [EV, LK, ne_eq, Nat.reduceEqDiff, not_false_eq_true, t3, t4, t5, t17, t20, t21, t125, t126, bool_neq, hne]; rfl) rfl ?_
            refine WO.op rfl (by simp only [EV, LK, AR, WR, ne_eq, Nat.reduceEqDiff, not_false_eq_true, t3, t4, t5, t17, t20, t21, t125, t126, bool_neq, hne]; rfl) rfl ?_
            refine WO.op rfl (by simp only [EV, LK, AR, WR, ne_eq, Nat.reduceEqDiff, not_false_eq_true, t3, t4, t5, t17, t20, t21, t125, t126, bool_neq, hne]; rfl) rfl ?_
            refine WO.nil ?_
            show WC _ _ _ _ _ _ _
            repeat with_reducible refine WC.seq ?_
            refine WC.condF (by simp only [LK, ne_eq, Nat.reduceEqDiff, not_false_eq_true, t3, t4, t5, t17, t20, t21, t125, t126, decide_true, decide_false, decide_not, Bool.not_true, Bool.not_false]) ?_
            exact WC.skip ⟨rfl, (by simp only [LK, ne_eq, Nat.reduceEqDiff, not_false_eq_true, t3, t4, t5, t17, t20, t21, t125, t126]), (by simp only [LK, ne_eq, Nat.reduceEqDiff, not_false_eq_true, t3, t4, t5, t17, t20, t21, t125, t126]), (by simp only [LK, ne_eq, Nat.reduceEqDiff, not_false_eq_true, t3, t4, t5, t17, t20, t21, t125, t126]), (by simp only [LK, ne_eq, Nat.reduceEqDiff, not_false_eq_true, t3, t4, t5, t17, t20, t21, t125, t126]), (by simp only [LK, ne_eq, Nat.reduceEqDiff, not_false_eq_true, t3, t4, t5, t17, t20, t21, t125, t126]), (by simp only [LK, ne_eq, Nat.reduceEqDiff, not_false_eq_true, t3, t4, t5, t17, t20, t21, t125, t126])⟩
        · rintro t' s5 ⟨rfl, t3', t4', t5', t17', t125', t126'⟩
          show WC _ _ _ _ _ _ _
          repeat with_reducible refine WC.seq ?_
          refine WC.region ?_
          refine WO.op rfl (by simp only [EV, LK, AR, WR, ne_eq, Nat.reduceEqDiff, not_false_eq_true, t3', t4', t5', t17', t125', t126', hw]; rfl) rfl ?_
          refine WO.op rfl (by simp only [EV, LK, ne_eq, Nat.reduceEqDiff, not_false_eq_true, t3', t4', t5', t17', t125', t126', hw]; rfl) rfl ?_
          refine WO.nil ?_
          exact ⟨N - (p + 1), by omega, p + 1, rfl, by omega, rfl, (by simp only [LK, ne_eq, Nat.reduceEqDiff, not_false_eq_true, t3', t4', t5', t17', t125', t126']), (by simp only [LK, ne_eq, Nat.reduceEqDiff, not_false_eq_true, t3', t4', t5', t17', t125', t126']), (by simp only [LK, ne_eq, Nat.reduceEqDiff, not_false_eq_true, t3', t4', t5', t17', t125', t126']), (by simp only [LK, ne_eq, Nat.reduceEqDiff, not_false_eq_true, t3', t4', t5', t17', t125', t126']), (by simp only [LK, ne_eq, Nat.reduceEqDiff, not_false_eq_true, t3', t4', t5', t17', t125', t126']), (by simp only [LK, ne_eq, Nat.reduceEqDiff, not_false_eq_true, t3', t4', t5', t17', t125', t126'])⟩
      · have hq : decide ((p : Int) < (N : Int)) = false := decide_eq_false (by omega)
        show WC _ _ _ _ _ _ _
        repeat with_reducible refine WC.seq ?_
        refine WC.region ?_
        refine WO.op rfl (by simp only [EV, LK, AR, WR, ne_eq, Nat.reduceEqDiff, not_false_eq_true, t3, t4, t5, t17, t125, t126, hq]; rfl) rfl ?_
        refine WO.nil ?_
        show WC _ _ _ _ _ _ _
        repeat with_reducible refine WC.seq ?_
        refine WC.condF (by simp only [LK, ne_eq, Nat.reduceEqDiff, not_false_eq_true, t3, t4, t5, t17, t125, t126, decide_true, decide_false, decide_not, Bool.not_true, Bool.not_false]) ?_
        exact .exit ⟨rfl, (by simp only [LK, ne_eq, Nat.reduceEqDiff, not_false_eq_true, t3, t4, t5, t17, t125, t126]), (by simp only [LK, ne_eq, Nat.reduceEqDiff, not_false_eq_true, t3, t4, t5, t17, t125, t126]), (by simp only [LK, ne_eq, Nat.reduceEqDiff, not_false_eq_true, t3, t4, t5, t17, t125, t126]), (by simp only [LK, ne_eq, Nat.reduceEqDiff, not_false_eq_true, t3, t4, t5, t17, t125, t126])⟩
    · rintro t s5 ⟨rfl, t3, t4, t5, t17⟩
      have hn1 : IntKind.i64.wrap (n + 1) = n + 1 := wrap_i64 (by omega) (by omega)
      show WC _ _ _ _ _ _ _
      repeat with_reducible refine WC.seq ?_
      refine WC.region ?_
      refine WO.op rfl (by simp only [EV, LK, ne_eq, Nat.reduceEqDiff, not_false_eq_true, t3, t4, t5, t17, hn1]; rfl) rfl ?_
      refine WO.op rfl (by simp only [EV, LK, ne_eq, Nat.reduceEqDiff, not_false_eq_true, t3, t4, t5, t17, hn1]; rfl) rfl ?_
      refine WO.op rfl (by simp only [EV, LK, ne_eq, Nat.reduceEqDiff, not_false_eq_true, t3, t4, t5, t17, hn1]; rfl) rfl ?_
      refine WO.op rfl (by simp only [EV, LK, ne_eq, Nat.reduceEqDiff, not_false_eq_true, t3, t4, t5, t17, hn1]; rfl) rfl ?_
      refine WO.op rfl (by simp only [EV, LK, AR, WR, ne_eq, Nat.reduceEqDiff, not_false_eq_true, t3, t4, t5, t17, hn1]; rfl) rfl ?_
      refine WO.call rfl rfl (by simp only [LK, ne_eq, Nat.reduceEqDiff, not_false_eq_true, t3, t4, t5, t17, callee, List.map_cons, List.map_nil]; rfl) ((sk_ret (hv.keeps K5) hs0 s (n + 1) (K5.based hba)).mono fun o7 s6 hR => ⟨_, rfl, ?_⟩)
      obtain ⟨h6, k6⟩ := hR
      have K6 := K5.then k6
      obtain ⟨y, s7, hb7, hy7, k7, _⟩ := build1 (P := Try.prog) (enc := Value.int .i64) (t := 32) (Nat.le_refl _) Try.underlying32 et3 ze3 (x := n) rfl rfl (σ := s6)
      have K7 := K6.then k7
      have hmem : ∀ x ∈ [n], -9223372036854775808 ≤ x := fun x hx => by have := List.mem_singleton.1 hx; omega
      refine WO.op rfl (by simp only [EV, LK, ne_eq, Nat.reduceEqDiff, not_false_eq_true, t3, t4, t5, t17, hb7]; rfl) rfl ?_
      refine WO.op rfl (by simp only [EV, LK, ne_eq, Nat.reduceEqDiff, not_false_eq_true, t3, t4, t5, t17, hb7]; rfl) rfl ?_
      refine WO.call rfl rfl (by simp only [LK, ne_eq, Nat.reduceEqDiff, not_false_eq_true, t3, t4, t5, t17, callee, List.map_cons, List.map_nil]; rfl) ((of_ret hy7 (by simp) hmem (K7.based hba)).mono fun o8 s8 hR => ⟨_, rfl, ?_⟩)
      obtain ⟨h8, k8⟩ := hR
      have K8 := K7.then k8
      refine WO.call rfl rfl (by simp only [LK, ne_eq, Nat.reduceEqDiff, not_false_eq_true, t3, t4, t5, t17, callee, List.map_cons, List.map_nil]; rfl) ((less2_ret (h6.keeps (k7.then k8)) h8 (K8.based hba)).mono fun o9 s9 hR => ⟨_, rfl, ?_⟩)
      obtain ⟨h9, k9⟩ := hR
      have K9 := K8.then k9
      have hlen1 : (sketchOf s l n).length ≤ 1000000 := by
        have h0 := trimN_le (outN (planes s l (howMany n)) (planes s l (howMany n)).length) (outN (planes s l (howMany n)) (planes s l (howMany n)).length).length
        rw [outN_len] at h0
        have h2 := wordsN_le (planes s l (howMany n))
        simp only [sketchOf, setOf, trim, List.length_take, outN_len]
        omega
      refine WO.call rfl rfl (by simp only [LK, ne_eq, Nat.reduceEqDiff, not_false_eq_true, t3, t4, t5, t17, callee, List.map_cons, List.map_nil]; rfl) ((same_ret (h1.keeps (k6.then (k7.then (k8.then k9)))) h9 hlen1).mono fun v9 s9 hR => ⟨_, rfl, ?_⟩)
      obtain ⟨rfl, rfl⟩ := hR
      refine WO.op rfl (by simp only [EV, LK, ne_eq, Nat.reduceEqDiff, not_false_eq_true, t3, t4, t5, t17]; rfl) rfl ?_
      refine WO.nil ?_
      refine .ret ⟨.inr rfl, [_], rfl, ?_, K9⟩
      rw [decide_eq_true (sketch_next s l n (by omega))]; rfl
