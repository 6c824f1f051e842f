/- Two sets laid word on word; how many there are. -/
import Derived.Test.YtaclhflmgafobaaS2
namespace Go.Proofs.Ytaclhflmgafobaa
open Go Go.Ab Go.Proofs
set_option linter.unusedSimpArgs false
set_option linter.unusedVariables false
set_option maxRecDepth 20000
theorem at1_ret {σ : AH} {v : Value} {xs : List (BitVec 64)} (h : Vec w64 σ v xs) (i : Nat) : Ret Try.prog sm 41 [v, .int .i64 (i : Int)] σ fun r σ' => r = w64 (xs.getD i 0#64) ∧ σ' = σ := by
  have hl := h.len Try.underlying25
  refine Ret.enter rfl Try.func41 rfl (of_decide_eq_true rfl) ?_
  show WC _ _ _ _ _ _ _
  repeat with_reducible refine WC.seq ?_
  refine WC.region ?_
  refine WO.op rfl (by simp only [EV, LK, ne_eq, Nat.reduceEqDiff, not_false_eq_true]; rfl) rfl ?_
  refine WO.nil ?_
  show WC _ _ _ _ _ _ _
  repeat with_reducible refine WC.seq ?_
  refine WC.region ?_
  refine WO.op rfl (by simp only [EV, LK, ne_eq, Nat.reduceEqDiff, not_false_eq_true, hl]; rfl) rfl ?_
  refine WO.op rfl (by simp only [EV, LK, ne_eq, Nat.reduceEqDiff, not_false_eq_true, hl]; rfl) rfl ?_
  refine WO.op rfl (by simp only [EV, LK, ne_eq, Nat.reduceEqDiff, not_false_eq_true, hl]; rfl) rfl ?_
  refine WO.op rfl (by simp only [EV, LK, AR, WR, ne_eq, Nat.reduceEqDiff, not_false_eq_true, hl]; rfl) rfl ?_
  refine WO.nil ?_
  by_cases hi : i < xs.length
  · have hq : decide ((i : Int) < (xs.length : Int)) = true := decide_eq_true (by omega)
    obtain ⟨p, hp1, _, hp2⟩ := h.elem Try.underlying25 sz23 ag23 (i := (i : Int)) (k := .i64) (by omega) (x := xs[i]) (List.getElem?_eq_getElem (by omega))
    show WC _ _ _ _ _ _ _
    repeat with_reducible refine WC.seq ?_
    refine WC.condT (by simp only [LK, ne_eq, Nat.reduceEqDiff, not_false_eq_true, hq, decide_true, decide_false, decide_not, Bool.not_true, Bool.not_false]) ?_
    show WC _ _ _ _ _ _ _
    repeat with_reducible refine WC.seq ?_
    refine WC.region ?_
    refine WO.op rfl (by simp only [EV, LK, ne_eq, Nat.reduceEqDiff, not_false_eq_true, hp1, hp2]; rfl) rfl ?_
    refine WO.op rfl (by simp only [EV, LK, ne_eq, Nat.reduceEqDiff, not_false_eq_true, hp1, hp2]; rfl) rfl ?_
    refine WO.op rfl (by simp only [EV, LK, ne_eq, Nat.reduceEqDiff, not_false_eq_true, hp1, hp2]; rfl) rfl ?_
    refine WO.op rfl (by simp only [EV, LK, ne_eq, Nat.reduceEqDiff, not_false_eq_true, hp1, hp2]; rfl) rfl ?_
    refine WO.op rfl (by simp only [EV, LK, ne_eq, Nat.reduceEqDiff, not_false_eq_true, hp1, hp2]; rfl) rfl ?_
    refine WO.nil ?_
    exact .ret ⟨.inr rfl, [w64 xs[i]], rfl, by simp [tupleOf, List.getD, hi], rfl⟩
  · have hq : decide ((i : Int) < (xs.length : Int)) = false := decide_eq_false (by omega)
    show WC _ _ _ _ _ _ _
    repeat with_reducible refine WC.seq ?_
    refine WC.condF (by simp only [LK, ne_eq, Nat.reduceEqDiff, not_false_eq_true, hq, decide_true, decide_false, decide_not, Bool.not_true, Bool.not_false]) ?_
    refine WC.skip ?_
    show WC _ _ _ _ _ _ _
    repeat with_reducible refine WC.seq ?_
    refine WC.region ?_
    refine WO.op rfl (by simp only [EV, LK, ne_eq, Nat.reduceEqDiff, not_false_eq_true]; rfl) rfl ?_
    refine WO.nil ?_
    exact .ret ⟨.inr rfl, [w64 0#64], rfl, by simp [tupleOf, List.getD, hi], rfl⟩
/-- Word on word. -/
def lay (F : BitVec 64 → BitVec 64 → BitVec 64) (xs ys : List (BitVec 64)) (n : Nat) : List (BitVec 64) := (List.range n).map fun i => F (xs.getD i 0#64) (ys.getD i 0#64)
def both (F : BitVec 64 → BitVec 64 → BitVec 64) (xs ys : List (BitVec 64)) : List (BitVec 64) :=
  trim (lay F (xs.take 64) (ys.take 64) (max (xs.take 64).length (ys.take 64).length))
def part (F : BitVec 64 → BitVec 64 → BitVec 64) (xs ys : List (BitVec 64)) (n i : Nat) : List (BitVec 64) := lay F xs ys i ++ List.replicate (n - i) 0#64
theorem part_len (F : BitVec 64 → BitVec 64 → BitVec 64) (xs ys : List (BitVec 64)) {n i : Nat} (h : i ≤ n) : (part F xs ys n i).length = n := by simp [part, lay]; omega
theorem part_set (F : BitVec 64 → BitVec 64 → BitVec 64) (xs ys : List (BitVec 64)) {n i : Nat} (h : i < n) : (part F xs ys n i).set i (F (xs.getD i 0#64) (ys.getD i 0#64)) = part F xs ys n (i + 1) := by
  have e : (lay F xs ys i).length = i := by simp [lay]
  obtain ⟨k, hk⟩ : ∃ k, n - i = k + 1 := ⟨n - i - 1, by omega⟩
  simp only [part]
  rw [List.set_append_right _ _ (by omega), e, Nat.sub_self, hk, List.replicate_succ, List.set_cons_zero, show n - (i + 1) = k by omega]
  simp [lay, List.range_succ]
theorem Vec.len_rep {α : Type} (n : Nat) (x : α) : (((List.replicate ((n : Int)).toNat x).length : Nat) : Int) = n := by simp
theorem both_ret {σ : AH} {a b : Value} {xs ys : List (BitVec 64)} {g : FuncId} {F : BitVec 64 → BitVec 64 → BitVec 64} (hF : ∀ x y σ, Ret Try.prog sm g [w64 x, w64 y] σ fun v σ' => v = w64 (F x y) ∧ σ' = σ) (ha : Vec w64 σ a xs) (hb : Vec w64 σ b ys) (hba : σ.base ≤ σ.size) :
    Ret Try.prog sm 32 [a, b, .func (.func g) #[] #[]] σ fun r σ' => Vec w64 σ' r (both F xs ys) ∧ Since σ.size σ σ' := by
  refine Ret.enter rfl Try.func32 rfl (of_decide_eq_true rfl) ?_
  show WC _ _ _ _ _ _ _
  repeat with_reducible refine WC.seq ?_
  refine WC.region ?_
  refine WO.op rfl (by simp only [EV, LK, ne_eq, Nat.reduceEqDiff, not_false_eq_true]; rfl) rfl ?_
  refine WO.nil ?_
  show WC _ _ _ _ _ _ _
  repeat with_reducible refine WC.seq ?_
  refine WC.region ?_
  refine WO.op rfl (by simp only [EV, LK, ne_eq, Nat.reduceEqDiff, not_false_eq_true]; rfl) rfl ?_
  refine WO.call rfl rfl (by simp only [LK, ne_eq, Nat.reduceEqDiff, not_false_eq_true, callee, List.map_cons, List.map_nil]; rfl) ((cut_ret ha).mono fun a1 σ1 hR => ⟨_, rfl, ?_⟩)
  obtain ⟨ha', hba', rfl⟩ := hR
  refine WO.op rfl (by simp only [EV, LK, ne_eq, Nat.reduceEqDiff, not_false_eq_true]; rfl) rfl ?_
  refine WO.call rfl rfl (by simp only [LK, ne_eq, Nat.reduceEqDiff, not_false_eq_true, callee, List.map_cons, List.map_nil]; rfl) ((cut_ret hb).mono fun b1 σ1 hR => ⟨_, rfl, ?_⟩)
  obtain ⟨hb', hbb', rfl⟩ := hR
  refine WO.op rfl (by simp only [EV, LK, ne_eq, Nat.reduceEqDiff, not_false_eq_true]; rfl) rfl ?_
  refine WO.op rfl (by simp only [EV, LK, ne_eq, Nat.reduceEqDiff, not_false_eq_true]; rfl) rfl ?_
  refine WO.nil ?_
  show WC _ _ _ _ _ _ _
  repeat with_reducible refine WC.seq ?_
  refine WC.region ?_
  refine WO.op rfl (by simp only [EV, LK, ne_eq, Nat.reduceEqDiff, not_false_eq_true]; rfl) rfl ?_
  refine WO.nil ?_
  have hla := ha'.len Try.underlying25
  have hlb := hb'.len Try.underlying25
  have hxl : (xs.take 64).length ≤ 64 := by simp; omega
  have hyl : (ys.take 64).length ≤ 64 := by simp; omega
  have hmx : (max ((xs.take 64).length : Int) ((ys.take 64).length : Int)) = ((max (xs.take 64).length (ys.take 64).length : Nat) : Int) := by omega
  generalize hN : max (xs.take 64).length (ys.take 64).length = N at hmx
  obtain ⟨o, σ', hmk, ho, hS⟩ := OVec.make (t := 25) (B := σ1.size) (Nat.le_refl _) hba Try.underlying25 et23 (x := 0#64) ze23 rfl (n := (N : Int)) (by omega) (by omega) (by decide) (k := .i64) (k' := .i64)
  show WC _ _ _ _ _ _ _
  repeat with_reducible refine WC.seq ?_
  refine WC.region ?_
  refine WO.op rfl (by simp only [EV, LK, ne_eq, Nat.reduceEqDiff, not_false_eq_true, hla, hlb, hmx, hmk]; rfl) rfl ?_
  refine WO.op rfl (by simp only [EV, LK, ne_eq, Nat.reduceEqDiff, not_false_eq_true, hla, hlb, hmx, hmk]; rfl) rfl ?_
  refine WO.op rfl (by simp only [EV, LK, ne_eq, Nat.reduceEqDiff, not_false_eq_true, hla, hlb, hmx, hmk]; rfl) rfl ?_
  refine WO.op rfl (by simp only [EV, LK, ne_eq, Nat.reduceEqDiff, not_false_eq_true, hla, hlb, hmx, hmk]; rfl) rfl ?_
  refine WO.op rfl (by simp only [EV, LK, AR, WR, ne_eq, Nat.reduceEqDiff, not_false_eq_true, hla, hlb, hmx, hmk]; rfl) rfl ?_
  refine WO.op rfl (by simp only [EV, LK, ne_eq, Nat.reduceEqDiff, not_false_eq_true, hla, hlb, hmx, hmk]; rfl) rfl ?_
  refine WO.op rfl (by simp only [EV, LK, ne_eq, Nat.reduceEqDiff, not_false_eq_true, hla, hlb, hmx, hmk]; rfl) rfl ?_
  refine WO.nil ?_
  have hlo := ho.vec.len Try.underlying25
  rw [Vec.len_rep] at hlo
  show WC _ _ _ _ _ _ _
  repeat with_reducible refine WC.seq ?_
  refine WC.region ?_
  refine WO.op rfl (by simp only [EV, LK, ne_eq, Nat.reduceEqDiff, not_false_eq_true, hlo]; rfl) rfl ?_
  refine WO.op rfl (by simp only [EV, LK, ne_eq, Nat.reduceEqDiff, not_false_eq_true, hlo]; rfl) rfl ?_
  refine WO.op rfl (by simp only [EV, LK, ne_eq, Nat.reduceEqDiff, not_false_eq_true, hlo]; rfl) rfl ?_
  refine WO.nil ?_
  show WC _ _ _ _ _ _ _
  repeat with_reducible refine WC.seq ?_
  refine WC.loops (fun m t σ2 => ∃ i, m = N - i ∧ i ≤ N ∧ t 0 = a1 ∧ t 1 = b1 ∧ t 2 = .func (.func g) #[] #[] ∧ t 7 = .func (.func 41) #[] #[] ∧ t 8 = o ∧ t 21 = .int .i64 (N : Int) ∧ t 22 = .int .i64 (i : Int) ∧ OVec w64 σ2 σ1.size o (part F (xs.take 64) (ys.take 64) N i) ∧ Since σ1.size σ1 σ2)
    (fun t σ2 => t 8 = o ∧ OVec w64 σ2 σ1.size o (lay F (xs.take 64) (ys.take 64) N) ∧ Since σ1.size σ1 σ2) N ?_ ?_ ?_
  · exact ⟨0, rfl, Nat.zero_le _, (by simp only [LK, ne_eq, Nat.reduceEqDiff, not_false_eq_true]), (by simp only [LK, ne_eq, Nat.reduceEqDiff, not_false_eq_true]), (by simp only [LK, ne_eq, Nat.reduceEqDiff, not_false_eq_true]), (by simp only [LK, ne_eq, Nat.reduceEqDiff, not_false_eq_true]), (by simp only [LK, ne_eq, Nat.reduceEqDiff, not_false_eq_true]), (by simp only [LK, ne_eq, Nat.reduceEqDiff, not_false_eq_true]), (by simp only [LK, ne_eq, Nat.reduceEqDiff, not_false_eq_true]; rfl), by simpa [part, lay] using ho, hS⟩
  · rintro m t σ2 ⟨i, rfl, hi, t0, t1, t2, t7, t8, t21, t22, hO, hS2⟩
    by_cases hiN : i < N
    · have hq : decide ((i : Int) < (N : Int)) = true := decide_eq_true (by omega)
      show WC _ _ _ _ _ _ _
      repeat with_reducible refine WC.seq ?_
      refine WC.region ?_
      refine WO.op rfl (by simp only [EV, LK, AR, WR, ne_eq, Nat.reduceEqDiff, not_false_eq_true, t0, t1, t2, t7, t8, t21, t22, hq]; rfl) rfl ?_
      refine WO.nil ?_
      show WC _ _ _ _ _ _ _
      repeat with_reducible refine WC.seq ?_
      refine WC.condT (by simp only [LK, ne_eq, Nat.reduceEqDiff, not_false_eq_true, t0, t1, t2, t7, t8, t21, t22, decide_true, decide_false, decide_not, Bool.not_true, Bool.not_false]) ?_
      refine WC.skip ?_
      refine WC.seq ?_
      refine WC.block ?_
      show WC _ _ _ _ _ _ _
      repeat with_reducible refine WC.seq ?_
      refine WC.region ?_
      refine WO.op rfl (by simp only [EV, LK, ne_eq, Nat.reduceEqDiff, not_false_eq_true, t0, t1, t2, t7, t8, t21, t22]; rfl) rfl ?_
      refine WO.op rfl (by simp only [EV, LK, ne_eq, Nat.reduceEqDiff, not_false_eq_true, t0, t1, t2, t7, t8, t21, t22]; rfl) rfl ?_
      refine WO.nil ?_
      show WC _ _ _ _ _ _ _
      repeat with_reducible refine WC.seq ?_
      refine WC.region ?_
      refine WO.op rfl (by simp only [EV, LK, ne_eq, Nat.reduceEqDiff, not_false_eq_true, t0, t1, t2, t7, t8, t21, t22]; rfl) rfl ?_
      refine WO.op rfl (by simp only [EV, LK, ne_eq, Nat.reduceEqDiff, not_false_eq_true, t0, t1, t2, t7, t8, t21, t22]; rfl) rfl ?_
      refine WO.op rfl (by simp only [EV, LK, ne_eq, Nat.reduceEqDiff, not_false_eq_true, t0, t1, t2, t7, t8, t21, t22]; rfl) rfl ?_
      refine WO.op rfl (by simp only [EV, LK, ne_eq, Nat.reduceEqDiff, not_false_eq_true, t0, t1, t2, t7, t8, t21, t22]; rfl) rfl ?_
      refine WO.op rfl (by simp only [EV, LK, ne_eq, Nat.reduceEqDiff, not_false_eq_true, t0, t1, t2, t7, t8, t21, t22]; rfl) rfl ?_
      refine WO.op rfl (by simp only [EV, LK, ne_eq, Nat.reduceEqDiff, not_false_eq_true, t0, t1, t2, t7, t8, t21, t22]; rfl) rfl ?_
      refine WO.call rfl rfl (by simp only [LK, ne_eq, Nat.reduceEqDiff, not_false_eq_true, t0, t1, t2, t7, t8, t21, t22, callee, List.map_cons, List.map_nil]; rfl) ((at1_ret (ha'.keeps hS2) i).mono fun x1 σ1 hR => ⟨_, rfl, ?_⟩)
      obtain ⟨rfl, rfl⟩ := hR
      refine WO.op rfl (by simp only [EV, LK, ne_eq, Nat.reduceEqDiff, not_false_eq_true, t0, t1, t2, t7, t8, t21, t22]; rfl) rfl ?_
      refine WO.op rfl (by simp only [EV, LK, ne_eq, Nat.reduceEqDiff, not_false_eq_true, t0, t1, t2, t7, t8, t21, t22]; rfl) rfl ?_
      refine WO.op rfl (by simp only [EV, LK, ne_eq, Nat.reduceEqDiff, not_false_eq_true, t0, t1, t2, t7, t8, t21, t22]; rfl) rfl ?_
      refine WO.call rfl rfl (by simp only [LK, ne_eq, Nat.reduceEqDiff, not_false_eq_true, t0, t1, t2, t7, t8, t21, t22, callee, List.map_cons, List.map_nil]; rfl) ((at1_ret (hb'.keeps hS2) i).mono fun x2 σ1 hR => ⟨_, rfl, ?_⟩)
      obtain ⟨rfl, rfl⟩ := hR
      refine WO.call rfl rfl (by simp only [LK, ne_eq, Nat.reduceEqDiff, not_false_eq_true, t0, t1, t2, t7, t8, t21, t22, callee, List.map_cons, List.map_nil]; rfl) ((hF _ _ _).mono fun x3 σ1 hR => ⟨_, rfl, ?_⟩)
      obtain ⟨rfl, rfl⟩ := hR
      obtain ⟨p, hp, σ3, hst, hO3, hS3, _⟩ := hO.store Try.underlying25 sz23 (i := (i : Int)) (k := .i64) (by omega) (by rw [part_len _ _ _ hi]; omega) (x := F ((xs.take 64).getD i 0#64) ((ys.take 64).getD i 0#64)) rfl rfl
      have hw : IntKind.i64.wrap ((i : Int) + 1) = ((i + 1 : Nat) : Int) := by rw [wrap_i64 (by omega) (by omega)]; omega
      refine WO.op rfl (by simp only [EV, LK, ne_eq, Nat.reduceEqDiff, not_false_eq_true, t0, t1, t2, t7, t8, t21, t22, hp, hst]; rfl) rfl ?_
      refine WO.op rfl (by simp only [EV, LK, ne_eq, Nat.reduceEqDiff, not_false_eq_true, t0, t1, t2, t7, t8, t21, t22, hp, hst]; rfl) rfl ?_
      refine WO.nil ?_
      show WC _ _ _ _ _ _ _
      repeat with_reducible refine WC.seq ?_
      refine WC.region ?_
      refine WO.op rfl (by simp only [EV, LK, AR, WR, ne_eq, Nat.reduceEqDiff, not_false_eq_true, t0, t1, t2, t7, t8, t21, t22, hw]; rfl) rfl ?_
      refine WO.op rfl (by simp only [EV, LK, ne_eq, Nat.reduceEqDiff, not_false_eq_true, t0, t1, t2, t7, t8, t21, t22, hw]; rfl) rfl ?_
      refine WO.nil ?_
      refine ⟨N - (i + 1), by omega, i + 1, rfl, by omega, (by simp only [LK, ne_eq, Nat.reduceEqDiff, not_false_eq_true, t0, t1, t2, t7, t8, t21, t22]), (by simp only [LK, ne_eq, Nat.reduceEqDiff, not_false_eq_true, t0, t1, t2, t7, t8, t21, t22]), (by simp only [LK, ne_eq, Nat.reduceEqDiff, not_false_eq_true, t0, t1, t2, t7, t8, t21, t22]), (by simp only [LK, ne_eq, Nat.reduceEqDiff, not_false_eq_true, t0, t1, t2, t7, t8, t21, t22]), (by simp only [LK, ne_eq, Nat.reduceEqDiff, not_false_eq_true, t0, t1, t2, t7, t8, t21, t22]), (by simp only [LK, ne_eq, Nat.reduceEqDiff, not_false_eq_true, t0, t1, t2, t7, t8, t21, t22]), (by simp only [LK, ne_eq, Nat.reduceEqDiff, not_false_eq_true, t0, t1, t2, t7, t8, t21, t22]), ?_, hS2.trans hS3⟩
      rw [← part_set _ _ _ hiN]
      exact hO3
    · have hq : decide ((i : Int) < (N : Int)) = false := decide_eq_false (by omega)
      obtain rfl : i = N := by omega
      show WC _ _ _ _ _ _ _
      repeat with_reducible refine WC.seq ?_
      refine WC.region ?_
      refine WO.op rfl (by simp only [EV, LK, AR, WR, ne_eq, Nat.reduceEqDiff, not_false_eq_true, t0, t1, t2, t7, t8, t21, t22, hq]; rfl) rfl ?_
      refine WO.nil ?_
      show WC _ _ _ _ _ _ _
      repeat with_reducible refine WC.seq ?_
      refine WC.condF (by simp only [LK, ne_eq, Nat.reduceEqDiff, not_false_eq_true, t0, t1, t2, t7, t8, t21, t22, decide_true, decide_false, decide_not, Bool.not_true, Bool.not_false]) ?_
      exact .exit ⟨(by simp only [LK, ne_eq, Nat.reduceEqDiff, not_false_eq_true, t0, t1, t2, t7, t8, t21, t22]), by simpa [part] using hO, hS2⟩
  · rintro t σ2 ⟨t8, hO, hS2⟩
    have hlen : (lay F (xs.take 64) (ys.take 64) N).length ≤ 1000000 := by simp only [lay, List.length_map, List.length_range]; omega
    show WC _ _ _ _ _ _ _
    repeat with_reducible refine WC.seq ?_
    refine WC.region ?_
    refine WO.op rfl (by simp only [EV, LK, ne_eq, Nat.reduceEqDiff, not_false_eq_true, t8]; rfl) rfl ?_
    refine WO.call rfl rfl (by simp only [LK, ne_eq, Nat.reduceEqDiff, not_false_eq_true, callee, List.map_cons, List.map_nil]; rfl) ((short_ret hO.vec hlen).mono fun v σ1 hR => ⟨_, rfl, ?_⟩)
    obtain ⟨hv, _, rfl⟩ := hR
    refine WO.op rfl (by simp only [EV, LK, ne_eq, Nat.reduceEqDiff, not_false_eq_true]; rfl) rfl ?_
    refine WO.nil ?_
    refine .ret ⟨.inr rfl, [v], rfl, ?_, hS2⟩
    subst hN
    exact hv

theorem union_ret {σ : AH} {a b : Value} {xs ys : List (BitVec 64)} (ha : Vec w64 σ a xs) (hb : Vec w64 σ b ys) (hba : σ.base ≤ σ.size) : Ret Try.prog sm 17 [a, b] σ fun r σ' => Vec w64 σ' r (both (· ||| ·) xs ys) ∧ Since σ.size σ σ' := by
  refine Ret.enter rfl Try.func17 rfl (of_decide_eq_true rfl) ?_
  show WC _ _ _ _ _ _ _
  repeat with_reducible refine WC.seq ?_
  refine WC.region ?_
  refine WO.op rfl (by simp only [EV, LK, ne_eq, Nat.reduceEqDiff, not_false_eq_true]; rfl) rfl ?_
  refine WO.nil ?_
  show WC _ _ _ _ _ _ _
  repeat with_reducible refine WC.seq ?_
  refine WC.region ?_
  refine WO.op rfl (by simp only [EV, LK, ne_eq, Nat.reduceEqDiff, not_false_eq_true]; rfl) rfl ?_
  refine WO.op rfl (by simp only [EV, LK, ne_eq, Nat.reduceEqDiff, not_false_eq_true]; rfl) rfl ?_
  refine WO.call rfl rfl (by simp only [LK, ne_eq, Nat.reduceEqDiff, not_false_eq_true, callee, List.map_cons, List.map_nil]; rfl) ((both_ret or_ret ha hb hba).mono fun v σ1 hR => ⟨_, rfl, ?_⟩)
  obtain ⟨hv, hS⟩ := hR
  refine WO.op rfl (by simp only [EV, LK, ne_eq, Nat.reduceEqDiff, not_false_eq_true]; rfl) rfl ?_
  refine WO.nil ?_
  exact .ret ⟨.inr rfl, [v], rfl, hv, hS⟩
theorem less2_ret {σ : AH} {a b : Value} {xs ys : List (BitVec 64)} (ha : Vec w64 σ a xs) (hb : Vec w64 σ b ys) (hba : σ.base ≤ σ.size) : Ret Try.prog sm 19 [a, b] σ fun r σ' => Vec w64 σ' r (both (fun x y => x &&& ~~~y) xs ys) ∧ Since σ.size σ σ' := by
  refine Ret.enter rfl Try.func19 rfl (of_decide_eq_true rfl) ?_
  show WC _ _ _ _ _ _ _
  repeat with_reducible refine WC.seq ?_
  refine WC.region ?_
  refine WO.op rfl (by simp only [EV, LK, ne_eq, Nat.reduceEqDiff, not_false_eq_true]; rfl) rfl ?_
  refine WO.nil ?_
  show WC _ _ _ _ _ _ _
  repeat with_reducible refine WC.seq ?_
  refine WC.region ?_
  refine WO.op rfl (by simp only [EV, LK, ne_eq, Nat.reduceEqDiff, not_false_eq_true]; rfl) rfl ?_
  refine WO.op rfl (by simp only [EV, LK, ne_eq, Nat.reduceEqDiff, not_false_eq_true]; rfl) rfl ?_
  refine WO.call rfl rfl (by simp only [LK, ne_eq, Nat.reduceEqDiff, not_false_eq_true, callee, List.map_cons, List.map_nil]; rfl) ((both_ret less_ret ha hb hba).mono fun v σ1 hR => ⟨_, rfl, ?_⟩)
  obtain ⟨hv, hS⟩ := hR
  refine WO.op rfl (by simp only [EV, LK, ne_eq, Nat.reduceEqDiff, not_false_eq_true]; rfl) rfl ?_
  refine WO.nil ?_
  exact .ret ⟨.inr rfl, [v], rfl, hv, hS⟩
