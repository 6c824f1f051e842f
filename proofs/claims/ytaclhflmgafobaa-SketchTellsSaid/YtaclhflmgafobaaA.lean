/- Functions, told as Lean functions, and that the code computes them. -/
import Derived.Test.YtaclhflmgafobaaTy
namespace Go.Proofs.Ytaclhflmgafobaa
open Go Go.Ab Go.Proofs
set_option linter.unusedSimpArgs false
set_option linter.unusedVariables false
set_option maxRecDepth 20000
set_option maxHeartbeats 1000000
noncomputable def F_R03_Mix (p0_1 : (BitVec 64)) : Option ((BitVec 64)) :=
  some (((((((p0_1 + (11400714819323198485#64)) ^^^ ((p0_1 + (11400714819323198485#64)) / (1073741824#64))) * (13787848793156543929#64)) ^^^ ((((p0_1 + (11400714819323198485#64)) ^^^ ((p0_1 + (11400714819323198485#64)) / (1073741824#64))) * (13787848793156543929#64)) / (134217728#64))) * (10723151780598845931#64)) ^^^ ((((((p0_1 + (11400714819323198485#64)) ^^^ ((p0_1 + (11400714819323198485#64)) / (1073741824#64))) * (13787848793156543929#64)) ^^^ ((((p0_1 + (11400714819323198485#64)) ^^^ ((p0_1 + (11400714819323198485#64)) / (1073741824#64))) * (13787848793156543929#64)) / (134217728#64))) * (10723151780598845931#64)) / (2147483648#64))))
theorem F_R03_Mix.ok {p0_1 : (BitVec 64)} {r : ((BitVec 64))} (h : F_R03_Mix p0_1 = some r) : Pure Try.prog 38 [(w64 p0_1)] (w64 r) := by
  unfold F_R03_Mix at h
  refine ⟨(.cons (.prim rfl) .nil), (.prim rfl), Fn.enter Try.func38 (by kernel_rfl) rfl (of_decide_eq_true rfl) ?_⟩
  have hH : Hp ⟨0, []⟩ [] := Hp.nil (Nat.le_refl _)
  show MC _ _ _ _ _ _ _
  refine MC.seq ?_
  show MC _ _ _ _ _ _ _
  refine MC.region ?_
  refine MO.op (v := (w64 (0#64))) (Nat.zero_le _) rfl (ev_assign rfl) rfl ?_
  refine MO.nil ?_
  refine Then.at ?_
  show MC _ _ _ _ _ _ _
  refine MC.seq ?_
  show MC _ _ _ _ _ _ _
  refine MC.region ?_
  refine MO.op (v := (w64 p0_1)) (Nat.zero_le _) rfl (ev_move rfl) rfl ?_
  refine MO.op (v := (w64 (p0_1 + (11400714819323198485#64)))) (Nat.zero_le _) rfl (ev_bin (x := (w64 p0_1)) (y := (w64 (11400714819323198485#64))) rfl rfl word_add) rfl ?_
  refine MO.op (v := (w64 (p0_1 + (11400714819323198485#64)))) (Nat.zero_le _) rfl (ev_assign rfl) rfl ?_
  refine MO.nil ?_
  refine Then.at ?_
  show MC _ _ _ _ _ _ _
  refine MC.seq ?_
  show MC _ _ _ _ _ _ _
  refine MC.region ?_
  refine MO.op (v := (w64 (p0_1 + (11400714819323198485#64)))) (Nat.zero_le _) rfl (ev_move rfl) rfl ?_
  refine MO.op (v := (w64 (p0_1 + (11400714819323198485#64)))) (Nat.zero_le _) rfl (ev_move rfl) rfl ?_
  refine MO.op (v := (w64 ((p0_1 + (11400714819323198485#64)) / (1073741824#64)))) (Nat.zero_le _) rfl (ev_bin (x := (w64 (p0_1 + (11400714819323198485#64)))) (y := (w64 (1073741824#64))) rfl rfl (word_quo (by decide))) rfl ?_
  refine MO.op (v := (w64 ((p0_1 + (11400714819323198485#64)) ^^^ ((p0_1 + (11400714819323198485#64)) / (1073741824#64))))) (Nat.zero_le _) rfl (ev_bin (x := (w64 (p0_1 + (11400714819323198485#64)))) (y := (w64 ((p0_1 + (11400714819323198485#64)) / (1073741824#64)))) rfl rfl word_xor) rfl ?_
  refine MO.op (v := (w64 (((p0_1 + (11400714819323198485#64)) ^^^ ((p0_1 + (11400714819323198485#64)) / (1073741824#64))) * (13787848793156543929#64)))) (Nat.zero_le _) rfl (ev_bin (x := (w64 ((p0_1 + (11400714819323198485#64)) ^^^ ((p0_1 + (11400714819323198485#64)) / (1073741824#64))))) (y := (w64 (13787848793156543929#64))) rfl rfl word_mul) rfl ?_
  refine MO.op (v := (w64 (((p0_1 + (11400714819323198485#64)) ^^^ ((p0_1 + (11400714819323198485#64)) / (1073741824#64))) * (13787848793156543929#64)))) (Nat.zero_le _) rfl (ev_assign rfl) rfl ?_
  refine MO.nil ?_
  refine Then.at ?_
  show MC _ _ _ _ _ _ _
  refine MC.seq ?_
  show MC _ _ _ _ _ _ _
  refine MC.region ?_
  refine MO.op (v := (w64 (((p0_1 + (11400714819323198485#64)) ^^^ ((p0_1 + (11400714819323198485#64)) / (1073741824#64))) * (13787848793156543929#64)))) (Nat.zero_le _) rfl (ev_move rfl) rfl ?_
  refine MO.op (v := (w64 (((p0_1 + (11400714819323198485#64)) ^^^ ((p0_1 + (11400714819323198485#64)) / (1073741824#64))) * (13787848793156543929#64)))) (Nat.zero_le _) rfl (ev_move rfl) rfl ?_
  refine MO.op (v := (w64 ((((p0_1 + (11400714819323198485#64)) ^^^ ((p0_1 + (11400714819323198485#64)) / (1073741824#64))) * (13787848793156543929#64)) / (134217728#64)))) (Nat.zero_le _) rfl (ev_bin (x := (w64 (((p0_1 + (11400714819323198485#64)) ^^^ ((p0_1 + (11400714819323198485#64)) / (1073741824#64))) * (13787848793156543929#64)))) (y := (w64 (134217728#64))) rfl rfl (word_quo (by decide))) rfl ?_
  refine MO.op (v := (w64 ((((p0_1 + (11400714819323198485#64)) ^^^ ((p0_1 + (11400714819323198485#64)) / (1073741824#64))) * (13787848793156543929#64)) ^^^ ((((p0_1 + (11400714819323198485#64)) ^^^ ((p0_1 + (11400714819323198485#64)) / (1073741824#64))) * (13787848793156543929#64)) / (134217728#64))))) (Nat.zero_le _) rfl (ev_bin (x := (w64 (((p0_1 + (11400714819323198485#64)) ^^^ ((p0_1 + (11400714819323198485#64)) / (1073741824#64))) * (13787848793156543929#64)))) (y := (w64 ((((p0_1 + (11400714819323198485#64)) ^^^ ((p0_1 + (11400714819323198485#64)) / (1073741824#64))) * (13787848793156543929#64)) / (134217728#64)))) rfl rfl word_xor) rfl ?_
  refine MO.op (v := (w64 (((((p0_1 + (11400714819323198485#64)) ^^^ ((p0_1 + (11400714819323198485#64)) / (1073741824#64))) * (13787848793156543929#64)) ^^^ ((((p0_1 + (11400714819323198485#64)) ^^^ ((p0_1 + (11400714819323198485#64)) / (1073741824#64))) * (13787848793156543929#64)) / (134217728#64))) * (10723151780598845931#64)))) (Nat.zero_le _) rfl (ev_bin (x := (w64 ((((p0_1 + (11400714819323198485#64)) ^^^ ((p0_1 + (11400714819323198485#64)) / (1073741824#64))) * (13787848793156543929#64)) ^^^ ((((p0_1 + (11400714819323198485#64)) ^^^ ((p0_1 + (11400714819323198485#64)) / (1073741824#64))) * (13787848793156543929#64)) / (134217728#64))))) (y := (w64 (10723151780598845931#64))) rfl rfl word_mul) rfl ?_
  refine MO.op (v := (w64 (((((p0_1 + (11400714819323198485#64)) ^^^ ((p0_1 + (11400714819323198485#64)) / (1073741824#64))) * (13787848793156543929#64)) ^^^ ((((p0_1 + (11400714819323198485#64)) ^^^ ((p0_1 + (11400714819323198485#64)) / (1073741824#64))) * (13787848793156543929#64)) / (134217728#64))) * (10723151780598845931#64)))) (Nat.zero_le _) rfl (ev_assign rfl) rfl ?_
  refine MO.nil ?_
  refine Then.at ?_
  show MC _ _ _ _ _ _ _
  refine MC.seq ?_
  show MC _ _ _ _ _ _ _
  refine MC.region ?_
  refine MO.op (v := (w64 (((((p0_1 + (11400714819323198485#64)) ^^^ ((p0_1 + (11400714819323198485#64)) / (1073741824#64))) * (13787848793156543929#64)) ^^^ ((((p0_1 + (11400714819323198485#64)) ^^^ ((p0_1 + (11400714819323198485#64)) / (1073741824#64))) * (13787848793156543929#64)) / (134217728#64))) * (10723151780598845931#64)))) (Nat.zero_le _) rfl (ev_move rfl) rfl ?_
  refine MO.op (v := (w64 (((((p0_1 + (11400714819323198485#64)) ^^^ ((p0_1 + (11400714819323198485#64)) / (1073741824#64))) * (13787848793156543929#64)) ^^^ ((((p0_1 + (11400714819323198485#64)) ^^^ ((p0_1 + (11400714819323198485#64)) / (1073741824#64))) * (13787848793156543929#64)) / (134217728#64))) * (10723151780598845931#64)))) (Nat.zero_le _) rfl (ev_move rfl) rfl ?_
  refine MO.op (v := (w64 ((((((p0_1 + (11400714819323198485#64)) ^^^ ((p0_1 + (11400714819323198485#64)) / (1073741824#64))) * (13787848793156543929#64)) ^^^ ((((p0_1 + (11400714819323198485#64)) ^^^ ((p0_1 + (11400714819323198485#64)) / (1073741824#64))) * (13787848793156543929#64)) / (134217728#64))) * (10723151780598845931#64)) / (2147483648#64)))) (Nat.zero_le _) rfl (ev_bin (x := (w64 (((((p0_1 + (11400714819323198485#64)) ^^^ ((p0_1 + (11400714819323198485#64)) / (1073741824#64))) * (13787848793156543929#64)) ^^^ ((((p0_1 + (11400714819323198485#64)) ^^^ ((p0_1 + (11400714819323198485#64)) / (1073741824#64))) * (13787848793156543929#64)) / (134217728#64))) * (10723151780598845931#64)))) (y := (w64 (2147483648#64))) rfl rfl (word_quo (by decide))) rfl ?_
  refine MO.op (v := (w64 ((((((p0_1 + (11400714819323198485#64)) ^^^ ((p0_1 + (11400714819323198485#64)) / (1073741824#64))) * (13787848793156543929#64)) ^^^ ((((p0_1 + (11400714819323198485#64)) ^^^ ((p0_1 + (11400714819323198485#64)) / (1073741824#64))) * (13787848793156543929#64)) / (134217728#64))) * (10723151780598845931#64)) ^^^ ((((((p0_1 + (11400714819323198485#64)) ^^^ ((p0_1 + (11400714819323198485#64)) / (1073741824#64))) * (13787848793156543929#64)) ^^^ ((((p0_1 + (11400714819323198485#64)) ^^^ ((p0_1 + (11400714819323198485#64)) / (1073741824#64))) * (13787848793156543929#64)) / (134217728#64))) * (10723151780598845931#64)) / (2147483648#64))))) (Nat.zero_le _) rfl (ev_bin (x := (w64 (((((p0_1 + (11400714819323198485#64)) ^^^ ((p0_1 + (11400714819323198485#64)) / (1073741824#64))) * (13787848793156543929#64)) ^^^ ((((p0_1 + (11400714819323198485#64)) ^^^ ((p0_1 + (11400714819323198485#64)) / (1073741824#64))) * (13787848793156543929#64)) / (134217728#64))) * (10723151780598845931#64)))) (y := (w64 ((((((p0_1 + (11400714819323198485#64)) ^^^ ((p0_1 + (11400714819323198485#64)) / (1073741824#64))) * (13787848793156543929#64)) ^^^ ((((p0_1 + (11400714819323198485#64)) ^^^ ((p0_1 + (11400714819323198485#64)) / (1073741824#64))) * (13787848793156543929#64)) / (134217728#64))) * (10723151780598845931#64)) / (2147483648#64)))) rfl rfl word_xor) rfl ?_
  refine MO.op (v := (w64 ((((((p0_1 + (11400714819323198485#64)) ^^^ ((p0_1 + (11400714819323198485#64)) / (1073741824#64))) * (13787848793156543929#64)) ^^^ ((((p0_1 + (11400714819323198485#64)) ^^^ ((p0_1 + (11400714819323198485#64)) / (1073741824#64))) * (13787848793156543929#64)) / (134217728#64))) * (10723151780598845931#64)) ^^^ ((((((p0_1 + (11400714819323198485#64)) ^^^ ((p0_1 + (11400714819323198485#64)) / (1073741824#64))) * (13787848793156543929#64)) ^^^ ((((p0_1 + (11400714819323198485#64)) ^^^ ((p0_1 + (11400714819323198485#64)) / (1073741824#64))) * (13787848793156543929#64)) / (134217728#64))) * (10723151780598845931#64)) / (2147483648#64))))) (Nat.zero_le _) rfl (ev_assign rfl) rfl ?_
  refine MO.nil ?_
  refine Then.at ?_
  show MC _ _ _ _ _ _ _
  refine MC.ret ?_
  obtain rfl := Option.some.inj h
  exact ⟨.inr rfl, _, (res_cons (res_tmp rfl) res_nil), rfl⟩
noncomputable def F_R03_At (p0_1 : (BitVec 64)) (p1_2 : (BitVec 64)) : Option ((BitVec 64)) :=
  Option.bind (F_R03_Mix (p0_1 + (p1_2 * (11400714819323198485#64)))) fun r3 =>
  some (r3)
theorem F_R03_At.ok {p0_1 : (BitVec 64)} {p1_2 : (BitVec 64)} {r : ((BitVec 64))} (h : F_R03_At p0_1 p1_2 = some r) : Pure Try.prog 24 [(w64 p0_1), (w64 p1_2)] (w64 r) := by
  unfold F_R03_At at h
  refine ⟨(.cons (.prim rfl) (.cons (.prim rfl) .nil)), (.prim rfl), Fn.enter Try.func24 (by kernel_rfl) rfl (of_decide_eq_true rfl) ?_⟩
  have hH : Hp ⟨0, []⟩ [] := Hp.nil (Nat.le_refl _)
  show MC _ _ _ _ _ _ _
  refine MC.seq ?_
  show MC _ _ _ _ _ _ _
  refine MC.region ?_
  refine MO.op (v := (w64 (0#64))) (Nat.zero_le _) rfl (ev_assign rfl) rfl ?_
  refine MO.nil ?_
  refine Then.at ?_
  show MC _ _ _ _ _ _ _
  refine MC.seq ?_
  show MC _ _ _ _ _ _ _
  refine MC.region ?_
  refine MO.op (v := (w64 p0_1)) (Nat.zero_le _) rfl (ev_move rfl) rfl ?_
  refine MO.op (v := (w64 p1_2)) (Nat.zero_le _) rfl (ev_move rfl) rfl ?_
  refine MO.op (v := (w64 (p1_2 * (11400714819323198485#64)))) (Nat.zero_le _) rfl (ev_bin (x := (w64 p1_2)) (y := (w64 (11400714819323198485#64))) rfl rfl word_mul) rfl ?_
  refine MO.op (v := (w64 (p0_1 + (p1_2 * (11400714819323198485#64))))) (Nat.zero_le _) rfl (ev_bin (x := (w64 p0_1)) (y := (w64 (p1_2 * (11400714819323198485#64)))) rfl rfl word_add) rfl ?_
  obtain ⟨r3, e4, h⟩ := bind_some h
  refine MO.pureW (v := (w64 r3)) (vs := [(w64 (p0_1 + (p1_2 * (11400714819323198485#64))))]) (as' := [(w64 (p0_1 + (p1_2 * (11400714819323198485#64))))]) (Nat.zero_le _) rfl rfl (callee_of rfl (args_cons rfl args_nil)) (LWk.cons (Wk.same _) LWk.nil) (F_R03_Mix.ok e4) rfl ?_
  refine MO.op (v := (w64 r3)) (Nat.zero_le _) rfl (ev_assign rfl) rfl ?_
  refine MO.nil ?_
  refine Then.at ?_
  show MC _ _ _ _ _ _ _
  refine MC.ret ?_
  obtain rfl := Option.some.inj h
  exact ⟨.inr rfl, _, (res_cons (res_tmp rfl) res_nil), rfl⟩
noncomputable def F_R44_Sign (p0_1 : (BitVec 64)) (p1_2 : Int) (p2_3 : Int) : Option (Int) :=
  if p1_2 < (0 : Int) then
    some ((0 : Int))
  else
    if p2_3 < (0 : Int) then
      some ((0 : Int))
    else
      Option.bind (F_R03_At p0_1 (BitVec.ofInt 64 p1_2)) fun r6 =>
      Option.bind (F_R03_At r6 (BitVec.ofInt 64 p2_3)) fun r8 =>
      if (r8 % (2#64)) = (1#64) then
        some ((1 : Int))
      else
        some ((-1 : Int))
theorem F_R44_Sign.ok {p0_1 : (BitVec 64)} {p1_2 : Int} {p2_3 : Int} {r : (Int)} (h : F_R44_Sign p0_1 p1_2 p2_3 = some r) : Pure Try.prog 9 [(w64 p0_1), (Value.int .i64 p1_2), (Value.int .i64 p2_3)] (Value.int .i64 r) := by
  unfold F_R44_Sign at h
  refine ⟨(.cons (.prim rfl) (.cons (.prim rfl) (.cons (.prim rfl) .nil))), (.prim rfl), Fn.enter Try.func9 (by kernel_rfl) rfl (of_decide_eq_true rfl) ?_⟩
  have hH : Hp ⟨0, []⟩ [] := Hp.nil (Nat.le_refl _)
  show MC _ _ _ _ _ _ _
  refine MC.seq ?_
  show MC _ _ _ _ _ _ _
  refine MC.region ?_
  refine MO.op (v := (Value.int .i64 (0 : Int))) (Nat.zero_le _) rfl (ev_assign rfl) rfl ?_
  refine MO.nil ?_
  refine Then.at ?_
  show MC _ _ _ _ _ _ _
  refine MC.seq ?_
  show MC _ _ _ _ _ _ _
  refine MC.seq ?_
  show MC _ _ _ _ _ _ _
  refine MC.region ?_
  refine MO.op (v := (Value.int .i64 p1_2)) (Nat.zero_le _) rfl (ev_move rfl) rfl ?_
  refine MO.op (v := (Value.bool (decide (p1_2 < (0 : Int))))) (Nat.zero_le _) rfl (ev_bin (x := (Value.int .i64 p1_2)) (y := (Value.int .i64 (0 : Int))) rfl rfl int_lss) rfl ?_
  refine MO.op (v := (Value.bool (decide (p1_2 < (0 : Int))))) (Nat.zero_le _) rfl (ev_move rfl) rfl ?_
  by_cases hc4 : p1_2 < (0 : Int)
  · rw [if_pos hc4] at h
    refine MO.skip (want_no (q := true) rfl rfl (Eq.trans (b := Value.bool (decide (p1_2 < (0 : Int)))) rfl (congrArg Value.bool (decide_eq_true hc4))) rfl) rfl ?_
    refine MO.skip (want_no (q := true) rfl rfl (Eq.trans (b := Value.bool (decide (p1_2 < (0 : Int)))) rfl (congrArg Value.bool (decide_eq_true hc4))) rfl) rfl ?_
    refine MO.op (v := (Value.bool true)) (Nat.zero_le _) rfl (ev_pickT (Eq.trans (b := Value.bool (decide (p1_2 < (0 : Int)))) rfl (congrArg Value.bool (decide_eq_true hc4))) rfl) rfl ?_
    refine MO.nil ?_
    refine Then.at ?_
    show MC _ _ _ _ _ _ _
    refine MC.condT rfl ?_
    show MC _ _ _ _ _ _ _
    refine MC.seq ?_
    show MC _ _ _ _ _ _ _
    refine MC.region ?_
    refine MO.op (v := (Value.int .i64 (0 : Int))) (Nat.zero_le _) rfl (ev_assign rfl) rfl ?_
    refine MO.nil ?_
    refine Then.at ?_
    show MC _ _ _ _ _ _ _
    refine MC.ret ?_
    refine Then.ret ?_
    obtain rfl := Option.some.inj h
    exact ⟨.inr rfl, _, (res_cons (res_tmp rfl) res_nil), rfl⟩
  · rw [if_neg hc4] at h
    refine MO.op (v := (Value.int .i64 p2_3)) (Nat.zero_le _) (want_yes (q := false) rfl rfl (Eq.trans (b := Value.bool (decide (p1_2 < (0 : Int)))) rfl (congrArg Value.bool (decide_eq_false hc4))) rfl) (ev_move rfl) rfl ?_
    refine MO.op (v := (Value.bool (decide (p2_3 < (0 : Int))))) (Nat.zero_le _) (want_yes (q := false) rfl rfl (Eq.trans (b := Value.bool (decide (p1_2 < (0 : Int)))) rfl (congrArg Value.bool (decide_eq_false hc4))) rfl) (ev_bin (x := (Value.int .i64 p2_3)) (y := (Value.int .i64 (0 : Int))) rfl rfl int_lss) rfl ?_
    refine MO.op (v := (Value.bool (decide (p2_3 < (0 : Int))))) (Nat.zero_le _) rfl (ev_pickF (Eq.trans (b := Value.bool (decide (p1_2 < (0 : Int)))) rfl (congrArg Value.bool (decide_eq_false hc4))) rfl) rfl ?_
    refine MO.nil ?_
    refine Then.at ?_
    by_cases hc5 : p2_3 < (0 : Int)
    · rw [if_pos hc5] at h
      show MC _ _ _ _ _ _ _
      refine MC.condT (Eq.trans (b := Value.bool (decide (p2_3 < (0 : Int)))) rfl (congrArg Value.bool (decide_eq_true hc5))) ?_
      show MC _ _ _ _ _ _ _
      refine MC.seq ?_
      show MC _ _ _ _ _ _ _
      refine MC.region ?_
      refine MO.op (v := (Value.int .i64 (0 : Int))) (Nat.zero_le _) rfl (ev_assign rfl) rfl ?_
      refine MO.nil ?_
      refine Then.at ?_
      show MC _ _ _ _ _ _ _
      refine MC.ret ?_
      refine Then.ret ?_
      obtain rfl := Option.some.inj h
      exact ⟨.inr rfl, _, (res_cons (res_tmp rfl) res_nil), rfl⟩
    · rw [if_neg hc5] at h
      show MC _ _ _ _ _ _ _
      refine MC.condF (Eq.trans (b := Value.bool (decide (p2_3 < (0 : Int)))) rfl (congrArg Value.bool (decide_eq_false hc5))) ?_
      show MC _ _ _ _ _ _ _
      refine MC.skip ?_
      refine Then.at ?_
      show MC _ _ _ _ _ _ _
      refine MC.seq ?_
      show MC _ _ _ _ _ _ _
      refine MC.seq ?_
      show MC _ _ _ _ _ _ _
      refine MC.region ?_
      refine MO.op (v := (w64 p0_1)) (Nat.zero_le _) rfl (ev_move rfl) rfl ?_
      refine MO.op (v := (Value.int .i64 p1_2)) (Nat.zero_le _) rfl (ev_move rfl) rfl ?_
      refine MO.op (v := (w64 (BitVec.ofInt 64 p1_2))) (Nat.zero_le _) rfl (ev_conv (x := Value.int .i64 p1_2) rfl (conv_word Try.underlying3 Try.underlying23)) rfl ?_
      obtain ⟨r6, e7, h⟩ := bind_some h
      refine MO.pureW (v := (w64 r6)) (vs := [(w64 p0_1), (w64 (BitVec.ofInt 64 p1_2))]) (as' := [(w64 p0_1), (w64 (BitVec.ofInt 64 p1_2))]) (Nat.zero_le _) rfl rfl (callee_of rfl (args_cons rfl (args_cons rfl args_nil))) (LWk.cons (Wk.same _) (LWk.cons (Wk.same _) LWk.nil)) (F_R03_At.ok e7) rfl ?_
      refine MO.op (v := (Value.int .i64 p2_3)) (Nat.zero_le _) rfl (ev_move rfl) rfl ?_
      refine MO.op (v := (w64 (BitVec.ofInt 64 p2_3))) (Nat.zero_le _) rfl (ev_conv (x := Value.int .i64 p2_3) rfl (conv_word Try.underlying3 Try.underlying23)) rfl ?_
      obtain ⟨r8, e9, h⟩ := bind_some h
      refine MO.pureW (v := (w64 r8)) (vs := [(w64 r6), (w64 (BitVec.ofInt 64 p2_3))]) (as' := [(w64 r6), (w64 (BitVec.ofInt 64 p2_3))]) (Nat.zero_le _) rfl rfl (callee_of rfl (args_cons rfl (args_cons rfl args_nil))) (LWk.cons (Wk.same _) (LWk.cons (Wk.same _) LWk.nil)) (F_R03_At.ok e9) rfl ?_
      refine MO.op (v := (w64 (r8 % (2#64)))) (Nat.zero_le _) rfl (ev_bin (x := (w64 r8)) (y := (w64 (2#64))) rfl rfl (word_rem (by decide))) rfl ?_
      refine MO.op (v := (Value.bool (decide ((r8 % (2#64)) = (1#64))))) (Nat.zero_le _) rfl (ev_bin (x := (w64 (r8 % (2#64)))) (y := (w64 (1#64))) rfl rfl word_eql) rfl ?_
      refine MO.nil ?_
      refine Then.at ?_
      by_cases hc10 : (r8 % (2#64)) = (1#64)
      · rw [if_pos hc10] at h
        show MC _ _ _ _ _ _ _
        refine MC.condT (Eq.trans (b := Value.bool (decide ((r8 % (2#64)) = (1#64)))) rfl (congrArg Value.bool (decide_eq_true hc10))) ?_
        show MC _ _ _ _ _ _ _
        refine MC.seq ?_
        show MC _ _ _ _ _ _ _
        refine MC.region ?_
        refine MO.op (v := (Value.int .i64 (1 : Int))) (Nat.zero_le _) rfl (ev_assign rfl) rfl ?_
        refine MO.nil ?_
        refine Then.at ?_
        show MC _ _ _ _ _ _ _
        refine MC.ret ?_
        refine Then.ret ?_
        obtain rfl := Option.some.inj h
        exact ⟨.inr rfl, _, (res_cons (res_tmp rfl) res_nil), rfl⟩
      · rw [if_neg hc10] at h
        show MC _ _ _ _ _ _ _
        refine MC.condF (Eq.trans (b := Value.bool (decide ((r8 % (2#64)) = (1#64)))) rfl (congrArg Value.bool (decide_eq_false hc10))) ?_
        show MC _ _ _ _ _ _ _
        refine MC.skip ?_
        refine Then.at ?_
        show MC _ _ _ _ _ _ _
        refine MC.seq ?_
        show MC _ _ _ _ _ _ _
        refine MC.region ?_
        refine MO.op (v := (Value.int .i64 (-1 : Int))) (Nat.zero_le _) rfl (ev_assign rfl) rfl ?_
        refine MO.nil ?_
        refine Then.at ?_
        show MC _ _ _ _ _ _ _
        refine MC.ret ?_
        obtain rfl := Option.some.inj h
        exact ⟨.inr rfl, _, (res_cons (res_tmp rfl) res_nil), rfl⟩
noncomputable def F_R01_Has (p0_1 : (List (BitVec 64))) (p1_2 : Int) : Option (Bool) :=
  if (0 : Int) ≤ p1_2 then
    if p1_2 < (4096 : Int) then
      if (wr (Int.tdiv p1_2 (64 : Int))) < (p0_1.length : Int) then
        Option.bind (gx p0_1 (wr (Int.tdiv p1_2 (64 : Int)))) fun x6 =>
        some ((decide (((x6 >>> (BitVec.ofInt 64 (Int.tmod p1_2 (64 : Int))).toNat) &&& (1#64)) = (1#64))))
      else
        some (false)
    else
      some (false)
  else
    some (false)
theorem F_R01_Has.ok {p0_1 : (List (BitVec 64))} {p1_2 : Int} {r : (Bool)} (h : F_R01_Has p0_1 p1_2 = some r) : Pure Try.prog 36 [(slv eW p0_1), (Value.int .i64 p1_2)] (Value.bool r) := by
  unfold F_R01_Has at h
  refine ⟨(.cons (slv_flat _ _) (.cons (.prim rfl) .nil)), (.prim rfl), Fn.enter Try.func36 (by kernel_rfl) rfl (of_decide_eq_true rfl) ?_⟩
  have hH : Hp ⟨0, []⟩ [] := Hp.nil (Nat.le_refl _)
  show MC _ _ _ _ _ _ _
  refine MC.seq ?_
  show MC _ _ _ _ _ _ _
  refine MC.region ?_
  refine MO.op (v := (Value.bool false)) (Nat.zero_le _) rfl (ev_assign rfl) rfl ?_
  refine MO.nil ?_
  refine Then.at ?_
  show MC _ _ _ _ _ _ _
  refine MC.seq ?_
  show MC _ _ _ _ _ _ _
  refine MC.region ?_
  refine MO.op (v := (Value.int .i64 p1_2)) (Nat.zero_le _) rfl (ev_move rfl) rfl ?_
  refine MO.op (v := (Value.bool (decide ((0 : Int) ≤ p1_2)))) (Nat.zero_le _) rfl (ev_bin (x := (Value.int .i64 p1_2)) (y := (Value.int .i64 (0 : Int))) rfl rfl int_geq) rfl ?_
  refine MO.op (v := (Value.bool (decide ((0 : Int) ≤ p1_2)))) (Nat.zero_le _) rfl (ev_move rfl) rfl ?_
  by_cases hc3 : (0 : Int) ≤ p1_2
  · rw [if_pos hc3] at h
    refine MO.op (v := (Value.int .i64 p1_2)) (Nat.zero_le _) (want_yes (q := true) rfl rfl (Eq.trans (b := Value.bool (decide ((0 : Int) ≤ p1_2))) rfl (congrArg Value.bool (decide_eq_true hc3))) rfl) (ev_move rfl) rfl ?_
    refine MO.op (v := (Value.bool (decide (p1_2 < (4096 : Int))))) (Nat.zero_le _) (want_yes (q := true) rfl rfl (Eq.trans (b := Value.bool (decide ((0 : Int) ≤ p1_2))) rfl (congrArg Value.bool (decide_eq_true hc3))) rfl) (ev_bin (x := (Value.int .i64 p1_2)) (y := (Value.int .i64 (4096 : Int))) rfl rfl int_lss) rfl ?_
    refine MO.op (v := (Value.bool (decide (p1_2 < (4096 : Int))))) (Nat.zero_le _) rfl (ev_pickT (Eq.trans (b := Value.bool (decide ((0 : Int) ≤ p1_2))) rfl (congrArg Value.bool (decide_eq_true hc3))) rfl) rfl ?_
    refine MO.op (v := (Value.bool (decide (p1_2 < (4096 : Int))))) (Nat.zero_le _) rfl (ev_move rfl) rfl ?_
    by_cases hc4 : p1_2 < (4096 : Int)
    · rw [if_pos hc4] at h
      refine MO.op (v := (Value.int .i64 p1_2)) (Nat.zero_le _) (want_yes (q := true) rfl rfl (Eq.trans (b := Value.bool (decide (p1_2 < (4096 : Int)))) rfl (congrArg Value.bool (decide_eq_true hc4))) rfl) (ev_move rfl) rfl ?_
      refine MO.op (v := (Value.int .i64 (wr (Int.tdiv p1_2 (64 : Int))))) (Nat.zero_le _) (want_yes (q := true) rfl rfl (Eq.trans (b := Value.bool (decide (p1_2 < (4096 : Int)))) rfl (congrArg Value.bool (decide_eq_true hc4))) rfl) (ev_bin (x := (Value.int .i64 p1_2)) (y := (Value.int .i64 (64 : Int))) rfl rfl (int_quo (by decide))) rfl ?_
      refine MO.op (v := (slv eW p0_1)) (Nat.zero_le _) (want_yes (q := true) rfl rfl (Eq.trans (b := Value.bool (decide (p1_2 < (4096 : Int)))) rfl (congrArg Value.bool (decide_eq_true hc4))) rfl) (ev_move rfl) rfl ?_
      refine MO.op (v := (Value.int .i64 (p0_1.length : Int))) (Nat.zero_le _) (want_yes (q := true) rfl rfl (Eq.trans (b := Value.bool (decide (p1_2 < (4096 : Int)))) rfl (congrArg Value.bool (decide_eq_true hc4))) rfl) (ev_len (x := (slv eW p0_1)) rfl (len_still Try.underlying25 _ _)) rfl ?_
      refine MO.op (v := (Value.bool (decide ((wr (Int.tdiv p1_2 (64 : Int))) < (p0_1.length : Int))))) (Nat.zero_le _) (want_yes (q := true) rfl rfl (Eq.trans (b := Value.bool (decide (p1_2 < (4096 : Int)))) rfl (congrArg Value.bool (decide_eq_true hc4))) rfl) (ev_bin (x := (Value.int .i64 (wr (Int.tdiv p1_2 (64 : Int))))) (y := (Value.int .i64 (p0_1.length : Int))) rfl rfl int_lss) rfl ?_
      refine MO.op (v := (Value.bool (decide ((wr (Int.tdiv p1_2 (64 : Int))) < (p0_1.length : Int))))) (Nat.zero_le _) rfl (ev_pickT (Eq.trans (b := Value.bool (decide (p1_2 < (4096 : Int)))) rfl (congrArg Value.bool (decide_eq_true hc4))) rfl) rfl ?_
      refine MO.op (v := (Value.bool (decide ((wr (Int.tdiv p1_2 (64 : Int))) < (p0_1.length : Int))))) (Nat.zero_le _) rfl (ev_move rfl) rfl ?_
      by_cases hc5 : (wr (Int.tdiv p1_2 (64 : Int))) < (p0_1.length : Int)
      · rw [if_pos hc5] at h
        refine MO.op (v := (slv eW p0_1)) (Nat.zero_le _) (want_yes (q := true) rfl rfl (Eq.trans (b := Value.bool (decide ((wr (Int.tdiv p1_2 (64 : Int))) < (p0_1.length : Int)))) rfl (congrArg Value.bool (decide_eq_true hc5))) rfl) (ev_move rfl) rfl ?_
        refine MO.op (v := (Value.int .i64 p1_2)) (Nat.zero_le _) (want_yes (q := true) rfl rfl (Eq.trans (b := Value.bool (decide ((wr (Int.tdiv p1_2 (64 : Int))) < (p0_1.length : Int)))) rfl (congrArg Value.bool (decide_eq_true hc5))) rfl) (ev_move rfl) rfl ?_
        refine MO.op (v := (Value.int .i64 (wr (Int.tdiv p1_2 (64 : Int))))) (Nat.zero_le _) (want_yes (q := true) rfl rfl (Eq.trans (b := Value.bool (decide ((wr (Int.tdiv p1_2 (64 : Int))) < (p0_1.length : Int)))) rfl (congrArg Value.bool (decide_eq_true hc5))) rfl) (ev_bin (x := (Value.int .i64 p1_2)) (y := (Value.int .i64 (64 : Int))) rfl rfl (int_quo (by decide))) rfl ?_
        obtain ⟨x6, e7, h⟩ := bind_some h
        refine MO.op (v := (ptv eW x6)) (Nat.zero_le _) (want_yes (q := true) rfl rfl (Eq.trans (b := Value.bool (decide ((wr (Int.tdiv p1_2 (64 : Int))) < (p0_1.length : Int)))) rfl (congrArg Value.bool (decide_eq_true hc5))) rfl) (ev_indexAddr (x := (slv eW p0_1)) (y := (Value.int .i64 (wr (Int.tdiv p1_2 (64 : Int))))) rfl rfl (index_still ty23 Try.underlying25 (gx_some e7).1 (gx_some e7).2)) rfl ?_
        refine MO.op (v := (w64 x6)) (Nat.zero_le _) (want_yes (q := true) rfl rfl (Eq.trans (b := Value.bool (decide ((wr (Int.tdiv p1_2 (64 : Int))) < (p0_1.length : Int)))) rfl (congrArg Value.bool (decide_eq_true hc5))) rfl) (ev_load (x := (ptv eW x6)) rfl (load_still ty23 _ _)) rfl ?_
        refine MO.op (v := (Value.int .i64 p1_2)) (Nat.zero_le _) (want_yes (q := true) rfl rfl (Eq.trans (b := Value.bool (decide ((wr (Int.tdiv p1_2 (64 : Int))) < (p0_1.length : Int)))) rfl (congrArg Value.bool (decide_eq_true hc5))) rfl) (ev_move rfl) rfl ?_
        refine MO.op (v := (Value.int .i64 (Int.tmod p1_2 (64 : Int)))) (Nat.zero_le _) (want_yes (q := true) rfl rfl (Eq.trans (b := Value.bool (decide ((wr (Int.tdiv p1_2 (64 : Int))) < (p0_1.length : Int)))) rfl (congrArg Value.bool (decide_eq_true hc5))) rfl) (ev_bin (x := (Value.int .i64 p1_2)) (y := (Value.int .i64 (64 : Int))) rfl rfl (int_rem (by decide))) rfl ?_
        refine MO.op (v := (w64 (BitVec.ofInt 64 (Int.tmod p1_2 (64 : Int))))) (Nat.zero_le _) (want_yes (q := true) rfl rfl (Eq.trans (b := Value.bool (decide ((wr (Int.tdiv p1_2 (64 : Int))) < (p0_1.length : Int)))) rfl (congrArg Value.bool (decide_eq_true hc5))) rfl) (ev_conv (x := Value.int .i64 (Int.tmod p1_2 (64 : Int))) rfl (conv_word Try.underlying3 Try.underlying42)) rfl ?_
        refine MO.op (v := (w64 (x6 >>> (BitVec.ofInt 64 (Int.tmod p1_2 (64 : Int))).toNat))) (Nat.zero_le _) (want_yes (q := true) rfl rfl (Eq.trans (b := Value.bool (decide ((wr (Int.tdiv p1_2 (64 : Int))) < (p0_1.length : Int)))) rfl (congrArg Value.bool (decide_eq_true hc5))) rfl) (ev_bin (x := (w64 x6)) (y := (w64 (BitVec.ofInt 64 (Int.tmod p1_2 (64 : Int))))) rfl rfl (word_shr (by exact_mod_cast Nat.zero_le _))) rfl ?_
        refine MO.op (v := (w64 ((x6 >>> (BitVec.ofInt 64 (Int.tmod p1_2 (64 : Int))).toNat) &&& (1#64)))) (Nat.zero_le _) (want_yes (q := true) rfl rfl (Eq.trans (b := Value.bool (decide ((wr (Int.tdiv p1_2 (64 : Int))) < (p0_1.length : Int)))) rfl (congrArg Value.bool (decide_eq_true hc5))) rfl) (ev_bin (x := (w64 (x6 >>> (BitVec.ofInt 64 (Int.tmod p1_2 (64 : Int))).toNat))) (y := (w64 (1#64))) rfl rfl word_and) rfl ?_
        refine MO.op (v := (Value.bool (decide (((x6 >>> (BitVec.ofInt 64 (Int.tmod p1_2 (64 : Int))).toNat) &&& (1#64)) = (1#64))))) (Nat.zero_le _) (want_yes (q := true) rfl rfl (Eq.trans (b := Value.bool (decide ((wr (Int.tdiv p1_2 (64 : Int))) < (p0_1.length : Int)))) rfl (congrArg Value.bool (decide_eq_true hc5))) rfl) (ev_bin (x := (w64 ((x6 >>> (BitVec.ofInt 64 (Int.tmod p1_2 (64 : Int))).toNat) &&& (1#64)))) (y := (w64 (1#64))) rfl rfl word_eql) rfl ?_
        refine MO.op (v := (Value.bool (decide (((x6 >>> (BitVec.ofInt 64 (Int.tmod p1_2 (64 : Int))).toNat) &&& (1#64)) = (1#64))))) (Nat.zero_le _) rfl (ev_pickT (Eq.trans (b := Value.bool (decide ((wr (Int.tdiv p1_2 (64 : Int))) < (p0_1.length : Int)))) rfl (congrArg Value.bool (decide_eq_true hc5))) rfl) rfl ?_
        refine MO.op (v := (Value.bool (decide (((x6 >>> (BitVec.ofInt 64 (Int.tmod p1_2 (64 : Int))).toNat) &&& (1#64)) = (1#64))))) (Nat.zero_le _) rfl (ev_assign rfl) rfl ?_
        refine MO.nil ?_
        refine Then.at ?_
        show MC _ _ _ _ _ _ _
        refine MC.ret ?_
        obtain rfl := Option.some.inj h
        exact ⟨.inr rfl, _, (res_cons (res_tmp rfl) res_nil), rfl⟩
      · rw [if_neg hc5] at h
        refine MO.skip (want_no (q := false) rfl rfl (Eq.trans (b := Value.bool (decide ((wr (Int.tdiv p1_2 (64 : Int))) < (p0_1.length : Int)))) rfl (congrArg Value.bool (decide_eq_false hc5))) rfl) rfl ?_
        refine MO.skip (want_no (q := false) rfl rfl (Eq.trans (b := Value.bool (decide ((wr (Int.tdiv p1_2 (64 : Int))) < (p0_1.length : Int)))) rfl (congrArg Value.bool (decide_eq_false hc5))) rfl) rfl ?_
        refine MO.skip (want_no (q := false) rfl rfl (Eq.trans (b := Value.bool (decide ((wr (Int.tdiv p1_2 (64 : Int))) < (p0_1.length : Int)))) rfl (congrArg Value.bool (decide_eq_false hc5))) rfl) rfl ?_
        refine MO.skip (want_no (q := false) rfl rfl (Eq.trans (b := Value.bool (decide ((wr (Int.tdiv p1_2 (64 : Int))) < (p0_1.length : Int)))) rfl (congrArg Value.bool (decide_eq_false hc5))) rfl) rfl ?_
        refine MO.skip (want_no (q := false) rfl rfl (Eq.trans (b := Value.bool (decide ((wr (Int.tdiv p1_2 (64 : Int))) < (p0_1.length : Int)))) rfl (congrArg Value.bool (decide_eq_false hc5))) rfl) rfl ?_
        refine MO.skip (want_no (q := false) rfl rfl (Eq.trans (b := Value.bool (decide ((wr (Int.tdiv p1_2 (64 : Int))) < (p0_1.length : Int)))) rfl (congrArg Value.bool (decide_eq_false hc5))) rfl) rfl ?_
        refine MO.skip (want_no (q := false) rfl rfl (Eq.trans (b := Value.bool (decide ((wr (Int.tdiv p1_2 (64 : Int))) < (p0_1.length : Int)))) rfl (congrArg Value.bool (decide_eq_false hc5))) rfl) rfl ?_
        refine MO.skip (want_no (q := false) rfl rfl (Eq.trans (b := Value.bool (decide ((wr (Int.tdiv p1_2 (64 : Int))) < (p0_1.length : Int)))) rfl (congrArg Value.bool (decide_eq_false hc5))) rfl) rfl ?_
        refine MO.skip (want_no (q := false) rfl rfl (Eq.trans (b := Value.bool (decide ((wr (Int.tdiv p1_2 (64 : Int))) < (p0_1.length : Int)))) rfl (congrArg Value.bool (decide_eq_false hc5))) rfl) rfl ?_
        refine MO.skip (want_no (q := false) rfl rfl (Eq.trans (b := Value.bool (decide ((wr (Int.tdiv p1_2 (64 : Int))) < (p0_1.length : Int)))) rfl (congrArg Value.bool (decide_eq_false hc5))) rfl) rfl ?_
        refine MO.skip (want_no (q := false) rfl rfl (Eq.trans (b := Value.bool (decide ((wr (Int.tdiv p1_2 (64 : Int))) < (p0_1.length : Int)))) rfl (congrArg Value.bool (decide_eq_false hc5))) rfl) rfl ?_
        refine MO.op (v := (Value.bool false)) (Nat.zero_le _) rfl (ev_pickF (Eq.trans (b := Value.bool (decide ((wr (Int.tdiv p1_2 (64 : Int))) < (p0_1.length : Int)))) rfl (congrArg Value.bool (decide_eq_false hc5))) rfl) rfl ?_
        refine MO.op (v := (Value.bool false)) (Nat.zero_le _) rfl (ev_assign rfl) rfl ?_
        refine MO.nil ?_
        refine Then.at ?_
        show MC _ _ _ _ _ _ _
        refine MC.ret ?_
        obtain rfl := Option.some.inj h
        exact ⟨.inr rfl, _, (res_cons (res_tmp rfl) res_nil), rfl⟩
    · rw [if_neg hc4] at h
      refine MO.skip (want_no (q := false) rfl rfl (Eq.trans (b := Value.bool (decide (p1_2 < (4096 : Int)))) rfl (congrArg Value.bool (decide_eq_false hc4))) rfl) rfl ?_
      refine MO.skip (want_no (q := false) rfl rfl (Eq.trans (b := Value.bool (decide (p1_2 < (4096 : Int)))) rfl (congrArg Value.bool (decide_eq_false hc4))) rfl) rfl ?_
      refine MO.skip (want_no (q := false) rfl rfl (Eq.trans (b := Value.bool (decide (p1_2 < (4096 : Int)))) rfl (congrArg Value.bool (decide_eq_false hc4))) rfl) rfl ?_
      refine MO.skip (want_no (q := false) rfl rfl (Eq.trans (b := Value.bool (decide (p1_2 < (4096 : Int)))) rfl (congrArg Value.bool (decide_eq_false hc4))) rfl) rfl ?_
      refine MO.skip (want_no (q := false) rfl rfl (Eq.trans (b := Value.bool (decide (p1_2 < (4096 : Int)))) rfl (congrArg Value.bool (decide_eq_false hc4))) rfl) rfl ?_
      refine MO.op (v := (Value.bool false)) (Nat.zero_le _) rfl (ev_pickF (Eq.trans (b := Value.bool (decide (p1_2 < (4096 : Int)))) rfl (congrArg Value.bool (decide_eq_false hc4))) rfl) rfl ?_
      refine MO.op (v := (Value.bool false)) (Nat.zero_le _) rfl (ev_move rfl) rfl ?_
      refine MO.skip (want_no (q := false) rfl rfl rfl rfl) rfl ?_
      refine MO.skip (want_no (q := false) rfl rfl rfl rfl) rfl ?_
      refine MO.skip (want_no (q := false) rfl rfl rfl rfl) rfl ?_
      refine MO.skip (want_no (q := false) rfl rfl rfl rfl) rfl ?_
      refine MO.skip (want_no (q := false) rfl rfl rfl rfl) rfl ?_
      refine MO.skip (want_no (q := false) rfl rfl rfl rfl) rfl ?_
      refine MO.skip (want_no (q := false) rfl rfl rfl rfl) rfl ?_
      refine MO.skip (want_no (q := false) rfl rfl rfl rfl) rfl ?_
      refine MO.skip (want_no (q := false) rfl rfl rfl rfl) rfl ?_
      refine MO.skip (want_no (q := false) rfl rfl rfl rfl) rfl ?_
      refine MO.skip (want_no (q := false) rfl rfl rfl rfl) rfl ?_
      refine MO.op (v := (Value.bool false)) (Nat.zero_le _) rfl (ev_pickF rfl rfl) rfl ?_
      refine MO.op (v := (Value.bool false)) (Nat.zero_le _) rfl (ev_assign rfl) rfl ?_
      refine MO.nil ?_
      refine Then.at ?_
      show MC _ _ _ _ _ _ _
      refine MC.ret ?_
      obtain rfl := Option.some.inj h
      exact ⟨.inr rfl, _, (res_cons (res_tmp rfl) res_nil), rfl⟩
  · rw [if_neg hc3] at h
    refine MO.skip (want_no (q := false) rfl rfl (Eq.trans (b := Value.bool (decide ((0 : Int) ≤ p1_2))) rfl (congrArg Value.bool (decide_eq_false hc3))) rfl) rfl ?_
    refine MO.skip (want_no (q := false) rfl rfl (Eq.trans (b := Value.bool (decide ((0 : Int) ≤ p1_2))) rfl (congrArg Value.bool (decide_eq_false hc3))) rfl) rfl ?_
    refine MO.op (v := (Value.bool false)) (Nat.zero_le _) rfl (ev_pickF (Eq.trans (b := Value.bool (decide ((0 : Int) ≤ p1_2))) rfl (congrArg Value.bool (decide_eq_false hc3))) rfl) rfl ?_
    refine MO.op (v := (Value.bool false)) (Nat.zero_le _) rfl (ev_move rfl) rfl ?_
    refine MO.skip (want_no (q := false) rfl rfl rfl rfl) rfl ?_
    refine MO.skip (want_no (q := false) rfl rfl rfl rfl) rfl ?_
    refine MO.skip (want_no (q := false) rfl rfl rfl rfl) rfl ?_
    refine MO.skip (want_no (q := false) rfl rfl rfl rfl) rfl ?_
    refine MO.skip (want_no (q := false) rfl rfl rfl rfl) rfl ?_
    refine MO.op (v := (Value.bool false)) (Nat.zero_le _) rfl (ev_pickF rfl rfl) rfl ?_
    refine MO.op (v := (Value.bool false)) (Nat.zero_le _) rfl (ev_move rfl) rfl ?_
    refine MO.skip (want_no (q := false) rfl rfl rfl rfl) rfl ?_
    refine MO.skip (want_no (q := false) rfl rfl rfl rfl) rfl ?_
    refine MO.skip (want_no (q := false) rfl rfl rfl rfl) rfl ?_
    refine MO.skip (want_no (q := false) rfl rfl rfl rfl) rfl ?_
    refine MO.skip (want_no (q := false) rfl rfl rfl rfl) rfl ?_
    refine MO.skip (want_no (q := false) rfl rfl rfl rfl) rfl ?_
    refine MO.skip (want_no (q := false) rfl rfl rfl rfl) rfl ?_
    refine MO.skip (want_no (q := false) rfl rfl rfl rfl) rfl ?_
    refine MO.skip (want_no (q := false) rfl rfl rfl rfl) rfl ?_
    refine MO.skip (want_no (q := false) rfl rfl rfl rfl) rfl ?_
    refine MO.skip (want_no (q := false) rfl rfl rfl rfl) rfl ?_
    refine MO.op (v := (Value.bool false)) (Nat.zero_le _) rfl (ev_pickF rfl rfl) rfl ?_
    refine MO.op (v := (Value.bool false)) (Nat.zero_le _) rfl (ev_assign rfl) rfl ?_
    refine MO.nil ?_
    refine Then.at ?_
    show MC _ _ _ _ _ _ _
    refine MC.ret ?_
    obtain rfl := Option.some.inj h
    exact ⟨.inr rfl, _, (res_cons (res_tmp rfl) res_nil), rfl⟩
noncomputable def F_R01_Of_b2 (x8_17 : Int) (next30 : (Int × (List (BitVec 64)) → Option ((List (BitVec 64))))) (x32 : Int) (next62 : ((List (BitVec 64)) → Option ((List (BitVec 64))))) : (List (BitVec 64)) → Option ((List (BitVec 64)))
  | l48 =>
    if (l48.length : Int) ≤ (wr (Int.tdiv x32 (64 : Int))) then
      Option.bind (app 8 l48 [(0#64)]) fun l69 =>
      next62 (l69)
    else
      Option.bind (F_R01_Has l48 x32) fun r76 =>
      if (!r76) = true then
        Option.bind (gx l48 (wr (Int.tdiv x32 (64 : Int)))) fun x79 =>
        Option.bind (gx l48 (wr (Int.tdiv x32 (64 : Int)))) fun x84 =>
        next30 ((wr (x8_17 + (1 : Int))), (List.set l48 (Int.toNat (wr (Int.tdiv x32 (64 : Int)))) (x79 + ((1#64) <<< (BitVec.ofInt 64 (Int.tmod x32 (64 : Int))).toNat))))
      else
        next30 ((wr (x8_17 + (1 : Int))), l48)
noncomputable def F_R01_Of_b1 (p0_1 : (List Int)) (next30 : (Int × (List (BitVec 64)) → Option ((List (BitVec 64))))) : Int × (List (BitVec 64)) → Option ((List (BitVec 64)))
  | (x8_17, l18) =>
    if x8_17 < (p0_1.length : Int) then
      Option.bind (gx p0_1 x8_17) fun x32 =>
      if x32 < (0 : Int) then
        next30 ((wr (x8_17 + (1 : Int))), l18)
      else
        if (4096 : Int) ≤ x32 then
          next30 ((wr (x8_17 + (1 : Int))), l18)
        else
          loopK (F_R01_Of_b2 x8_17 next30 x32) fuel (l18)
    else
      some (l18)
noncomputable def F_R01_Of (p0_1 : (List Int)) : Option ((List (BitVec 64))) :=
  loopK (F_R01_Of_b1 p0_1) fuel ((0 : Int), ([] : (List (BitVec 64))))
theorem F_R01_Of.own {p0_1 : (List Int)} {r : ((List (BitVec 64)))} (h : F_R01_Of p0_1 = some r) : PureO Try.prog 26 [(slv (eI .i64) p0_1)] eW r := by
  unfold F_R01_Of at h
  refine ⟨(.cons (slv_flat _ _) .nil), by decide, Fn.enter Try.func26 (by kernel_rfl) rfl (of_decide_eq_true rfl) ?_⟩
  have hH : Hp ⟨0, []⟩ [] := Hp.nil (Nat.le_refl _)
  show MC _ _ _ _ _ _ _
  refine MC.seq ?_
  show MC _ _ _ _ _ _ _
  refine MC.region ?_
  have hH2 := hH.nilSl eW
  refine MO.op (v := (Value.slice none 0 0)) (Nat.zero_le _) rfl (ev_assign rfl) rfl ?_
  refine MO.nil ?_
  refine Then.at ?_
  show MC _ _ _ _ _ _ _
  refine MC.seq ?_
  show MC _ _ _ _ _ _ _
  refine MC.region ?_
  have hH4 := hH2.nilSl eW
  refine MO.op (v := (Value.slice none 0 0)) (Nat.zero_le _) rfl (ev_assign rfl) rfl ?_
  refine MO.nil ?_
  refine Then.at ?_
  show MC _ _ _ _ _ _ _
  refine MC.seq ?_
  show MC _ _ _ _ _ _ _
  refine MC.seq ?_
  show MC _ _ _ _ _ _ _
  refine MC.region ?_
  refine MO.op (v := (slv (eI .i64) p0_1)) (Nat.zero_le _) rfl (ev_move rfl) rfl ?_
  refine MO.op (v := (Value.int .i64 (p0_1.length : Int))) (Nat.zero_le _) rfl (ev_len (x := (slv (eI .i64) p0_1)) rfl (len_still Try.underlying32 _ _)) rfl ?_
  refine MO.op (v := (Value.int .i64 (0 : Int))) (Nat.zero_le _) rfl (ev_move rfl) rfl ?_
  refine MO.nil ?_
  refine Then.at ?_
  show MC _ _ _ _ _ _ _
  refine MC.block ?_
  show MC _ _ _ _ _ _ _
  refine MC.loopK (fun (s : Int × (List (BitVec 64))) t σ => ∃ (v20 : Value), t 3 = v20 ∧ t 6 = (slv (eI .i64) p0_1) ∧ t 7 = (Value.int .i64 (p0_1.length : Int)) ∧ t 8 = (Value.int .i64 s.1) ∧ Hp σ [It.sl eW v20 s.2]) h ⟨(Value.slice none 0 0), rfl, rfl, rfl, rfl, (hH4.sub (.cons_cons _ (.cons _ .slnil)))⟩ ?_
  rintro next30 ⟨x8_17, l18⟩ t σ ⟨v20, q21, q22, q23, q24, hH25⟩ h
  try dsimp only at q21 q22 q23 q24 hH25
  unfold F_R01_Of_b1 at h
  dsimp only at h
  show MC _ _ _ _ _ _ _
  refine MC.seq ?_
  show MC _ _ _ _ _ _ _
  refine MC.region ?_
  refine MO.op (v := (Value.bool (decide (x8_17 < (p0_1.length : Int))))) (Nat.zero_le _) rfl (ev_bin (x := (Value.int .i64 x8_17)) (y := (Value.int .i64 (p0_1.length : Int))) q24 q23 int_lss) rfl ?_
  refine MO.nil ?_
  refine Then.at ?_
  show MC _ _ _ _ _ _ _
  refine MC.seq ?_
  by_cases hc31 : x8_17 < (p0_1.length : Int)
  · rw [if_pos hc31] at h
    show MC _ _ _ _ _ _ _
    refine MC.condT (Eq.trans (b := Value.bool (decide (x8_17 < (p0_1.length : Int)))) rfl (congrArg Value.bool (decide_eq_true hc31))) ?_
    show MC _ _ _ _ _ _ _
    refine MC.skip ?_
    refine Then.at ?_
    show MC _ _ _ _ _ _ _
    refine MC.seq ?_
    show MC _ _ _ _ _ _ _
    refine MC.block ?_
    show MC _ _ _ _ _ _ _
    refine MC.seq ?_
    show MC _ _ _ _ _ _ _
    refine MC.region ?_
    obtain ⟨x32, e33, h⟩ := bind_some h
    refine MO.op (v := (ptv (eI .i64) x32)) (Nat.zero_le _) rfl (ev_indexAddr (x := (slv (eI .i64) p0_1)) (y := (Value.int .i64 x8_17)) q22 q24 (index_still ty3 Try.underlying32 (gx_some e33).1 (gx_some e33).2)) rfl ?_
    refine MO.op (v := (Value.int .i64 x32)) (Nat.zero_le _) rfl (ev_load (x := (ptv (eI .i64) x32)) rfl (load_still ty3 _ _)) rfl ?_
    refine MO.op (v := (Value.int .i64 x32)) (Nat.zero_le _) rfl (ev_assign rfl) rfl ?_
    refine MO.nil ?_
    refine Then.at ?_
    show MC _ _ _ _ _ _ _
    refine MC.seq ?_
    show MC _ _ _ _ _ _ _
    refine MC.seq ?_
    show MC _ _ _ _ _ _ _
    refine MC.region ?_
    refine MO.op (v := (Value.int .i64 x32)) (Nat.zero_le _) rfl (ev_move rfl) rfl ?_
    refine MO.op (v := (Value.bool (decide (x32 < (0 : Int))))) (Nat.zero_le _) rfl (ev_bin (x := (Value.int .i64 x32)) (y := (Value.int .i64 (0 : Int))) rfl rfl int_lss) rfl ?_
    refine MO.op (v := (Value.bool (decide (x32 < (0 : Int))))) (Nat.zero_le _) rfl (ev_move rfl) rfl ?_
    by_cases hc34 : x32 < (0 : Int)
    · rw [if_pos hc34] at h
      refine MO.skip (want_no (q := true) rfl rfl (Eq.trans (b := Value.bool (decide (x32 < (0 : Int)))) rfl (congrArg Value.bool (decide_eq_true hc34))) rfl) rfl ?_
      refine MO.skip (want_no (q := true) rfl rfl (Eq.trans (b := Value.bool (decide (x32 < (0 : Int)))) rfl (congrArg Value.bool (decide_eq_true hc34))) rfl) rfl ?_
      refine MO.op (v := (Value.bool true)) (Nat.zero_le _) rfl (ev_pickT (Eq.trans (b := Value.bool (decide (x32 < (0 : Int)))) rfl (congrArg Value.bool (decide_eq_true hc34))) rfl) rfl ?_
      refine MO.nil ?_
      refine Then.at ?_
      show MC _ _ _ _ _ _ _
      refine MC.condT rfl ?_
      show MC _ _ _ _ _ _ _
      refine MC.exit ?_
      refine Then.exit ?_
      refine Block.exit ?_
      refine Then.at ?_
      show MC _ _ _ _ _ _ _
      refine MC.region ?_
      refine MO.op (v := (Value.int .i64 (wr (x8_17 + (1 : Int))))) (Nat.zero_le _) rfl (ev_bin (x := (Value.int .i64 x8_17)) (y := (Value.int .i64 (1 : Int))) q24 rfl int_add) rfl ?_
      refine MO.op (v := (Value.int .i64 (wr (x8_17 + (1 : Int))))) (Nat.zero_le _) rfl (ev_move rfl) rfl ?_
      refine MO.nil ?_
      refine Then.at ?_
      exact ⟨((wr (x8_17 + (1 : Int))), l18), ⟨v20, q21, q22, q23, rfl, hH25⟩, h⟩
    · rw [if_neg hc34] at h
      refine MO.op (v := (Value.int .i64 x32)) (Nat.zero_le _) (want_yes (q := false) rfl rfl (Eq.trans (b := Value.bool (decide (x32 < (0 : Int)))) rfl (congrArg Value.bool (decide_eq_false hc34))) rfl) (ev_move rfl) rfl ?_
      refine MO.op (v := (Value.bool (decide ((4096 : Int) ≤ x32)))) (Nat.zero_le _) (want_yes (q := false) rfl rfl (Eq.trans (b := Value.bool (decide (x32 < (0 : Int)))) rfl (congrArg Value.bool (decide_eq_false hc34))) rfl) (ev_bin (x := (Value.int .i64 x32)) (y := (Value.int .i64 (4096 : Int))) rfl rfl int_geq) rfl ?_
      refine MO.op (v := (Value.bool (decide ((4096 : Int) ≤ x32)))) (Nat.zero_le _) rfl (ev_pickF (Eq.trans (b := Value.bool (decide (x32 < (0 : Int)))) rfl (congrArg Value.bool (decide_eq_false hc34))) rfl) rfl ?_
      refine MO.nil ?_
      refine Then.at ?_
      by_cases hc35 : (4096 : Int) ≤ x32
      · rw [if_pos hc35] at h
        show MC _ _ _ _ _ _ _
        refine MC.condT (Eq.trans (b := Value.bool (decide ((4096 : Int) ≤ x32))) rfl (congrArg Value.bool (decide_eq_true hc35))) ?_
        show MC _ _ _ _ _ _ _
        refine MC.exit ?_
        refine Then.exit ?_
        refine Block.exit ?_
        refine Then.at ?_
        show MC _ _ _ _ _ _ _
        refine MC.region ?_
        refine MO.op (v := (Value.int .i64 (wr (x8_17 + (1 : Int))))) (Nat.zero_le _) rfl (ev_bin (x := (Value.int .i64 x8_17)) (y := (Value.int .i64 (1 : Int))) q24 rfl int_add) rfl ?_
        refine MO.op (v := (Value.int .i64 (wr (x8_17 + (1 : Int))))) (Nat.zero_le _) rfl (ev_move rfl) rfl ?_
        refine MO.nil ?_
        refine Then.at ?_
        exact ⟨((wr (x8_17 + (1 : Int))), l18), ⟨v20, q21, q22, q23, rfl, hH25⟩, h⟩
      · rw [if_neg hc35] at h
        show MC _ _ _ _ _ _ _
        refine MC.condF (Eq.trans (b := Value.bool (decide ((4096 : Int) ≤ x32))) rfl (congrArg Value.bool (decide_eq_false hc35))) ?_
        show MC _ _ _ _ _ _ _
        refine MC.skip ?_
        refine Then.at ?_
        show MC _ _ _ _ _ _ _
        refine MC.seq ?_
        show MC _ _ _ _ _ _ _
        refine MC.block ?_
        show MC _ _ _ _ _ _ _
        refine MC.loopK (fun (s : (List (BitVec 64))) t σ => ∃ (v50 : Value), t 3 = v50 ∧ t 5 = (Value.int .i64 x32) ∧ t 6 = (slv (eI .i64) p0_1) ∧ t 7 = (Value.int .i64 (p0_1.length : Int)) ∧ t 8 = (Value.int .i64 x8_17) ∧ t 15 = (Value.int .i64 x32) ∧ t 16 = (Value.bool false) ∧ Hp σ [It.sl eW v50 s]) h ⟨v20, q21, rfl, q22, q23, q24, rfl, (Eq.trans (b := Value.bool (decide ((4096 : Int) ≤ x32))) rfl (congrArg Value.bool (decide_eq_false hc35))), hH25⟩ ?_
        rintro next62 l48 t σ ⟨v50, q51, q52, q53, q54, q55, q56, q57, hH58⟩ h
        unfold F_R01_Of_b2 at h
        show MC _ _ _ _ _ _ _
        refine MC.seq ?_
        show MC _ _ _ _ _ _ _
        refine MC.seq ?_
        show MC _ _ _ _ _ _ _
        refine MC.region ?_
        refine MO.op (v := v50) (Nat.zero_le _) rfl (ev_move q51) rfl ?_
        refine MO.op (v := (Value.int .i64 (l48.length : Int))) (Nat.zero_le _) rfl (ev_len (x := v50) rfl (It.sl_len (hH58.at (i := 0) rfl) Try.underlying25 _)) rfl ?_
        refine MO.op (v := (Value.int .i64 x32)) (Nat.zero_le _) rfl (ev_move q52) rfl ?_
        refine MO.op (v := (Value.int .i64 (wr (Int.tdiv x32 (64 : Int))))) (Nat.zero_le _) rfl (ev_bin (x := (Value.int .i64 x32)) (y := (Value.int .i64 (64 : Int))) rfl rfl (int_quo (by decide))) rfl ?_
        refine MO.op (v := (Value.bool (decide ((l48.length : Int) ≤ (wr (Int.tdiv x32 (64 : Int))))))) (Nat.zero_le _) rfl (ev_bin (x := (Value.int .i64 (l48.length : Int))) (y := (Value.int .i64 (wr (Int.tdiv x32 (64 : Int))))) rfl rfl int_leq) rfl ?_
        refine MO.nil ?_
        refine Then.at ?_
        by_cases hc63 : (l48.length : Int) ≤ (wr (Int.tdiv x32 (64 : Int)))
        · rw [if_pos hc63] at h
          show MC _ _ _ _ _ _ _
          refine MC.condT (Eq.trans (b := Value.bool (decide ((l48.length : Int) ≤ (wr (Int.tdiv x32 (64 : Int)))))) rfl (congrArg Value.bool (decide_eq_true hc63))) ?_
          show MC _ _ _ _ _ _ _
          refine MC.skip ?_
          refine Then.at ?_
          show MC _ _ _ _ _ _ _
          refine MC.block ?_
          show MC _ _ _ _ _ _ _
          refine MC.region ?_
          refine MO.op (v := v50) (Nat.zero_le _) rfl (ev_move q51) rfl ?_
          obtain ⟨v64, σ65, ha66, hH67, _⟩ := hH58.lit (e := eW) (t := 25) Try.underlying25 et23 zr23 rfl ([(0#64)]) (Nat.le_of_ble_eq_true rfl) (ps := [(0, (w64 (0#64)))]) rfl
          refine MO.op (Nat.zero_le _) rfl (ev_buildSlice (qs := [(0, (w64 (0#64)))]) (parts_cons rfl parts_nil) ha66) rfl ?_
          obtain ⟨l69, e70, h⟩ := bind_some h
          obtain ⟨v71, σ72, ha73, hH74, _⟩ := hH67.app (e := eW) (i := 1) rfl Try.underlying25 et23 (src_own (hH67.at (i := 0) rfl) ⟨_, Try.underlying25⟩) e70
          change Hp _ [It.sl eW v64 [(0#64)], It.sl eW v71 l69] at hH74
          refine MO.op (Nat.zero_le _) rfl (ev_append (x := v50) (y := v64) rfl rfl ha73) rfl ?_
          refine MO.op (v := v71) (Nat.zero_le _) rfl (ev_assign rfl) rfl ?_
          refine MO.nil ?_
          refine Block.at ?_
          refine Then.at ?_
          exact ⟨(l69), ⟨v71, rfl, q52, q53, q54, q55, q56, q57, (hH74.sub (.cons _ (.cons_cons _ .slnil)))⟩, h⟩
        · rw [if_neg hc63] at h
          show MC _ _ _ _ _ _ _
          refine MC.condF (Eq.trans (b := Value.bool (decide ((l48.length : Int) ≤ (wr (Int.tdiv x32 (64 : Int)))))) rfl (congrArg Value.bool (decide_eq_false hc63))) ?_
          show MC _ _ _ _ _ _ _
          refine MC.exit ?_
          refine Then.exit ?_
          refine Then.exit ?_
          refine Block.exit ?_
          refine Then.at ?_
          show MC _ _ _ _ _ _ _
          refine MC.seq ?_
          show MC _ _ _ _ _ _ _
          refine MC.region ?_
          refine MO.op (v := v50) (Nat.zero_le _) rfl (ev_move q51) rfl ?_
          refine MO.op (v := (Value.int .i64 x32)) (Nat.zero_le _) rfl (ev_move q52) rfl ?_
          obtain ⟨r76, e77, h⟩ := bind_some h
          refine MO.borrow (v := (Value.bool r76)) (vs := [(slv eW l48), (Value.int .i64 x32)]) (as' := [v50, (Value.int .i64 x32)]) (Nat.zero_le _) rfl rfl (callee_of rfl (args_cons rfl (args_cons rfl args_nil))) hH58 (LBw.cons ((.inr ⟨_, eW, l48, by simp, rfl⟩)) (LBw.cons (.inl (Wk.same _)) LBw.nil)) (F_R01_Has.ok e77) (Plain.prim rfl) rfl ?_
          refine MO.op (v := (Value.bool (!r76))) (Nat.zero_le _) rfl (ev_un (x := Value.bool r76) rfl bool_not) rfl ?_
          refine MO.nil ?_
          refine Then.at ?_
          by_cases hc78 : (!r76) = true
          · rw [if_pos hc78] at h
            show MC _ _ _ _ _ _ _
            refine MC.condT (Eq.trans (b := Value.bool (!r76)) rfl (congrArg Value.bool hc78)) ?_
            show MC _ _ _ _ _ _ _
            refine MC.region ?_
            refine MO.op (v := v50) (Nat.zero_le _) rfl (ev_move q51) rfl ?_
            refine MO.op (v := (Value.int .i64 x32)) (Nat.zero_le _) rfl (ev_move q52) rfl ?_
            refine MO.op (v := (Value.int .i64 (wr (Int.tdiv x32 (64 : Int))))) (Nat.zero_le _) rfl (ev_bin (x := (Value.int .i64 x32)) (y := (Value.int .i64 (64 : Int))) rfl rfl (int_quo (by decide))) rfl ?_
            obtain ⟨x79, e80, h⟩ := bind_some h
            obtain ⟨b81, o82, ha83, _⟩ := It.sl_at (hH58.at (i := 0) rfl) ty23 Try.underlying25 (k := .i64) (gx_some e80).1 (gx_some e80).2
            refine MO.op (v := (Value.pointer (some ⟨b81, o82, none⟩))) (Nat.zero_le _) rfl (ev_indexAddr (x := v50) (y := (Value.int .i64 (wr (Int.tdiv x32 (64 : Int))))) rfl rfl ha83) rfl ?_
            refine MO.op (v := (w64 x79)) (Nat.zero_le _) rfl (ev_load (x := (Value.pointer (some ⟨b81, o82 + 0, none⟩))) rfl (hH58.elLoad (e := eW) (ef := eW) (i := 0) (off := 0) (y := x79) rfl ty23 Try.underlying25 e80 ha83 ty23 rfl (fun _ => rfl))) rfl ?_
            refine MO.op (v := (Value.int .i64 x32)) (Nat.zero_le _) rfl (ev_move q52) rfl ?_
            refine MO.op (v := (Value.int .i64 (Int.tmod x32 (64 : Int)))) (Nat.zero_le _) rfl (ev_bin (x := (Value.int .i64 x32)) (y := (Value.int .i64 (64 : Int))) rfl rfl (int_rem (by decide))) rfl ?_
            refine MO.op (v := (w64 (BitVec.ofInt 64 (Int.tmod x32 (64 : Int))))) (Nat.zero_le _) rfl (ev_conv (x := Value.int .i64 (Int.tmod x32 (64 : Int))) rfl (conv_word Try.underlying3 Try.underlying42)) rfl ?_
            refine MO.op (v := (w64 ((1#64) <<< (BitVec.ofInt 64 (Int.tmod x32 (64 : Int))).toNat))) (Nat.zero_le _) rfl (ev_bin (x := (w64 (1#64))) (y := (w64 (BitVec.ofInt 64 (Int.tmod x32 (64 : Int))))) rfl rfl (word_shlw (by exact_mod_cast Nat.zero_le _))) rfl ?_
            refine MO.op (v := (w64 (x79 + ((1#64) <<< (BitVec.ofInt 64 (Int.tmod x32 (64 : Int))).toNat)))) (Nat.zero_le _) rfl (ev_bin (x := (w64 x79)) (y := (w64 ((1#64) <<< (BitVec.ofInt 64 (Int.tmod x32 (64 : Int))).toNat))) rfl rfl word_add) rfl ?_
            obtain ⟨x84, e85, h⟩ := bind_some h
            obtain ⟨b86, o87, ha88, _⟩ := It.sl_at (hH58.at (i := 0) rfl) ty23 Try.underlying25 (k := .i64) (gx_some e85).1 (gx_some e85).2
            refine MO.op (v := (Value.pointer (some ⟨b86, o87, none⟩))) (Nat.zero_le _) rfl (ev_indexAddr (x := v50) (y := (Value.int .i64 (wr (Int.tdiv x32 (64 : Int))))) rfl rfl ha88) rfl ?_
            obtain ⟨σ89, hs90, hH91, _⟩ := hH58.elStore (e := eW) (ef := eW) (i := 0) (off := 0) (y := (x79 + ((1#64) <<< (BitVec.ofInt 64 (Int.tmod x32 (64 : Int))).toNat))) (x' := (x79 + ((1#64) <<< (BitVec.ofInt 64 (Int.tmod x32 (64 : Int))).toNat))) rfl ty23 Try.underlying25 e85 ha88 ty23 (by decide) rfl
            change Hp _ [It.sl eW v50 (List.set l48 (Int.toNat (wr (Int.tdiv x32 (64 : Int)))) (x79 + ((1#64) <<< (BitVec.ofInt 64 (Int.tmod x32 (64 : Int))).toNat)))] at hH91
            refine MO.op (Nat.zero_le _) rfl (ev_store (x := (Value.pointer (some ⟨b86, o87 + 0, none⟩))) (y := (w64 (x79 + ((1#64) <<< (BitVec.ofInt 64 (Int.tmod x32 (64 : Int))).toNat)))) rfl rfl hs90) rfl ?_
            refine MO.nil ?_
            refine Block.at ?_
            refine Then.at ?_
            show MC _ _ _ _ _ _ _
            refine MC.region ?_
            refine MO.op (v := (Value.int .i64 (wr (x8_17 + (1 : Int))))) (Nat.zero_le _) rfl (ev_bin (x := (Value.int .i64 x8_17)) (y := (Value.int .i64 (1 : Int))) q55 rfl int_add) rfl ?_
            refine MO.op (v := (Value.int .i64 (wr (x8_17 + (1 : Int))))) (Nat.zero_le _) rfl (ev_move rfl) rfl ?_
            refine MO.nil ?_
            refine Then.at ?_
            exact ⟨((wr (x8_17 + (1 : Int))), (List.set l48 (Int.toNat (wr (Int.tdiv x32 (64 : Int)))) (x79 + ((1#64) <<< (BitVec.ofInt 64 (Int.tmod x32 (64 : Int))).toNat)))), ⟨v50, q51, q53, q54, rfl, hH91⟩, h⟩
          · rw [if_neg hc78] at h
            show MC _ _ _ _ _ _ _
            refine MC.condF (Eq.trans (b := Value.bool (!r76)) rfl (congrArg Value.bool (Bool.eq_false_iff.2 hc78))) ?_
            show MC _ _ _ _ _ _ _
            refine MC.skip ?_
            refine Block.at ?_
            refine Then.at ?_
            show MC _ _ _ _ _ _ _
            refine MC.region ?_
            refine MO.op (v := (Value.int .i64 (wr (x8_17 + (1 : Int))))) (Nat.zero_le _) rfl (ev_bin (x := (Value.int .i64 x8_17)) (y := (Value.int .i64 (1 : Int))) q55 rfl int_add) rfl ?_
            refine MO.op (v := (Value.int .i64 (wr (x8_17 + (1 : Int))))) (Nat.zero_le _) rfl (ev_move rfl) rfl ?_
            refine MO.nil ?_
            refine Then.at ?_
            exact ⟨((wr (x8_17 + (1 : Int))), l48), ⟨v50, q51, q53, q54, rfl, hH58⟩, h⟩
  · rw [if_neg hc31] at h
    show MC _ _ _ _ _ _ _
    refine MC.condF (Eq.trans (b := Value.bool (decide (x8_17 < (p0_1.length : Int)))) rfl (congrArg Value.bool (decide_eq_false hc31))) ?_
    show MC _ _ _ _ _ _ _
    refine MC.exit ?_
    refine Then.exit ?_
    refine Then.exit ?_
    refine Block.exit ?_
    refine Then.at ?_
    show MC _ _ _ _ _ _ _
    refine MC.seq ?_
    show MC _ _ _ _ _ _ _
    refine MC.region ?_
    refine MO.op (v := v20) (Nat.zero_le _) rfl (ev_move q21) rfl ?_
    refine MO.op (v := v20) (Nat.zero_le _) rfl (ev_assign rfl) rfl ?_
    refine MO.nil ?_
    refine Then.at ?_
    show MC _ _ _ _ _ _ _
    refine MC.ret ?_
    obtain rfl := Option.some.inj h
    exact ⟨.inr rfl, _, (res_cons (res_tmp rfl) res_nil), hH25.sub (.cons_cons _ .slnil)⟩
theorem F_R01_Of.ok {p0_1 : (List Int)} {r : ((List (BitVec 64)))} (h : F_R01_Of p0_1 = some r) : Pure Try.prog 26 [(slv (eI .i64) p0_1)] (slv eW r) := (F_R01_Of.own h).pure
noncomputable def F_R44_Of_b2 (p0_1 : (List Int)) (p1_2 : (BitVec 64)) (x8_20 : Int) (l21 : (List Int)) (next34 : (Int × (List Int) → Option ((List (BitVec 64))))) (next52 : (Int × Int → Option ((List (BitVec 64))))) : Int × Int → Option ((List (BitVec 64)))
  | (x9_37, x20_38) =>
    if x20_38 < (p0_1.length : Int) then
      Option.bind (gx p0_1 x20_38) fun x54 =>
      Option.bind (F_R44_Sign p1_2 x8_20 x20_38) fun r56 =>
      next52 ((wr (x9_37 + (wr ((wr x54) * r56)))), (wr (x20_38 + (1 : Int))))
    else
      if (0 : Int) ≤ x9_37 then
        Option.bind (app 8 l21 [x8_20]) fun l64 =>
        next34 ((wr (x8_20 + (1 : Int))), l64)
      else
        next34 ((wr (x8_20 + (1 : Int))), l21)
noncomputable def F_R44_Of_b1 (p0_1 : (List Int)) (p1_2 : (BitVec 64)) (p2_3 : Int) (next34 : (Int × (List Int) → Option ((List (BitVec 64))))) : Int × (List Int) → Option ((List (BitVec 64)))
  | (x8_20, l21) =>
    if x8_20 < (min p2_3 (4096 : Int)) then
      loopK (F_R44_Of_b2 p0_1 p1_2 x8_20 l21 next34) fuel ((0 : Int), (0 : Int))
    else
      Option.bind (F_R01_Of l21) fun r74 =>
      some (r74)
noncomputable def F_R44_Of (p0_1 : (List Int)) (p1_2 : (BitVec 64)) (p2_3 : Int) : Option ((List (BitVec 64))) :=
  loopK (F_R44_Of_b1 p0_1 p1_2 p2_3) fuel ((0 : Int), ([] : (List Int)))
theorem F_R44_Of.own {p0_1 : (List Int)} {p1_2 : (BitVec 64)} {p2_3 : Int} {r : ((List (BitVec 64)))} (h : F_R44_Of p0_1 p1_2 p2_3 = some r) : PureO Try.prog 12 [(slv (eI .i32) p0_1), (w64 p1_2), (Value.int .i64 p2_3)] eW r := by
  unfold F_R44_Of at h
  refine ⟨(.cons (slv_flat _ _) (.cons (.prim rfl) (.cons (.prim rfl) .nil))), by decide, Fn.enter Try.func12 (by kernel_rfl) rfl (of_decide_eq_true rfl) ?_⟩
  have hH : Hp ⟨0, []⟩ [] := Hp.nil (Nat.le_refl _)
  show MC _ _ _ _ _ _ _
  refine MC.seq ?_
  show MC _ _ _ _ _ _ _
  refine MC.region ?_
  have hH4 := hH.nilSl eW
  refine MO.op (v := (Value.slice none 0 0)) (Nat.zero_le _) rfl (ev_assign rfl) rfl ?_
  refine MO.nil ?_
  refine Then.at ?_
  show MC _ _ _ _ _ _ _
  refine MC.seq ?_
  show MC _ _ _ _ _ _ _
  refine MC.region ?_
  have hH6 := hH4.nilSl (eI .i64)
  refine MO.op (v := (Value.slice none 0 0)) (Nat.zero_le _) rfl (ev_assign rfl) rfl ?_
  refine MO.nil ?_
  refine Then.at ?_
  show MC _ _ _ _ _ _ _
  refine MC.seq ?_
  show MC _ _ _ _ _ _ _
  refine MC.seq ?_
  show MC _ _ _ _ _ _ _
  refine MC.region ?_
  refine MO.op (v := (Value.int .i64 (0 : Int))) (Nat.zero_le _) rfl (ev_assign rfl) rfl ?_
  refine MO.nil ?_
  refine Then.at ?_
  show MC _ _ _ _ _ _ _
  refine MC.block ?_
  show MC _ _ _ _ _ _ _
  refine MC.loopK (fun (s : Int × (List Int)) t σ => ∃ (v23 : Value), t 0 = (slv (eI .i32) p0_1) ∧ t 1 = (w64 p1_2) ∧ t 2 = (Value.int .i64 p2_3) ∧ t 7 = v23 ∧ t 8 = (Value.int .i64 s.1) ∧ Hp σ [It.sl (eI .i64) v23 s.2]) h ⟨(Value.slice none 0 0), rfl, rfl, rfl, rfl, rfl, (hH6.sub (.cons_cons _ (.cons _ .slnil)))⟩ ?_
  rintro next34 ⟨x8_20, l21⟩ t σ ⟨v23, q24, q25, q26, q27, q28, hH29⟩ h
  try dsimp only at q24 q25 q26 q27 q28 hH29
  unfold F_R44_Of_b1 at h
  dsimp only at h
  show MC _ _ _ _ _ _ _
  refine MC.seq ?_
  show MC _ _ _ _ _ _ _
  refine MC.seq ?_
  show MC _ _ _ _ _ _ _
  refine MC.region ?_
  refine MO.op (v := (Value.int .i64 x8_20)) (Nat.zero_le _) rfl (ev_move q28) rfl ?_
  refine MO.op (v := (Value.int .i64 p2_3)) (Nat.zero_le _) rfl (ev_move q26) rfl ?_
  refine MO.op (v := (Value.int .i64 (min p2_3 (4096 : Int)))) (Nat.zero_le _) rfl (ev_min (x := (Value.int .i64 p2_3)) (y := (Value.int .i64 (4096 : Int))) rfl rfl min_two) rfl ?_
  refine MO.op (v := (Value.bool (decide (x8_20 < (min p2_3 (4096 : Int)))))) (Nat.zero_le _) rfl (ev_bin (x := (Value.int .i64 x8_20)) (y := (Value.int .i64 (min p2_3 (4096 : Int)))) rfl rfl int_lss) rfl ?_
  refine MO.nil ?_
  refine Then.at ?_
  by_cases hc35 : x8_20 < (min p2_3 (4096 : Int))
  · rw [if_pos hc35] at h
    show MC _ _ _ _ _ _ _
    refine MC.condT (Eq.trans (b := Value.bool (decide (x8_20 < (min p2_3 (4096 : Int))))) rfl (congrArg Value.bool (decide_eq_true hc35))) ?_
    show MC _ _ _ _ _ _ _
    refine MC.skip ?_
    refine Then.at ?_
    show MC _ _ _ _ _ _ _
    refine MC.seq ?_
    show MC _ _ _ _ _ _ _
    refine MC.block ?_
    show MC _ _ _ _ _ _ _
    refine MC.seq ?_
    show MC _ _ _ _ _ _ _
    refine MC.region ?_
    refine MO.op (v := (Value.int .i64 (0 : Int))) (Nat.zero_le _) rfl (ev_assign rfl) rfl ?_
    refine MO.nil ?_
    refine Then.at ?_
    show MC _ _ _ _ _ _ _
    refine MC.seq ?_
    show MC _ _ _ _ _ _ _
    refine MC.seq ?_
    show MC _ _ _ _ _ _ _
    refine MC.region ?_
    refine MO.op (v := (slv (eI .i32) p0_1)) (Nat.zero_le _) rfl (ev_move q24) rfl ?_
    refine MO.op (v := (Value.int .i64 (p0_1.length : Int))) (Nat.zero_le _) rfl (ev_len (x := (slv (eI .i32) p0_1)) rfl (len_still Try.underlying22 _ _)) rfl ?_
    refine MO.op (v := (Value.int .i64 (0 : Int))) (Nat.zero_le _) rfl (ev_move rfl) rfl ?_
    refine MO.nil ?_
    refine Then.at ?_
    show MC _ _ _ _ _ _ _
    refine MC.block ?_
    show MC _ _ _ _ _ _ _
    refine MC.loopK (fun (s : Int × Int) t σ => t 0 = (slv (eI .i32) p0_1) ∧ t 1 = (w64 p1_2) ∧ t 2 = (Value.int .i64 p2_3) ∧ t 7 = v23 ∧ t 8 = (Value.int .i64 x8_20) ∧ t 9 = (Value.int .i64 s.1) ∧ t 18 = (slv (eI .i32) p0_1) ∧ t 19 = (Value.int .i64 (p0_1.length : Int)) ∧ t 20 = (Value.int .i64 s.2) ∧ Hp σ [It.sl (eI .i64) v23 l21]) h ⟨q24, q25, q26, q27, q28, rfl, rfl, rfl, rfl, hH29⟩ ?_
    rintro next52 ⟨x9_37, x20_38⟩ t σ ⟨q39, q40, q41, q42, q43, q44, q45, q46, q47, hH48⟩ h
    try dsimp only at q39 q40 q41 q42 q43 q44 q45 q46 q47 hH48
    unfold F_R44_Of_b2 at h
    dsimp only at h
    show MC _ _ _ _ _ _ _
    refine MC.seq ?_
    show MC _ _ _ _ _ _ _
    refine MC.region ?_
    refine MO.op (v := (Value.bool (decide (x20_38 < (p0_1.length : Int))))) (Nat.zero_le _) rfl (ev_bin (x := (Value.int .i64 x20_38)) (y := (Value.int .i64 (p0_1.length : Int))) q47 q46 int_lss) rfl ?_
    refine MO.nil ?_
    refine Then.at ?_
    show MC _ _ _ _ _ _ _
    refine MC.seq ?_
    by_cases hc53 : x20_38 < (p0_1.length : Int)
    · rw [if_pos hc53] at h
      show MC _ _ _ _ _ _ _
      refine MC.condT (Eq.trans (b := Value.bool (decide (x20_38 < (p0_1.length : Int)))) rfl (congrArg Value.bool (decide_eq_true hc53))) ?_
      show MC _ _ _ _ _ _ _
      refine MC.skip ?_
      refine Then.at ?_
      show MC _ _ _ _ _ _ _
      refine MC.seq ?_
      show MC _ _ _ _ _ _ _
      refine MC.block ?_
      show MC _ _ _ _ _ _ _
      refine MC.seq ?_
      show MC _ _ _ _ _ _ _
      refine MC.region ?_
      refine MO.op (v := (Value.int .i64 x20_38)) (Nat.zero_le _) rfl (ev_move q47) rfl ?_
      obtain ⟨x54, e55, h⟩ := bind_some h
      refine MO.op (v := (ptv (eI .i32) x54)) (Nat.zero_le _) rfl (ev_indexAddr (x := (slv (eI .i32) p0_1)) (y := (Value.int .i64 x20_38)) q45 q47 (index_still ty21 Try.underlying22 (gx_some e55).1 (gx_some e55).2)) rfl ?_
      refine MO.op (v := (Value.int .i32 x54)) (Nat.zero_le _) rfl (ev_load (x := (ptv (eI .i32) x54)) rfl (load_still ty21 _ _)) rfl ?_
      refine MO.op (v := (Value.int .i64 x20_38)) (Nat.zero_le _) rfl (ev_assign rfl) rfl ?_
      refine MO.op (v := (Value.int .i32 x54)) (Nat.zero_le _) rfl (ev_assign rfl) rfl ?_
      refine MO.nil ?_
      refine Then.at ?_
      show MC _ _ _ _ _ _ _
      refine MC.region ?_
      refine MO.op (v := (Value.int .i64 x9_37)) (Nat.zero_le _) rfl (ev_move q44) rfl ?_
      refine MO.op (v := (Value.int .i32 x54)) (Nat.zero_le _) rfl (ev_move rfl) rfl ?_
      refine MO.op (v := (Value.int .i64 (wr x54))) (Nat.zero_le _) rfl (ev_conv (x := Value.int .i32 x54) rfl (conv_int Try.underlying21 Try.underlying2)) rfl ?_
      refine MO.op (v := (w64 p1_2)) (Nat.zero_le _) rfl (ev_move q40) rfl ?_
      refine MO.op (v := (Value.int .i64 x8_20)) (Nat.zero_le _) rfl (ev_move q43) rfl ?_
      refine MO.op (v := (Value.int .i64 x20_38)) (Nat.zero_le _) rfl (ev_move rfl) rfl ?_
      obtain ⟨r56, e57, h⟩ := bind_some h
      refine MO.pureW (v := (Value.int .i64 r56)) (vs := [(w64 p1_2), (Value.int .i64 x8_20), (Value.int .i64 x20_38)]) (as' := [(w64 p1_2), (Value.int .i64 x8_20), (Value.int .i64 x20_38)]) (Nat.zero_le _) rfl rfl (callee_of rfl (args_cons rfl (args_cons rfl (args_cons rfl args_nil)))) (LWk.cons (Wk.same _) (LWk.cons (Wk.same _) (LWk.cons (Wk.same _) LWk.nil))) (F_R44_Sign.ok e57) rfl ?_
      refine MO.op (v := (Value.int .i64 (wr ((wr x54) * r56)))) (Nat.zero_le _) rfl (ev_bin (x := (Value.int .i64 (wr x54))) (y := (Value.int .i64 r56)) rfl rfl int_mul) rfl ?_
      refine MO.op (v := (Value.int .i64 (wr (x9_37 + (wr ((wr x54) * r56)))))) (Nat.zero_le _) rfl (ev_bin (x := (Value.int .i64 x9_37)) (y := (Value.int .i64 (wr ((wr x54) * r56)))) rfl rfl int_add) rfl ?_
      refine MO.op (v := (Value.int .i64 (wr (x9_37 + (wr ((wr x54) * r56)))))) (Nat.zero_le _) rfl (ev_assign rfl) rfl ?_
      refine MO.nil ?_
      refine Block.at ?_
      refine Then.at ?_
      show MC _ _ _ _ _ _ _
      refine MC.region ?_
      refine MO.op (v := (Value.int .i64 (wr (x20_38 + (1 : Int))))) (Nat.zero_le _) rfl (ev_bin (x := (Value.int .i64 x20_38)) (y := (Value.int .i64 (1 : Int))) q47 rfl int_add) rfl ?_
      refine MO.op (v := (Value.int .i64 (wr (x20_38 + (1 : Int))))) (Nat.zero_le _) rfl (ev_move rfl) rfl ?_
      refine MO.nil ?_
      refine Then.at ?_
      exact ⟨((wr (x9_37 + (wr ((wr x54) * r56)))), (wr (x20_38 + (1 : Int)))), ⟨q39, q40, q41, q42, q43, rfl, q45, q46, rfl, hH48⟩, h⟩
    · rw [if_neg hc53] at h
      show MC _ _ _ _ _ _ _
      refine MC.condF (Eq.trans (b := Value.bool (decide (x20_38 < (p0_1.length : Int)))) rfl (congrArg Value.bool (decide_eq_false hc53))) ?_
      show MC _ _ _ _ _ _ _
      refine MC.exit ?_
      refine Then.exit ?_
      refine Then.exit ?_
      refine Block.exit ?_
      refine Then.at ?_
      show MC _ _ _ _ _ _ _
      refine MC.seq ?_
      show MC _ _ _ _ _ _ _
      refine MC.region ?_
      refine MO.op (v := (Value.int .i64 x9_37)) (Nat.zero_le _) rfl (ev_move q44) rfl ?_
      refine MO.op (v := (Value.bool (decide ((0 : Int) ≤ x9_37)))) (Nat.zero_le _) rfl (ev_bin (x := (Value.int .i64 x9_37)) (y := (Value.int .i64 (0 : Int))) rfl rfl int_geq) rfl ?_
      refine MO.nil ?_
      refine Then.at ?_
      by_cases hc58 : (0 : Int) ≤ x9_37
      · rw [if_pos hc58] at h
        show MC _ _ _ _ _ _ _
        refine MC.condT (Eq.trans (b := Value.bool (decide ((0 : Int) ≤ x9_37))) rfl (congrArg Value.bool (decide_eq_true hc58))) ?_
        show MC _ _ _ _ _ _ _
        refine MC.region ?_
        refine MO.op (v := v23) (Nat.zero_le _) rfl (ev_move q42) rfl ?_
        refine MO.op (v := (Value.int .i64 x8_20)) (Nat.zero_le _) rfl (ev_move q43) rfl ?_
        obtain ⟨v59, σ60, ha61, hH62, _⟩ := hH48.lit (e := (eI .i64)) (t := 32) Try.underlying32 et3 zr3 rfl ([x8_20]) (Nat.le_of_ble_eq_true rfl) (ps := [(0, (Value.int .i64 x8_20))]) rfl
        refine MO.op (Nat.zero_le _) rfl (ev_buildSlice (qs := [(0, (Value.int .i64 x8_20))]) (parts_cons rfl parts_nil) ha61) rfl ?_
        obtain ⟨l64, e65, h⟩ := bind_some h
        obtain ⟨v66, σ67, ha68, hH69, _⟩ := hH62.app (e := (eI .i64)) (i := 1) rfl Try.underlying32 et3 (src_own (hH62.at (i := 0) rfl) ⟨_, Try.underlying32⟩) e65
        change Hp _ [It.sl (eI .i64) v59 [x8_20], It.sl (eI .i64) v66 l64] at hH69
        refine MO.op (Nat.zero_le _) rfl (ev_append (x := v23) (y := v59) rfl rfl ha68) rfl ?_
        refine MO.op (v := v66) (Nat.zero_le _) rfl (ev_assign rfl) rfl ?_
        refine MO.nil ?_
        refine Block.at ?_
        refine Then.at ?_
        show MC _ _ _ _ _ _ _
        refine MC.region ?_
        refine MO.op (v := (Value.int .i64 x8_20)) (Nat.zero_le _) rfl (ev_move q43) rfl ?_
        refine MO.op (v := (Value.int .i64 (wr (x8_20 + (1 : Int))))) (Nat.zero_le _) rfl (ev_bin (x := (Value.int .i64 x8_20)) (y := (Value.int .i64 (1 : Int))) rfl rfl int_add) rfl ?_
        refine MO.op (v := (Value.int .i64 (wr (x8_20 + (1 : Int))))) (Nat.zero_le _) rfl (ev_assign rfl) rfl ?_
        refine MO.nil ?_
        refine Then.at ?_
        exact ⟨((wr (x8_20 + (1 : Int))), l64), ⟨v66, q39, q40, q41, rfl, rfl, (hH69.sub (.cons _ (.cons_cons _ .slnil)))⟩, h⟩
      · rw [if_neg hc58] at h
        show MC _ _ _ _ _ _ _
        refine MC.condF (Eq.trans (b := Value.bool (decide ((0 : Int) ≤ x9_37))) rfl (congrArg Value.bool (decide_eq_false hc58))) ?_
        show MC _ _ _ _ _ _ _
        refine MC.skip ?_
        refine Block.at ?_
        refine Then.at ?_
        show MC _ _ _ _ _ _ _
        refine MC.region ?_
        refine MO.op (v := (Value.int .i64 x8_20)) (Nat.zero_le _) rfl (ev_move q43) rfl ?_
        refine MO.op (v := (Value.int .i64 (wr (x8_20 + (1 : Int))))) (Nat.zero_le _) rfl (ev_bin (x := (Value.int .i64 x8_20)) (y := (Value.int .i64 (1 : Int))) rfl rfl int_add) rfl ?_
        refine MO.op (v := (Value.int .i64 (wr (x8_20 + (1 : Int))))) (Nat.zero_le _) rfl (ev_assign rfl) rfl ?_
        refine MO.nil ?_
        refine Then.at ?_
        exact ⟨((wr (x8_20 + (1 : Int))), l21), ⟨v23, q39, q40, q41, q42, rfl, hH48⟩, h⟩
  · rw [if_neg hc35] at h
    show MC _ _ _ _ _ _ _
    refine MC.condF (Eq.trans (b := Value.bool (decide (x8_20 < (min p2_3 (4096 : Int))))) rfl (congrArg Value.bool (decide_eq_false hc35))) ?_
    show MC _ _ _ _ _ _ _
    refine MC.exit ?_
    refine Then.exit ?_
    refine Then.exit ?_
    refine Block.exit ?_
    refine Then.at ?_
    show MC _ _ _ _ _ _ _
    refine MC.seq ?_
    show MC _ _ _ _ _ _ _
    refine MC.region ?_
    refine MO.op (v := v23) (Nat.zero_le _) rfl (ev_move q27) rfl ?_
    obtain ⟨r74, e75, h⟩ := bind_some h
    refine MO.still (e := (eI .i64)) (i := 0) hH29 rfl [7, 41] (by simp only [List.mem_cons, List.not_mem_nil, or_false, forall_eq_or_imp, forall_eq]; exact ⟨q27, rfl⟩) fun σ72 hH71 hz73 => ?_
    change Hp _ [] at hH71
    refine MO.pureO (vs := [(slv (eI .i64) l21)]) (as' := [(slv (eI .i64) l21)]) (Nat.zero_le _) rfl rfl (callee_of rfl (args_cons rfl args_nil)) (LWk.cons (Wk.same _) LWk.nil) (F_R01_Of.own e75) hH71 rfl (by decide) fun v76 σ77 hH78 => ?_
    refine MO.op (v := v76) (Nat.zero_le _) rfl (ev_assign rfl) rfl ?_
    refine MO.nil ?_
    refine Then.at ?_
    show MC _ _ _ _ _ _ _
    refine MC.ret ?_
    obtain rfl := Option.some.inj h
    exact ⟨.inr rfl, _, (res_cons (res_tmp rfl) res_nil), hH78.sub (.cons_cons _ .slnil)⟩
theorem F_R44_Of.ok {p0_1 : (List Int)} {p1_2 : (BitVec 64)} {p2_3 : Int} {r : ((List (BitVec 64)))} (h : F_R44_Of p0_1 p1_2 p2_3 = some r) : Pure Try.prog 12 [(slv (eI .i32) p0_1), (w64 p1_2), (Value.int .i64 p2_3)] (slv eW r) := (F_R44_Of.own h).pure
noncomputable def F_R01_List_b1 (p0_1 : (List (BitVec 64))) (next28 : (Int × (List Int) → Option ((List Int)))) : Int × (List Int) → Option ((List Int))
  | (x4_16, l17) =>
    if x4_16 < (4096 : Int) then
      if (wr (Int.tdiv x4_16 (64 : Int))) < (p0_1.length : Int) then
        Option.bind (F_R01_Has p0_1 x4_16) fun r31 =>
        if r31 = true then
          Option.bind (app 8 l17 [x4_16]) fun l39 =>
          next28 ((wr (x4_16 + (1 : Int))), l39)
        else
          next28 ((wr (x4_16 + (1 : Int))), l17)
      else
        some (l17)
    else
      some (l17)
noncomputable def F_R01_List (p0_1 : (List (BitVec 64))) : Option ((List Int)) :=
  loopK (F_R01_List_b1 p0_1) fuel ((0 : Int), ([] : (List Int)))
theorem F_R01_List.own {p0_1 : (List (BitVec 64))} {r : ((List Int))} (h : F_R01_List p0_1 = some r) : PureO Try.prog 21 [(slv eW p0_1)] (eI .i64) r := by
  unfold F_R01_List at h
  refine ⟨(.cons (slv_flat _ _) .nil), by decide, Fn.enter Try.func21 (by kernel_rfl) rfl (of_decide_eq_true rfl) ?_⟩
  have hH : Hp ⟨0, []⟩ [] := Hp.nil (Nat.le_refl _)
  show MC _ _ _ _ _ _ _
  refine MC.seq ?_
  show MC _ _ _ _ _ _ _
  refine MC.region ?_
  have hH2 := hH.nilSl (eI .i64)
  refine MO.op (v := (Value.slice none 0 0)) (Nat.zero_le _) rfl (ev_assign rfl) rfl ?_
  refine MO.nil ?_
  refine Then.at ?_
  show MC _ _ _ _ _ _ _
  refine MC.seq ?_
  show MC _ _ _ _ _ _ _
  refine MC.region ?_
  have hH4 := hH2.nilSl (eI .i64)
  refine MO.op (v := (Value.slice none 0 0)) (Nat.zero_le _) rfl (ev_assign rfl) rfl ?_
  refine MO.nil ?_
  refine Then.at ?_
  show MC _ _ _ _ _ _ _
  refine MC.seq ?_
  show MC _ _ _ _ _ _ _
  refine MC.seq ?_
  show MC _ _ _ _ _ _ _
  refine MC.region ?_
  refine MO.op (v := (Value.int .i64 (0 : Int))) (Nat.zero_le _) rfl (ev_assign rfl) rfl ?_
  refine MO.nil ?_
  refine Then.at ?_
  show MC _ _ _ _ _ _ _
  refine MC.block ?_
  show MC _ _ _ _ _ _ _
  refine MC.loopK (fun (s : Int × (List Int)) t σ => ∃ (v19 : Value), t 0 = (slv eW p0_1) ∧ t 3 = v19 ∧ t 4 = (Value.int .i64 s.1) ∧ Hp σ [It.sl (eI .i64) v19 s.2]) h ⟨(Value.slice none 0 0), rfl, rfl, rfl, (hH4.sub (.cons_cons _ (.cons _ .slnil)))⟩ ?_
  rintro next28 ⟨x4_16, l17⟩ t σ ⟨v19, q20, q21, q22, hH23⟩ h
  try dsimp only at q20 q21 q22 hH23
  unfold F_R01_List_b1 at h
  dsimp only at h
  show MC _ _ _ _ _ _ _
  refine MC.seq ?_
  show MC _ _ _ _ _ _ _
  refine MC.seq ?_
  show MC _ _ _ _ _ _ _
  refine MC.region ?_
  refine MO.op (v := (Value.int .i64 x4_16)) (Nat.zero_le _) rfl (ev_move q22) rfl ?_
  refine MO.op (v := (Value.bool (decide (x4_16 < (4096 : Int))))) (Nat.zero_le _) rfl (ev_bin (x := (Value.int .i64 x4_16)) (y := (Value.int .i64 (4096 : Int))) rfl rfl int_lss) rfl ?_
  refine MO.op (v := (Value.bool (decide (x4_16 < (4096 : Int))))) (Nat.zero_le _) rfl (ev_move rfl) rfl ?_
  by_cases hc29 : x4_16 < (4096 : Int)
  · rw [if_pos hc29] at h
    refine MO.op (v := (Value.int .i64 x4_16)) (Nat.zero_le _) (want_yes (q := true) rfl rfl (Eq.trans (b := Value.bool (decide (x4_16 < (4096 : Int)))) rfl (congrArg Value.bool (decide_eq_true hc29))) rfl) (ev_move q22) rfl ?_
    refine MO.op (v := (Value.int .i64 (wr (Int.tdiv x4_16 (64 : Int))))) (Nat.zero_le _) (want_yes (q := true) rfl rfl (Eq.trans (b := Value.bool (decide (x4_16 < (4096 : Int)))) rfl (congrArg Value.bool (decide_eq_true hc29))) rfl) (ev_bin (x := (Value.int .i64 x4_16)) (y := (Value.int .i64 (64 : Int))) rfl rfl (int_quo (by decide))) rfl ?_
    refine MO.op (v := (slv eW p0_1)) (Nat.zero_le _) (want_yes (q := true) rfl rfl (Eq.trans (b := Value.bool (decide (x4_16 < (4096 : Int)))) rfl (congrArg Value.bool (decide_eq_true hc29))) rfl) (ev_move q20) rfl ?_
    refine MO.op (v := (Value.int .i64 (p0_1.length : Int))) (Nat.zero_le _) (want_yes (q := true) rfl rfl (Eq.trans (b := Value.bool (decide (x4_16 < (4096 : Int)))) rfl (congrArg Value.bool (decide_eq_true hc29))) rfl) (ev_len (x := (slv eW p0_1)) rfl (len_still Try.underlying25 _ _)) rfl ?_
    refine MO.op (v := (Value.bool (decide ((wr (Int.tdiv x4_16 (64 : Int))) < (p0_1.length : Int))))) (Nat.zero_le _) (want_yes (q := true) rfl rfl (Eq.trans (b := Value.bool (decide (x4_16 < (4096 : Int)))) rfl (congrArg Value.bool (decide_eq_true hc29))) rfl) (ev_bin (x := (Value.int .i64 (wr (Int.tdiv x4_16 (64 : Int))))) (y := (Value.int .i64 (p0_1.length : Int))) rfl rfl int_lss) rfl ?_
    refine MO.op (v := (Value.bool (decide ((wr (Int.tdiv x4_16 (64 : Int))) < (p0_1.length : Int))))) (Nat.zero_le _) rfl (ev_pickT (Eq.trans (b := Value.bool (decide (x4_16 < (4096 : Int)))) rfl (congrArg Value.bool (decide_eq_true hc29))) rfl) rfl ?_
    refine MO.nil ?_
    refine Then.at ?_
    by_cases hc30 : (wr (Int.tdiv x4_16 (64 : Int))) < (p0_1.length : Int)
    · rw [if_pos hc30] at h
      show MC _ _ _ _ _ _ _
      refine MC.condT (Eq.trans (b := Value.bool (decide ((wr (Int.tdiv x4_16 (64 : Int))) < (p0_1.length : Int)))) rfl (congrArg Value.bool (decide_eq_true hc30))) ?_
      show MC _ _ _ _ _ _ _
      refine MC.skip ?_
      refine Then.at ?_
      show MC _ _ _ _ _ _ _
      refine MC.seq ?_
      show MC _ _ _ _ _ _ _
      refine MC.block ?_
      show MC _ _ _ _ _ _ _
      refine MC.seq ?_
      show MC _ _ _ _ _ _ _
      refine MC.region ?_
      refine MO.op (v := (slv eW p0_1)) (Nat.zero_le _) rfl (ev_move q20) rfl ?_
      refine MO.op (v := (Value.int .i64 x4_16)) (Nat.zero_le _) rfl (ev_move q22) rfl ?_
      obtain ⟨r31, e32, h⟩ := bind_some h
      refine MO.pureW (v := (Value.bool r31)) (vs := [(slv eW p0_1), (Value.int .i64 x4_16)]) (as' := [(slv eW p0_1), (Value.int .i64 x4_16)]) (Nat.zero_le _) rfl rfl (callee_of rfl (args_cons rfl (args_cons rfl args_nil))) (LWk.cons (Wk.same _) (LWk.cons (Wk.same _) LWk.nil)) (F_R01_Has.ok e32) rfl ?_
      refine MO.nil ?_
      refine Then.at ?_
      by_cases hc33 : r31 = true
      · rw [if_pos hc33] at h
        show MC _ _ _ _ _ _ _
        refine MC.condT (Eq.trans (b := Value.bool r31) rfl (congrArg Value.bool hc33)) ?_
        show MC _ _ _ _ _ _ _
        refine MC.region ?_
        refine MO.op (v := v19) (Nat.zero_le _) rfl (ev_move q21) rfl ?_
        refine MO.op (v := (Value.int .i64 x4_16)) (Nat.zero_le _) rfl (ev_move q22) rfl ?_
        obtain ⟨v34, σ35, ha36, hH37, _⟩ := hH23.lit (e := (eI .i64)) (t := 32) Try.underlying32 et3 zr3 rfl ([x4_16]) (Nat.le_of_ble_eq_true rfl) (ps := [(0, (Value.int .i64 x4_16))]) rfl
        refine MO.op (Nat.zero_le _) rfl (ev_buildSlice (qs := [(0, (Value.int .i64 x4_16))]) (parts_cons rfl parts_nil) ha36) rfl ?_
        obtain ⟨l39, e40, h⟩ := bind_some h
        obtain ⟨v41, σ42, ha43, hH44, _⟩ := hH37.app (e := (eI .i64)) (i := 1) rfl Try.underlying32 et3 (src_own (hH37.at (i := 0) rfl) ⟨_, Try.underlying32⟩) e40
        change Hp _ [It.sl (eI .i64) v34 [x4_16], It.sl (eI .i64) v41 l39] at hH44
        refine MO.op (Nat.zero_le _) rfl (ev_append (x := v19) (y := v34) rfl rfl ha43) rfl ?_
        refine MO.op (v := v41) (Nat.zero_le _) rfl (ev_assign rfl) rfl ?_
        refine MO.nil ?_
        refine Block.at ?_
        refine Then.at ?_
        show MC _ _ _ _ _ _ _
        refine MC.region ?_
        refine MO.op (v := (Value.int .i64 x4_16)) (Nat.zero_le _) rfl (ev_move q22) rfl ?_
        refine MO.op (v := (Value.int .i64 (wr (x4_16 + (1 : Int))))) (Nat.zero_le _) rfl (ev_bin (x := (Value.int .i64 x4_16)) (y := (Value.int .i64 (1 : Int))) rfl rfl int_add) rfl ?_
        refine MO.op (v := (Value.int .i64 (wr (x4_16 + (1 : Int))))) (Nat.zero_le _) rfl (ev_assign rfl) rfl ?_
        refine MO.nil ?_
        refine Then.at ?_
        exact ⟨((wr (x4_16 + (1 : Int))), l39), ⟨v41, q20, rfl, rfl, (hH44.sub (.cons _ (.cons_cons _ .slnil)))⟩, h⟩
      · rw [if_neg hc33] at h
        show MC _ _ _ _ _ _ _
        refine MC.condF (Eq.trans (b := Value.bool r31) rfl (congrArg Value.bool (Bool.eq_false_iff.2 hc33))) ?_
        show MC _ _ _ _ _ _ _
        refine MC.skip ?_
        refine Block.at ?_
        refine Then.at ?_
        show MC _ _ _ _ _ _ _
        refine MC.region ?_
        refine MO.op (v := (Value.int .i64 x4_16)) (Nat.zero_le _) rfl (ev_move q22) rfl ?_
        refine MO.op (v := (Value.int .i64 (wr (x4_16 + (1 : Int))))) (Nat.zero_le _) rfl (ev_bin (x := (Value.int .i64 x4_16)) (y := (Value.int .i64 (1 : Int))) rfl rfl int_add) rfl ?_
        refine MO.op (v := (Value.int .i64 (wr (x4_16 + (1 : Int))))) (Nat.zero_le _) rfl (ev_assign rfl) rfl ?_
        refine MO.nil ?_
        refine Then.at ?_
        exact ⟨((wr (x4_16 + (1 : Int))), l17), ⟨v19, q20, q21, rfl, hH23⟩, h⟩
    · rw [if_neg hc30] at h
      show MC _ _ _ _ _ _ _
      refine MC.condF (Eq.trans (b := Value.bool (decide ((wr (Int.tdiv x4_16 (64 : Int))) < (p0_1.length : Int)))) rfl (congrArg Value.bool (decide_eq_false hc30))) ?_
      show MC _ _ _ _ _ _ _
      refine MC.exit ?_
      refine Then.exit ?_
      refine Then.exit ?_
      refine Block.exit ?_
      refine Then.at ?_
      show MC _ _ _ _ _ _ _
      refine MC.seq ?_
      show MC _ _ _ _ _ _ _
      refine MC.region ?_
      refine MO.op (v := v19) (Nat.zero_le _) rfl (ev_move q21) rfl ?_
      refine MO.op (v := v19) (Nat.zero_le _) rfl (ev_assign rfl) rfl ?_
      refine MO.nil ?_
      refine Then.at ?_
      show MC _ _ _ _ _ _ _
      refine MC.ret ?_
      obtain rfl := Option.some.inj h
      exact ⟨.inr rfl, _, (res_cons (res_tmp rfl) res_nil), hH23.sub (.cons_cons _ .slnil)⟩
  · rw [if_neg hc29] at h
    refine MO.skip (want_no (q := false) rfl rfl (Eq.trans (b := Value.bool (decide (x4_16 < (4096 : Int)))) rfl (congrArg Value.bool (decide_eq_false hc29))) rfl) rfl ?_
    refine MO.skip (want_no (q := false) rfl rfl (Eq.trans (b := Value.bool (decide (x4_16 < (4096 : Int)))) rfl (congrArg Value.bool (decide_eq_false hc29))) rfl) rfl ?_
    refine MO.skip (want_no (q := false) rfl rfl (Eq.trans (b := Value.bool (decide (x4_16 < (4096 : Int)))) rfl (congrArg Value.bool (decide_eq_false hc29))) rfl) rfl ?_
    refine MO.skip (want_no (q := false) rfl rfl (Eq.trans (b := Value.bool (decide (x4_16 < (4096 : Int)))) rfl (congrArg Value.bool (decide_eq_false hc29))) rfl) rfl ?_
    refine MO.skip (want_no (q := false) rfl rfl (Eq.trans (b := Value.bool (decide (x4_16 < (4096 : Int)))) rfl (congrArg Value.bool (decide_eq_false hc29))) rfl) rfl ?_
    refine MO.op (v := (Value.bool false)) (Nat.zero_le _) rfl (ev_pickF (Eq.trans (b := Value.bool (decide (x4_16 < (4096 : Int)))) rfl (congrArg Value.bool (decide_eq_false hc29))) rfl) rfl ?_
    refine MO.nil ?_
    refine Then.at ?_
    show MC _ _ _ _ _ _ _
    refine MC.condF rfl ?_
    show MC _ _ _ _ _ _ _
    refine MC.exit ?_
    refine Then.exit ?_
    refine Then.exit ?_
    refine Block.exit ?_
    refine Then.at ?_
    show MC _ _ _ _ _ _ _
    refine MC.seq ?_
    show MC _ _ _ _ _ _ _
    refine MC.region ?_
    refine MO.op (v := v19) (Nat.zero_le _) rfl (ev_move q21) rfl ?_
    refine MO.op (v := v19) (Nat.zero_le _) rfl (ev_assign rfl) rfl ?_
    refine MO.nil ?_
    refine Then.at ?_
    show MC _ _ _ _ _ _ _
    refine MC.ret ?_
    obtain rfl := Option.some.inj h
    exact ⟨.inr rfl, _, (res_cons (res_tmp rfl) res_nil), hH23.sub (.cons_cons _ .slnil)⟩
theorem F_R01_List.ok {p0_1 : (List (BitVec 64))} {r : ((List Int))} (h : F_R01_List p0_1 = some r) : Pure Try.prog 21 [(slv eW p0_1)] (slv (eI .i64) r) := (F_R01_List.own h).pure
noncomputable def F_R01_Less_b1 (p1_2 : (List (BitVec 64))) (r7 : (List Int)) (next43 : (Int × (List Int) → Option ((List (BitVec 64))))) : Int × (List Int) → Option ((List (BitVec 64)))
  | (x11_27, l29) =>
    if x11_27 < (r7.length : Int) then
      Option.bind (gx r7 x11_27) fun x45 =>
      Option.bind (F_R01_Has p1_2 x45) fun r50 =>
      if (!r50) = true then
        Option.bind (app 8 l29 [x45]) fun l58 =>
        next43 ((wr (x11_27 + (1 : Int))), l58)
      else
        next43 ((wr (x11_27 + (1 : Int))), l29)
    else
      Option.bind (F_R01_Of l29) fun r68 =>
      some (r68)
noncomputable def F_R01_Less (p0_1 : (List (BitVec 64))) (p1_2 : (List (BitVec 64))) : Option ((List (BitVec 64))) :=
  Option.bind (F_R01_List p0_1) fun r7 =>
  loopK (F_R01_Less_b1 p1_2 r7) fuel ((0 : Int), ([] : (List Int)))
theorem F_R01_Less.own {p0_1 : (List (BitVec 64))} {p1_2 : (List (BitVec 64))} {r : ((List (BitVec 64)))} (h : F_R01_Less p0_1 p1_2 = some r) : PureO Try.prog 22 [(slv eW p0_1), (slv eW p1_2)] eW r := by
  unfold F_R01_Less at h
  refine ⟨(.cons (slv_flat _ _) (.cons (slv_flat _ _) .nil)), by decide, Fn.enter Try.func22 (by kernel_rfl) rfl (of_decide_eq_true rfl) ?_⟩
  have hH : Hp ⟨0, []⟩ [] := Hp.nil (Nat.le_refl _)
  show MC _ _ _ _ _ _ _
  refine MC.seq ?_
  show MC _ _ _ _ _ _ _
  refine MC.region ?_
  have hH3 := hH.nilSl eW
  refine MO.op (v := (Value.slice none 0 0)) (Nat.zero_le _) rfl (ev_assign rfl) rfl ?_
  refine MO.nil ?_
  refine Then.at ?_
  show MC _ _ _ _ _ _ _
  refine MC.seq ?_
  show MC _ _ _ _ _ _ _
  refine MC.region ?_
  have hH5 := hH3.nilSl (eI .i64)
  refine MO.op (v := (Value.slice none 0 0)) (Nat.zero_le _) rfl (ev_assign rfl) rfl ?_
  refine MO.nil ?_
  refine Then.at ?_
  show MC _ _ _ _ _ _ _
  refine MC.seq ?_
  show MC _ _ _ _ _ _ _
  refine MC.seq ?_
  show MC _ _ _ _ _ _ _
  refine MC.region ?_
  refine MO.op (v := (slv eW p0_1)) (Nat.zero_le _) rfl (ev_move rfl) rfl ?_
  obtain ⟨r7, e8, h⟩ := bind_some h
  refine MO.pureO (vs := [(slv eW p0_1)]) (as' := [(slv eW p0_1)]) (Nat.zero_le _) rfl rfl (callee_of rfl (args_cons rfl args_nil)) (LWk.cons (Wk.same _) LWk.nil) (F_R01_List.own e8) hH5 rfl (by decide) fun v9 σ10 hH11 => ?_
  refine MO.op (v := (Value.int .i64 (r7.length : Int))) (Nat.zero_le _) rfl (ev_len (x := v9) rfl (It.sl_len (hH11.at (i := 0) rfl) Try.underlying32 _)) rfl ?_
  refine MO.op (v := (Value.int .i64 (0 : Int))) (Nat.zero_le _) rfl (ev_move rfl) rfl ?_
  refine MO.nil ?_
  refine Then.at ?_
  show MC _ _ _ _ _ _ _
  refine MC.block ?_
  show MC _ _ _ _ _ _ _
  refine MC.loopK (fun (s : Int × (List Int)) t σ => ∃ (v31 : Value), t 1 = (slv eW p1_2) ∧ t 5 = v31 ∧ t 9 = v9 ∧ t 10 = (Value.int .i64 (r7.length : Int)) ∧ t 11 = (Value.int .i64 s.1) ∧ Hp σ [It.sl (eI .i64) v9 r7, It.sl (eI .i64) v31 s.2]) h ⟨(Value.slice none 0 0), rfl, rfl, rfl, rfl, rfl, (hH11.sub (.cons_cons _ (.cons_cons _ (.cons _ .slnil))))⟩ ?_
  rintro next43 ⟨x11_27, l29⟩ t σ ⟨v31, q32, q33, q34, q35, q36, hH37⟩ h
  try dsimp only at q32 q33 q34 q35 q36 hH37
  unfold F_R01_Less_b1 at h
  dsimp only at h
  show MC _ _ _ _ _ _ _
  refine MC.seq ?_
  show MC _ _ _ _ _ _ _
  refine MC.region ?_
  refine MO.op (v := (Value.bool (decide (x11_27 < (r7.length : Int))))) (Nat.zero_le _) rfl (ev_bin (x := (Value.int .i64 x11_27)) (y := (Value.int .i64 (r7.length : Int))) q36 q35 int_lss) rfl ?_
  refine MO.nil ?_
  refine Then.at ?_
  show MC _ _ _ _ _ _ _
  refine MC.seq ?_
  by_cases hc44 : x11_27 < (r7.length : Int)
  · rw [if_pos hc44] at h
    show MC _ _ _ _ _ _ _
    refine MC.condT (Eq.trans (b := Value.bool (decide (x11_27 < (r7.length : Int)))) rfl (congrArg Value.bool (decide_eq_true hc44))) ?_
    show MC _ _ _ _ _ _ _
    refine MC.skip ?_
    refine Then.at ?_
    show MC _ _ _ _ _ _ _
    refine MC.seq ?_
    show MC _ _ _ _ _ _ _
    refine MC.block ?_
    show MC _ _ _ _ _ _ _
    refine MC.seq ?_
    show MC _ _ _ _ _ _ _
    refine MC.region ?_
    obtain ⟨x45, e46, h⟩ := bind_some h
    obtain ⟨b47, o48, ha49, _⟩ := It.sl_at (hH37.at (i := 0) rfl) ty3 Try.underlying32 (k := .i64) (gx_some e46).1 (gx_some e46).2
    refine MO.op (v := (Value.pointer (some ⟨b47, o48, none⟩))) (Nat.zero_le _) rfl (ev_indexAddr (x := v9) (y := (Value.int .i64 x11_27)) q34 q36 ha49) rfl ?_
    refine MO.op (v := (Value.int .i64 x45)) (Nat.zero_le _) rfl (ev_load (x := (Value.pointer (some ⟨b47, o48 + 0, none⟩))) rfl (hH37.elLoad (e := (eI .i64)) (ef := (eI .i64)) (i := 0) (off := 0) (y := x45) rfl ty3 Try.underlying32 e46 ha49 ty3 rfl (fun _ => rfl))) rfl ?_
    refine MO.op (v := (Value.int .i64 x45)) (Nat.zero_le _) rfl (ev_assign rfl) rfl ?_
    refine MO.nil ?_
    refine Then.at ?_
    show MC _ _ _ _ _ _ _
    refine MC.seq ?_
    show MC _ _ _ _ _ _ _
    refine MC.region ?_
    refine MO.op (v := (slv eW p1_2)) (Nat.zero_le _) rfl (ev_move q32) rfl ?_
    refine MO.op (v := (Value.int .i64 x45)) (Nat.zero_le _) rfl (ev_move rfl) rfl ?_
    obtain ⟨r50, e51, h⟩ := bind_some h
    refine MO.pureW (v := (Value.bool r50)) (vs := [(slv eW p1_2), (Value.int .i64 x45)]) (as' := [(slv eW p1_2), (Value.int .i64 x45)]) (Nat.zero_le _) rfl rfl (callee_of rfl (args_cons rfl (args_cons rfl args_nil))) (LWk.cons (Wk.same _) (LWk.cons (Wk.same _) LWk.nil)) (F_R01_Has.ok e51) rfl ?_
    refine MO.op (v := (Value.bool (!r50))) (Nat.zero_le _) rfl (ev_un (x := Value.bool r50) rfl bool_not) rfl ?_
    refine MO.nil ?_
    refine Then.at ?_
    by_cases hc52 : (!r50) = true
    · rw [if_pos hc52] at h
      show MC _ _ _ _ _ _ _
      refine MC.condT (Eq.trans (b := Value.bool (!r50)) rfl (congrArg Value.bool hc52)) ?_
      show MC _ _ _ _ _ _ _
      refine MC.region ?_
      refine MO.op (v := v31) (Nat.zero_le _) rfl (ev_move q33) rfl ?_
      refine MO.op (v := (Value.int .i64 x45)) (Nat.zero_le _) rfl (ev_move rfl) rfl ?_
      obtain ⟨v53, σ54, ha55, hH56, _⟩ := hH37.lit (e := (eI .i64)) (t := 32) Try.underlying32 et3 zr3 rfl ([x45]) (Nat.le_of_ble_eq_true rfl) (ps := [(0, (Value.int .i64 x45))]) rfl
      refine MO.op (Nat.zero_le _) rfl (ev_buildSlice (qs := [(0, (Value.int .i64 x45))]) (parts_cons rfl parts_nil) ha55) rfl ?_
      obtain ⟨l58, e59, h⟩ := bind_some h
      obtain ⟨v60, σ61, ha62, hH63, _⟩ := hH56.app (e := (eI .i64)) (i := 2) rfl Try.underlying32 et3 (src_own (hH56.at (i := 0) rfl) ⟨_, Try.underlying32⟩) e59
      change Hp _ [It.sl (eI .i64) v53 [x45], It.sl (eI .i64) v9 r7, It.sl (eI .i64) v60 l58] at hH63
      refine MO.op (Nat.zero_le _) rfl (ev_append (x := v31) (y := v53) rfl rfl ha62) rfl ?_
      refine MO.op (v := v60) (Nat.zero_le _) rfl (ev_assign rfl) rfl ?_
      refine MO.nil ?_
      refine Block.at ?_
      refine Then.at ?_
      show MC _ _ _ _ _ _ _
      refine MC.region ?_
      refine MO.op (v := (Value.int .i64 (wr (x11_27 + (1 : Int))))) (Nat.zero_le _) rfl (ev_bin (x := (Value.int .i64 x11_27)) (y := (Value.int .i64 (1 : Int))) q36 rfl int_add) rfl ?_
      refine MO.op (v := (Value.int .i64 (wr (x11_27 + (1 : Int))))) (Nat.zero_le _) rfl (ev_move rfl) rfl ?_
      refine MO.nil ?_
      refine Then.at ?_
      exact ⟨((wr (x11_27 + (1 : Int))), l58), ⟨v60, q32, rfl, q34, q35, rfl, (hH63.sub (.cons _ (.cons_cons _ (.cons_cons _ .slnil))))⟩, h⟩
    · rw [if_neg hc52] at h
      show MC _ _ _ _ _ _ _
      refine MC.condF (Eq.trans (b := Value.bool (!r50)) rfl (congrArg Value.bool (Bool.eq_false_iff.2 hc52))) ?_
      show MC _ _ _ _ _ _ _
      refine MC.skip ?_
      refine Block.at ?_
      refine Then.at ?_
      show MC _ _ _ _ _ _ _
      refine MC.region ?_
      refine MO.op (v := (Value.int .i64 (wr (x11_27 + (1 : Int))))) (Nat.zero_le _) rfl (ev_bin (x := (Value.int .i64 x11_27)) (y := (Value.int .i64 (1 : Int))) q36 rfl int_add) rfl ?_
      refine MO.op (v := (Value.int .i64 (wr (x11_27 + (1 : Int))))) (Nat.zero_le _) rfl (ev_move rfl) rfl ?_
      refine MO.nil ?_
      refine Then.at ?_
      exact ⟨((wr (x11_27 + (1 : Int))), l29), ⟨v31, q32, q33, q34, q35, rfl, hH37⟩, h⟩
  · rw [if_neg hc44] at h
    show MC _ _ _ _ _ _ _
    refine MC.condF (Eq.trans (b := Value.bool (decide (x11_27 < (r7.length : Int)))) rfl (congrArg Value.bool (decide_eq_false hc44))) ?_
    show MC _ _ _ _ _ _ _
    refine MC.exit ?_
    refine Then.exit ?_
    refine Then.exit ?_
    refine Block.exit ?_
    refine Then.at ?_
    show MC _ _ _ _ _ _ _
    refine MC.seq ?_
    show MC _ _ _ _ _ _ _
    refine MC.region ?_
    refine MO.op (v := v31) (Nat.zero_le _) rfl (ev_move q33) rfl ?_
    obtain ⟨r68, e69, h⟩ := bind_some h
    refine MO.still (e := (eI .i64)) (i := 1) hH37 rfl [5, 24] (by simp only [List.mem_cons, List.not_mem_nil, or_false, forall_eq_or_imp, forall_eq]; exact ⟨q33, rfl⟩) fun σ66 hH65 hz67 => ?_
    change Hp _ [It.sl (eI .i64) v9 r7] at hH65
    refine MO.pureO (vs := [(slv (eI .i64) l29)]) (as' := [(slv (eI .i64) l29)]) (Nat.zero_le _) rfl rfl (callee_of rfl (args_cons rfl args_nil)) (LWk.cons (Wk.same _) LWk.nil) (F_R01_Of.own e69) hH65 rfl (by decide) fun v70 σ71 hH72 => ?_
    refine MO.op (v := v70) (Nat.zero_le _) rfl (ev_assign rfl) rfl ?_
    refine MO.nil ?_
    refine Then.at ?_
    show MC _ _ _ _ _ _ _
    refine MC.ret ?_
    obtain rfl := Option.some.inj h
    exact ⟨.inr rfl, _, (res_cons (res_tmp rfl) res_nil), hH72.sub (.cons_cons _ (.cons _ .slnil))⟩
theorem F_R01_Less.ok {p0_1 : (List (BitVec 64))} {p1_2 : (List (BitVec 64))} {r : ((List (BitVec 64)))} (h : F_R01_Less p0_1 p1_2 = some r) : Pure Try.prog 22 [(slv eW p0_1), (slv eW p1_2)] (slv eW r) := (F_R01_Less.own h).pure
noncomputable def F_R44_Apart (p0_1 : (List (BitVec 64))) (p1_2 : (List (BitVec 64))) : Option (Int) :=
  Option.bind (F_R01_Less p0_1 p1_2) fun r3 =>
  Option.bind (F_R01_List r3) fun r5 =>
  Option.bind (F_R01_Less p1_2 p0_1) fun r7 =>
  Option.bind (F_R01_List r7) fun r9 =>
  some ((wr ((r5.length : Int) + (r9.length : Int))))
theorem F_R44_Apart.ok {p0_1 : (List (BitVec 64))} {p1_2 : (List (BitVec 64))} {r : (Int)} (h : F_R44_Apart p0_1 p1_2 = some r) : Pure Try.prog 7 [(slv eW p0_1), (slv eW p1_2)] (Value.int .i64 r) := by
  unfold F_R44_Apart at h
  refine ⟨(.cons (slv_flat _ _) (.cons (slv_flat _ _) .nil)), (.prim rfl), Fn.enter Try.func7 (by kernel_rfl) rfl (of_decide_eq_true rfl) ?_⟩
  have hH : Hp ⟨0, []⟩ [] := Hp.nil (Nat.le_refl _)
  show MC _ _ _ _ _ _ _
  refine MC.seq ?_
  show MC _ _ _ _ _ _ _
  refine MC.region ?_
  refine MO.op (v := (Value.int .i64 (0 : Int))) (Nat.zero_le _) rfl (ev_assign rfl) rfl ?_
  refine MO.nil ?_
  refine Then.at ?_
  show MC _ _ _ _ _ _ _
  refine MC.seq ?_
  show MC _ _ _ _ _ _ _
  refine MC.region ?_
  refine MO.op (v := (slv eW p0_1)) (Nat.zero_le _) rfl (ev_move rfl) rfl ?_
  refine MO.op (v := (slv eW p1_2)) (Nat.zero_le _) rfl (ev_move rfl) rfl ?_
  obtain ⟨r3, e4, h⟩ := bind_some h
  refine MO.pureW (v := (slv eW r3)) (vs := [(slv eW p0_1), (slv eW p1_2)]) (as' := [(slv eW p0_1), (slv eW p1_2)]) (Nat.zero_le _) rfl rfl (callee_of rfl (args_cons rfl (args_cons rfl args_nil))) (LWk.cons (Wk.same _) (LWk.cons (Wk.same _) LWk.nil)) (F_R01_Less.ok e4) rfl ?_
  obtain ⟨r5, e6, h⟩ := bind_some h
  refine MO.pureW (v := (slv (eI .i64) r5)) (vs := [(slv eW r3)]) (as' := [(slv eW r3)]) (Nat.zero_le _) rfl rfl (callee_of rfl (args_cons rfl args_nil)) (LWk.cons (Wk.same _) LWk.nil) (F_R01_List.ok e6) rfl ?_
  refine MO.op (v := (Value.int .i64 (r5.length : Int))) (Nat.zero_le _) rfl (ev_len (x := (slv (eI .i64) r5)) rfl (len_still Try.underlying32 _ _)) rfl ?_
  refine MO.op (v := (slv eW p1_2)) (Nat.zero_le _) rfl (ev_move rfl) rfl ?_
  refine MO.op (v := (slv eW p0_1)) (Nat.zero_le _) rfl (ev_move rfl) rfl ?_
  obtain ⟨r7, e8, h⟩ := bind_some h
  refine MO.pureW (v := (slv eW r7)) (vs := [(slv eW p1_2), (slv eW p0_1)]) (as' := [(slv eW p1_2), (slv eW p0_1)]) (Nat.zero_le _) rfl rfl (callee_of rfl (args_cons rfl (args_cons rfl args_nil))) (LWk.cons (Wk.same _) (LWk.cons (Wk.same _) LWk.nil)) (F_R01_Less.ok e8) rfl ?_
  obtain ⟨r9, e10, h⟩ := bind_some h
  refine MO.pureW (v := (slv (eI .i64) r9)) (vs := [(slv eW r7)]) (as' := [(slv eW r7)]) (Nat.zero_le _) rfl rfl (callee_of rfl (args_cons rfl args_nil)) (LWk.cons (Wk.same _) LWk.nil) (F_R01_List.ok e10) rfl ?_
  refine MO.op (v := (Value.int .i64 (r9.length : Int))) (Nat.zero_le _) rfl (ev_len (x := (slv (eI .i64) r9)) rfl (len_still Try.underlying32 _ _)) rfl ?_
  refine MO.op (v := (Value.int .i64 (wr ((r5.length : Int) + (r9.length : Int))))) (Nat.zero_le _) rfl (ev_bin (x := (Value.int .i64 (r5.length : Int))) (y := (Value.int .i64 (r9.length : Int))) rfl rfl int_add) rfl ?_
  refine MO.op (v := (Value.int .i64 (wr ((r5.length : Int) + (r9.length : Int))))) (Nat.zero_le _) rfl (ev_assign rfl) rfl ?_
  refine MO.nil ?_
  refine Then.at ?_
  show MC _ _ _ _ _ _ _
  refine MC.ret ?_
  obtain rfl := Option.some.inj h
  exact ⟨.inr rfl, _, (res_cons (res_tmp rfl) res_nil), rfl⟩
noncomputable def F_R44_Near_b2 (p0_1 : (List (List (BitVec 64)))) (p1_2 : (List (BitVec 64))) (x12_21 : Int) (next36 : (Int × (List Int) → Option ((List Int)))) (next79 : (Int × (List Int) → Option ((List Int)))) : Int × (List Int) → Option ((List Int))
  | (x9_64, l65) =>
    if (0 : Int) < x9_64 then
      Option.bind (gx p0_1 x12_21) fun x81 =>
      Option.bind (F_R44_Apart x81 p1_2) fun r83 =>
      Option.bind (gx l65 (wr (x9_64 - (1 : Int)))) fun x85 =>
      Option.bind (gx p0_1 x85) fun x90 =>
      Option.bind (F_R44_Apart x90 p1_2) fun r92 =>
      if r83 < r92 then
        Option.bind (gx l65 (wr (x9_64 - (1 : Int)))) fun x95 =>
        Option.bind (gx l65 x9_64) fun x100 =>
        next79 ((wr (x9_64 - (1 : Int))), (List.set l65 (Int.toNat x9_64) x95))
      else
        Option.bind (gx l65 x9_64) fun x108 =>
        next36 ((wr (x12_21 + (1 : Int))), (List.set l65 (Int.toNat x9_64) x12_21))
    else
      Option.bind (gx l65 x9_64) fun x116 =>
      next36 ((wr (x12_21 + (1 : Int))), (List.set l65 (Int.toNat x9_64) x12_21))
noncomputable def F_R44_Near_b1 (p0_1 : (List (List (BitVec 64)))) (p1_2 : (List (BitVec 64))) (p2_3 : Int) (next36 : (Int × (List Int) → Option ((List Int)))) : Int × (List Int) → Option ((List Int))
  | (x12_21, l22) =>
    if x12_21 < (p0_1.length : Int) then
      Option.bind (app 8 l22 [x12_21]) fun l43 =>
      loopK (F_R44_Near_b2 p0_1 p1_2 x12_21 next36) fuel ((l22.length : Int), l43)
    else
      Option.bind (cut l22 (lo? none) (hi? l22 (some (max (0 : Int) (min p2_3 (l22.length : Int)))))) fun l124 =>
      some (l124)
noncomputable def F_R44_Near (p0_1 : (List (List (BitVec 64)))) (p1_2 : (List (BitVec 64))) (p2_3 : Int) : Option ((List Int)) :=
  loopK (F_R44_Near_b1 p0_1 p1_2 p2_3) fuel ((0 : Int), ([] : (List Int)))
theorem F_R44_Near.own {p0_1 : (List (List (BitVec 64)))} {p1_2 : (List (BitVec 64))} {p2_3 : Int} {r : ((List Int))} (h : F_R44_Near p0_1 p1_2 p2_3 = some r) : PureO Try.prog 15 [(slv (eL eW) p0_1), (slv eW p1_2), (Value.int .i64 p2_3)] (eI .i64) r := by
  unfold F_R44_Near at h
  refine ⟨(.cons (slv_flat _ _) (.cons (slv_flat _ _) (.cons (.prim rfl) .nil))), by decide, Fn.enter Try.func15 (by kernel_rfl) rfl (of_decide_eq_true rfl) ?_⟩
  have hH : Hp ⟨0, []⟩ [] := Hp.nil (Nat.le_refl _)
  show MC _ _ _ _ _ _ _
  refine MC.seq ?_
  show MC _ _ _ _ _ _ _
  refine MC.region ?_
  have hH4 := hH.nilSl (eI .i64)
  refine MO.op (v := (Value.slice none 0 0)) (Nat.zero_le _) rfl (ev_assign rfl) rfl ?_
  refine MO.nil ?_
  refine Then.at ?_
  show MC _ _ _ _ _ _ _
  refine MC.seq ?_
  show MC _ _ _ _ _ _ _
  refine MC.region ?_
  have hH6 := hH4.nilSl (eI .i64)
  refine MO.op (v := (Value.slice none 0 0)) (Nat.zero_le _) rfl (ev_assign rfl) rfl ?_
  refine MO.nil ?_
  refine Then.at ?_
  show MC _ _ _ _ _ _ _
  refine MC.seq ?_
  show MC _ _ _ _ _ _ _
  refine MC.seq ?_
  show MC _ _ _ _ _ _ _
  refine MC.region ?_
  refine MO.op (v := (slv (eL eW) p0_1)) (Nat.zero_le _) rfl (ev_move rfl) rfl ?_
  refine MO.op (v := (Value.int .i64 (p0_1.length : Int))) (Nat.zero_le _) rfl (ev_len (x := (slv (eL eW) p0_1)) rfl (len_still Try.underlying24 _ _)) rfl ?_
  refine MO.op (v := (Value.int .i64 (0 : Int))) (Nat.zero_le _) rfl (ev_move rfl) rfl ?_
  refine MO.nil ?_
  refine Then.at ?_
  show MC _ _ _ _ _ _ _
  refine MC.block ?_
  show MC _ _ _ _ _ _ _
  refine MC.loopK (fun (s : Int × (List Int)) t σ => ∃ (v24 : Value), t 0 = (slv (eL eW) p0_1) ∧ t 1 = (slv eW p1_2) ∧ t 2 = (Value.int .i64 p2_3) ∧ t 7 = v24 ∧ t 11 = (Value.int .i64 (p0_1.length : Int)) ∧ t 12 = (Value.int .i64 s.1) ∧ Hp σ [It.sl (eI .i64) v24 s.2]) h ⟨(Value.slice none 0 0), rfl, rfl, rfl, rfl, rfl, rfl, (hH6.sub (.cons_cons _ (.cons _ .slnil)))⟩ ?_
  rintro next36 ⟨x12_21, l22⟩ t σ ⟨v24, q25, q26, q27, q28, q29, q30, hH31⟩ h
  try dsimp only at q25 q26 q27 q28 q29 q30 hH31
  unfold F_R44_Near_b1 at h
  dsimp only at h
  show MC _ _ _ _ _ _ _
  refine MC.seq ?_
  show MC _ _ _ _ _ _ _
  refine MC.region ?_
  refine MO.op (v := (Value.bool (decide (x12_21 < (p0_1.length : Int))))) (Nat.zero_le _) rfl (ev_bin (x := (Value.int .i64 x12_21)) (y := (Value.int .i64 (p0_1.length : Int))) q30 q29 int_lss) rfl ?_
  refine MO.nil ?_
  refine Then.at ?_
  show MC _ _ _ _ _ _ _
  refine MC.seq ?_
  by_cases hc37 : x12_21 < (p0_1.length : Int)
  · rw [if_pos hc37] at h
    show MC _ _ _ _ _ _ _
    refine MC.condT (Eq.trans (b := Value.bool (decide (x12_21 < (p0_1.length : Int)))) rfl (congrArg Value.bool (decide_eq_true hc37))) ?_
    show MC _ _ _ _ _ _ _
    refine MC.skip ?_
    refine Then.at ?_
    show MC _ _ _ _ _ _ _
    refine MC.seq ?_
    show MC _ _ _ _ _ _ _
    refine MC.block ?_
    show MC _ _ _ _ _ _ _
    refine MC.seq ?_
    show MC _ _ _ _ _ _ _
    refine MC.region ?_
    refine MO.op (v := (Value.int .i64 x12_21)) (Nat.zero_le _) rfl (ev_move q30) rfl ?_
    refine MO.op (v := (Value.int .i64 x12_21)) (Nat.zero_le _) rfl (ev_assign rfl) rfl ?_
    refine MO.nil ?_
    refine Then.at ?_
    show MC _ _ _ _ _ _ _
    refine MC.seq ?_
    show MC _ _ _ _ _ _ _
    refine MC.region ?_
    refine MO.op (v := v24) (Nat.zero_le _) rfl (ev_move q28) rfl ?_
    refine MO.op (v := (Value.int .i64 (l22.length : Int))) (Nat.zero_le _) rfl (ev_len (x := v24) rfl (It.sl_len (hH31.at (i := 0) rfl) Try.underlying32 _)) rfl ?_
    refine MO.op (v := (Value.int .i64 (l22.length : Int))) (Nat.zero_le _) rfl (ev_assign rfl) rfl ?_
    refine MO.nil ?_
    refine Then.at ?_
    show MC _ _ _ _ _ _ _
    refine MC.seq ?_
    show MC _ _ _ _ _ _ _
    refine MC.region ?_
    refine MO.op (v := v24) (Nat.zero_le _) rfl (ev_move q28) rfl ?_
    refine MO.op (v := (Value.int .i64 x12_21)) (Nat.zero_le _) rfl (ev_move rfl) rfl ?_
    obtain ⟨v38, σ39, ha40, hH41, _⟩ := hH31.lit (e := (eI .i64)) (t := 32) Try.underlying32 et3 zr3 rfl ([x12_21]) (Nat.le_of_ble_eq_true rfl) (ps := [(0, (Value.int .i64 x12_21))]) rfl
    refine MO.op (Nat.zero_le _) rfl (ev_buildSlice (qs := [(0, (Value.int .i64 x12_21))]) (parts_cons rfl parts_nil) ha40) rfl ?_
    obtain ⟨l43, e44, h⟩ := bind_some h
    obtain ⟨v45, σ46, ha47, hH48, _⟩ := hH41.app (e := (eI .i64)) (i := 1) rfl Try.underlying32 et3 (src_own (hH41.at (i := 0) rfl) ⟨_, Try.underlying32⟩) e44
    change Hp _ [It.sl (eI .i64) v38 [x12_21], It.sl (eI .i64) v45 l43] at hH48
    refine MO.op (Nat.zero_le _) rfl (ev_append (x := v24) (y := v38) rfl rfl ha47) rfl ?_
    refine MO.op (v := v45) (Nat.zero_le _) rfl (ev_assign rfl) rfl ?_
    refine MO.nil ?_
    refine Then.at ?_
    show MC _ _ _ _ _ _ _
    refine MC.seq ?_
    show MC _ _ _ _ _ _ _
    refine MC.block ?_
    show MC _ _ _ _ _ _ _
    refine MC.loopK (fun (s : Int × (List Int)) t σ => t 0 = (slv (eL eW) p0_1) ∧ t 1 = (slv eW p1_2) ∧ t 2 = (Value.int .i64 p2_3) ∧ t 7 = v45 ∧ t 8 = (Value.int .i64 x12_21) ∧ t 9 = (Value.int .i64 s.1) ∧ t 11 = (Value.int .i64 (p0_1.length : Int)) ∧ t 12 = (Value.int .i64 x12_21) ∧ Hp σ [It.sl (eI .i64) v45 s.2]) h ⟨q25, q26, q27, rfl, rfl, rfl, q29, q30, (hH48.sub (.cons _ (.cons_cons _ .slnil)))⟩ ?_
    rintro next79 ⟨x9_64, l65⟩ t σ ⟨q67, q68, q69, q70, q71, q72, q73, q74, hH75⟩ h
    try dsimp only at q67 q68 q69 q70 q71 q72 q73 q74 hH75
    unfold F_R44_Near_b2 at h
    dsimp only at h
    show MC _ _ _ _ _ _ _
    refine MC.seq ?_
    show MC _ _ _ _ _ _ _
    refine MC.seq ?_
    show MC _ _ _ _ _ _ _
    by_cases hc80 : (0 : Int) < x9_64
    · rw [if_pos hc80] at h
      obtain ⟨x81, e82, h⟩ := bind_some h
      obtain ⟨r83, e84, h⟩ := bind_some h
      obtain ⟨x85, e86, h⟩ := bind_some h
      obtain ⟨x90, e91, h⟩ := bind_some h
      obtain ⟨r92, e93, h⟩ := bind_some h
      refine MC.open (fr := [true, true, true, false, false, false, false, false, false, false, false, false, false, false, false, false, false, false, true, true, true]) [(7, [(slv eW x81), (slv eW p1_2)], (Value.int .i64 r83)), (7, [(slv eW x90), (slv eW p1_2)], (Value.int .i64 r92))] ?_ mixed (Nat.zero_le _) (by kernel_rfl) (by kernel_rfl) ?_
      · intro e he
        simp only [List.mem_cons, List.not_mem_nil, or_false] at he
        rcases he with rfl | rfl
        · exact F_R44_Apart.ok e84
        · exact F_R44_Apart.ok e93
      refine DD.same (v := (Value.int .i64 x9_64)) rfl (fun n => ev_move q72) rfl ?_
      refine DD.same (v := (Value.bool (decide ((0 : Int) < x9_64)))) rfl (fun n => ev_bin (x := (Value.int .i64 x9_64)) (y := (Value.int .i64 (0 : Int))) rfl rfl int_gtr) rfl ?_
      refine DD.same (v := (Value.bool (decide ((0 : Int) < x9_64)))) rfl (fun n => ev_move rfl) rfl ?_
      refine DD.same (v := (slv (eL eW) p0_1)) (want_yes (q := true) rfl rfl (Eq.trans (b := Value.bool (decide ((0 : Int) < x9_64))) rfl (congrArg Value.bool (decide_eq_true hc80))) rfl) (fun n => ev_move q67) rfl ?_
      refine DD.same (v := (Value.int .i64 x12_21)) (want_yes (q := true) rfl rfl (Eq.trans (b := Value.bool (decide ((0 : Int) < x9_64))) rfl (congrArg Value.bool (decide_eq_true hc80))) rfl) (fun n => ev_move q71) rfl ?_
      refine DD.same (v := (ptv (eL eW) x81)) (want_yes (q := true) rfl rfl (Eq.trans (b := Value.bool (decide ((0 : Int) < x9_64))) rfl (congrArg Value.bool (decide_eq_true hc80))) rfl) (fun n => ev_indexAddr (x := (slv (eL eW) p0_1)) (y := (Value.int .i64 x12_21)) rfl rfl (index_still ty25 Try.underlying24 (gx_some e82).1 (gx_some e82).2)) rfl ?_
      refine DD.same (v := (slv eW x81)) (want_yes (q := true) rfl rfl (Eq.trans (b := Value.bool (decide ((0 : Int) < x9_64))) rfl (congrArg Value.bool (decide_eq_true hc80))) rfl) (fun n => ev_load (x := (ptv (eL eW) x81)) rfl (load_still ty25 _ _)) rfl ?_
      refine DD.same (v := (slv eW p1_2)) (want_yes (q := true) rfl rfl (Eq.trans (b := Value.bool (decide ((0 : Int) < x9_64))) rfl (congrArg Value.bool (decide_eq_true hc80))) rfl) (fun n => ev_move q68) rfl ?_
      refine DD.call (v := (Value.int .i64 r83)) (want_yes (q := true) rfl rfl (Eq.trans (b := Value.bool (decide ((0 : Int) < x9_64))) rfl (congrArg Value.bool (decide_eq_true hc80))) rfl) rfl (callee_of rfl (args_cons rfl (args_cons rfl args_nil))) ((known_head _ _ _ _)) rfl ?_
      refine DD.same (v := (slv (eL eW) p0_1)) (want_yes (q := true) rfl rfl (Eq.trans (b := Value.bool (decide ((0 : Int) < x9_64))) rfl (congrArg Value.bool (decide_eq_true hc80))) rfl) (fun n => ev_move q67) rfl ?_
      refine DD.same (v := v45) (want_yes (q := true) rfl rfl (Eq.trans (b := Value.bool (decide ((0 : Int) < x9_64))) rfl (congrArg Value.bool (decide_eq_true hc80))) rfl) (fun n => ev_move q70) rfl ?_
      refine DD.same (v := (Value.int .i64 x9_64)) (want_yes (q := true) rfl rfl (Eq.trans (b := Value.bool (decide ((0 : Int) < x9_64))) rfl (congrArg Value.bool (decide_eq_true hc80))) rfl) (fun n => ev_move q72) rfl ?_
      refine DD.same (v := (Value.int .i64 (wr (x9_64 - (1 : Int))))) (want_yes (q := true) rfl rfl (Eq.trans (b := Value.bool (decide ((0 : Int) < x9_64))) rfl (congrArg Value.bool (decide_eq_true hc80))) rfl) (fun n => ev_bin (x := (Value.int .i64 x9_64)) (y := (Value.int .i64 (1 : Int))) rfl rfl int_sub) rfl ?_
      obtain ⟨b87, o88, ha89, _⟩ := It.sl_at (hH75.at (i := 0) rfl) ty3 Try.underlying32 (k := .i64) (gx_some e86).1 (gx_some e86).2
      refine DD.same (v := (Value.pointer (some ⟨b87, o88, none⟩))) (want_yes (q := true) rfl rfl (Eq.trans (b := Value.bool (decide ((0 : Int) < x9_64))) rfl (congrArg Value.bool (decide_eq_true hc80))) rfl) (fun n => ev_indexAddr (x := v45) (y := (Value.int .i64 (wr (x9_64 - (1 : Int))))) rfl rfl ha89) rfl ?_
      refine DD.same (v := (Value.int .i64 x85)) (want_yes (q := true) rfl rfl (Eq.trans (b := Value.bool (decide ((0 : Int) < x9_64))) rfl (congrArg Value.bool (decide_eq_true hc80))) rfl) (fun n => ev_load (x := (Value.pointer (some ⟨b87, o88 + 0, none⟩))) rfl (hH75.elLoad (e := (eI .i64)) (ef := (eI .i64)) (i := 0) (off := 0) (y := x85) rfl ty3 Try.underlying32 e86 ha89 ty3 rfl (fun _ => rfl))) rfl ?_
      refine DD.same (v := (ptv (eL eW) x90)) (want_yes (q := true) rfl rfl (Eq.trans (b := Value.bool (decide ((0 : Int) < x9_64))) rfl (congrArg Value.bool (decide_eq_true hc80))) rfl) (fun n => ev_indexAddr (x := (slv (eL eW) p0_1)) (y := (Value.int .i64 x85)) rfl rfl (index_still ty25 Try.underlying24 (gx_some e91).1 (gx_some e91).2)) rfl ?_
      refine DD.same (v := (slv eW x90)) (want_yes (q := true) rfl rfl (Eq.trans (b := Value.bool (decide ((0 : Int) < x9_64))) rfl (congrArg Value.bool (decide_eq_true hc80))) rfl) (fun n => ev_load (x := (ptv (eL eW) x90)) rfl (load_still ty25 _ _)) rfl ?_
      refine DD.same (v := (slv eW p1_2)) (want_yes (q := true) rfl rfl (Eq.trans (b := Value.bool (decide ((0 : Int) < x9_64))) rfl (congrArg Value.bool (decide_eq_true hc80))) rfl) (fun n => ev_move q68) rfl ?_
      refine DD.call (v := (Value.int .i64 r92)) (want_yes (q := true) rfl rfl (Eq.trans (b := Value.bool (decide ((0 : Int) < x9_64))) rfl (congrArg Value.bool (decide_eq_true hc80))) rfl) rfl (callee_of rfl (args_cons rfl (args_cons rfl args_nil))) ((known_tail (known_head _ _ _ _) (fun _ h => by replace h : ([(slv eW x90), (slv eW p1_2)] : List Value) = [(slv eW x81), (slv eW p1_2)] := h; simp only [List.cons.injEq, Value.int.injEq, Value.bool.injEq, w64_iff, slv_iff, val_iff, true_and, and_true] at h; (try simp only [h] at e93); rw [e84] at e93; obtain rfl := Option.some.inj e93; rfl))) rfl ?_
      refine DD.same (v := (Value.bool (decide (r83 < r92)))) (want_yes (q := true) rfl rfl (Eq.trans (b := Value.bool (decide ((0 : Int) < x9_64))) rfl (congrArg Value.bool (decide_eq_true hc80))) rfl) (fun n => ev_bin (x := (Value.int .i64 r83)) (y := (Value.int .i64 r92)) rfl rfl int_lss) rfl ?_
      refine DD.same (v := (Value.bool (decide (r83 < r92)))) rfl (fun n => ev_pickT (Eq.trans (b := Value.bool (decide ((0 : Int) < x9_64))) rfl (congrArg Value.bool (decide_eq_true hc80))) rfl) rfl ?_
      refine DD.nil ?_
      refine Then.at ?_
      by_cases hc94 : r83 < r92
      · rw [if_pos hc94] at h
        show MC _ _ _ _ _ _ _
        refine MC.condT (Eq.trans (b := Value.bool (decide (r83 < r92))) rfl (congrArg Value.bool (decide_eq_true hc94))) ?_
        show MC _ _ _ _ _ _ _
        refine MC.skip ?_
        refine Then.at ?_
        show MC _ _ _ _ _ _ _
        refine MC.block ?_
        show MC _ _ _ _ _ _ _
        refine MC.seq ?_
        show MC _ _ _ _ _ _ _
        refine MC.region ?_
        refine MO.op (v := v45) (Nat.zero_le _) rfl (ev_move q70) rfl ?_
        refine MO.op (v := (Value.int .i64 x9_64)) (Nat.zero_le _) rfl (ev_move q72) rfl ?_
        refine MO.op (v := v45) (Nat.zero_le _) rfl (ev_move q70) rfl ?_
        refine MO.op (v := (Value.int .i64 x9_64)) (Nat.zero_le _) rfl (ev_move q72) rfl ?_
        refine MO.op (v := (Value.int .i64 (wr (x9_64 - (1 : Int))))) (Nat.zero_le _) rfl (ev_bin (x := (Value.int .i64 x9_64)) (y := (Value.int .i64 (1 : Int))) rfl rfl int_sub) rfl ?_
        obtain ⟨x95, e96, h⟩ := bind_some h
        obtain ⟨b97, o98, ha99, _⟩ := It.sl_at (hH75.at (i := 0) rfl) ty3 Try.underlying32 (k := .i64) (gx_some e96).1 (gx_some e96).2
        refine MO.op (v := (Value.pointer (some ⟨b97, o98, none⟩))) (Nat.zero_le _) rfl (ev_indexAddr (x := v45) (y := (Value.int .i64 (wr (x9_64 - (1 : Int))))) rfl rfl ha99) rfl ?_
        refine MO.op (v := (Value.int .i64 x95)) (Nat.zero_le _) rfl (ev_load (x := (Value.pointer (some ⟨b97, o98 + 0, none⟩))) rfl (hH75.elLoad (e := (eI .i64)) (ef := (eI .i64)) (i := 0) (off := 0) (y := x95) rfl ty3 Try.underlying32 e96 ha99 ty3 rfl (fun _ => rfl))) rfl ?_
        obtain ⟨x100, e101, h⟩ := bind_some h
        obtain ⟨b102, o103, ha104, _⟩ := It.sl_at (hH75.at (i := 0) rfl) ty3 Try.underlying32 (k := .i64) (gx_some e101).1 (gx_some e101).2
        refine MO.op (v := (Value.pointer (some ⟨b102, o103, none⟩))) (Nat.zero_le _) rfl (ev_indexAddr (x := v45) (y := (Value.int .i64 x9_64)) rfl rfl ha104) rfl ?_
        obtain ⟨σ105, hs106, hH107, _⟩ := hH75.elStore (e := (eI .i64)) (ef := (eI .i64)) (i := 0) (off := 0) (y := x95) (x' := x95) rfl ty3 Try.underlying32 e101 ha104 ty3 (by decide) rfl
        change Hp _ [It.sl (eI .i64) v45 (List.set l65 (Int.toNat x9_64) x95)] at hH107
        refine MO.op (Nat.zero_le _) rfl (ev_store (x := (Value.pointer (some ⟨b102, o103 + 0, none⟩))) (y := (Value.int .i64 x95)) rfl rfl hs106) rfl ?_
        refine MO.nil ?_
        refine Then.at ?_
        show MC _ _ _ _ _ _ _
        refine MC.region ?_
        refine MO.op (v := (Value.int .i64 x9_64)) (Nat.zero_le _) rfl (ev_move q72) rfl ?_
        refine MO.op (v := (Value.int .i64 (wr (x9_64 - (1 : Int))))) (Nat.zero_le _) rfl (ev_bin (x := (Value.int .i64 x9_64)) (y := (Value.int .i64 (1 : Int))) rfl rfl int_sub) rfl ?_
        refine MO.op (v := (Value.int .i64 (wr (x9_64 - (1 : Int))))) (Nat.zero_le _) rfl (ev_assign rfl) rfl ?_
        refine MO.nil ?_
        refine Block.at ?_
        refine Then.at ?_
        exact ⟨((wr (x9_64 - (1 : Int))), (List.set l65 (Int.toNat x9_64) x95)), ⟨q67, q68, q69, q70, q71, rfl, q73, q74, hH107⟩, h⟩
      · rw [if_neg hc94] at h
        show MC _ _ _ _ _ _ _
        refine MC.condF (Eq.trans (b := Value.bool (decide (r83 < r92))) rfl (congrArg Value.bool (decide_eq_false hc94))) ?_
        show MC _ _ _ _ _ _ _
        refine MC.exit ?_
        refine Then.exit ?_
        refine Then.exit ?_
        refine Block.exit ?_
        refine Then.at ?_
        show MC _ _ _ _ _ _ _
        refine MC.region ?_
        refine MO.op (v := v45) (Nat.zero_le _) rfl (ev_move q70) rfl ?_
        refine MO.op (v := (Value.int .i64 x9_64)) (Nat.zero_le _) rfl (ev_move q72) rfl ?_
        refine MO.op (v := (Value.int .i64 x12_21)) (Nat.zero_le _) rfl (ev_move q71) rfl ?_
        obtain ⟨x108, e109, h⟩ := bind_some h
        obtain ⟨b110, o111, ha112, _⟩ := It.sl_at (hH75.at (i := 0) rfl) ty3 Try.underlying32 (k := .i64) (gx_some e109).1 (gx_some e109).2
        refine MO.op (v := (Value.pointer (some ⟨b110, o111, none⟩))) (Nat.zero_le _) rfl (ev_indexAddr (x := v45) (y := (Value.int .i64 x9_64)) rfl rfl ha112) rfl ?_
        obtain ⟨σ113, hs114, hH115, _⟩ := hH75.elStore (e := (eI .i64)) (ef := (eI .i64)) (i := 0) (off := 0) (y := x12_21) (x' := x12_21) rfl ty3 Try.underlying32 e109 ha112 ty3 (by decide) rfl
        change Hp _ [It.sl (eI .i64) v45 (List.set l65 (Int.toNat x9_64) x12_21)] at hH115
        refine MO.op (Nat.zero_le _) rfl (ev_store (x := (Value.pointer (some ⟨b110, o111 + 0, none⟩))) (y := (Value.int .i64 x12_21)) rfl rfl hs114) rfl ?_
        refine MO.nil ?_
        refine Block.at ?_
        refine Then.at ?_
        show MC _ _ _ _ _ _ _
        refine MC.region ?_
        refine MO.op (v := (Value.int .i64 (wr (x12_21 + (1 : Int))))) (Nat.zero_le _) rfl (ev_bin (x := (Value.int .i64 x12_21)) (y := (Value.int .i64 (1 : Int))) q74 rfl int_add) rfl ?_
        refine MO.op (v := (Value.int .i64 (wr (x12_21 + (1 : Int))))) (Nat.zero_le _) rfl (ev_move rfl) rfl ?_
        refine MO.nil ?_
        refine Then.at ?_
        exact ⟨((wr (x12_21 + (1 : Int))), (List.set l65 (Int.toNat x9_64) x12_21)), ⟨v45, q67, q68, q69, q70, q73, rfl, hH115⟩, h⟩
    · rw [if_neg hc80] at h
      refine MC.open (fr := [true, true, true, false, false, false, false, false, false, false, false, false, false, false, false, false, false, false, true, true, true]) [] ?_ mixed (Nat.zero_le _) (by kernel_rfl) (by kernel_rfl) ?_
      · intro e he; cases he
      refine DD.same (v := (Value.int .i64 x9_64)) rfl (fun n => ev_move q72) rfl ?_
      refine DD.same (v := (Value.bool (decide ((0 : Int) < x9_64)))) rfl (fun n => ev_bin (x := (Value.int .i64 x9_64)) (y := (Value.int .i64 (0 : Int))) rfl rfl int_gtr) rfl ?_
      refine DD.same (v := (Value.bool (decide ((0 : Int) < x9_64)))) rfl (fun n => ev_move rfl) rfl ?_
      refine DD.skip (want_no (q := false) rfl rfl (Eq.trans (b := Value.bool (decide ((0 : Int) < x9_64))) rfl (congrArg Value.bool (decide_eq_false hc80))) rfl) rfl ?_
      refine DD.skip (want_no (q := false) rfl rfl (Eq.trans (b := Value.bool (decide ((0 : Int) < x9_64))) rfl (congrArg Value.bool (decide_eq_false hc80))) rfl) rfl ?_
      refine DD.skip (want_no (q := false) rfl rfl (Eq.trans (b := Value.bool (decide ((0 : Int) < x9_64))) rfl (congrArg Value.bool (decide_eq_false hc80))) rfl) rfl ?_
      refine DD.skip (want_no (q := false) rfl rfl (Eq.trans (b := Value.bool (decide ((0 : Int) < x9_64))) rfl (congrArg Value.bool (decide_eq_false hc80))) rfl) rfl ?_
      refine DD.skip (want_no (q := false) rfl rfl (Eq.trans (b := Value.bool (decide ((0 : Int) < x9_64))) rfl (congrArg Value.bool (decide_eq_false hc80))) rfl) rfl ?_
      refine DD.skip (want_no (q := false) rfl rfl (Eq.trans (b := Value.bool (decide ((0 : Int) < x9_64))) rfl (congrArg Value.bool (decide_eq_false hc80))) rfl) rfl ?_
      refine DD.skip (want_no (q := false) rfl rfl (Eq.trans (b := Value.bool (decide ((0 : Int) < x9_64))) rfl (congrArg Value.bool (decide_eq_false hc80))) rfl) rfl ?_
      refine DD.skip (want_no (q := false) rfl rfl (Eq.trans (b := Value.bool (decide ((0 : Int) < x9_64))) rfl (congrArg Value.bool (decide_eq_false hc80))) rfl) rfl ?_
      refine DD.skip (want_no (q := false) rfl rfl (Eq.trans (b := Value.bool (decide ((0 : Int) < x9_64))) rfl (congrArg Value.bool (decide_eq_false hc80))) rfl) rfl ?_
      refine DD.skip (want_no (q := false) rfl rfl (Eq.trans (b := Value.bool (decide ((0 : Int) < x9_64))) rfl (congrArg Value.bool (decide_eq_false hc80))) rfl) rfl ?_
      refine DD.skip (want_no (q := false) rfl rfl (Eq.trans (b := Value.bool (decide ((0 : Int) < x9_64))) rfl (congrArg Value.bool (decide_eq_false hc80))) rfl) rfl ?_
      refine DD.skip (want_no (q := false) rfl rfl (Eq.trans (b := Value.bool (decide ((0 : Int) < x9_64))) rfl (congrArg Value.bool (decide_eq_false hc80))) rfl) rfl ?_
      refine DD.skip (want_no (q := false) rfl rfl (Eq.trans (b := Value.bool (decide ((0 : Int) < x9_64))) rfl (congrArg Value.bool (decide_eq_false hc80))) rfl) rfl ?_
      refine DD.skip (want_no (q := false) rfl rfl (Eq.trans (b := Value.bool (decide ((0 : Int) < x9_64))) rfl (congrArg Value.bool (decide_eq_false hc80))) rfl) rfl ?_
      refine DD.skip (want_no (q := false) rfl rfl (Eq.trans (b := Value.bool (decide ((0 : Int) < x9_64))) rfl (congrArg Value.bool (decide_eq_false hc80))) rfl) rfl ?_
      refine DD.skip (want_no (q := false) rfl rfl (Eq.trans (b := Value.bool (decide ((0 : Int) < x9_64))) rfl (congrArg Value.bool (decide_eq_false hc80))) rfl) rfl ?_
      refine DD.skip (want_no (q := false) rfl rfl (Eq.trans (b := Value.bool (decide ((0 : Int) < x9_64))) rfl (congrArg Value.bool (decide_eq_false hc80))) rfl) rfl ?_
      refine DD.same (v := (Value.bool false)) rfl (fun n => ev_pickF (Eq.trans (b := Value.bool (decide ((0 : Int) < x9_64))) rfl (congrArg Value.bool (decide_eq_false hc80))) rfl) rfl ?_
      refine DD.nil ?_
      refine Then.at ?_
      show MC _ _ _ _ _ _ _
      refine MC.condF rfl ?_
      show MC _ _ _ _ _ _ _
      refine MC.exit ?_
      refine Then.exit ?_
      refine Then.exit ?_
      refine Block.exit ?_
      refine Then.at ?_
      show MC _ _ _ _ _ _ _
      refine MC.region ?_
      refine MO.op (v := v45) (Nat.zero_le _) rfl (ev_move q70) rfl ?_
      refine MO.op (v := (Value.int .i64 x9_64)) (Nat.zero_le _) rfl (ev_move q72) rfl ?_
      refine MO.op (v := (Value.int .i64 x12_21)) (Nat.zero_le _) rfl (ev_move q71) rfl ?_
      obtain ⟨x116, e117, h⟩ := bind_some h
      obtain ⟨b118, o119, ha120, _⟩ := It.sl_at (hH75.at (i := 0) rfl) ty3 Try.underlying32 (k := .i64) (gx_some e117).1 (gx_some e117).2
      refine MO.op (v := (Value.pointer (some ⟨b118, o119, none⟩))) (Nat.zero_le _) rfl (ev_indexAddr (x := v45) (y := (Value.int .i64 x9_64)) rfl rfl ha120) rfl ?_
      obtain ⟨σ121, hs122, hH123, _⟩ := hH75.elStore (e := (eI .i64)) (ef := (eI .i64)) (i := 0) (off := 0) (y := x12_21) (x' := x12_21) rfl ty3 Try.underlying32 e117 ha120 ty3 (by decide) rfl
      change Hp _ [It.sl (eI .i64) v45 (List.set l65 (Int.toNat x9_64) x12_21)] at hH123
      refine MO.op (Nat.zero_le _) rfl (ev_store (x := (Value.pointer (some ⟨b118, o119 + 0, none⟩))) (y := (Value.int .i64 x12_21)) rfl rfl hs122) rfl ?_
      refine MO.nil ?_
      refine Block.at ?_
      refine Then.at ?_
      show MC _ _ _ _ _ _ _
      refine MC.region ?_
      refine MO.op (v := (Value.int .i64 (wr (x12_21 + (1 : Int))))) (Nat.zero_le _) rfl (ev_bin (x := (Value.int .i64 x12_21)) (y := (Value.int .i64 (1 : Int))) q74 rfl int_add) rfl ?_
      refine MO.op (v := (Value.int .i64 (wr (x12_21 + (1 : Int))))) (Nat.zero_le _) rfl (ev_move rfl) rfl ?_
      refine MO.nil ?_
      refine Then.at ?_
      exact ⟨((wr (x12_21 + (1 : Int))), (List.set l65 (Int.toNat x9_64) x12_21)), ⟨v45, q67, q68, q69, q70, q73, rfl, hH123⟩, h⟩
  · rw [if_neg hc37] at h
    show MC _ _ _ _ _ _ _
    refine MC.condF (Eq.trans (b := Value.bool (decide (x12_21 < (p0_1.length : Int)))) rfl (congrArg Value.bool (decide_eq_false hc37))) ?_
    show MC _ _ _ _ _ _ _
    refine MC.exit ?_
    refine Then.exit ?_
    refine Then.exit ?_
    refine Block.exit ?_
    refine Then.at ?_
    show MC _ _ _ _ _ _ _
    refine MC.seq ?_
    show MC _ _ _ _ _ _ _
    refine MC.region ?_
    refine MO.op (v := v24) (Nat.zero_le _) rfl (ev_move q28) rfl ?_
    refine MO.op (v := (Value.int .i64 p2_3)) (Nat.zero_le _) rfl (ev_move q27) rfl ?_
    refine MO.op (v := v24) (Nat.zero_le _) rfl (ev_move q28) rfl ?_
    refine MO.op (v := (Value.int .i64 (l22.length : Int))) (Nat.zero_le _) rfl (ev_len (x := v24) rfl (It.sl_len (hH31.at (i := 0) rfl) Try.underlying32 _)) rfl ?_
    refine MO.op (v := (Value.int .i64 (min p2_3 (l22.length : Int)))) (Nat.zero_le _) rfl (ev_min (x := (Value.int .i64 p2_3)) (y := (Value.int .i64 (l22.length : Int))) rfl rfl min_two) rfl ?_
    refine MO.op (v := (Value.int .i64 (max (0 : Int) (min p2_3 (l22.length : Int))))) (Nat.zero_le _) rfl (ev_max (x := (Value.int .i64 (0 : Int))) (y := (Value.int .i64 (min p2_3 (l22.length : Int)))) rfl rfl max_two) rfl ?_
    obtain ⟨l124, e125, h⟩ := bind_some h
    obtain ⟨v126, ha127, hH128⟩ := hH31.cutAt (e := (eI .i64)) (i := 0) (k := .i64) (k' := .i64) rfl ty3 Try.underlying32 e125
    refine MO.op (v := v126) (Nat.zero_le _) rfl (ev_slice (x := v24) (a := Option.map (Value.int .i64) none) (b := Option.map (Value.int .i64) (some (max (0 : Int) (min p2_3 (l22.length : Int))))) rfl rfl rfl rfl ha127) rfl ?_
    change Hp _ [It.sl (eI .i64) v126 l124] at hH128
    refine MO.op (v := v126) (Nat.zero_le _) rfl (ev_assign rfl) rfl ?_
    refine MO.nil ?_
    refine Then.at ?_
    show MC _ _ _ _ _ _ _
    refine MC.ret ?_
    obtain rfl := Option.some.inj h
    exact ⟨.inr rfl, _, (res_cons (res_tmp rfl) res_nil), hH128.sub (.cons_cons _ .slnil)⟩
theorem F_R44_Near.ok {p0_1 : (List (List (BitVec 64)))} {p1_2 : (List (BitVec 64))} {p2_3 : Int} {r : ((List Int))} (h : F_R44_Near p0_1 p1_2 p2_3 = some r) : Pure Try.prog 15 [(slv (eL eW) p0_1), (slv eW p1_2), (Value.int .i64 p2_3)] (slv (eI .i64) r) := (F_R44_Near.own h).pure
noncomputable def F_R01_SameInts_b1 (p0_1 : (List Int)) (p1_2 : (List Int)) (next11 : (Int → Option (Bool))) : Int → Option (Bool)
  | x13_4 =>
    if x13_4 < (p0_1.length : Int) then
      Option.bind (gx p0_1 x13_4) fun x13 =>
      Option.bind (gx p1_2 x13_4) fun x15 =>
      if x13 ≠ x15 then
        some (false)
      else
        next11 ((wr (x13_4 + (1 : Int))))
    else
      some (true)
noncomputable def F_R01_SameInts (p0_1 : (List Int)) (p1_2 : (List Int)) : Option (Bool) :=
  if (p0_1.length : Int) ≠ (p1_2.length : Int) then
    some (false)
  else
    loopK (F_R01_SameInts_b1 p0_1 p1_2) fuel ((0 : Int))
theorem F_R01_SameInts.ok {p0_1 : (List Int)} {p1_2 : (List Int)} {r : (Bool)} (h : F_R01_SameInts p0_1 p1_2 = some r) : Pure Try.prog 13 [(slv (eI .i64) p0_1), (slv (eI .i64) p1_2)] (Value.bool r) := by
  unfold F_R01_SameInts at h
  refine ⟨(.cons (slv_flat _ _) (.cons (slv_flat _ _) .nil)), (.prim rfl), Fn.enter Try.func13 (by kernel_rfl) rfl (of_decide_eq_true rfl) ?_⟩
  have hH : Hp ⟨0, []⟩ [] := Hp.nil (Nat.le_refl _)
  show MC _ _ _ _ _ _ _
  refine MC.seq ?_
  show MC _ _ _ _ _ _ _
  refine MC.region ?_
  refine MO.op (v := (Value.bool false)) (Nat.zero_le _) rfl (ev_assign rfl) rfl ?_
  refine MO.nil ?_
  refine Then.at ?_
  show MC _ _ _ _ _ _ _
  refine MC.seq ?_
  show MC _ _ _ _ _ _ _
  refine MC.seq ?_
  show MC _ _ _ _ _ _ _
  refine MC.region ?_
  refine MO.op (v := (slv (eI .i64) p0_1)) (Nat.zero_le _) rfl (ev_move rfl) rfl ?_
  refine MO.op (v := (Value.int .i64 (p0_1.length : Int))) (Nat.zero_le _) rfl (ev_len (x := (slv (eI .i64) p0_1)) rfl (len_still Try.underlying32 _ _)) rfl ?_
  refine MO.op (v := (slv (eI .i64) p1_2)) (Nat.zero_le _) rfl (ev_move rfl) rfl ?_
  refine MO.op (v := (Value.int .i64 (p1_2.length : Int))) (Nat.zero_le _) rfl (ev_len (x := (slv (eI .i64) p1_2)) rfl (len_still Try.underlying32 _ _)) rfl ?_
  refine MO.op (v := (Value.bool (decide ((p0_1.length : Int) ≠ (p1_2.length : Int))))) (Nat.zero_le _) rfl (ev_bin (x := (Value.int .i64 (p0_1.length : Int))) (y := (Value.int .i64 (p1_2.length : Int))) rfl rfl int_neq) rfl ?_
  refine MO.nil ?_
  refine Then.at ?_
  by_cases hc3 : (p0_1.length : Int) ≠ (p1_2.length : Int)
  · rw [if_pos hc3] at h
    show MC _ _ _ _ _ _ _
    refine MC.condT (Eq.trans (b := Value.bool (decide ((p0_1.length : Int) ≠ (p1_2.length : Int)))) rfl (congrArg Value.bool (decide_eq_true hc3))) ?_
    show MC _ _ _ _ _ _ _
    refine MC.seq ?_
    show MC _ _ _ _ _ _ _
    refine MC.region ?_
    refine MO.op (v := (Value.bool false)) (Nat.zero_le _) rfl (ev_assign rfl) rfl ?_
    refine MO.nil ?_
    refine Then.at ?_
    show MC _ _ _ _ _ _ _
    refine MC.ret ?_
    refine Then.ret ?_
    obtain rfl := Option.some.inj h
    exact ⟨.inr rfl, _, (res_cons (res_tmp rfl) res_nil), rfl⟩
  · rw [if_neg hc3] at h
    show MC _ _ _ _ _ _ _
    refine MC.condF (Eq.trans (b := Value.bool (decide ((p0_1.length : Int) ≠ (p1_2.length : Int)))) rfl (congrArg Value.bool (decide_eq_false hc3))) ?_
    show MC _ _ _ _ _ _ _
    refine MC.skip ?_
    refine Then.at ?_
    show MC _ _ _ _ _ _ _
    refine MC.seq ?_
    show MC _ _ _ _ _ _ _
    refine MC.seq ?_
    show MC _ _ _ _ _ _ _
    refine MC.region ?_
    refine MO.op (v := (slv (eI .i64) p0_1)) (Nat.zero_le _) rfl (ev_move rfl) rfl ?_
    refine MO.op (v := (Value.int .i64 (p0_1.length : Int))) (Nat.zero_le _) rfl (ev_len (x := (slv (eI .i64) p0_1)) rfl (len_still Try.underlying32 _ _)) rfl ?_
    refine MO.op (v := (Value.int .i64 (0 : Int))) (Nat.zero_le _) rfl (ev_move rfl) rfl ?_
    refine MO.nil ?_
    refine Then.at ?_
    show MC _ _ _ _ _ _ _
    refine MC.block ?_
    show MC _ _ _ _ _ _ _
    refine MC.loopK (fun (s : Int) t σ => t 0 = (slv (eI .i64) p0_1) ∧ t 1 = (slv (eI .i64) p1_2) ∧ t 12 = (Value.int .i64 (p0_1.length : Int)) ∧ t 13 = (Value.int .i64 s) ∧ Hp σ []) h ⟨rfl, rfl, rfl, rfl, hH⟩ ?_
    rintro next11 x13_4 t σ ⟨q5, q6, q7, q8, hH9⟩ h
    unfold F_R01_SameInts_b1 at h
    show MC _ _ _ _ _ _ _
    refine MC.seq ?_
    show MC _ _ _ _ _ _ _
    refine MC.region ?_
    refine MO.op (v := (Value.bool (decide (x13_4 < (p0_1.length : Int))))) (Nat.zero_le _) rfl (ev_bin (x := (Value.int .i64 x13_4)) (y := (Value.int .i64 (p0_1.length : Int))) q8 q7 int_lss) rfl ?_
    refine MO.nil ?_
    refine Then.at ?_
    show MC _ _ _ _ _ _ _
    refine MC.seq ?_
    by_cases hc12 : x13_4 < (p0_1.length : Int)
    · rw [if_pos hc12] at h
      show MC _ _ _ _ _ _ _
      refine MC.condT (Eq.trans (b := Value.bool (decide (x13_4 < (p0_1.length : Int)))) rfl (congrArg Value.bool (decide_eq_true hc12))) ?_
      show MC _ _ _ _ _ _ _
      refine MC.skip ?_
      refine Then.at ?_
      show MC _ _ _ _ _ _ _
      refine MC.seq ?_
      show MC _ _ _ _ _ _ _
      refine MC.block ?_
      show MC _ _ _ _ _ _ _
      refine MC.seq ?_
      show MC _ _ _ _ _ _ _
      refine MC.region ?_
      refine MO.op (v := (Value.int .i64 x13_4)) (Nat.zero_le _) rfl (ev_move q8) rfl ?_
      refine MO.op (v := (Value.int .i64 x13_4)) (Nat.zero_le _) rfl (ev_assign rfl) rfl ?_
      refine MO.nil ?_
      refine Then.at ?_
      show MC _ _ _ _ _ _ _
      refine MC.seq ?_
      show MC _ _ _ _ _ _ _
      obtain ⟨x13, e14, h⟩ := bind_some h
      obtain ⟨x15, e16, h⟩ := bind_some h
      refine MC.open (fr := [false, false, false, false, false, false, false, false, true]) [] ?_ mixed (Nat.zero_le _) (by kernel_rfl) (by kernel_rfl) ?_
      · intro e he; cases he
      refine DD.same (v := (slv (eI .i64) p0_1)) rfl (fun n => ev_move q5) rfl ?_
      refine DD.same (v := (Value.int .i64 x13_4)) rfl (fun n => ev_move rfl) rfl ?_
      refine DD.same (v := (ptv (eI .i64) x13)) rfl (fun n => ev_indexAddr (x := (slv (eI .i64) p0_1)) (y := (Value.int .i64 x13_4)) rfl rfl (index_still ty3 Try.underlying32 (gx_some e14).1 (gx_some e14).2)) rfl ?_
      refine DD.same (v := (Value.int .i64 x13)) rfl (fun n => ev_load (x := (ptv (eI .i64) x13)) rfl (load_still ty3 _ _)) rfl ?_
      refine DD.same (v := (slv (eI .i64) p1_2)) rfl (fun n => ev_move q6) rfl ?_
      refine DD.same (v := (Value.int .i64 x13_4)) rfl (fun n => ev_move rfl) rfl ?_
      refine DD.same (v := (ptv (eI .i64) x15)) rfl (fun n => ev_indexAddr (x := (slv (eI .i64) p1_2)) (y := (Value.int .i64 x13_4)) rfl rfl (index_still ty3 Try.underlying32 (gx_some e16).1 (gx_some e16).2)) rfl ?_
      refine DD.same (v := (Value.int .i64 x15)) rfl (fun n => ev_load (x := (ptv (eI .i64) x15)) rfl (load_still ty3 _ _)) rfl ?_
      refine DD.same (v := (Value.bool (decide (x13 ≠ x15)))) rfl (fun n => ev_bin (x := (Value.int .i64 x13)) (y := (Value.int .i64 x15)) rfl rfl int_neq) rfl ?_
      refine DD.nil ?_
      refine Then.at ?_
      by_cases hc17 : x13 ≠ x15
      · rw [if_pos hc17] at h
        show MC _ _ _ _ _ _ _
        refine MC.condT (Eq.trans (b := Value.bool (decide (x13 ≠ x15))) rfl (congrArg Value.bool (decide_eq_true hc17))) ?_
        show MC _ _ _ _ _ _ _
        refine MC.seq ?_
        show MC _ _ _ _ _ _ _
        refine MC.region ?_
        refine MO.op (v := (Value.bool false)) (Nat.zero_le _) rfl (ev_assign rfl) rfl ?_
        refine MO.nil ?_
        refine Then.at ?_
        show MC _ _ _ _ _ _ _
        refine MC.ret ?_
        refine Block.ret ?_
        refine Then.ret ?_
        refine Then.ret ?_
        refine Block.ret ?_
        refine Then.ret ?_
        obtain rfl := Option.some.inj h
        exact ⟨.inr rfl, _, (res_cons (res_tmp rfl) res_nil), rfl⟩
      · rw [if_neg hc17] at h
        show MC _ _ _ _ _ _ _
        refine MC.condF (Eq.trans (b := Value.bool (decide (x13 ≠ x15))) rfl (congrArg Value.bool (decide_eq_false hc17))) ?_
        show MC _ _ _ _ _ _ _
        refine MC.skip ?_
        refine Block.at ?_
        refine Then.at ?_
        show MC _ _ _ _ _ _ _
        refine MC.region ?_
        refine MO.op (v := (Value.int .i64 (wr (x13_4 + (1 : Int))))) (Nat.zero_le _) rfl (ev_bin (x := (Value.int .i64 x13_4)) (y := (Value.int .i64 (1 : Int))) q8 rfl int_add) rfl ?_
        refine MO.op (v := (Value.int .i64 (wr (x13_4 + (1 : Int))))) (Nat.zero_le _) rfl (ev_move rfl) rfl ?_
        refine MO.nil ?_
        refine Then.at ?_
        exact ⟨((wr (x13_4 + (1 : Int)))), ⟨q5, q6, q7, rfl, hH9⟩, h⟩
    · rw [if_neg hc12] at h
      show MC _ _ _ _ _ _ _
      refine MC.condF (Eq.trans (b := Value.bool (decide (x13_4 < (p0_1.length : Int)))) rfl (congrArg Value.bool (decide_eq_false hc12))) ?_
      show MC _ _ _ _ _ _ _
      refine MC.exit ?_
      refine Then.exit ?_
      refine Then.exit ?_
      refine Block.exit ?_
      refine Then.at ?_
      show MC _ _ _ _ _ _ _
      refine MC.seq ?_
      show MC _ _ _ _ _ _ _
      refine MC.region ?_
      refine MO.op (v := (Value.bool true)) (Nat.zero_le _) rfl (ev_assign rfl) rfl ?_
      refine MO.nil ?_
      refine Then.at ?_
      show MC _ _ _ _ _ _ _
      refine MC.ret ?_
      obtain rfl := Option.some.inj h
      exact ⟨.inr rfl, _, (res_cons (res_tmp rfl) res_nil), rfl⟩
noncomputable def F_R01_Same_b1 (p0_1 : (List (BitVec 64))) (p1_2 : (List (BitVec 64))) (next11 : (Int → Option (Bool))) : Int → Option (Bool)
  | x13_4 =>
    if x13_4 < (p0_1.length : Int) then
      Option.bind (gx p0_1 x13_4) fun x13 =>
      Option.bind (gx p1_2 x13_4) fun x15 =>
      if x13 ≠ x15 then
        some (false)
      else
        next11 ((wr (x13_4 + (1 : Int))))
    else
      some (true)
noncomputable def F_R01_Same (p0_1 : (List (BitVec 64))) (p1_2 : (List (BitVec 64))) : Option (Bool) :=
  if (p0_1.length : Int) ≠ (p1_2.length : Int) then
    some (false)
  else
    loopK (F_R01_Same_b1 p0_1 p1_2) fuel ((0 : Int))
theorem F_R01_Same.ok {p0_1 : (List (BitVec 64))} {p1_2 : (List (BitVec 64))} {r : (Bool)} (h : F_R01_Same p0_1 p1_2 = some r) : Pure Try.prog 10 [(slv eW p0_1), (slv eW p1_2)] (Value.bool r) := by
  unfold F_R01_Same at h
  refine ⟨(.cons (slv_flat _ _) (.cons (slv_flat _ _) .nil)), (.prim rfl), Fn.enter Try.func10 (by kernel_rfl) rfl (of_decide_eq_true rfl) ?_⟩
  have hH : Hp ⟨0, []⟩ [] := Hp.nil (Nat.le_refl _)
  show MC _ _ _ _ _ _ _
  refine MC.seq ?_
  show MC _ _ _ _ _ _ _
  refine MC.region ?_
  refine MO.op (v := (Value.bool false)) (Nat.zero_le _) rfl (ev_assign rfl) rfl ?_
  refine MO.nil ?_
  refine Then.at ?_
  show MC _ _ _ _ _ _ _
  refine MC.seq ?_
  show MC _ _ _ _ _ _ _
  refine MC.seq ?_
  show MC _ _ _ _ _ _ _
  refine MC.region ?_
  refine MO.op (v := (slv eW p0_1)) (Nat.zero_le _) rfl (ev_move rfl) rfl ?_
  refine MO.op (v := (Value.int .i64 (p0_1.length : Int))) (Nat.zero_le _) rfl (ev_len (x := (slv eW p0_1)) rfl (len_still Try.underlying25 _ _)) rfl ?_
  refine MO.op (v := (slv eW p1_2)) (Nat.zero_le _) rfl (ev_move rfl) rfl ?_
  refine MO.op (v := (Value.int .i64 (p1_2.length : Int))) (Nat.zero_le _) rfl (ev_len (x := (slv eW p1_2)) rfl (len_still Try.underlying25 _ _)) rfl ?_
  refine MO.op (v := (Value.bool (decide ((p0_1.length : Int) ≠ (p1_2.length : Int))))) (Nat.zero_le _) rfl (ev_bin (x := (Value.int .i64 (p0_1.length : Int))) (y := (Value.int .i64 (p1_2.length : Int))) rfl rfl int_neq) rfl ?_
  refine MO.nil ?_
  refine Then.at ?_
  by_cases hc3 : (p0_1.length : Int) ≠ (p1_2.length : Int)
  · rw [if_pos hc3] at h
    show MC _ _ _ _ _ _ _
    refine MC.condT (Eq.trans (b := Value.bool (decide ((p0_1.length : Int) ≠ (p1_2.length : Int)))) rfl (congrArg Value.bool (decide_eq_true hc3))) ?_
    show MC _ _ _ _ _ _ _
    refine MC.seq ?_
    show MC _ _ _ _ _ _ _
    refine MC.region ?_
    refine MO.op (v := (Value.bool false)) (Nat.zero_le _) rfl (ev_assign rfl) rfl ?_
    refine MO.nil ?_
    refine Then.at ?_
    show MC _ _ _ _ _ _ _
    refine MC.ret ?_
    refine Then.ret ?_
    obtain rfl := Option.some.inj h
    exact ⟨.inr rfl, _, (res_cons (res_tmp rfl) res_nil), rfl⟩
  · rw [if_neg hc3] at h
    show MC _ _ _ _ _ _ _
    refine MC.condF (Eq.trans (b := Value.bool (decide ((p0_1.length : Int) ≠ (p1_2.length : Int)))) rfl (congrArg Value.bool (decide_eq_false hc3))) ?_
    show MC _ _ _ _ _ _ _
    refine MC.skip ?_
    refine Then.at ?_
    show MC _ _ _ _ _ _ _
    refine MC.seq ?_
    show MC _ _ _ _ _ _ _
    refine MC.seq ?_
    show MC _ _ _ _ _ _ _
    refine MC.region ?_
    refine MO.op (v := (slv eW p0_1)) (Nat.zero_le _) rfl (ev_move rfl) rfl ?_
    refine MO.op (v := (Value.int .i64 (p0_1.length : Int))) (Nat.zero_le _) rfl (ev_len (x := (slv eW p0_1)) rfl (len_still Try.underlying25 _ _)) rfl ?_
    refine MO.op (v := (Value.int .i64 (0 : Int))) (Nat.zero_le _) rfl (ev_move rfl) rfl ?_
    refine MO.nil ?_
    refine Then.at ?_
    show MC _ _ _ _ _ _ _
    refine MC.block ?_
    show MC _ _ _ _ _ _ _
    refine MC.loopK (fun (s : Int) t σ => t 0 = (slv eW p0_1) ∧ t 1 = (slv eW p1_2) ∧ t 12 = (Value.int .i64 (p0_1.length : Int)) ∧ t 13 = (Value.int .i64 s) ∧ Hp σ []) h ⟨rfl, rfl, rfl, rfl, hH⟩ ?_
    rintro next11 x13_4 t σ ⟨q5, q6, q7, q8, hH9⟩ h
    unfold F_R01_Same_b1 at h
    show MC _ _ _ _ _ _ _
    refine MC.seq ?_
    show MC _ _ _ _ _ _ _
    refine MC.region ?_
    refine MO.op (v := (Value.bool (decide (x13_4 < (p0_1.length : Int))))) (Nat.zero_le _) rfl (ev_bin (x := (Value.int .i64 x13_4)) (y := (Value.int .i64 (p0_1.length : Int))) q8 q7 int_lss) rfl ?_
    refine MO.nil ?_
    refine Then.at ?_
    show MC _ _ _ _ _ _ _
    refine MC.seq ?_
    by_cases hc12 : x13_4 < (p0_1.length : Int)
    · rw [if_pos hc12] at h
      show MC _ _ _ _ _ _ _
      refine MC.condT (Eq.trans (b := Value.bool (decide (x13_4 < (p0_1.length : Int)))) rfl (congrArg Value.bool (decide_eq_true hc12))) ?_
      show MC _ _ _ _ _ _ _
      refine MC.skip ?_
      refine Then.at ?_
      show MC _ _ _ _ _ _ _
      refine MC.seq ?_
      show MC _ _ _ _ _ _ _
      refine MC.block ?_
      show MC _ _ _ _ _ _ _
      refine MC.seq ?_
      show MC _ _ _ _ _ _ _
      refine MC.region ?_
      refine MO.op (v := (Value.int .i64 x13_4)) (Nat.zero_le _) rfl (ev_move q8) rfl ?_
      refine MO.op (v := (Value.int .i64 x13_4)) (Nat.zero_le _) rfl (ev_assign rfl) rfl ?_
      refine MO.nil ?_
      refine Then.at ?_
      show MC _ _ _ _ _ _ _
      refine MC.seq ?_
      show MC _ _ _ _ _ _ _
      obtain ⟨x13, e14, h⟩ := bind_some h
      obtain ⟨x15, e16, h⟩ := bind_some h
      refine MC.open (fr := [false, false, false, false, false, false, false, false, true]) [] ?_ mixed (Nat.zero_le _) (by kernel_rfl) (by kernel_rfl) ?_
      · intro e he; cases he
      refine DD.same (v := (slv eW p0_1)) rfl (fun n => ev_move q5) rfl ?_
      refine DD.same (v := (Value.int .i64 x13_4)) rfl (fun n => ev_move rfl) rfl ?_
      refine DD.same (v := (ptv eW x13)) rfl (fun n => ev_indexAddr (x := (slv eW p0_1)) (y := (Value.int .i64 x13_4)) rfl rfl (index_still ty23 Try.underlying25 (gx_some e14).1 (gx_some e14).2)) rfl ?_
      refine DD.same (v := (w64 x13)) rfl (fun n => ev_load (x := (ptv eW x13)) rfl (load_still ty23 _ _)) rfl ?_
      refine DD.same (v := (slv eW p1_2)) rfl (fun n => ev_move q6) rfl ?_
      refine DD.same (v := (Value.int .i64 x13_4)) rfl (fun n => ev_move rfl) rfl ?_
      refine DD.same (v := (ptv eW x15)) rfl (fun n => ev_indexAddr (x := (slv eW p1_2)) (y := (Value.int .i64 x13_4)) rfl rfl (index_still ty23 Try.underlying25 (gx_some e16).1 (gx_some e16).2)) rfl ?_
      refine DD.same (v := (w64 x15)) rfl (fun n => ev_load (x := (ptv eW x15)) rfl (load_still ty23 _ _)) rfl ?_
      refine DD.same (v := (Value.bool (decide (x13 ≠ x15)))) rfl (fun n => ev_bin (x := (w64 x13)) (y := (w64 x15)) rfl rfl word_neq) rfl ?_
      refine DD.nil ?_
      refine Then.at ?_
      by_cases hc17 : x13 ≠ x15
      · rw [if_pos hc17] at h
        show MC _ _ _ _ _ _ _
        refine MC.condT (Eq.trans (b := Value.bool (decide (x13 ≠ x15))) rfl (congrArg Value.bool (decide_eq_true hc17))) ?_
        show MC _ _ _ _ _ _ _
        refine MC.seq ?_
        show MC _ _ _ _ _ _ _
        refine MC.region ?_
        refine MO.op (v := (Value.bool false)) (Nat.zero_le _) rfl (ev_assign rfl) rfl ?_
        refine MO.nil ?_
        refine Then.at ?_
        show MC _ _ _ _ _ _ _
        refine MC.ret ?_
        refine Block.ret ?_
        refine Then.ret ?_
        refine Then.ret ?_
        refine Block.ret ?_
        refine Then.ret ?_
        obtain rfl := Option.some.inj h
        exact ⟨.inr rfl, _, (res_cons (res_tmp rfl) res_nil), rfl⟩
      · rw [if_neg hc17] at h
        show MC _ _ _ _ _ _ _
        refine MC.condF (Eq.trans (b := Value.bool (decide (x13 ≠ x15))) rfl (congrArg Value.bool (decide_eq_false hc17))) ?_
        show MC _ _ _ _ _ _ _
        refine MC.skip ?_
        refine Block.at ?_
        refine Then.at ?_
        show MC _ _ _ _ _ _ _
        refine MC.region ?_
        refine MO.op (v := (Value.int .i64 (wr (x13_4 + (1 : Int))))) (Nat.zero_le _) rfl (ev_bin (x := (Value.int .i64 x13_4)) (y := (Value.int .i64 (1 : Int))) q8 rfl int_add) rfl ?_
        refine MO.op (v := (Value.int .i64 (wr (x13_4 + (1 : Int))))) (Nat.zero_le _) rfl (ev_move rfl) rfl ?_
        refine MO.nil ?_
        refine Then.at ?_
        exact ⟨((wr (x13_4 + (1 : Int)))), ⟨q5, q6, q7, rfl, hH9⟩, h⟩
    · rw [if_neg hc12] at h
      show MC _ _ _ _ _ _ _
      refine MC.condF (Eq.trans (b := Value.bool (decide (x13_4 < (p0_1.length : Int)))) rfl (congrArg Value.bool (decide_eq_false hc12))) ?_
      show MC _ _ _ _ _ _ _
      refine MC.exit ?_
      refine Then.exit ?_
      refine Then.exit ?_
      refine Block.exit ?_
      refine Then.at ?_
      show MC _ _ _ _ _ _ _
      refine MC.seq ?_
      show MC _ _ _ _ _ _ _
      refine MC.region ?_
      refine MO.op (v := (Value.bool true)) (Nat.zero_le _) rfl (ev_assign rfl) rfl ?_
      refine MO.nil ?_
      refine Then.at ?_
      show MC _ _ _ _ _ _ _
      refine MC.ret ?_
      obtain rfl := Option.some.inj h
      exact ⟨.inr rfl, _, (res_cons (res_tmp rfl) res_nil), rfl⟩
end Go.Proofs.Ytaclhflmgafobaa
