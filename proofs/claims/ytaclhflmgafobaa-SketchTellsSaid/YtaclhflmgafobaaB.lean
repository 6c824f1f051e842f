/- Functions, told as Lean functions, and that the code computes them. -/
import Derived.Test.YtaclhflmgafobaaA
namespace Go.Proofs.Ytaclhflmgafobaa
open Go Go.Ab Go.Proofs
set_option linter.unusedSimpArgs false
set_option linter.unusedVariables false
set_option maxRecDepth 20000
set_option maxHeartbeats 1000000
noncomputable def F_rng_Mix (p0_1 : (BitVec 64)) : Option ((BitVec 64)) :=
  some (((((((p0_1 + (11400714819323198485#64)) ^^^ ((p0_1 + (11400714819323198485#64)) >>> 30)) * (13787848793156543929#64)) ^^^ ((((p0_1 + (11400714819323198485#64)) ^^^ ((p0_1 + (11400714819323198485#64)) >>> 30)) * (13787848793156543929#64)) >>> 27)) * (10723151780598845931#64)) ^^^ ((((((p0_1 + (11400714819323198485#64)) ^^^ ((p0_1 + (11400714819323198485#64)) >>> 30)) * (13787848793156543929#64)) ^^^ ((((p0_1 + (11400714819323198485#64)) ^^^ ((p0_1 + (11400714819323198485#64)) >>> 30)) * (13787848793156543929#64)) >>> 27)) * (10723151780598845931#64)) >>> 31)))
theorem F_rng_Mix.ok {p0_1 : (BitVec 64)} {r : ((BitVec 64))} (h : F_rng_Mix p0_1 = some r) : Pure Try.prog 37 [(w64 p0_1)] (w64 r) := by
  unfold F_rng_Mix at h
  refine ⟨(.cons (.prim rfl) .nil), (.prim rfl), Fn.enter Try.func37 (by kernel_rfl) rfl (of_decide_eq_true rfl) ?_⟩
  have hH : Hp ⟨0, []⟩ [] := Hp.nil (Nat.le_refl _)
  show MC _ _ _ _ _ _ _
  refine MC.seq ?_
  show MC _ _ _ _ _ _ _
  refine MC.region ?_
  refine MO.op (v := (w64 (0#64))) (Nat.zero_le _) rfl (ev_assign rfl) rfl ?_
  refine MO.nil ?_
  refine Then.at ?_
  show MC _ _ _ _ _ _ _
  refine MC.seq ?_
  show MC _ _ _ _ _ _ _
  refine MC.region ?_
  refine MO.op (v := (w64 p0_1)) (Nat.zero_le _) rfl (ev_move rfl) rfl ?_
  refine MO.op (v := (w64 (p0_1 + (11400714819323198485#64)))) (Nat.zero_le _) rfl (ev_bin (x := (w64 p0_1)) (y := (w64 (11400714819323198485#64))) rfl rfl word_add) rfl ?_
  refine MO.op (v := (w64 (p0_1 + (11400714819323198485#64)))) (Nat.zero_le _) rfl (ev_assign rfl) rfl ?_
  refine MO.nil ?_
  refine Then.at ?_
  show MC _ _ _ _ _ _ _
  refine MC.seq ?_
  show MC _ _ _ _ _ _ _
  refine MC.region ?_
  refine MO.op (v := (w64 (p0_1 + (11400714819323198485#64)))) (Nat.zero_le _) rfl (ev_move rfl) rfl ?_
  refine MO.op (v := (w64 (p0_1 + (11400714819323198485#64)))) (Nat.zero_le _) rfl (ev_move rfl) rfl ?_
  refine MO.op (v := (w64 ((p0_1 + (11400714819323198485#64)) >>> 30))) (Nat.zero_le _) rfl (ev_bin (x := (w64 (p0_1 + (11400714819323198485#64)))) (y := (w64 (30#64))) rfl rfl (word_shr (by decide))) rfl ?_
  refine MO.op (v := (w64 ((p0_1 + (11400714819323198485#64)) ^^^ ((p0_1 + (11400714819323198485#64)) >>> 30)))) (Nat.zero_le _) rfl (ev_bin (x := (w64 (p0_1 + (11400714819323198485#64)))) (y := (w64 ((p0_1 + (11400714819323198485#64)) >>> 30))) rfl rfl word_xor) rfl ?_
  refine MO.op (v := (w64 (((p0_1 + (11400714819323198485#64)) ^^^ ((p0_1 + (11400714819323198485#64)) >>> 30)) * (13787848793156543929#64)))) (Nat.zero_le _) rfl (ev_bin (x := (w64 ((p0_1 + (11400714819323198485#64)) ^^^ ((p0_1 + (11400714819323198485#64)) >>> 30)))) (y := (w64 (13787848793156543929#64))) rfl rfl word_mul) rfl ?_
  refine MO.op (v := (w64 (((p0_1 + (11400714819323198485#64)) ^^^ ((p0_1 + (11400714819323198485#64)) >>> 30)) * (13787848793156543929#64)))) (Nat.zero_le _) rfl (ev_assign rfl) rfl ?_
  refine MO.nil ?_
  refine Then.at ?_
  show MC _ _ _ _ _ _ _
  refine MC.seq ?_
  show MC _ _ _ _ _ _ _
  refine MC.region ?_
  refine MO.op (v := (w64 (((p0_1 + (11400714819323198485#64)) ^^^ ((p0_1 + (11400714819323198485#64)) >>> 30)) * (13787848793156543929#64)))) (Nat.zero_le _) rfl (ev_move rfl) rfl ?_
  refine MO.op (v := (w64 (((p0_1 + (11400714819323198485#64)) ^^^ ((p0_1 + (11400714819323198485#64)) >>> 30)) * (13787848793156543929#64)))) (Nat.zero_le _) rfl (ev_move rfl) rfl ?_
  refine MO.op (v := (w64 ((((p0_1 + (11400714819323198485#64)) ^^^ ((p0_1 + (11400714819323198485#64)) >>> 30)) * (13787848793156543929#64)) >>> 27))) (Nat.zero_le _) rfl (ev_bin (x := (w64 (((p0_1 + (11400714819323198485#64)) ^^^ ((p0_1 + (11400714819323198485#64)) >>> 30)) * (13787848793156543929#64)))) (y := (w64 (27#64))) rfl rfl (word_shr (by decide))) rfl ?_
  refine MO.op (v := (w64 ((((p0_1 + (11400714819323198485#64)) ^^^ ((p0_1 + (11400714819323198485#64)) >>> 30)) * (13787848793156543929#64)) ^^^ ((((p0_1 + (11400714819323198485#64)) ^^^ ((p0_1 + (11400714819323198485#64)) >>> 30)) * (13787848793156543929#64)) >>> 27)))) (Nat.zero_le _) rfl (ev_bin (x := (w64 (((p0_1 + (11400714819323198485#64)) ^^^ ((p0_1 + (11400714819323198485#64)) >>> 30)) * (13787848793156543929#64)))) (y := (w64 ((((p0_1 + (11400714819323198485#64)) ^^^ ((p0_1 + (11400714819323198485#64)) >>> 30)) * (13787848793156543929#64)) >>> 27))) rfl rfl word_xor) rfl ?_
  refine MO.op (v := (w64 (((((p0_1 + (11400714819323198485#64)) ^^^ ((p0_1 + (11400714819323198485#64)) >>> 30)) * (13787848793156543929#64)) ^^^ ((((p0_1 + (11400714819323198485#64)) ^^^ ((p0_1 + (11400714819323198485#64)) >>> 30)) * (13787848793156543929#64)) >>> 27)) * (10723151780598845931#64)))) (Nat.zero_le _) rfl (ev_bin (x := (w64 ((((p0_1 + (11400714819323198485#64)) ^^^ ((p0_1 + (11400714819323198485#64)) >>> 30)) * (13787848793156543929#64)) ^^^ ((((p0_1 + (11400714819323198485#64)) ^^^ ((p0_1 + (11400714819323198485#64)) >>> 30)) * (13787848793156543929#64)) >>> 27)))) (y := (w64 (10723151780598845931#64))) rfl rfl word_mul) rfl ?_
  refine MO.op (v := (w64 (((((p0_1 + (11400714819323198485#64)) ^^^ ((p0_1 + (11400714819323198485#64)) >>> 30)) * (13787848793156543929#64)) ^^^ ((((p0_1 + (11400714819323198485#64)) ^^^ ((p0_1 + (11400714819323198485#64)) >>> 30)) * (13787848793156543929#64)) >>> 27)) * (10723151780598845931#64)))) (Nat.zero_le _) rfl (ev_assign rfl) rfl ?_
  refine MO.nil ?_
  refine Then.at ?_
  show MC _ _ _ _ _ _ _
  refine MC.seq ?_
  show MC _ _ _ _ _ _ _
  refine MC.region ?_
  refine MO.op (v := (w64 (((((p0_1 + (11400714819323198485#64)) ^^^ ((p0_1 + (11400714819323198485#64)) >>> 30)) * (13787848793156543929#64)) ^^^ ((((p0_1 + (11400714819323198485#64)) ^^^ ((p0_1 + (11400714819323198485#64)) >>> 30)) * (13787848793156543929#64)) >>> 27)) * (10723151780598845931#64)))) (Nat.zero_le _) rfl (ev_move rfl) rfl ?_
  refine MO.op (v := (w64 (((((p0_1 + (11400714819323198485#64)) ^^^ ((p0_1 + (11400714819323198485#64)) >>> 30)) * (13787848793156543929#64)) ^^^ ((((p0_1 + (11400714819323198485#64)) ^^^ ((p0_1 + (11400714819323198485#64)) >>> 30)) * (13787848793156543929#64)) >>> 27)) * (10723151780598845931#64)))) (Nat.zero_le _) rfl (ev_move rfl) rfl ?_
  refine MO.op (v := (w64 ((((((p0_1 + (11400714819323198485#64)) ^^^ ((p0_1 + (11400714819323198485#64)) >>> 30)) * (13787848793156543929#64)) ^^^ ((((p0_1 + (11400714819323198485#64)) ^^^ ((p0_1 + (11400714819323198485#64)) >>> 30)) * (13787848793156543929#64)) >>> 27)) * (10723151780598845931#64)) >>> 31))) (Nat.zero_le _) rfl (ev_bin (x := (w64 (((((p0_1 + (11400714819323198485#64)) ^^^ ((p0_1 + (11400714819323198485#64)) >>> 30)) * (13787848793156543929#64)) ^^^ ((((p0_1 + (11400714819323198485#64)) ^^^ ((p0_1 + (11400714819323198485#64)) >>> 30)) * (13787848793156543929#64)) >>> 27)) * (10723151780598845931#64)))) (y := (w64 (31#64))) rfl rfl (word_shr (by decide))) rfl ?_
  refine MO.op (v := (w64 ((((((p0_1 + (11400714819323198485#64)) ^^^ ((p0_1 + (11400714819323198485#64)) >>> 30)) * (13787848793156543929#64)) ^^^ ((((p0_1 + (11400714819323198485#64)) ^^^ ((p0_1 + (11400714819323198485#64)) >>> 30)) * (13787848793156543929#64)) >>> 27)) * (10723151780598845931#64)) ^^^ ((((((p0_1 + (11400714819323198485#64)) ^^^ ((p0_1 + (11400714819323198485#64)) >>> 30)) * (13787848793156543929#64)) ^^^ ((((p0_1 + (11400714819323198485#64)) ^^^ ((p0_1 + (11400714819323198485#64)) >>> 30)) * (13787848793156543929#64)) >>> 27)) * (10723151780598845931#64)) >>> 31)))) (Nat.zero_le _) rfl (ev_bin (x := (w64 (((((p0_1 + (11400714819323198485#64)) ^^^ ((p0_1 + (11400714819323198485#64)) >>> 30)) * (13787848793156543929#64)) ^^^ ((((p0_1 + (11400714819323198485#64)) ^^^ ((p0_1 + (11400714819323198485#64)) >>> 30)) * (13787848793156543929#64)) >>> 27)) * (10723151780598845931#64)))) (y := (w64 ((((((p0_1 + (11400714819323198485#64)) ^^^ ((p0_1 + (11400714819323198485#64)) >>> 30)) * (13787848793156543929#64)) ^^^ ((((p0_1 + (11400714819323198485#64)) ^^^ ((p0_1 + (11400714819323198485#64)) >>> 30)) * (13787848793156543929#64)) >>> 27)) * (10723151780598845931#64)) >>> 31))) rfl rfl word_xor) rfl ?_
  refine MO.op (v := (w64 ((((((p0_1 + (11400714819323198485#64)) ^^^ ((p0_1 + (11400714819323198485#64)) >>> 30)) * (13787848793156543929#64)) ^^^ ((((p0_1 + (11400714819323198485#64)) ^^^ ((p0_1 + (11400714819323198485#64)) >>> 30)) * (13787848793156543929#64)) >>> 27)) * (10723151780598845931#64)) ^^^ ((((((p0_1 + (11400714819323198485#64)) ^^^ ((p0_1 + (11400714819323198485#64)) >>> 30)) * (13787848793156543929#64)) ^^^ ((((p0_1 + (11400714819323198485#64)) ^^^ ((p0_1 + (11400714819323198485#64)) >>> 30)) * (13787848793156543929#64)) >>> 27)) * (10723151780598845931#64)) >>> 31)))) (Nat.zero_le _) rfl (ev_assign rfl) rfl ?_
  refine MO.nil ?_
  refine Then.at ?_
  show MC _ _ _ _ _ _ _
  refine MC.ret ?_
  obtain rfl := Option.some.inj h
  exact ⟨.inr rfl, _, (res_cons (res_tmp rfl) res_nil), rfl⟩
noncomputable def F_rng_At (p0_1 : (BitVec 64)) (p1_2 : (BitVec 64)) : Option ((BitVec 64)) :=
  Option.bind (F_rng_Mix (p0_1 + (p1_2 * (11400714819323198485#64)))) fun r3 =>
  some (r3)
theorem F_rng_At.ok {p0_1 : (BitVec 64)} {p1_2 : (BitVec 64)} {r : ((BitVec 64))} (h : F_rng_At p0_1 p1_2 = some r) : Pure Try.prog 23 [(w64 p0_1), (w64 p1_2)] (w64 r) := by
  unfold F_rng_At at h
  refine ⟨(.cons (.prim rfl) (.cons (.prim rfl) .nil)), (.prim rfl), Fn.enter Try.func23 (by kernel_rfl) rfl (of_decide_eq_true rfl) ?_⟩
  have hH : Hp ⟨0, []⟩ [] := Hp.nil (Nat.le_refl _)
  show MC _ _ _ _ _ _ _
  refine MC.seq ?_
  show MC _ _ _ _ _ _ _
  refine MC.region ?_
  refine MO.op (v := (w64 (0#64))) (Nat.zero_le _) rfl (ev_assign rfl) rfl ?_
  refine MO.nil ?_
  refine Then.at ?_
  show MC _ _ _ _ _ _ _
  refine MC.seq ?_
  show MC _ _ _ _ _ _ _
  refine MC.region ?_
  refine MO.op (v := (w64 p0_1)) (Nat.zero_le _) rfl (ev_move rfl) rfl ?_
  refine MO.op (v := (w64 p1_2)) (Nat.zero_le _) rfl (ev_move rfl) rfl ?_
  refine MO.op (v := (w64 (p1_2 * (11400714819323198485#64)))) (Nat.zero_le _) rfl (ev_bin (x := (w64 p1_2)) (y := (w64 (11400714819323198485#64))) rfl rfl word_mul) rfl ?_
  refine MO.op (v := (w64 (p0_1 + (p1_2 * (11400714819323198485#64))))) (Nat.zero_le _) rfl (ev_bin (x := (w64 p0_1)) (y := (w64 (p1_2 * (11400714819323198485#64)))) rfl rfl word_add) rfl ?_
  obtain ⟨r3, e4, h⟩ := bind_some h
  refine MO.pureW (v := (w64 r3)) (vs := [(w64 (p0_1 + (p1_2 * (11400714819323198485#64))))]) (as' := [(w64 (p0_1 + (p1_2 * (11400714819323198485#64))))]) (Nat.zero_le _) rfl rfl (callee_of rfl (args_cons rfl args_nil)) (LWk.cons (Wk.same _) LWk.nil) (F_rng_Mix.ok e4) rfl ?_
  refine MO.op (v := (w64 r3)) (Nat.zero_le _) rfl (ev_assign rfl) rfl ?_
  refine MO.nil ?_
  refine Then.at ?_
  show MC _ _ _ _ _ _ _
  refine MC.ret ?_
  obtain rfl := Option.some.inj h
  exact ⟨.inr rfl, _, (res_cons (res_tmp rfl) res_nil), rfl⟩
noncomputable def F_sketch_Sign (p0_1 : (BitVec 64)) (p1_2 : Int) (p2_3 : Int) : Option (Int) :=
  if (min p1_2 p2_3) < (0 : Int) then
    some ((0 : Int))
  else
    Option.bind (F_rng_At p0_1 (BitVec.ofInt 64 p1_2)) fun r5 =>
    Option.bind (F_rng_At r5 (BitVec.ofInt 64 p2_3)) fun r7 =>
    some ((wr ((BitVec.toInt ((r7 &&& (1#64)) <<< 1)) - (1 : Int))))
theorem F_sketch_Sign.ok {p0_1 : (BitVec 64)} {p1_2 : Int} {p2_3 : Int} {r : (Int)} (h : F_sketch_Sign p0_1 p1_2 p2_3 = some r) : Pure Try.prog 8 [(w64 p0_1), (Value.int .i64 p1_2), (Value.int .i64 p2_3)] (Value.int .i64 r) := by
  unfold F_sketch_Sign at h
  refine ⟨(.cons (.prim rfl) (.cons (.prim rfl) (.cons (.prim rfl) .nil))), (.prim rfl), Fn.enter Try.func8 (by kernel_rfl) rfl (of_decide_eq_true rfl) ?_⟩
  have hH : Hp ⟨0, []⟩ [] := Hp.nil (Nat.le_refl _)
  show MC _ _ _ _ _ _ _
  refine MC.seq ?_
  show MC _ _ _ _ _ _ _
  refine MC.region ?_
  refine MO.op (v := (Value.int .i64 (0 : Int))) (Nat.zero_le _) rfl (ev_assign rfl) rfl ?_
  refine MO.nil ?_
  refine Then.at ?_
  show MC _ _ _ _ _ _ _
  refine MC.seq ?_
  show MC _ _ _ _ _ _ _
  refine MC.seq ?_
  show MC _ _ _ _ _ _ _
  refine MC.region ?_
  refine MO.op (v := (Value.int .i64 p1_2)) (Nat.zero_le _) rfl (ev_move rfl) rfl ?_
  refine MO.op (v := (Value.int .i64 p2_3)) (Nat.zero_le _) rfl (ev_move rfl) rfl ?_
  refine MO.op (v := (Value.int .i64 (min p1_2 p2_3))) (Nat.zero_le _) rfl (ev_min (x := (Value.int .i64 p1_2)) (y := (Value.int .i64 p2_3)) rfl rfl min_two) rfl ?_
  refine MO.op (v := (Value.bool (decide ((min p1_2 p2_3) < (0 : Int))))) (Nat.zero_le _) rfl (ev_bin (x := (Value.int .i64 (min p1_2 p2_3))) (y := (Value.int .i64 (0 : Int))) rfl rfl int_lss) rfl ?_
  refine MO.nil ?_
  refine Then.at ?_
  by_cases hc4 : (min p1_2 p2_3) < (0 : Int)
  · rw [if_pos hc4] at h
    show MC _ _ _ _ _ _ _
    refine MC.condT (Eq.trans (b := Value.bool (decide ((min p1_2 p2_3) < (0 : Int)))) rfl (congrArg Value.bool (decide_eq_true hc4))) ?_
    show MC _ _ _ _ _ _ _
    refine MC.seq ?_
    show MC _ _ _ _ _ _ _
    refine MC.region ?_
    refine MO.op (v := (Value.int .i64 (0 : Int))) (Nat.zero_le _) rfl (ev_assign rfl) rfl ?_
    refine MO.nil ?_
    refine Then.at ?_
    show MC _ _ _ _ _ _ _
    refine MC.ret ?_
    refine Then.ret ?_
    obtain rfl := Option.some.inj h
    exact ⟨.inr rfl, _, (res_cons (res_tmp rfl) res_nil), rfl⟩
  · rw [if_neg hc4] at h
    show MC _ _ _ _ _ _ _
    refine MC.condF (Eq.trans (b := Value.bool (decide ((min p1_2 p2_3) < (0 : Int)))) rfl (congrArg Value.bool (decide_eq_false hc4))) ?_
    show MC _ _ _ _ _ _ _
    refine MC.skip ?_
    refine Then.at ?_
    show MC _ _ _ _ _ _ _
    refine MC.seq ?_
    show MC _ _ _ _ _ _ _
    refine MC.region ?_
    refine MO.op (v := (w64 p0_1)) (Nat.zero_le _) rfl (ev_move rfl) rfl ?_
    refine MO.op (v := (Value.int .i64 p1_2)) (Nat.zero_le _) rfl (ev_move rfl) rfl ?_
    refine MO.op (v := (w64 (BitVec.ofInt 64 p1_2))) (Nat.zero_le _) rfl (ev_conv (x := Value.int .i64 p1_2) rfl (conv_word Try.underlying3 Try.underlying23)) rfl ?_
    obtain ⟨r5, e6, h⟩ := bind_some h
    refine MO.pureW (v := (w64 r5)) (vs := [(w64 p0_1), (w64 (BitVec.ofInt 64 p1_2))]) (as' := [(w64 p0_1), (w64 (BitVec.ofInt 64 p1_2))]) (Nat.zero_le _) rfl rfl (callee_of rfl (args_cons rfl (args_cons rfl args_nil))) (LWk.cons (Wk.same _) (LWk.cons (Wk.same _) LWk.nil)) (F_rng_At.ok e6) rfl ?_
    refine MO.op (v := (Value.int .i64 p2_3)) (Nat.zero_le _) rfl (ev_move rfl) rfl ?_
    refine MO.op (v := (w64 (BitVec.ofInt 64 p2_3))) (Nat.zero_le _) rfl (ev_conv (x := Value.int .i64 p2_3) rfl (conv_word Try.underlying3 Try.underlying23)) rfl ?_
    obtain ⟨r7, e8, h⟩ := bind_some h
    refine MO.pureW (v := (w64 r7)) (vs := [(w64 r5), (w64 (BitVec.ofInt 64 p2_3))]) (as' := [(w64 r5), (w64 (BitVec.ofInt 64 p2_3))]) (Nat.zero_le _) rfl rfl (callee_of rfl (args_cons rfl (args_cons rfl args_nil))) (LWk.cons (Wk.same _) (LWk.cons (Wk.same _) LWk.nil)) (F_rng_At.ok e8) rfl ?_
    refine MO.op (v := (w64 (r7 &&& (1#64)))) (Nat.zero_le _) rfl (ev_bin (x := (w64 r7)) (y := (w64 (1#64))) rfl rfl word_and) rfl ?_
    refine MO.op (v := (w64 (r7 &&& (1#64)))) (Nat.zero_le _) rfl (ev_assign rfl) rfl ?_
    refine MO.nil ?_
    refine Then.at ?_
    show MC _ _ _ _ _ _ _
    refine MC.seq ?_
    show MC _ _ _ _ _ _ _
    refine MC.region ?_
    refine MO.op (v := (w64 (r7 &&& (1#64)))) (Nat.zero_le _) rfl (ev_move rfl) rfl ?_
    refine MO.op (v := (w64 ((r7 &&& (1#64)) <<< 1))) (Nat.zero_le _) rfl (ev_bin (x := (w64 (r7 &&& (1#64)))) (y := (w64 (1#64))) rfl rfl (word_shlw (by decide))) rfl ?_
    refine MO.op (v := (Value.int .i64 (BitVec.toInt ((r7 &&& (1#64)) <<< 1)))) (Nat.zero_le _) rfl (ev_conv (x := w64 ((r7 &&& (1#64)) <<< 1)) rfl (conv_back Try.underlying23 Try.underlying3)) rfl ?_
    refine MO.op (v := (Value.int .i64 (wr ((BitVec.toInt ((r7 &&& (1#64)) <<< 1)) - (1 : Int))))) (Nat.zero_le _) rfl (ev_bin (x := (Value.int .i64 (BitVec.toInt ((r7 &&& (1#64)) <<< 1)))) (y := (Value.int .i64 (1 : Int))) rfl rfl int_sub) rfl ?_
    refine MO.op (v := (Value.int .i64 (wr ((BitVec.toInt ((r7 &&& (1#64)) <<< 1)) - (1 : Int))))) (Nat.zero_le _) rfl (ev_assign rfl) rfl ?_
    refine MO.nil ?_
    refine Then.at ?_
    show MC _ _ _ _ _ _ _
    refine MC.ret ?_
    obtain rfl := Option.some.inj h
    exact ⟨.inr rfl, _, (res_cons (res_tmp rfl) res_nil), rfl⟩
noncomputable def F_sketch_above_b1 (p0_1 : (List Int)) (r4 : (BitVec 64)) (next16 : (Int × Int → Option (Bool))) : Int × Int → Option (Bool)
  | (x7_6, x17_7) =>
    if x17_7 < (p0_1.length : Int) then
      Option.bind (gx p0_1 x17_7) fun x18 =>
      Option.bind (F_rng_At r4 (BitVec.ofInt 64 x17_7)) fun r20 =>
      if (r20 &&& (1#64)) = (0#64) then
        next16 ((wr (x7_6 - (wr x18))), (wr (x17_7 + (1 : Int))))
      else
        next16 ((wr (x7_6 + (wr x18))), (wr (x17_7 + (1 : Int))))
    else
      some ((decide ((0 : Int) ≤ x7_6)))
noncomputable def F_sketch_above (p0_1 : (List Int)) (p1_2 : (BitVec 64)) (p2_3 : Int) : Option (Bool) :=
  Option.bind (F_rng_At p1_2 (BitVec.ofInt 64 p2_3)) fun r4 =>
  loopK (F_sketch_above_b1 p0_1 r4) fuel ((0 : Int), (0 : Int))
theorem F_sketch_above.ok {p0_1 : (List Int)} {p1_2 : (BitVec 64)} {p2_3 : Int} {r : (Bool)} (h : F_sketch_above p0_1 p1_2 p2_3 = some r) : Pure Try.prog 25 [(slv (eI .i32) p0_1), (w64 p1_2), (Value.int .i64 p2_3)] (Value.bool r) := by
  unfold F_sketch_above at h
  refine ⟨(.cons (slv_flat _ _) (.cons (.prim rfl) (.cons (.prim rfl) .nil))), (.prim rfl), Fn.enter Try.func25 (by kernel_rfl) rfl (of_decide_eq_true rfl) ?_⟩
  have hH : Hp ⟨0, []⟩ [] := Hp.nil (Nat.le_refl _)
  show MC _ _ _ _ _ _ _
  refine MC.seq ?_
  show MC _ _ _ _ _ _ _
  refine MC.region ?_
  refine MO.op (v := (Value.bool false)) (Nat.zero_le _) rfl (ev_assign rfl) rfl ?_
  refine MO.nil ?_
  refine Then.at ?_
  show MC _ _ _ _ _ _ _
  refine MC.seq ?_
  show MC _ _ _ _ _ _ _
  refine MC.region ?_
  refine MO.op (v := (Value.int .i64 (0 : Int))) (Nat.zero_le _) rfl (ev_assign rfl) rfl ?_
  refine MO.nil ?_
  refine Then.at ?_
  show MC _ _ _ _ _ _ _
  refine MC.seq ?_
  show MC _ _ _ _ _ _ _
  refine MC.region ?_
  refine MO.op (v := (w64 p1_2)) (Nat.zero_le _) rfl (ev_move rfl) rfl ?_
  refine MO.op (v := (Value.int .i64 p2_3)) (Nat.zero_le _) rfl (ev_move rfl) rfl ?_
  refine MO.op (v := (w64 (BitVec.ofInt 64 p2_3))) (Nat.zero_le _) rfl (ev_conv (x := Value.int .i64 p2_3) rfl (conv_word Try.underlying3 Try.underlying23)) rfl ?_
  obtain ⟨r4, e5, h⟩ := bind_some h
  refine MO.pureW (v := (w64 r4)) (vs := [(w64 p1_2), (w64 (BitVec.ofInt 64 p2_3))]) (as' := [(w64 p1_2), (w64 (BitVec.ofInt 64 p2_3))]) (Nat.zero_le _) rfl rfl (callee_of rfl (args_cons rfl (args_cons rfl args_nil))) (LWk.cons (Wk.same _) (LWk.cons (Wk.same _) LWk.nil)) (F_rng_At.ok e5) rfl ?_
  refine MO.op (v := (w64 r4)) (Nat.zero_le _) rfl (ev_assign rfl) rfl ?_
  refine MO.nil ?_
  refine Then.at ?_
  show MC _ _ _ _ _ _ _
  refine MC.seq ?_
  show MC _ _ _ _ _ _ _
  refine MC.seq ?_
  show MC _ _ _ _ _ _ _
  refine MC.region ?_
  refine MO.op (v := (slv (eI .i32) p0_1)) (Nat.zero_le _) rfl (ev_move rfl) rfl ?_
  refine MO.op (v := (Value.int .i64 (p0_1.length : Int))) (Nat.zero_le _) rfl (ev_len (x := (slv (eI .i32) p0_1)) rfl (len_still Try.underlying22 _ _)) rfl ?_
  refine MO.op (v := (Value.int .i64 (0 : Int))) (Nat.zero_le _) rfl (ev_move rfl) rfl ?_
  refine MO.nil ?_
  refine Then.at ?_
  show MC _ _ _ _ _ _ _
  refine MC.block ?_
  show MC _ _ _ _ _ _ _
  refine MC.loopK (fun (s : Int × Int) t σ => t 7 = (Value.int .i64 s.1) ∧ t 8 = (w64 r4) ∧ t 15 = (slv (eI .i32) p0_1) ∧ t 16 = (Value.int .i64 (p0_1.length : Int)) ∧ t 17 = (Value.int .i64 s.2) ∧ Hp σ []) h ⟨rfl, rfl, rfl, rfl, rfl, hH⟩ ?_
  rintro next16 ⟨x7_6, x17_7⟩ t σ ⟨q8, q9, q10, q11, q12, hH13⟩ h
  try dsimp only at q8 q9 q10 q11 q12 hH13
  unfold F_sketch_above_b1 at h
  dsimp only at h
  show MC _ _ _ _ _ _ _
  refine MC.seq ?_
  show MC _ _ _ _ _ _ _
  refine MC.region ?_
  refine MO.op (v := (Value.bool (decide (x17_7 < (p0_1.length : Int))))) (Nat.zero_le _) rfl (ev_bin (x := (Value.int .i64 x17_7)) (y := (Value.int .i64 (p0_1.length : Int))) q12 q11 int_lss) rfl ?_
  refine MO.nil ?_
  refine Then.at ?_
  show MC _ _ _ _ _ _ _
  refine MC.seq ?_
  by_cases hc17 : x17_7 < (p0_1.length : Int)
  · rw [if_pos hc17] at h
    show MC _ _ _ _ _ _ _
    refine MC.condT (Eq.trans (b := Value.bool (decide (x17_7 < (p0_1.length : Int)))) rfl (congrArg Value.bool (decide_eq_true hc17))) ?_
    show MC _ _ _ _ _ _ _
    refine MC.skip ?_
    refine Then.at ?_
    show MC _ _ _ _ _ _ _
    refine MC.seq ?_
    show MC _ _ _ _ _ _ _
    refine MC.block ?_
    show MC _ _ _ _ _ _ _
    refine MC.seq ?_
    show MC _ _ _ _ _ _ _
    refine MC.region ?_
    refine MO.op (v := (Value.int .i64 x17_7)) (Nat.zero_le _) rfl (ev_move q12) rfl ?_
    obtain ⟨x18, e19, h⟩ := bind_some h
    refine MO.op (v := (ptv (eI .i32) x18)) (Nat.zero_le _) rfl (ev_indexAddr (x := (slv (eI .i32) p0_1)) (y := (Value.int .i64 x17_7)) q10 q12 (index_still ty21 Try.underlying22 (gx_some e19).1 (gx_some e19).2)) rfl ?_
    refine MO.op (v := (Value.int .i32 x18)) (Nat.zero_le _) rfl (ev_load (x := (ptv (eI .i32) x18)) rfl (load_still ty21 _ _)) rfl ?_
    refine MO.op (v := (Value.int .i64 x17_7)) (Nat.zero_le _) rfl (ev_assign rfl) rfl ?_
    refine MO.op (v := (Value.int .i32 x18)) (Nat.zero_le _) rfl (ev_assign rfl) rfl ?_
    refine MO.nil ?_
    refine Then.at ?_
    show MC _ _ _ _ _ _ _
    refine MC.seq ?_
    show MC _ _ _ _ _ _ _
    refine MC.seq ?_
    show MC _ _ _ _ _ _ _
    refine MC.region ?_
    refine MO.op (v := (w64 r4)) (Nat.zero_le _) rfl (ev_move q9) rfl ?_
    refine MO.op (v := (Value.int .i64 x17_7)) (Nat.zero_le _) rfl (ev_move rfl) rfl ?_
    refine MO.op (v := (w64 (BitVec.ofInt 64 x17_7))) (Nat.zero_le _) rfl (ev_conv (x := Value.int .i64 x17_7) rfl (conv_word Try.underlying3 Try.underlying23)) rfl ?_
    obtain ⟨r20, e21, h⟩ := bind_some h
    refine MO.pureW (v := (w64 r20)) (vs := [(w64 r4), (w64 (BitVec.ofInt 64 x17_7))]) (as' := [(w64 r4), (w64 (BitVec.ofInt 64 x17_7))]) (Nat.zero_le _) rfl rfl (callee_of rfl (args_cons rfl (args_cons rfl args_nil))) (LWk.cons (Wk.same _) (LWk.cons (Wk.same _) LWk.nil)) (F_rng_At.ok e21) rfl ?_
    refine MO.op (v := (w64 (r20 &&& (1#64)))) (Nat.zero_le _) rfl (ev_bin (x := (w64 r20)) (y := (w64 (1#64))) rfl rfl word_and) rfl ?_
    refine MO.op (v := (Value.bool (decide ((r20 &&& (1#64)) = (0#64))))) (Nat.zero_le _) rfl (ev_bin (x := (w64 (r20 &&& (1#64)))) (y := (w64 (0#64))) rfl rfl word_eql) rfl ?_
    refine MO.nil ?_
    refine Then.at ?_
    by_cases hc22 : (r20 &&& (1#64)) = (0#64)
    · rw [if_pos hc22] at h
      show MC _ _ _ _ _ _ _
      refine MC.condT (Eq.trans (b := Value.bool (decide ((r20 &&& (1#64)) = (0#64)))) rfl (congrArg Value.bool (decide_eq_true hc22))) ?_
      show MC _ _ _ _ _ _ _
      refine MC.seq ?_
      show MC _ _ _ _ _ _ _
      refine MC.region ?_
      refine MO.op (v := (Value.int .i64 x7_6)) (Nat.zero_le _) rfl (ev_move q8) rfl ?_
      refine MO.op (v := (Value.int .i32 x18)) (Nat.zero_le _) rfl (ev_move rfl) rfl ?_
      refine MO.op (v := (Value.int .i64 (wr x18))) (Nat.zero_le _) rfl (ev_conv (x := Value.int .i32 x18) rfl (conv_int Try.underlying21 Try.underlying2)) rfl ?_
      refine MO.op (v := (Value.int .i64 (wr (x7_6 - (wr x18))))) (Nat.zero_le _) rfl (ev_bin (x := (Value.int .i64 x7_6)) (y := (Value.int .i64 (wr x18))) rfl rfl int_sub) rfl ?_
      refine MO.op (v := (Value.int .i64 (wr (x7_6 - (wr x18))))) (Nat.zero_le _) rfl (ev_assign rfl) rfl ?_
      refine MO.nil ?_
      refine Then.at ?_
      show MC _ _ _ _ _ _ _
      refine MC.exit ?_
      refine Then.exit ?_
      refine Block.exit ?_
      refine Then.at ?_
      show MC _ _ _ _ _ _ _
      refine MC.region ?_
      refine MO.op (v := (Value.int .i64 (wr (x17_7 + (1 : Int))))) (Nat.zero_le _) rfl (ev_bin (x := (Value.int .i64 x17_7)) (y := (Value.int .i64 (1 : Int))) q12 rfl int_add) rfl ?_
      refine MO.op (v := (Value.int .i64 (wr (x17_7 + (1 : Int))))) (Nat.zero_le _) rfl (ev_move rfl) rfl ?_
      refine MO.nil ?_
      refine Then.at ?_
      exact ⟨((wr (x7_6 - (wr x18))), (wr (x17_7 + (1 : Int)))), ⟨rfl, q9, q10, q11, rfl, hH13⟩, h⟩
    · rw [if_neg hc22] at h
      show MC _ _ _ _ _ _ _
      refine MC.condF (Eq.trans (b := Value.bool (decide ((r20 &&& (1#64)) = (0#64)))) rfl (congrArg Value.bool (decide_eq_false hc22))) ?_
      show MC _ _ _ _ _ _ _
      refine MC.skip ?_
      refine Then.at ?_
      show MC _ _ _ _ _ _ _
      refine MC.region ?_
      refine MO.op (v := (Value.int .i64 x7_6)) (Nat.zero_le _) rfl (ev_move q8) rfl ?_
      refine MO.op (v := (Value.int .i32 x18)) (Nat.zero_le _) rfl (ev_move rfl) rfl ?_
      refine MO.op (v := (Value.int .i64 (wr x18))) (Nat.zero_le _) rfl (ev_conv (x := Value.int .i32 x18) rfl (conv_int Try.underlying21 Try.underlying2)) rfl ?_
      refine MO.op (v := (Value.int .i64 (wr (x7_6 + (wr x18))))) (Nat.zero_le _) rfl (ev_bin (x := (Value.int .i64 x7_6)) (y := (Value.int .i64 (wr x18))) rfl rfl int_add) rfl ?_
      refine MO.op (v := (Value.int .i64 (wr (x7_6 + (wr x18))))) (Nat.zero_le _) rfl (ev_assign rfl) rfl ?_
      refine MO.nil ?_
      refine Block.at ?_
      refine Then.at ?_
      show MC _ _ _ _ _ _ _
      refine MC.region ?_
      refine MO.op (v := (Value.int .i64 (wr (x17_7 + (1 : Int))))) (Nat.zero_le _) rfl (ev_bin (x := (Value.int .i64 x17_7)) (y := (Value.int .i64 (1 : Int))) q12 rfl int_add) rfl ?_
      refine MO.op (v := (Value.int .i64 (wr (x17_7 + (1 : Int))))) (Nat.zero_le _) rfl (ev_move rfl) rfl ?_
      refine MO.nil ?_
      refine Then.at ?_
      exact ⟨((wr (x7_6 + (wr x18))), (wr (x17_7 + (1 : Int)))), ⟨rfl, q9, q10, q11, rfl, hH13⟩, h⟩
  · rw [if_neg hc17] at h
    show MC _ _ _ _ _ _ _
    refine MC.condF (Eq.trans (b := Value.bool (decide (x17_7 < (p0_1.length : Int)))) rfl (congrArg Value.bool (decide_eq_false hc17))) ?_
    show MC _ _ _ _ _ _ _
    refine MC.exit ?_
    refine Then.exit ?_
    refine Then.exit ?_
    refine Block.exit ?_
    refine Then.at ?_
    show MC _ _ _ _ _ _ _
    refine MC.seq ?_
    show MC _ _ _ _ _ _ _
    refine MC.region ?_
    refine MO.op (v := (Value.int .i64 x7_6)) (Nat.zero_le _) rfl (ev_move q8) rfl ?_
    refine MO.op (v := (Value.bool (decide ((0 : Int) ≤ x7_6)))) (Nat.zero_le _) rfl (ev_bin (x := (Value.int .i64 x7_6)) (y := (Value.int .i64 (0 : Int))) rfl rfl int_geq) rfl ?_
    refine MO.op (v := (Value.bool (decide ((0 : Int) ≤ x7_6)))) (Nat.zero_le _) rfl (ev_assign rfl) rfl ?_
    refine MO.nil ?_
    refine Then.at ?_
    show MC _ _ _ _ _ _ _
    refine MC.ret ?_
    obtain rfl := Option.some.inj h
    exact ⟨.inr rfl, _, (res_cons (res_tmp rfl) res_nil), rfl⟩
noncomputable def F_bitset_short_b1 (p0_1 : (List (BitVec 64))) (next9 : (Int → Option ((List (BitVec 64))))) : Int → Option ((List (BitVec 64)))
  | x3_4 =>
    if (0 : Int) < x3_4 then
      Option.bind (gx p0_1 (wr (x3_4 - (1 : Int)))) fun x11 =>
      if x11 = (0#64) then
        next9 ((wr (x3_4 - (1 : Int))))
      else
        Option.bind (cut p0_1 (lo? none) (hi? p0_1 (some x3_4))) fun l14 =>
        some (l14)
    else
      Option.bind (cut p0_1 (lo? none) (hi? p0_1 (some x3_4))) fun l16 =>
      some (l16)
noncomputable def F_bitset_short (p0_1 : (List (BitVec 64))) : Option ((List (BitVec 64))) :=
  loopK (F_bitset_short_b1 p0_1) fuel ((p0_1.length : Int))
theorem F_bitset_short.ok {p0_1 : (List (BitVec 64))} {r : ((List (BitVec 64)))} (h : F_bitset_short p0_1 = some r) : Pure Try.prog 35 [(slv eW p0_1)] (slv eW r) := by
  unfold F_bitset_short at h
  refine ⟨(.cons (slv_flat _ _) .nil), (slv_flat _ _), Fn.enter Try.func35 (by kernel_rfl) rfl (of_decide_eq_true rfl) ?_⟩
  have hH : Hp ⟨0, []⟩ [] := Hp.nil (Nat.le_refl _)
  show MC _ _ _ _ _ _ _
  refine MC.seq ?_
  show MC _ _ _ _ _ _ _
  refine MC.region ?_
  have hH2 := hH.nilSl eW
  refine MO.op (v := (Value.slice none 0 0)) (Nat.zero_le _) rfl (ev_assign rfl) rfl ?_
  refine MO.nil ?_
  refine Then.at ?_
  show MC _ _ _ _ _ _ _
  refine MC.seq ?_
  show MC _ _ _ _ _ _ _
  refine MC.region ?_
  refine MO.op (v := (slv eW p0_1)) (Nat.zero_le _) rfl (ev_move rfl) rfl ?_
  refine MO.op (v := (Value.int .i64 (p0_1.length : Int))) (Nat.zero_le _) rfl (ev_len (x := (slv eW p0_1)) rfl (len_still Try.underlying25 _ _)) rfl ?_
  refine MO.op (v := (Value.int .i64 (p0_1.length : Int))) (Nat.zero_le _) rfl (ev_assign rfl) rfl ?_
  refine MO.nil ?_
  refine Then.at ?_
  show MC _ _ _ _ _ _ _
  refine MC.seq ?_
  show MC _ _ _ _ _ _ _
  refine MC.block ?_
  show MC _ _ _ _ _ _ _
  refine MC.loopK (fun (s : Int) t σ => t 0 = (slv eW p0_1) ∧ t 3 = (Value.int .i64 s) ∧ Hp σ []) h ⟨rfl, rfl, (hH2.sub (.cons _ .slnil))⟩ ?_
  rintro next9 x3_4 t σ ⟨q5, q6, hH7⟩ h
  unfold F_bitset_short_b1 at h
  show MC _ _ _ _ _ _ _
  refine MC.seq ?_
  show MC _ _ _ _ _ _ _
  refine MC.seq ?_
  show MC _ _ _ _ _ _ _
  refine MC.region ?_
  refine MO.op (v := (Value.int .i64 x3_4)) (Nat.zero_le _) rfl (ev_move q6) rfl ?_
  refine MO.op (v := (Value.bool (decide ((0 : Int) < x3_4)))) (Nat.zero_le _) rfl (ev_bin (x := (Value.int .i64 x3_4)) (y := (Value.int .i64 (0 : Int))) rfl rfl int_gtr) rfl ?_
  refine MO.op (v := (Value.bool (decide ((0 : Int) < x3_4)))) (Nat.zero_le _) rfl (ev_move rfl) rfl ?_
  by_cases hc10 : (0 : Int) < x3_4
  · rw [if_pos hc10] at h
    refine MO.op (v := (slv eW p0_1)) (Nat.zero_le _) (want_yes (q := true) rfl rfl (Eq.trans (b := Value.bool (decide ((0 : Int) < x3_4))) rfl (congrArg Value.bool (decide_eq_true hc10))) rfl) (ev_move q5) rfl ?_
    refine MO.op (v := (Value.int .i64 x3_4)) (Nat.zero_le _) (want_yes (q := true) rfl rfl (Eq.trans (b := Value.bool (decide ((0 : Int) < x3_4))) rfl (congrArg Value.bool (decide_eq_true hc10))) rfl) (ev_move q6) rfl ?_
    refine MO.op (v := (Value.int .i64 (wr (x3_4 - (1 : Int))))) (Nat.zero_le _) (want_yes (q := true) rfl rfl (Eq.trans (b := Value.bool (decide ((0 : Int) < x3_4))) rfl (congrArg Value.bool (decide_eq_true hc10))) rfl) (ev_bin (x := (Value.int .i64 x3_4)) (y := (Value.int .i64 (1 : Int))) rfl rfl int_sub) rfl ?_
    obtain ⟨x11, e12, h⟩ := bind_some h
    refine MO.op (v := (ptv eW x11)) (Nat.zero_le _) (want_yes (q := true) rfl rfl (Eq.trans (b := Value.bool (decide ((0 : Int) < x3_4))) rfl (congrArg Value.bool (decide_eq_true hc10))) rfl) (ev_indexAddr (x := (slv eW p0_1)) (y := (Value.int .i64 (wr (x3_4 - (1 : Int))))) rfl rfl (index_still ty23 Try.underlying25 (gx_some e12).1 (gx_some e12).2)) rfl ?_
    refine MO.op (v := (w64 x11)) (Nat.zero_le _) (want_yes (q := true) rfl rfl (Eq.trans (b := Value.bool (decide ((0 : Int) < x3_4))) rfl (congrArg Value.bool (decide_eq_true hc10))) rfl) (ev_load (x := (ptv eW x11)) rfl (load_still ty23 _ _)) rfl ?_
    refine MO.op (v := (Value.bool (decide (x11 = (0#64))))) (Nat.zero_le _) (want_yes (q := true) rfl rfl (Eq.trans (b := Value.bool (decide ((0 : Int) < x3_4))) rfl (congrArg Value.bool (decide_eq_true hc10))) rfl) (ev_bin (x := (w64 x11)) (y := (w64 (0#64))) rfl rfl word_eql) rfl ?_
    refine MO.op (v := (Value.bool (decide (x11 = (0#64))))) (Nat.zero_le _) rfl (ev_pickT (Eq.trans (b := Value.bool (decide ((0 : Int) < x3_4))) rfl (congrArg Value.bool (decide_eq_true hc10))) rfl) rfl ?_
    refine MO.nil ?_
    refine Then.at ?_
    by_cases hc13 : x11 = (0#64)
    · rw [if_pos hc13] at h
      show MC _ _ _ _ _ _ _
      refine MC.condT (Eq.trans (b := Value.bool (decide (x11 = (0#64)))) rfl (congrArg Value.bool (decide_eq_true hc13))) ?_
      show MC _ _ _ _ _ _ _
      refine MC.skip ?_
      refine Then.at ?_
      show MC _ _ _ _ _ _ _
      refine MC.block ?_
      show MC _ _ _ _ _ _ _
      refine MC.region ?_
      refine MO.op (v := (Value.int .i64 x3_4)) (Nat.zero_le _) rfl (ev_move q6) rfl ?_
      refine MO.op (v := (Value.int .i64 (wr (x3_4 - (1 : Int))))) (Nat.zero_le _) rfl (ev_bin (x := (Value.int .i64 x3_4)) (y := (Value.int .i64 (1 : Int))) rfl rfl int_sub) rfl ?_
      refine MO.op (v := (Value.int .i64 (wr (x3_4 - (1 : Int))))) (Nat.zero_le _) rfl (ev_assign rfl) rfl ?_
      refine MO.nil ?_
      refine Block.at ?_
      refine Then.at ?_
      exact ⟨((wr (x3_4 - (1 : Int)))), ⟨q5, rfl, hH7⟩, h⟩
    · rw [if_neg hc13] at h
      show MC _ _ _ _ _ _ _
      refine MC.condF (Eq.trans (b := Value.bool (decide (x11 = (0#64)))) rfl (congrArg Value.bool (decide_eq_false hc13))) ?_
      show MC _ _ _ _ _ _ _
      refine MC.exit ?_
      refine Then.exit ?_
      refine Then.exit ?_
      refine Block.exit ?_
      refine Then.at ?_
      show MC _ _ _ _ _ _ _
      refine MC.seq ?_
      show MC _ _ _ _ _ _ _
      refine MC.region ?_
      refine MO.op (v := (slv eW p0_1)) (Nat.zero_le _) rfl (ev_move q5) rfl ?_
      refine MO.op (v := (Value.int .i64 x3_4)) (Nat.zero_le _) rfl (ev_move q6) rfl ?_
      obtain ⟨l14, e15, h⟩ := bind_some h
      refine MO.op (v := (slv eW l14)) (Nat.zero_le _) rfl (ev_slice (x := (slv eW p0_1)) (a := Option.map (Value.int .i64) none) (b := Option.map (Value.int .i64) (some x3_4)) rfl rfl rfl rfl (cut_still ty23 Try.underlying25 e15 _)) rfl ?_
      refine MO.op (v := (slv eW l14)) (Nat.zero_le _) rfl (ev_assign rfl) rfl ?_
      refine MO.nil ?_
      refine Then.at ?_
      show MC _ _ _ _ _ _ _
      refine MC.ret ?_
      obtain rfl := Option.some.inj h
      exact ⟨.inr rfl, _, (res_cons (res_tmp rfl) res_nil), rfl⟩
  · rw [if_neg hc10] at h
    refine MO.skip (want_no (q := false) rfl rfl (Eq.trans (b := Value.bool (decide ((0 : Int) < x3_4))) rfl (congrArg Value.bool (decide_eq_false hc10))) rfl) rfl ?_
    refine MO.skip (want_no (q := false) rfl rfl (Eq.trans (b := Value.bool (decide ((0 : Int) < x3_4))) rfl (congrArg Value.bool (decide_eq_false hc10))) rfl) rfl ?_
    refine MO.skip (want_no (q := false) rfl rfl (Eq.trans (b := Value.bool (decide ((0 : Int) < x3_4))) rfl (congrArg Value.bool (decide_eq_false hc10))) rfl) rfl ?_
    refine MO.skip (want_no (q := false) rfl rfl (Eq.trans (b := Value.bool (decide ((0 : Int) < x3_4))) rfl (congrArg Value.bool (decide_eq_false hc10))) rfl) rfl ?_
    refine MO.skip (want_no (q := false) rfl rfl (Eq.trans (b := Value.bool (decide ((0 : Int) < x3_4))) rfl (congrArg Value.bool (decide_eq_false hc10))) rfl) rfl ?_
    refine MO.skip (want_no (q := false) rfl rfl (Eq.trans (b := Value.bool (decide ((0 : Int) < x3_4))) rfl (congrArg Value.bool (decide_eq_false hc10))) rfl) rfl ?_
    refine MO.op (v := (Value.bool false)) (Nat.zero_le _) rfl (ev_pickF (Eq.trans (b := Value.bool (decide ((0 : Int) < x3_4))) rfl (congrArg Value.bool (decide_eq_false hc10))) rfl) rfl ?_
    refine MO.nil ?_
    refine Then.at ?_
    show MC _ _ _ _ _ _ _
    refine MC.condF rfl ?_
    show MC _ _ _ _ _ _ _
    refine MC.exit ?_
    refine Then.exit ?_
    refine Then.exit ?_
    refine Block.exit ?_
    refine Then.at ?_
    show MC _ _ _ _ _ _ _
    refine MC.seq ?_
    show MC _ _ _ _ _ _ _
    refine MC.region ?_
    refine MO.op (v := (slv eW p0_1)) (Nat.zero_le _) rfl (ev_move q5) rfl ?_
    refine MO.op (v := (Value.int .i64 x3_4)) (Nat.zero_le _) rfl (ev_move q6) rfl ?_
    obtain ⟨l16, e17, h⟩ := bind_some h
    refine MO.op (v := (slv eW l16)) (Nat.zero_le _) rfl (ev_slice (x := (slv eW p0_1)) (a := Option.map (Value.int .i64) none) (b := Option.map (Value.int .i64) (some x3_4)) rfl rfl rfl rfl (cut_still ty23 Try.underlying25 e17 _)) rfl ?_
    refine MO.op (v := (slv eW l16)) (Nat.zero_le _) rfl (ev_assign rfl) rfl ?_
    refine MO.nil ?_
    refine Then.at ?_
    show MC _ _ _ _ _ _ _
    refine MC.ret ?_
    obtain rfl := Option.some.inj h
    exact ⟨.inr rfl, _, (res_cons (res_tmp rfl) res_nil), rfl⟩
noncomputable def F_bitset_Of_b2 (p0_1 : (List Int)) (next46 : (Int × (List (BitVec 64)) → Option ((List (BitVec 64))))) : Int × (List (BitVec 64)) → Option ((List (BitVec 64)))
  | (x29_35, l36) =>
    if x29_35 < (p0_1.length : Int) then
      Option.bind (gx p0_1 x29_35) fun x48 =>
      if (0 : Int) ≤ x48 then
        if x48 < (4096 : Int) then
          Option.bind (gx l36 (wr (Int.tdiv x48 (64 : Int)))) fun x52 =>
          if 0 ≤ (Int.tmod x48 (64 : Int)) then
            Option.bind (gx l36 (wr (Int.tdiv x48 (64 : Int)))) fun x58 =>
            next46 ((wr (x29_35 + (1 : Int))), (List.set l36 (Int.toNat (wr (Int.tdiv x48 (64 : Int)))) (x52 ||| ((1#64) <<< (Int.toNat (Int.tmod x48 (64 : Int)))))))
          else none
        else
          next46 ((wr (x29_35 + (1 : Int))), l36)
      else
        next46 ((wr (x29_35 + (1 : Int))), l36)
    else
      Option.bind (F_bitset_short l36) fun r69 =>
      some (r69)
noncomputable def F_bitset_Of_b1 (p0_1 : (List Int)) (next14 : (Int × Int → Option ((List (BitVec 64))))) : Int × Int → Option ((List (BitVec 64)))
  | (x3_4, x11_5) =>
    if x11_5 < (p0_1.length : Int) then
      Option.bind (gx p0_1 x11_5) fun x16 =>
      if x16 < (4096 : Int) then
        next14 ((max x3_4 (wr (x16 + (1 : Int)))), (wr (x11_5 + (1 : Int))))
      else
        next14 (x3_4, (wr (x11_5 + (1 : Int))))
    else
      Option.bind (mkn (wr (Int.tdiv (wr ((wr (x3_4 + (64 : Int))) - (1 : Int))) (64 : Int))) (0#64)) fun l19 =>
      loopK (F_bitset_Of_b2 p0_1) fuel ((0 : Int), l19)
noncomputable def F_bitset_Of (p0_1 : (List Int)) : Option ((List (BitVec 64))) :=
  loopK (F_bitset_Of_b1 p0_1) fuel ((0 : Int), (0 : Int))
theorem F_bitset_Of.ok {p0_1 : (List Int)} {r : ((List (BitVec 64)))} (h : F_bitset_Of p0_1 = some r) : Pure Try.prog 20 [(slv (eI .i64) p0_1)] (slv eW r) := by
  unfold F_bitset_Of at h
  refine ⟨(.cons (slv_flat _ _) .nil), (slv_flat _ _), Fn.enter Try.func20 (by kernel_rfl) rfl (of_decide_eq_true rfl) ?_⟩
  have hH : Hp ⟨0, []⟩ [] := Hp.nil (Nat.le_refl _)
  show MC _ _ _ _ _ _ _
  refine MC.seq ?_
  show MC _ _ _ _ _ _ _
  refine MC.region ?_
  have hH2 := hH.nilSl eW
  refine MO.op (v := (Value.slice none 0 0)) (Nat.zero_le _) rfl (ev_assign rfl) rfl ?_
  refine MO.nil ?_
  refine Then.at ?_
  show MC _ _ _ _ _ _ _
  refine MC.seq ?_
  show MC _ _ _ _ _ _ _
  refine MC.region ?_
  refine MO.op (v := (Value.int .i64 (0 : Int))) (Nat.zero_le _) rfl (ev_assign rfl) rfl ?_
  refine MO.nil ?_
  refine Then.at ?_
  show MC _ _ _ _ _ _ _
  refine MC.seq ?_
  show MC _ _ _ _ _ _ _
  refine MC.seq ?_
  show MC _ _ _ _ _ _ _
  refine MC.region ?_
  refine MO.op (v := (slv (eI .i64) p0_1)) (Nat.zero_le _) rfl (ev_move rfl) rfl ?_
  refine MO.op (v := (Value.int .i64 (p0_1.length : Int))) (Nat.zero_le _) rfl (ev_len (x := (slv (eI .i64) p0_1)) rfl (len_still Try.underlying32 _ _)) rfl ?_
  refine MO.op (v := (Value.int .i64 (0 : Int))) (Nat.zero_le _) rfl (ev_move rfl) rfl ?_
  refine MO.nil ?_
  refine Then.at ?_
  show MC _ _ _ _ _ _ _
  refine MC.block ?_
  show MC _ _ _ _ _ _ _
  refine MC.loopK (fun (s : Int × Int) t σ => t 0 = (slv (eI .i64) p0_1) ∧ t 3 = (Value.int .i64 s.1) ∧ t 9 = (slv (eI .i64) p0_1) ∧ t 10 = (Value.int .i64 (p0_1.length : Int)) ∧ t 11 = (Value.int .i64 s.2) ∧ Hp σ []) h ⟨rfl, rfl, rfl, rfl, rfl, (hH2.sub (.cons _ .slnil))⟩ ?_
  rintro next14 ⟨x3_4, x11_5⟩ t σ ⟨q6, q7, q8, q9, q10, hH11⟩ h
  try dsimp only at q6 q7 q8 q9 q10 hH11
  unfold F_bitset_Of_b1 at h
  dsimp only at h
  show MC _ _ _ _ _ _ _
  refine MC.seq ?_
  show MC _ _ _ _ _ _ _
  refine MC.region ?_
  refine MO.op (v := (Value.bool (decide (x11_5 < (p0_1.length : Int))))) (Nat.zero_le _) rfl (ev_bin (x := (Value.int .i64 x11_5)) (y := (Value.int .i64 (p0_1.length : Int))) q10 q9 int_lss) rfl ?_
  refine MO.nil ?_
  refine Then.at ?_
  show MC _ _ _ _ _ _ _
  refine MC.seq ?_
  by_cases hc15 : x11_5 < (p0_1.length : Int)
  · rw [if_pos hc15] at h
    show MC _ _ _ _ _ _ _
    refine MC.condT (Eq.trans (b := Value.bool (decide (x11_5 < (p0_1.length : Int)))) rfl (congrArg Value.bool (decide_eq_true hc15))) ?_
    show MC _ _ _ _ _ _ _
    refine MC.skip ?_
    refine Then.at ?_
    show MC _ _ _ _ _ _ _
    refine MC.seq ?_
    show MC _ _ _ _ _ _ _
    refine MC.block ?_
    show MC _ _ _ _ _ _ _
    refine MC.seq ?_
    show MC _ _ _ _ _ _ _
    refine MC.region ?_
    obtain ⟨x16, e17, h⟩ := bind_some h
    refine MO.op (v := (ptv (eI .i64) x16)) (Nat.zero_le _) rfl (ev_indexAddr (x := (slv (eI .i64) p0_1)) (y := (Value.int .i64 x11_5)) q8 q10 (index_still ty3 Try.underlying32 (gx_some e17).1 (gx_some e17).2)) rfl ?_
    refine MO.op (v := (Value.int .i64 x16)) (Nat.zero_le _) rfl (ev_load (x := (ptv (eI .i64) x16)) rfl (load_still ty3 _ _)) rfl ?_
    refine MO.op (v := (Value.int .i64 x16)) (Nat.zero_le _) rfl (ev_assign rfl) rfl ?_
    refine MO.nil ?_
    refine Then.at ?_
    show MC _ _ _ _ _ _ _
    refine MC.seq ?_
    show MC _ _ _ _ _ _ _
    refine MC.region ?_
    refine MO.op (v := (Value.int .i64 x16)) (Nat.zero_le _) rfl (ev_move rfl) rfl ?_
    refine MO.op (v := (Value.bool (decide (x16 < (4096 : Int))))) (Nat.zero_le _) rfl (ev_bin (x := (Value.int .i64 x16)) (y := (Value.int .i64 (4096 : Int))) rfl rfl int_lss) rfl ?_
    refine MO.nil ?_
    refine Then.at ?_
    by_cases hc18 : x16 < (4096 : Int)
    · rw [if_pos hc18] at h
      show MC _ _ _ _ _ _ _
      refine MC.condT (Eq.trans (b := Value.bool (decide (x16 < (4096 : Int)))) rfl (congrArg Value.bool (decide_eq_true hc18))) ?_
      show MC _ _ _ _ _ _ _
      refine MC.region ?_
      refine MO.op (v := (Value.int .i64 x3_4)) (Nat.zero_le _) rfl (ev_move q7) rfl ?_
      refine MO.op (v := (Value.int .i64 x16)) (Nat.zero_le _) rfl (ev_move rfl) rfl ?_
      refine MO.op (v := (Value.int .i64 (wr (x16 + (1 : Int))))) (Nat.zero_le _) rfl (ev_bin (x := (Value.int .i64 x16)) (y := (Value.int .i64 (1 : Int))) rfl rfl int_add) rfl ?_
      refine MO.op (v := (Value.int .i64 (max x3_4 (wr (x16 + (1 : Int)))))) (Nat.zero_le _) rfl (ev_max (x := (Value.int .i64 x3_4)) (y := (Value.int .i64 (wr (x16 + (1 : Int))))) rfl rfl max_two) rfl ?_
      refine MO.op (v := (Value.int .i64 (max x3_4 (wr (x16 + (1 : Int)))))) (Nat.zero_le _) rfl (ev_assign rfl) rfl ?_
      refine MO.nil ?_
      refine Block.at ?_
      refine Then.at ?_
      show MC _ _ _ _ _ _ _
      refine MC.region ?_
      refine MO.op (v := (Value.int .i64 (wr (x11_5 + (1 : Int))))) (Nat.zero_le _) rfl (ev_bin (x := (Value.int .i64 x11_5)) (y := (Value.int .i64 (1 : Int))) q10 rfl int_add) rfl ?_
      refine MO.op (v := (Value.int .i64 (wr (x11_5 + (1 : Int))))) (Nat.zero_le _) rfl (ev_move rfl) rfl ?_
      refine MO.nil ?_
      refine Then.at ?_
      exact ⟨((max x3_4 (wr (x16 + (1 : Int)))), (wr (x11_5 + (1 : Int)))), ⟨q6, rfl, q8, q9, rfl, hH11⟩, h⟩
    · rw [if_neg hc18] at h
      show MC _ _ _ _ _ _ _
      refine MC.condF (Eq.trans (b := Value.bool (decide (x16 < (4096 : Int)))) rfl (congrArg Value.bool (decide_eq_false hc18))) ?_
      show MC _ _ _ _ _ _ _
      refine MC.skip ?_
      refine Block.at ?_
      refine Then.at ?_
      show MC _ _ _ _ _ _ _
      refine MC.region ?_
      refine MO.op (v := (Value.int .i64 (wr (x11_5 + (1 : Int))))) (Nat.zero_le _) rfl (ev_bin (x := (Value.int .i64 x11_5)) (y := (Value.int .i64 (1 : Int))) q10 rfl int_add) rfl ?_
      refine MO.op (v := (Value.int .i64 (wr (x11_5 + (1 : Int))))) (Nat.zero_le _) rfl (ev_move rfl) rfl ?_
      refine MO.nil ?_
      refine Then.at ?_
      exact ⟨(x3_4, (wr (x11_5 + (1 : Int)))), ⟨q6, q7, q8, q9, rfl, hH11⟩, h⟩
  · rw [if_neg hc15] at h
    show MC _ _ _ _ _ _ _
    refine MC.condF (Eq.trans (b := Value.bool (decide (x11_5 < (p0_1.length : Int)))) rfl (congrArg Value.bool (decide_eq_false hc15))) ?_
    show MC _ _ _ _ _ _ _
    refine MC.exit ?_
    refine Then.exit ?_
    refine Then.exit ?_
    refine Block.exit ?_
    refine Then.at ?_
    show MC _ _ _ _ _ _ _
    refine MC.seq ?_
    show MC _ _ _ _ _ _ _
    refine MC.region ?_
    refine MO.op (v := (Value.int .i64 x3_4)) (Nat.zero_le _) rfl (ev_move q7) rfl ?_
    refine MO.op (v := (Value.int .i64 (wr (x3_4 + (64 : Int))))) (Nat.zero_le _) rfl (ev_bin (x := (Value.int .i64 x3_4)) (y := (Value.int .i64 (64 : Int))) rfl rfl int_add) rfl ?_
    refine MO.op (v := (Value.int .i64 (wr ((wr (x3_4 + (64 : Int))) - (1 : Int))))) (Nat.zero_le _) rfl (ev_bin (x := (Value.int .i64 (wr (x3_4 + (64 : Int))))) (y := (Value.int .i64 (1 : Int))) rfl rfl int_sub) rfl ?_
    refine MO.op (v := (Value.int .i64 (wr (Int.tdiv (wr ((wr (x3_4 + (64 : Int))) - (1 : Int))) (64 : Int))))) (Nat.zero_le _) rfl (ev_bin (x := (Value.int .i64 (wr ((wr (x3_4 + (64 : Int))) - (1 : Int))))) (y := (Value.int .i64 (64 : Int))) rfl rfl (int_quo (by decide))) rfl ?_
    obtain ⟨l19, e20, h⟩ := bind_some h
    refine MO.makeW (e := eW) (z := (0#64)) (Nat.zero_le _) rfl rfl rfl rfl Try.underlying25 et23 zr23 rfl e20 (by decide) hH11 rfl (by decide) fun v21 σ22 hH23 => ?_
    refine MO.op (v := v21) (Nat.zero_le _) rfl (ev_assign rfl) rfl ?_
    refine MO.nil ?_
    refine Then.at ?_
    show MC _ _ _ _ _ _ _
    refine MC.seq ?_
    show MC _ _ _ _ _ _ _
    refine MC.seq ?_
    show MC _ _ _ _ _ _ _
    refine MC.region ?_
    refine MO.op (v := (slv (eI .i64) p0_1)) (Nat.zero_le _) rfl (ev_move q6) rfl ?_
    refine MO.op (v := (Value.int .i64 (p0_1.length : Int))) (Nat.zero_le _) rfl (ev_len (x := (slv (eI .i64) p0_1)) rfl (len_still Try.underlying32 _ _)) rfl ?_
    refine MO.op (v := (Value.int .i64 (0 : Int))) (Nat.zero_le _) rfl (ev_move rfl) rfl ?_
    refine MO.nil ?_
    refine Then.at ?_
    show MC _ _ _ _ _ _ _
    refine MC.block ?_
    show MC _ _ _ _ _ _ _
    refine MC.loopK (fun (s : Int × (List (BitVec 64))) t σ => t 6 = v21 ∧ t 27 = (slv (eI .i64) p0_1) ∧ t 28 = (Value.int .i64 (p0_1.length : Int)) ∧ t 29 = (Value.int .i64 s.1) ∧ Hp σ [It.sl eW v21 s.2]) h ⟨rfl, rfl, rfl, rfl, hH23⟩ ?_
    rintro next46 ⟨x29_35, l36⟩ t σ ⟨q38, q39, q40, q41, hH42⟩ h
    try dsimp only at q38 q39 q40 q41 hH42
    unfold F_bitset_Of_b2 at h
    dsimp only at h
    show MC _ _ _ _ _ _ _
    refine MC.seq ?_
    show MC _ _ _ _ _ _ _
    refine MC.region ?_
    refine MO.op (v := (Value.bool (decide (x29_35 < (p0_1.length : Int))))) (Nat.zero_le _) rfl (ev_bin (x := (Value.int .i64 x29_35)) (y := (Value.int .i64 (p0_1.length : Int))) q41 q40 int_lss) rfl ?_
    refine MO.nil ?_
    refine Then.at ?_
    show MC _ _ _ _ _ _ _
    refine MC.seq ?_
    by_cases hc47 : x29_35 < (p0_1.length : Int)
    · rw [if_pos hc47] at h
      show MC _ _ _ _ _ _ _
      refine MC.condT (Eq.trans (b := Value.bool (decide (x29_35 < (p0_1.length : Int)))) rfl (congrArg Value.bool (decide_eq_true hc47))) ?_
      show MC _ _ _ _ _ _ _
      refine MC.skip ?_
      refine Then.at ?_
      show MC _ _ _ _ _ _ _
      refine MC.seq ?_
      show MC _ _ _ _ _ _ _
      refine MC.block ?_
      show MC _ _ _ _ _ _ _
      refine MC.seq ?_
      show MC _ _ _ _ _ _ _
      refine MC.region ?_
      obtain ⟨x48, e49, h⟩ := bind_some h
      refine MO.op (v := (ptv (eI .i64) x48)) (Nat.zero_le _) rfl (ev_indexAddr (x := (slv (eI .i64) p0_1)) (y := (Value.int .i64 x29_35)) q39 q41 (index_still ty3 Try.underlying32 (gx_some e49).1 (gx_some e49).2)) rfl ?_
      refine MO.op (v := (Value.int .i64 x48)) (Nat.zero_le _) rfl (ev_load (x := (ptv (eI .i64) x48)) rfl (load_still ty3 _ _)) rfl ?_
      refine MO.op (v := (Value.int .i64 x48)) (Nat.zero_le _) rfl (ev_assign rfl) rfl ?_
      refine MO.nil ?_
      refine Then.at ?_
      show MC _ _ _ _ _ _ _
      refine MC.seq ?_
      show MC _ _ _ _ _ _ _
      refine MC.region ?_
      refine MO.op (v := (Value.int .i64 x48)) (Nat.zero_le _) rfl (ev_move rfl) rfl ?_
      refine MO.op (v := (Value.bool (decide ((0 : Int) ≤ x48)))) (Nat.zero_le _) rfl (ev_bin (x := (Value.int .i64 x48)) (y := (Value.int .i64 (0 : Int))) rfl rfl int_geq) rfl ?_
      refine MO.op (v := (Value.bool (decide ((0 : Int) ≤ x48)))) (Nat.zero_le _) rfl (ev_move rfl) rfl ?_
      by_cases hc50 : (0 : Int) ≤ x48
      · rw [if_pos hc50] at h
        refine MO.op (v := (Value.int .i64 x48)) (Nat.zero_le _) (want_yes (q := true) rfl rfl (Eq.trans (b := Value.bool (decide ((0 : Int) ≤ x48))) rfl (congrArg Value.bool (decide_eq_true hc50))) rfl) (ev_move rfl) rfl ?_
        refine MO.op (v := (Value.bool (decide (x48 < (4096 : Int))))) (Nat.zero_le _) (want_yes (q := true) rfl rfl (Eq.trans (b := Value.bool (decide ((0 : Int) ≤ x48))) rfl (congrArg Value.bool (decide_eq_true hc50))) rfl) (ev_bin (x := (Value.int .i64 x48)) (y := (Value.int .i64 (4096 : Int))) rfl rfl int_lss) rfl ?_
        refine MO.op (v := (Value.bool (decide (x48 < (4096 : Int))))) (Nat.zero_le _) rfl (ev_pickT (Eq.trans (b := Value.bool (decide ((0 : Int) ≤ x48))) rfl (congrArg Value.bool (decide_eq_true hc50))) rfl) rfl ?_
        refine MO.nil ?_
        refine Then.at ?_
        by_cases hc51 : x48 < (4096 : Int)
        · rw [if_pos hc51] at h
          show MC _ _ _ _ _ _ _
          refine MC.condT (Eq.trans (b := Value.bool (decide (x48 < (4096 : Int)))) rfl (congrArg Value.bool (decide_eq_true hc51))) ?_
          show MC _ _ _ _ _ _ _
          obtain ⟨x52, e53, h⟩ := bind_some h
          by_cases hc57 : 0 ≤ (Int.tmod x48 (64 : Int))
          rotate_left
          · rw [if_neg hc57] at h; cases h
          rw [if_pos hc57] at h
          obtain ⟨x58, e59, h⟩ := bind_some h
          refine MC.open (fr := [true, true, true, true, true, false, false, false, true, true, true]) [] ?_ mixed (Nat.zero_le _) (by kernel_rfl) (by kernel_rfl) ?_
          · intro e he; cases he
          refine DD.same (v := v21) rfl (fun n => ev_move q38) rfl ?_
          refine DD.same (v := (Value.int .i64 x48)) rfl (fun n => ev_move rfl) rfl ?_
          refine DD.same (v := (Value.int .i64 (wr (Int.tdiv x48 (64 : Int))))) rfl (fun n => ev_bin (x := (Value.int .i64 x48)) (y := (Value.int .i64 (64 : Int))) rfl rfl (int_quo (by decide))) rfl ?_
          obtain ⟨b54, o55, ha56, _⟩ := It.sl_at (hH42.at (i := 0) rfl) ty23 Try.underlying25 (k := .i64) (gx_some e53).1 (gx_some e53).2
          refine DD.same (v := (Value.pointer (some ⟨b54, o55, none⟩))) rfl (fun n => ev_indexAddr (x := v21) (y := (Value.int .i64 (wr (Int.tdiv x48 (64 : Int))))) rfl rfl ha56) rfl ?_
          refine DD.same (v := (w64 x52)) rfl (fun n => ev_load (x := (Value.pointer (some ⟨b54, o55 + 0, none⟩))) rfl (hH42.elLoad (e := eW) (ef := eW) (i := 0) (off := 0) (y := x52) rfl ty23 Try.underlying25 e53 ha56 ty23 rfl (fun _ => rfl))) rfl ?_
          refine DD.same (v := (Value.int .i64 x48)) rfl (fun n => ev_move rfl) rfl ?_
          refine DD.same (v := (Value.int .i64 (Int.tmod x48 (64 : Int)))) rfl (fun n => ev_bin (x := (Value.int .i64 x48)) (y := (Value.int .i64 (64 : Int))) rfl rfl (int_rem (by decide))) rfl ?_
          refine DD.same (v := (w64 ((1#64) <<< (Int.toNat (Int.tmod x48 (64 : Int)))))) rfl (fun n => ev_bin (x := (w64 (1#64))) (y := (Value.int .i64 (Int.tmod x48 (64 : Int)))) rfl rfl (word_shlw hc57)) rfl ?_
          refine DD.same (v := (w64 (x52 ||| ((1#64) <<< (Int.toNat (Int.tmod x48 (64 : Int))))))) rfl (fun n => ev_bin (x := (w64 x52)) (y := (w64 ((1#64) <<< (Int.toNat (Int.tmod x48 (64 : Int)))))) rfl rfl word_or) rfl ?_
          obtain ⟨b60, o61, ha62, _⟩ := It.sl_at (hH42.at (i := 0) rfl) ty23 Try.underlying25 (k := .i64) (gx_some e59).1 (gx_some e59).2
          refine DD.same (v := (Value.pointer (some ⟨b60, o61, none⟩))) rfl (fun n => ev_indexAddr (x := v21) (y := (Value.int .i64 (wr (Int.tdiv x48 (64 : Int))))) rfl rfl ha62) rfl ?_
          obtain ⟨σ63, hs64, hH65, _⟩ := hH42.elStore (e := eW) (ef := eW) (i := 0) (off := 0) (y := (x52 ||| ((1#64) <<< (Int.toNat (Int.tmod x48 (64 : Int)))))) (x' := (x52 ||| ((1#64) <<< (Int.toNat (Int.tmod x48 (64 : Int)))))) rfl ty23 Try.underlying25 e59 ha62 ty23 (by decide) rfl
          change Hp _ [It.sl eW v21 (List.set l36 (Int.toNat (wr (Int.tdiv x48 (64 : Int)))) (x52 ||| ((1#64) <<< (Int.toNat (Int.tmod x48 (64 : Int))))))] at hH65
          refine DD.freeM rfl (ev_store (x := (Value.pointer (some ⟨b60, o61 + 0, none⟩))) (y := (w64 (x52 ||| ((1#64) <<< (Int.toNat (Int.tmod x48 (64 : Int))))))) rfl rfl hs64) rfl ?_
          refine DD.nil ?_
          refine Block.at ?_
          refine Then.at ?_
          show MC _ _ _ _ _ _ _
          refine MC.region ?_
          refine MO.op (v := (Value.int .i64 (wr (x29_35 + (1 : Int))))) (Nat.zero_le _) rfl (ev_bin (x := (Value.int .i64 x29_35)) (y := (Value.int .i64 (1 : Int))) q41 rfl int_add) rfl ?_
          refine MO.op (v := (Value.int .i64 (wr (x29_35 + (1 : Int))))) (Nat.zero_le _) rfl (ev_move rfl) rfl ?_
          refine MO.nil ?_
          refine Then.at ?_
          exact ⟨((wr (x29_35 + (1 : Int))), (List.set l36 (Int.toNat (wr (Int.tdiv x48 (64 : Int)))) (x52 ||| ((1#64) <<< (Int.toNat (Int.tmod x48 (64 : Int))))))), ⟨q38, q39, q40, rfl, hH65⟩, h⟩
        · rw [if_neg hc51] at h
          show MC _ _ _ _ _ _ _
          refine MC.condF (Eq.trans (b := Value.bool (decide (x48 < (4096 : Int)))) rfl (congrArg Value.bool (decide_eq_false hc51))) ?_
          show MC _ _ _ _ _ _ _
          refine MC.skip ?_
          refine Block.at ?_
          refine Then.at ?_
          show MC _ _ _ _ _ _ _
          refine MC.region ?_
          refine MO.op (v := (Value.int .i64 (wr (x29_35 + (1 : Int))))) (Nat.zero_le _) rfl (ev_bin (x := (Value.int .i64 x29_35)) (y := (Value.int .i64 (1 : Int))) q41 rfl int_add) rfl ?_
          refine MO.op (v := (Value.int .i64 (wr (x29_35 + (1 : Int))))) (Nat.zero_le _) rfl (ev_move rfl) rfl ?_
          refine MO.nil ?_
          refine Then.at ?_
          exact ⟨((wr (x29_35 + (1 : Int))), l36), ⟨q38, q39, q40, rfl, hH42⟩, h⟩
      · rw [if_neg hc50] at h
        refine MO.skip (want_no (q := false) rfl rfl (Eq.trans (b := Value.bool (decide ((0 : Int) ≤ x48))) rfl (congrArg Value.bool (decide_eq_false hc50))) rfl) rfl ?_
        refine MO.skip (want_no (q := false) rfl rfl (Eq.trans (b := Value.bool (decide ((0 : Int) ≤ x48))) rfl (congrArg Value.bool (decide_eq_false hc50))) rfl) rfl ?_
        refine MO.op (v := (Value.bool false)) (Nat.zero_le _) rfl (ev_pickF (Eq.trans (b := Value.bool (decide ((0 : Int) ≤ x48))) rfl (congrArg Value.bool (decide_eq_false hc50))) rfl) rfl ?_
        refine MO.nil ?_
        refine Then.at ?_
        show MC _ _ _ _ _ _ _
        refine MC.condF rfl ?_
        show MC _ _ _ _ _ _ _
        refine MC.skip ?_
        refine Block.at ?_
        refine Then.at ?_
        show MC _ _ _ _ _ _ _
        refine MC.region ?_
        refine MO.op (v := (Value.int .i64 (wr (x29_35 + (1 : Int))))) (Nat.zero_le _) rfl (ev_bin (x := (Value.int .i64 x29_35)) (y := (Value.int .i64 (1 : Int))) q41 rfl int_add) rfl ?_
        refine MO.op (v := (Value.int .i64 (wr (x29_35 + (1 : Int))))) (Nat.zero_le _) rfl (ev_move rfl) rfl ?_
        refine MO.nil ?_
        refine Then.at ?_
        exact ⟨((wr (x29_35 + (1 : Int))), l36), ⟨q38, q39, q40, rfl, hH42⟩, h⟩
    · rw [if_neg hc47] at h
      show MC _ _ _ _ _ _ _
      refine MC.condF (Eq.trans (b := Value.bool (decide (x29_35 < (p0_1.length : Int)))) rfl (congrArg Value.bool (decide_eq_false hc47))) ?_
      show MC _ _ _ _ _ _ _
      refine MC.exit ?_
      refine Then.exit ?_
      refine Then.exit ?_
      refine Block.exit ?_
      refine Then.at ?_
      show MC _ _ _ _ _ _ _
      refine MC.seq ?_
      show MC _ _ _ _ _ _ _
      refine MC.region ?_
      refine MO.op (v := v21) (Nat.zero_le _) rfl (ev_move q38) rfl ?_
      obtain ⟨r69, e70, h⟩ := bind_some h
      refine MO.still (e := eW) (i := 0) hH42 rfl [6, 50] (by simp only [List.mem_cons, List.not_mem_nil, or_false, forall_eq_or_imp, forall_eq]; exact ⟨q38, rfl⟩) fun σ67 hH66 hz68 => ?_
      change Hp _ [] at hH66
      refine MO.pureW (v := (slv eW r69)) (vs := [(slv eW l36)]) (as' := [(slv eW l36)]) (Nat.zero_le _) rfl rfl (callee_of rfl (args_cons rfl args_nil)) (LWk.cons (Wk.same _) LWk.nil) (F_bitset_short.ok e70) rfl ?_
      refine MO.op (v := (slv eW r69)) (Nat.zero_le _) rfl (ev_assign rfl) rfl ?_
      refine MO.nil ?_
      refine Then.at ?_
      show MC _ _ _ _ _ _ _
      refine MC.ret ?_
      obtain rfl := Option.some.inj h
      exact ⟨.inr rfl, _, (res_cons (res_tmp rfl) res_nil), rfl⟩
noncomputable def F_sketch_Of_b1 (p0_1 : (List Int)) (p1_2 : (BitVec 64)) (p2_3 : Int) (next34 : (Int × (List Int) → Option ((List (BitVec 64))))) : Int × (List Int) → Option ((List (BitVec 64)))
  | (x12_20, l21) =>
    if x12_20 < (min (max p2_3 (0 : Int)) (4096 : Int)) then
      Option.bind (F_sketch_above p0_1 p1_2 x12_20) fun r36 =>
      if r36 = true then
        Option.bind (app 8 l21 [x12_20]) fun l44 =>
        next34 ((wr (x12_20 + (1 : Int))), l44)
      else
        next34 ((wr (x12_20 + (1 : Int))), l21)
    else
      Option.bind (F_bitset_Of l21) fun r54 =>
      some (r54)
noncomputable def F_sketch_Of (p0_1 : (List Int)) (p1_2 : (BitVec 64)) (p2_3 : Int) : Option ((List (BitVec 64))) :=
  loopK (F_sketch_Of_b1 p0_1 p1_2 p2_3) fuel ((0 : Int), ([] : (List Int)))
theorem F_sketch_Of.ok {p0_1 : (List Int)} {p1_2 : (BitVec 64)} {p2_3 : Int} {r : ((List (BitVec 64)))} (h : F_sketch_Of p0_1 p1_2 p2_3 = some r) : Pure Try.prog 11 [(slv (eI .i32) p0_1), (w64 p1_2), (Value.int .i64 p2_3)] (slv eW r) := by
  unfold F_sketch_Of at h
  refine ⟨(.cons (slv_flat _ _) (.cons (.prim rfl) (.cons (.prim rfl) .nil))), (slv_flat _ _), Fn.enter Try.func11 (by kernel_rfl) rfl (of_decide_eq_true rfl) ?_⟩
  have hH : Hp ⟨0, []⟩ [] := Hp.nil (Nat.le_refl _)
  show MC _ _ _ _ _ _ _
  refine MC.seq ?_
  show MC _ _ _ _ _ _ _
  refine MC.region ?_
  have hH4 := hH.nilSl eW
  refine MO.op (v := (Value.slice none 0 0)) (Nat.zero_le _) rfl (ev_assign rfl) rfl ?_
  refine MO.nil ?_
  refine Then.at ?_
  show MC _ _ _ _ _ _ _
  refine MC.seq ?_
  show MC _ _ _ _ _ _ _
  refine MC.region ?_
  have hH6 := hH4.nilSl (eI .i64)
  refine MO.op (v := (Value.slice none 0 0)) (Nat.zero_le _) rfl (ev_assign rfl) rfl ?_
  refine MO.nil ?_
  refine Then.at ?_
  show MC _ _ _ _ _ _ _
  refine MC.seq ?_
  show MC _ _ _ _ _ _ _
  refine MC.seq ?_
  show MC _ _ _ _ _ _ _
  refine MC.region ?_
  refine MO.op (v := (Value.int .i64 p2_3)) (Nat.zero_le _) rfl (ev_move rfl) rfl ?_
  refine MO.op (v := (Value.int .i64 (max p2_3 (0 : Int)))) (Nat.zero_le _) rfl (ev_max (x := (Value.int .i64 p2_3)) (y := (Value.int .i64 (0 : Int))) rfl rfl max_two) rfl ?_
  refine MO.op (v := (Value.int .i64 (min (max p2_3 (0 : Int)) (4096 : Int)))) (Nat.zero_le _) rfl (ev_min (x := (Value.int .i64 (max p2_3 (0 : Int)))) (y := (Value.int .i64 (4096 : Int))) rfl rfl min_two) rfl ?_
  refine MO.op (v := (Value.int .i64 (0 : Int))) (Nat.zero_le _) rfl (ev_move rfl) rfl ?_
  refine MO.nil ?_
  refine Then.at ?_
  show MC _ _ _ _ _ _ _
  refine MC.block ?_
  show MC _ _ _ _ _ _ _
  refine MC.loopK (fun (s : Int × (List Int)) t σ => ∃ (v23 : Value), t 0 = (slv (eI .i32) p0_1) ∧ t 1 = (w64 p1_2) ∧ t 7 = v23 ∧ t 11 = (Value.int .i64 (min (max p2_3 (0 : Int)) (4096 : Int))) ∧ t 12 = (Value.int .i64 s.1) ∧ Hp σ [It.sl (eI .i64) v23 s.2]) h ⟨(Value.slice none 0 0), rfl, rfl, rfl, rfl, rfl, (hH6.sub (.cons_cons _ (.cons _ .slnil)))⟩ ?_
  rintro next34 ⟨x12_20, l21⟩ t σ ⟨v23, q24, q25, q26, q27, q28, hH29⟩ h
  try dsimp only at q24 q25 q26 q27 q28 hH29
  unfold F_sketch_Of_b1 at h
  dsimp only at h
  show MC _ _ _ _ _ _ _
  refine MC.seq ?_
  show MC _ _ _ _ _ _ _
  refine MC.region ?_
  refine MO.op (v := (Value.bool (decide (x12_20 < (min (max p2_3 (0 : Int)) (4096 : Int)))))) (Nat.zero_le _) rfl (ev_bin (x := (Value.int .i64 x12_20)) (y := (Value.int .i64 (min (max p2_3 (0 : Int)) (4096 : Int)))) q28 q27 int_lss) rfl ?_
  refine MO.nil ?_
  refine Then.at ?_
  show MC _ _ _ _ _ _ _
  refine MC.seq ?_
  by_cases hc35 : x12_20 < (min (max p2_3 (0 : Int)) (4096 : Int))
  · rw [if_pos hc35] at h
    show MC _ _ _ _ _ _ _
    refine MC.condT (Eq.trans (b := Value.bool (decide (x12_20 < (min (max p2_3 (0 : Int)) (4096 : Int))))) rfl (congrArg Value.bool (decide_eq_true hc35))) ?_
    show MC _ _ _ _ _ _ _
    refine MC.skip ?_
    refine Then.at ?_
    show MC _ _ _ _ _ _ _
    refine MC.seq ?_
    show MC _ _ _ _ _ _ _
    refine MC.block ?_
    show MC _ _ _ _ _ _ _
    refine MC.seq ?_
    show MC _ _ _ _ _ _ _
    refine MC.region ?_
    refine MO.op (v := (Value.int .i64 x12_20)) (Nat.zero_le _) rfl (ev_move q28) rfl ?_
    refine MO.op (v := (Value.int .i64 x12_20)) (Nat.zero_le _) rfl (ev_assign rfl) rfl ?_
    refine MO.nil ?_
    refine Then.at ?_
    show MC _ _ _ _ _ _ _
    refine MC.seq ?_
    show MC _ _ _ _ _ _ _
    refine MC.region ?_
    refine MO.op (v := (slv (eI .i32) p0_1)) (Nat.zero_le _) rfl (ev_move q24) rfl ?_
    refine MO.op (v := (w64 p1_2)) (Nat.zero_le _) rfl (ev_move q25) rfl ?_
    refine MO.op (v := (Value.int .i64 x12_20)) (Nat.zero_le _) rfl (ev_move rfl) rfl ?_
    obtain ⟨r36, e37, h⟩ := bind_some h
    refine MO.pureW (v := (Value.bool r36)) (vs := [(slv (eI .i32) p0_1), (w64 p1_2), (Value.int .i64 x12_20)]) (as' := [(slv (eI .i32) p0_1), (w64 p1_2), (Value.int .i64 x12_20)]) (Nat.zero_le _) rfl rfl (callee_of rfl (args_cons rfl (args_cons rfl (args_cons rfl args_nil)))) (LWk.cons (Wk.same _) (LWk.cons (Wk.same _) (LWk.cons (Wk.same _) LWk.nil))) (F_sketch_above.ok e37) rfl ?_
    refine MO.nil ?_
    refine Then.at ?_
    by_cases hc38 : r36 = true
    · rw [if_pos hc38] at h
      show MC _ _ _ _ _ _ _
      refine MC.condT (Eq.trans (b := Value.bool r36) rfl (congrArg Value.bool hc38)) ?_
      show MC _ _ _ _ _ _ _
      refine MC.region ?_
      refine MO.op (v := v23) (Nat.zero_le _) rfl (ev_move q26) rfl ?_
      refine MO.op (v := (Value.int .i64 x12_20)) (Nat.zero_le _) rfl (ev_move rfl) rfl ?_
      obtain ⟨v39, σ40, ha41, hH42, _⟩ := hH29.lit (e := (eI .i64)) (t := 32) Try.underlying32 et3 zr3 rfl ([x12_20]) (Nat.le_of_ble_eq_true rfl) (ps := [(0, (Value.int .i64 x12_20))]) rfl
      refine MO.op (Nat.zero_le _) rfl (ev_buildSlice (qs := [(0, (Value.int .i64 x12_20))]) (parts_cons rfl parts_nil) ha41) rfl ?_
      obtain ⟨l44, e45, h⟩ := bind_some h
      obtain ⟨v46, σ47, ha48, hH49, _⟩ := hH42.app (e := (eI .i64)) (i := 1) rfl Try.underlying32 et3 (src_own (hH42.at (i := 0) rfl) ⟨_, Try.underlying32⟩) e45
      change Hp _ [It.sl (eI .i64) v39 [x12_20], It.sl (eI .i64) v46 l44] at hH49
      refine MO.op (Nat.zero_le _) rfl (ev_append (x := v23) (y := v39) rfl rfl ha48) rfl ?_
      refine MO.op (v := v46) (Nat.zero_le _) rfl (ev_assign rfl) rfl ?_
      refine MO.nil ?_
      refine Block.at ?_
      refine Then.at ?_
      show MC _ _ _ _ _ _ _
      refine MC.region ?_
      refine MO.op (v := (Value.int .i64 (wr (x12_20 + (1 : Int))))) (Nat.zero_le _) rfl (ev_bin (x := (Value.int .i64 x12_20)) (y := (Value.int .i64 (1 : Int))) q28 rfl int_add) rfl ?_
      refine MO.op (v := (Value.int .i64 (wr (x12_20 + (1 : Int))))) (Nat.zero_le _) rfl (ev_move rfl) rfl ?_
      refine MO.nil ?_
      refine Then.at ?_
      exact ⟨((wr (x12_20 + (1 : Int))), l44), ⟨v46, q24, q25, rfl, q27, rfl, (hH49.sub (.cons _ (.cons_cons _ .slnil)))⟩, h⟩
    · rw [if_neg hc38] at h
      show MC _ _ _ _ _ _ _
      refine MC.condF (Eq.trans (b := Value.bool r36) rfl (congrArg Value.bool (Bool.eq_false_iff.2 hc38))) ?_
      show MC _ _ _ _ _ _ _
      refine MC.skip ?_
      refine Block.at ?_
      refine Then.at ?_
      show MC _ _ _ _ _ _ _
      refine MC.region ?_
      refine MO.op (v := (Value.int .i64 (wr (x12_20 + (1 : Int))))) (Nat.zero_le _) rfl (ev_bin (x := (Value.int .i64 x12_20)) (y := (Value.int .i64 (1 : Int))) q28 rfl int_add) rfl ?_
      refine MO.op (v := (Value.int .i64 (wr (x12_20 + (1 : Int))))) (Nat.zero_le _) rfl (ev_move rfl) rfl ?_
      refine MO.nil ?_
      refine Then.at ?_
      exact ⟨((wr (x12_20 + (1 : Int))), l21), ⟨v23, q24, q25, q26, q27, rfl, hH29⟩, h⟩
  · rw [if_neg hc35] at h
    show MC _ _ _ _ _ _ _
    refine MC.condF (Eq.trans (b := Value.bool (decide (x12_20 < (min (max p2_3 (0 : Int)) (4096 : Int))))) rfl (congrArg Value.bool (decide_eq_false hc35))) ?_
    show MC _ _ _ _ _ _ _
    refine MC.exit ?_
    refine Then.exit ?_
    refine Then.exit ?_
    refine Block.exit ?_
    refine Then.at ?_
    show MC _ _ _ _ _ _ _
    refine MC.seq ?_
    show MC _ _ _ _ _ _ _
    refine MC.region ?_
    refine MO.op (v := v23) (Nat.zero_le _) rfl (ev_move q26) rfl ?_
    obtain ⟨r54, e55, h⟩ := bind_some h
    refine MO.still (e := (eI .i64)) (i := 0) hH29 rfl [7, 24] (by simp only [List.mem_cons, List.not_mem_nil, or_false, forall_eq_or_imp, forall_eq]; exact ⟨q26, rfl⟩) fun σ52 hH51 hz53 => ?_
    change Hp _ [] at hH51
    refine MO.pureW (v := (slv eW r54)) (vs := [(slv (eI .i64) l21)]) (as' := [(slv (eI .i64) l21)]) (Nat.zero_le _) rfl rfl (callee_of rfl (args_cons rfl args_nil)) (LWk.cons (Wk.same _) LWk.nil) (F_bitset_Of.ok e55) rfl ?_
    refine MO.op (v := (slv eW r54)) (Nat.zero_le _) rfl (ev_assign rfl) rfl ?_
    refine MO.nil ?_
    refine Then.at ?_
    show MC _ _ _ _ _ _ _
    refine MC.ret ?_
    obtain rfl := Option.some.inj h
    exact ⟨.inr rfl, _, (res_cons (res_tmp rfl) res_nil), rfl⟩
noncomputable def F_bitset_cut (p0_1 : (List (BitVec 64))) : Option ((List (BitVec 64))) :=
  Option.bind (cut p0_1 (lo? none) (hi? p0_1 (some (min (p0_1.length : Int) (64 : Int))))) fun l4 =>
  some (l4)
theorem F_bitset_cut.ok {p0_1 : (List (BitVec 64))} {r : ((List (BitVec 64)))} (h : F_bitset_cut p0_1 = some r) : Pure Try.prog 30 [(slv eW p0_1)] (slv eW r) := by
  unfold F_bitset_cut at h
  refine ⟨(.cons (slv_flat _ _) .nil), (slv_flat _ _), Fn.enter Try.func30 (by kernel_rfl) rfl (of_decide_eq_true rfl) ?_⟩
  have hH : Hp ⟨0, []⟩ [] := Hp.nil (Nat.le_refl _)
  show MC _ _ _ _ _ _ _
  refine MC.seq ?_
  show MC _ _ _ _ _ _ _
  refine MC.region ?_
  have hH2 := hH.nilSl eW
  refine MO.op (v := (Value.slice none 0 0)) (Nat.zero_le _) rfl (ev_assign rfl) rfl ?_
  refine MO.nil ?_
  refine Then.at ?_
  show MC _ _ _ _ _ _ _
  refine MC.seq ?_
  show MC _ _ _ _ _ _ _
  refine MC.region ?_
  refine MO.op (v := (slv eW p0_1)) (Nat.zero_le _) rfl (ev_move rfl) rfl ?_
  refine MO.op (v := (slv eW p0_1)) (Nat.zero_le _) rfl (ev_move rfl) rfl ?_
  refine MO.op (v := (Value.int .i64 (p0_1.length : Int))) (Nat.zero_le _) rfl (ev_len (x := (slv eW p0_1)) rfl (len_still Try.underlying25 _ _)) rfl ?_
  refine MO.op (v := (Value.int .i64 (min (p0_1.length : Int) (64 : Int)))) (Nat.zero_le _) rfl (ev_min (x := (Value.int .i64 (p0_1.length : Int))) (y := (Value.int .i64 (64 : Int))) rfl rfl min_two) rfl ?_
  obtain ⟨l4, e5, h⟩ := bind_some h
  refine MO.op (v := (slv eW l4)) (Nat.zero_le _) rfl (ev_slice (x := (slv eW p0_1)) (a := Option.map (Value.int .i64) none) (b := Option.map (Value.int .i64) (some (min (p0_1.length : Int) (64 : Int)))) rfl rfl rfl rfl (cut_still ty23 Try.underlying25 e5 _)) rfl ?_
  refine MO.op (v := (slv eW l4)) (Nat.zero_le _) rfl (ev_assign rfl) rfl ?_
  refine MO.nil ?_
  refine Then.at ?_
  show MC _ _ _ _ _ _ _
  refine MC.ret ?_
  obtain rfl := Option.some.inj h
  exact ⟨.inr rfl, _, (res_cons (res_tmp rfl) res_nil), rfl⟩
noncomputable def F_bitset_both_1 (p0_1 : (List (BitVec 64))) (p1_2 : Int) : Option ((BitVec 64)) :=
  if p1_2 < (p0_1.length : Int) then
    Option.bind (gx p0_1 p1_2) fun x4 =>
    some (x4)
  else
    some ((0#64))
theorem F_bitset_both_1.ok {p0_1 : (List (BitVec 64))} {p1_2 : Int} {r : ((BitVec 64))} (h : F_bitset_both_1 p0_1 p1_2 = some r) : Pure Try.prog 41 [(slv eW p0_1), (Value.int .i64 p1_2)] (w64 r) := by
  unfold F_bitset_both_1 at h
  refine ⟨(.cons (slv_flat _ _) (.cons (.prim rfl) .nil)), (.prim rfl), Fn.enter Try.func41 (by kernel_rfl) rfl (of_decide_eq_true rfl) ?_⟩
  have hH : Hp ⟨0, []⟩ [] := Hp.nil (Nat.le_refl _)
  show MC _ _ _ _ _ _ _
  refine MC.seq ?_
  show MC _ _ _ _ _ _ _
  refine MC.region ?_
  refine MO.op (v := (w64 (0#64))) (Nat.zero_le _) rfl (ev_assign rfl) rfl ?_
  refine MO.nil ?_
  refine Then.at ?_
  show MC _ _ _ _ _ _ _
  refine MC.seq ?_
  show MC _ _ _ _ _ _ _
  refine MC.seq ?_
  show MC _ _ _ _ _ _ _
  refine MC.region ?_
  refine MO.op (v := (Value.int .i64 p1_2)) (Nat.zero_le _) rfl (ev_move rfl) rfl ?_
  refine MO.op (v := (slv eW p0_1)) (Nat.zero_le _) rfl (ev_move rfl) rfl ?_
  refine MO.op (v := (Value.int .i64 (p0_1.length : Int))) (Nat.zero_le _) rfl (ev_len (x := (slv eW p0_1)) rfl (len_still Try.underlying25 _ _)) rfl ?_
  refine MO.op (v := (Value.bool (decide (p1_2 < (p0_1.length : Int))))) (Nat.zero_le _) rfl (ev_bin (x := (Value.int .i64 p1_2)) (y := (Value.int .i64 (p0_1.length : Int))) rfl rfl int_lss) rfl ?_
  refine MO.nil ?_
  refine Then.at ?_
  by_cases hc3 : p1_2 < (p0_1.length : Int)
  · rw [if_pos hc3] at h
    show MC _ _ _ _ _ _ _
    refine MC.condT (Eq.trans (b := Value.bool (decide (p1_2 < (p0_1.length : Int)))) rfl (congrArg Value.bool (decide_eq_true hc3))) ?_
    show MC _ _ _ _ _ _ _
    refine MC.seq ?_
    show MC _ _ _ _ _ _ _
    refine MC.region ?_
    refine MO.op (v := (slv eW p0_1)) (Nat.zero_le _) rfl (ev_move rfl) rfl ?_
    refine MO.op (v := (Value.int .i64 p1_2)) (Nat.zero_le _) rfl (ev_move rfl) rfl ?_
    obtain ⟨x4, e5, h⟩ := bind_some h
    refine MO.op (v := (ptv eW x4)) (Nat.zero_le _) rfl (ev_indexAddr (x := (slv eW p0_1)) (y := (Value.int .i64 p1_2)) rfl rfl (index_still ty23 Try.underlying25 (gx_some e5).1 (gx_some e5).2)) rfl ?_
    refine MO.op (v := (w64 x4)) (Nat.zero_le _) rfl (ev_load (x := (ptv eW x4)) rfl (load_still ty23 _ _)) rfl ?_
    refine MO.op (v := (w64 x4)) (Nat.zero_le _) rfl (ev_assign rfl) rfl ?_
    refine MO.nil ?_
    refine Then.at ?_
    show MC _ _ _ _ _ _ _
    refine MC.ret ?_
    refine Then.ret ?_
    obtain rfl := Option.some.inj h
    exact ⟨.inr rfl, _, (res_cons (res_tmp rfl) res_nil), rfl⟩
  · rw [if_neg hc3] at h
    show MC _ _ _ _ _ _ _
    refine MC.condF (Eq.trans (b := Value.bool (decide (p1_2 < (p0_1.length : Int)))) rfl (congrArg Value.bool (decide_eq_false hc3))) ?_
    show MC _ _ _ _ _ _ _
    refine MC.skip ?_
    refine Then.at ?_
    show MC _ _ _ _ _ _ _
    refine MC.seq ?_
    show MC _ _ _ _ _ _ _
    refine MC.region ?_
    refine MO.op (v := (w64 (0#64))) (Nat.zero_le _) rfl (ev_assign rfl) rfl ?_
    refine MO.nil ?_
    refine Then.at ?_
    show MC _ _ _ _ _ _ _
    refine MC.ret ?_
    obtain rfl := Option.some.inj h
    exact ⟨.inr rfl, _, (res_cons (res_tmp rfl) res_nil), rfl⟩
noncomputable def F_bitset_Less_1 (p0_1 : (BitVec 64)) (p1_2 : (BitVec 64)) : Option ((BitVec 64)) :=
  some ((p0_1 &&& ~~~p1_2))
theorem F_bitset_Less_1.ok {p0_1 : (BitVec 64)} {p1_2 : (BitVec 64)} {r : ((BitVec 64))} (h : F_bitset_Less_1 p0_1 p1_2 = some r) : Pure Try.prog 34 [(w64 p0_1), (w64 p1_2)] (w64 r) := by
  unfold F_bitset_Less_1 at h
  refine ⟨(.cons (.prim rfl) (.cons (.prim rfl) .nil)), (.prim rfl), Fn.enter Try.func34 (by kernel_rfl) rfl (of_decide_eq_true rfl) ?_⟩
  have hH : Hp ⟨0, []⟩ [] := Hp.nil (Nat.le_refl _)
  show MC _ _ _ _ _ _ _
  refine MC.seq ?_
  show MC _ _ _ _ _ _ _
  refine MC.region ?_
  refine MO.op (v := (w64 (0#64))) (Nat.zero_le _) rfl (ev_assign rfl) rfl ?_
  refine MO.nil ?_
  refine Then.at ?_
  show MC _ _ _ _ _ _ _
  refine MC.seq ?_
  show MC _ _ _ _ _ _ _
  refine MC.region ?_
  refine MO.op (v := (w64 p0_1)) (Nat.zero_le _) rfl (ev_move rfl) rfl ?_
  refine MO.op (v := (w64 p1_2)) (Nat.zero_le _) rfl (ev_move rfl) rfl ?_
  refine MO.op (v := (w64 (p0_1 &&& ~~~p1_2))) (Nat.zero_le _) rfl (ev_bin (x := (w64 p0_1)) (y := (w64 p1_2)) rfl rfl word_andNot) rfl ?_
  refine MO.op (v := (w64 (p0_1 &&& ~~~p1_2))) (Nat.zero_le _) rfl (ev_assign rfl) rfl ?_
  refine MO.nil ?_
  refine Then.at ?_
  show MC _ _ _ _ _ _ _
  refine MC.ret ?_
  obtain rfl := Option.some.inj h
  exact ⟨.inr rfl, _, (res_cons (res_tmp rfl) res_nil), rfl⟩
noncomputable def F_bitset_both_bitset_Less_1_b1 (r5 : (List (BitVec 64))) (r7 : (List (BitVec 64))) (l9 : (List (BitVec 64))) (next42 : (Int × (List (BitVec 64)) → Option ((List (BitVec 64))))) : Int × (List (BitVec 64)) → Option ((List (BitVec 64)))
  | (x22_28, l29) =>
    if x22_28 < (l9.length : Int) then
      Option.bind (F_bitset_both_1 r5 x22_28) fun r44 =>
      Option.bind (F_bitset_both_1 r7 x22_28) fun r46 =>
      Option.bind (F_bitset_Less_1 r44 r46) fun r48 =>
      Option.bind (gx l29 x22_28) fun x50 =>
      next42 ((wr (x22_28 + (1 : Int))), (List.set l29 (Int.toNat x22_28) r48))
    else
      Option.bind (F_bitset_short l29) fun r61 =>
      some (r61)
noncomputable def F_bitset_both_bitset_Less_1 (p0_1 : (List (BitVec 64))) (p1_2 : (List (BitVec 64))) : Option ((List (BitVec 64))) :=
  Option.bind (F_bitset_cut p0_1) fun r5 =>
  Option.bind (F_bitset_cut p1_2) fun r7 =>
  Option.bind (mkn (max (r5.length : Int) (r7.length : Int)) (0#64)) fun l9 =>
  loopK (F_bitset_both_bitset_Less_1_b1 r5 r7 l9) fuel ((0 : Int), l9)
theorem F_bitset_both_bitset_Less_1.ok {p0_1 : (List (BitVec 64))} {p1_2 : (List (BitVec 64))} {r : ((List (BitVec 64)))} (h : F_bitset_both_bitset_Less_1 p0_1 p1_2 = some r) : Pure Try.prog 32 [(slv eW p0_1), (slv eW p1_2), (Value.func (.func 34) #[] #[])] (slv eW r) := by
  unfold F_bitset_both_bitset_Less_1 at h
  refine ⟨(.cons (slv_flat _ _) (.cons (slv_flat _ _) (.cons (Flat.fn (by simp) (by simp)) .nil))), (slv_flat _ _), Fn.enter Try.func32 (by kernel_rfl) rfl (of_decide_eq_true rfl) ?_⟩
  have hH : Hp ⟨0, []⟩ [] := Hp.nil (Nat.le_refl _)
  show MC _ _ _ _ _ _ _
  refine MC.seq ?_
  show MC _ _ _ _ _ _ _
  refine MC.region ?_
  have hH3 := hH.nilSl eW
  refine MO.op (v := (Value.slice none 0 0)) (Nat.zero_le _) rfl (ev_assign rfl) rfl ?_
  refine MO.nil ?_
  refine Then.at ?_
  show MC _ _ _ _ _ _ _
  refine MC.seq ?_
  show MC _ _ _ _ _ _ _
  refine MC.region ?_
  refine MO.op (v := (slv eW p0_1)) (Nat.zero_le _) rfl (ev_move rfl) rfl ?_
  obtain ⟨r5, e6, h⟩ := bind_some h
  refine MO.pureW (v := (slv eW r5)) (vs := [(slv eW p0_1)]) (as' := [(slv eW p0_1)]) (Nat.zero_le _) rfl rfl (callee_of rfl (args_cons rfl args_nil)) (LWk.cons (Wk.same _) LWk.nil) (F_bitset_cut.ok e6) rfl ?_
  refine MO.op (v := (slv eW p1_2)) (Nat.zero_le _) rfl (ev_move rfl) rfl ?_
  obtain ⟨r7, e8, h⟩ := bind_some h
  refine MO.pureW (v := (slv eW r7)) (vs := [(slv eW p1_2)]) (as' := [(slv eW p1_2)]) (Nat.zero_le _) rfl rfl (callee_of rfl (args_cons rfl args_nil)) (LWk.cons (Wk.same _) LWk.nil) (F_bitset_cut.ok e8) rfl ?_
  refine MO.op (v := (slv eW r5)) (Nat.zero_le _) rfl (ev_assign rfl) rfl ?_
  refine MO.op (v := (slv eW r7)) (Nat.zero_le _) rfl (ev_assign rfl) rfl ?_
  refine MO.nil ?_
  refine Then.at ?_
  show MC _ _ _ _ _ _ _
  refine MC.seq ?_
  show MC _ _ _ _ _ _ _
  refine MC.region ?_
  refine MO.op (v := (Value.func (.func 41) #[] #[])) (Nat.zero_le _) rfl (ev_assign rfl) rfl ?_
  refine MO.nil ?_
  refine Then.at ?_
  show MC _ _ _ _ _ _ _
  refine MC.seq ?_
  show MC _ _ _ _ _ _ _
  refine MC.region ?_
  refine MO.op (v := (slv eW r5)) (Nat.zero_le _) rfl (ev_move rfl) rfl ?_
  refine MO.op (v := (Value.int .i64 (r5.length : Int))) (Nat.zero_le _) rfl (ev_len (x := (slv eW r5)) rfl (len_still Try.underlying25 _ _)) rfl ?_
  refine MO.op (v := (slv eW r7)) (Nat.zero_le _) rfl (ev_move rfl) rfl ?_
  refine MO.op (v := (Value.int .i64 (r7.length : Int))) (Nat.zero_le _) rfl (ev_len (x := (slv eW r7)) rfl (len_still Try.underlying25 _ _)) rfl ?_
  refine MO.op (v := (Value.int .i64 (max (r5.length : Int) (r7.length : Int)))) (Nat.zero_le _) rfl (ev_max (x := (Value.int .i64 (r5.length : Int))) (y := (Value.int .i64 (r7.length : Int))) rfl rfl max_two) rfl ?_
  obtain ⟨l9, e10, h⟩ := bind_some h
  refine MO.makeW (e := eW) (z := (0#64)) (Nat.zero_le _) rfl rfl rfl rfl Try.underlying25 et23 zr23 rfl e10 (by decide) hH3 rfl (by decide) fun v11 σ12 hH13 => ?_
  refine MO.op (v := v11) (Nat.zero_le _) rfl (ev_assign rfl) rfl ?_
  refine MO.nil ?_
  refine Then.at ?_
  show MC _ _ _ _ _ _ _
  refine MC.seq ?_
  show MC _ _ _ _ _ _ _
  refine MC.seq ?_
  show MC _ _ _ _ _ _ _
  refine MC.region ?_
  refine MO.op (v := v11) (Nat.zero_le _) rfl (ev_move rfl) rfl ?_
  refine MO.op (v := (Value.int .i64 (l9.length : Int))) (Nat.zero_le _) rfl (ev_len (x := v11) rfl (It.sl_len (hH13.at (i := 0) rfl) Try.underlying25 _)) rfl ?_
  refine MO.op (v := (Value.int .i64 (0 : Int))) (Nat.zero_le _) rfl (ev_move rfl) rfl ?_
  refine MO.nil ?_
  refine Then.at ?_
  show MC _ _ _ _ _ _ _
  refine MC.block ?_
  show MC _ _ _ _ _ _ _
  refine MC.loopK (fun (s : Int × (List (BitVec 64))) t σ => t 0 = (slv eW r5) ∧ t 1 = (slv eW r7) ∧ t 2 = (Value.func (.func 34) #[] #[]) ∧ t 7 = (Value.func (.func 41) #[] #[]) ∧ t 8 = v11 ∧ t 21 = (Value.int .i64 (l9.length : Int)) ∧ t 22 = (Value.int .i64 s.1) ∧ Hp σ [It.sl eW v11 s.2]) h ⟨rfl, rfl, rfl, rfl, rfl, rfl, rfl, (hH13.sub (.cons_cons _ (.cons _ .slnil)))⟩ ?_
  rintro next42 ⟨x22_28, l29⟩ t σ ⟨q31, q32, q33, q34, q35, q36, q37, hH38⟩ h
  try dsimp only at q31 q32 q33 q34 q35 q36 q37 hH38
  unfold F_bitset_both_bitset_Less_1_b1 at h
  dsimp only at h
  show MC _ _ _ _ _ _ _
  refine MC.seq ?_
  show MC _ _ _ _ _ _ _
  refine MC.region ?_
  refine MO.op (v := (Value.bool (decide (x22_28 < (l9.length : Int))))) (Nat.zero_le _) rfl (ev_bin (x := (Value.int .i64 x22_28)) (y := (Value.int .i64 (l9.length : Int))) q37 q36 int_lss) rfl ?_
  refine MO.nil ?_
  refine Then.at ?_
  show MC _ _ _ _ _ _ _
  refine MC.seq ?_
  by_cases hc43 : x22_28 < (l9.length : Int)
  · rw [if_pos hc43] at h
    show MC _ _ _ _ _ _ _
    refine MC.condT (Eq.trans (b := Value.bool (decide (x22_28 < (l9.length : Int)))) rfl (congrArg Value.bool (decide_eq_true hc43))) ?_
    show MC _ _ _ _ _ _ _
    refine MC.skip ?_
    refine Then.at ?_
    show MC _ _ _ _ _ _ _
    refine MC.seq ?_
    show MC _ _ _ _ _ _ _
    refine MC.block ?_
    show MC _ _ _ _ _ _ _
    refine MC.seq ?_
    show MC _ _ _ _ _ _ _
    refine MC.region ?_
    refine MO.op (v := (Value.int .i64 x22_28)) (Nat.zero_le _) rfl (ev_move q37) rfl ?_
    refine MO.op (v := (Value.int .i64 x22_28)) (Nat.zero_le _) rfl (ev_assign rfl) rfl ?_
    refine MO.nil ?_
    refine Then.at ?_
    show MC _ _ _ _ _ _ _
    refine MC.region ?_
    refine MO.op (v := v11) (Nat.zero_le _) rfl (ev_move q35) rfl ?_
    refine MO.op (v := (Value.int .i64 x22_28)) (Nat.zero_le _) rfl (ev_move rfl) rfl ?_
    refine MO.op (v := (Value.func (.func 34) #[] #[])) (Nat.zero_le _) rfl (ev_move q33) rfl ?_
    refine MO.op (v := (Value.func (.func 41) #[] #[])) (Nat.zero_le _) rfl (ev_move q34) rfl ?_
    refine MO.op (v := (slv eW r5)) (Nat.zero_le _) rfl (ev_move q31) rfl ?_
    refine MO.op (v := (Value.int .i64 x22_28)) (Nat.zero_le _) rfl (ev_move rfl) rfl ?_
    obtain ⟨r44, e45, h⟩ := bind_some h
    refine MO.pureW (v := (w64 r44)) (vs := [(slv eW r5), (Value.int .i64 x22_28)]) (as' := [(slv eW r5), (Value.int .i64 x22_28)]) (Nat.zero_le _) rfl rfl (callee_of rfl (args_cons rfl (args_cons rfl args_nil))) (LWk.cons (Wk.same _) (LWk.cons (Wk.same _) LWk.nil)) (F_bitset_both_1.ok e45) rfl ?_
    refine MO.op (v := (Value.func (.func 41) #[] #[])) (Nat.zero_le _) rfl (ev_move q34) rfl ?_
    refine MO.op (v := (slv eW r7)) (Nat.zero_le _) rfl (ev_move q32) rfl ?_
    refine MO.op (v := (Value.int .i64 x22_28)) (Nat.zero_le _) rfl (ev_move rfl) rfl ?_
    obtain ⟨r46, e47, h⟩ := bind_some h
    refine MO.pureW (v := (w64 r46)) (vs := [(slv eW r7), (Value.int .i64 x22_28)]) (as' := [(slv eW r7), (Value.int .i64 x22_28)]) (Nat.zero_le _) rfl rfl (callee_of rfl (args_cons rfl (args_cons rfl args_nil))) (LWk.cons (Wk.same _) (LWk.cons (Wk.same _) LWk.nil)) (F_bitset_both_1.ok e47) rfl ?_
    obtain ⟨r48, e49, h⟩ := bind_some h
    refine MO.pureW (v := (w64 r48)) (vs := [(w64 r44), (w64 r46)]) (as' := [(w64 r44), (w64 r46)]) (Nat.zero_le _) rfl rfl (callee_of rfl (args_cons rfl (args_cons rfl args_nil))) (LWk.cons (Wk.same _) (LWk.cons (Wk.same _) LWk.nil)) (F_bitset_Less_1.ok e49) rfl ?_
    obtain ⟨x50, e51, h⟩ := bind_some h
    obtain ⟨b52, o53, ha54, _⟩ := It.sl_at (hH38.at (i := 0) rfl) ty23 Try.underlying25 (k := .i64) (gx_some e51).1 (gx_some e51).2
    refine MO.op (v := (Value.pointer (some ⟨b52, o53, none⟩))) (Nat.zero_le _) rfl (ev_indexAddr (x := v11) (y := (Value.int .i64 x22_28)) rfl rfl ha54) rfl ?_
    obtain ⟨σ55, hs56, hH57, _⟩ := hH38.elStore (e := eW) (ef := eW) (i := 0) (off := 0) (y := r48) (x' := r48) rfl ty23 Try.underlying25 e51 ha54 ty23 (by decide) rfl
    change Hp _ [It.sl eW v11 (List.set l29 (Int.toNat x22_28) r48)] at hH57
    refine MO.op (Nat.zero_le _) rfl (ev_store (x := (Value.pointer (some ⟨b52, o53 + 0, none⟩))) (y := (w64 r48)) rfl rfl hs56) rfl ?_
    refine MO.nil ?_
    refine Block.at ?_
    refine Then.at ?_
    show MC _ _ _ _ _ _ _
    refine MC.region ?_
    refine MO.op (v := (Value.int .i64 (wr (x22_28 + (1 : Int))))) (Nat.zero_le _) rfl (ev_bin (x := (Value.int .i64 x22_28)) (y := (Value.int .i64 (1 : Int))) q37 rfl int_add) rfl ?_
    refine MO.op (v := (Value.int .i64 (wr (x22_28 + (1 : Int))))) (Nat.zero_le _) rfl (ev_move rfl) rfl ?_
    refine MO.nil ?_
    refine Then.at ?_
    exact ⟨((wr (x22_28 + (1 : Int))), (List.set l29 (Int.toNat x22_28) r48)), ⟨q31, q32, q33, q34, q35, q36, rfl, hH57⟩, h⟩
  · rw [if_neg hc43] at h
    show MC _ _ _ _ _ _ _
    refine MC.condF (Eq.trans (b := Value.bool (decide (x22_28 < (l9.length : Int)))) rfl (congrArg Value.bool (decide_eq_false hc43))) ?_
    show MC _ _ _ _ _ _ _
    refine MC.exit ?_
    refine Then.exit ?_
    refine Then.exit ?_
    refine Block.exit ?_
    refine Then.at ?_
    show MC _ _ _ _ _ _ _
    refine MC.seq ?_
    show MC _ _ _ _ _ _ _
    refine MC.region ?_
    refine MO.op (v := v11) (Nat.zero_le _) rfl (ev_move q35) rfl ?_
    obtain ⟨r61, e62, h⟩ := bind_some h
    refine MO.still (e := eW) (i := 0) hH38 rfl [8, 39] (by simp only [List.mem_cons, List.not_mem_nil, or_false, forall_eq_or_imp, forall_eq]; exact ⟨q35, rfl⟩) fun σ59 hH58 hz60 => ?_
    change Hp _ [] at hH58
    refine MO.pureW (v := (slv eW r61)) (vs := [(slv eW l29)]) (as' := [(slv eW l29)]) (Nat.zero_le _) rfl rfl (callee_of rfl (args_cons rfl args_nil)) (LWk.cons (Wk.same _) LWk.nil) (F_bitset_short.ok e62) rfl ?_
    refine MO.op (v := (slv eW r61)) (Nat.zero_le _) rfl (ev_assign rfl) rfl ?_
    refine MO.nil ?_
    refine Then.at ?_
    show MC _ _ _ _ _ _ _
    refine MC.ret ?_
    obtain rfl := Option.some.inj h
    exact ⟨.inr rfl, _, (res_cons (res_tmp rfl) res_nil), rfl⟩
noncomputable def F_bitset_Less (p0_1 : (List (BitVec 64))) (p1_2 : (List (BitVec 64))) : Option ((List (BitVec 64))) :=
  Option.bind (F_bitset_both_bitset_Less_1 p0_1 p1_2) fun r5 =>
  some (r5)
theorem F_bitset_Less.ok {p0_1 : (List (BitVec 64))} {p1_2 : (List (BitVec 64))} {r : ((List (BitVec 64)))} (h : F_bitset_Less p0_1 p1_2 = some r) : Pure Try.prog 19 [(slv eW p0_1), (slv eW p1_2)] (slv eW r) := by
  unfold F_bitset_Less at h
  refine ⟨(.cons (slv_flat _ _) (.cons (slv_flat _ _) .nil)), (slv_flat _ _), Fn.enter Try.func19 (by kernel_rfl) rfl (of_decide_eq_true rfl) ?_⟩
  have hH : Hp ⟨0, []⟩ [] := Hp.nil (Nat.le_refl _)
  show MC _ _ _ _ _ _ _
  refine MC.seq ?_
  show MC _ _ _ _ _ _ _
  refine MC.region ?_
  have hH3 := hH.nilSl eW
  refine MO.op (v := (Value.slice none 0 0)) (Nat.zero_le _) rfl (ev_assign rfl) rfl ?_
  refine MO.nil ?_
  refine Then.at ?_
  show MC _ _ _ _ _ _ _
  refine MC.seq ?_
  show MC _ _ _ _ _ _ _
  refine MC.region ?_
  refine MO.op (v := (slv eW p0_1)) (Nat.zero_le _) rfl (ev_move rfl) rfl ?_
  refine MO.op (v := (slv eW p1_2)) (Nat.zero_le _) rfl (ev_move rfl) rfl ?_
  obtain ⟨r5, e6, h⟩ := bind_some h
  refine MO.pureW (v := (slv eW r5)) (vs := [(slv eW p0_1), (slv eW p1_2), (Value.func (.func 34) #[] #[])]) (as' := [(slv eW p0_1), (slv eW p1_2), (Value.func (.func 34) #[] #[])]) (Nat.zero_le _) rfl rfl (callee_of rfl (args_cons rfl (args_cons rfl (args_cons rfl args_nil)))) (LWk.cons (Wk.same _) (LWk.cons (Wk.same _) (LWk.cons (Wk.same _) LWk.nil))) (F_bitset_both_bitset_Less_1.ok e6) rfl ?_
  refine MO.op (v := (slv eW r5)) (Nat.zero_le _) rfl (ev_assign rfl) rfl ?_
  refine MO.nil ?_
  refine Then.at ?_
  show MC _ _ _ _ _ _ _
  refine MC.ret ?_
  obtain rfl := Option.some.inj h
  exact ⟨.inr rfl, _, (res_cons (res_tmp rfl) res_nil), rfl⟩
noncomputable def F_bitset_Union_1 (p0_1 : (BitVec 64)) (p1_2 : (BitVec 64)) : Option ((BitVec 64)) :=
  some ((p0_1 ||| p1_2))
theorem F_bitset_Union_1.ok {p0_1 : (BitVec 64)} {p1_2 : (BitVec 64)} {r : ((BitVec 64))} (h : F_bitset_Union_1 p0_1 p1_2 = some r) : Pure Try.prog 33 [(w64 p0_1), (w64 p1_2)] (w64 r) := by
  unfold F_bitset_Union_1 at h
  refine ⟨(.cons (.prim rfl) (.cons (.prim rfl) .nil)), (.prim rfl), Fn.enter Try.func33 (by kernel_rfl) rfl (of_decide_eq_true rfl) ?_⟩
  have hH : Hp ⟨0, []⟩ [] := Hp.nil (Nat.le_refl _)
  show MC _ _ _ _ _ _ _
  refine MC.seq ?_
  show MC _ _ _ _ _ _ _
  refine MC.region ?_
  refine MO.op (v := (w64 (0#64))) (Nat.zero_le _) rfl (ev_assign rfl) rfl ?_
  refine MO.nil ?_
  refine Then.at ?_
  show MC _ _ _ _ _ _ _
  refine MC.seq ?_
  show MC _ _ _ _ _ _ _
  refine MC.region ?_
  refine MO.op (v := (w64 p0_1)) (Nat.zero_le _) rfl (ev_move rfl) rfl ?_
  refine MO.op (v := (w64 p1_2)) (Nat.zero_le _) rfl (ev_move rfl) rfl ?_
  refine MO.op (v := (w64 (p0_1 ||| p1_2))) (Nat.zero_le _) rfl (ev_bin (x := (w64 p0_1)) (y := (w64 p1_2)) rfl rfl word_or) rfl ?_
  refine MO.op (v := (w64 (p0_1 ||| p1_2))) (Nat.zero_le _) rfl (ev_assign rfl) rfl ?_
  refine MO.nil ?_
  refine Then.at ?_
  show MC _ _ _ _ _ _ _
  refine MC.ret ?_
  obtain rfl := Option.some.inj h
  exact ⟨.inr rfl, _, (res_cons (res_tmp rfl) res_nil), rfl⟩
noncomputable def F_bitset_both_bitset_Union_1_b1 (r5 : (List (BitVec 64))) (r7 : (List (BitVec 64))) (l9 : (List (BitVec 64))) (next42 : (Int × (List (BitVec 64)) → Option ((List (BitVec 64))))) : Int × (List (BitVec 64)) → Option ((List (BitVec 64)))
  | (x22_28, l29) =>
    if x22_28 < (l9.length : Int) then
      Option.bind (F_bitset_both_1 r5 x22_28) fun r44 =>
      Option.bind (F_bitset_both_1 r7 x22_28) fun r46 =>
      Option.bind (F_bitset_Union_1 r44 r46) fun r48 =>
      Option.bind (gx l29 x22_28) fun x50 =>
      next42 ((wr (x22_28 + (1 : Int))), (List.set l29 (Int.toNat x22_28) r48))
    else
      Option.bind (F_bitset_short l29) fun r61 =>
      some (r61)
noncomputable def F_bitset_both_bitset_Union_1 (p0_1 : (List (BitVec 64))) (p1_2 : (List (BitVec 64))) : Option ((List (BitVec 64))) :=
  Option.bind (F_bitset_cut p0_1) fun r5 =>
  Option.bind (F_bitset_cut p1_2) fun r7 =>
  Option.bind (mkn (max (r5.length : Int) (r7.length : Int)) (0#64)) fun l9 =>
  loopK (F_bitset_both_bitset_Union_1_b1 r5 r7 l9) fuel ((0 : Int), l9)
theorem F_bitset_both_bitset_Union_1.ok {p0_1 : (List (BitVec 64))} {p1_2 : (List (BitVec 64))} {r : ((List (BitVec 64)))} (h : F_bitset_both_bitset_Union_1 p0_1 p1_2 = some r) : Pure Try.prog 32 [(slv eW p0_1), (slv eW p1_2), (Value.func (.func 33) #[] #[])] (slv eW r) := by
  unfold F_bitset_both_bitset_Union_1 at h
  refine ⟨(.cons (slv_flat _ _) (.cons (slv_flat _ _) (.cons (Flat.fn (by simp) (by simp)) .nil))), (slv_flat _ _), Fn.enter Try.func32 (by kernel_rfl) rfl (of_decide_eq_true rfl) ?_⟩
  have hH : Hp ⟨0, []⟩ [] := Hp.nil (Nat.le_refl _)
  show MC _ _ _ _ _ _ _
  refine MC.seq ?_
  show MC _ _ _ _ _ _ _
  refine MC.region ?_
  have hH3 := hH.nilSl eW
  refine MO.op (v := (Value.slice none 0 0)) (Nat.zero_le _) rfl (ev_assign rfl) rfl ?_
  refine MO.nil ?_
  refine Then.at ?_
  show MC _ _ _ _ _ _ _
  refine MC.seq ?_
  show MC _ _ _ _ _ _ _
  refine MC.region ?_
  refine MO.op (v := (slv eW p0_1)) (Nat.zero_le _) rfl (ev_move rfl) rfl ?_
  obtain ⟨r5, e6, h⟩ := bind_some h
  refine MO.pureW (v := (slv eW r5)) (vs := [(slv eW p0_1)]) (as' := [(slv eW p0_1)]) (Nat.zero_le _) rfl rfl (callee_of rfl (args_cons rfl args_nil)) (LWk.cons (Wk.same _) LWk.nil) (F_bitset_cut.ok e6) rfl ?_
  refine MO.op (v := (slv eW p1_2)) (Nat.zero_le _) rfl (ev_move rfl) rfl ?_
  obtain ⟨r7, e8, h⟩ := bind_some h
  refine MO.pureW (v := (slv eW r7)) (vs := [(slv eW p1_2)]) (as' := [(slv eW p1_2)]) (Nat.zero_le _) rfl rfl (callee_of rfl (args_cons rfl args_nil)) (LWk.cons (Wk.same _) LWk.nil) (F_bitset_cut.ok e8) rfl ?_
  refine MO.op (v := (slv eW r5)) (Nat.zero_le _) rfl (ev_assign rfl) rfl ?_
  refine MO.op (v := (slv eW r7)) (Nat.zero_le _) rfl (ev_assign rfl) rfl ?_
  refine MO.nil ?_
  refine Then.at ?_
  show MC _ _ _ _ _ _ _
  refine MC.seq ?_
  show MC _ _ _ _ _ _ _
  refine MC.region ?_
  refine MO.op (v := (Value.func (.func 41) #[] #[])) (Nat.zero_le _) rfl (ev_assign rfl) rfl ?_
  refine MO.nil ?_
  refine Then.at ?_
  show MC _ _ _ _ _ _ _
  refine MC.seq ?_
  show MC _ _ _ _ _ _ _
  refine MC.region ?_
  refine MO.op (v := (slv eW r5)) (Nat.zero_le _) rfl (ev_move rfl) rfl ?_
  refine MO.op (v := (Value.int .i64 (r5.length : Int))) (Nat.zero_le _) rfl (ev_len (x := (slv eW r5)) rfl (len_still Try.underlying25 _ _)) rfl ?_
  refine MO.op (v := (slv eW r7)) (Nat.zero_le _) rfl (ev_move rfl) rfl ?_
  refine MO.op (v := (Value.int .i64 (r7.length : Int))) (Nat.zero_le _) rfl (ev_len (x := (slv eW r7)) rfl (len_still Try.underlying25 _ _)) rfl ?_
  refine MO.op (v := (Value.int .i64 (max (r5.length : Int) (r7.length : Int)))) (Nat.zero_le _) rfl (ev_max (x := (Value.int .i64 (r5.length : Int))) (y := (Value.int .i64 (r7.length : Int))) rfl rfl max_two) rfl ?_
  obtain ⟨l9, e10, h⟩ := bind_some h
  refine MO.makeW (e := eW) (z := (0#64)) (Nat.zero_le _) rfl rfl rfl rfl Try.underlying25 et23 zr23 rfl e10 (by decide) hH3 rfl (by decide) fun v11 σ12 hH13 => ?_
  refine MO.op (v := v11) (Nat.zero_le _) rfl (ev_assign rfl) rfl ?_
  refine MO.nil ?_
  refine Then.at ?_
  show MC _ _ _ _ _ _ _
  refine MC.seq ?_
  show MC _ _ _ _ _ _ _
  refine MC.seq ?_
  show MC _ _ _ _ _ _ _
  refine MC.region ?_
  refine MO.op (v := v11) (Nat.zero_le _) rfl (ev_move rfl) rfl ?_
  refine MO.op (v := (Value.int .i64 (l9.length : Int))) (Nat.zero_le _) rfl (ev_len (x := v11) rfl (It.sl_len (hH13.at (i := 0) rfl) Try.underlying25 _)) rfl ?_
  refine MO.op (v := (Value.int .i64 (0 : Int))) (Nat.zero_le _) rfl (ev_move rfl) rfl ?_
  refine MO.nil ?_
  refine Then.at ?_
  show MC _ _ _ _ _ _ _
  refine MC.block ?_
  show MC _ _ _ _ _ _ _
  refine MC.loopK (fun (s : Int × (List (BitVec 64))) t σ => t 0 = (slv eW r5) ∧ t 1 = (slv eW r7) ∧ t 2 = (Value.func (.func 33) #[] #[]) ∧ t 7 = (Value.func (.func 41) #[] #[]) ∧ t 8 = v11 ∧ t 21 = (Value.int .i64 (l9.length : Int)) ∧ t 22 = (Value.int .i64 s.1) ∧ Hp σ [It.sl eW v11 s.2]) h ⟨rfl, rfl, rfl, rfl, rfl, rfl, rfl, (hH13.sub (.cons_cons _ (.cons _ .slnil)))⟩ ?_
  rintro next42 ⟨x22_28, l29⟩ t σ ⟨q31, q32, q33, q34, q35, q36, q37, hH38⟩ h
  try dsimp only at q31 q32 q33 q34 q35 q36 q37 hH38
  unfold F_bitset_both_bitset_Union_1_b1 at h
  dsimp only at h
  show MC _ _ _ _ _ _ _
  refine MC.seq ?_
  show MC _ _ _ _ _ _ _
  refine MC.region ?_
  refine MO.op (v := (Value.bool (decide (x22_28 < (l9.length : Int))))) (Nat.zero_le _) rfl (ev_bin (x := (Value.int .i64 x22_28)) (y := (Value.int .i64 (l9.length : Int))) q37 q36 int_lss) rfl ?_
  refine MO.nil ?_
  refine Then.at ?_
  show MC _ _ _ _ _ _ _
  refine MC.seq ?_
  by_cases hc43 : x22_28 < (l9.length : Int)
  · rw [if_pos hc43] at h
    show MC _ _ _ _ _ _ _
    refine MC.condT (Eq.trans (b := Value.bool (decide (x22_28 < (l9.length : Int)))) rfl (congrArg Value.bool (decide_eq_true hc43))) ?_
    show MC _ _ _ _ _ _ _
    refine MC.skip ?_
    refine Then.at ?_
    show MC _ _ _ _ _ _ _
    refine MC.seq ?_
    show MC _ _ _ _ _ _ _
    refine MC.block ?_
    show MC _ _ _ _ _ _ _
    refine MC.seq ?_
    show MC _ _ _ _ _ _ _
    refine MC.region ?_
    refine MO.op (v := (Value.int .i64 x22_28)) (Nat.zero_le _) rfl (ev_move q37) rfl ?_
    refine MO.op (v := (Value.int .i64 x22_28)) (Nat.zero_le _) rfl (ev_assign rfl) rfl ?_
    refine MO.nil ?_
    refine Then.at ?_
    show MC _ _ _ _ _ _ _
    refine MC.region ?_
    refine MO.op (v := v11) (Nat.zero_le _) rfl (ev_move q35) rfl ?_
    refine MO.op (v := (Value.int .i64 x22_28)) (Nat.zero_le _) rfl (ev_move rfl) rfl ?_
    refine MO.op (v := (Value.func (.func 33) #[] #[])) (Nat.zero_le _) rfl (ev_move q33) rfl ?_
    refine MO.op (v := (Value.func (.func 41) #[] #[])) (Nat.zero_le _) rfl (ev_move q34) rfl ?_
    refine MO.op (v := (slv eW r5)) (Nat.zero_le _) rfl (ev_move q31) rfl ?_
    refine MO.op (v := (Value.int .i64 x22_28)) (Nat.zero_le _) rfl (ev_move rfl) rfl ?_
    obtain ⟨r44, e45, h⟩ := bind_some h
    refine MO.pureW (v := (w64 r44)) (vs := [(slv eW r5), (Value.int .i64 x22_28)]) (as' := [(slv eW r5), (Value.int .i64 x22_28)]) (Nat.zero_le _) rfl rfl (callee_of rfl (args_cons rfl (args_cons rfl args_nil))) (LWk.cons (Wk.same _) (LWk.cons (Wk.same _) LWk.nil)) (F_bitset_both_1.ok e45) rfl ?_
    refine MO.op (v := (Value.func (.func 41) #[] #[])) (Nat.zero_le _) rfl (ev_move q34) rfl ?_
    refine MO.op (v := (slv eW r7)) (Nat.zero_le _) rfl (ev_move q32) rfl ?_
    refine MO.op (v := (Value.int .i64 x22_28)) (Nat.zero_le _) rfl (ev_move rfl) rfl ?_
    obtain ⟨r46, e47, h⟩ := bind_some h
    refine MO.pureW (v := (w64 r46)) (vs := [(slv eW r7), (Value.int .i64 x22_28)]) (as' := [(slv eW r7), (Value.int .i64 x22_28)]) (Nat.zero_le _) rfl rfl (callee_of rfl (args_cons rfl (args_cons rfl args_nil))) (LWk.cons (Wk.same _) (LWk.cons (Wk.same _) LWk.nil)) (F_bitset_both_1.ok e47) rfl ?_
    obtain ⟨r48, e49, h⟩ := bind_some h
    refine MO.pureW (v := (w64 r48)) (vs := [(w64 r44), (w64 r46)]) (as' := [(w64 r44), (w64 r46)]) (Nat.zero_le _) rfl rfl (callee_of rfl (args_cons rfl (args_cons rfl args_nil))) (LWk.cons (Wk.same _) (LWk.cons (Wk.same _) LWk.nil)) (F_bitset_Union_1.ok e49) rfl ?_
    obtain ⟨x50, e51, h⟩ := bind_some h
    obtain ⟨b52, o53, ha54, _⟩ := It.sl_at (hH38.at (i := 0) rfl) ty23 Try.underlying25 (k := .i64) (gx_some e51).1 (gx_some e51).2
    refine MO.op (v := (Value.pointer (some ⟨b52, o53, none⟩))) (Nat.zero_le _) rfl (ev_indexAddr (x := v11) (y := (Value.int .i64 x22_28)) rfl rfl ha54) rfl ?_
    obtain ⟨σ55, hs56, hH57, _⟩ := hH38.elStore (e := eW) (ef := eW) (i := 0) (off := 0) (y := r48) (x' := r48) rfl ty23 Try.underlying25 e51 ha54 ty23 (by decide) rfl
    change Hp _ [It.sl eW v11 (List.set l29 (Int.toNat x22_28) r48)] at hH57
    refine MO.op (Nat.zero_le _) rfl (ev_store (x := (Value.pointer (some ⟨b52, o53 + 0, none⟩))) (y := (w64 r48)) rfl rfl hs56) rfl ?_
    refine MO.nil ?_
    refine Block.at ?_
    refine Then.at ?_
    show MC _ _ _ _ _ _ _
    refine MC.region ?_
    refine MO.op (v := (Value.int .i64 (wr (x22_28 + (1 : Int))))) (Nat.zero_le _) rfl (ev_bin (x := (Value.int .i64 x22_28)) (y := (Value.int .i64 (1 : Int))) q37 rfl int_add) rfl ?_
    refine MO.op (v := (Value.int .i64 (wr (x22_28 + (1 : Int))))) (Nat.zero_le _) rfl (ev_move rfl) rfl ?_
    refine MO.nil ?_
    refine Then.at ?_
    exact ⟨((wr (x22_28 + (1 : Int))), (List.set l29 (Int.toNat x22_28) r48)), ⟨q31, q32, q33, q34, q35, q36, rfl, hH57⟩, h⟩
  · rw [if_neg hc43] at h
    show MC _ _ _ _ _ _ _
    refine MC.condF (Eq.trans (b := Value.bool (decide (x22_28 < (l9.length : Int)))) rfl (congrArg Value.bool (decide_eq_false hc43))) ?_
    show MC _ _ _ _ _ _ _
    refine MC.exit ?_
    refine Then.exit ?_
    refine Then.exit ?_
    refine Block.exit ?_
    refine Then.at ?_
    show MC _ _ _ _ _ _ _
    refine MC.seq ?_
    show MC _ _ _ _ _ _ _
    refine MC.region ?_
    refine MO.op (v := v11) (Nat.zero_le _) rfl (ev_move q35) rfl ?_
    obtain ⟨r61, e62, h⟩ := bind_some h
    refine MO.still (e := eW) (i := 0) hH38 rfl [8, 39] (by simp only [List.mem_cons, List.not_mem_nil, or_false, forall_eq_or_imp, forall_eq]; exact ⟨q35, rfl⟩) fun σ59 hH58 hz60 => ?_
    change Hp _ [] at hH58
    refine MO.pureW (v := (slv eW r61)) (vs := [(slv eW l29)]) (as' := [(slv eW l29)]) (Nat.zero_le _) rfl rfl (callee_of rfl (args_cons rfl args_nil)) (LWk.cons (Wk.same _) LWk.nil) (F_bitset_short.ok e62) rfl ?_
    refine MO.op (v := (slv eW r61)) (Nat.zero_le _) rfl (ev_assign rfl) rfl ?_
    refine MO.nil ?_
    refine Then.at ?_
    show MC _ _ _ _ _ _ _
    refine MC.ret ?_
    obtain rfl := Option.some.inj h
    exact ⟨.inr rfl, _, (res_cons (res_tmp rfl) res_nil), rfl⟩
noncomputable def F_bitset_Union (p0_1 : (List (BitVec 64))) (p1_2 : (List (BitVec 64))) : Option ((List (BitVec 64))) :=
  Option.bind (F_bitset_both_bitset_Union_1 p0_1 p1_2) fun r5 =>
  some (r5)
theorem F_bitset_Union.ok {p0_1 : (List (BitVec 64))} {p1_2 : (List (BitVec 64))} {r : ((List (BitVec 64)))} (h : F_bitset_Union p0_1 p1_2 = some r) : Pure Try.prog 17 [(slv eW p0_1), (slv eW p1_2)] (slv eW r) := by
  unfold F_bitset_Union at h
  refine ⟨(.cons (slv_flat _ _) (.cons (slv_flat _ _) .nil)), (slv_flat _ _), Fn.enter Try.func17 (by kernel_rfl) rfl (of_decide_eq_true rfl) ?_⟩
  have hH : Hp ⟨0, []⟩ [] := Hp.nil (Nat.le_refl _)
  show MC _ _ _ _ _ _ _
  refine MC.seq ?_
  show MC _ _ _ _ _ _ _
  refine MC.region ?_
  have hH3 := hH.nilSl eW
  refine MO.op (v := (Value.slice none 0 0)) (Nat.zero_le _) rfl (ev_assign rfl) rfl ?_
  refine MO.nil ?_
  refine Then.at ?_
  show MC _ _ _ _ _ _ _
  refine MC.seq ?_
  show MC _ _ _ _ _ _ _
  refine MC.region ?_
  refine MO.op (v := (slv eW p0_1)) (Nat.zero_le _) rfl (ev_move rfl) rfl ?_
  refine MO.op (v := (slv eW p1_2)) (Nat.zero_le _) rfl (ev_move rfl) rfl ?_
  obtain ⟨r5, e6, h⟩ := bind_some h
  refine MO.pureW (v := (slv eW r5)) (vs := [(slv eW p0_1), (slv eW p1_2), (Value.func (.func 33) #[] #[])]) (as' := [(slv eW p0_1), (slv eW p1_2), (Value.func (.func 33) #[] #[])]) (Nat.zero_le _) rfl rfl (callee_of rfl (args_cons rfl (args_cons rfl (args_cons rfl args_nil)))) (LWk.cons (Wk.same _) (LWk.cons (Wk.same _) (LWk.cons (Wk.same _) LWk.nil))) (F_bitset_both_bitset_Union_1.ok e6) rfl ?_
  refine MO.op (v := (slv eW r5)) (Nat.zero_le _) rfl (ev_assign rfl) rfl ?_
  refine MO.nil ?_
  refine Then.at ?_
  show MC _ _ _ _ _ _ _
  refine MC.ret ?_
  obtain rfl := Option.some.inj h
  exact ⟨.inr rfl, _, (res_cons (res_tmp rfl) res_nil), rfl⟩
noncomputable def F_math_bits_OnesCount64 (p0_1 : (BitVec 64)) : Option (Int) :=
  some ((iand (BitVec.toInt ((((((((((((p0_1 >>> 1) &&& (6148914691236517205#64)) + (p0_1 &&& (6148914691236517205#64))) >>> 2) &&& (3689348814741910323#64)) + ((((p0_1 >>> 1) &&& (6148914691236517205#64)) + (p0_1 &&& (6148914691236517205#64))) &&& (3689348814741910323#64))) >>> 4) + ((((((p0_1 >>> 1) &&& (6148914691236517205#64)) + (p0_1 &&& (6148914691236517205#64))) >>> 2) &&& (3689348814741910323#64)) + ((((p0_1 >>> 1) &&& (6148914691236517205#64)) + (p0_1 &&& (6148914691236517205#64))) &&& (3689348814741910323#64)))) &&& (1085102592571150095#64)) + ((((((((((p0_1 >>> 1) &&& (6148914691236517205#64)) + (p0_1 &&& (6148914691236517205#64))) >>> 2) &&& (3689348814741910323#64)) + ((((p0_1 >>> 1) &&& (6148914691236517205#64)) + (p0_1 &&& (6148914691236517205#64))) &&& (3689348814741910323#64))) >>> 4) + ((((((p0_1 >>> 1) &&& (6148914691236517205#64)) + (p0_1 &&& (6148914691236517205#64))) >>> 2) &&& (3689348814741910323#64)) + ((((p0_1 >>> 1) &&& (6148914691236517205#64)) + (p0_1 &&& (6148914691236517205#64))) &&& (3689348814741910323#64)))) &&& (1085102592571150095#64)) >>> 8)) + (((((((((((p0_1 >>> 1) &&& (6148914691236517205#64)) + (p0_1 &&& (6148914691236517205#64))) >>> 2) &&& (3689348814741910323#64)) + ((((p0_1 >>> 1) &&& (6148914691236517205#64)) + (p0_1 &&& (6148914691236517205#64))) &&& (3689348814741910323#64))) >>> 4) + ((((((p0_1 >>> 1) &&& (6148914691236517205#64)) + (p0_1 &&& (6148914691236517205#64))) >>> 2) &&& (3689348814741910323#64)) + ((((p0_1 >>> 1) &&& (6148914691236517205#64)) + (p0_1 &&& (6148914691236517205#64))) &&& (3689348814741910323#64)))) &&& (1085102592571150095#64)) + ((((((((((p0_1 >>> 1) &&& (6148914691236517205#64)) + (p0_1 &&& (6148914691236517205#64))) >>> 2) &&& (3689348814741910323#64)) + ((((p0_1 >>> 1) &&& (6148914691236517205#64)) + (p0_1 &&& (6148914691236517205#64))) &&& (3689348814741910323#64))) >>> 4) + ((((((p0_1 >>> 1) &&& (6148914691236517205#64)) + (p0_1 &&& (6148914691236517205#64))) >>> 2) &&& (3689348814741910323#64)) + ((((p0_1 >>> 1) &&& (6148914691236517205#64)) + (p0_1 &&& (6148914691236517205#64))) &&& (3689348814741910323#64)))) &&& (1085102592571150095#64)) >>> 8)) >>> 16)) + ((((((((((((p0_1 >>> 1) &&& (6148914691236517205#64)) + (p0_1 &&& (6148914691236517205#64))) >>> 2) &&& (3689348814741910323#64)) + ((((p0_1 >>> 1) &&& (6148914691236517205#64)) + (p0_1 &&& (6148914691236517205#64))) &&& (3689348814741910323#64))) >>> 4) + ((((((p0_1 >>> 1) &&& (6148914691236517205#64)) + (p0_1 &&& (6148914691236517205#64))) >>> 2) &&& (3689348814741910323#64)) + ((((p0_1 >>> 1) &&& (6148914691236517205#64)) + (p0_1 &&& (6148914691236517205#64))) &&& (3689348814741910323#64)))) &&& (1085102592571150095#64)) + ((((((((((p0_1 >>> 1) &&& (6148914691236517205#64)) + (p0_1 &&& (6148914691236517205#64))) >>> 2) &&& (3689348814741910323#64)) + ((((p0_1 >>> 1) &&& (6148914691236517205#64)) + (p0_1 &&& (6148914691236517205#64))) &&& (3689348814741910323#64))) >>> 4) + ((((((p0_1 >>> 1) &&& (6148914691236517205#64)) + (p0_1 &&& (6148914691236517205#64))) >>> 2) &&& (3689348814741910323#64)) + ((((p0_1 >>> 1) &&& (6148914691236517205#64)) + (p0_1 &&& (6148914691236517205#64))) &&& (3689348814741910323#64)))) &&& (1085102592571150095#64)) >>> 8)) + (((((((((((p0_1 >>> 1) &&& (6148914691236517205#64)) + (p0_1 &&& (6148914691236517205#64))) >>> 2) &&& (3689348814741910323#64)) + ((((p0_1 >>> 1) &&& (6148914691236517205#64)) + (p0_1 &&& (6148914691236517205#64))) &&& (3689348814741910323#64))) >>> 4) + ((((((p0_1 >>> 1) &&& (6148914691236517205#64)) + (p0_1 &&& (6148914691236517205#64))) >>> 2) &&& (3689348814741910323#64)) + ((((p0_1 >>> 1) &&& (6148914691236517205#64)) + (p0_1 &&& (6148914691236517205#64))) &&& (3689348814741910323#64)))) &&& (1085102592571150095#64)) + ((((((((((p0_1 >>> 1) &&& (6148914691236517205#64)) + (p0_1 &&& (6148914691236517205#64))) >>> 2) &&& (3689348814741910323#64)) + ((((p0_1 >>> 1) &&& (6148914691236517205#64)) + (p0_1 &&& (6148914691236517205#64))) &&& (3689348814741910323#64))) >>> 4) + ((((((p0_1 >>> 1) &&& (6148914691236517205#64)) + (p0_1 &&& (6148914691236517205#64))) >>> 2) &&& (3689348814741910323#64)) + ((((p0_1 >>> 1) &&& (6148914691236517205#64)) + (p0_1 &&& (6148914691236517205#64))) &&& (3689348814741910323#64)))) &&& (1085102592571150095#64)) >>> 8)) >>> 16)) >>> 32))) (127 : Int)))
theorem F_math_bits_OnesCount64.ok {p0_1 : (BitVec 64)} {r : (Int)} (h : F_math_bits_OnesCount64 p0_1 = some r) : Pure Try.prog 31 [(w64 p0_1)] (Value.int .i64 r) := by
  unfold F_math_bits_OnesCount64 at h
  refine ⟨(.cons (.prim rfl) .nil), (.prim rfl), Fn.enter Try.func31 (by kernel_rfl) rfl (of_decide_eq_true rfl) ?_⟩
  have hH : Hp ⟨0, []⟩ [] := Hp.nil (Nat.le_refl _)
  show MC _ _ _ _ _ _ _
  refine MC.seq ?_
  show MC _ _ _ _ _ _ _
  refine MC.region ?_
  refine MO.op (v := (Value.int .i64 (0 : Int))) (Nat.zero_le _) rfl (ev_assign rfl) rfl ?_
  refine MO.nil ?_
  refine Then.at ?_
  show MC _ _ _ _ _ _ _
  refine MC.seq ?_
  show MC _ _ _ _ _ _ _
  refine MC.region ?_
  refine MO.op (v := (w64 p0_1)) (Nat.zero_le _) rfl (ev_move rfl) rfl ?_
  refine MO.op (v := (w64 (p0_1 >>> 1))) (Nat.zero_le _) rfl (ev_bin (x := (w64 p0_1)) (y := (w64 (1#64))) rfl rfl (word_shr (by decide))) rfl ?_
  refine MO.op (v := (w64 ((p0_1 >>> 1) &&& (6148914691236517205#64)))) (Nat.zero_le _) rfl (ev_bin (x := (w64 (p0_1 >>> 1))) (y := (w64 (6148914691236517205#64))) rfl rfl word_and) rfl ?_
  refine MO.op (v := (w64 p0_1)) (Nat.zero_le _) rfl (ev_move rfl) rfl ?_
  refine MO.op (v := (w64 (p0_1 &&& (6148914691236517205#64)))) (Nat.zero_le _) rfl (ev_bin (x := (w64 p0_1)) (y := (w64 (6148914691236517205#64))) rfl rfl word_and) rfl ?_
  refine MO.op (v := (w64 (((p0_1 >>> 1) &&& (6148914691236517205#64)) + (p0_1 &&& (6148914691236517205#64))))) (Nat.zero_le _) rfl (ev_bin (x := (w64 ((p0_1 >>> 1) &&& (6148914691236517205#64)))) (y := (w64 (p0_1 &&& (6148914691236517205#64)))) rfl rfl word_add) rfl ?_
  refine MO.op (v := (w64 (((p0_1 >>> 1) &&& (6148914691236517205#64)) + (p0_1 &&& (6148914691236517205#64))))) (Nat.zero_le _) rfl (ev_assign rfl) rfl ?_
  refine MO.nil ?_
  refine Then.at ?_
  show MC _ _ _ _ _ _ _
  refine MC.seq ?_
  show MC _ _ _ _ _ _ _
  refine MC.region ?_
  refine MO.op (v := (w64 (((p0_1 >>> 1) &&& (6148914691236517205#64)) + (p0_1 &&& (6148914691236517205#64))))) (Nat.zero_le _) rfl (ev_move rfl) rfl ?_
  refine MO.op (v := (w64 ((((p0_1 >>> 1) &&& (6148914691236517205#64)) + (p0_1 &&& (6148914691236517205#64))) >>> 2))) (Nat.zero_le _) rfl (ev_bin (x := (w64 (((p0_1 >>> 1) &&& (6148914691236517205#64)) + (p0_1 &&& (6148914691236517205#64))))) (y := (w64 (2#64))) rfl rfl (word_shr (by decide))) rfl ?_
  refine MO.op (v := (w64 (((((p0_1 >>> 1) &&& (6148914691236517205#64)) + (p0_1 &&& (6148914691236517205#64))) >>> 2) &&& (3689348814741910323#64)))) (Nat.zero_le _) rfl (ev_bin (x := (w64 ((((p0_1 >>> 1) &&& (6148914691236517205#64)) + (p0_1 &&& (6148914691236517205#64))) >>> 2))) (y := (w64 (3689348814741910323#64))) rfl rfl word_and) rfl ?_
  refine MO.op (v := (w64 (((p0_1 >>> 1) &&& (6148914691236517205#64)) + (p0_1 &&& (6148914691236517205#64))))) (Nat.zero_le _) rfl (ev_move rfl) rfl ?_
  refine MO.op (v := (w64 ((((p0_1 >>> 1) &&& (6148914691236517205#64)) + (p0_1 &&& (6148914691236517205#64))) &&& (3689348814741910323#64)))) (Nat.zero_le _) rfl (ev_bin (x := (w64 (((p0_1 >>> 1) &&& (6148914691236517205#64)) + (p0_1 &&& (6148914691236517205#64))))) (y := (w64 (3689348814741910323#64))) rfl rfl word_and) rfl ?_
  refine MO.op (v := (w64 ((((((p0_1 >>> 1) &&& (6148914691236517205#64)) + (p0_1 &&& (6148914691236517205#64))) >>> 2) &&& (3689348814741910323#64)) + ((((p0_1 >>> 1) &&& (6148914691236517205#64)) + (p0_1 &&& (6148914691236517205#64))) &&& (3689348814741910323#64))))) (Nat.zero_le _) rfl (ev_bin (x := (w64 (((((p0_1 >>> 1) &&& (6148914691236517205#64)) + (p0_1 &&& (6148914691236517205#64))) >>> 2) &&& (3689348814741910323#64)))) (y := (w64 ((((p0_1 >>> 1) &&& (6148914691236517205#64)) + (p0_1 &&& (6148914691236517205#64))) &&& (3689348814741910323#64)))) rfl rfl word_add) rfl ?_
  refine MO.op (v := (w64 ((((((p0_1 >>> 1) &&& (6148914691236517205#64)) + (p0_1 &&& (6148914691236517205#64))) >>> 2) &&& (3689348814741910323#64)) + ((((p0_1 >>> 1) &&& (6148914691236517205#64)) + (p0_1 &&& (6148914691236517205#64))) &&& (3689348814741910323#64))))) (Nat.zero_le _) rfl (ev_assign rfl) rfl ?_
  refine MO.nil ?_
  refine Then.at ?_
  show MC _ _ _ _ _ _ _
  refine MC.seq ?_
  show MC _ _ _ _ _ _ _
  refine MC.region ?_
  refine MO.op (v := (w64 ((((((p0_1 >>> 1) &&& (6148914691236517205#64)) + (p0_1 &&& (6148914691236517205#64))) >>> 2) &&& (3689348814741910323#64)) + ((((p0_1 >>> 1) &&& (6148914691236517205#64)) + (p0_1 &&& (6148914691236517205#64))) &&& (3689348814741910323#64))))) (Nat.zero_le _) rfl (ev_move rfl) rfl ?_
  refine MO.op (v := (w64 (((((((p0_1 >>> 1) &&& (6148914691236517205#64)) + (p0_1 &&& (6148914691236517205#64))) >>> 2) &&& (3689348814741910323#64)) + ((((p0_1 >>> 1) &&& (6148914691236517205#64)) + (p0_1 &&& (6148914691236517205#64))) &&& (3689348814741910323#64))) >>> 4))) (Nat.zero_le _) rfl (ev_bin (x := (w64 ((((((p0_1 >>> 1) &&& (6148914691236517205#64)) + (p0_1 &&& (6148914691236517205#64))) >>> 2) &&& (3689348814741910323#64)) + ((((p0_1 >>> 1) &&& (6148914691236517205#64)) + (p0_1 &&& (6148914691236517205#64))) &&& (3689348814741910323#64))))) (y := (w64 (4#64))) rfl rfl (word_shr (by decide))) rfl ?_
  refine MO.op (v := (w64 ((((((p0_1 >>> 1) &&& (6148914691236517205#64)) + (p0_1 &&& (6148914691236517205#64))) >>> 2) &&& (3689348814741910323#64)) + ((((p0_1 >>> 1) &&& (6148914691236517205#64)) + (p0_1 &&& (6148914691236517205#64))) &&& (3689348814741910323#64))))) (Nat.zero_le _) rfl (ev_move rfl) rfl ?_
  refine MO.op (v := (w64 ((((((((p0_1 >>> 1) &&& (6148914691236517205#64)) + (p0_1 &&& (6148914691236517205#64))) >>> 2) &&& (3689348814741910323#64)) + ((((p0_1 >>> 1) &&& (6148914691236517205#64)) + (p0_1 &&& (6148914691236517205#64))) &&& (3689348814741910323#64))) >>> 4) + ((((((p0_1 >>> 1) &&& (6148914691236517205#64)) + (p0_1 &&& (6148914691236517205#64))) >>> 2) &&& (3689348814741910323#64)) + ((((p0_1 >>> 1) &&& (6148914691236517205#64)) + (p0_1 &&& (6148914691236517205#64))) &&& (3689348814741910323#64)))))) (Nat.zero_le _) rfl (ev_bin (x := (w64 (((((((p0_1 >>> 1) &&& (6148914691236517205#64)) + (p0_1 &&& (6148914691236517205#64))) >>> 2) &&& (3689348814741910323#64)) + ((((p0_1 >>> 1) &&& (6148914691236517205#64)) + (p0_1 &&& (6148914691236517205#64))) &&& (3689348814741910323#64))) >>> 4))) (y := (w64 ((((((p0_1 >>> 1) &&& (6148914691236517205#64)) + (p0_1 &&& (6148914691236517205#64))) >>> 2) &&& (3689348814741910323#64)) + ((((p0_1 >>> 1) &&& (6148914691236517205#64)) + (p0_1 &&& (6148914691236517205#64))) &&& (3689348814741910323#64))))) rfl rfl word_add) rfl ?_
  refine MO.op (v := (w64 (((((((((p0_1 >>> 1) &&& (6148914691236517205#64)) + (p0_1 &&& (6148914691236517205#64))) >>> 2) &&& (3689348814741910323#64)) + ((((p0_1 >>> 1) &&& (6148914691236517205#64)) + (p0_1 &&& (6148914691236517205#64))) &&& (3689348814741910323#64))) >>> 4) + ((((((p0_1 >>> 1) &&& (6148914691236517205#64)) + (p0_1 &&& (6148914691236517205#64))) >>> 2) &&& (3689348814741910323#64)) + ((((p0_1 >>> 1) &&& (6148914691236517205#64)) + (p0_1 &&& (6148914691236517205#64))) &&& (3689348814741910323#64)))) &&& (1085102592571150095#64)))) (Nat.zero_le _) rfl (ev_bin (x := (w64 ((((((((p0_1 >>> 1) &&& (6148914691236517205#64)) + (p0_1 &&& (6148914691236517205#64))) >>> 2) &&& (3689348814741910323#64)) + ((((p0_1 >>> 1) &&& (6148914691236517205#64)) + (p0_1 &&& (6148914691236517205#64))) &&& (3689348814741910323#64))) >>> 4) + ((((((p0_1 >>> 1) &&& (6148914691236517205#64)) + (p0_1 &&& (6148914691236517205#64))) >>> 2) &&& (3689348814741910323#64)) + ((((p0_1 >>> 1) &&& (6148914691236517205#64)) + (p0_1 &&& (6148914691236517205#64))) &&& (3689348814741910323#64)))))) (y := (w64 (1085102592571150095#64))) rfl rfl word_and) rfl ?_
  refine MO.op (v := (w64 (((((((((p0_1 >>> 1) &&& (6148914691236517205#64)) + (p0_1 &&& (6148914691236517205#64))) >>> 2) &&& (3689348814741910323#64)) + ((((p0_1 >>> 1) &&& (6148914691236517205#64)) + (p0_1 &&& (6148914691236517205#64))) &&& (3689348814741910323#64))) >>> 4) + ((((((p0_1 >>> 1) &&& (6148914691236517205#64)) + (p0_1 &&& (6148914691236517205#64))) >>> 2) &&& (3689348814741910323#64)) + ((((p0_1 >>> 1) &&& (6148914691236517205#64)) + (p0_1 &&& (6148914691236517205#64))) &&& (3689348814741910323#64)))) &&& (1085102592571150095#64)))) (Nat.zero_le _) rfl (ev_assign rfl) rfl ?_
  refine MO.nil ?_
  refine Then.at ?_
  show MC _ _ _ _ _ _ _
  refine MC.seq ?_
  show MC _ _ _ _ _ _ _
  refine MC.region ?_
  refine MO.op (v := (w64 (((((((((p0_1 >>> 1) &&& (6148914691236517205#64)) + (p0_1 &&& (6148914691236517205#64))) >>> 2) &&& (3689348814741910323#64)) + ((((p0_1 >>> 1) &&& (6148914691236517205#64)) + (p0_1 &&& (6148914691236517205#64))) &&& (3689348814741910323#64))) >>> 4) + ((((((p0_1 >>> 1) &&& (6148914691236517205#64)) + (p0_1 &&& (6148914691236517205#64))) >>> 2) &&& (3689348814741910323#64)) + ((((p0_1 >>> 1) &&& (6148914691236517205#64)) + (p0_1 &&& (6148914691236517205#64))) &&& (3689348814741910323#64)))) &&& (1085102592571150095#64)))) (Nat.zero_le _) rfl (ev_move rfl) rfl ?_
  refine MO.op (v := (w64 (((((((((p0_1 >>> 1) &&& (6148914691236517205#64)) + (p0_1 &&& (6148914691236517205#64))) >>> 2) &&& (3689348814741910323#64)) + ((((p0_1 >>> 1) &&& (6148914691236517205#64)) + (p0_1 &&& (6148914691236517205#64))) &&& (3689348814741910323#64))) >>> 4) + ((((((p0_1 >>> 1) &&& (6148914691236517205#64)) + (p0_1 &&& (6148914691236517205#64))) >>> 2) &&& (3689348814741910323#64)) + ((((p0_1 >>> 1) &&& (6148914691236517205#64)) + (p0_1 &&& (6148914691236517205#64))) &&& (3689348814741910323#64)))) &&& (1085102592571150095#64)))) (Nat.zero_le _) rfl (ev_move rfl) rfl ?_
  refine MO.op (v := (w64 ((((((((((p0_1 >>> 1) &&& (6148914691236517205#64)) + (p0_1 &&& (6148914691236517205#64))) >>> 2) &&& (3689348814741910323#64)) + ((((p0_1 >>> 1) &&& (6148914691236517205#64)) + (p0_1 &&& (6148914691236517205#64))) &&& (3689348814741910323#64))) >>> 4) + ((((((p0_1 >>> 1) &&& (6148914691236517205#64)) + (p0_1 &&& (6148914691236517205#64))) >>> 2) &&& (3689348814741910323#64)) + ((((p0_1 >>> 1) &&& (6148914691236517205#64)) + (p0_1 &&& (6148914691236517205#64))) &&& (3689348814741910323#64)))) &&& (1085102592571150095#64)) >>> 8))) (Nat.zero_le _) rfl (ev_bin (x := (w64 (((((((((p0_1 >>> 1) &&& (6148914691236517205#64)) + (p0_1 &&& (6148914691236517205#64))) >>> 2) &&& (3689348814741910323#64)) + ((((p0_1 >>> 1) &&& (6148914691236517205#64)) + (p0_1 &&& (6148914691236517205#64))) &&& (3689348814741910323#64))) >>> 4) + ((((((p0_1 >>> 1) &&& (6148914691236517205#64)) + (p0_1 &&& (6148914691236517205#64))) >>> 2) &&& (3689348814741910323#64)) + ((((p0_1 >>> 1) &&& (6148914691236517205#64)) + (p0_1 &&& (6148914691236517205#64))) &&& (3689348814741910323#64)))) &&& (1085102592571150095#64)))) (y := (w64 (8#64))) rfl rfl (word_shr (by decide))) rfl ?_
  refine MO.op (v := (w64 ((((((((((p0_1 >>> 1) &&& (6148914691236517205#64)) + (p0_1 &&& (6148914691236517205#64))) >>> 2) &&& (3689348814741910323#64)) + ((((p0_1 >>> 1) &&& (6148914691236517205#64)) + (p0_1 &&& (6148914691236517205#64))) &&& (3689348814741910323#64))) >>> 4) + ((((((p0_1 >>> 1) &&& (6148914691236517205#64)) + (p0_1 &&& (6148914691236517205#64))) >>> 2) &&& (3689348814741910323#64)) + ((((p0_1 >>> 1) &&& (6148914691236517205#64)) + (p0_1 &&& (6148914691236517205#64))) &&& (3689348814741910323#64)))) &&& (1085102592571150095#64)) + ((((((((((p0_1 >>> 1) &&& (6148914691236517205#64)) + (p0_1 &&& (6148914691236517205#64))) >>> 2) &&& (3689348814741910323#64)) + ((((p0_1 >>> 1) &&& (6148914691236517205#64)) + (p0_1 &&& (6148914691236517205#64))) &&& (3689348814741910323#64))) >>> 4) + ((((((p0_1 >>> 1) &&& (6148914691236517205#64)) + (p0_1 &&& (6148914691236517205#64))) >>> 2) &&& (3689348814741910323#64)) + ((((p0_1 >>> 1) &&& (6148914691236517205#64)) + (p0_1 &&& (6148914691236517205#64))) &&& (3689348814741910323#64)))) &&& (1085102592571150095#64)) >>> 8)))) (Nat.zero_le _) rfl (ev_bin (x := (w64 (((((((((p0_1 >>> 1) &&& (6148914691236517205#64)) + (p0_1 &&& (6148914691236517205#64))) >>> 2) &&& (3689348814741910323#64)) + ((((p0_1 >>> 1) &&& (6148914691236517205#64)) + (p0_1 &&& (6148914691236517205#64))) &&& (3689348814741910323#64))) >>> 4) + ((((((p0_1 >>> 1) &&& (6148914691236517205#64)) + (p0_1 &&& (6148914691236517205#64))) >>> 2) &&& (3689348814741910323#64)) + ((((p0_1 >>> 1) &&& (6148914691236517205#64)) + (p0_1 &&& (6148914691236517205#64))) &&& (3689348814741910323#64)))) &&& (1085102592571150095#64)))) (y := (w64 ((((((((((p0_1 >>> 1) &&& (6148914691236517205#64)) + (p0_1 &&& (6148914691236517205#64))) >>> 2) &&& (3689348814741910323#64)) + ((((p0_1 >>> 1) &&& (6148914691236517205#64)) + (p0_1 &&& (6148914691236517205#64))) &&& (3689348814741910323#64))) >>> 4) + ((((((p0_1 >>> 1) &&& (6148914691236517205#64)) + (p0_1 &&& (6148914691236517205#64))) >>> 2) &&& (3689348814741910323#64)) + ((((p0_1 >>> 1) &&& (6148914691236517205#64)) + (p0_1 &&& (6148914691236517205#64))) &&& (3689348814741910323#64)))) &&& (1085102592571150095#64)) >>> 8))) rfl rfl word_add) rfl ?_
  refine MO.op (v := (w64 ((((((((((p0_1 >>> 1) &&& (6148914691236517205#64)) + (p0_1 &&& (6148914691236517205#64))) >>> 2) &&& (3689348814741910323#64)) + ((((p0_1 >>> 1) &&& (6148914691236517205#64)) + (p0_1 &&& (6148914691236517205#64))) &&& (3689348814741910323#64))) >>> 4) + ((((((p0_1 >>> 1) &&& (6148914691236517205#64)) + (p0_1 &&& (6148914691236517205#64))) >>> 2) &&& (3689348814741910323#64)) + ((((p0_1 >>> 1) &&& (6148914691236517205#64)) + (p0_1 &&& (6148914691236517205#64))) &&& (3689348814741910323#64)))) &&& (1085102592571150095#64)) + ((((((((((p0_1 >>> 1) &&& (6148914691236517205#64)) + (p0_1 &&& (6148914691236517205#64))) >>> 2) &&& (3689348814741910323#64)) + ((((p0_1 >>> 1) &&& (6148914691236517205#64)) + (p0_1 &&& (6148914691236517205#64))) &&& (3689348814741910323#64))) >>> 4) + ((((((p0_1 >>> 1) &&& (6148914691236517205#64)) + (p0_1 &&& (6148914691236517205#64))) >>> 2) &&& (3689348814741910323#64)) + ((((p0_1 >>> 1) &&& (6148914691236517205#64)) + (p0_1 &&& (6148914691236517205#64))) &&& (3689348814741910323#64)))) &&& (1085102592571150095#64)) >>> 8)))) (Nat.zero_le _) rfl (ev_assign rfl) rfl ?_
  refine MO.nil ?_
  refine Then.at ?_
  show MC _ _ _ _ _ _ _
  refine MC.seq ?_
  show MC _ _ _ _ _ _ _
  refine MC.region ?_
  refine MO.op (v := (w64 ((((((((((p0_1 >>> 1) &&& (6148914691236517205#64)) + (p0_1 &&& (6148914691236517205#64))) >>> 2) &&& (3689348814741910323#64)) + ((((p0_1 >>> 1) &&& (6148914691236517205#64)) + (p0_1 &&& (6148914691236517205#64))) &&& (3689348814741910323#64))) >>> 4) + ((((((p0_1 >>> 1) &&& (6148914691236517205#64)) + (p0_1 &&& (6148914691236517205#64))) >>> 2) &&& (3689348814741910323#64)) + ((((p0_1 >>> 1) &&& (6148914691236517205#64)) + (p0_1 &&& (6148914691236517205#64))) &&& (3689348814741910323#64)))) &&& (1085102592571150095#64)) + ((((((((((p0_1 >>> 1) &&& (6148914691236517205#64)) + (p0_1 &&& (6148914691236517205#64))) >>> 2) &&& (3689348814741910323#64)) + ((((p0_1 >>> 1) &&& (6148914691236517205#64)) + (p0_1 &&& (6148914691236517205#64))) &&& (3689348814741910323#64))) >>> 4) + ((((((p0_1 >>> 1) &&& (6148914691236517205#64)) + (p0_1 &&& (6148914691236517205#64))) >>> 2) &&& (3689348814741910323#64)) + ((((p0_1 >>> 1) &&& (6148914691236517205#64)) + (p0_1 &&& (6148914691236517205#64))) &&& (3689348814741910323#64)))) &&& (1085102592571150095#64)) >>> 8)))) (Nat.zero_le _) rfl (ev_move rfl) rfl ?_
  refine MO.op (v := (w64 ((((((((((p0_1 >>> 1) &&& (6148914691236517205#64)) + (p0_1 &&& (6148914691236517205#64))) >>> 2) &&& (3689348814741910323#64)) + ((((p0_1 >>> 1) &&& (6148914691236517205#64)) + (p0_1 &&& (6148914691236517205#64))) &&& (3689348814741910323#64))) >>> 4) + ((((((p0_1 >>> 1) &&& (6148914691236517205#64)) + (p0_1 &&& (6148914691236517205#64))) >>> 2) &&& (3689348814741910323#64)) + ((((p0_1 >>> 1) &&& (6148914691236517205#64)) + (p0_1 &&& (6148914691236517205#64))) &&& (3689348814741910323#64)))) &&& (1085102592571150095#64)) + ((((((((((p0_1 >>> 1) &&& (6148914691236517205#64)) + (p0_1 &&& (6148914691236517205#64))) >>> 2) &&& (3689348814741910323#64)) + ((((p0_1 >>> 1) &&& (6148914691236517205#64)) + (p0_1 &&& (6148914691236517205#64))) &&& (3689348814741910323#64))) >>> 4) + ((((((p0_1 >>> 1) &&& (6148914691236517205#64)) + (p0_1 &&& (6148914691236517205#64))) >>> 2) &&& (3689348814741910323#64)) + ((((p0_1 >>> 1) &&& (6148914691236517205#64)) + (p0_1 &&& (6148914691236517205#64))) &&& (3689348814741910323#64)))) &&& (1085102592571150095#64)) >>> 8)))) (Nat.zero_le _) rfl (ev_move rfl) rfl ?_
  refine MO.op (v := (w64 (((((((((((p0_1 >>> 1) &&& (6148914691236517205#64)) + (p0_1 &&& (6148914691236517205#64))) >>> 2) &&& (3689348814741910323#64)) + ((((p0_1 >>> 1) &&& (6148914691236517205#64)) + (p0_1 &&& (6148914691236517205#64))) &&& (3689348814741910323#64))) >>> 4) + ((((((p0_1 >>> 1) &&& (6148914691236517205#64)) + (p0_1 &&& (6148914691236517205#64))) >>> 2) &&& (3689348814741910323#64)) + ((((p0_1 >>> 1) &&& (6148914691236517205#64)) + (p0_1 &&& (6148914691236517205#64))) &&& (3689348814741910323#64)))) &&& (1085102592571150095#64)) + ((((((((((p0_1 >>> 1) &&& (6148914691236517205#64)) + (p0_1 &&& (6148914691236517205#64))) >>> 2) &&& (3689348814741910323#64)) + ((((p0_1 >>> 1) &&& (6148914691236517205#64)) + (p0_1 &&& (6148914691236517205#64))) &&& (3689348814741910323#64))) >>> 4) + ((((((p0_1 >>> 1) &&& (6148914691236517205#64)) + (p0_1 &&& (6148914691236517205#64))) >>> 2) &&& (3689348814741910323#64)) + ((((p0_1 >>> 1) &&& (6148914691236517205#64)) + (p0_1 &&& (6148914691236517205#64))) &&& (3689348814741910323#64)))) &&& (1085102592571150095#64)) >>> 8)) >>> 16))) (Nat.zero_le _) rfl (ev_bin (x := (w64 ((((((((((p0_1 >>> 1) &&& (6148914691236517205#64)) + (p0_1 &&& (6148914691236517205#64))) >>> 2) &&& (3689348814741910323#64)) + ((((p0_1 >>> 1) &&& (6148914691236517205#64)) + (p0_1 &&& (6148914691236517205#64))) &&& (3689348814741910323#64))) >>> 4) + ((((((p0_1 >>> 1) &&& (6148914691236517205#64)) + (p0_1 &&& (6148914691236517205#64))) >>> 2) &&& (3689348814741910323#64)) + ((((p0_1 >>> 1) &&& (6148914691236517205#64)) + (p0_1 &&& (6148914691236517205#64))) &&& (3689348814741910323#64)))) &&& (1085102592571150095#64)) + ((((((((((p0_1 >>> 1) &&& (6148914691236517205#64)) + (p0_1 &&& (6148914691236517205#64))) >>> 2) &&& (3689348814741910323#64)) + ((((p0_1 >>> 1) &&& (6148914691236517205#64)) + (p0_1 &&& (6148914691236517205#64))) &&& (3689348814741910323#64))) >>> 4) + ((((((p0_1 >>> 1) &&& (6148914691236517205#64)) + (p0_1 &&& (6148914691236517205#64))) >>> 2) &&& (3689348814741910323#64)) + ((((p0_1 >>> 1) &&& (6148914691236517205#64)) + (p0_1 &&& (6148914691236517205#64))) &&& (3689348814741910323#64)))) &&& (1085102592571150095#64)) >>> 8)))) (y := (w64 (16#64))) rfl rfl (word_shr (by decide))) rfl ?_
  refine MO.op (v := (w64 (((((((((((p0_1 >>> 1) &&& (6148914691236517205#64)) + (p0_1 &&& (6148914691236517205#64))) >>> 2) &&& (3689348814741910323#64)) + ((((p0_1 >>> 1) &&& (6148914691236517205#64)) + (p0_1 &&& (6148914691236517205#64))) &&& (3689348814741910323#64))) >>> 4) + ((((((p0_1 >>> 1) &&& (6148914691236517205#64)) + (p0_1 &&& (6148914691236517205#64))) >>> 2) &&& (3689348814741910323#64)) + ((((p0_1 >>> 1) &&& (6148914691236517205#64)) + (p0_1 &&& (6148914691236517205#64))) &&& (3689348814741910323#64)))) &&& (1085102592571150095#64)) + ((((((((((p0_1 >>> 1) &&& (6148914691236517205#64)) + (p0_1 &&& (6148914691236517205#64))) >>> 2) &&& (3689348814741910323#64)) + ((((p0_1 >>> 1) &&& (6148914691236517205#64)) + (p0_1 &&& (6148914691236517205#64))) &&& (3689348814741910323#64))) >>> 4) + ((((((p0_1 >>> 1) &&& (6148914691236517205#64)) + (p0_1 &&& (6148914691236517205#64))) >>> 2) &&& (3689348814741910323#64)) + ((((p0_1 >>> 1) &&& (6148914691236517205#64)) + (p0_1 &&& (6148914691236517205#64))) &&& (3689348814741910323#64)))) &&& (1085102592571150095#64)) >>> 8)) + (((((((((((p0_1 >>> 1) &&& (6148914691236517205#64)) + (p0_1 &&& (6148914691236517205#64))) >>> 2) &&& (3689348814741910323#64)) + ((((p0_1 >>> 1) &&& (6148914691236517205#64)) + (p0_1 &&& (6148914691236517205#64))) &&& (3689348814741910323#64))) >>> 4) + ((((((p0_1 >>> 1) &&& (6148914691236517205#64)) + (p0_1 &&& (6148914691236517205#64))) >>> 2) &&& (3689348814741910323#64)) + ((((p0_1 >>> 1) &&& (6148914691236517205#64)) + (p0_1 &&& (6148914691236517205#64))) &&& (3689348814741910323#64)))) &&& (1085102592571150095#64)) + ((((((((((p0_1 >>> 1) &&& (6148914691236517205#64)) + (p0_1 &&& (6148914691236517205#64))) >>> 2) &&& (3689348814741910323#64)) + ((((p0_1 >>> 1) &&& (6148914691236517205#64)) + (p0_1 &&& (6148914691236517205#64))) &&& (3689348814741910323#64))) >>> 4) + ((((((p0_1 >>> 1) &&& (6148914691236517205#64)) + (p0_1 &&& (6148914691236517205#64))) >>> 2) &&& (3689348814741910323#64)) + ((((p0_1 >>> 1) &&& (6148914691236517205#64)) + (p0_1 &&& (6148914691236517205#64))) &&& (3689348814741910323#64)))) &&& (1085102592571150095#64)) >>> 8)) >>> 16)))) (Nat.zero_le _) rfl (ev_bin (x := (w64 ((((((((((p0_1 >>> 1) &&& (6148914691236517205#64)) + (p0_1 &&& (6148914691236517205#64))) >>> 2) &&& (3689348814741910323#64)) + ((((p0_1 >>> 1) &&& (6148914691236517205#64)) + (p0_1 &&& (6148914691236517205#64))) &&& (3689348814741910323#64))) >>> 4) + ((((((p0_1 >>> 1) &&& (6148914691236517205#64)) + (p0_1 &&& (6148914691236517205#64))) >>> 2) &&& (3689348814741910323#64)) + ((((p0_1 >>> 1) &&& (6148914691236517205#64)) + (p0_1 &&& (6148914691236517205#64))) &&& (3689348814741910323#64)))) &&& (1085102592571150095#64)) + ((((((((((p0_1 >>> 1) &&& (6148914691236517205#64)) + (p0_1 &&& (6148914691236517205#64))) >>> 2) &&& (3689348814741910323#64)) + ((((p0_1 >>> 1) &&& (6148914691236517205#64)) + (p0_1 &&& (6148914691236517205#64))) &&& (3689348814741910323#64))) >>> 4) + ((((((p0_1 >>> 1) &&& (6148914691236517205#64)) + (p0_1 &&& (6148914691236517205#64))) >>> 2) &&& (3689348814741910323#64)) + ((((p0_1 >>> 1) &&& (6148914691236517205#64)) + (p0_1 &&& (6148914691236517205#64))) &&& (3689348814741910323#64)))) &&& (1085102592571150095#64)) >>> 8)))) (y := (w64 (((((((((((p0_1 >>> 1) &&& (6148914691236517205#64)) + (p0_1 &&& (6148914691236517205#64))) >>> 2) &&& (3689348814741910323#64)) + ((((p0_1 >>> 1) &&& (6148914691236517205#64)) + (p0_1 &&& (6148914691236517205#64))) &&& (3689348814741910323#64))) >>> 4) + ((((((p0_1 >>> 1) &&& (6148914691236517205#64)) + (p0_1 &&& (6148914691236517205#64))) >>> 2) &&& (3689348814741910323#64)) + ((((p0_1 >>> 1) &&& (6148914691236517205#64)) + (p0_1 &&& (6148914691236517205#64))) &&& (3689348814741910323#64)))) &&& (1085102592571150095#64)) + ((((((((((p0_1 >>> 1) &&& (6148914691236517205#64)) + (p0_1 &&& (6148914691236517205#64))) >>> 2) &&& (3689348814741910323#64)) + ((((p0_1 >>> 1) &&& (6148914691236517205#64)) + (p0_1 &&& (6148914691236517205#64))) &&& (3689348814741910323#64))) >>> 4) + ((((((p0_1 >>> 1) &&& (6148914691236517205#64)) + (p0_1 &&& (6148914691236517205#64))) >>> 2) &&& (3689348814741910323#64)) + ((((p0_1 >>> 1) &&& (6148914691236517205#64)) + (p0_1 &&& (6148914691236517205#64))) &&& (3689348814741910323#64)))) &&& (1085102592571150095#64)) >>> 8)) >>> 16))) rfl rfl word_add) rfl ?_
  refine MO.op (v := (w64 (((((((((((p0_1 >>> 1) &&& (6148914691236517205#64)) + (p0_1 &&& (6148914691236517205#64))) >>> 2) &&& (3689348814741910323#64)) + ((((p0_1 >>> 1) &&& (6148914691236517205#64)) + (p0_1 &&& (6148914691236517205#64))) &&& (3689348814741910323#64))) >>> 4) + ((((((p0_1 >>> 1) &&& (6148914691236517205#64)) + (p0_1 &&& (6148914691236517205#64))) >>> 2) &&& (3689348814741910323#64)) + ((((p0_1 >>> 1) &&& (6148914691236517205#64)) + (p0_1 &&& (6148914691236517205#64))) &&& (3689348814741910323#64)))) &&& (1085102592571150095#64)) + ((((((((((p0_1 >>> 1) &&& (6148914691236517205#64)) + (p0_1 &&& (6148914691236517205#64))) >>> 2) &&& (3689348814741910323#64)) + ((((p0_1 >>> 1) &&& (6148914691236517205#64)) + (p0_1 &&& (6148914691236517205#64))) &&& (3689348814741910323#64))) >>> 4) + ((((((p0_1 >>> 1) &&& (6148914691236517205#64)) + (p0_1 &&& (6148914691236517205#64))) >>> 2) &&& (3689348814741910323#64)) + ((((p0_1 >>> 1) &&& (6148914691236517205#64)) + (p0_1 &&& (6148914691236517205#64))) &&& (3689348814741910323#64)))) &&& (1085102592571150095#64)) >>> 8)) + (((((((((((p0_1 >>> 1) &&& (6148914691236517205#64)) + (p0_1 &&& (6148914691236517205#64))) >>> 2) &&& (3689348814741910323#64)) + ((((p0_1 >>> 1) &&& (6148914691236517205#64)) + (p0_1 &&& (6148914691236517205#64))) &&& (3689348814741910323#64))) >>> 4) + ((((((p0_1 >>> 1) &&& (6148914691236517205#64)) + (p0_1 &&& (6148914691236517205#64))) >>> 2) &&& (3689348814741910323#64)) + ((((p0_1 >>> 1) &&& (6148914691236517205#64)) + (p0_1 &&& (6148914691236517205#64))) &&& (3689348814741910323#64)))) &&& (1085102592571150095#64)) + ((((((((((p0_1 >>> 1) &&& (6148914691236517205#64)) + (p0_1 &&& (6148914691236517205#64))) >>> 2) &&& (3689348814741910323#64)) + ((((p0_1 >>> 1) &&& (6148914691236517205#64)) + (p0_1 &&& (6148914691236517205#64))) &&& (3689348814741910323#64))) >>> 4) + ((((((p0_1 >>> 1) &&& (6148914691236517205#64)) + (p0_1 &&& (6148914691236517205#64))) >>> 2) &&& (3689348814741910323#64)) + ((((p0_1 >>> 1) &&& (6148914691236517205#64)) + (p0_1 &&& (6148914691236517205#64))) &&& (3689348814741910323#64)))) &&& (1085102592571150095#64)) >>> 8)) >>> 16)))) (Nat.zero_le _) rfl (ev_assign rfl) rfl ?_
  refine MO.nil ?_
  refine Then.at ?_
  show MC _ _ _ _ _ _ _
  refine MC.seq ?_
  show MC _ _ _ _ _ _ _
  refine MC.region ?_
  refine MO.op (v := (w64 (((((((((((p0_1 >>> 1) &&& (6148914691236517205#64)) + (p0_1 &&& (6148914691236517205#64))) >>> 2) &&& (3689348814741910323#64)) + ((((p0_1 >>> 1) &&& (6148914691236517205#64)) + (p0_1 &&& (6148914691236517205#64))) &&& (3689348814741910323#64))) >>> 4) + ((((((p0_1 >>> 1) &&& (6148914691236517205#64)) + (p0_1 &&& (6148914691236517205#64))) >>> 2) &&& (3689348814741910323#64)) + ((((p0_1 >>> 1) &&& (6148914691236517205#64)) + (p0_1 &&& (6148914691236517205#64))) &&& (3689348814741910323#64)))) &&& (1085102592571150095#64)) + ((((((((((p0_1 >>> 1) &&& (6148914691236517205#64)) + (p0_1 &&& (6148914691236517205#64))) >>> 2) &&& (3689348814741910323#64)) + ((((p0_1 >>> 1) &&& (6148914691236517205#64)) + (p0_1 &&& (6148914691236517205#64))) &&& (3689348814741910323#64))) >>> 4) + ((((((p0_1 >>> 1) &&& (6148914691236517205#64)) + (p0_1 &&& (6148914691236517205#64))) >>> 2) &&& (3689348814741910323#64)) + ((((p0_1 >>> 1) &&& (6148914691236517205#64)) + (p0_1 &&& (6148914691236517205#64))) &&& (3689348814741910323#64)))) &&& (1085102592571150095#64)) >>> 8)) + (((((((((((p0_1 >>> 1) &&& (6148914691236517205#64)) + (p0_1 &&& (6148914691236517205#64))) >>> 2) &&& (3689348814741910323#64)) + ((((p0_1 >>> 1) &&& (6148914691236517205#64)) + (p0_1 &&& (6148914691236517205#64))) &&& (3689348814741910323#64))) >>> 4) + ((((((p0_1 >>> 1) &&& (6148914691236517205#64)) + (p0_1 &&& (6148914691236517205#64))) >>> 2) &&& (3689348814741910323#64)) + ((((p0_1 >>> 1) &&& (6148914691236517205#64)) + (p0_1 &&& (6148914691236517205#64))) &&& (3689348814741910323#64)))) &&& (1085102592571150095#64)) + ((((((((((p0_1 >>> 1) &&& (6148914691236517205#64)) + (p0_1 &&& (6148914691236517205#64))) >>> 2) &&& (3689348814741910323#64)) + ((((p0_1 >>> 1) &&& (6148914691236517205#64)) + (p0_1 &&& (6148914691236517205#64))) &&& (3689348814741910323#64))) >>> 4) + ((((((p0_1 >>> 1) &&& (6148914691236517205#64)) + (p0_1 &&& (6148914691236517205#64))) >>> 2) &&& (3689348814741910323#64)) + ((((p0_1 >>> 1) &&& (6148914691236517205#64)) + (p0_1 &&& (6148914691236517205#64))) &&& (3689348814741910323#64)))) &&& (1085102592571150095#64)) >>> 8)) >>> 16)))) (Nat.zero_le _) rfl (ev_move rfl) rfl ?_
  refine MO.op (v := (w64 (((((((((((p0_1 >>> 1) &&& (6148914691236517205#64)) + (p0_1 &&& (6148914691236517205#64))) >>> 2) &&& (3689348814741910323#64)) + ((((p0_1 >>> 1) &&& (6148914691236517205#64)) + (p0_1 &&& (6148914691236517205#64))) &&& (3689348814741910323#64))) >>> 4) + ((((((p0_1 >>> 1) &&& (6148914691236517205#64)) + (p0_1 &&& (6148914691236517205#64))) >>> 2) &&& (3689348814741910323#64)) + ((((p0_1 >>> 1) &&& (6148914691236517205#64)) + (p0_1 &&& (6148914691236517205#64))) &&& (3689348814741910323#64)))) &&& (1085102592571150095#64)) + ((((((((((p0_1 >>> 1) &&& (6148914691236517205#64)) + (p0_1 &&& (6148914691236517205#64))) >>> 2) &&& (3689348814741910323#64)) + ((((p0_1 >>> 1) &&& (6148914691236517205#64)) + (p0_1 &&& (6148914691236517205#64))) &&& (3689348814741910323#64))) >>> 4) + ((((((p0_1 >>> 1) &&& (6148914691236517205#64)) + (p0_1 &&& (6148914691236517205#64))) >>> 2) &&& (3689348814741910323#64)) + ((((p0_1 >>> 1) &&& (6148914691236517205#64)) + (p0_1 &&& (6148914691236517205#64))) &&& (3689348814741910323#64)))) &&& (1085102592571150095#64)) >>> 8)) + (((((((((((p0_1 >>> 1) &&& (6148914691236517205#64)) + (p0_1 &&& (6148914691236517205#64))) >>> 2) &&& (3689348814741910323#64)) + ((((p0_1 >>> 1) &&& (6148914691236517205#64)) + (p0_1 &&& (6148914691236517205#64))) &&& (3689348814741910323#64))) >>> 4) + ((((((p0_1 >>> 1) &&& (6148914691236517205#64)) + (p0_1 &&& (6148914691236517205#64))) >>> 2) &&& (3689348814741910323#64)) + ((((p0_1 >>> 1) &&& (6148914691236517205#64)) + (p0_1 &&& (6148914691236517205#64))) &&& (3689348814741910323#64)))) &&& (1085102592571150095#64)) + ((((((((((p0_1 >>> 1) &&& (6148914691236517205#64)) + (p0_1 &&& (6148914691236517205#64))) >>> 2) &&& (3689348814741910323#64)) + ((((p0_1 >>> 1) &&& (6148914691236517205#64)) + (p0_1 &&& (6148914691236517205#64))) &&& (3689348814741910323#64))) >>> 4) + ((((((p0_1 >>> 1) &&& (6148914691236517205#64)) + (p0_1 &&& (6148914691236517205#64))) >>> 2) &&& (3689348814741910323#64)) + ((((p0_1 >>> 1) &&& (6148914691236517205#64)) + (p0_1 &&& (6148914691236517205#64))) &&& (3689348814741910323#64)))) &&& (1085102592571150095#64)) >>> 8)) >>> 16)))) (Nat.zero_le _) rfl (ev_move rfl) rfl ?_
  refine MO.op (v := (w64 ((((((((((((p0_1 >>> 1) &&& (6148914691236517205#64)) + (p0_1 &&& (6148914691236517205#64))) >>> 2) &&& (3689348814741910323#64)) + ((((p0_1 >>> 1) &&& (6148914691236517205#64)) + (p0_1 &&& (6148914691236517205#64))) &&& (3689348814741910323#64))) >>> 4) + ((((((p0_1 >>> 1) &&& (6148914691236517205#64)) + (p0_1 &&& (6148914691236517205#64))) >>> 2) &&& (3689348814741910323#64)) + ((((p0_1 >>> 1) &&& (6148914691236517205#64)) + (p0_1 &&& (6148914691236517205#64))) &&& (3689348814741910323#64)))) &&& (1085102592571150095#64)) + ((((((((((p0_1 >>> 1) &&& (6148914691236517205#64)) + (p0_1 &&& (6148914691236517205#64))) >>> 2) &&& (3689348814741910323#64)) + ((((p0_1 >>> 1) &&& (6148914691236517205#64)) + (p0_1 &&& (6148914691236517205#64))) &&& (3689348814741910323#64))) >>> 4) + ((((((p0_1 >>> 1) &&& (6148914691236517205#64)) + (p0_1 &&& (6148914691236517205#64))) >>> 2) &&& (3689348814741910323#64)) + ((((p0_1 >>> 1) &&& (6148914691236517205#64)) + (p0_1 &&& (6148914691236517205#64))) &&& (3689348814741910323#64)))) &&& (1085102592571150095#64)) >>> 8)) + (((((((((((p0_1 >>> 1) &&& (6148914691236517205#64)) + (p0_1 &&& (6148914691236517205#64))) >>> 2) &&& (3689348814741910323#64)) + ((((p0_1 >>> 1) &&& (6148914691236517205#64)) + (p0_1 &&& (6148914691236517205#64))) &&& (3689348814741910323#64))) >>> 4) + ((((((p0_1 >>> 1) &&& (6148914691236517205#64)) + (p0_1 &&& (6148914691236517205#64))) >>> 2) &&& (3689348814741910323#64)) + ((((p0_1 >>> 1) &&& (6148914691236517205#64)) + (p0_1 &&& (6148914691236517205#64))) &&& (3689348814741910323#64)))) &&& (1085102592571150095#64)) + ((((((((((p0_1 >>> 1) &&& (6148914691236517205#64)) + (p0_1 &&& (6148914691236517205#64))) >>> 2) &&& (3689348814741910323#64)) + ((((p0_1 >>> 1) &&& (6148914691236517205#64)) + (p0_1 &&& (6148914691236517205#64))) &&& (3689348814741910323#64))) >>> 4) + ((((((p0_1 >>> 1) &&& (6148914691236517205#64)) + (p0_1 &&& (6148914691236517205#64))) >>> 2) &&& (3689348814741910323#64)) + ((((p0_1 >>> 1) &&& (6148914691236517205#64)) + (p0_1 &&& (6148914691236517205#64))) &&& (3689348814741910323#64)))) &&& (1085102592571150095#64)) >>> 8)) >>> 16)) >>> 32))) (Nat.zero_le _) rfl (ev_bin (x := (w64 (((((((((((p0_1 >>> 1) &&& (6148914691236517205#64)) + (p0_1 &&& (6148914691236517205#64))) >>> 2) &&& (3689348814741910323#64)) + ((((p0_1 >>> 1) &&& (6148914691236517205#64)) + (p0_1 &&& (6148914691236517205#64))) &&& (3689348814741910323#64))) >>> 4) + ((((((p0_1 >>> 1) &&& (6148914691236517205#64)) + (p0_1 &&& (6148914691236517205#64))) >>> 2) &&& (3689348814741910323#64)) + ((((p0_1 >>> 1) &&& (6148914691236517205#64)) + (p0_1 &&& (6148914691236517205#64))) &&& (3689348814741910323#64)))) &&& (1085102592571150095#64)) + ((((((((((p0_1 >>> 1) &&& (6148914691236517205#64)) + (p0_1 &&& (6148914691236517205#64))) >>> 2) &&& (3689348814741910323#64)) + ((((p0_1 >>> 1) &&& (6148914691236517205#64)) + (p0_1 &&& (6148914691236517205#64))) &&& (3689348814741910323#64))) >>> 4) + ((((((p0_1 >>> 1) &&& (6148914691236517205#64)) + (p0_1 &&& (6148914691236517205#64))) >>> 2) &&& (3689348814741910323#64)) + ((((p0_1 >>> 1) &&& (6148914691236517205#64)) + (p0_1 &&& (6148914691236517205#64))) &&& (3689348814741910323#64)))) &&& (1085102592571150095#64)) >>> 8)) + (((((((((((p0_1 >>> 1) &&& (6148914691236517205#64)) + (p0_1 &&& (6148914691236517205#64))) >>> 2) &&& (3689348814741910323#64)) + ((((p0_1 >>> 1) &&& (6148914691236517205#64)) + (p0_1 &&& (6148914691236517205#64))) &&& (3689348814741910323#64))) >>> 4) + ((((((p0_1 >>> 1) &&& (6148914691236517205#64)) + (p0_1 &&& (6148914691236517205#64))) >>> 2) &&& (3689348814741910323#64)) + ((((p0_1 >>> 1) &&& (6148914691236517205#64)) + (p0_1 &&& (6148914691236517205#64))) &&& (3689348814741910323#64)))) &&& (1085102592571150095#64)) + ((((((((((p0_1 >>> 1) &&& (6148914691236517205#64)) + (p0_1 &&& (6148914691236517205#64))) >>> 2) &&& (3689348814741910323#64)) + ((((p0_1 >>> 1) &&& (6148914691236517205#64)) + (p0_1 &&& (6148914691236517205#64))) &&& (3689348814741910323#64))) >>> 4) + ((((((p0_1 >>> 1) &&& (6148914691236517205#64)) + (p0_1 &&& (6148914691236517205#64))) >>> 2) &&& (3689348814741910323#64)) + ((((p0_1 >>> 1) &&& (6148914691236517205#64)) + (p0_1 &&& (6148914691236517205#64))) &&& (3689348814741910323#64)))) &&& (1085102592571150095#64)) >>> 8)) >>> 16)))) (y := (w64 (32#64))) rfl rfl (word_shr (by decide))) rfl ?_
  refine MO.op (v := (w64 ((((((((((((p0_1 >>> 1) &&& (6148914691236517205#64)) + (p0_1 &&& (6148914691236517205#64))) >>> 2) &&& (3689348814741910323#64)) + ((((p0_1 >>> 1) &&& (6148914691236517205#64)) + (p0_1 &&& (6148914691236517205#64))) &&& (3689348814741910323#64))) >>> 4) + ((((((p0_1 >>> 1) &&& (6148914691236517205#64)) + (p0_1 &&& (6148914691236517205#64))) >>> 2) &&& (3689348814741910323#64)) + ((((p0_1 >>> 1) &&& (6148914691236517205#64)) + (p0_1 &&& (6148914691236517205#64))) &&& (3689348814741910323#64)))) &&& (1085102592571150095#64)) + ((((((((((p0_1 >>> 1) &&& (6148914691236517205#64)) + (p0_1 &&& (6148914691236517205#64))) >>> 2) &&& (3689348814741910323#64)) + ((((p0_1 >>> 1) &&& (6148914691236517205#64)) + (p0_1 &&& (6148914691236517205#64))) &&& (3689348814741910323#64))) >>> 4) + ((((((p0_1 >>> 1) &&& (6148914691236517205#64)) + (p0_1 &&& (6148914691236517205#64))) >>> 2) &&& (3689348814741910323#64)) + ((((p0_1 >>> 1) &&& (6148914691236517205#64)) + (p0_1 &&& (6148914691236517205#64))) &&& (3689348814741910323#64)))) &&& (1085102592571150095#64)) >>> 8)) + (((((((((((p0_1 >>> 1) &&& (6148914691236517205#64)) + (p0_1 &&& (6148914691236517205#64))) >>> 2) &&& (3689348814741910323#64)) + ((((p0_1 >>> 1) &&& (6148914691236517205#64)) + (p0_1 &&& (6148914691236517205#64))) &&& (3689348814741910323#64))) >>> 4) + ((((((p0_1 >>> 1) &&& (6148914691236517205#64)) + (p0_1 &&& (6148914691236517205#64))) >>> 2) &&& (3689348814741910323#64)) + ((((p0_1 >>> 1) &&& (6148914691236517205#64)) + (p0_1 &&& (6148914691236517205#64))) &&& (3689348814741910323#64)))) &&& (1085102592571150095#64)) + ((((((((((p0_1 >>> 1) &&& (6148914691236517205#64)) + (p0_1 &&& (6148914691236517205#64))) >>> 2) &&& (3689348814741910323#64)) + ((((p0_1 >>> 1) &&& (6148914691236517205#64)) + (p0_1 &&& (6148914691236517205#64))) &&& (3689348814741910323#64))) >>> 4) + ((((((p0_1 >>> 1) &&& (6148914691236517205#64)) + (p0_1 &&& (6148914691236517205#64))) >>> 2) &&& (3689348814741910323#64)) + ((((p0_1 >>> 1) &&& (6148914691236517205#64)) + (p0_1 &&& (6148914691236517205#64))) &&& (3689348814741910323#64)))) &&& (1085102592571150095#64)) >>> 8)) >>> 16)) + ((((((((((((p0_1 >>> 1) &&& (6148914691236517205#64)) + (p0_1 &&& (6148914691236517205#64))) >>> 2) &&& (3689348814741910323#64)) + ((((p0_1 >>> 1) &&& (6148914691236517205#64)) + (p0_1 &&& (6148914691236517205#64))) &&& (3689348814741910323#64))) >>> 4) + ((((((p0_1 >>> 1) &&& (6148914691236517205#64)) + (p0_1 &&& (6148914691236517205#64))) >>> 2) &&& (3689348814741910323#64)) + ((((p0_1 >>> 1) &&& (6148914691236517205#64)) + (p0_1 &&& (6148914691236517205#64))) &&& (3689348814741910323#64)))) &&& (1085102592571150095#64)) + ((((((((((p0_1 >>> 1) &&& (6148914691236517205#64)) + (p0_1 &&& (6148914691236517205#64))) >>> 2) &&& (3689348814741910323#64)) + ((((p0_1 >>> 1) &&& (6148914691236517205#64)) + (p0_1 &&& (6148914691236517205#64))) &&& (3689348814741910323#64))) >>> 4) + ((((((p0_1 >>> 1) &&& (6148914691236517205#64)) + (p0_1 &&& (6148914691236517205#64))) >>> 2) &&& (3689348814741910323#64)) + ((((p0_1 >>> 1) &&& (6148914691236517205#64)) + (p0_1 &&& (6148914691236517205#64))) &&& (3689348814741910323#64)))) &&& (1085102592571150095#64)) >>> 8)) + (((((((((((p0_1 >>> 1) &&& (6148914691236517205#64)) + (p0_1 &&& (6148914691236517205#64))) >>> 2) &&& (3689348814741910323#64)) + ((((p0_1 >>> 1) &&& (6148914691236517205#64)) + (p0_1 &&& (6148914691236517205#64))) &&& (3689348814741910323#64))) >>> 4) + ((((((p0_1 >>> 1) &&& (6148914691236517205#64)) + (p0_1 &&& (6148914691236517205#64))) >>> 2) &&& (3689348814741910323#64)) + ((((p0_1 >>> 1) &&& (6148914691236517205#64)) + (p0_1 &&& (6148914691236517205#64))) &&& (3689348814741910323#64)))) &&& (1085102592571150095#64)) + ((((((((((p0_1 >>> 1) &&& (6148914691236517205#64)) + (p0_1 &&& (6148914691236517205#64))) >>> 2) &&& (3689348814741910323#64)) + ((((p0_1 >>> 1) &&& (6148914691236517205#64)) + (p0_1 &&& (6148914691236517205#64))) &&& (3689348814741910323#64))) >>> 4) + ((((((p0_1 >>> 1) &&& (6148914691236517205#64)) + (p0_1 &&& (6148914691236517205#64))) >>> 2) &&& (3689348814741910323#64)) + ((((p0_1 >>> 1) &&& (6148914691236517205#64)) + (p0_1 &&& (6148914691236517205#64))) &&& (3689348814741910323#64)))) &&& (1085102592571150095#64)) >>> 8)) >>> 16)) >>> 32)))) (Nat.zero_le _) rfl (ev_bin (x := (w64 (((((((((((p0_1 >>> 1) &&& (6148914691236517205#64)) + (p0_1 &&& (6148914691236517205#64))) >>> 2) &&& (3689348814741910323#64)) + ((((p0_1 >>> 1) &&& (6148914691236517205#64)) + (p0_1 &&& (6148914691236517205#64))) &&& (3689348814741910323#64))) >>> 4) + ((((((p0_1 >>> 1) &&& (6148914691236517205#64)) + (p0_1 &&& (6148914691236517205#64))) >>> 2) &&& (3689348814741910323#64)) + ((((p0_1 >>> 1) &&& (6148914691236517205#64)) + (p0_1 &&& (6148914691236517205#64))) &&& (3689348814741910323#64)))) &&& (1085102592571150095#64)) + ((((((((((p0_1 >>> 1) &&& (6148914691236517205#64)) + (p0_1 &&& (6148914691236517205#64))) >>> 2) &&& (3689348814741910323#64)) + ((((p0_1 >>> 1) &&& (6148914691236517205#64)) + (p0_1 &&& (6148914691236517205#64))) &&& (3689348814741910323#64))) >>> 4) + ((((((p0_1 >>> 1) &&& (6148914691236517205#64)) + (p0_1 &&& (6148914691236517205#64))) >>> 2) &&& (3689348814741910323#64)) + ((((p0_1 >>> 1) &&& (6148914691236517205#64)) + (p0_1 &&& (6148914691236517205#64))) &&& (3689348814741910323#64)))) &&& (1085102592571150095#64)) >>> 8)) + (((((((((((p0_1 >>> 1) &&& (6148914691236517205#64)) + (p0_1 &&& (6148914691236517205#64))) >>> 2) &&& (3689348814741910323#64)) + ((((p0_1 >>> 1) &&& (6148914691236517205#64)) + (p0_1 &&& (6148914691236517205#64))) &&& (3689348814741910323#64))) >>> 4) + ((((((p0_1 >>> 1) &&& (6148914691236517205#64)) + (p0_1 &&& (6148914691236517205#64))) >>> 2) &&& (3689348814741910323#64)) + ((((p0_1 >>> 1) &&& (6148914691236517205#64)) + (p0_1 &&& (6148914691236517205#64))) &&& (3689348814741910323#64)))) &&& (1085102592571150095#64)) + ((((((((((p0_1 >>> 1) &&& (6148914691236517205#64)) + (p0_1 &&& (6148914691236517205#64))) >>> 2) &&& (3689348814741910323#64)) + ((((p0_1 >>> 1) &&& (6148914691236517205#64)) + (p0_1 &&& (6148914691236517205#64))) &&& (3689348814741910323#64))) >>> 4) + ((((((p0_1 >>> 1) &&& (6148914691236517205#64)) + (p0_1 &&& (6148914691236517205#64))) >>> 2) &&& (3689348814741910323#64)) + ((((p0_1 >>> 1) &&& (6148914691236517205#64)) + (p0_1 &&& (6148914691236517205#64))) &&& (3689348814741910323#64)))) &&& (1085102592571150095#64)) >>> 8)) >>> 16)))) (y := (w64 ((((((((((((p0_1 >>> 1) &&& (6148914691236517205#64)) + (p0_1 &&& (6148914691236517205#64))) >>> 2) &&& (3689348814741910323#64)) + ((((p0_1 >>> 1) &&& (6148914691236517205#64)) + (p0_1 &&& (6148914691236517205#64))) &&& (3689348814741910323#64))) >>> 4) + ((((((p0_1 >>> 1) &&& (6148914691236517205#64)) + (p0_1 &&& (6148914691236517205#64))) >>> 2) &&& (3689348814741910323#64)) + ((((p0_1 >>> 1) &&& (6148914691236517205#64)) + (p0_1 &&& (6148914691236517205#64))) &&& (3689348814741910323#64)))) &&& (1085102592571150095#64)) + ((((((((((p0_1 >>> 1) &&& (6148914691236517205#64)) + (p0_1 &&& (6148914691236517205#64))) >>> 2) &&& (3689348814741910323#64)) + ((((p0_1 >>> 1) &&& (6148914691236517205#64)) + (p0_1 &&& (6148914691236517205#64))) &&& (3689348814741910323#64))) >>> 4) + ((((((p0_1 >>> 1) &&& (6148914691236517205#64)) + (p0_1 &&& (6148914691236517205#64))) >>> 2) &&& (3689348814741910323#64)) + ((((p0_1 >>> 1) &&& (6148914691236517205#64)) + (p0_1 &&& (6148914691236517205#64))) &&& (3689348814741910323#64)))) &&& (1085102592571150095#64)) >>> 8)) + (((((((((((p0_1 >>> 1) &&& (6148914691236517205#64)) + (p0_1 &&& (6148914691236517205#64))) >>> 2) &&& (3689348814741910323#64)) + ((((p0_1 >>> 1) &&& (6148914691236517205#64)) + (p0_1 &&& (6148914691236517205#64))) &&& (3689348814741910323#64))) >>> 4) + ((((((p0_1 >>> 1) &&& (6148914691236517205#64)) + (p0_1 &&& (6148914691236517205#64))) >>> 2) &&& (3689348814741910323#64)) + ((((p0_1 >>> 1) &&& (6148914691236517205#64)) + (p0_1 &&& (6148914691236517205#64))) &&& (3689348814741910323#64)))) &&& (1085102592571150095#64)) + ((((((((((p0_1 >>> 1) &&& (6148914691236517205#64)) + (p0_1 &&& (6148914691236517205#64))) >>> 2) &&& (3689348814741910323#64)) + ((((p0_1 >>> 1) &&& (6148914691236517205#64)) + (p0_1 &&& (6148914691236517205#64))) &&& (3689348814741910323#64))) >>> 4) + ((((((p0_1 >>> 1) &&& (6148914691236517205#64)) + (p0_1 &&& (6148914691236517205#64))) >>> 2) &&& (3689348814741910323#64)) + ((((p0_1 >>> 1) &&& (6148914691236517205#64)) + (p0_1 &&& (6148914691236517205#64))) &&& (3689348814741910323#64)))) &&& (1085102592571150095#64)) >>> 8)) >>> 16)) >>> 32))) rfl rfl word_add) rfl ?_
  refine MO.op (v := (w64 ((((((((((((p0_1 >>> 1) &&& (6148914691236517205#64)) + (p0_1 &&& (6148914691236517205#64))) >>> 2) &&& (3689348814741910323#64)) + ((((p0_1 >>> 1) &&& (6148914691236517205#64)) + (p0_1 &&& (6148914691236517205#64))) &&& (3689348814741910323#64))) >>> 4) + ((((((p0_1 >>> 1) &&& (6148914691236517205#64)) + (p0_1 &&& (6148914691236517205#64))) >>> 2) &&& (3689348814741910323#64)) + ((((p0_1 >>> 1) &&& (6148914691236517205#64)) + (p0_1 &&& (6148914691236517205#64))) &&& (3689348814741910323#64)))) &&& (1085102592571150095#64)) + ((((((((((p0_1 >>> 1) &&& (6148914691236517205#64)) + (p0_1 &&& (6148914691236517205#64))) >>> 2) &&& (3689348814741910323#64)) + ((((p0_1 >>> 1) &&& (6148914691236517205#64)) + (p0_1 &&& (6148914691236517205#64))) &&& (3689348814741910323#64))) >>> 4) + ((((((p0_1 >>> 1) &&& (6148914691236517205#64)) + (p0_1 &&& (6148914691236517205#64))) >>> 2) &&& (3689348814741910323#64)) + ((((p0_1 >>> 1) &&& (6148914691236517205#64)) + (p0_1 &&& (6148914691236517205#64))) &&& (3689348814741910323#64)))) &&& (1085102592571150095#64)) >>> 8)) + (((((((((((p0_1 >>> 1) &&& (6148914691236517205#64)) + (p0_1 &&& (6148914691236517205#64))) >>> 2) &&& (3689348814741910323#64)) + ((((p0_1 >>> 1) &&& (6148914691236517205#64)) + (p0_1 &&& (6148914691236517205#64))) &&& (3689348814741910323#64))) >>> 4) + ((((((p0_1 >>> 1) &&& (6148914691236517205#64)) + (p0_1 &&& (6148914691236517205#64))) >>> 2) &&& (3689348814741910323#64)) + ((((p0_1 >>> 1) &&& (6148914691236517205#64)) + (p0_1 &&& (6148914691236517205#64))) &&& (3689348814741910323#64)))) &&& (1085102592571150095#64)) + ((((((((((p0_1 >>> 1) &&& (6148914691236517205#64)) + (p0_1 &&& (6148914691236517205#64))) >>> 2) &&& (3689348814741910323#64)) + ((((p0_1 >>> 1) &&& (6148914691236517205#64)) + (p0_1 &&& (6148914691236517205#64))) &&& (3689348814741910323#64))) >>> 4) + ((((((p0_1 >>> 1) &&& (6148914691236517205#64)) + (p0_1 &&& (6148914691236517205#64))) >>> 2) &&& (3689348814741910323#64)) + ((((p0_1 >>> 1) &&& (6148914691236517205#64)) + (p0_1 &&& (6148914691236517205#64))) &&& (3689348814741910323#64)))) &&& (1085102592571150095#64)) >>> 8)) >>> 16)) + ((((((((((((p0_1 >>> 1) &&& (6148914691236517205#64)) + (p0_1 &&& (6148914691236517205#64))) >>> 2) &&& (3689348814741910323#64)) + ((((p0_1 >>> 1) &&& (6148914691236517205#64)) + (p0_1 &&& (6148914691236517205#64))) &&& (3689348814741910323#64))) >>> 4) + ((((((p0_1 >>> 1) &&& (6148914691236517205#64)) + (p0_1 &&& (6148914691236517205#64))) >>> 2) &&& (3689348814741910323#64)) + ((((p0_1 >>> 1) &&& (6148914691236517205#64)) + (p0_1 &&& (6148914691236517205#64))) &&& (3689348814741910323#64)))) &&& (1085102592571150095#64)) + ((((((((((p0_1 >>> 1) &&& (6148914691236517205#64)) + (p0_1 &&& (6148914691236517205#64))) >>> 2) &&& (3689348814741910323#64)) + ((((p0_1 >>> 1) &&& (6148914691236517205#64)) + (p0_1 &&& (6148914691236517205#64))) &&& (3689348814741910323#64))) >>> 4) + ((((((p0_1 >>> 1) &&& (6148914691236517205#64)) + (p0_1 &&& (6148914691236517205#64))) >>> 2) &&& (3689348814741910323#64)) + ((((p0_1 >>> 1) &&& (6148914691236517205#64)) + (p0_1 &&& (6148914691236517205#64))) &&& (3689348814741910323#64)))) &&& (1085102592571150095#64)) >>> 8)) + (((((((((((p0_1 >>> 1) &&& (6148914691236517205#64)) + (p0_1 &&& (6148914691236517205#64))) >>> 2) &&& (3689348814741910323#64)) + ((((p0_1 >>> 1) &&& (6148914691236517205#64)) + (p0_1 &&& (6148914691236517205#64))) &&& (3689348814741910323#64))) >>> 4) + ((((((p0_1 >>> 1) &&& (6148914691236517205#64)) + (p0_1 &&& (6148914691236517205#64))) >>> 2) &&& (3689348814741910323#64)) + ((((p0_1 >>> 1) &&& (6148914691236517205#64)) + (p0_1 &&& (6148914691236517205#64))) &&& (3689348814741910323#64)))) &&& (1085102592571150095#64)) + ((((((((((p0_1 >>> 1) &&& (6148914691236517205#64)) + (p0_1 &&& (6148914691236517205#64))) >>> 2) &&& (3689348814741910323#64)) + ((((p0_1 >>> 1) &&& (6148914691236517205#64)) + (p0_1 &&& (6148914691236517205#64))) &&& (3689348814741910323#64))) >>> 4) + ((((((p0_1 >>> 1) &&& (6148914691236517205#64)) + (p0_1 &&& (6148914691236517205#64))) >>> 2) &&& (3689348814741910323#64)) + ((((p0_1 >>> 1) &&& (6148914691236517205#64)) + (p0_1 &&& (6148914691236517205#64))) &&& (3689348814741910323#64)))) &&& (1085102592571150095#64)) >>> 8)) >>> 16)) >>> 32)))) (Nat.zero_le _) rfl (ev_assign rfl) rfl ?_
  refine MO.nil ?_
  refine Then.at ?_
  show MC _ _ _ _ _ _ _
  refine MC.seq ?_
  show MC _ _ _ _ _ _ _
  refine MC.region ?_
  refine MO.op (v := (w64 ((((((((((((p0_1 >>> 1) &&& (6148914691236517205#64)) + (p0_1 &&& (6148914691236517205#64))) >>> 2) &&& (3689348814741910323#64)) + ((((p0_1 >>> 1) &&& (6148914691236517205#64)) + (p0_1 &&& (6148914691236517205#64))) &&& (3689348814741910323#64))) >>> 4) + ((((((p0_1 >>> 1) &&& (6148914691236517205#64)) + (p0_1 &&& (6148914691236517205#64))) >>> 2) &&& (3689348814741910323#64)) + ((((p0_1 >>> 1) &&& (6148914691236517205#64)) + (p0_1 &&& (6148914691236517205#64))) &&& (3689348814741910323#64)))) &&& (1085102592571150095#64)) + ((((((((((p0_1 >>> 1) &&& (6148914691236517205#64)) + (p0_1 &&& (6148914691236517205#64))) >>> 2) &&& (3689348814741910323#64)) + ((((p0_1 >>> 1) &&& (6148914691236517205#64)) + (p0_1 &&& (6148914691236517205#64))) &&& (3689348814741910323#64))) >>> 4) + ((((((p0_1 >>> 1) &&& (6148914691236517205#64)) + (p0_1 &&& (6148914691236517205#64))) >>> 2) &&& (3689348814741910323#64)) + ((((p0_1 >>> 1) &&& (6148914691236517205#64)) + (p0_1 &&& (6148914691236517205#64))) &&& (3689348814741910323#64)))) &&& (1085102592571150095#64)) >>> 8)) + (((((((((((p0_1 >>> 1) &&& (6148914691236517205#64)) + (p0_1 &&& (6148914691236517205#64))) >>> 2) &&& (3689348814741910323#64)) + ((((p0_1 >>> 1) &&& (6148914691236517205#64)) + (p0_1 &&& (6148914691236517205#64))) &&& (3689348814741910323#64))) >>> 4) + ((((((p0_1 >>> 1) &&& (6148914691236517205#64)) + (p0_1 &&& (6148914691236517205#64))) >>> 2) &&& (3689348814741910323#64)) + ((((p0_1 >>> 1) &&& (6148914691236517205#64)) + (p0_1 &&& (6148914691236517205#64))) &&& (3689348814741910323#64)))) &&& (1085102592571150095#64)) + ((((((((((p0_1 >>> 1) &&& (6148914691236517205#64)) + (p0_1 &&& (6148914691236517205#64))) >>> 2) &&& (3689348814741910323#64)) + ((((p0_1 >>> 1) &&& (6148914691236517205#64)) + (p0_1 &&& (6148914691236517205#64))) &&& (3689348814741910323#64))) >>> 4) + ((((((p0_1 >>> 1) &&& (6148914691236517205#64)) + (p0_1 &&& (6148914691236517205#64))) >>> 2) &&& (3689348814741910323#64)) + ((((p0_1 >>> 1) &&& (6148914691236517205#64)) + (p0_1 &&& (6148914691236517205#64))) &&& (3689348814741910323#64)))) &&& (1085102592571150095#64)) >>> 8)) >>> 16)) + ((((((((((((p0_1 >>> 1) &&& (6148914691236517205#64)) + (p0_1 &&& (6148914691236517205#64))) >>> 2) &&& (3689348814741910323#64)) + ((((p0_1 >>> 1) &&& (6148914691236517205#64)) + (p0_1 &&& (6148914691236517205#64))) &&& (3689348814741910323#64))) >>> 4) + ((((((p0_1 >>> 1) &&& (6148914691236517205#64)) + (p0_1 &&& (6148914691236517205#64))) >>> 2) &&& (3689348814741910323#64)) + ((((p0_1 >>> 1) &&& (6148914691236517205#64)) + (p0_1 &&& (6148914691236517205#64))) &&& (3689348814741910323#64)))) &&& (1085102592571150095#64)) + ((((((((((p0_1 >>> 1) &&& (6148914691236517205#64)) + (p0_1 &&& (6148914691236517205#64))) >>> 2) &&& (3689348814741910323#64)) + ((((p0_1 >>> 1) &&& (6148914691236517205#64)) + (p0_1 &&& (6148914691236517205#64))) &&& (3689348814741910323#64))) >>> 4) + ((((((p0_1 >>> 1) &&& (6148914691236517205#64)) + (p0_1 &&& (6148914691236517205#64))) >>> 2) &&& (3689348814741910323#64)) + ((((p0_1 >>> 1) &&& (6148914691236517205#64)) + (p0_1 &&& (6148914691236517205#64))) &&& (3689348814741910323#64)))) &&& (1085102592571150095#64)) >>> 8)) + (((((((((((p0_1 >>> 1) &&& (6148914691236517205#64)) + (p0_1 &&& (6148914691236517205#64))) >>> 2) &&& (3689348814741910323#64)) + ((((p0_1 >>> 1) &&& (6148914691236517205#64)) + (p0_1 &&& (6148914691236517205#64))) &&& (3689348814741910323#64))) >>> 4) + ((((((p0_1 >>> 1) &&& (6148914691236517205#64)) + (p0_1 &&& (6148914691236517205#64))) >>> 2) &&& (3689348814741910323#64)) + ((((p0_1 >>> 1) &&& (6148914691236517205#64)) + (p0_1 &&& (6148914691236517205#64))) &&& (3689348814741910323#64)))) &&& (1085102592571150095#64)) + ((((((((((p0_1 >>> 1) &&& (6148914691236517205#64)) + (p0_1 &&& (6148914691236517205#64))) >>> 2) &&& (3689348814741910323#64)) + ((((p0_1 >>> 1) &&& (6148914691236517205#64)) + (p0_1 &&& (6148914691236517205#64))) &&& (3689348814741910323#64))) >>> 4) + ((((((p0_1 >>> 1) &&& (6148914691236517205#64)) + (p0_1 &&& (6148914691236517205#64))) >>> 2) &&& (3689348814741910323#64)) + ((((p0_1 >>> 1) &&& (6148914691236517205#64)) + (p0_1 &&& (6148914691236517205#64))) &&& (3689348814741910323#64)))) &&& (1085102592571150095#64)) >>> 8)) >>> 16)) >>> 32)))) (Nat.zero_le _) rfl (ev_move rfl) rfl ?_
  refine MO.op (v := (Value.int .i64 (BitVec.toInt ((((((((((((p0_1 >>> 1) &&& (6148914691236517205#64)) + (p0_1 &&& (6148914691236517205#64))) >>> 2) &&& (3689348814741910323#64)) + ((((p0_1 >>> 1) &&& (6148914691236517205#64)) + (p0_1 &&& (6148914691236517205#64))) &&& (3689348814741910323#64))) >>> 4) + ((((((p0_1 >>> 1) &&& (6148914691236517205#64)) + (p0_1 &&& (6148914691236517205#64))) >>> 2) &&& (3689348814741910323#64)) + ((((p0_1 >>> 1) &&& (6148914691236517205#64)) + (p0_1 &&& (6148914691236517205#64))) &&& (3689348814741910323#64)))) &&& (1085102592571150095#64)) + ((((((((((p0_1 >>> 1) &&& (6148914691236517205#64)) + (p0_1 &&& (6148914691236517205#64))) >>> 2) &&& (3689348814741910323#64)) + ((((p0_1 >>> 1) &&& (6148914691236517205#64)) + (p0_1 &&& (6148914691236517205#64))) &&& (3689348814741910323#64))) >>> 4) + ((((((p0_1 >>> 1) &&& (6148914691236517205#64)) + (p0_1 &&& (6148914691236517205#64))) >>> 2) &&& (3689348814741910323#64)) + ((((p0_1 >>> 1) &&& (6148914691236517205#64)) + (p0_1 &&& (6148914691236517205#64))) &&& (3689348814741910323#64)))) &&& (1085102592571150095#64)) >>> 8)) + (((((((((((p0_1 >>> 1) &&& (6148914691236517205#64)) + (p0_1 &&& (6148914691236517205#64))) >>> 2) &&& (3689348814741910323#64)) + ((((p0_1 >>> 1) &&& (6148914691236517205#64)) + (p0_1 &&& (6148914691236517205#64))) &&& (3689348814741910323#64))) >>> 4) + ((((((p0_1 >>> 1) &&& (6148914691236517205#64)) + (p0_1 &&& (6148914691236517205#64))) >>> 2) &&& (3689348814741910323#64)) + ((((p0_1 >>> 1) &&& (6148914691236517205#64)) + (p0_1 &&& (6148914691236517205#64))) &&& (3689348814741910323#64)))) &&& (1085102592571150095#64)) + ((((((((((p0_1 >>> 1) &&& (6148914691236517205#64)) + (p0_1 &&& (6148914691236517205#64))) >>> 2) &&& (3689348814741910323#64)) + ((((p0_1 >>> 1) &&& (6148914691236517205#64)) + (p0_1 &&& (6148914691236517205#64))) &&& (3689348814741910323#64))) >>> 4) + ((((((p0_1 >>> 1) &&& (6148914691236517205#64)) + (p0_1 &&& (6148914691236517205#64))) >>> 2) &&& (3689348814741910323#64)) + ((((p0_1 >>> 1) &&& (6148914691236517205#64)) + (p0_1 &&& (6148914691236517205#64))) &&& (3689348814741910323#64)))) &&& (1085102592571150095#64)) >>> 8)) >>> 16)) + ((((((((((((p0_1 >>> 1) &&& (6148914691236517205#64)) + (p0_1 &&& (6148914691236517205#64))) >>> 2) &&& (3689348814741910323#64)) + ((((p0_1 >>> 1) &&& (6148914691236517205#64)) + (p0_1 &&& (6148914691236517205#64))) &&& (3689348814741910323#64))) >>> 4) + ((((((p0_1 >>> 1) &&& (6148914691236517205#64)) + (p0_1 &&& (6148914691236517205#64))) >>> 2) &&& (3689348814741910323#64)) + ((((p0_1 >>> 1) &&& (6148914691236517205#64)) + (p0_1 &&& (6148914691236517205#64))) &&& (3689348814741910323#64)))) &&& (1085102592571150095#64)) + ((((((((((p0_1 >>> 1) &&& (6148914691236517205#64)) + (p0_1 &&& (6148914691236517205#64))) >>> 2) &&& (3689348814741910323#64)) + ((((p0_1 >>> 1) &&& (6148914691236517205#64)) + (p0_1 &&& (6148914691236517205#64))) &&& (3689348814741910323#64))) >>> 4) + ((((((p0_1 >>> 1) &&& (6148914691236517205#64)) + (p0_1 &&& (6148914691236517205#64))) >>> 2) &&& (3689348814741910323#64)) + ((((p0_1 >>> 1) &&& (6148914691236517205#64)) + (p0_1 &&& (6148914691236517205#64))) &&& (3689348814741910323#64)))) &&& (1085102592571150095#64)) >>> 8)) + (((((((((((p0_1 >>> 1) &&& (6148914691236517205#64)) + (p0_1 &&& (6148914691236517205#64))) >>> 2) &&& (3689348814741910323#64)) + ((((p0_1 >>> 1) &&& (6148914691236517205#64)) + (p0_1 &&& (6148914691236517205#64))) &&& (3689348814741910323#64))) >>> 4) + ((((((p0_1 >>> 1) &&& (6148914691236517205#64)) + (p0_1 &&& (6148914691236517205#64))) >>> 2) &&& (3689348814741910323#64)) + ((((p0_1 >>> 1) &&& (6148914691236517205#64)) + (p0_1 &&& (6148914691236517205#64))) &&& (3689348814741910323#64)))) &&& (1085102592571150095#64)) + ((((((((((p0_1 >>> 1) &&& (6148914691236517205#64)) + (p0_1 &&& (6148914691236517205#64))) >>> 2) &&& (3689348814741910323#64)) + ((((p0_1 >>> 1) &&& (6148914691236517205#64)) + (p0_1 &&& (6148914691236517205#64))) &&& (3689348814741910323#64))) >>> 4) + ((((((p0_1 >>> 1) &&& (6148914691236517205#64)) + (p0_1 &&& (6148914691236517205#64))) >>> 2) &&& (3689348814741910323#64)) + ((((p0_1 >>> 1) &&& (6148914691236517205#64)) + (p0_1 &&& (6148914691236517205#64))) &&& (3689348814741910323#64)))) &&& (1085102592571150095#64)) >>> 8)) >>> 16)) >>> 32))))) (Nat.zero_le _) rfl (ev_conv (x := w64 ((((((((((((p0_1 >>> 1) &&& (6148914691236517205#64)) + (p0_1 &&& (6148914691236517205#64))) >>> 2) &&& (3689348814741910323#64)) + ((((p0_1 >>> 1) &&& (6148914691236517205#64)) + (p0_1 &&& (6148914691236517205#64))) &&& (3689348814741910323#64))) >>> 4) + ((((((p0_1 >>> 1) &&& (6148914691236517205#64)) + (p0_1 &&& (6148914691236517205#64))) >>> 2) &&& (3689348814741910323#64)) + ((((p0_1 >>> 1) &&& (6148914691236517205#64)) + (p0_1 &&& (6148914691236517205#64))) &&& (3689348814741910323#64)))) &&& (1085102592571150095#64)) + ((((((((((p0_1 >>> 1) &&& (6148914691236517205#64)) + (p0_1 &&& (6148914691236517205#64))) >>> 2) &&& (3689348814741910323#64)) + ((((p0_1 >>> 1) &&& (6148914691236517205#64)) + (p0_1 &&& (6148914691236517205#64))) &&& (3689348814741910323#64))) >>> 4) + ((((((p0_1 >>> 1) &&& (6148914691236517205#64)) + (p0_1 &&& (6148914691236517205#64))) >>> 2) &&& (3689348814741910323#64)) + ((((p0_1 >>> 1) &&& (6148914691236517205#64)) + (p0_1 &&& (6148914691236517205#64))) &&& (3689348814741910323#64)))) &&& (1085102592571150095#64)) >>> 8)) + (((((((((((p0_1 >>> 1) &&& (6148914691236517205#64)) + (p0_1 &&& (6148914691236517205#64))) >>> 2) &&& (3689348814741910323#64)) + ((((p0_1 >>> 1) &&& (6148914691236517205#64)) + (p0_1 &&& (6148914691236517205#64))) &&& (3689348814741910323#64))) >>> 4) + ((((((p0_1 >>> 1) &&& (6148914691236517205#64)) + (p0_1 &&& (6148914691236517205#64))) >>> 2) &&& (3689348814741910323#64)) + ((((p0_1 >>> 1) &&& (6148914691236517205#64)) + (p0_1 &&& (6148914691236517205#64))) &&& (3689348814741910323#64)))) &&& (1085102592571150095#64)) + ((((((((((p0_1 >>> 1) &&& (6148914691236517205#64)) + (p0_1 &&& (6148914691236517205#64))) >>> 2) &&& (3689348814741910323#64)) + ((((p0_1 >>> 1) &&& (6148914691236517205#64)) + (p0_1 &&& (6148914691236517205#64))) &&& (3689348814741910323#64))) >>> 4) + ((((((p0_1 >>> 1) &&& (6148914691236517205#64)) + (p0_1 &&& (6148914691236517205#64))) >>> 2) &&& (3689348814741910323#64)) + ((((p0_1 >>> 1) &&& (6148914691236517205#64)) + (p0_1 &&& (6148914691236517205#64))) &&& (3689348814741910323#64)))) &&& (1085102592571150095#64)) >>> 8)) >>> 16)) + ((((((((((((p0_1 >>> 1) &&& (6148914691236517205#64)) + (p0_1 &&& (6148914691236517205#64))) >>> 2) &&& (3689348814741910323#64)) + ((((p0_1 >>> 1) &&& (6148914691236517205#64)) + (p0_1 &&& (6148914691236517205#64))) &&& (3689348814741910323#64))) >>> 4) + ((((((p0_1 >>> 1) &&& (6148914691236517205#64)) + (p0_1 &&& (6148914691236517205#64))) >>> 2) &&& (3689348814741910323#64)) + ((((p0_1 >>> 1) &&& (6148914691236517205#64)) + (p0_1 &&& (6148914691236517205#64))) &&& (3689348814741910323#64)))) &&& (1085102592571150095#64)) + ((((((((((p0_1 >>> 1) &&& (6148914691236517205#64)) + (p0_1 &&& (6148914691236517205#64))) >>> 2) &&& (3689348814741910323#64)) + ((((p0_1 >>> 1) &&& (6148914691236517205#64)) + (p0_1 &&& (6148914691236517205#64))) &&& (3689348814741910323#64))) >>> 4) + ((((((p0_1 >>> 1) &&& (6148914691236517205#64)) + (p0_1 &&& (6148914691236517205#64))) >>> 2) &&& (3689348814741910323#64)) + ((((p0_1 >>> 1) &&& (6148914691236517205#64)) + (p0_1 &&& (6148914691236517205#64))) &&& (3689348814741910323#64)))) &&& (1085102592571150095#64)) >>> 8)) + (((((((((((p0_1 >>> 1) &&& (6148914691236517205#64)) + (p0_1 &&& (6148914691236517205#64))) >>> 2) &&& (3689348814741910323#64)) + ((((p0_1 >>> 1) &&& (6148914691236517205#64)) + (p0_1 &&& (6148914691236517205#64))) &&& (3689348814741910323#64))) >>> 4) + ((((((p0_1 >>> 1) &&& (6148914691236517205#64)) + (p0_1 &&& (6148914691236517205#64))) >>> 2) &&& (3689348814741910323#64)) + ((((p0_1 >>> 1) &&& (6148914691236517205#64)) + (p0_1 &&& (6148914691236517205#64))) &&& (3689348814741910323#64)))) &&& (1085102592571150095#64)) + ((((((((((p0_1 >>> 1) &&& (6148914691236517205#64)) + (p0_1 &&& (6148914691236517205#64))) >>> 2) &&& (3689348814741910323#64)) + ((((p0_1 >>> 1) &&& (6148914691236517205#64)) + (p0_1 &&& (6148914691236517205#64))) &&& (3689348814741910323#64))) >>> 4) + ((((((p0_1 >>> 1) &&& (6148914691236517205#64)) + (p0_1 &&& (6148914691236517205#64))) >>> 2) &&& (3689348814741910323#64)) + ((((p0_1 >>> 1) &&& (6148914691236517205#64)) + (p0_1 &&& (6148914691236517205#64))) &&& (3689348814741910323#64)))) &&& (1085102592571150095#64)) >>> 8)) >>> 16)) >>> 32))) rfl (conv_back Try.underlying23 Try.underlying3)) rfl ?_
  refine MO.op (v := (Value.int .i64 (iand (BitVec.toInt ((((((((((((p0_1 >>> 1) &&& (6148914691236517205#64)) + (p0_1 &&& (6148914691236517205#64))) >>> 2) &&& (3689348814741910323#64)) + ((((p0_1 >>> 1) &&& (6148914691236517205#64)) + (p0_1 &&& (6148914691236517205#64))) &&& (3689348814741910323#64))) >>> 4) + ((((((p0_1 >>> 1) &&& (6148914691236517205#64)) + (p0_1 &&& (6148914691236517205#64))) >>> 2) &&& (3689348814741910323#64)) + ((((p0_1 >>> 1) &&& (6148914691236517205#64)) + (p0_1 &&& (6148914691236517205#64))) &&& (3689348814741910323#64)))) &&& (1085102592571150095#64)) + ((((((((((p0_1 >>> 1) &&& (6148914691236517205#64)) + (p0_1 &&& (6148914691236517205#64))) >>> 2) &&& (3689348814741910323#64)) + ((((p0_1 >>> 1) &&& (6148914691236517205#64)) + (p0_1 &&& (6148914691236517205#64))) &&& (3689348814741910323#64))) >>> 4) + ((((((p0_1 >>> 1) &&& (6148914691236517205#64)) + (p0_1 &&& (6148914691236517205#64))) >>> 2) &&& (3689348814741910323#64)) + ((((p0_1 >>> 1) &&& (6148914691236517205#64)) + (p0_1 &&& (6148914691236517205#64))) &&& (3689348814741910323#64)))) &&& (1085102592571150095#64)) >>> 8)) + (((((((((((p0_1 >>> 1) &&& (6148914691236517205#64)) + (p0_1 &&& (6148914691236517205#64))) >>> 2) &&& (3689348814741910323#64)) + ((((p0_1 >>> 1) &&& (6148914691236517205#64)) + (p0_1 &&& (6148914691236517205#64))) &&& (3689348814741910323#64))) >>> 4) + ((((((p0_1 >>> 1) &&& (6148914691236517205#64)) + (p0_1 &&& (6148914691236517205#64))) >>> 2) &&& (3689348814741910323#64)) + ((((p0_1 >>> 1) &&& (6148914691236517205#64)) + (p0_1 &&& (6148914691236517205#64))) &&& (3689348814741910323#64)))) &&& (1085102592571150095#64)) + ((((((((((p0_1 >>> 1) &&& (6148914691236517205#64)) + (p0_1 &&& (6148914691236517205#64))) >>> 2) &&& (3689348814741910323#64)) + ((((p0_1 >>> 1) &&& (6148914691236517205#64)) + (p0_1 &&& (6148914691236517205#64))) &&& (3689348814741910323#64))) >>> 4) + ((((((p0_1 >>> 1) &&& (6148914691236517205#64)) + (p0_1 &&& (6148914691236517205#64))) >>> 2) &&& (3689348814741910323#64)) + ((((p0_1 >>> 1) &&& (6148914691236517205#64)) + (p0_1 &&& (6148914691236517205#64))) &&& (3689348814741910323#64)))) &&& (1085102592571150095#64)) >>> 8)) >>> 16)) + ((((((((((((p0_1 >>> 1) &&& (6148914691236517205#64)) + (p0_1 &&& (6148914691236517205#64))) >>> 2) &&& (3689348814741910323#64)) + ((((p0_1 >>> 1) &&& (6148914691236517205#64)) + (p0_1 &&& (6148914691236517205#64))) &&& (3689348814741910323#64))) >>> 4) + ((((((p0_1 >>> 1) &&& (6148914691236517205#64)) + (p0_1 &&& (6148914691236517205#64))) >>> 2) &&& (3689348814741910323#64)) + ((((p0_1 >>> 1) &&& (6148914691236517205#64)) + (p0_1 &&& (6148914691236517205#64))) &&& (3689348814741910323#64)))) &&& (1085102592571150095#64)) + ((((((((((p0_1 >>> 1) &&& (6148914691236517205#64)) + (p0_1 &&& (6148914691236517205#64))) >>> 2) &&& (3689348814741910323#64)) + ((((p0_1 >>> 1) &&& (6148914691236517205#64)) + (p0_1 &&& (6148914691236517205#64))) &&& (3689348814741910323#64))) >>> 4) + ((((((p0_1 >>> 1) &&& (6148914691236517205#64)) + (p0_1 &&& (6148914691236517205#64))) >>> 2) &&& (3689348814741910323#64)) + ((((p0_1 >>> 1) &&& (6148914691236517205#64)) + (p0_1 &&& (6148914691236517205#64))) &&& (3689348814741910323#64)))) &&& (1085102592571150095#64)) >>> 8)) + (((((((((((p0_1 >>> 1) &&& (6148914691236517205#64)) + (p0_1 &&& (6148914691236517205#64))) >>> 2) &&& (3689348814741910323#64)) + ((((p0_1 >>> 1) &&& (6148914691236517205#64)) + (p0_1 &&& (6148914691236517205#64))) &&& (3689348814741910323#64))) >>> 4) + ((((((p0_1 >>> 1) &&& (6148914691236517205#64)) + (p0_1 &&& (6148914691236517205#64))) >>> 2) &&& (3689348814741910323#64)) + ((((p0_1 >>> 1) &&& (6148914691236517205#64)) + (p0_1 &&& (6148914691236517205#64))) &&& (3689348814741910323#64)))) &&& (1085102592571150095#64)) + ((((((((((p0_1 >>> 1) &&& (6148914691236517205#64)) + (p0_1 &&& (6148914691236517205#64))) >>> 2) &&& (3689348814741910323#64)) + ((((p0_1 >>> 1) &&& (6148914691236517205#64)) + (p0_1 &&& (6148914691236517205#64))) &&& (3689348814741910323#64))) >>> 4) + ((((((p0_1 >>> 1) &&& (6148914691236517205#64)) + (p0_1 &&& (6148914691236517205#64))) >>> 2) &&& (3689348814741910323#64)) + ((((p0_1 >>> 1) &&& (6148914691236517205#64)) + (p0_1 &&& (6148914691236517205#64))) &&& (3689348814741910323#64)))) &&& (1085102592571150095#64)) >>> 8)) >>> 16)) >>> 32))) (127 : Int)))) (Nat.zero_le _) rfl (ev_bin (x := (Value.int .i64 (BitVec.toInt ((((((((((((p0_1 >>> 1) &&& (6148914691236517205#64)) + (p0_1 &&& (6148914691236517205#64))) >>> 2) &&& (3689348814741910323#64)) + ((((p0_1 >>> 1) &&& (6148914691236517205#64)) + (p0_1 &&& (6148914691236517205#64))) &&& (3689348814741910323#64))) >>> 4) + ((((((p0_1 >>> 1) &&& (6148914691236517205#64)) + (p0_1 &&& (6148914691236517205#64))) >>> 2) &&& (3689348814741910323#64)) + ((((p0_1 >>> 1) &&& (6148914691236517205#64)) + (p0_1 &&& (6148914691236517205#64))) &&& (3689348814741910323#64)))) &&& (1085102592571150095#64)) + ((((((((((p0_1 >>> 1) &&& (6148914691236517205#64)) + (p0_1 &&& (6148914691236517205#64))) >>> 2) &&& (3689348814741910323#64)) + ((((p0_1 >>> 1) &&& (6148914691236517205#64)) + (p0_1 &&& (6148914691236517205#64))) &&& (3689348814741910323#64))) >>> 4) + ((((((p0_1 >>> 1) &&& (6148914691236517205#64)) + (p0_1 &&& (6148914691236517205#64))) >>> 2) &&& (3689348814741910323#64)) + ((((p0_1 >>> 1) &&& (6148914691236517205#64)) + (p0_1 &&& (6148914691236517205#64))) &&& (3689348814741910323#64)))) &&& (1085102592571150095#64)) >>> 8)) + (((((((((((p0_1 >>> 1) &&& (6148914691236517205#64)) + (p0_1 &&& (6148914691236517205#64))) >>> 2) &&& (3689348814741910323#64)) + ((((p0_1 >>> 1) &&& (6148914691236517205#64)) + (p0_1 &&& (6148914691236517205#64))) &&& (3689348814741910323#64))) >>> 4) + ((((((p0_1 >>> 1) &&& (6148914691236517205#64)) + (p0_1 &&& (6148914691236517205#64))) >>> 2) &&& (3689348814741910323#64)) + ((((p0_1 >>> 1) &&& (6148914691236517205#64)) + (p0_1 &&& (6148914691236517205#64))) &&& (3689348814741910323#64)))) &&& (1085102592571150095#64)) + ((((((((((p0_1 >>> 1) &&& (6148914691236517205#64)) + (p0_1 &&& (6148914691236517205#64))) >>> 2) &&& (3689348814741910323#64)) + ((((p0_1 >>> 1) &&& (6148914691236517205#64)) + (p0_1 &&& (6148914691236517205#64))) &&& (3689348814741910323#64))) >>> 4) + ((((((p0_1 >>> 1) &&& (6148914691236517205#64)) + (p0_1 &&& (6148914691236517205#64))) >>> 2) &&& (3689348814741910323#64)) + ((((p0_1 >>> 1) &&& (6148914691236517205#64)) + (p0_1 &&& (6148914691236517205#64))) &&& (3689348814741910323#64)))) &&& (1085102592571150095#64)) >>> 8)) >>> 16)) + ((((((((((((p0_1 >>> 1) &&& (6148914691236517205#64)) + (p0_1 &&& (6148914691236517205#64))) >>> 2) &&& (3689348814741910323#64)) + ((((p0_1 >>> 1) &&& (6148914691236517205#64)) + (p0_1 &&& (6148914691236517205#64))) &&& (3689348814741910323#64))) >>> 4) + ((((((p0_1 >>> 1) &&& (6148914691236517205#64)) + (p0_1 &&& (6148914691236517205#64))) >>> 2) &&& (3689348814741910323#64)) + ((((p0_1 >>> 1) &&& (6148914691236517205#64)) + (p0_1 &&& (6148914691236517205#64))) &&& (3689348814741910323#64)))) &&& (1085102592571150095#64)) + ((((((((((p0_1 >>> 1) &&& (6148914691236517205#64)) + (p0_1 &&& (6148914691236517205#64))) >>> 2) &&& (3689348814741910323#64)) + ((((p0_1 >>> 1) &&& (6148914691236517205#64)) + (p0_1 &&& (6148914691236517205#64))) &&& (3689348814741910323#64))) >>> 4) + ((((((p0_1 >>> 1) &&& (6148914691236517205#64)) + (p0_1 &&& (6148914691236517205#64))) >>> 2) &&& (3689348814741910323#64)) + ((((p0_1 >>> 1) &&& (6148914691236517205#64)) + (p0_1 &&& (6148914691236517205#64))) &&& (3689348814741910323#64)))) &&& (1085102592571150095#64)) >>> 8)) + (((((((((((p0_1 >>> 1) &&& (6148914691236517205#64)) + (p0_1 &&& (6148914691236517205#64))) >>> 2) &&& (3689348814741910323#64)) + ((((p0_1 >>> 1) &&& (6148914691236517205#64)) + (p0_1 &&& (6148914691236517205#64))) &&& (3689348814741910323#64))) >>> 4) + ((((((p0_1 >>> 1) &&& (6148914691236517205#64)) + (p0_1 &&& (6148914691236517205#64))) >>> 2) &&& (3689348814741910323#64)) + ((((p0_1 >>> 1) &&& (6148914691236517205#64)) + (p0_1 &&& (6148914691236517205#64))) &&& (3689348814741910323#64)))) &&& (1085102592571150095#64)) + ((((((((((p0_1 >>> 1) &&& (6148914691236517205#64)) + (p0_1 &&& (6148914691236517205#64))) >>> 2) &&& (3689348814741910323#64)) + ((((p0_1 >>> 1) &&& (6148914691236517205#64)) + (p0_1 &&& (6148914691236517205#64))) &&& (3689348814741910323#64))) >>> 4) + ((((((p0_1 >>> 1) &&& (6148914691236517205#64)) + (p0_1 &&& (6148914691236517205#64))) >>> 2) &&& (3689348814741910323#64)) + ((((p0_1 >>> 1) &&& (6148914691236517205#64)) + (p0_1 &&& (6148914691236517205#64))) &&& (3689348814741910323#64)))) &&& (1085102592571150095#64)) >>> 8)) >>> 16)) >>> 32))))) (y := (Value.int .i64 (127 : Int))) rfl rfl i64_and) rfl ?_
  refine MO.op (v := (Value.int .i64 (iand (BitVec.toInt ((((((((((((p0_1 >>> 1) &&& (6148914691236517205#64)) + (p0_1 &&& (6148914691236517205#64))) >>> 2) &&& (3689348814741910323#64)) + ((((p0_1 >>> 1) &&& (6148914691236517205#64)) + (p0_1 &&& (6148914691236517205#64))) &&& (3689348814741910323#64))) >>> 4) + ((((((p0_1 >>> 1) &&& (6148914691236517205#64)) + (p0_1 &&& (6148914691236517205#64))) >>> 2) &&& (3689348814741910323#64)) + ((((p0_1 >>> 1) &&& (6148914691236517205#64)) + (p0_1 &&& (6148914691236517205#64))) &&& (3689348814741910323#64)))) &&& (1085102592571150095#64)) + ((((((((((p0_1 >>> 1) &&& (6148914691236517205#64)) + (p0_1 &&& (6148914691236517205#64))) >>> 2) &&& (3689348814741910323#64)) + ((((p0_1 >>> 1) &&& (6148914691236517205#64)) + (p0_1 &&& (6148914691236517205#64))) &&& (3689348814741910323#64))) >>> 4) + ((((((p0_1 >>> 1) &&& (6148914691236517205#64)) + (p0_1 &&& (6148914691236517205#64))) >>> 2) &&& (3689348814741910323#64)) + ((((p0_1 >>> 1) &&& (6148914691236517205#64)) + (p0_1 &&& (6148914691236517205#64))) &&& (3689348814741910323#64)))) &&& (1085102592571150095#64)) >>> 8)) + (((((((((((p0_1 >>> 1) &&& (6148914691236517205#64)) + (p0_1 &&& (6148914691236517205#64))) >>> 2) &&& (3689348814741910323#64)) + ((((p0_1 >>> 1) &&& (6148914691236517205#64)) + (p0_1 &&& (6148914691236517205#64))) &&& (3689348814741910323#64))) >>> 4) + ((((((p0_1 >>> 1) &&& (6148914691236517205#64)) + (p0_1 &&& (6148914691236517205#64))) >>> 2) &&& (3689348814741910323#64)) + ((((p0_1 >>> 1) &&& (6148914691236517205#64)) + (p0_1 &&& (6148914691236517205#64))) &&& (3689348814741910323#64)))) &&& (1085102592571150095#64)) + ((((((((((p0_1 >>> 1) &&& (6148914691236517205#64)) + (p0_1 &&& (6148914691236517205#64))) >>> 2) &&& (3689348814741910323#64)) + ((((p0_1 >>> 1) &&& (6148914691236517205#64)) + (p0_1 &&& (6148914691236517205#64))) &&& (3689348814741910323#64))) >>> 4) + ((((((p0_1 >>> 1) &&& (6148914691236517205#64)) + (p0_1 &&& (6148914691236517205#64))) >>> 2) &&& (3689348814741910323#64)) + ((((p0_1 >>> 1) &&& (6148914691236517205#64)) + (p0_1 &&& (6148914691236517205#64))) &&& (3689348814741910323#64)))) &&& (1085102592571150095#64)) >>> 8)) >>> 16)) + ((((((((((((p0_1 >>> 1) &&& (6148914691236517205#64)) + (p0_1 &&& (6148914691236517205#64))) >>> 2) &&& (3689348814741910323#64)) + ((((p0_1 >>> 1) &&& (6148914691236517205#64)) + (p0_1 &&& (6148914691236517205#64))) &&& (3689348814741910323#64))) >>> 4) + ((((((p0_1 >>> 1) &&& (6148914691236517205#64)) + (p0_1 &&& (6148914691236517205#64))) >>> 2) &&& (3689348814741910323#64)) + ((((p0_1 >>> 1) &&& (6148914691236517205#64)) + (p0_1 &&& (6148914691236517205#64))) &&& (3689348814741910323#64)))) &&& (1085102592571150095#64)) + ((((((((((p0_1 >>> 1) &&& (6148914691236517205#64)) + (p0_1 &&& (6148914691236517205#64))) >>> 2) &&& (3689348814741910323#64)) + ((((p0_1 >>> 1) &&& (6148914691236517205#64)) + (p0_1 &&& (6148914691236517205#64))) &&& (3689348814741910323#64))) >>> 4) + ((((((p0_1 >>> 1) &&& (6148914691236517205#64)) + (p0_1 &&& (6148914691236517205#64))) >>> 2) &&& (3689348814741910323#64)) + ((((p0_1 >>> 1) &&& (6148914691236517205#64)) + (p0_1 &&& (6148914691236517205#64))) &&& (3689348814741910323#64)))) &&& (1085102592571150095#64)) >>> 8)) + (((((((((((p0_1 >>> 1) &&& (6148914691236517205#64)) + (p0_1 &&& (6148914691236517205#64))) >>> 2) &&& (3689348814741910323#64)) + ((((p0_1 >>> 1) &&& (6148914691236517205#64)) + (p0_1 &&& (6148914691236517205#64))) &&& (3689348814741910323#64))) >>> 4) + ((((((p0_1 >>> 1) &&& (6148914691236517205#64)) + (p0_1 &&& (6148914691236517205#64))) >>> 2) &&& (3689348814741910323#64)) + ((((p0_1 >>> 1) &&& (6148914691236517205#64)) + (p0_1 &&& (6148914691236517205#64))) &&& (3689348814741910323#64)))) &&& (1085102592571150095#64)) + ((((((((((p0_1 >>> 1) &&& (6148914691236517205#64)) + (p0_1 &&& (6148914691236517205#64))) >>> 2) &&& (3689348814741910323#64)) + ((((p0_1 >>> 1) &&& (6148914691236517205#64)) + (p0_1 &&& (6148914691236517205#64))) &&& (3689348814741910323#64))) >>> 4) + ((((((p0_1 >>> 1) &&& (6148914691236517205#64)) + (p0_1 &&& (6148914691236517205#64))) >>> 2) &&& (3689348814741910323#64)) + ((((p0_1 >>> 1) &&& (6148914691236517205#64)) + (p0_1 &&& (6148914691236517205#64))) &&& (3689348814741910323#64)))) &&& (1085102592571150095#64)) >>> 8)) >>> 16)) >>> 32))) (127 : Int)))) (Nat.zero_le _) rfl (ev_assign rfl) rfl ?_
  refine MO.nil ?_
  refine Then.at ?_
  show MC _ _ _ _ _ _ _
  refine MC.ret ?_
  obtain rfl := Option.some.inj h
  exact ⟨.inr rfl, _, (res_cons (res_tmp rfl) res_nil), rfl⟩
noncomputable def F_bitset_Count_b1 (r2 : (List (BitVec 64))) (next13 : (Int × Int → Option (Int))) : Int × Int → Option (Int)
  | (x3_4, x9_5) =>
    if x9_5 < (r2.length : Int) then
      Option.bind (gx r2 x9_5) fun x15 =>
      Option.bind (F_math_bits_OnesCount64 x15) fun r17 =>
      next13 ((wr (x3_4 + r17)), (wr (x9_5 + (1 : Int))))
    else
      some (x3_4)
noncomputable def F_bitset_Count (p0_1 : (List (BitVec 64))) : Option (Int) :=
  Option.bind (F_bitset_cut p0_1) fun r2 =>
  loopK (F_bitset_Count_b1 r2) fuel ((0 : Int), (0 : Int))
theorem F_bitset_Count.ok {p0_1 : (List (BitVec 64))} {r : (Int)} (h : F_bitset_Count p0_1 = some r) : Pure Try.prog 16 [(slv eW p0_1)] (Value.int .i64 r) := by
  unfold F_bitset_Count at h
  refine ⟨(.cons (slv_flat _ _) .nil), (.prim rfl), Fn.enter Try.func16 (by kernel_rfl) rfl (of_decide_eq_true rfl) ?_⟩
  have hH : Hp ⟨0, []⟩ [] := Hp.nil (Nat.le_refl _)
  show MC _ _ _ _ _ _ _
  refine MC.seq ?_
  show MC _ _ _ _ _ _ _
  refine MC.region ?_
  refine MO.op (v := (Value.int .i64 (0 : Int))) (Nat.zero_le _) rfl (ev_assign rfl) rfl ?_
  refine MO.nil ?_
  refine Then.at ?_
  show MC _ _ _ _ _ _ _
  refine MC.seq ?_
  show MC _ _ _ _ _ _ _
  refine MC.region ?_
  refine MO.op (v := (Value.int .i64 (0 : Int))) (Nat.zero_le _) rfl (ev_assign rfl) rfl ?_
  refine MO.nil ?_
  refine Then.at ?_
  show MC _ _ _ _ _ _ _
  refine MC.seq ?_
  show MC _ _ _ _ _ _ _
  refine MC.seq ?_
  show MC _ _ _ _ _ _ _
  refine MC.region ?_
  refine MO.op (v := (slv eW p0_1)) (Nat.zero_le _) rfl (ev_move rfl) rfl ?_
  obtain ⟨r2, e3, h⟩ := bind_some h
  refine MO.pureW (v := (slv eW r2)) (vs := [(slv eW p0_1)]) (as' := [(slv eW p0_1)]) (Nat.zero_le _) rfl rfl (callee_of rfl (args_cons rfl args_nil)) (LWk.cons (Wk.same _) LWk.nil) (F_bitset_cut.ok e3) rfl ?_
  refine MO.op (v := (Value.int .i64 (r2.length : Int))) (Nat.zero_le _) rfl (ev_len (x := (slv eW r2)) rfl (len_still Try.underlying25 _ _)) rfl ?_
  refine MO.op (v := (Value.int .i64 (0 : Int))) (Nat.zero_le _) rfl (ev_move rfl) rfl ?_
  refine MO.nil ?_
  refine Then.at ?_
  show MC _ _ _ _ _ _ _
  refine MC.block ?_
  show MC _ _ _ _ _ _ _
  refine MC.loopK (fun (s : Int × Int) t σ => t 3 = (Value.int .i64 s.1) ∧ t 7 = (slv eW r2) ∧ t 8 = (Value.int .i64 (r2.length : Int)) ∧ t 9 = (Value.int .i64 s.2) ∧ Hp σ []) h ⟨rfl, rfl, rfl, rfl, hH⟩ ?_
  rintro next13 ⟨x3_4, x9_5⟩ t σ ⟨q6, q7, q8, q9, hH10⟩ h
  try dsimp only at q6 q7 q8 q9 hH10
  unfold F_bitset_Count_b1 at h
  dsimp only at h
  show MC _ _ _ _ _ _ _
  refine MC.seq ?_
  show MC _ _ _ _ _ _ _
  refine MC.region ?_
  refine MO.op (v := (Value.bool (decide (x9_5 < (r2.length : Int))))) (Nat.zero_le _) rfl (ev_bin (x := (Value.int .i64 x9_5)) (y := (Value.int .i64 (r2.length : Int))) q9 q8 int_lss) rfl ?_
  refine MO.nil ?_
  refine Then.at ?_
  show MC _ _ _ _ _ _ _
  refine MC.seq ?_
  by_cases hc14 : x9_5 < (r2.length : Int)
  · rw [if_pos hc14] at h
    show MC _ _ _ _ _ _ _
    refine MC.condT (Eq.trans (b := Value.bool (decide (x9_5 < (r2.length : Int)))) rfl (congrArg Value.bool (decide_eq_true hc14))) ?_
    show MC _ _ _ _ _ _ _
    refine MC.skip ?_
    refine Then.at ?_
    show MC _ _ _ _ _ _ _
    refine MC.seq ?_
    show MC _ _ _ _ _ _ _
    refine MC.block ?_
    show MC _ _ _ _ _ _ _
    refine MC.seq ?_
    show MC _ _ _ _ _ _ _
    refine MC.region ?_
    obtain ⟨x15, e16, h⟩ := bind_some h
    refine MO.op (v := (ptv eW x15)) (Nat.zero_le _) rfl (ev_indexAddr (x := (slv eW r2)) (y := (Value.int .i64 x9_5)) q7 q9 (index_still ty23 Try.underlying25 (gx_some e16).1 (gx_some e16).2)) rfl ?_
    refine MO.op (v := (w64 x15)) (Nat.zero_le _) rfl (ev_load (x := (ptv eW x15)) rfl (load_still ty23 _ _)) rfl ?_
    refine MO.op (v := (w64 x15)) (Nat.zero_le _) rfl (ev_assign rfl) rfl ?_
    refine MO.nil ?_
    refine Then.at ?_
    show MC _ _ _ _ _ _ _
    refine MC.region ?_
    refine MO.op (v := (Value.int .i64 x3_4)) (Nat.zero_le _) rfl (ev_move q6) rfl ?_
    refine MO.op (v := (w64 x15)) (Nat.zero_le _) rfl (ev_move rfl) rfl ?_
    obtain ⟨r17, e18, h⟩ := bind_some h
    refine MO.pureW (v := (Value.int .i64 r17)) (vs := [(w64 x15)]) (as' := [(w64 x15)]) (Nat.zero_le _) rfl rfl (callee_of rfl (args_cons rfl args_nil)) (LWk.cons (Wk.same _) LWk.nil) (F_math_bits_OnesCount64.ok e18) rfl ?_
    refine MO.op (v := (Value.int .i64 (wr (x3_4 + r17)))) (Nat.zero_le _) rfl (ev_bin (x := (Value.int .i64 x3_4)) (y := (Value.int .i64 r17)) rfl rfl int_add) rfl ?_
    refine MO.op (v := (Value.int .i64 (wr (x3_4 + r17)))) (Nat.zero_le _) rfl (ev_assign rfl) rfl ?_
    refine MO.nil ?_
    refine Block.at ?_
    refine Then.at ?_
    show MC _ _ _ _ _ _ _
    refine MC.region ?_
    refine MO.op (v := (Value.int .i64 (wr (x9_5 + (1 : Int))))) (Nat.zero_le _) rfl (ev_bin (x := (Value.int .i64 x9_5)) (y := (Value.int .i64 (1 : Int))) q9 rfl int_add) rfl ?_
    refine MO.op (v := (Value.int .i64 (wr (x9_5 + (1 : Int))))) (Nat.zero_le _) rfl (ev_move rfl) rfl ?_
    refine MO.nil ?_
    refine Then.at ?_
    exact ⟨((wr (x3_4 + r17)), (wr (x9_5 + (1 : Int)))), ⟨rfl, q7, q8, rfl, hH10⟩, h⟩
  · rw [if_neg hc14] at h
    show MC _ _ _ _ _ _ _
    refine MC.condF (Eq.trans (b := Value.bool (decide (x9_5 < (r2.length : Int)))) rfl (congrArg Value.bool (decide_eq_false hc14))) ?_
    show MC _ _ _ _ _ _ _
    refine MC.exit ?_
    refine Then.exit ?_
    refine Then.exit ?_
    refine Block.exit ?_
    refine Then.at ?_
    show MC _ _ _ _ _ _ _
    refine MC.seq ?_
    show MC _ _ _ _ _ _ _
    refine MC.region ?_
    refine MO.op (v := (Value.int .i64 x3_4)) (Nat.zero_le _) rfl (ev_move q6) rfl ?_
    refine MO.op (v := (Value.int .i64 x3_4)) (Nat.zero_le _) rfl (ev_assign rfl) rfl ?_
    refine MO.nil ?_
    refine Then.at ?_
    show MC _ _ _ _ _ _ _
    refine MC.ret ?_
    obtain rfl := Option.some.inj h
    exact ⟨.inr rfl, _, (res_cons (res_tmp rfl) res_nil), rfl⟩
noncomputable def F_sketch_Apart (p0_1 : (List (BitVec 64))) (p1_2 : (List (BitVec 64))) : Option (Int) :=
  Option.bind (F_bitset_Less p0_1 p1_2) fun r3 =>
  Option.bind (F_bitset_Less p1_2 p0_1) fun r5 =>
  Option.bind (F_bitset_Union r3 r5) fun r7 =>
  Option.bind (F_bitset_Count r7) fun r9 =>
  some (r9)
theorem F_sketch_Apart.ok {p0_1 : (List (BitVec 64))} {p1_2 : (List (BitVec 64))} {r : (Int)} (h : F_sketch_Apart p0_1 p1_2 = some r) : Pure Try.prog 6 [(slv eW p0_1), (slv eW p1_2)] (Value.int .i64 r) := by
  unfold F_sketch_Apart at h
  refine ⟨(.cons (slv_flat _ _) (.cons (slv_flat _ _) .nil)), (.prim rfl), Fn.enter Try.func6 (by kernel_rfl) rfl (of_decide_eq_true rfl) ?_⟩
  have hH : Hp ⟨0, []⟩ [] := Hp.nil (Nat.le_refl _)
  show MC _ _ _ _ _ _ _
  refine MC.seq ?_
  show MC _ _ _ _ _ _ _
  refine MC.region ?_
  refine MO.op (v := (Value.int .i64 (0 : Int))) (Nat.zero_le _) rfl (ev_assign rfl) rfl ?_
  refine MO.nil ?_
  refine Then.at ?_
  show MC _ _ _ _ _ _ _
  refine MC.seq ?_
  show MC _ _ _ _ _ _ _
  refine MC.region ?_
  refine MO.op (v := (slv eW p0_1)) (Nat.zero_le _) rfl (ev_move rfl) rfl ?_
  refine MO.op (v := (slv eW p1_2)) (Nat.zero_le _) rfl (ev_move rfl) rfl ?_
  obtain ⟨r3, e4, h⟩ := bind_some h
  refine MO.pureW (v := (slv eW r3)) (vs := [(slv eW p0_1), (slv eW p1_2)]) (as' := [(slv eW p0_1), (slv eW p1_2)]) (Nat.zero_le _) rfl rfl (callee_of rfl (args_cons rfl (args_cons rfl args_nil))) (LWk.cons (Wk.same _) (LWk.cons (Wk.same _) LWk.nil)) (F_bitset_Less.ok e4) rfl ?_
  refine MO.op (v := (slv eW p1_2)) (Nat.zero_le _) rfl (ev_move rfl) rfl ?_
  refine MO.op (v := (slv eW p0_1)) (Nat.zero_le _) rfl (ev_move rfl) rfl ?_
  obtain ⟨r5, e6, h⟩ := bind_some h
  refine MO.pureW (v := (slv eW r5)) (vs := [(slv eW p1_2), (slv eW p0_1)]) (as' := [(slv eW p1_2), (slv eW p0_1)]) (Nat.zero_le _) rfl rfl (callee_of rfl (args_cons rfl (args_cons rfl args_nil))) (LWk.cons (Wk.same _) (LWk.cons (Wk.same _) LWk.nil)) (F_bitset_Less.ok e6) rfl ?_
  obtain ⟨r7, e8, h⟩ := bind_some h
  refine MO.pureW (v := (slv eW r7)) (vs := [(slv eW r3), (slv eW r5)]) (as' := [(slv eW r3), (slv eW r5)]) (Nat.zero_le _) rfl rfl (callee_of rfl (args_cons rfl (args_cons rfl args_nil))) (LWk.cons (Wk.same _) (LWk.cons (Wk.same _) LWk.nil)) (F_bitset_Union.ok e8) rfl ?_
  obtain ⟨r9, e10, h⟩ := bind_some h
  refine MO.pureW (v := (Value.int .i64 r9)) (vs := [(slv eW r7)]) (as' := [(slv eW r7)]) (Nat.zero_le _) rfl rfl (callee_of rfl (args_cons rfl args_nil)) (LWk.cons (Wk.same _) LWk.nil) (F_bitset_Count.ok e10) rfl ?_
  refine MO.op (v := (Value.int .i64 r9)) (Nat.zero_le _) rfl (ev_assign rfl) rfl ?_
  refine MO.nil ?_
  refine Then.at ?_
  show MC _ _ _ _ _ _ _
  refine MC.ret ?_
  obtain rfl := Option.some.inj h
  exact ⟨.inr rfl, _, (res_cons (res_tmp rfl) res_nil), rfl⟩
end Go.Proofs.Ytaclhflmgafobaa
