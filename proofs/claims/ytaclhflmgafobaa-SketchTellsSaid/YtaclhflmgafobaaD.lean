/- Functions, told as Lean functions, and that the code computes them. -/
import Derived.Test.YtaclhflmgafobaaLv
namespace Go.Proofs.Ytaclhflmgafobaa
open Go Go.Ab Go.Proofs
set_option linter.unusedSimpArgs false
set_option linter.unusedVariables false
set_option maxRecDepth 20000
set_option maxHeartbeats 1000000
noncomputable def F_L44_SketchTells_b1 (p0_1 : (List Int)) (p1_2 : (BitVec 64)) (p2_3 : Int) (p3_4 : Int) (p4_5 : Int) (p5_6 : (List (List (BitVec 64)))) (p6_7 : (List (BitVec 64))) (p7_8 : Int) (next35 : (Int → Option (Bool))) : Int → Option (Bool)
  | x39_21 =>
    if x39_21 < (p5_6.length : Int) then
      Option.bind (gx p5_6 x39_21) fun x37 =>
      if (80 : Int) < (x37.length : Int) then
        if (80 : Int) < (x37.length : Int) then
          Option.bind (F_lives) fun r41 =>
          some (r41)
        else
          some (false)
      else
        Option.bind (F_sketch_Apart x37 p6_7) fun r43 =>
        Option.bind (F_R44_Apart x37 p6_7) fun r45 =>
        if r43 ≠ r45 then
          if (80 : Int) < (x37.length : Int) then
            Option.bind (F_lives) fun r49 =>
            some (r49)
          else
            some (false)
        else
          next35 ((wr (x39_21 + (1 : Int))))
    else
      Option.bind (F_lives) fun r51 =>
      if r51 = true then
        Option.bind (F_sketch_Sign p1_2 p3_4 p4_5) fun r54 =>
        Option.bind (F_R44_Sign p1_2 p3_4 p4_5) fun r56 =>
        if r54 = r56 then
          Option.bind (F_sketch_Of p0_1 p1_2 p2_3) fun r59 =>
          Option.bind (F_R44_Of p0_1 p1_2 p2_3) fun r61 =>
          Option.bind (F_R01_Same r59 r61) fun r63 =>
          if r63 = true then
            Option.bind (F_sketch_Near p5_6 p6_7 p7_8) fun r66 =>
            Option.bind (F_R44_Near p5_6 p6_7 p7_8) fun r68 =>
            Option.bind (F_R01_SameInts r66 r68) fun r70 =>
            some (r70)
          else
            some (false)
        else
          some (false)
      else
        some (false)
noncomputable def F_L44_SketchTells (p0_1 : (List Int)) (p1_2 : (BitVec 64)) (p2_3 : Int) (p3_4 : Int) (p4_5 : Int) (p5_6 : (List (List (BitVec 64)))) (p6_7 : (List (BitVec 64))) (p7_8 : Int) : Option (Bool) :=
  if (60 : Int) < (p0_1.length : Int) then
    Option.bind (F_lives) fun r10 =>
    some (r10)
  else
    if (200 : Int) < p2_3 then
      Option.bind (F_lives) fun r13 =>
      some (r13)
    else
      if (20 : Int) < (p5_6.length : Int) then
        Option.bind (F_lives) fun r16 =>
        some (r16)
      else
        if (80 : Int) < (p6_7.length : Int) then
          Option.bind (F_lives) fun r19 =>
          some (r19)
        else
          loopK (F_L44_SketchTells_b1 p0_1 p1_2 p2_3 p3_4 p4_5 p5_6 p6_7 p7_8) fuel ((0 : Int))
theorem F_L44_SketchTells.ok {p0_1 : (List Int)} {p1_2 : (BitVec 64)} {p2_3 : Int} {p3_4 : Int} {p4_5 : Int} {p5_6 : (List (List (BitVec 64)))} {p6_7 : (List (BitVec 64))} {p7_8 : Int} {r : (Bool)} (h : F_L44_SketchTells p0_1 p1_2 p2_3 p3_4 p4_5 p5_6 p6_7 p7_8 = some r) : Pure Try.prog 3 [(slv (eI .i32) p0_1), (w64 p1_2), (Value.int .i64 p2_3), (Value.int .i64 p3_4), (Value.int .i64 p4_5), (slv (eL eW) p5_6), (slv eW p6_7), (Value.int .i64 p7_8)] (Value.bool r) := by
  unfold F_L44_SketchTells at h
  refine ⟨(.cons (slv_flat _ _) (.cons (.prim rfl) (.cons (.prim rfl) (.cons (.prim rfl) (.cons (.prim rfl) (.cons (slv_flat _ _) (.cons (slv_flat _ _) (.cons (.prim rfl) .nil)))))))), (.prim rfl), Fn.enter Try.func3 (by kernel_rfl) rfl (of_decide_eq_true rfl) ?_⟩
  have hH : Hp ⟨0, []⟩ [] := Hp.nil (Nat.le_refl _)
  show MC _ _ _ _ _ _ _
  refine MC.seq ?_
  show MC _ _ _ _ _ _ _
  refine MC.region ?_
  refine MO.op (v := (Value.bool false)) (Nat.zero_le _) rfl (ev_assign rfl) rfl ?_
  refine MO.nil ?_
  refine Then.at ?_
  show MC _ _ _ _ _ _ _
  refine MC.seq ?_
  show MC _ _ _ _ _ _ _
  refine MC.seq ?_
  show MC _ _ _ _ _ _ _
  refine MC.region ?_
  refine MO.op (v := (slv (eI .i32) p0_1)) (Nat.zero_le _) rfl (ev_move rfl) rfl ?_
  refine MO.op (v := (Value.int .i64 (p0_1.length : Int))) (Nat.zero_le _) rfl (ev_len (x := (slv (eI .i32) p0_1)) rfl (len_still Try.underlying22 _ _)) rfl ?_
  refine MO.op (v := (Value.bool (decide ((60 : Int) < (p0_1.length : Int))))) (Nat.zero_le _) rfl (ev_bin (x := (Value.int .i64 (p0_1.length : Int))) (y := (Value.int .i64 (60 : Int))) rfl rfl int_gtr) rfl ?_
  refine MO.op (v := (Value.bool (decide ((60 : Int) < (p0_1.length : Int))))) (Nat.zero_le _) rfl (ev_move rfl) rfl ?_
  by_cases hc9 : (60 : Int) < (p0_1.length : Int)
  · rw [if_pos hc9] at h
    refine MO.skip (want_no (q := true) rfl rfl (Eq.trans (b := Value.bool (decide ((60 : Int) < (p0_1.length : Int)))) rfl (congrArg Value.bool (decide_eq_true hc9))) rfl) rfl ?_
    refine MO.skip (want_no (q := true) rfl rfl (Eq.trans (b := Value.bool (decide ((60 : Int) < (p0_1.length : Int)))) rfl (congrArg Value.bool (decide_eq_true hc9))) rfl) rfl ?_
    refine MO.op (v := (Value.bool true)) (Nat.zero_le _) rfl (ev_pickT (Eq.trans (b := Value.bool (decide ((60 : Int) < (p0_1.length : Int)))) rfl (congrArg Value.bool (decide_eq_true hc9))) rfl) rfl ?_
    refine MO.op (v := (Value.bool true)) (Nat.zero_le _) rfl (ev_move rfl) rfl ?_
    refine MO.skip (want_no (q := true) rfl rfl rfl rfl) rfl ?_
    refine MO.skip (want_no (q := true) rfl rfl rfl rfl) rfl ?_
    refine MO.skip (want_no (q := true) rfl rfl rfl rfl) rfl ?_
    refine MO.op (v := (Value.bool true)) (Nat.zero_le _) rfl (ev_pickT rfl rfl) rfl ?_
    refine MO.op (v := (Value.bool true)) (Nat.zero_le _) rfl (ev_move rfl) rfl ?_
    refine MO.skip (want_no (q := true) rfl rfl rfl rfl) rfl ?_
    refine MO.skip (want_no (q := true) rfl rfl rfl rfl) rfl ?_
    refine MO.skip (want_no (q := true) rfl rfl rfl rfl) rfl ?_
    refine MO.op (v := (Value.bool true)) (Nat.zero_le _) rfl (ev_pickT rfl rfl) rfl ?_
    refine MO.nil ?_
    refine Then.at ?_
    show MC _ _ _ _ _ _ _
    refine MC.condT rfl ?_
    show MC _ _ _ _ _ _ _
    refine MC.seq ?_
    show MC _ _ _ _ _ _ _
    refine MC.region ?_
    obtain ⟨r10, e11, h⟩ := bind_some h
    refine MO.pureW (v := (Value.bool r10)) (vs := []) (as' := []) (Nat.zero_le _) rfl rfl (callee_of rfl args_nil) LWk.nil (F_lives.ok e11) rfl ?_
    refine MO.op (v := (Value.bool r10)) (Nat.zero_le _) rfl (ev_assign rfl) rfl ?_
    refine MO.nil ?_
    refine Then.at ?_
    show MC _ _ _ _ _ _ _
    refine MC.ret ?_
    refine Then.ret ?_
    obtain rfl := Option.some.inj h
    exact ⟨.inr rfl, _, (res_cons (res_tmp rfl) res_nil), rfl⟩
  · rw [if_neg hc9] at h
    refine MO.op (v := (Value.int .i64 p2_3)) (Nat.zero_le _) (want_yes (q := false) rfl rfl (Eq.trans (b := Value.bool (decide ((60 : Int) < (p0_1.length : Int)))) rfl (congrArg Value.bool (decide_eq_false hc9))) rfl) (ev_move rfl) rfl ?_
    refine MO.op (v := (Value.bool (decide ((200 : Int) < p2_3)))) (Nat.zero_le _) (want_yes (q := false) rfl rfl (Eq.trans (b := Value.bool (decide ((60 : Int) < (p0_1.length : Int)))) rfl (congrArg Value.bool (decide_eq_false hc9))) rfl) (ev_bin (x := (Value.int .i64 p2_3)) (y := (Value.int .i64 (200 : Int))) rfl rfl int_gtr) rfl ?_
    refine MO.op (v := (Value.bool (decide ((200 : Int) < p2_3)))) (Nat.zero_le _) rfl (ev_pickF (Eq.trans (b := Value.bool (decide ((60 : Int) < (p0_1.length : Int)))) rfl (congrArg Value.bool (decide_eq_false hc9))) rfl) rfl ?_
    refine MO.op (v := (Value.bool (decide ((200 : Int) < p2_3)))) (Nat.zero_le _) rfl (ev_move rfl) rfl ?_
    by_cases hc12 : (200 : Int) < p2_3
    · rw [if_pos hc12] at h
      refine MO.skip (want_no (q := true) rfl rfl (Eq.trans (b := Value.bool (decide ((200 : Int) < p2_3))) rfl (congrArg Value.bool (decide_eq_true hc12))) rfl) rfl ?_
      refine MO.skip (want_no (q := true) rfl rfl (Eq.trans (b := Value.bool (decide ((200 : Int) < p2_3))) rfl (congrArg Value.bool (decide_eq_true hc12))) rfl) rfl ?_
      refine MO.skip (want_no (q := true) rfl rfl (Eq.trans (b := Value.bool (decide ((200 : Int) < p2_3))) rfl (congrArg Value.bool (decide_eq_true hc12))) rfl) rfl ?_
      refine MO.op (v := (Value.bool true)) (Nat.zero_le _) rfl (ev_pickT (Eq.trans (b := Value.bool (decide ((200 : Int) < p2_3))) rfl (congrArg Value.bool (decide_eq_true hc12))) rfl) rfl ?_
      refine MO.op (v := (Value.bool true)) (Nat.zero_le _) rfl (ev_move rfl) rfl ?_
      refine MO.skip (want_no (q := true) rfl rfl rfl rfl) rfl ?_
      refine MO.skip (want_no (q := true) rfl rfl rfl rfl) rfl ?_
      refine MO.skip (want_no (q := true) rfl rfl rfl rfl) rfl ?_
      refine MO.op (v := (Value.bool true)) (Nat.zero_le _) rfl (ev_pickT rfl rfl) rfl ?_
      refine MO.nil ?_
      refine Then.at ?_
      show MC _ _ _ _ _ _ _
      refine MC.condT rfl ?_
      show MC _ _ _ _ _ _ _
      refine MC.seq ?_
      show MC _ _ _ _ _ _ _
      refine MC.region ?_
      obtain ⟨r13, e14, h⟩ := bind_some h
      refine MO.pureW (v := (Value.bool r13)) (vs := []) (as' := []) (Nat.zero_le _) rfl rfl (callee_of rfl args_nil) LWk.nil (F_lives.ok e14) rfl ?_
      refine MO.op (v := (Value.bool r13)) (Nat.zero_le _) rfl (ev_assign rfl) rfl ?_
      refine MO.nil ?_
      refine Then.at ?_
      show MC _ _ _ _ _ _ _
      refine MC.ret ?_
      refine Then.ret ?_
      obtain rfl := Option.some.inj h
      exact ⟨.inr rfl, _, (res_cons (res_tmp rfl) res_nil), rfl⟩
    · rw [if_neg hc12] at h
      refine MO.op (v := (slv (eL eW) p5_6)) (Nat.zero_le _) (want_yes (q := false) rfl rfl (Eq.trans (b := Value.bool (decide ((200 : Int) < p2_3))) rfl (congrArg Value.bool (decide_eq_false hc12))) rfl) (ev_move rfl) rfl ?_
      refine MO.op (v := (Value.int .i64 (p5_6.length : Int))) (Nat.zero_le _) (want_yes (q := false) rfl rfl (Eq.trans (b := Value.bool (decide ((200 : Int) < p2_3))) rfl (congrArg Value.bool (decide_eq_false hc12))) rfl) (ev_len (x := (slv (eL eW) p5_6)) rfl (len_still Try.underlying24 _ _)) rfl ?_
      refine MO.op (v := (Value.bool (decide ((20 : Int) < (p5_6.length : Int))))) (Nat.zero_le _) (want_yes (q := false) rfl rfl (Eq.trans (b := Value.bool (decide ((200 : Int) < p2_3))) rfl (congrArg Value.bool (decide_eq_false hc12))) rfl) (ev_bin (x := (Value.int .i64 (p5_6.length : Int))) (y := (Value.int .i64 (20 : Int))) rfl rfl int_gtr) rfl ?_
      refine MO.op (v := (Value.bool (decide ((20 : Int) < (p5_6.length : Int))))) (Nat.zero_le _) rfl (ev_pickF (Eq.trans (b := Value.bool (decide ((200 : Int) < p2_3))) rfl (congrArg Value.bool (decide_eq_false hc12))) rfl) rfl ?_
      refine MO.op (v := (Value.bool (decide ((20 : Int) < (p5_6.length : Int))))) (Nat.zero_le _) rfl (ev_move rfl) rfl ?_
      by_cases hc15 : (20 : Int) < (p5_6.length : Int)
      · rw [if_pos hc15] at h
        refine MO.skip (want_no (q := true) rfl rfl (Eq.trans (b := Value.bool (decide ((20 : Int) < (p5_6.length : Int)))) rfl (congrArg Value.bool (decide_eq_true hc15))) rfl) rfl ?_
        refine MO.skip (want_no (q := true) rfl rfl (Eq.trans (b := Value.bool (decide ((20 : Int) < (p5_6.length : Int)))) rfl (congrArg Value.bool (decide_eq_true hc15))) rfl) rfl ?_
        refine MO.skip (want_no (q := true) rfl rfl (Eq.trans (b := Value.bool (decide ((20 : Int) < (p5_6.length : Int)))) rfl (congrArg Value.bool (decide_eq_true hc15))) rfl) rfl ?_
        refine MO.op (v := (Value.bool true)) (Nat.zero_le _) rfl (ev_pickT (Eq.trans (b := Value.bool (decide ((20 : Int) < (p5_6.length : Int)))) rfl (congrArg Value.bool (decide_eq_true hc15))) rfl) rfl ?_
        refine MO.nil ?_
        refine Then.at ?_
        show MC _ _ _ _ _ _ _
        refine MC.condT rfl ?_
        show MC _ _ _ _ _ _ _
        refine MC.seq ?_
        show MC _ _ _ _ _ _ _
        refine MC.region ?_
        obtain ⟨r16, e17, h⟩ := bind_some h
        refine MO.pureW (v := (Value.bool r16)) (vs := []) (as' := []) (Nat.zero_le _) rfl rfl (callee_of rfl args_nil) LWk.nil (F_lives.ok e17) rfl ?_
        refine MO.op (v := (Value.bool r16)) (Nat.zero_le _) rfl (ev_assign rfl) rfl ?_
        refine MO.nil ?_
        refine Then.at ?_
        show MC _ _ _ _ _ _ _
        refine MC.ret ?_
        refine Then.ret ?_
        obtain rfl := Option.some.inj h
        exact ⟨.inr rfl, _, (res_cons (res_tmp rfl) res_nil), rfl⟩
      · rw [if_neg hc15] at h
        refine MO.op (v := (slv eW p6_7)) (Nat.zero_le _) (want_yes (q := false) rfl rfl (Eq.trans (b := Value.bool (decide ((20 : Int) < (p5_6.length : Int)))) rfl (congrArg Value.bool (decide_eq_false hc15))) rfl) (ev_move rfl) rfl ?_
        refine MO.op (v := (Value.int .i64 (p6_7.length : Int))) (Nat.zero_le _) (want_yes (q := false) rfl rfl (Eq.trans (b := Value.bool (decide ((20 : Int) < (p5_6.length : Int)))) rfl (congrArg Value.bool (decide_eq_false hc15))) rfl) (ev_len (x := (slv eW p6_7)) rfl (len_still Try.underlying25 _ _)) rfl ?_
        refine MO.op (v := (Value.bool (decide ((80 : Int) < (p6_7.length : Int))))) (Nat.zero_le _) (want_yes (q := false) rfl rfl (Eq.trans (b := Value.bool (decide ((20 : Int) < (p5_6.length : Int)))) rfl (congrArg Value.bool (decide_eq_false hc15))) rfl) (ev_bin (x := (Value.int .i64 (p6_7.length : Int))) (y := (Value.int .i64 (80 : Int))) rfl rfl int_gtr) rfl ?_
        refine MO.op (v := (Value.bool (decide ((80 : Int) < (p6_7.length : Int))))) (Nat.zero_le _) rfl (ev_pickF (Eq.trans (b := Value.bool (decide ((20 : Int) < (p5_6.length : Int)))) rfl (congrArg Value.bool (decide_eq_false hc15))) rfl) rfl ?_
        refine MO.nil ?_
        refine Then.at ?_
        by_cases hc18 : (80 : Int) < (p6_7.length : Int)
        · rw [if_pos hc18] at h
          show MC _ _ _ _ _ _ _
          refine MC.condT (Eq.trans (b := Value.bool (decide ((80 : Int) < (p6_7.length : Int)))) rfl (congrArg Value.bool (decide_eq_true hc18))) ?_
          show MC _ _ _ _ _ _ _
          refine MC.seq ?_
          show MC _ _ _ _ _ _ _
          refine MC.region ?_
          obtain ⟨r19, e20, h⟩ := bind_some h
          refine MO.pureW (v := (Value.bool r19)) (vs := []) (as' := []) (Nat.zero_le _) rfl rfl (callee_of rfl args_nil) LWk.nil (F_lives.ok e20) rfl ?_
          refine MO.op (v := (Value.bool r19)) (Nat.zero_le _) rfl (ev_assign rfl) rfl ?_
          refine MO.nil ?_
          refine Then.at ?_
          show MC _ _ _ _ _ _ _
          refine MC.ret ?_
          refine Then.ret ?_
          obtain rfl := Option.some.inj h
          exact ⟨.inr rfl, _, (res_cons (res_tmp rfl) res_nil), rfl⟩
        · rw [if_neg hc18] at h
          show MC _ _ _ _ _ _ _
          refine MC.condF (Eq.trans (b := Value.bool (decide ((80 : Int) < (p6_7.length : Int)))) rfl (congrArg Value.bool (decide_eq_false hc18))) ?_
          show MC _ _ _ _ _ _ _
          refine MC.skip ?_
          refine Then.at ?_
          show MC _ _ _ _ _ _ _
          refine MC.seq ?_
          show MC _ _ _ _ _ _ _
          refine MC.seq ?_
          show MC _ _ _ _ _ _ _
          refine MC.region ?_
          refine MO.op (v := (slv (eL eW) p5_6)) (Nat.zero_le _) rfl (ev_move rfl) rfl ?_
          refine MO.op (v := (Value.int .i64 (p5_6.length : Int))) (Nat.zero_le _) rfl (ev_len (x := (slv (eL eW) p5_6)) rfl (len_still Try.underlying24 _ _)) rfl ?_
          refine MO.op (v := (Value.int .i64 (0 : Int))) (Nat.zero_le _) rfl (ev_move rfl) rfl ?_
          refine MO.nil ?_
          refine Then.at ?_
          show MC _ _ _ _ _ _ _
          refine MC.block ?_
          show MC _ _ _ _ _ _ _
          refine MC.loopK (fun (s : Int) t σ => t 0 = (slv (eI .i32) p0_1) ∧ t 1 = (w64 p1_2) ∧ t 2 = (Value.int .i64 p2_3) ∧ t 3 = (Value.int .i64 p3_4) ∧ t 4 = (Value.int .i64 p4_5) ∧ t 5 = (slv (eL eW) p5_6) ∧ t 6 = (slv eW p6_7) ∧ t 7 = (Value.int .i64 p7_8) ∧ t 37 = (slv (eL eW) p5_6) ∧ t 38 = (Value.int .i64 (p5_6.length : Int)) ∧ t 39 = (Value.int .i64 s) ∧ Hp σ []) h ⟨rfl, rfl, rfl, rfl, rfl, rfl, rfl, rfl, rfl, rfl, rfl, hH⟩ ?_
          rintro next35 x39_21 t σ ⟨q22, q23, q24, q25, q26, q27, q28, q29, q30, q31, q32, hH33⟩ h
          unfold F_L44_SketchTells_b1 at h
          show MC _ _ _ _ _ _ _
          refine MC.seq ?_
          show MC _ _ _ _ _ _ _
          refine MC.region ?_
          refine MO.op (v := (Value.bool (decide (x39_21 < (p5_6.length : Int))))) (Nat.zero_le _) rfl (ev_bin (x := (Value.int .i64 x39_21)) (y := (Value.int .i64 (p5_6.length : Int))) q32 q31 int_lss) rfl ?_
          refine MO.nil ?_
          refine Then.at ?_
          show MC _ _ _ _ _ _ _
          refine MC.seq ?_
          by_cases hc36 : x39_21 < (p5_6.length : Int)
          · rw [if_pos hc36] at h
            show MC _ _ _ _ _ _ _
            refine MC.condT (Eq.trans (b := Value.bool (decide (x39_21 < (p5_6.length : Int)))) rfl (congrArg Value.bool (decide_eq_true hc36))) ?_
            show MC _ _ _ _ _ _ _
            refine MC.skip ?_
            refine Then.at ?_
            show MC _ _ _ _ _ _ _
            refine MC.seq ?_
            show MC _ _ _ _ _ _ _
            refine MC.block ?_
            show MC _ _ _ _ _ _ _
            refine MC.seq ?_
            show MC _ _ _ _ _ _ _
            refine MC.region ?_
            obtain ⟨x37, e38, h⟩ := bind_some h
            refine MO.op (v := (ptv (eL eW) x37)) (Nat.zero_le _) rfl (ev_indexAddr (x := (slv (eL eW) p5_6)) (y := (Value.int .i64 x39_21)) q30 q32 (index_still ty25 Try.underlying24 (gx_some e38).1 (gx_some e38).2)) rfl ?_
            refine MO.op (v := (slv eW x37)) (Nat.zero_le _) rfl (ev_load (x := (ptv (eL eW) x37)) rfl (load_still ty25 _ _)) rfl ?_
            refine MO.op (v := (slv eW x37)) (Nat.zero_le _) rfl (ev_assign rfl) rfl ?_
            refine MO.nil ?_
            refine Then.at ?_
            show MC _ _ _ _ _ _ _
            refine MC.seq ?_
            show MC _ _ _ _ _ _ _
            refine MC.region ?_
            refine MO.op (v := (slv eW x37)) (Nat.zero_le _) rfl (ev_move rfl) rfl ?_
            refine MO.op (v := (Value.int .i64 (x37.length : Int))) (Nat.zero_le _) rfl (ev_len (x := (slv eW x37)) rfl (len_still Try.underlying25 _ _)) rfl ?_
            refine MO.op (v := (Value.bool (decide ((80 : Int) < (x37.length : Int))))) (Nat.zero_le _) rfl (ev_bin (x := (Value.int .i64 (x37.length : Int))) (y := (Value.int .i64 (80 : Int))) rfl rfl int_gtr) rfl ?_
            refine MO.op (v := (Value.bool (decide ((80 : Int) < (x37.length : Int))))) (Nat.zero_le _) rfl (ev_move rfl) rfl ?_
            by_cases hc39 : (80 : Int) < (x37.length : Int)
            · rw [if_pos hc39] at h
              refine MO.skip (want_no (q := true) rfl rfl (Eq.trans (b := Value.bool (decide ((80 : Int) < (x37.length : Int)))) rfl (congrArg Value.bool (decide_eq_true hc39))) rfl) rfl ?_
              refine MO.skip (want_no (q := true) rfl rfl (Eq.trans (b := Value.bool (decide ((80 : Int) < (x37.length : Int)))) rfl (congrArg Value.bool (decide_eq_true hc39))) rfl) rfl ?_
              refine MO.skip (want_no (q := true) rfl rfl (Eq.trans (b := Value.bool (decide ((80 : Int) < (x37.length : Int)))) rfl (congrArg Value.bool (decide_eq_true hc39))) rfl) rfl ?_
              refine MO.skip (want_no (q := true) rfl rfl (Eq.trans (b := Value.bool (decide ((80 : Int) < (x37.length : Int)))) rfl (congrArg Value.bool (decide_eq_true hc39))) rfl) rfl ?_
              refine MO.skip (want_no (q := true) rfl rfl (Eq.trans (b := Value.bool (decide ((80 : Int) < (x37.length : Int)))) rfl (congrArg Value.bool (decide_eq_true hc39))) rfl) rfl ?_
              refine MO.skip (want_no (q := true) rfl rfl (Eq.trans (b := Value.bool (decide ((80 : Int) < (x37.length : Int)))) rfl (congrArg Value.bool (decide_eq_true hc39))) rfl) rfl ?_
              refine MO.skip (want_no (q := true) rfl rfl (Eq.trans (b := Value.bool (decide ((80 : Int) < (x37.length : Int)))) rfl (congrArg Value.bool (decide_eq_true hc39))) rfl) rfl ?_
              refine MO.op (v := (Value.bool true)) (Nat.zero_le _) rfl (ev_pickT (Eq.trans (b := Value.bool (decide ((80 : Int) < (x37.length : Int)))) rfl (congrArg Value.bool (decide_eq_true hc39))) rfl) rfl ?_
              refine MO.nil ?_
              refine Then.at ?_
              show MC _ _ _ _ _ _ _
              refine MC.condT rfl ?_
              show MC _ _ _ _ _ _ _
              refine MC.seq ?_
              show MC _ _ _ _ _ _ _
              refine MC.region ?_
              refine MO.op (v := (slv eW x37)) (Nat.zero_le _) rfl (ev_move rfl) rfl ?_
              refine MO.op (v := (Value.int .i64 (x37.length : Int))) (Nat.zero_le _) rfl (ev_len (x := (slv eW x37)) rfl (len_still Try.underlying25 _ _)) rfl ?_
              refine MO.op (v := (Value.bool (decide ((80 : Int) < (x37.length : Int))))) (Nat.zero_le _) rfl (ev_bin (x := (Value.int .i64 (x37.length : Int))) (y := (Value.int .i64 (80 : Int))) rfl rfl int_gtr) rfl ?_
              refine MO.op (v := (Value.bool (decide ((80 : Int) < (x37.length : Int))))) (Nat.zero_le _) rfl (ev_move rfl) rfl ?_
              by_cases hc40 : (80 : Int) < (x37.length : Int)
              · rw [if_pos hc40] at h
                obtain ⟨r41, e42, h⟩ := bind_some h
                refine MO.pureW (v := (Value.bool r41)) (vs := []) (as' := []) (Nat.zero_le _) (want_yes (q := true) rfl rfl (Eq.trans (b := Value.bool (decide ((80 : Int) < (x37.length : Int)))) rfl (congrArg Value.bool (decide_eq_true hc40))) rfl) rfl (callee_of rfl args_nil) LWk.nil (F_lives.ok e42) rfl ?_
                refine MO.op (v := (Value.bool r41)) (Nat.zero_le _) rfl (ev_pickT (Eq.trans (b := Value.bool (decide ((80 : Int) < (x37.length : Int)))) rfl (congrArg Value.bool (decide_eq_true hc40))) rfl) rfl ?_
                refine MO.op (v := (Value.bool r41)) (Nat.zero_le _) rfl (ev_assign rfl) rfl ?_
                refine MO.nil ?_
                refine Then.at ?_
                show MC _ _ _ _ _ _ _
                refine MC.ret ?_
                refine Block.ret ?_
                refine Then.ret ?_
                refine Then.ret ?_
                refine Block.ret ?_
                refine Then.ret ?_
                obtain rfl := Option.some.inj h
                exact ⟨.inr rfl, _, (res_cons (res_tmp rfl) res_nil), rfl⟩
              · rw [if_neg hc40] at h
                refine MO.skip (want_no (q := false) rfl rfl (Eq.trans (b := Value.bool (decide ((80 : Int) < (x37.length : Int)))) rfl (congrArg Value.bool (decide_eq_false hc40))) rfl) rfl ?_
                refine MO.op (v := (Value.bool false)) (Nat.zero_le _) rfl (ev_pickF (Eq.trans (b := Value.bool (decide ((80 : Int) < (x37.length : Int)))) rfl (congrArg Value.bool (decide_eq_false hc40))) rfl) rfl ?_
                refine MO.op (v := (Value.bool false)) (Nat.zero_le _) rfl (ev_assign rfl) rfl ?_
                refine MO.nil ?_
                refine Then.at ?_
                show MC _ _ _ _ _ _ _
                refine MC.ret ?_
                refine Block.ret ?_
                refine Then.ret ?_
                refine Then.ret ?_
                refine Block.ret ?_
                refine Then.ret ?_
                obtain rfl := Option.some.inj h
                exact ⟨.inr rfl, _, (res_cons (res_tmp rfl) res_nil), rfl⟩
            · rw [if_neg hc39] at h
              refine MO.op (v := (slv eW x37)) (Nat.zero_le _) (want_yes (q := false) rfl rfl (Eq.trans (b := Value.bool (decide ((80 : Int) < (x37.length : Int)))) rfl (congrArg Value.bool (decide_eq_false hc39))) rfl) (ev_move rfl) rfl ?_
              refine MO.op (v := (slv eW p6_7)) (Nat.zero_le _) (want_yes (q := false) rfl rfl (Eq.trans (b := Value.bool (decide ((80 : Int) < (x37.length : Int)))) rfl (congrArg Value.bool (decide_eq_false hc39))) rfl) (ev_move q28) rfl ?_
              obtain ⟨r43, e44, h⟩ := bind_some h
              refine MO.pureW (v := (Value.int .i64 r43)) (vs := [(slv eW x37), (slv eW p6_7)]) (as' := [(slv eW x37), (slv eW p6_7)]) (Nat.zero_le _) (want_yes (q := false) rfl rfl (Eq.trans (b := Value.bool (decide ((80 : Int) < (x37.length : Int)))) rfl (congrArg Value.bool (decide_eq_false hc39))) rfl) rfl (callee_of rfl (args_cons rfl (args_cons rfl args_nil))) (LWk.cons (Wk.same _) (LWk.cons (Wk.same _) LWk.nil)) (F_sketch_Apart.ok e44) rfl ?_
              refine MO.op (v := (slv eW x37)) (Nat.zero_le _) (want_yes (q := false) rfl rfl (Eq.trans (b := Value.bool (decide ((80 : Int) < (x37.length : Int)))) rfl (congrArg Value.bool (decide_eq_false hc39))) rfl) (ev_move rfl) rfl ?_
              refine MO.op (v := (slv eW p6_7)) (Nat.zero_le _) (want_yes (q := false) rfl rfl (Eq.trans (b := Value.bool (decide ((80 : Int) < (x37.length : Int)))) rfl (congrArg Value.bool (decide_eq_false hc39))) rfl) (ev_move q28) rfl ?_
              obtain ⟨r45, e46, h⟩ := bind_some h
              refine MO.pureW (v := (Value.int .i64 r45)) (vs := [(slv eW x37), (slv eW p6_7)]) (as' := [(slv eW x37), (slv eW p6_7)]) (Nat.zero_le _) (want_yes (q := false) rfl rfl (Eq.trans (b := Value.bool (decide ((80 : Int) < (x37.length : Int)))) rfl (congrArg Value.bool (decide_eq_false hc39))) rfl) rfl (callee_of rfl (args_cons rfl (args_cons rfl args_nil))) (LWk.cons (Wk.same _) (LWk.cons (Wk.same _) LWk.nil)) (F_R44_Apart.ok e46) rfl ?_
              refine MO.op (v := (Value.bool (decide (r43 ≠ r45)))) (Nat.zero_le _) (want_yes (q := false) rfl rfl (Eq.trans (b := Value.bool (decide ((80 : Int) < (x37.length : Int)))) rfl (congrArg Value.bool (decide_eq_false hc39))) rfl) (ev_bin (x := (Value.int .i64 r43)) (y := (Value.int .i64 r45)) rfl rfl int_neq) rfl ?_
              refine MO.op (v := (Value.bool (decide (r43 ≠ r45)))) (Nat.zero_le _) rfl (ev_pickF (Eq.trans (b := Value.bool (decide ((80 : Int) < (x37.length : Int)))) rfl (congrArg Value.bool (decide_eq_false hc39))) rfl) rfl ?_
              refine MO.nil ?_
              refine Then.at ?_
              by_cases hc47 : r43 ≠ r45
              · rw [if_pos hc47] at h
                show MC _ _ _ _ _ _ _
                refine MC.condT (Eq.trans (b := Value.bool (decide (r43 ≠ r45))) rfl (congrArg Value.bool (decide_eq_true hc47))) ?_
                show MC _ _ _ _ _ _ _
                refine MC.seq ?_
                show MC _ _ _ _ _ _ _
                refine MC.region ?_
                refine MO.op (v := (slv eW x37)) (Nat.zero_le _) rfl (ev_move rfl) rfl ?_
                refine MO.op (v := (Value.int .i64 (x37.length : Int))) (Nat.zero_le _) rfl (ev_len (x := (slv eW x37)) rfl (len_still Try.underlying25 _ _)) rfl ?_
                refine MO.op (v := (Value.bool (decide ((80 : Int) < (x37.length : Int))))) (Nat.zero_le _) rfl (ev_bin (x := (Value.int .i64 (x37.length : Int))) (y := (Value.int .i64 (80 : Int))) rfl rfl int_gtr) rfl ?_
                refine MO.op (v := (Value.bool (decide ((80 : Int) < (x37.length : Int))))) (Nat.zero_le _) rfl (ev_move rfl) rfl ?_
                by_cases hc48 : (80 : Int) < (x37.length : Int)
                · rw [if_pos hc48] at h
                  obtain ⟨r49, e50, h⟩ := bind_some h
                  refine MO.pureW (v := (Value.bool r49)) (vs := []) (as' := []) (Nat.zero_le _) (want_yes (q := true) rfl rfl (Eq.trans (b := Value.bool (decide ((80 : Int) < (x37.length : Int)))) rfl (congrArg Value.bool (decide_eq_true hc48))) rfl) rfl (callee_of rfl args_nil) LWk.nil (F_lives.ok e50) rfl ?_
                  refine MO.op (v := (Value.bool r49)) (Nat.zero_le _) rfl (ev_pickT (Eq.trans (b := Value.bool (decide ((80 : Int) < (x37.length : Int)))) rfl (congrArg Value.bool (decide_eq_true hc48))) rfl) rfl ?_
                  refine MO.op (v := (Value.bool r49)) (Nat.zero_le _) rfl (ev_assign rfl) rfl ?_
                  refine MO.nil ?_
                  refine Then.at ?_
                  show MC _ _ _ _ _ _ _
                  refine MC.ret ?_
                  refine Block.ret ?_
                  refine Then.ret ?_
                  refine Then.ret ?_
                  refine Block.ret ?_
                  refine Then.ret ?_
                  obtain rfl := Option.some.inj h
                  exact ⟨.inr rfl, _, (res_cons (res_tmp rfl) res_nil), rfl⟩
                · rw [if_neg hc48] at h
                  refine MO.skip (want_no (q := false) rfl rfl (Eq.trans (b := Value.bool (decide ((80 : Int) < (x37.length : Int)))) rfl (congrArg Value.bool (decide_eq_false hc48))) rfl) rfl ?_
                  refine MO.op (v := (Value.bool false)) (Nat.zero_le _) rfl (ev_pickF (Eq.trans (b := Value.bool (decide ((80 : Int) < (x37.length : Int)))) rfl (congrArg Value.bool (decide_eq_false hc48))) rfl) rfl ?_
                  refine MO.op (v := (Value.bool false)) (Nat.zero_le _) rfl (ev_assign rfl) rfl ?_
                  refine MO.nil ?_
                  refine Then.at ?_
                  show MC _ _ _ _ _ _ _
                  refine MC.ret ?_
                  refine Block.ret ?_
                  refine Then.ret ?_
                  refine Then.ret ?_
                  refine Block.ret ?_
                  refine Then.ret ?_
                  obtain rfl := Option.some.inj h
                  exact ⟨.inr rfl, _, (res_cons (res_tmp rfl) res_nil), rfl⟩
              · rw [if_neg hc47] at h
                show MC _ _ _ _ _ _ _
                refine MC.condF (Eq.trans (b := Value.bool (decide (r43 ≠ r45))) rfl (congrArg Value.bool (decide_eq_false hc47))) ?_
                show MC _ _ _ _ _ _ _
                refine MC.skip ?_
                refine Block.at ?_
                refine Then.at ?_
                show MC _ _ _ _ _ _ _
                refine MC.region ?_
                refine MO.op (v := (Value.int .i64 (wr (x39_21 + (1 : Int))))) (Nat.zero_le _) rfl (ev_bin (x := (Value.int .i64 x39_21)) (y := (Value.int .i64 (1 : Int))) q32 rfl int_add) rfl ?_
                refine MO.op (v := (Value.int .i64 (wr (x39_21 + (1 : Int))))) (Nat.zero_le _) rfl (ev_move rfl) rfl ?_
                refine MO.nil ?_
                refine Then.at ?_
                exact ⟨((wr (x39_21 + (1 : Int)))), ⟨q22, q23, q24, q25, q26, q27, q28, q29, q30, q31, rfl, hH33⟩, h⟩
          · rw [if_neg hc36] at h
            show MC _ _ _ _ _ _ _
            refine MC.condF (Eq.trans (b := Value.bool (decide (x39_21 < (p5_6.length : Int)))) rfl (congrArg Value.bool (decide_eq_false hc36))) ?_
            show MC _ _ _ _ _ _ _
            refine MC.exit ?_
            refine Then.exit ?_
            refine Then.exit ?_
            refine Block.exit ?_
            refine Then.at ?_
            show MC _ _ _ _ _ _ _
            refine MC.seq ?_
            show MC _ _ _ _ _ _ _
            refine MC.region ?_
            obtain ⟨r51, e52, h⟩ := bind_some h
            refine MO.pureW (v := (Value.bool r51)) (vs := []) (as' := []) (Nat.zero_le _) rfl rfl (callee_of rfl args_nil) LWk.nil (F_lives.ok e52) rfl ?_
            refine MO.op (v := (Value.bool r51)) (Nat.zero_le _) rfl (ev_move rfl) rfl ?_
            by_cases hc53 : r51 = true
            · rw [if_pos hc53] at h
              refine MO.op (v := (w64 p1_2)) (Nat.zero_le _) (want_yes (q := true) rfl rfl (Eq.trans (b := Value.bool r51) rfl (congrArg Value.bool hc53)) rfl) (ev_move q23) rfl ?_
              refine MO.op (v := (Value.int .i64 p3_4)) (Nat.zero_le _) (want_yes (q := true) rfl rfl (Eq.trans (b := Value.bool r51) rfl (congrArg Value.bool hc53)) rfl) (ev_move q25) rfl ?_
              refine MO.op (v := (Value.int .i64 p4_5)) (Nat.zero_le _) (want_yes (q := true) rfl rfl (Eq.trans (b := Value.bool r51) rfl (congrArg Value.bool hc53)) rfl) (ev_move q26) rfl ?_
              obtain ⟨r54, e55, h⟩ := bind_some h
              refine MO.pureW (v := (Value.int .i64 r54)) (vs := [(w64 p1_2), (Value.int .i64 p3_4), (Value.int .i64 p4_5)]) (as' := [(w64 p1_2), (Value.int .i64 p3_4), (Value.int .i64 p4_5)]) (Nat.zero_le _) (want_yes (q := true) rfl rfl (Eq.trans (b := Value.bool r51) rfl (congrArg Value.bool hc53)) rfl) rfl (callee_of rfl (args_cons rfl (args_cons rfl (args_cons rfl args_nil)))) (LWk.cons (Wk.same _) (LWk.cons (Wk.same _) (LWk.cons (Wk.same _) LWk.nil))) (F_sketch_Sign.ok e55) rfl ?_
              refine MO.op (v := (w64 p1_2)) (Nat.zero_le _) (want_yes (q := true) rfl rfl (Eq.trans (b := Value.bool r51) rfl (congrArg Value.bool hc53)) rfl) (ev_move q23) rfl ?_
              refine MO.op (v := (Value.int .i64 p3_4)) (Nat.zero_le _) (want_yes (q := true) rfl rfl (Eq.trans (b := Value.bool r51) rfl (congrArg Value.bool hc53)) rfl) (ev_move q25) rfl ?_
              refine MO.op (v := (Value.int .i64 p4_5)) (Nat.zero_le _) (want_yes (q := true) rfl rfl (Eq.trans (b := Value.bool r51) rfl (congrArg Value.bool hc53)) rfl) (ev_move q26) rfl ?_
              obtain ⟨r56, e57, h⟩ := bind_some h
              refine MO.pureW (v := (Value.int .i64 r56)) (vs := [(w64 p1_2), (Value.int .i64 p3_4), (Value.int .i64 p4_5)]) (as' := [(w64 p1_2), (Value.int .i64 p3_4), (Value.int .i64 p4_5)]) (Nat.zero_le _) (want_yes (q := true) rfl rfl (Eq.trans (b := Value.bool r51) rfl (congrArg Value.bool hc53)) rfl) rfl (callee_of rfl (args_cons rfl (args_cons rfl (args_cons rfl args_nil)))) (LWk.cons (Wk.same _) (LWk.cons (Wk.same _) (LWk.cons (Wk.same _) LWk.nil))) (F_R44_Sign.ok e57) rfl ?_
              refine MO.op (v := (Value.bool (decide (r54 = r56)))) (Nat.zero_le _) (want_yes (q := true) rfl rfl (Eq.trans (b := Value.bool r51) rfl (congrArg Value.bool hc53)) rfl) (ev_bin (x := (Value.int .i64 r54)) (y := (Value.int .i64 r56)) rfl rfl int_eql) rfl ?_
              refine MO.op (v := (Value.bool (decide (r54 = r56)))) (Nat.zero_le _) rfl (ev_pickT (Eq.trans (b := Value.bool r51) rfl (congrArg Value.bool hc53)) rfl) rfl ?_
              refine MO.op (v := (Value.bool (decide (r54 = r56)))) (Nat.zero_le _) rfl (ev_move rfl) rfl ?_
              by_cases hc58 : r54 = r56
              · rw [if_pos hc58] at h
                refine MO.op (v := (slv (eI .i32) p0_1)) (Nat.zero_le _) (want_yes (q := true) rfl rfl (Eq.trans (b := Value.bool (decide (r54 = r56))) rfl (congrArg Value.bool (decide_eq_true hc58))) rfl) (ev_move q22) rfl ?_
                refine MO.op (v := (w64 p1_2)) (Nat.zero_le _) (want_yes (q := true) rfl rfl (Eq.trans (b := Value.bool (decide (r54 = r56))) rfl (congrArg Value.bool (decide_eq_true hc58))) rfl) (ev_move q23) rfl ?_
                refine MO.op (v := (Value.int .i64 p2_3)) (Nat.zero_le _) (want_yes (q := true) rfl rfl (Eq.trans (b := Value.bool (decide (r54 = r56))) rfl (congrArg Value.bool (decide_eq_true hc58))) rfl) (ev_move q24) rfl ?_
                obtain ⟨r59, e60, h⟩ := bind_some h
                refine MO.pureW (v := (slv eW r59)) (vs := [(slv (eI .i32) p0_1), (w64 p1_2), (Value.int .i64 p2_3)]) (as' := [(slv (eI .i32) p0_1), (w64 p1_2), (Value.int .i64 p2_3)]) (Nat.zero_le _) (want_yes (q := true) rfl rfl (Eq.trans (b := Value.bool (decide (r54 = r56))) rfl (congrArg Value.bool (decide_eq_true hc58))) rfl) rfl (callee_of rfl (args_cons rfl (args_cons rfl (args_cons rfl args_nil)))) (LWk.cons (Wk.same _) (LWk.cons (Wk.same _) (LWk.cons (Wk.same _) LWk.nil))) (F_sketch_Of.ok e60) rfl ?_
                refine MO.op (v := (slv (eI .i32) p0_1)) (Nat.zero_le _) (want_yes (q := true) rfl rfl (Eq.trans (b := Value.bool (decide (r54 = r56))) rfl (congrArg Value.bool (decide_eq_true hc58))) rfl) (ev_move q22) rfl ?_
                refine MO.op (v := (w64 p1_2)) (Nat.zero_le _) (want_yes (q := true) rfl rfl (Eq.trans (b := Value.bool (decide (r54 = r56))) rfl (congrArg Value.bool (decide_eq_true hc58))) rfl) (ev_move q23) rfl ?_
                refine MO.op (v := (Value.int .i64 p2_3)) (Nat.zero_le _) (want_yes (q := true) rfl rfl (Eq.trans (b := Value.bool (decide (r54 = r56))) rfl (congrArg Value.bool (decide_eq_true hc58))) rfl) (ev_move q24) rfl ?_
                obtain ⟨r61, e62, h⟩ := bind_some h
                refine MO.pureW (v := (slv eW r61)) (vs := [(slv (eI .i32) p0_1), (w64 p1_2), (Value.int .i64 p2_3)]) (as' := [(slv (eI .i32) p0_1), (w64 p1_2), (Value.int .i64 p2_3)]) (Nat.zero_le _) (want_yes (q := true) rfl rfl (Eq.trans (b := Value.bool (decide (r54 = r56))) rfl (congrArg Value.bool (decide_eq_true hc58))) rfl) rfl (callee_of rfl (args_cons rfl (args_cons rfl (args_cons rfl args_nil)))) (LWk.cons (Wk.same _) (LWk.cons (Wk.same _) (LWk.cons (Wk.same _) LWk.nil))) (F_R44_Of.ok e62) rfl ?_
                obtain ⟨r63, e64, h⟩ := bind_some h
                refine MO.pureW (v := (Value.bool r63)) (vs := [(slv eW r59), (slv eW r61)]) (as' := [(slv eW r59), (slv eW r61)]) (Nat.zero_le _) (want_yes (q := true) rfl rfl (Eq.trans (b := Value.bool (decide (r54 = r56))) rfl (congrArg Value.bool (decide_eq_true hc58))) rfl) rfl (callee_of rfl (args_cons rfl (args_cons rfl args_nil))) (LWk.cons (Wk.same _) (LWk.cons (Wk.same _) LWk.nil)) (F_R01_Same.ok e64) rfl ?_
                refine MO.op (v := (Value.bool r63)) (Nat.zero_le _) rfl (ev_pickT (Eq.trans (b := Value.bool (decide (r54 = r56))) rfl (congrArg Value.bool (decide_eq_true hc58))) rfl) rfl ?_
                refine MO.op (v := (Value.bool r63)) (Nat.zero_le _) rfl (ev_move rfl) rfl ?_
                by_cases hc65 : r63 = true
                · rw [if_pos hc65] at h
                  refine MO.op (v := (slv (eL eW) p5_6)) (Nat.zero_le _) (want_yes (q := true) rfl rfl (Eq.trans (b := Value.bool r63) rfl (congrArg Value.bool hc65)) rfl) (ev_move q27) rfl ?_
                  refine MO.op (v := (slv eW p6_7)) (Nat.zero_le _) (want_yes (q := true) rfl rfl (Eq.trans (b := Value.bool r63) rfl (congrArg Value.bool hc65)) rfl) (ev_move q28) rfl ?_
                  refine MO.op (v := (Value.int .i64 p7_8)) (Nat.zero_le _) (want_yes (q := true) rfl rfl (Eq.trans (b := Value.bool r63) rfl (congrArg Value.bool hc65)) rfl) (ev_move q29) rfl ?_
                  obtain ⟨r66, e67, h⟩ := bind_some h
                  refine MO.pureW (v := (slv (eI .i64) r66)) (vs := [(slv (eL eW) p5_6), (slv eW p6_7), (Value.int .i64 p7_8)]) (as' := [(slv (eL eW) p5_6), (slv eW p6_7), (Value.int .i64 p7_8)]) (Nat.zero_le _) (want_yes (q := true) rfl rfl (Eq.trans (b := Value.bool r63) rfl (congrArg Value.bool hc65)) rfl) rfl (callee_of rfl (args_cons rfl (args_cons rfl (args_cons rfl args_nil)))) (LWk.cons (Wk.same _) (LWk.cons (Wk.same _) (LWk.cons (Wk.same _) LWk.nil))) (F_sketch_Near.ok e67) rfl ?_
                  refine MO.op (v := (slv (eL eW) p5_6)) (Nat.zero_le _) (want_yes (q := true) rfl rfl (Eq.trans (b := Value.bool r63) rfl (congrArg Value.bool hc65)) rfl) (ev_move q27) rfl ?_
                  refine MO.op (v := (slv eW p6_7)) (Nat.zero_le _) (want_yes (q := true) rfl rfl (Eq.trans (b := Value.bool r63) rfl (congrArg Value.bool hc65)) rfl) (ev_move q28) rfl ?_
                  refine MO.op (v := (Value.int .i64 p7_8)) (Nat.zero_le _) (want_yes (q := true) rfl rfl (Eq.trans (b := Value.bool r63) rfl (congrArg Value.bool hc65)) rfl) (ev_move q29) rfl ?_
                  obtain ⟨r68, e69, h⟩ := bind_some h
                  refine MO.pureW (v := (slv (eI .i64) r68)) (vs := [(slv (eL eW) p5_6), (slv eW p6_7), (Value.int .i64 p7_8)]) (as' := [(slv (eL eW) p5_6), (slv eW p6_7), (Value.int .i64 p7_8)]) (Nat.zero_le _) (want_yes (q := true) rfl rfl (Eq.trans (b := Value.bool r63) rfl (congrArg Value.bool hc65)) rfl) rfl (callee_of rfl (args_cons rfl (args_cons rfl (args_cons rfl args_nil)))) (LWk.cons (Wk.same _) (LWk.cons (Wk.same _) (LWk.cons (Wk.same _) LWk.nil))) (F_R44_Near.ok e69) rfl ?_
                  obtain ⟨r70, e71, h⟩ := bind_some h
                  refine MO.pureW (v := (Value.bool r70)) (vs := [(slv (eI .i64) r66), (slv (eI .i64) r68)]) (as' := [(slv (eI .i64) r66), (slv (eI .i64) r68)]) (Nat.zero_le _) (want_yes (q := true) rfl rfl (Eq.trans (b := Value.bool r63) rfl (congrArg Value.bool hc65)) rfl) rfl (callee_of rfl (args_cons rfl (args_cons rfl args_nil))) (LWk.cons (Wk.same _) (LWk.cons (Wk.same _) LWk.nil)) (F_R01_SameInts.ok e71) rfl ?_
                  refine MO.op (v := (Value.bool r70)) (Nat.zero_le _) rfl (ev_pickT (Eq.trans (b := Value.bool r63) rfl (congrArg Value.bool hc65)) rfl) rfl ?_
                  refine MO.op (v := (Value.bool r70)) (Nat.zero_le _) rfl (ev_assign rfl) rfl ?_
                  refine MO.nil ?_
                  refine Then.at ?_
                  show MC _ _ _ _ _ _ _
                  refine MC.ret ?_
                  obtain rfl := Option.some.inj h
                  exact ⟨.inr rfl, _, (res_cons (res_tmp rfl) res_nil), rfl⟩
                · rw [if_neg hc65] at h
                  refine MO.skip (want_no (q := false) rfl rfl (Eq.trans (b := Value.bool r63) rfl (congrArg Value.bool (Bool.eq_false_iff.2 hc65))) rfl) rfl ?_
                  refine MO.skip (want_no (q := false) rfl rfl (Eq.trans (b := Value.bool r63) rfl (congrArg Value.bool (Bool.eq_false_iff.2 hc65))) rfl) rfl ?_
                  refine MO.skip (want_no (q := false) rfl rfl (Eq.trans (b := Value.bool r63) rfl (congrArg Value.bool (Bool.eq_false_iff.2 hc65))) rfl) rfl ?_
                  refine MO.skip (want_no (q := false) rfl rfl (Eq.trans (b := Value.bool r63) rfl (congrArg Value.bool (Bool.eq_false_iff.2 hc65))) rfl) rfl ?_
                  refine MO.skip (want_no (q := false) rfl rfl (Eq.trans (b := Value.bool r63) rfl (congrArg Value.bool (Bool.eq_false_iff.2 hc65))) rfl) rfl ?_
                  refine MO.skip (want_no (q := false) rfl rfl (Eq.trans (b := Value.bool r63) rfl (congrArg Value.bool (Bool.eq_false_iff.2 hc65))) rfl) rfl ?_
                  refine MO.skip (want_no (q := false) rfl rfl (Eq.trans (b := Value.bool r63) rfl (congrArg Value.bool (Bool.eq_false_iff.2 hc65))) rfl) rfl ?_
                  refine MO.skip (want_no (q := false) rfl rfl (Eq.trans (b := Value.bool r63) rfl (congrArg Value.bool (Bool.eq_false_iff.2 hc65))) rfl) rfl ?_
                  refine MO.skip (want_no (q := false) rfl rfl (Eq.trans (b := Value.bool r63) rfl (congrArg Value.bool (Bool.eq_false_iff.2 hc65))) rfl) rfl ?_
                  refine MO.op (v := (Value.bool false)) (Nat.zero_le _) rfl (ev_pickF (Eq.trans (b := Value.bool r63) rfl (congrArg Value.bool (Bool.eq_false_iff.2 hc65))) rfl) rfl ?_
                  refine MO.op (v := (Value.bool false)) (Nat.zero_le _) rfl (ev_assign rfl) rfl ?_
                  refine MO.nil ?_
                  refine Then.at ?_
                  show MC _ _ _ _ _ _ _
                  refine MC.ret ?_
                  obtain rfl := Option.some.inj h
                  exact ⟨.inr rfl, _, (res_cons (res_tmp rfl) res_nil), rfl⟩
              · rw [if_neg hc58] at h
                refine MO.skip (want_no (q := false) rfl rfl (Eq.trans (b := Value.bool (decide (r54 = r56))) rfl (congrArg Value.bool (decide_eq_false hc58))) rfl) rfl ?_
                refine MO.skip (want_no (q := false) rfl rfl (Eq.trans (b := Value.bool (decide (r54 = r56))) rfl (congrArg Value.bool (decide_eq_false hc58))) rfl) rfl ?_
                refine MO.skip (want_no (q := false) rfl rfl (Eq.trans (b := Value.bool (decide (r54 = r56))) rfl (congrArg Value.bool (decide_eq_false hc58))) rfl) rfl ?_
                refine MO.skip (want_no (q := false) rfl rfl (Eq.trans (b := Value.bool (decide (r54 = r56))) rfl (congrArg Value.bool (decide_eq_false hc58))) rfl) rfl ?_
                refine MO.skip (want_no (q := false) rfl rfl (Eq.trans (b := Value.bool (decide (r54 = r56))) rfl (congrArg Value.bool (decide_eq_false hc58))) rfl) rfl ?_
                refine MO.skip (want_no (q := false) rfl rfl (Eq.trans (b := Value.bool (decide (r54 = r56))) rfl (congrArg Value.bool (decide_eq_false hc58))) rfl) rfl ?_
                refine MO.skip (want_no (q := false) rfl rfl (Eq.trans (b := Value.bool (decide (r54 = r56))) rfl (congrArg Value.bool (decide_eq_false hc58))) rfl) rfl ?_
                refine MO.skip (want_no (q := false) rfl rfl (Eq.trans (b := Value.bool (decide (r54 = r56))) rfl (congrArg Value.bool (decide_eq_false hc58))) rfl) rfl ?_
                refine MO.skip (want_no (q := false) rfl rfl (Eq.trans (b := Value.bool (decide (r54 = r56))) rfl (congrArg Value.bool (decide_eq_false hc58))) rfl) rfl ?_
                refine MO.op (v := (Value.bool false)) (Nat.zero_le _) rfl (ev_pickF (Eq.trans (b := Value.bool (decide (r54 = r56))) rfl (congrArg Value.bool (decide_eq_false hc58))) rfl) rfl ?_
                refine MO.op (v := (Value.bool false)) (Nat.zero_le _) rfl (ev_move rfl) rfl ?_
                refine MO.skip (want_no (q := false) rfl rfl rfl rfl) rfl ?_
                refine MO.skip (want_no (q := false) rfl rfl rfl rfl) rfl ?_
                refine MO.skip (want_no (q := false) rfl rfl rfl rfl) rfl ?_
                refine MO.skip (want_no (q := false) rfl rfl rfl rfl) rfl ?_
                refine MO.skip (want_no (q := false) rfl rfl rfl rfl) rfl ?_
                refine MO.skip (want_no (q := false) rfl rfl rfl rfl) rfl ?_
                refine MO.skip (want_no (q := false) rfl rfl rfl rfl) rfl ?_
                refine MO.skip (want_no (q := false) rfl rfl rfl rfl) rfl ?_
                refine MO.skip (want_no (q := false) rfl rfl rfl rfl) rfl ?_
                refine MO.op (v := (Value.bool false)) (Nat.zero_le _) rfl (ev_pickF rfl rfl) rfl ?_
                refine MO.op (v := (Value.bool false)) (Nat.zero_le _) rfl (ev_assign rfl) rfl ?_
                refine MO.nil ?_
                refine Then.at ?_
                show MC _ _ _ _ _ _ _
                refine MC.ret ?_
                obtain rfl := Option.some.inj h
                exact ⟨.inr rfl, _, (res_cons (res_tmp rfl) res_nil), rfl⟩
            · rw [if_neg hc53] at h
              refine MO.skip (want_no (q := false) rfl rfl (Eq.trans (b := Value.bool r51) rfl (congrArg Value.bool (Bool.eq_false_iff.2 hc53))) rfl) rfl ?_
              refine MO.skip (want_no (q := false) rfl rfl (Eq.trans (b := Value.bool r51) rfl (congrArg Value.bool (Bool.eq_false_iff.2 hc53))) rfl) rfl ?_
              refine MO.skip (want_no (q := false) rfl rfl (Eq.trans (b := Value.bool r51) rfl (congrArg Value.bool (Bool.eq_false_iff.2 hc53))) rfl) rfl ?_
              refine MO.skip (want_no (q := false) rfl rfl (Eq.trans (b := Value.bool r51) rfl (congrArg Value.bool (Bool.eq_false_iff.2 hc53))) rfl) rfl ?_
              refine MO.skip (want_no (q := false) rfl rfl (Eq.trans (b := Value.bool r51) rfl (congrArg Value.bool (Bool.eq_false_iff.2 hc53))) rfl) rfl ?_
              refine MO.skip (want_no (q := false) rfl rfl (Eq.trans (b := Value.bool r51) rfl (congrArg Value.bool (Bool.eq_false_iff.2 hc53))) rfl) rfl ?_
              refine MO.skip (want_no (q := false) rfl rfl (Eq.trans (b := Value.bool r51) rfl (congrArg Value.bool (Bool.eq_false_iff.2 hc53))) rfl) rfl ?_
              refine MO.skip (want_no (q := false) rfl rfl (Eq.trans (b := Value.bool r51) rfl (congrArg Value.bool (Bool.eq_false_iff.2 hc53))) rfl) rfl ?_
              refine MO.skip (want_no (q := false) rfl rfl (Eq.trans (b := Value.bool r51) rfl (congrArg Value.bool (Bool.eq_false_iff.2 hc53))) rfl) rfl ?_
              refine MO.op (v := (Value.bool false)) (Nat.zero_le _) rfl (ev_pickF (Eq.trans (b := Value.bool r51) rfl (congrArg Value.bool (Bool.eq_false_iff.2 hc53))) rfl) rfl ?_
              refine MO.op (v := (Value.bool false)) (Nat.zero_le _) rfl (ev_move rfl) rfl ?_
              refine MO.skip (want_no (q := false) rfl rfl rfl rfl) rfl ?_
              refine MO.skip (want_no (q := false) rfl rfl rfl rfl) rfl ?_
              refine MO.skip (want_no (q := false) rfl rfl rfl rfl) rfl ?_
              refine MO.skip (want_no (q := false) rfl rfl rfl rfl) rfl ?_
              refine MO.skip (want_no (q := false) rfl rfl rfl rfl) rfl ?_
              refine MO.skip (want_no (q := false) rfl rfl rfl rfl) rfl ?_
              refine MO.skip (want_no (q := false) rfl rfl rfl rfl) rfl ?_
              refine MO.skip (want_no (q := false) rfl rfl rfl rfl) rfl ?_
              refine MO.skip (want_no (q := false) rfl rfl rfl rfl) rfl ?_
              refine MO.op (v := (Value.bool false)) (Nat.zero_le _) rfl (ev_pickF rfl rfl) rfl ?_
              refine MO.op (v := (Value.bool false)) (Nat.zero_le _) rfl (ev_move rfl) rfl ?_
              refine MO.skip (want_no (q := false) rfl rfl rfl rfl) rfl ?_
              refine MO.skip (want_no (q := false) rfl rfl rfl rfl) rfl ?_
              refine MO.skip (want_no (q := false) rfl rfl rfl rfl) rfl ?_
              refine MO.skip (want_no (q := false) rfl rfl rfl rfl) rfl ?_
              refine MO.skip (want_no (q := false) rfl rfl rfl rfl) rfl ?_
              refine MO.skip (want_no (q := false) rfl rfl rfl rfl) rfl ?_
              refine MO.skip (want_no (q := false) rfl rfl rfl rfl) rfl ?_
              refine MO.skip (want_no (q := false) rfl rfl rfl rfl) rfl ?_
              refine MO.skip (want_no (q := false) rfl rfl rfl rfl) rfl ?_
              refine MO.op (v := (Value.bool false)) (Nat.zero_le _) rfl (ev_pickF rfl rfl) rfl ?_
              refine MO.op (v := (Value.bool false)) (Nat.zero_le _) rfl (ev_assign rfl) rfl ?_
              refine MO.nil ?_
              refine Then.at ?_
              show MC _ _ _ _ _ _ _
              refine MC.ret ?_
              obtain rfl := Option.some.inj h
              exact ⟨.inr rfl, _, (res_cons (res_tmp rfl) res_nil), rfl⟩
end Go.Proofs.Ytaclhflmgafobaa
