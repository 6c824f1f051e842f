/- Functions, told as Lean functions, and that the code computes them. -/
import Derived.Test.YtaclhflmgafobaaB
namespace Go.Proofs.Ytaclhflmgafobaa
open Go Go.Ab Go.Proofs
set_option linter.unusedSimpArgs false
set_option linter.unusedVariables false
set_option maxRecDepth 20000
set_option maxHeartbeats 1000000
noncomputable def F_cmp_Or_b1 (p0_1 : (List Int)) (next9 : (Int → Option (Int))) : Int → Option (Int)
  | x8_2 =>
    if x8_2 < (p0_1.length : Int) then
      Option.bind (gx p0_1 x8_2) fun x11 =>
      if x11 ≠ (0 : Int) then
        some (x11)
      else
        next9 ((wr (x8_2 + (1 : Int))))
    else
      some ((0 : Int))
noncomputable def F_cmp_Or (p0_1 : (List Int)) : Option (Int) :=
  loopK (F_cmp_Or_b1 p0_1) fuel ((0 : Int))
theorem F_cmp_Or.ok {p0_1 : (List Int)} {r : (Int)} (h : F_cmp_Or p0_1 = some r) : Pure Try.prog 29 [(slv (eI .i64) p0_1)] (Value.int .i64 r) := by
  unfold F_cmp_Or at h
  refine ⟨(.cons (slv_flat _ _) .nil), (.prim rfl), Fn.enter Try.func29 (by kernel_rfl) rfl (of_decide_eq_true rfl) ?_⟩
  have hH : Hp ⟨0, []⟩ [] := Hp.nil (Nat.le_refl _)
  show MC _ _ _ _ _ _ _
  refine MC.seq ?_
  show MC _ _ _ _ _ _ _
  refine MC.region ?_
  refine MO.op (v := (Value.int .i64 (0 : Int))) (Nat.zero_le _) rfl (ev_assign rfl) rfl ?_
  refine MO.nil ?_
  refine Then.at ?_
  show MC _ _ _ _ _ _ _
  refine MC.seq ?_
  show MC _ _ _ _ _ _ _
  refine MC.region ?_
  refine MO.op (v := (Value.int .i64 (0 : Int))) (Nat.zero_le _) rfl (ev_assign rfl) rfl ?_
  refine MO.nil ?_
  refine Then.at ?_
  show MC _ _ _ _ _ _ _
  refine MC.seq ?_
  show MC _ _ _ _ _ _ _
  refine MC.seq ?_
  show MC _ _ _ _ _ _ _
  refine MC.region ?_
  refine MO.op (v := (slv (eI .i64) p0_1)) (Nat.zero_le _) rfl (ev_move rfl) rfl ?_
  refine MO.op (v := (Value.int .i64 (p0_1.length : Int))) (Nat.zero_le _) rfl (ev_len (x := (slv (eI .i64) p0_1)) rfl (len_still Try.underlying32 _ _)) rfl ?_
  refine MO.op (v := (Value.int .i64 (0 : Int))) (Nat.zero_le _) rfl (ev_move rfl) rfl ?_
  refine MO.nil ?_
  refine Then.at ?_
  show MC _ _ _ _ _ _ _
  refine MC.block ?_
  show MC _ _ _ _ _ _ _
  refine MC.loopK (fun (s : Int) t σ => t 3 = (Value.int .i64 (0 : Int)) ∧ t 6 = (slv (eI .i64) p0_1) ∧ t 7 = (Value.int .i64 (p0_1.length : Int)) ∧ t 8 = (Value.int .i64 s) ∧ Hp σ []) h ⟨rfl, rfl, rfl, rfl, hH⟩ ?_
  rintro next9 x8_2 t σ ⟨q3, q4, q5, q6, hH7⟩ h
  unfold F_cmp_Or_b1 at h
  show MC _ _ _ _ _ _ _
  refine MC.seq ?_
  show MC _ _ _ _ _ _ _
  refine MC.region ?_
  refine MO.op (v := (Value.bool (decide (x8_2 < (p0_1.length : Int))))) (Nat.zero_le _) rfl (ev_bin (x := (Value.int .i64 x8_2)) (y := (Value.int .i64 (p0_1.length : Int))) q6 q5 int_lss) rfl ?_
  refine MO.nil ?_
  refine Then.at ?_
  show MC _ _ _ _ _ _ _
  refine MC.seq ?_
  by_cases hc10 : x8_2 < (p0_1.length : Int)
  · rw [if_pos hc10] at h
    show MC _ _ _ _ _ _ _
    refine MC.condT (Eq.trans (b := Value.bool (decide (x8_2 < (p0_1.length : Int)))) rfl (congrArg Value.bool (decide_eq_true hc10))) ?_
    show MC _ _ _ _ _ _ _
    refine MC.skip ?_
    refine Then.at ?_
    show MC _ _ _ _ _ _ _
    refine MC.seq ?_
    show MC _ _ _ _ _ _ _
    refine MC.block ?_
    show MC _ _ _ _ _ _ _
    refine MC.seq ?_
    show MC _ _ _ _ _ _ _
    refine MC.region ?_
    obtain ⟨x11, e12, h⟩ := bind_some h
    refine MO.op (v := (ptv (eI .i64) x11)) (Nat.zero_le _) rfl (ev_indexAddr (x := (slv (eI .i64) p0_1)) (y := (Value.int .i64 x8_2)) q4 q6 (index_still ty3 Try.underlying32 (gx_some e12).1 (gx_some e12).2)) rfl ?_
    refine MO.op (v := (Value.int .i64 x11)) (Nat.zero_le _) rfl (ev_load (x := (ptv (eI .i64) x11)) rfl (load_still ty3 _ _)) rfl ?_
    refine MO.op (v := (Value.int .i64 x11)) (Nat.zero_le _) rfl (ev_assign rfl) rfl ?_
    refine MO.nil ?_
    refine Then.at ?_
    show MC _ _ _ _ _ _ _
    refine MC.seq ?_
    show MC _ _ _ _ _ _ _
    refine MC.region ?_
    refine MO.op (v := (Value.int .i64 x11)) (Nat.zero_le _) rfl (ev_move rfl) rfl ?_
    refine MO.op (v := (Value.int .i64 (0 : Int))) (Nat.zero_le _) rfl (ev_move q3) rfl ?_
    refine MO.op (v := (Value.bool (decide (x11 ≠ (0 : Int))))) (Nat.zero_le _) rfl (ev_bin (x := (Value.int .i64 x11)) (y := (Value.int .i64 (0 : Int))) rfl rfl int_neq) rfl ?_
    refine MO.nil ?_
    refine Then.at ?_
    by_cases hc13 : x11 ≠ (0 : Int)
    · rw [if_pos hc13] at h
      show MC _ _ _ _ _ _ _
      refine MC.condT (Eq.trans (b := Value.bool (decide (x11 ≠ (0 : Int)))) rfl (congrArg Value.bool (decide_eq_true hc13))) ?_
      show MC _ _ _ _ _ _ _
      refine MC.seq ?_
      show MC _ _ _ _ _ _ _
      refine MC.region ?_
      refine MO.op (v := (Value.int .i64 x11)) (Nat.zero_le _) rfl (ev_move rfl) rfl ?_
      refine MO.op (v := (Value.int .i64 x11)) (Nat.zero_le _) rfl (ev_assign rfl) rfl ?_
      refine MO.nil ?_
      refine Then.at ?_
      show MC _ _ _ _ _ _ _
      refine MC.ret ?_
      refine Block.ret ?_
      refine Then.ret ?_
      refine Then.ret ?_
      refine Block.ret ?_
      refine Then.ret ?_
      obtain rfl := Option.some.inj h
      exact ⟨.inr rfl, _, (res_cons (res_tmp rfl) res_nil), rfl⟩
    · rw [if_neg hc13] at h
      show MC _ _ _ _ _ _ _
      refine MC.condF (Eq.trans (b := Value.bool (decide (x11 ≠ (0 : Int)))) rfl (congrArg Value.bool (decide_eq_false hc13))) ?_
      show MC _ _ _ _ _ _ _
      refine MC.skip ?_
      refine Block.at ?_
      refine Then.at ?_
      show MC _ _ _ _ _ _ _
      refine MC.region ?_
      refine MO.op (v := (Value.int .i64 (wr (x8_2 + (1 : Int))))) (Nat.zero_le _) rfl (ev_bin (x := (Value.int .i64 x8_2)) (y := (Value.int .i64 (1 : Int))) q6 rfl int_add) rfl ?_
      refine MO.op (v := (Value.int .i64 (wr (x8_2 + (1 : Int))))) (Nat.zero_le _) rfl (ev_move rfl) rfl ?_
      refine MO.nil ?_
      refine Then.at ?_
      exact ⟨((wr (x8_2 + (1 : Int)))), ⟨q3, q4, q5, rfl, hH7⟩, h⟩
  · rw [if_neg hc10] at h
    show MC _ _ _ _ _ _ _
    refine MC.condF (Eq.trans (b := Value.bool (decide (x8_2 < (p0_1.length : Int)))) rfl (congrArg Value.bool (decide_eq_false hc10))) ?_
    show MC _ _ _ _ _ _ _
    refine MC.exit ?_
    refine Then.exit ?_
    refine Then.exit ?_
    refine Block.exit ?_
    refine Then.at ?_
    show MC _ _ _ _ _ _ _
    refine MC.seq ?_
    show MC _ _ _ _ _ _ _
    refine MC.region ?_
    refine MO.op (v := (Value.int .i64 (0 : Int))) (Nat.zero_le _) rfl (ev_move q3) rfl ?_
    refine MO.op (v := (Value.int .i64 (0 : Int))) (Nat.zero_le _) rfl (ev_assign rfl) rfl ?_
    refine MO.nil ?_
    refine Then.at ?_
    show MC _ _ _ _ _ _ _
    refine MC.ret ?_
    obtain rfl := Option.some.inj h
    exact ⟨.inr rfl, _, (res_cons (res_tmp rfl) res_nil), rfl⟩
noncomputable def F_sketch_Near_1 (p0_1 : S_sketch_far) (p1_2 : S_sketch_far) : Option (Int) :=
  Option.bind (F_cmp_Or [(wr (p0_1.apart - p1_2.apart)), (wr (p0_1.place - p1_2.place))]) fun r21 =>
  some (r21)
theorem F_sketch_Near_1.ok {p0_1 : S_sketch_far} {p1_2 : S_sketch_far} {r : (Int)} (h : F_sketch_Near_1 p0_1 p1_2 = some r) : Pure Try.prog 28 [(eS_sketch_far.val p0_1), (eS_sketch_far.val p1_2)] (Value.int .i64 r) := by
  unfold F_sketch_Near_1 at h
  refine ⟨(.cons (val_flat _ _) (.cons (val_flat _ _) .nil)), (.prim rfl), Fn.enter Try.func28 (by kernel_rfl) rfl (of_decide_eq_true rfl) ?_⟩
  have hH : Hp ⟨0, []⟩ [] := Hp.nil (Nat.le_refl _)
  show MC _ _ _ _ _ _ _
  refine MC.seq ?_
  show MC _ _ _ _ _ _ _
  refine MC.region ?_
  obtain ⟨b3, σ4, ha5, hH6, _⟩ := hH.alloc eS_sketch_far p0_1
  refine MO.op (Nat.zero_le _) rfl (ev_box (x := (eS_sketch_far.val p0_1)) rfl (val_isTuple eS_sketch_far _) ha5) rfl ?_
  obtain ⟨b8, σ9, ha10, hH11, _⟩ := hH6.alloc eS_sketch_far p1_2
  refine MO.op (Nat.zero_le _) rfl (ev_box (x := (eS_sketch_far.val p1_2)) rfl (val_isTuple eS_sketch_far _) ha10) rfl ?_
  refine MO.op (v := (Value.int .i64 (0 : Int))) (Nat.zero_le _) rfl (ev_assign rfl) rfl ?_
  refine MO.nil ?_
  refine Then.at ?_
  show MC _ _ _ _ _ _ _
  refine MC.seq ?_
  show MC _ _ _ _ _ _ _
  refine MC.region ?_
  refine MO.op (v := (Value.pointer (some ⟨b3, 0, none⟩))) (Nat.zero_le _) rfl (ev_fieldAddr (x := (Value.pointer (some ⟨b3, 0, none⟩))) rfl (fldBox ty3 fo47_0)) rfl ?_
  refine MO.op (v := (Value.int .i64 p0_1.apart)) (Nat.zero_le _) rfl (ev_load (x := (Value.pointer (some ⟨b3, 0, none⟩))) rfl (hH11.boxLoad (e := (eI .i64)) (i := 1) (y := p0_1.apart) rfl ty3 rfl (fun _ => rfl))) rfl ?_
  refine MO.op (v := (Value.pointer (some ⟨b8, 0, none⟩))) (Nat.zero_le _) rfl (ev_fieldAddr (x := (Value.pointer (some ⟨b8, 0, none⟩))) rfl (fldBox ty3 fo47_0)) rfl ?_
  refine MO.op (v := (Value.int .i64 p1_2.apart)) (Nat.zero_le _) rfl (ev_load (x := (Value.pointer (some ⟨b8, 0, none⟩))) rfl (hH11.boxLoad (e := (eI .i64)) (i := 0) (y := p1_2.apart) rfl ty3 rfl (fun _ => rfl))) rfl ?_
  refine MO.op (v := (Value.int .i64 (wr (p0_1.apart - p1_2.apart)))) (Nat.zero_le _) rfl (ev_bin (x := (Value.int .i64 p0_1.apart)) (y := (Value.int .i64 p1_2.apart)) rfl rfl int_sub) rfl ?_
  refine MO.op (v := (Value.pointer (some ⟨b3, 1, none⟩))) (Nat.zero_le _) rfl (ev_fieldAddr (x := (Value.pointer (some ⟨b3, 0, none⟩))) rfl (fldBox ty3 fo47_1)) rfl ?_
  refine MO.op (v := (Value.int .i64 p0_1.place)) (Nat.zero_le _) rfl (ev_load (x := (Value.pointer (some ⟨b3, 1, none⟩))) rfl (hH11.boxLoad (e := (eI .i64)) (i := 1) (y := p0_1.place) rfl ty3 rfl (fun _ => rfl))) rfl ?_
  refine MO.op (v := (Value.pointer (some ⟨b8, 1, none⟩))) (Nat.zero_le _) rfl (ev_fieldAddr (x := (Value.pointer (some ⟨b8, 0, none⟩))) rfl (fldBox ty3 fo47_1)) rfl ?_
  refine MO.op (v := (Value.int .i64 p1_2.place)) (Nat.zero_le _) rfl (ev_load (x := (Value.pointer (some ⟨b8, 1, none⟩))) rfl (hH11.boxLoad (e := (eI .i64)) (i := 0) (y := p1_2.place) rfl ty3 rfl (fun _ => rfl))) rfl ?_
  refine MO.op (v := (Value.int .i64 (wr (p0_1.place - p1_2.place)))) (Nat.zero_le _) rfl (ev_bin (x := (Value.int .i64 p0_1.place)) (y := (Value.int .i64 p1_2.place)) rfl rfl int_sub) rfl ?_
  obtain ⟨v13, σ14, ha15, hH16, _⟩ := hH11.lit (e := (eI .i64)) (t := 32) Try.underlying32 et3 zr3 rfl ([(wr (p0_1.apart - p1_2.apart)), (wr (p0_1.place - p1_2.place))]) (Nat.le_of_ble_eq_true rfl) (ps := [(0, (Value.int .i64 (wr (p0_1.apart - p1_2.apart)))), (1, (Value.int .i64 (wr (p0_1.place - p1_2.place))))]) rfl
  refine MO.op (Nat.zero_le _) rfl (ev_buildSlice (qs := [(0, (Value.int .i64 (wr (p0_1.apart - p1_2.apart)))), (1, (Value.int .i64 (wr (p0_1.place - p1_2.place))))]) (parts_cons rfl (parts_cons rfl parts_nil)) ha15) rfl ?_
  obtain ⟨r21, e22, h⟩ := bind_some h
  refine MO.still (e := (eI .i64)) (i := 0) hH16 rfl [15] (by simp only [List.mem_cons, List.not_mem_nil, or_false, forall_eq_or_imp, forall_eq]; exact rfl) fun σ19 hH18 hz20 => ?_
  change Hp _ [It.box b8 (En.cells eS_sketch_far p1_2), It.box b3 (En.cells eS_sketch_far p0_1)] at hH18
  refine MO.pureW (v := (Value.int .i64 r21)) (vs := [(slv (eI .i64) [(wr (p0_1.apart - p1_2.apart)), (wr (p0_1.place - p1_2.place))])]) (as' := [(slv (eI .i64) [(wr (p0_1.apart - p1_2.apart)), (wr (p0_1.place - p1_2.place))])]) (Nat.zero_le _) rfl rfl (callee_of rfl (args_cons rfl args_nil)) (LWk.cons (Wk.same _) LWk.nil) (F_cmp_Or.ok e22) rfl ?_
  refine MO.op (v := (Value.int .i64 r21)) (Nat.zero_le _) rfl (ev_assign rfl) rfl ?_
  refine MO.nil ?_
  refine Then.at ?_
  show MC _ _ _ _ _ _ _
  refine MC.ret ?_
  obtain rfl := Option.some.inj h
  exact ⟨.inr rfl, _, (res_cons (res_tmp rfl) res_nil), rfl⟩
noncomputable def F_sketch_Near_b2 (l57 : (List S_sketch_far)) (next91 : (Int × (List Int) → Option ((List Int)))) : Int × (List Int) → Option ((List Int))
  | (x42_76, l77) =>
    if x42_76 < (l57.length : Int) then
      Option.bind (gx l57 x42_76) fun x93 =>
      Option.bind (app 8 l77 [x93.place]) fun l110 =>
      next91 ((wr (x42_76 + (1 : Int))), l110)
    else
      some (l77)
noncomputable def F_sketch_Near_b1 (p0_1 : (List (List (BitVec 64)))) (p1_2 : (List (BitVec 64))) (p2_3 : Int) (next37 : (Int × (List S_sketch_far) → Option ((List Int)))) : Int × (List S_sketch_far) → Option ((List Int))
  | (x18_24, l25) =>
    if x18_24 < (p0_1.length : Int) then
      Option.bind (gx p0_1 x18_24) fun x39 =>
      Option.bind (F_sketch_Apart x39 p1_2) fun r41 =>
      Option.bind (gx l25 x18_24) fun x43 =>
      next37 ((wr (x18_24 + (1 : Int))), (List.set l25 (Int.toNat x18_24) ({ apart := r41, place := x18_24 } : S_sketch_far)))
    else
      Option.bind (sortF F_sketch_Near_1 l25) fun r51 =>
      Option.bind (cut r51 (lo? none) (hi? r51 (some (min (max p2_3 (0 : Int)) (r51.length : Int))))) fun l57 =>
      loopK (F_sketch_Near_b2 l57) fuel ((0 : Int), ([] : (List Int)))
noncomputable def F_sketch_Near (p0_1 : (List (List (BitVec 64)))) (p1_2 : (List (BitVec 64))) (p2_3 : Int) : Option ((List Int)) :=
  Option.bind (mkn (p0_1.length : Int) (zS_sketch_far)) fun l6 =>
  loopK (F_sketch_Near_b1 p0_1 p1_2 p2_3) fuel ((0 : Int), l6)
theorem F_sketch_Near.own {p0_1 : (List (List (BitVec 64)))} {p1_2 : (List (BitVec 64))} {p2_3 : Int} {r : ((List Int))} (h : F_sketch_Near p0_1 p1_2 p2_3 = some r) : PureO Try.prog 14 [(slv (eL eW) p0_1), (slv eW p1_2), (Value.int .i64 p2_3)] (eI .i64) r := by
  unfold F_sketch_Near at h
  refine ⟨(.cons (slv_flat _ _) (.cons (slv_flat _ _) (.cons (.prim rfl) .nil))), by decide, Fn.enter Try.func14 (by kernel_rfl) rfl (of_decide_eq_true rfl) ?_⟩
  have hH : Hp ⟨0, []⟩ [] := Hp.nil (Nat.le_refl _)
  show MC _ _ _ _ _ _ _
  refine MC.seq ?_
  show MC _ _ _ _ _ _ _
  refine MC.region ?_
  have hH4 := hH.nilSl (eI .i64)
  refine MO.op (v := (Value.slice none 0 0)) (Nat.zero_le _) rfl (ev_assign rfl) rfl ?_
  refine MO.nil ?_
  refine Then.at ?_
  show MC _ _ _ _ _ _ _
  refine MC.seq ?_
  show MC _ _ _ _ _ _ _
  refine MC.region ?_
  refine MO.op (v := (slv (eL eW) p0_1)) (Nat.zero_le _) rfl (ev_move rfl) rfl ?_
  refine MO.op (v := (Value.int .i64 (p0_1.length : Int))) (Nat.zero_le _) rfl (ev_len (x := (slv (eL eW) p0_1)) rfl (len_still Try.underlying24 _ _)) rfl ?_
  obtain ⟨l6, e7, h⟩ := bind_some h
  refine MO.makeW (e := eS_sketch_far) (z := (zS_sketch_far)) (Nat.zero_le _) rfl rfl rfl rfl Try.underlying45 et47 zr47 rfl e7 (by decide) hH4 rfl (by decide) fun v8 σ9 hH10 => ?_
  refine MO.op (v := v8) (Nat.zero_le _) rfl (ev_assign rfl) rfl ?_
  refine MO.nil ?_
  refine Then.at ?_
  show MC _ _ _ _ _ _ _
  refine MC.seq ?_
  show MC _ _ _ _ _ _ _
  refine MC.seq ?_
  show MC _ _ _ _ _ _ _
  refine MC.region ?_
  refine MO.op (v := (slv (eL eW) p0_1)) (Nat.zero_le _) rfl (ev_move rfl) rfl ?_
  refine MO.op (v := (Value.int .i64 (p0_1.length : Int))) (Nat.zero_le _) rfl (ev_len (x := (slv (eL eW) p0_1)) rfl (len_still Try.underlying24 _ _)) rfl ?_
  refine MO.op (v := (Value.int .i64 (0 : Int))) (Nat.zero_le _) rfl (ev_move rfl) rfl ?_
  refine MO.nil ?_
  refine Then.at ?_
  show MC _ _ _ _ _ _ _
  refine MC.block ?_
  show MC _ _ _ _ _ _ _
  refine MC.loopK (fun (s : Int × (List S_sketch_far)) t σ => t 1 = (slv eW p1_2) ∧ t 2 = (Value.int .i64 p2_3) ∧ t 7 = v8 ∧ t 16 = (slv (eL eW) p0_1) ∧ t 17 = (Value.int .i64 (p0_1.length : Int)) ∧ t 18 = (Value.int .i64 s.1) ∧ Hp σ [It.sl eS_sketch_far v8 s.2]) h ⟨rfl, rfl, rfl, rfl, rfl, rfl, (hH10.sub (.cons_cons _ (.cons _ .slnil)))⟩ ?_
  rintro next37 ⟨x18_24, l25⟩ t σ ⟨q27, q28, q29, q30, q31, q32, hH33⟩ h
  try dsimp only at q27 q28 q29 q30 q31 q32 hH33
  unfold F_sketch_Near_b1 at h
  dsimp only at h
  show MC _ _ _ _ _ _ _
  refine MC.seq ?_
  show MC _ _ _ _ _ _ _
  refine MC.region ?_
  refine MO.op (v := (Value.bool (decide (x18_24 < (p0_1.length : Int))))) (Nat.zero_le _) rfl (ev_bin (x := (Value.int .i64 x18_24)) (y := (Value.int .i64 (p0_1.length : Int))) q32 q31 int_lss) rfl ?_
  refine MO.nil ?_
  refine Then.at ?_
  show MC _ _ _ _ _ _ _
  refine MC.seq ?_
  by_cases hc38 : x18_24 < (p0_1.length : Int)
  · rw [if_pos hc38] at h
    show MC _ _ _ _ _ _ _
    refine MC.condT (Eq.trans (b := Value.bool (decide (x18_24 < (p0_1.length : Int)))) rfl (congrArg Value.bool (decide_eq_true hc38))) ?_
    show MC _ _ _ _ _ _ _
    refine MC.skip ?_
    refine Then.at ?_
    show MC _ _ _ _ _ _ _
    refine MC.seq ?_
    show MC _ _ _ _ _ _ _
    refine MC.block ?_
    show MC _ _ _ _ _ _ _
    refine MC.seq ?_
    show MC _ _ _ _ _ _ _
    refine MC.region ?_
    refine MO.op (v := (Value.int .i64 x18_24)) (Nat.zero_le _) rfl (ev_move q32) rfl ?_
    obtain ⟨x39, e40, h⟩ := bind_some h
    refine MO.op (v := (ptv (eL eW) x39)) (Nat.zero_le _) rfl (ev_indexAddr (x := (slv (eL eW) p0_1)) (y := (Value.int .i64 x18_24)) q30 q32 (index_still ty25 Try.underlying24 (gx_some e40).1 (gx_some e40).2)) rfl ?_
    refine MO.op (v := (slv eW x39)) (Nat.zero_le _) rfl (ev_load (x := (ptv (eL eW) x39)) rfl (load_still ty25 _ _)) rfl ?_
    refine MO.op (v := (Value.int .i64 x18_24)) (Nat.zero_le _) rfl (ev_assign rfl) rfl ?_
    refine MO.op (v := (slv eW x39)) (Nat.zero_le _) rfl (ev_assign rfl) rfl ?_
    refine MO.nil ?_
    refine Then.at ?_
    show MC _ _ _ _ _ _ _
    refine MC.region ?_
    refine MO.op (v := v8) (Nat.zero_le _) rfl (ev_move q29) rfl ?_
    refine MO.op (v := (Value.int .i64 x18_24)) (Nat.zero_le _) rfl (ev_move rfl) rfl ?_
    refine MO.op (v := (slv eW x39)) (Nat.zero_le _) rfl (ev_move rfl) rfl ?_
    refine MO.op (v := (slv eW p1_2)) (Nat.zero_le _) rfl (ev_move q27) rfl ?_
    obtain ⟨r41, e42, h⟩ := bind_some h
    refine MO.pureW (v := (Value.int .i64 r41)) (vs := [(slv eW x39), (slv eW p1_2)]) (as' := [(slv eW x39), (slv eW p1_2)]) (Nat.zero_le _) rfl rfl (callee_of rfl (args_cons rfl (args_cons rfl args_nil))) (LWk.cons (Wk.same _) (LWk.cons (Wk.same _) LWk.nil)) (F_sketch_Apart.ok e42) rfl ?_
    refine MO.op (v := (Value.int .i64 x18_24)) (Nat.zero_le _) rfl (ev_move rfl) rfl ?_
    refine MO.op (v := (eS_sketch_far.val ({ apart := r41, place := x18_24 } : S_sketch_far))) (Nat.zero_le _) rfl (ev_build (qs := [(0, (Value.int .i64 r41)), (1, (Value.int .i64 x18_24))]) (parts_cons rfl (parts_cons rfl parts_nil)) (bld47_0_1 r41 x18_24)) rfl ?_
    obtain ⟨x43, e44, h⟩ := bind_some h
    obtain ⟨b45, o46, ha47, _⟩ := It.sl_at (hH33.at (i := 0) rfl) ty47 Try.underlying45 (k := .i64) (gx_some e44).1 (gx_some e44).2
    refine MO.op (v := (Value.pointer (some ⟨b45, o46, none⟩))) (Nat.zero_le _) rfl (ev_indexAddr (x := v8) (y := (Value.int .i64 x18_24)) rfl rfl ha47) rfl ?_
    obtain ⟨σ48, hs49, hH50, _⟩ := hH33.elStore (e := eS_sketch_far) (ef := eS_sketch_far) (i := 0) (off := 0) (y := ({ apart := r41, place := x18_24 } : S_sketch_far)) (x' := ({ apart := r41, place := x18_24 } : S_sketch_far)) rfl ty47 Try.underlying45 e44 ha47 ty47 (by decide) rfl
    change Hp _ [It.sl eS_sketch_far v8 (List.set l25 (Int.toNat x18_24) ({ apart := r41, place := x18_24 } : S_sketch_far))] at hH50
    refine MO.op (Nat.zero_le _) rfl (ev_store (x := (Value.pointer (some ⟨b45, o46 + 0, none⟩))) (y := (eS_sketch_far.val ({ apart := r41, place := x18_24 } : S_sketch_far))) rfl rfl hs49) rfl ?_
    refine MO.nil ?_
    refine Block.at ?_
    refine Then.at ?_
    show MC _ _ _ _ _ _ _
    refine MC.region ?_
    refine MO.op (v := (Value.int .i64 (wr (x18_24 + (1 : Int))))) (Nat.zero_le _) rfl (ev_bin (x := (Value.int .i64 x18_24)) (y := (Value.int .i64 (1 : Int))) q32 rfl int_add) rfl ?_
    refine MO.op (v := (Value.int .i64 (wr (x18_24 + (1 : Int))))) (Nat.zero_le _) rfl (ev_move rfl) rfl ?_
    refine MO.nil ?_
    refine Then.at ?_
    exact ⟨((wr (x18_24 + (1 : Int))), (List.set l25 (Int.toNat x18_24) ({ apart := r41, place := x18_24 } : S_sketch_far))), ⟨q27, q28, q29, q30, q31, rfl, hH50⟩, h⟩
  · rw [if_neg hc38] at h
    show MC _ _ _ _ _ _ _
    refine MC.condF (Eq.trans (b := Value.bool (decide (x18_24 < (p0_1.length : Int)))) rfl (congrArg Value.bool (decide_eq_false hc38))) ?_
    show MC _ _ _ _ _ _ _
    refine MC.exit ?_
    refine Then.exit ?_
    refine Then.exit ?_
    refine Block.exit ?_
    refine Then.at ?_
    show MC _ _ _ _ _ _ _
    refine MC.seq ?_
    show MC _ _ _ _ _ _ _
    refine MC.region ?_
    refine MO.op (v := v8) (Nat.zero_le _) rfl (ev_move q29) rfl ?_
    obtain ⟨r51, e52, h⟩ := bind_some h
    refine MO.sort (e := eS_sketch_far) (i := 0) (Nat.zero_le _) rfl rfl (callee_of rfl (args_cons rfl (args_cons rfl args_nil))) Try.sort27 Try.isAgg47 Try.sizeOf47 rfl (fun _ => rfl) (fun _ _ _ hq => F_sketch_Near_1.ok hq) e52 hH33 rfl rfl fun σ53 hH54 => ?_
    change Hp _ [It.sl eS_sketch_far v8 r51] at hH54
    refine MO.nil ?_
    refine Then.at ?_
    show MC _ _ _ _ _ _ _
    refine MC.seq ?_
    show MC _ _ _ _ _ _ _
    refine MC.region ?_
    have hH55 := hH54.nilSl (eI .i64)
    refine MO.op (v := (Value.slice none 0 0)) (Nat.zero_le _) rfl (ev_assign rfl) rfl ?_
    refine MO.nil ?_
    refine Then.at ?_
    show MC _ _ _ _ _ _ _
    refine MC.seq ?_
    show MC _ _ _ _ _ _ _
    refine MC.seq ?_
    show MC _ _ _ _ _ _ _
    refine MC.region ?_
    refine MO.op (v := v8) (Nat.zero_le _) rfl (ev_move q29) rfl ?_
    refine MO.op (v := (Value.int .i64 p2_3)) (Nat.zero_le _) rfl (ev_move q28) rfl ?_
    refine MO.op (v := (Value.int .i64 (max p2_3 (0 : Int)))) (Nat.zero_le _) rfl (ev_max (x := (Value.int .i64 p2_3)) (y := (Value.int .i64 (0 : Int))) rfl rfl max_two) rfl ?_
    refine MO.op (v := v8) (Nat.zero_le _) rfl (ev_move q29) rfl ?_
    refine MO.op (v := (Value.int .i64 (r51.length : Int))) (Nat.zero_le _) rfl (ev_len (x := v8) rfl (It.sl_len (hH55.at (i := 1) rfl) Try.underlying45 _)) rfl ?_
    refine MO.op (v := (Value.int .i64 (min (max p2_3 (0 : Int)) (r51.length : Int)))) (Nat.zero_le _) rfl (ev_min (x := (Value.int .i64 (max p2_3 (0 : Int)))) (y := (Value.int .i64 (r51.length : Int))) rfl rfl min_two) rfl ?_
    obtain ⟨l57, e58, h⟩ := bind_some h
    obtain ⟨v59, ha60, hH61⟩ := hH55.cutAt (e := eS_sketch_far) (i := 1) (k := .i64) (k' := .i64) rfl ty47 Try.underlying45 e58
    refine MO.op (v := v59) (Nat.zero_le _) rfl (ev_slice (x := v8) (a := Option.map (Value.int .i64) none) (b := Option.map (Value.int .i64) (some (min (max p2_3 (0 : Int)) (r51.length : Int)))) rfl rfl rfl rfl ha60) rfl ?_
    change Hp _ [It.sl (eI .i64) (Value.slice none 0 0) ([] : (List Int)), It.sl eS_sketch_far v59 l57] at hH61
    refine MO.op (v := (Value.int .i64 (l57.length : Int))) (Nat.zero_le _) rfl (ev_len (x := v59) rfl (It.sl_len (hH61.at (i := 1) rfl) Try.underlying45 _)) rfl ?_
    refine MO.op (v := (Value.int .i64 (0 : Int))) (Nat.zero_le _) rfl (ev_move rfl) rfl ?_
    refine MO.nil ?_
    refine Then.at ?_
    show MC _ _ _ _ _ _ _
    refine MC.block ?_
    show MC _ _ _ _ _ _ _
    refine MC.loopK (fun (s : Int × (List Int)) t σ => ∃ (v79 : Value), t 10 = v79 ∧ t 40 = v59 ∧ t 41 = (Value.int .i64 (l57.length : Int)) ∧ t 42 = (Value.int .i64 s.1) ∧ Hp σ [It.sl (eI .i64) v79 s.2, It.sl eS_sketch_far v59 l57]) h ⟨(Value.slice none 0 0), rfl, rfl, rfl, rfl, hH61⟩ ?_
    rintro next91 ⟨x42_76, l77⟩ t σ ⟨v79, q81, q82, q83, q84, hH85⟩ h
    try dsimp only at q81 q82 q83 q84 hH85
    unfold F_sketch_Near_b2 at h
    dsimp only at h
    show MC _ _ _ _ _ _ _
    refine MC.seq ?_
    show MC _ _ _ _ _ _ _
    refine MC.region ?_
    refine MO.op (v := (Value.bool (decide (x42_76 < (l57.length : Int))))) (Nat.zero_le _) rfl (ev_bin (x := (Value.int .i64 x42_76)) (y := (Value.int .i64 (l57.length : Int))) q84 q83 int_lss) rfl ?_
    refine MO.nil ?_
    refine Then.at ?_
    show MC _ _ _ _ _ _ _
    refine MC.seq ?_
    by_cases hc92 : x42_76 < (l57.length : Int)
    · rw [if_pos hc92] at h
      show MC _ _ _ _ _ _ _
      refine MC.condT (Eq.trans (b := Value.bool (decide (x42_76 < (l57.length : Int)))) rfl (congrArg Value.bool (decide_eq_true hc92))) ?_
      show MC _ _ _ _ _ _ _
      refine MC.skip ?_
      refine Then.at ?_
      show MC _ _ _ _ _ _ _
      refine MC.seq ?_
      show MC _ _ _ _ _ _ _
      refine MC.block ?_
      show MC _ _ _ _ _ _ _
      refine MC.seq ?_
      show MC _ _ _ _ _ _ _
      refine MC.region ?_
      obtain ⟨x93, e94, h⟩ := bind_some h
      obtain ⟨b95, o96, ha97, _⟩ := It.sl_at (hH85.at (i := 1) rfl) ty47 Try.underlying45 (k := .i64) (gx_some e94).1 (gx_some e94).2
      refine MO.op (v := (Value.pointer (some ⟨b95, o96, none⟩))) (Nat.zero_le _) rfl (ev_indexAddr (x := v59) (y := (Value.int .i64 x42_76)) q82 q84 ha97) rfl ?_
      refine MO.op (v := (eS_sketch_far.val x93)) (Nat.zero_le _) rfl (ev_load (x := (Value.pointer (some ⟨b95, o96 + 0, none⟩))) rfl (hH85.elLoad (e := eS_sketch_far) (ef := eS_sketch_far) (i := 1) (off := 0) (y := x93) rfl ty47 Try.underlying45 e94 ha97 ty47 rfl (fun _ => rfl))) rfl ?_
      refine MO.allocW (e := eS_sketch_far) (x := (zS_sketch_far)) (Nat.zero_le _) rfl rfl zr47 rfl (by kernel_rfl) hH85 rfl (by decide) fun b98 σ99 hH100 => ?_
      obtain ⟨σ102, hs103, hH104, _⟩ := hH100.boxStore (e := eS_sketch_far) (i := 0) (o := 0) (y := x93) rfl ty47 (cs' := En.cells eS_sketch_far x93) (by rw [En.len]; decide) rfl
      change Hp _ [It.box b98 (En.cells eS_sketch_far x93), It.sl (eI .i64) v79 l77, It.sl eS_sketch_far v59 l57] at hH104
      refine MO.op (Nat.zero_le _) rfl (ev_store (x := (Value.pointer (some ⟨b98, 0, none⟩))) (y := (eS_sketch_far.val x93)) rfl rfl hs103) rfl ?_
      refine MO.nil ?_
      refine Then.at ?_
      show MC _ _ _ _ _ _ _
      refine MC.region ?_
      refine MO.op (v := v79) (Nat.zero_le _) rfl (ev_move q81) rfl ?_
      refine MO.op (v := (Value.pointer (some ⟨b98, 1, none⟩))) (Nat.zero_le _) rfl (ev_fieldAddr (x := (Value.pointer (some ⟨b98, 0, none⟩))) rfl (fldBox ty3 fo47_1)) rfl ?_
      refine MO.op (v := (Value.int .i64 x93.place)) (Nat.zero_le _) rfl (ev_load (x := (Value.pointer (some ⟨b98, 1, none⟩))) rfl (hH104.boxLoad (e := (eI .i64)) (i := 0) (y := x93.place) rfl ty3 rfl (fun _ => rfl))) rfl ?_
      obtain ⟨v105, σ106, ha107, hH108, _⟩ := hH104.lit (e := (eI .i64)) (t := 32) Try.underlying32 et3 zr3 rfl ([x93.place]) (Nat.le_of_ble_eq_true rfl) (ps := [(0, (Value.int .i64 x93.place))]) rfl
      refine MO.op (Nat.zero_le _) rfl (ev_buildSlice (qs := [(0, (Value.int .i64 x93.place))]) (parts_cons rfl parts_nil) ha107) rfl ?_
      obtain ⟨l110, e111, h⟩ := bind_some h
      obtain ⟨v112, σ113, ha114, hH115, _⟩ := hH108.app (e := (eI .i64)) (i := 2) rfl Try.underlying32 et3 (src_own (hH108.at (i := 0) rfl) ⟨_, Try.underlying32⟩) e111
      change Hp _ [It.sl (eI .i64) v105 [x93.place], It.box b98 (En.cells eS_sketch_far x93), It.sl (eI .i64) v112 l110, It.sl eS_sketch_far v59 l57] at hH115
      refine MO.op (Nat.zero_le _) rfl (ev_append (x := v79) (y := v105) rfl rfl ha114) rfl ?_
      refine MO.op (v := v112) (Nat.zero_le _) rfl (ev_assign rfl) rfl ?_
      refine MO.nil ?_
      refine Block.at ?_
      refine Then.at ?_
      show MC _ _ _ _ _ _ _
      refine MC.region ?_
      refine MO.op (v := (Value.int .i64 (wr (x42_76 + (1 : Int))))) (Nat.zero_le _) rfl (ev_bin (x := (Value.int .i64 x42_76)) (y := (Value.int .i64 (1 : Int))) q84 rfl int_add) rfl ?_
      refine MO.op (v := (Value.int .i64 (wr (x42_76 + (1 : Int))))) (Nat.zero_le _) rfl (ev_move rfl) rfl ?_
      refine MO.nil ?_
      refine Then.at ?_
      exact ⟨((wr (x42_76 + (1 : Int))), l110), ⟨v112, rfl, q82, q83, rfl, (hH115.sub (.cons _ (.cons _ (.cons_cons _ (.cons_cons _ .slnil)))))⟩, h⟩
    · rw [if_neg hc92] at h
      show MC _ _ _ _ _ _ _
      refine MC.condF (Eq.trans (b := Value.bool (decide (x42_76 < (l57.length : Int)))) rfl (congrArg Value.bool (decide_eq_false hc92))) ?_
      show MC _ _ _ _ _ _ _
      refine MC.exit ?_
      refine Then.exit ?_
      refine Then.exit ?_
      refine Block.exit ?_
      refine Then.at ?_
      show MC _ _ _ _ _ _ _
      refine MC.seq ?_
      show MC _ _ _ _ _ _ _
      refine MC.region ?_
      refine MO.op (v := v79) (Nat.zero_le _) rfl (ev_move q81) rfl ?_
      refine MO.op (v := v79) (Nat.zero_le _) rfl (ev_assign rfl) rfl ?_
      refine MO.nil ?_
      refine Then.at ?_
      show MC _ _ _ _ _ _ _
      refine MC.ret ?_
      obtain rfl := Option.some.inj h
      exact ⟨.inr rfl, _, (res_cons (res_tmp rfl) res_nil), hH85.sub (.cons_cons _ (.cons _ .slnil))⟩
theorem F_sketch_Near.ok {p0_1 : (List (List (BitVec 64)))} {p1_2 : (List (BitVec 64))} {p2_3 : Int} {r : ((List Int))} (h : F_sketch_Near p0_1 p1_2 p2_3 = some r) : Pure Try.prog 14 [(slv (eL eW) p0_1), (slv eW p1_2), (Value.int .i64 p2_3)] (slv (eI .i64) r) := (F_sketch_Near.own h).pure
noncomputable def F_bitset_Has (p0_1 : (List (BitVec 64))) (p1_2 : Int) : Option (Bool) :=
  Option.bind (F_bitset_cut p0_1) fun r3 =>
  if (0 : Int) ≤ p1_2 then
    if (wr (Int.tdiv p1_2 (64 : Int))) < (r3.length : Int) then
      Option.bind (gx r3 (wr (Int.tdiv p1_2 (64 : Int)))) fun x7 =>
      if 0 ≤ (Int.tmod p1_2 (64 : Int)) then
        some ((decide (((x7 >>> (Int.toNat (Int.tmod p1_2 (64 : Int)))) &&& (1#64)) ≠ (0#64))))
      else none
    else
      some (false)
  else
    some (false)
theorem F_bitset_Has.ok {p0_1 : (List (BitVec 64))} {p1_2 : Int} {r : (Bool)} (h : F_bitset_Has p0_1 p1_2 = some r) : Pure Try.prog 18 [(slv eW p0_1), (Value.int .i64 p1_2)] (Value.bool r) := by
  unfold F_bitset_Has at h
  refine ⟨(.cons (slv_flat _ _) (.cons (.prim rfl) .nil)), (.prim rfl), Fn.enter Try.func18 (by kernel_rfl) rfl (of_decide_eq_true rfl) ?_⟩
  have hH : Hp ⟨0, []⟩ [] := Hp.nil (Nat.le_refl _)
  show MC _ _ _ _ _ _ _
  refine MC.seq ?_
  show MC _ _ _ _ _ _ _
  refine MC.region ?_
  refine MO.op (v := (Value.bool false)) (Nat.zero_le _) rfl (ev_assign rfl) rfl ?_
  refine MO.nil ?_
  refine Then.at ?_
  show MC _ _ _ _ _ _ _
  refine MC.seq ?_
  show MC _ _ _ _ _ _ _
  refine MC.region ?_
  refine MO.op (v := (slv eW p0_1)) (Nat.zero_le _) rfl (ev_move rfl) rfl ?_
  obtain ⟨r3, e4, h⟩ := bind_some h
  refine MO.pureW (v := (slv eW r3)) (vs := [(slv eW p0_1)]) (as' := [(slv eW p0_1)]) (Nat.zero_le _) rfl rfl (callee_of rfl (args_cons rfl args_nil)) (LWk.cons (Wk.same _) LWk.nil) (F_bitset_cut.ok e4) rfl ?_
  refine MO.op (v := (slv eW r3)) (Nat.zero_le _) rfl (ev_assign rfl) rfl ?_
  refine MO.nil ?_
  refine Then.at ?_
  show MC _ _ _ _ _ _ _
  refine MC.seq ?_
  show MC _ _ _ _ _ _ _
  refine MC.region ?_
  refine MO.op (v := (Value.int .i64 p1_2)) (Nat.zero_le _) rfl (ev_move rfl) rfl ?_
  refine MO.op (v := (Value.bool (decide ((0 : Int) ≤ p1_2)))) (Nat.zero_le _) rfl (ev_bin (x := (Value.int .i64 p1_2)) (y := (Value.int .i64 (0 : Int))) rfl rfl int_geq) rfl ?_
  refine MO.op (v := (Value.bool (decide ((0 : Int) ≤ p1_2)))) (Nat.zero_le _) rfl (ev_move rfl) rfl ?_
  by_cases hc5 : (0 : Int) ≤ p1_2
  · rw [if_pos hc5] at h
    refine MO.op (v := (Value.int .i64 p1_2)) (Nat.zero_le _) (want_yes (q := true) rfl rfl (Eq.trans (b := Value.bool (decide ((0 : Int) ≤ p1_2))) rfl (congrArg Value.bool (decide_eq_true hc5))) rfl) (ev_move rfl) rfl ?_
    refine MO.op (v := (Value.int .i64 (wr (Int.tdiv p1_2 (64 : Int))))) (Nat.zero_le _) (want_yes (q := true) rfl rfl (Eq.trans (b := Value.bool (decide ((0 : Int) ≤ p1_2))) rfl (congrArg Value.bool (decide_eq_true hc5))) rfl) (ev_bin (x := (Value.int .i64 p1_2)) (y := (Value.int .i64 (64 : Int))) rfl rfl (int_quo (by decide))) rfl ?_
    refine MO.op (v := (slv eW r3)) (Nat.zero_le _) (want_yes (q := true) rfl rfl (Eq.trans (b := Value.bool (decide ((0 : Int) ≤ p1_2))) rfl (congrArg Value.bool (decide_eq_true hc5))) rfl) (ev_move rfl) rfl ?_
    refine MO.op (v := (Value.int .i64 (r3.length : Int))) (Nat.zero_le _) (want_yes (q := true) rfl rfl (Eq.trans (b := Value.bool (decide ((0 : Int) ≤ p1_2))) rfl (congrArg Value.bool (decide_eq_true hc5))) rfl) (ev_len (x := (slv eW r3)) rfl (len_still Try.underlying25 _ _)) rfl ?_
    refine MO.op (v := (Value.bool (decide ((wr (Int.tdiv p1_2 (64 : Int))) < (r3.length : Int))))) (Nat.zero_le _) (want_yes (q := true) rfl rfl (Eq.trans (b := Value.bool (decide ((0 : Int) ≤ p1_2))) rfl (congrArg Value.bool (decide_eq_true hc5))) rfl) (ev_bin (x := (Value.int .i64 (wr (Int.tdiv p1_2 (64 : Int))))) (y := (Value.int .i64 (r3.length : Int))) rfl rfl int_lss) rfl ?_
    refine MO.op (v := (Value.bool (decide ((wr (Int.tdiv p1_2 (64 : Int))) < (r3.length : Int))))) (Nat.zero_le _) rfl (ev_pickT (Eq.trans (b := Value.bool (decide ((0 : Int) ≤ p1_2))) rfl (congrArg Value.bool (decide_eq_true hc5))) rfl) rfl ?_
    refine MO.op (v := (Value.bool (decide ((wr (Int.tdiv p1_2 (64 : Int))) < (r3.length : Int))))) (Nat.zero_le _) rfl (ev_move rfl) rfl ?_
    by_cases hc6 : (wr (Int.tdiv p1_2 (64 : Int))) < (r3.length : Int)
    · rw [if_pos hc6] at h
      refine MO.op (v := (slv eW r3)) (Nat.zero_le _) (want_yes (q := true) rfl rfl (Eq.trans (b := Value.bool (decide ((wr (Int.tdiv p1_2 (64 : Int))) < (r3.length : Int)))) rfl (congrArg Value.bool (decide_eq_true hc6))) rfl) (ev_move rfl) rfl ?_
      refine MO.op (v := (Value.int .i64 p1_2)) (Nat.zero_le _) (want_yes (q := true) rfl rfl (Eq.trans (b := Value.bool (decide ((wr (Int.tdiv p1_2 (64 : Int))) < (r3.length : Int)))) rfl (congrArg Value.bool (decide_eq_true hc6))) rfl) (ev_move rfl) rfl ?_
      refine MO.op (v := (Value.int .i64 (wr (Int.tdiv p1_2 (64 : Int))))) (Nat.zero_le _) (want_yes (q := true) rfl rfl (Eq.trans (b := Value.bool (decide ((wr (Int.tdiv p1_2 (64 : Int))) < (r3.length : Int)))) rfl (congrArg Value.bool (decide_eq_true hc6))) rfl) (ev_bin (x := (Value.int .i64 p1_2)) (y := (Value.int .i64 (64 : Int))) rfl rfl (int_quo (by decide))) rfl ?_
      obtain ⟨x7, e8, h⟩ := bind_some h
      refine MO.op (v := (ptv eW x7)) (Nat.zero_le _) (want_yes (q := true) rfl rfl (Eq.trans (b := Value.bool (decide ((wr (Int.tdiv p1_2 (64 : Int))) < (r3.length : Int)))) rfl (congrArg Value.bool (decide_eq_true hc6))) rfl) (ev_indexAddr (x := (slv eW r3)) (y := (Value.int .i64 (wr (Int.tdiv p1_2 (64 : Int))))) rfl rfl (index_still ty23 Try.underlying25 (gx_some e8).1 (gx_some e8).2)) rfl ?_
      refine MO.op (v := (w64 x7)) (Nat.zero_le _) (want_yes (q := true) rfl rfl (Eq.trans (b := Value.bool (decide ((wr (Int.tdiv p1_2 (64 : Int))) < (r3.length : Int)))) rfl (congrArg Value.bool (decide_eq_true hc6))) rfl) (ev_load (x := (ptv eW x7)) rfl (load_still ty23 _ _)) rfl ?_
      refine MO.op (v := (Value.int .i64 p1_2)) (Nat.zero_le _) (want_yes (q := true) rfl rfl (Eq.trans (b := Value.bool (decide ((wr (Int.tdiv p1_2 (64 : Int))) < (r3.length : Int)))) rfl (congrArg Value.bool (decide_eq_true hc6))) rfl) (ev_move rfl) rfl ?_
      refine MO.op (v := (Value.int .i64 (Int.tmod p1_2 (64 : Int)))) (Nat.zero_le _) (want_yes (q := true) rfl rfl (Eq.trans (b := Value.bool (decide ((wr (Int.tdiv p1_2 (64 : Int))) < (r3.length : Int)))) rfl (congrArg Value.bool (decide_eq_true hc6))) rfl) (ev_bin (x := (Value.int .i64 p1_2)) (y := (Value.int .i64 (64 : Int))) rfl rfl (int_rem (by decide))) rfl ?_
      by_cases hc9 : 0 ≤ (Int.tmod p1_2 (64 : Int))
      rotate_left
      · rw [if_neg hc9] at h; cases h
      rw [if_pos hc9] at h
      refine MO.op (v := (w64 (x7 >>> (Int.toNat (Int.tmod p1_2 (64 : Int)))))) (Nat.zero_le _) (want_yes (q := true) rfl rfl (Eq.trans (b := Value.bool (decide ((wr (Int.tdiv p1_2 (64 : Int))) < (r3.length : Int)))) rfl (congrArg Value.bool (decide_eq_true hc6))) rfl) (ev_bin (x := (w64 x7)) (y := (Value.int .i64 (Int.tmod p1_2 (64 : Int)))) rfl rfl (word_shr hc9)) rfl ?_
      refine MO.op (v := (w64 ((x7 >>> (Int.toNat (Int.tmod p1_2 (64 : Int)))) &&& (1#64)))) (Nat.zero_le _) (want_yes (q := true) rfl rfl (Eq.trans (b := Value.bool (decide ((wr (Int.tdiv p1_2 (64 : Int))) < (r3.length : Int)))) rfl (congrArg Value.bool (decide_eq_true hc6))) rfl) (ev_bin (x := (w64 (x7 >>> (Int.toNat (Int.tmod p1_2 (64 : Int)))))) (y := (w64 (1#64))) rfl rfl word_and) rfl ?_
      refine MO.op (v := (Value.bool (decide (((x7 >>> (Int.toNat (Int.tmod p1_2 (64 : Int)))) &&& (1#64)) ≠ (0#64))))) (Nat.zero_le _) (want_yes (q := true) rfl rfl (Eq.trans (b := Value.bool (decide ((wr (Int.tdiv p1_2 (64 : Int))) < (r3.length : Int)))) rfl (congrArg Value.bool (decide_eq_true hc6))) rfl) (ev_bin (x := (w64 ((x7 >>> (Int.toNat (Int.tmod p1_2 (64 : Int)))) &&& (1#64)))) (y := (w64 (0#64))) rfl rfl word_neq) rfl ?_
      refine MO.op (v := (Value.bool (decide (((x7 >>> (Int.toNat (Int.tmod p1_2 (64 : Int)))) &&& (1#64)) ≠ (0#64))))) (Nat.zero_le _) rfl (ev_pickT (Eq.trans (b := Value.bool (decide ((wr (Int.tdiv p1_2 (64 : Int))) < (r3.length : Int)))) rfl (congrArg Value.bool (decide_eq_true hc6))) rfl) rfl ?_
      refine MO.op (v := (Value.bool (decide (((x7 >>> (Int.toNat (Int.tmod p1_2 (64 : Int)))) &&& (1#64)) ≠ (0#64))))) (Nat.zero_le _) rfl (ev_assign rfl) rfl ?_
      refine MO.nil ?_
      refine Then.at ?_
      show MC _ _ _ _ _ _ _
      refine MC.ret ?_
      obtain rfl := Option.some.inj h
      exact ⟨.inr rfl, _, (res_cons (res_tmp rfl) res_nil), rfl⟩
    · rw [if_neg hc6] at h
      refine MO.skip (want_no (q := false) rfl rfl (Eq.trans (b := Value.bool (decide ((wr (Int.tdiv p1_2 (64 : Int))) < (r3.length : Int)))) rfl (congrArg Value.bool (decide_eq_false hc6))) rfl) rfl ?_
      refine MO.skip (want_no (q := false) rfl rfl (Eq.trans (b := Value.bool (decide ((wr (Int.tdiv p1_2 (64 : Int))) < (r3.length : Int)))) rfl (congrArg Value.bool (decide_eq_false hc6))) rfl) rfl ?_
      refine MO.skip (want_no (q := false) rfl rfl (Eq.trans (b := Value.bool (decide ((wr (Int.tdiv p1_2 (64 : Int))) < (r3.length : Int)))) rfl (congrArg Value.bool (decide_eq_false hc6))) rfl) rfl ?_
      refine MO.skip (want_no (q := false) rfl rfl (Eq.trans (b := Value.bool (decide ((wr (Int.tdiv p1_2 (64 : Int))) < (r3.length : Int)))) rfl (congrArg Value.bool (decide_eq_false hc6))) rfl) rfl ?_
      refine MO.skip (want_no (q := false) rfl rfl (Eq.trans (b := Value.bool (decide ((wr (Int.tdiv p1_2 (64 : Int))) < (r3.length : Int)))) rfl (congrArg Value.bool (decide_eq_false hc6))) rfl) rfl ?_
      refine MO.skip (want_no (q := false) rfl rfl (Eq.trans (b := Value.bool (decide ((wr (Int.tdiv p1_2 (64 : Int))) < (r3.length : Int)))) rfl (congrArg Value.bool (decide_eq_false hc6))) rfl) rfl ?_
      refine MO.skip (want_no (q := false) rfl rfl (Eq.trans (b := Value.bool (decide ((wr (Int.tdiv p1_2 (64 : Int))) < (r3.length : Int)))) rfl (congrArg Value.bool (decide_eq_false hc6))) rfl) rfl ?_
      refine MO.skip (want_no (q := false) rfl rfl (Eq.trans (b := Value.bool (decide ((wr (Int.tdiv p1_2 (64 : Int))) < (r3.length : Int)))) rfl (congrArg Value.bool (decide_eq_false hc6))) rfl) rfl ?_
      refine MO.skip (want_no (q := false) rfl rfl (Eq.trans (b := Value.bool (decide ((wr (Int.tdiv p1_2 (64 : Int))) < (r3.length : Int)))) rfl (congrArg Value.bool (decide_eq_false hc6))) rfl) rfl ?_
      refine MO.skip (want_no (q := false) rfl rfl (Eq.trans (b := Value.bool (decide ((wr (Int.tdiv p1_2 (64 : Int))) < (r3.length : Int)))) rfl (congrArg Value.bool (decide_eq_false hc6))) rfl) rfl ?_
      refine MO.op (v := (Value.bool false)) (Nat.zero_le _) rfl (ev_pickF (Eq.trans (b := Value.bool (decide ((wr (Int.tdiv p1_2 (64 : Int))) < (r3.length : Int)))) rfl (congrArg Value.bool (decide_eq_false hc6))) rfl) rfl ?_
      refine MO.op (v := (Value.bool false)) (Nat.zero_le _) rfl (ev_assign rfl) rfl ?_
      refine MO.nil ?_
      refine Then.at ?_
      show MC _ _ _ _ _ _ _
      refine MC.ret ?_
      obtain rfl := Option.some.inj h
      exact ⟨.inr rfl, _, (res_cons (res_tmp rfl) res_nil), rfl⟩
  · rw [if_neg hc5] at h
    refine MO.skip (want_no (q := false) rfl rfl (Eq.trans (b := Value.bool (decide ((0 : Int) ≤ p1_2))) rfl (congrArg Value.bool (decide_eq_false hc5))) rfl) rfl ?_
    refine MO.skip (want_no (q := false) rfl rfl (Eq.trans (b := Value.bool (decide ((0 : Int) ≤ p1_2))) rfl (congrArg Value.bool (decide_eq_false hc5))) rfl) rfl ?_
    refine MO.skip (want_no (q := false) rfl rfl (Eq.trans (b := Value.bool (decide ((0 : Int) ≤ p1_2))) rfl (congrArg Value.bool (decide_eq_false hc5))) rfl) rfl ?_
    refine MO.skip (want_no (q := false) rfl rfl (Eq.trans (b := Value.bool (decide ((0 : Int) ≤ p1_2))) rfl (congrArg Value.bool (decide_eq_false hc5))) rfl) rfl ?_
    refine MO.skip (want_no (q := false) rfl rfl (Eq.trans (b := Value.bool (decide ((0 : Int) ≤ p1_2))) rfl (congrArg Value.bool (decide_eq_false hc5))) rfl) rfl ?_
    refine MO.op (v := (Value.bool false)) (Nat.zero_le _) rfl (ev_pickF (Eq.trans (b := Value.bool (decide ((0 : Int) ≤ p1_2))) rfl (congrArg Value.bool (decide_eq_false hc5))) rfl) rfl ?_
    refine MO.op (v := (Value.bool false)) (Nat.zero_le _) rfl (ev_move rfl) rfl ?_
    refine MO.skip (want_no (q := false) rfl rfl rfl rfl) rfl ?_
    refine MO.skip (want_no (q := false) rfl rfl rfl rfl) rfl ?_
    refine MO.skip (want_no (q := false) rfl rfl rfl rfl) rfl ?_
    refine MO.skip (want_no (q := false) rfl rfl rfl rfl) rfl ?_
    refine MO.skip (want_no (q := false) rfl rfl rfl rfl) rfl ?_
    refine MO.skip (want_no (q := false) rfl rfl rfl rfl) rfl ?_
    refine MO.skip (want_no (q := false) rfl rfl rfl rfl) rfl ?_
    refine MO.skip (want_no (q := false) rfl rfl rfl rfl) rfl ?_
    refine MO.skip (want_no (q := false) rfl rfl rfl rfl) rfl ?_
    refine MO.skip (want_no (q := false) rfl rfl rfl rfl) rfl ?_
    refine MO.op (v := (Value.bool false)) (Nat.zero_le _) rfl (ev_pickF rfl rfl) rfl ?_
    refine MO.op (v := (Value.bool false)) (Nat.zero_le _) rfl (ev_assign rfl) rfl ?_
    refine MO.nil ?_
    refine Then.at ?_
    show MC _ _ _ _ _ _ _
    refine MC.ret ?_
    obtain rfl := Option.some.inj h
    exact ⟨.inr rfl, _, (res_cons (res_tmp rfl) res_nil), rfl⟩
end Go.Proofs.Ytaclhflmgafobaa
