/- The statement of SketchTells: the walk (the model's proof), the plain law, and the row's frame. -/
import Derived.Test.YtaclhflmgafobaaQ
import Derived.Test.YtaclhflmgafobaaRows
import Derived.WalkKit
import Derived.ProofKit
import Derived.OpenShut
import Derived.ShutString
import Derived.ChangeOld
import Derived.Below
namespace Go.Proofs.Ytaclhflmgafobaa.sketchTells
open Go.ChangeShapes Go.WideShapes Go.ChangeAt Go.RowKit
open Go.ChangeMaps (open_string shut_string)
open Go.Ab
set_option linter.unusedVariables false
set_option linter.unusedSimpArgs false

theorem own : ownKnob Try.prog.godebug = none := by kernel_rfl
theorem laidOut : laidOutB Try.prog = true := by kernel_rfl
theorem walk (x0 : (List Int)) (x1 : (BitVec 64)) (x2 : Int) (x3 : Int) (x4 : Int) (x5 : (List (List (BitVec 64)))) (x6 : (List (BitVec 64))) (x7 : Int) (W : World) (v0 : Value) (v1 : Value) (v2 : Value) (v3 : Value) (v4 : Value) (v5 : Value) (v6 : Value) (v7 : Value) (w0 : (x0.length ≤ maxLen ∧ ∀ y ∈ x0, (Lit.int .i32 y).wf = true)) (w1 : True) (w2 : (Lit.int .i64 x2).wf = true) (w3 : (Lit.int .i64 x3).wf = true) (w4 : (Lit.int .i64 x4).wf = true) (w5 : (x5.length ≤ maxLen ∧ ∀ y ∈ x5, (y.length ≤ maxLen ∧ ∀ y1 ∈ y, True))) (w6 : (x6.length ≤ maxLen ∧ ∀ y ∈ x6, True)) (w7 : (Lit.int .i64 x7).wf = true) (r0 : LRel (stood W) [(slv (eI .i32) x0)] [v0]) (r1 : LRel (stood W) [(w64 x1)] [v1]) (r2 : LRel (stood W) [(Value.int .i64 x2)] [v2]) (r3 : LRel (stood W) [(Value.int .i64 x3)] [v3]) (r4 : LRel (stood W) [(Value.int .i64 x4)] [v4]) (r5 : LRel (stood W) [(slv (eL eW) x5)] [v5]) (r6 : LRel (stood W) [(slv eW x6)] [v6]) (r7 : LRel (stood W) [(Value.int .i64 x7)] [v7]) :
    Calls Try.prog 3 #[v0, v1, v2, v3, v4, v5, v6, v7] W fun e w' => e = .returned (.bool true) ∧ Below W.heap.size W w' := by
  have hp := F_L44_SketchTells.ok (tells_true x0 x1 x2 x3 x4 x5 x6 x7 w0 w1 w2 w3 w4 w5 w6 w7)
  refine (hp.below (r0.append (r1.append (r2.append (r3.append (r4.append (r5.append (r6.append r7)))))))).mono ?_
  rintro e w' ⟨⟨φ', v', rfl, hv⟩, hb⟩
  exact ⟨by rw [hv.of_bool], hb⟩

set_option maxRecDepth 100000 in
theorem lifted (os : Os) (started : os.Started) (H : Type) (enc : TypeId × Value → H) :
    ReturnsInHanded {} Try.checked os 3 .any (Rows.sketchTellsSpec.pre6 enc Try.prog Try.f3 Rows.sketchTellsRow.domain false) (Rows.sketchTellsSpec.post enc Try.prog Try.f3 false true false false) := by
  refine returnsInHanded_of_change (C := Try.checked) own started (by kernel_rfl) Try.func3
    (ChangeSpec.witness6 (enc := enc) (C := Try.checked) false ⟨#[], #[.slice none 0 0, .int .u64 0, .int .i64 0, .int .i64 0, .int .i64 0, .slice none 0 0, .slice none 0 0, .int .i64 0], []⟩ 8 (by kernel_rfl) (by kernel_rfl) (by kernel_rfl) (by kernel_rfl)) ?_
  intro W base args ds gs before hval0 hW hcnd _
  have hval : ∀ (j : Nat) t v, Try.f3.params[j]? = some t → args[j]? = some v → Value.okWide Try.prog W .any base t v := hval0
  have hW' := hW
  obtain ⟨p, q, hA0, hV, rfl, hfz, hnd⟩ := hW
  have hA : DataW.TrodAll enc Try.prog W 0 (fun _ => true) true Try.f3.params.toList args.toList ds p := hA0
  rw [Try.params3] at hA hval
  obtain ⟨v0, vs0, d0, ds0, p0, q0, hargs, rfl, rfl, h0, r0⟩ := trodAll_cons hA
  obtain ⟨v1, vs1, d1, ds1, p1, q1, rfl, rfl, rfl, h1, r1⟩ := trodAll_cons r0
  obtain ⟨v2, vs2, d2, ds2, p2, q2, rfl, rfl, rfl, h2, r2⟩ := trodAll_cons r1
  obtain ⟨v3, vs3, d3, ds3, p3, q3, rfl, rfl, rfl, h3, r3⟩ := trodAll_cons r2
  obtain ⟨v4, vs4, d4, ds4, p4, q4, rfl, rfl, rfl, h4, r4⟩ := trodAll_cons r3
  obtain ⟨v5, vs5, d5, ds5, p5, q5, rfl, rfl, rfl, h5, r5⟩ := trodAll_cons r4
  obtain ⟨v6, vs6, d6, ds6, p6, q6, rfl, rfl, rfl, h6, r6⟩ := trodAll_cons r5
  obtain ⟨v7, vs7, d7, ds7, p7, q7, rfl, rfl, rfl, h7, r7⟩ := trodAll_cons r6
  obtain ⟨rfl, rfl, rfl⟩ := trodAll_nil r7
  obtain rfl : args = #[v0, v1, v2, v3, v4, v5, v6, v7] := by cases args; simp_all
  obtain ⟨rfl, rfl⟩ := trodVars_none hV
  have k0 := h0
  have lt0 : ∀ x ∈ p0, x.block < W.heap.size := by obtain ⟨m, hm⟩ := k0; exact DataW.trod_lt m _ _ _ hm
  obtain ⟨x0, w0, l0⟩ : ∃ x : (List Int), (x.length ≤ maxLen ∧ ∀ y ∈ x, (Lit.int .i32 y).wf = true) ∧ LRel (stood W) [(slv (eI .i32) x)] [v0] := by
    obtain ⟨fuel, hf⟩ := h0
    obtain ⟨a, len, cap, rfl⟩ := okWide_slice Try.underlying22 (hval 0 22 v0 rfl rfl)
    exact (Opens.slice Try.underlying22 (by kernel_rfl) (by decide) (Opens.int Try.underlying21)) enc true fuel _ _ hf
  have k1 := h1
  have lt1 : ∀ x ∈ p1, x.block < W.heap.size := by obtain ⟨m, hm⟩ := k1; exact DataW.trod_lt m _ _ _ hm
  obtain ⟨x1, w1, l1⟩ : ∃ x : (BitVec 64), True ∧ LRel (stood W) [(w64 x)] [v1] := by
    obtain ⟨fuel, hf⟩ := h1
    obtain ⟨a, rfl, _, _, _⟩ := open_int Try.underlying23 (hval 1 23 v1 rfl rfl) k1
    exact (Opens.word Try.underlying23) enc true fuel _ _ hf
  have k2 := h2
  have lt2 : ∀ x ∈ p2, x.block < W.heap.size := by obtain ⟨m, hm⟩ := k2; exact DataW.trod_lt m _ _ _ hm
  obtain ⟨x2, w2, l2⟩ : ∃ x : Int, (Lit.int .i64 x).wf = true ∧ LRel (stood W) [(Value.int .i64 x)] [v2] := by
    obtain ⟨fuel, hf⟩ := h2
    obtain ⟨a, rfl, _, _, _⟩ := open_int Try.underlying3 (hval 2 3 v2 rfl rfl) k2
    exact (Opens.int Try.underlying3) enc true fuel _ _ hf
  have k3 := h3
  have lt3 : ∀ x ∈ p3, x.block < W.heap.size := by obtain ⟨m, hm⟩ := k3; exact DataW.trod_lt m _ _ _ hm
  obtain ⟨x3, w3, l3⟩ : ∃ x : Int, (Lit.int .i64 x).wf = true ∧ LRel (stood W) [(Value.int .i64 x)] [v3] := by
    obtain ⟨fuel, hf⟩ := h3
    obtain ⟨a, rfl, _, _, _⟩ := open_int Try.underlying3 (hval 3 3 v3 rfl rfl) k3
    exact (Opens.int Try.underlying3) enc true fuel _ _ hf
  have k4 := h4
  have lt4 : ∀ x ∈ p4, x.block < W.heap.size := by obtain ⟨m, hm⟩ := k4; exact DataW.trod_lt m _ _ _ hm
  obtain ⟨x4, w4, l4⟩ : ∃ x : Int, (Lit.int .i64 x).wf = true ∧ LRel (stood W) [(Value.int .i64 x)] [v4] := by
    obtain ⟨fuel, hf⟩ := h4
    obtain ⟨a, rfl, _, _, _⟩ := open_int Try.underlying3 (hval 4 3 v4 rfl rfl) k4
    exact (Opens.int Try.underlying3) enc true fuel _ _ hf
  have k5 := h5
  have lt5 : ∀ x ∈ p5, x.block < W.heap.size := by obtain ⟨m, hm⟩ := k5; exact DataW.trod_lt m _ _ _ hm
  obtain ⟨x5, w5, l5⟩ : ∃ x : (List (List (BitVec 64))), (x.length ≤ maxLen ∧ ∀ y ∈ x, (y.length ≤ maxLen ∧ ∀ y1 ∈ y, True)) ∧ LRel (stood W) [(slv (eL eW) x)] [v5] := by
    obtain ⟨fuel, hf⟩ := h5
    obtain ⟨a, len, cap, rfl⟩ := okWide_slice Try.underlying24 (hval 5 24 v5 rfl rfl)
    exact (Opens.slice Try.underlying24 (by kernel_rfl) (by decide) (Opens.slice Try.underlying25 (by kernel_rfl) (by decide) (Opens.word Try.underlying23))) enc true fuel _ _ hf
  have k6 := h6
  have lt6 : ∀ x ∈ p6, x.block < W.heap.size := by obtain ⟨m, hm⟩ := k6; exact DataW.trod_lt m _ _ _ hm
  obtain ⟨x6, w6, l6⟩ : ∃ x : (List (BitVec 64)), (x.length ≤ maxLen ∧ ∀ y ∈ x, True) ∧ LRel (stood W) [(slv eW x)] [v6] := by
    obtain ⟨fuel, hf⟩ := h6
    obtain ⟨a, len, cap, rfl⟩ := okWide_slice Try.underlying25 (hval 6 25 v6 rfl rfl)
    exact (Opens.slice Try.underlying25 (by kernel_rfl) (by decide) (Opens.word Try.underlying23)) enc true fuel _ _ hf
  have k7 := h7
  have lt7 : ∀ x ∈ p7, x.block < W.heap.size := by obtain ⟨m, hm⟩ := k7; exact DataW.trod_lt m _ _ _ hm
  obtain ⟨x7, w7, l7⟩ : ∃ x : Int, (Lit.int .i64 x).wf = true ∧ LRel (stood W) [(Value.int .i64 x)] [v7] := by
    obtain ⟨fuel, hf⟩ := h7
    obtain ⟨a, rfl, _, _, _⟩ := open_int Try.underlying3 (hval 7 3 v7 rfl rfl) k7
    exact (Opens.int Try.underlying3) enc true fuel _ _ hf
  clear hA0 hval0
  refine (walk x0 x1 x2 x3 x4 x5 x6 x7 W v0 v1 v2 v3 v4 v5 v6 v7 w0 w1 w2 w3 w4 w5 w6 w7 l0 l1 l2 l3 l4 l5 l6 l7).mono fun e W' ⟨he, bel⟩ => ?_
  subst he
  exact ⟨_, rfl, _, _, _, [], _, [], hW', trodAll_mk1 (shut_bool Try.underlying4 _), (trodAll_cons_mk (Below.trod laidOut (by kernel_rfl) (of_decide_eq_true (by kernel_rfl)) k0 bel lt0) (trodAll_cons_mk (Below.trod laidOut (by kernel_rfl) (of_decide_eq_true (by kernel_rfl)) k1 bel lt1) (trodAll_cons_mk (Below.trod laidOut (by kernel_rfl) (of_decide_eq_true (by kernel_rfl)) k2 bel lt2) (trodAll_cons_mk (Below.trod laidOut (by kernel_rfl) (of_decide_eq_true (by kernel_rfl)) k3 bel lt3) (trodAll_cons_mk (Below.trod laidOut (by kernel_rfl) (of_decide_eq_true (by kernel_rfl)) k4 bel lt4) (trodAll_cons_mk (Below.trod laidOut (by kernel_rfl) (of_decide_eq_true (by kernel_rfl)) k5 bel lt5) (trodAll_cons_mk (Below.trod laidOut (by kernel_rfl) (of_decide_eq_true (by kernel_rfl)) k6 bel lt6) (trodAll_cons_mk (Below.trod laidOut (by kernel_rfl) (of_decide_eq_true (by kernel_rfl)) k7 bel lt7) trodAll_mk0)))))))), rfl, bel.frame _, fun h => by cases h⟩

theorem over : Rows.sketchTellsRow.holds Try.pinned (OpenSpec.ofChange Rows.sketchTellsSpec) :=
  OpenClaim.holds_of_wide 3 Try.f3 rfl rfl rfl rfl rfl rfl rfl ⟨rfl, rfl, rfl, rfl, rfl⟩ rfl rfl rfl rfl rfl (by kernel_rfl) Try.func3 (by kernel_rfl)
    (of_decide_eq_true (by kernel_rfl)) (by unfold Func.isWrapper; first | (rw [if_pos (by decide +kernel)]; kernel_rfl) | (rw [if_neg (by decide +kernel)]; exact ⟨rfl, rfl⟩))
    (fun os started H enc _ => lifted os started H enc)

/-- THE STATEMENT -/
theorem proved : Rows.SketchTellsSaid := over
#print axioms proved
end Go.Proofs.Ytaclhflmgafobaa.sketchTells
