/- The statement of SketchFar: the walk (far_ret), what came in laid into the interpreter's heap, and the row's frame as the guide's shell lays it. -/
import Derived.Test.YtaclhflmgafobaaS8
import Derived.Test.YtaclhflmgafobaaAbP
import Derived.Test.YtaclhflmgafobaaRows
import Derived.WalkKit
import Derived.ProofKit
import Derived.OpenShut
import Derived.ShutString
import Derived.ChangeOld
import Derived.Below
namespace Go.Proofs.Ytaclhflmgafobaa.sketchFar
open Go.ChangeShapes Go.WideShapes Go.ChangeAt Go.RowKit
open Go.ChangeMaps (open_string shut_string)
open Go.Ab
set_option linter.unusedVariables false

theorem own : ownKnob Try.prog.godebug = none := by kernel_rfl
theorem laidOut : laidOutB Try.prog = true := by kernel_rfl

/-- WHAT THE WALK IS TOLD OF A SLICE OF INTEGERS THAT CAME IN: it is nil; or it leads to a row of 'cap' cells, the numbers 'zs' (the first 'len' are its elements, the rest its spare room), each fitting its kind. -/
def IsRow (k : IntKind) (w : World) (a : Option Addr) (len cap : Nat) (zs : List Int) : Prop :=
  (a = none ∧ len = 0 ∧ cap = 0 ∧ zs = []) ∨
  ∃ x, a = some x ∧ len ≤ cap ∧ cap ≤ maxLen ∧ zs.length = cap ∧ (∀ i, i < zs.length → w.cell? (x.add i) = some (.int k (zs.getD i 0))) ∧ ∀ n ∈ zs, (Lit.int k n).wf = true

theorem unnamed (f : FuncId) (fn : Func) (h : Try.prog.funcs[f]? = some fn) : (fn.name == "runtime.NumGoroutine") = false := by
  have key : (Try.prog.funcs.all fun fn => !(fn.name == "runtime.NumGoroutine")) = true := by kernel_rfl
  rw [Array.all_eq_true] at key
  obtain ⟨hf, rfl⟩ := Array.getElem?_eq_some_iff.1 h
  simpa using key f hf
theorem mixed : Try.prog.follows .mixedOrders = true := by kernel_rfl
theorem lives_run : (evCall Try.prog noSum 100 5 [] ⟨0, []⟩).map (·.1) = some (.bool true) := by kernel_rfl
theorem sm_ok : CallerOk Try.prog sm := oneSum_ok mixed unnamed lives_run
theorem sm_grows : CallerGrows sm := oneSum_grows _ _
abbrev Lies (w : World) (a : Option Addr) : Prop := ∀ x, a = some x → x.spot = none ∧ ∃ C e fr, w.heap[x.block]? = some (.cells C e fr)
theorem row_in {k : IntKind} {w : World} {a : Option Addr} {len cap : Nat} {zs : List Int} (h : IsRow k w a len cap zs) (hs : Lies w a) : InRow w (a, zs.map (.int k)) ∧ (a = none → len = 0 ∧ cap = 0) ∧
    ∀ ins b, ins[b]? = some (a, zs.map (.int k)) → Vec (Value.int k) (inH ins) (inV b a len cap) (zs.take len) := by
  rcases h with ⟨rfl, rfl, rfl, rfl⟩ | ⟨x, rfl, hlc, hm, hl, hc, _⟩
  · exact ⟨⟨fun x hx => by cases hx⟩, fun _ => ⟨rfl, rfl⟩, fun ins b _ => Vec.nil _ _⟩
  · refine ⟨in_ints hs (fun y hy => by cases hy; exact hc), (fun h => by cases h), fun ins b hb => ?_⟩
    rcases in_row (len := len) (cap := cap) hb (fun h => by cases h) hlc (fun _ => by simpa using hl) with h | h
    · have e : (zs.take len).length = len := by simp; omega
      rw [Vec, e, List.map_take]; exact h
    · cases h
theorem wf_i32 {n : Int} (h : (Lit.int .i32 n).wf = true) : -2147483648 ≤ n ∧ n ≤ 2147483647 := by
  simpa [Lit.wf, IntKind.min, IntKind.max, IntKind.signed, IntKind.bits] using h
theorem wf_i64 {n : Int} (h : (Lit.int .i64 n).wf = true) : -9223372036854775808 ≤ n ∧ n ≤ 9223372036854775807 := by
  simpa [Lit.wf, IntKind.min, IntKind.max, IntKind.signed, IntKind.bits] using h
theorem wf_u64 {n : Int} (h : (Lit.int .u64 n).wf = true) : 0 ≤ n ∧ n ≤ 18446744073709551615 := by
  simpa [Lit.wf, IntKind.min, IntKind.max, IntKind.signed, IntKind.bits] using h
theorem word_of {n : Int} (h : (Lit.int .u64 n).wf = true) : Value.int .u64 n = w64 (BitVec.ofInt 64 n) := by
  have := wf_u64 h
  rw [w64, BitVec.toNat_ofInt]; congr 1; omega
theorem isrow_wf {k : IntKind} {w : World} {a : Option Addr} {len cap : Nat} {zs : List Int} (h : IsRow k w a len cap zs) : ∀ n ∈ zs, (Lit.int k n).wf = true := by
  rcases h with ⟨_, _, _, rfl⟩ | ⟨_, _, _, _, _, _, h⟩
  · intro n hn; cases hn
  · exact h
theorem words_in {σ : AH} {v : Value} {l : List Int} (h : Vec (Value.int .u64) σ v l) (hw : ∀ n ∈ l, (Lit.int .u64 n).wf = true) : Vec w64 σ v (l.map (BitVec.ofInt 64)) := by
  have e : (l.map (BitVec.ofInt 64)).map w64 = l.map (.int .u64) := by
    rw [List.map_map]
    exact List.map_congr_left fun n hn => (word_of (hw n hn)).symm
  rw [Vec, List.length_map, e]; exact h
theorem walk (a0 : Option Addr) (len0 cap0 : Nat) (z0 : List Int) (a1 : Option Addr) (len1 cap1 : Nat) (z1 : List Int) (a2 : Option Addr) (len2 cap2 : Nat) (z2 : List Int) (a3 : Option Addr) (len3 cap3 : Nat) (z3 : List Int) (a4 : Int) (a5 : Int) (w : World) (w0 : IsRow .u64 w a0 len0 cap0 z0) (w1 : IsRow .u64 w a1 len1 cap1 z1) (w2 : IsRow .u64 w a2 len2 cap2 z2) (w3 : IsRow .i32 w a3 len3 cap3 z3) (w4 : (Lit.int .u64 a4).wf = true) (w5 : (Lit.int .i64 a5).wf = true) (s0 : Lies w a0) (s1 : Lies w a1) (s2 : Lies w a2) (s3 : Lies w a3) :
    Calls Try.prog 4 #[.slice a0 len0 cap0, .slice a1 len1 cap1, .slice a2 len2 cap2, .slice a3 len3 cap3, .int .u64 a4, .int .i64 a5] w fun e w' => e = .returned (.bool true) ∧ Below w.heap.size w w' := by
  obtain ⟨i0, n0, v0⟩ := row_in w0 s0
  obtain ⟨i1, n1, v1⟩ := row_in w1 s1
  obtain ⟨i2, n2, v2⟩ := row_in w2 s2
  obtain ⟨i3, n3, v3⟩ := row_in w3 s3
  let ins : List (Option Addr × List Value) := [(a0, z0.map (.int .u64)), (a1, z1.map (.int .u64)), (a2, z2.map (.int .u64)), (a3, z3.map (.int .i32))]
  have e0 : ins[0]? = some (a0, z0.map (.int .u64)) := rfl
  have e1 : ins[1]? = some (a1, z1.map (.int .u64)) := rfl
  have e2 : ins[2]? = some (a2, z2.map (.int .u64)) := rfl
  have e3 : ins[3]? = some (a3, z3.map (.int .i32)) := rfl
  have hin : ∀ i ∈ ins, InRow w i := by
    intro i hi
    simp only [ins, List.mem_cons, List.not_mem_nil, or_false] at hi
    rcases hi with rfl | rfl | rfl | rfl
    · exact i0
    · exact i1
    · exact i2
    · exact i3
  have wt : ∀ {k : IntKind} {l : List Int} {n : Nat}, (∀ n ∈ l, (Lit.int k n).wf = true) → ∀ m ∈ l.take n, (Lit.int k m).wf = true := fun h m hm => h m (List.mem_of_mem_take hm)
  have far := far_ret (words_in (v0 ins 0 e0) (wt (isrow_wf w0))) (words_in (v1 ins 1 e1) (wt (isrow_wf w1))) (words_in (v2 ins 2 e2) (wt (isrow_wf w2))) (v3 ins 3 e3) (fun x hx => wf_i32 (wt (isrow_wf w3) x hx)) (BitVec.ofInt 64 a4) a5 (wf_i64 w5).1 (by rw [inH_size]; exact Nat.le_refl _)
  rw [← word_of w4] at far
  refine (Ret.below (args' := [.slice a0 len0 cap0, .slice a1 len1 cap1, .slice a2 len2 cap2, .slice a3 len3 cap3, .int .u64 a4, .int .i64 a5]) sm_grows sm_ok mixed unnamed far hin ?_).mono fun e w' hh => ?_
  · refine ⟨rfl, fun i v v' h1 h2 => ?_⟩
    match i, h1, h2 with
    | 0, h1, h2 => cases h1; cases h2; exact in_val i0 e0 n0
    | 1, h1, h2 => cases h1; cases h2; exact in_val i1 e1 n1
    | 2, h1, h2 => cases h1; cases h2; exact in_val i2 e2 n2
    | 3, h1, h2 => cases h1; cases h2; exact in_val i3 e3 n3
    | 4, h1, h2 => cases h1; cases h2; exact .prim rfl
    | 5, h1, h2 => cases h1; cases h2; exact .prim rfl
    | i + 6, h1, h2 => simp at h1
  · obtain ⟨⟨v, σ', φ', v', ⟨rfl, _⟩, he, hv⟩, hb⟩ := hh
    cases hv
    exact ⟨he, hb⟩

/-! ### THE ROW's STEP: WRITTEN OUT: LEAVE IT -/
set_option maxRecDepth 100000 in
theorem lifted (os : Os) (started : os.Started) (H : Type) (enc : TypeId × Value → H) :
    ReturnsInHanded {} Try.checked os 4 .any (Rows.sketchFarSpec.pre6 enc Try.prog Try.f4 Rows.sketchFarRow.domain false) (Rows.sketchFarSpec.post enc Try.prog Try.f4 false true false false) := by
  refine returnsInHanded_of_change (C := Try.checked) own started (by kernel_rfl) Try.func4
    (ChangeSpec.witness6 (enc := enc) (C := Try.checked) false ⟨#[], #[.slice none 0 0, .slice none 0 0, .slice none 0 0, .slice none 0 0, .int .u64 0, .int .i64 0], []⟩ 8 (by kernel_rfl) (by kernel_rfl) (by kernel_rfl) (by kernel_rfl)) ?_
  intro W base args ds gs before hval0 hW hcnd _
  have hval : ∀ (j : Nat) t v, Try.f4.params[j]? = some t → args[j]? = some v → Value.okWide Try.prog W .any base t v := hval0
  have hW' := hW
  obtain ⟨p, q, hA0, hV, rfl, hfz, hnd⟩ := hW
  have hA : DataW.TrodAll enc Try.prog W 0 (fun _ => true) true Try.f4.params.toList args.toList ds p := hA0
  rw [Try.params4] at hA hval
  obtain ⟨v0, vs0, d0, ds0, p0, q0, hargs, rfl, rfl, h0, r0⟩ := trodAll_cons hA
  obtain ⟨v1, vs1, d1, ds1, p1, q1, rfl, rfl, rfl, h1, r1⟩ := trodAll_cons r0
  obtain ⟨v2, vs2, d2, ds2, p2, q2, rfl, rfl, rfl, h2, r2⟩ := trodAll_cons r1
  obtain ⟨v3, vs3, d3, ds3, p3, q3, rfl, rfl, rfl, h3, r3⟩ := trodAll_cons r2
  obtain ⟨v4, vs4, d4, ds4, p4, q4, rfl, rfl, rfl, h4, r4⟩ := trodAll_cons r3
  obtain ⟨v5, vs5, d5, ds5, p5, q5, rfl, rfl, rfl, h5, r5⟩ := trodAll_cons r4
  obtain ⟨rfl, rfl, rfl⟩ := trodAll_nil r5
  obtain rfl : args = #[v0, v1, v2, v3, v4, v5] := by cases args; simp_all
  obtain ⟨rfl, rfl⟩ := trodVars_none hV
  obtain ⟨a0, len0, cap0, rfl⟩ := okWide_slice Try.underlying25 (hval 0 25 v0 rfl rfl)
  have s0 : Lies W a0 := fun x hx => lies Try.underlying25 (len := len0) (cap := cap0) (by rw [← hx]; exact hval 0 25 _ rfl rfl)
  have k0 := h0
  have lt0 : ∀ x ∈ p0, x.block < W.heap.size := by obtain ⟨m, hm⟩ := k0; exact DataW.trod_lt m _ _ _ hm
  obtain ⟨z0, w0⟩ : ∃ zs, IsRow .u64 W a0 len0 cap0 zs := by
    obtain ⟨fuel, hf⟩ := h0
    rcases open_ints Try.underlying25 Try.underlying23 (by kernel_rfl) hf with ⟨hcs, _⟩ | ⟨x, l, c, zs, hcs, _, hl, hm, hz, _, hcell, hwz⟩
    · simp [Value.cells] at hcs
      obtain ⟨rfl, rfl, rfl⟩ := hcs
      exact ⟨[], .inl ⟨rfl, rfl, rfl, rfl⟩⟩
    · simp [Value.cells] at hcs
      obtain ⟨rfl, rfl, rfl⟩ := hcs
      exact ⟨zs, .inr ⟨_, rfl, hl, hm, by simpa using hz, hcell, hwz⟩⟩
  obtain ⟨a1, len1, cap1, rfl⟩ := okWide_slice Try.underlying25 (hval 1 25 v1 rfl rfl)
  have s1 : Lies W a1 := fun x hx => lies Try.underlying25 (len := len1) (cap := cap1) (by rw [← hx]; exact hval 1 25 _ rfl rfl)
  have k1 := h1
  have lt1 : ∀ x ∈ p1, x.block < W.heap.size := by obtain ⟨m, hm⟩ := k1; exact DataW.trod_lt m _ _ _ hm
  obtain ⟨z1, w1⟩ : ∃ zs, IsRow .u64 W a1 len1 cap1 zs := by
    obtain ⟨fuel, hf⟩ := h1
    rcases open_ints Try.underlying25 Try.underlying23 (by kernel_rfl) hf with ⟨hcs, _⟩ | ⟨x, l, c, zs, hcs, _, hl, hm, hz, _, hcell, hwz⟩
    · simp [Value.cells] at hcs
      obtain ⟨rfl, rfl, rfl⟩ := hcs
      exact ⟨[], .inl ⟨rfl, rfl, rfl, rfl⟩⟩
    · simp [Value.cells] at hcs
      obtain ⟨rfl, rfl, rfl⟩ := hcs
      exact ⟨zs, .inr ⟨_, rfl, hl, hm, by simpa using hz, hcell, hwz⟩⟩
  obtain ⟨a2, len2, cap2, rfl⟩ := okWide_slice Try.underlying25 (hval 2 25 v2 rfl rfl)
  have s2 : Lies W a2 := fun x hx => lies Try.underlying25 (len := len2) (cap := cap2) (by rw [← hx]; exact hval 2 25 _ rfl rfl)
  have k2 := h2
  have lt2 : ∀ x ∈ p2, x.block < W.heap.size := by obtain ⟨m, hm⟩ := k2; exact DataW.trod_lt m _ _ _ hm
  obtain ⟨z2, w2⟩ : ∃ zs, IsRow .u64 W a2 len2 cap2 zs := by
    obtain ⟨fuel, hf⟩ := h2
    rcases open_ints Try.underlying25 Try.underlying23 (by kernel_rfl) hf with ⟨hcs, _⟩ | ⟨x, l, c, zs, hcs, _, hl, hm, hz, _, hcell, hwz⟩
    · simp [Value.cells] at hcs
      obtain ⟨rfl, rfl, rfl⟩ := hcs
      exact ⟨[], .inl ⟨rfl, rfl, rfl, rfl⟩⟩
    · simp [Value.cells] at hcs
      obtain ⟨rfl, rfl, rfl⟩ := hcs
      exact ⟨zs, .inr ⟨_, rfl, hl, hm, by simpa using hz, hcell, hwz⟩⟩
  obtain ⟨a3, len3, cap3, rfl⟩ := okWide_slice Try.underlying22 (hval 3 22 v3 rfl rfl)
  have s3 : Lies W a3 := fun x hx => lies Try.underlying22 (len := len3) (cap := cap3) (by rw [← hx]; exact hval 3 22 _ rfl rfl)
  have k3 := h3
  have lt3 : ∀ x ∈ p3, x.block < W.heap.size := by obtain ⟨m, hm⟩ := k3; exact DataW.trod_lt m _ _ _ hm
  obtain ⟨z3, w3⟩ : ∃ zs, IsRow .i32 W a3 len3 cap3 zs := by
    obtain ⟨fuel, hf⟩ := h3
    rcases open_ints Try.underlying22 Try.underlying21 (by kernel_rfl) hf with ⟨hcs, _⟩ | ⟨x, l, c, zs, hcs, _, hl, hm, hz, _, hcell, hwz⟩
    · simp [Value.cells] at hcs
      obtain ⟨rfl, rfl, rfl⟩ := hcs
      exact ⟨[], .inl ⟨rfl, rfl, rfl, rfl⟩⟩
    · simp [Value.cells] at hcs
      obtain ⟨rfl, rfl, rfl⟩ := hcs
      exact ⟨zs, .inr ⟨_, rfl, hl, hm, by simpa using hz, hcell, hwz⟩⟩
  obtain ⟨a4, rfl, rfl, rfl, w4⟩ := open_int Try.underlying23 (hval 4 23 v4 rfl rfl) h4
  obtain ⟨a5, rfl, rfl, rfl, w5⟩ := open_int Try.underlying3 (hval 5 3 v5 rfl rfl) h5
  clear hA0 hval0
  refine (walk a0 len0 cap0 z0 a1 len1 cap1 z1 a2 len2 cap2 z2 a3 len3 cap3 z3 a4 a5 W w0 w1 w2 w3 w4 w5 s0 s1 s2 s3).mono fun e W' ⟨he, bel⟩ => ?_
  subst he
  exact ⟨_, rfl, _, _, _, [], _, [], hW', trodAll_mk1 (shut_bool Try.underlying4 _), (trodAll_cons_mk (Below.trod laidOut (by kernel_rfl) (of_decide_eq_true (by kernel_rfl)) k0 bel lt0) (trodAll_cons_mk (Below.trod laidOut (by kernel_rfl) (of_decide_eq_true (by kernel_rfl)) k1 bel lt1) (trodAll_cons_mk (Below.trod laidOut (by kernel_rfl) (of_decide_eq_true (by kernel_rfl)) k2 bel lt2) (trodAll_cons_mk (Below.trod laidOut (by kernel_rfl) (of_decide_eq_true (by kernel_rfl)) k3 bel lt3) (trodAll_cons_mk (shut_int Try.underlying23 w4) (trodAll_cons_mk (shut_int Try.underlying3 w5) trodAll_mk0)))))), rfl, bel.frame _, fun h => by cases h⟩

theorem over : Rows.sketchFarRow.holds Try.pinned (OpenSpec.ofChange Rows.sketchFarSpec) :=
  OpenClaim.holds_of_wide 4 Try.f4 rfl rfl rfl rfl rfl rfl rfl ⟨rfl, rfl, rfl, rfl, rfl⟩ rfl rfl rfl rfl rfl (by kernel_rfl) Try.func4 (by kernel_rfl)
    (of_decide_eq_true (by kernel_rfl)) (by unfold Func.isWrapper; first | (rw [if_pos (by decide +kernel)]; kernel_rfl) | (rw [if_neg (by decide +kernel)]; exact ⟨rfl, rfl⟩))
    (fun os started H enc _ => lifted os started H enc)

/-- ████ THE STATEMENT ████ -/
theorem proved : Rows.SketchFarSaid := over
#print axioms proved
end Go.Proofs.Ytaclhflmgafobaa.sketchFar
