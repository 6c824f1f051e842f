/- One operation of the interpreter is the machine's: soundness for each kind of operation, calls by their contracts. -/
import Derived.Test.YtaclhflmgafobaaFzF
namespace Go.Ab
open Go
set_option linter.unusedSimpArgs false
set_option linter.unusedVariables false

/-- What a caller answers, the machine answers. -/
def CallerOk (P : Program) (call : Caller) : Prop := ∀ f args σ v σ', call f args σ = some (v, σ') →
  (∃ fn, P.funcs[f]? = some fn ∧ fn.body.isNone = false ∧ (fn.name == "runtime.NumGoroutine") = false) ∧
  ∀ (φ : Ren) (w : World) (args' : List Value), StRel φ σ w → LRel φ args args' → (∀ b, σ.size ≤ b → b < σ'.size → φ b = none) →
    Calls P f args'.toArray w fun e w' => ∃ φ' v', e = .returned v' ∧ StRel φ' σ' w' ∧ VRel φ' v v' ∧ Ext φ σ w φ' σ' w'

/-- What an operation answers. -/
def OpRun (P : Program) (φ : Ren) (σ : AH) (w : World) (ρ' : Operand → Value) (o : Oper) (v : Value) (σ' : AH) : Prop :=
  ∃ φ' v' w', ((execOp ρ' o).run P w = .ok (.value v') w' ∨ ((execOp ρ' o).run P w = .ok .skip w' ∧ v' = undef)) ∧ StRel φ' σ' w' ∧ VRel φ' v v' ∧ Ext φ σ w φ' σ' w'

theorem OpRun.value {P : Program} {φ : Ren} {σ : AH} {w : World} {ρ' : Operand → Value} {o : Oper} {v v' : Value} (hS : StRel φ σ w) (hv : VRel φ v v') (h : (execOp ρ' o).run P w = .ok (.value v') w) : OpRun P φ σ w ρ' o v σ :=
  ⟨φ, v', w, .inl h, hS, hv, .refl _ _ _⟩

theorem evOp_run {P : Program} {call : Caller} {φ : Ren} {σ σ' : AH} {w : World} {ρ ρ' : Operand → Value} {o : Oper} {v : Value} (hS : StRel φ σ w) (hρ : ∀ x, VRel φ (ρ x) (ρ' x)) (hf : ∀ b, σ.size ≤ b → b < σ'.size → φ b = none)
    (hnc : ∀ f as ts, o.op ≠ .call { callee := .value f, args := as, argTypes := ts }) (h : evOp P call ρ o.op σ = some (v, σ')) : OpRun P φ σ w ρ' o v σ' := by
  unfold evOp at h
  split at h
  case h_1 x ho => simp at h; obtain ⟨rfl, rfl⟩ := h; exact .value hS (hρ x) (by simp [execOp, ho])
  case h_2 x ho => simp at h; obtain ⟨rfl, rfl⟩ := h; exact .value hS (hρ x) (by simp [execOp, ho])
  case h_3 c a b ho =>
    split at h
    · rename_i t hc
      simp at h; obtain ⟨rfl, rfl⟩ := h
      have hc' := hρ c; rw [hc] at hc'; have hc'' := hc'.of_bool
      refine .value (v' := if t then ρ' a else ρ' b) hS ?_ (by simp [execOp, ho, hc'', asBool])
      cases t
      · exact hρ b
      · exact hρ a
    · cases h
  case h_4 e ho =>
    cases hz : zeroOf P e with
    | none => simp [hz] at h
    | some z =>
      simp only [hz, Option.bind_some] at h
      split at h
      · cases h
      · rename_i ht
        simp at h
        obtain ⟨_, _, _, hcl⟩ := zeroOf_some hz
        have hsz : σ'.size = σ.size + 1 := by have := congrArg (fun p => p.2.size) h; simpa [AH.alloc, AH.size_push] using this.symm
        obtain ⟨φ', w', h1, h2, h3, h4⟩ := box_ok (P := P) (e := e) hS (hf _ (Nat.le_refl _) (by omega)) (closed_rel (φ := φ) hcl) (by simpa using ht)
        rw [h] at h2 h3 h4
        exact ⟨φ', _, w', .inl (by simp [execOp, ho, Instr.alloc, run_zeroValue' hz, h1]), h2, h4, h3⟩
  case h_5 e x ho =>
    split at h
    · cases h
    · rename_i ht
      simp at h
      have hsz : σ'.size = σ.size + 1 := by have := congrArg (fun p => p.2.size) h; simpa [AH.alloc, AH.size_push] using this.symm
      obtain ⟨φ', w', h1, h2, h3, h4⟩ := box_ok (P := P) (e := e) hS (hf _ (Nat.le_refl _) (by omega)) (hρ x) (by simpa using ht)
      rw [h] at h2 h3 h4
      exact ⟨φ', _, w', .inl (by simp [execOp, ho, Instr.box, h1]), h2, h4, h3⟩
  case h_6 t ps ho =>
    obtain ⟨u, hu, h⟩ := Option.map_eq_some_iff.1 h
    simp at h; obtain ⟨rfl, rfl⟩ := h
    obtain ⟨v', h1, h2⟩ := aBuild_ok hρ hu w
    refine .value hS h2 ?_
    have e : (ps.map fun x => (x.1, ρ' x.2)) = (ps.toList.map fun p => (p.1, ρ' p.2)).toArray := by apply Array.ext'; simp
    simp [execOp, ho, e, h1]
  case h_7 t n ps ho =>
    obtain ⟨φ', v', w', h1, h2, h3, h4⟩ := aBuildSlice_ok hρ hS (hf _ (Nat.le_refl _) (by
      unfold aBuildSlice at h
      split at h
      · cases h
      split at h
      · split at h
        · split at h
          · split at h
            · simp at h; rw [← h.2, AH.size_push]; omega
            · cases h
          · cases h
        · cases h
      · cases h)) h
    have e : (ps.map fun x => (x.1, ρ' x.2)) = (ps.toList.map fun p => (p.1, ρ' p.2)).toArray := by apply Array.ext'; simp
    exact ⟨φ', v', w', .inl (by simp [execOp, ho, e, h1]), h2, h4, h3⟩
  case h_8 t a ho =>
    obtain ⟨u, hu, h⟩ := Option.map_eq_some_iff.1 h
    simp at h; obtain ⟨rfl, rfl⟩ := h
    obtain ⟨v', h1, h2⟩ := aLoad_ok (P := P) hS (hρ a) hu
    exact .value hS h2 (by simp [execOp, ho, h1])
  case h_9 t a x ho =>
    obtain ⟨u, hu, h⟩ := Option.map_eq_some_iff.1 h
    simp at h; obtain ⟨rfl, rfl⟩ := h
    obtain ⟨w', h1, h2, h3⟩ := aStore_ok (P := P) hS (hρ a) (hρ x) hu
    exact ⟨φ, undef, w', .inr ⟨by simp [execOp, ho, h1], rfl⟩, h2, .undef _, h3⟩
  case h_10 x ho =>
    obtain ⟨u, hu, h⟩ := Option.map_eq_some_iff.1 h
    simp at h; obtain ⟨rfl, rfl⟩ := h
    have hx := hρ x
    unfold aNilCheck at hu
    split at hu
    · rename_i a e; rw [e] at hx; simp at hu; subst hu; obtain ⟨c, d, h1, h2, h3⟩ := hx.of_ptr; exact .value hS hx (by simp [execOp, ho, h3])
    · rename_i f a b e; rw [e] at hx; simp at hu; subst hu; obtain ⟨_, _, h3, _⟩ := hx.of_func; exact .value hS hx (by simp [execOp, ho, h3])
    · rename_i a b e; rw [e] at hx; simp at hu; subst hu; obtain ⟨_, _, _, h3, _⟩ := hx.of_pfz; exact .value hS hx (by simp [execOp, ho, h3])
    · rename_i t u e; rw [e] at hx; simp at hu; subst hu; obtain ⟨_, h3, _⟩ := hx.of_iface; exact .value hS hx (by simp [execOp, ho, h3])
    · cases hu
  case h_11 op t x y yt ho =>
    obtain ⟨u, hu, h⟩ := Option.map_eq_some_iff.1 h
    simp at h; obtain ⟨rfl, rfl⟩ := h
    obtain ⟨v', h1, h2⟩ := aBin_ok (X := x) (Y := y) (hρ x) (hρ y) hu w
    exact .value hS h2 (by simp only [execOp, ho, Sem.run_bind, h1, Result.andThen_ok, Sem.run_pure])
  case h_12 op t x ho =>
    obtain ⟨u, hu, h⟩ := Option.map_eq_some_iff.1 h
    simp at h; obtain ⟨rfl, rfl⟩ := h
    obtain ⟨h1, h2⟩ := aUn_ok (P := P) (hρ x) hu w
    exact .value hS h2 (by simp [execOp, ho, h1])
  case h_13 s d x ho =>
    obtain ⟨u, hu, h⟩ := Option.map_eq_some_iff.1 h
    simp at h; obtain ⟨rfl, rfl⟩ := h
    obtain ⟨h1, h2⟩ := aConv_ok (P := P) (hρ x) hu w
    exact .value hS h2 (by simp [execOp, ho, h1])
  case h_14 t x ho =>
    split at h
    · cases h
    split at h
    · cases h
    · cases h
    · rename_i ud hnif hu
      simp at h; obtain ⟨rfl, rfl⟩ := h
      refine .value (v' := .iface t (ρ' x)) hS (.iface (hρ x)) ?_
      cases ud <;> first
        | exact absurd rfl (hnif _)
        | simp [execOp, ho, Instr.makeInterface, run_underlying hu]
  case h_15 fn first cap ho =>
    simp at h; obtain ⟨rfl, rfl⟩ := h
    refine .value (v' := .func (.func fn) (first.map ρ') (cap.map ρ')) hS (.func (by simp) (fun i v v' e e' => ?_) (by simp) (fun i v v' e e' => ?_)) (by simp [execOp, ho, Instr.makeFunc])
    · simp only [Array.getElem?_map, Option.map_eq_some_iff] at e e'
      obtain ⟨x, hx, rfl⟩ := e; obtain ⟨y, hy, rfl⟩ := e'
      rw [hx] at hy; obtain rfl := Option.some.inj hy; exact hρ x
    · simp only [Array.getElem?_map, Option.map_eq_some_iff] at e e'
      obtain ⟨x, hx, rfl⟩ := e; obtain ⟨y, hy, rfl⟩ := e'
      rw [hx] at hy; obtain rfl := Option.some.inj hy; exact hρ x
  case h_16 t ho =>
    simp at h; obtain ⟨rfl, rfl⟩ := h
    have := new_block (o := .map [] 0) (O := .map #[] 0) (L := (0, 0)) (w' := { w with heap := w.heap.push (.map #[] 0) }) hS (hf _ (Nat.le_refl _) (by rw [AH.size_push]; omega)) rfl rfl rfl rfl (Nat.le_refl _) ⟨#[], rfl, by simp, rfl, by simp⟩ rfl
    exact ⟨_, .map (some w.heap.size), _, .inl (by simp [execOp, ho, Instr.makeMap]), this.1, .map Ren.add_same, this.2⟩
  case h_17 t l c ho =>
    obtain ⟨φ', v', w', h1, h2, h3, h4⟩ := aMakeSlice_ok hS (hf _ (Nat.le_refl _) (by
      unfold aMakeSlice at h
      split at h
      · split at h
        · split at h
          · split at h
            · simp at h; rw [← h.2, AH.size_push]; omega
            · cases h
          · cases h
        · cases h
      · cases h)) (hρ l) (hρ c) h
    exact ⟨φ', v', w', .inl (by simp [execOp, ho, h1]), h2, h4, h3⟩
  case h_18 t x lo hi mx ho =>
    obtain ⟨u, hu, h⟩ := Option.map_eq_some_iff.1 h
    simp at h; obtain ⟨rfl, rfl⟩ := h
    have opt : ∀ (q : Option Operand) (v : Value), q.map ρ = some v → ∃ v', q.map ρ' = some v' ∧ VRel φ v v' := fun q v e => by
      obtain ⟨y, rfl, rfl⟩ := Option.map_eq_some_iff.1 e; exact ⟨_, rfl, hρ y⟩
    have opt0 : ∀ (q : Option Operand), q.map ρ = none → q.map ρ' = none := fun q e => by cases q <;> simp_all
    obtain ⟨v', h1, h2⟩ := aSlice_ok (P := P) hS (hρ x) (opt lo) (opt0 lo) (opt hi) (opt0 hi) (opt0 mx) hu
    exact .value hS h2 (by simp [execOp, ho, h1])
  case h_19 s x f ho =>
    obtain ⟨u, hu, h⟩ := Option.map_eq_some_iff.1 h
    simp at h; obtain ⟨rfl, rfl⟩ := h
    obtain ⟨v', h1, h2⟩ := aFieldAddr_ok (P := P) (hρ x) hu w
    exact .value hS h2 (by simp [execOp, ho, h1])
  case h_20 s x f ho =>
    obtain ⟨u, hu, h⟩ := Option.map_eq_some_iff.1 h
    simp at h; obtain ⟨rfl, rfl⟩ := h
    obtain ⟨v', h1, h2⟩ := aField_ok (P := P) (hρ x) hu w
    exact .value hS h2 (by simp [execOp, ho, h1])
  case h_21 t x i ho =>
    obtain ⟨u, hu, h⟩ := Option.map_eq_some_iff.1 h
    simp at h; obtain ⟨rfl, rfl⟩ := h
    obtain ⟨v', h1, h2⟩ := aIndexAddr_ok (P := P) (hρ x) (hρ i) hu w
    exact .value hS h2 (by simp [execOp, ho, h1])
  case h_22 t x i ho =>
    obtain ⟨u, hu, h⟩ := Option.map_eq_some_iff.1 h
    simp at h; obtain ⟨rfl, rfl⟩ := h
    obtain ⟨v', h1, h2⟩ := aIndex_ok (P := P) (hρ x) (hρ i) hu w
    exact .value hS h2 (by simp [execOp, ho, h1])
  case h_23 t m k ok ho =>
    obtain ⟨u, hu, h⟩ := Option.map_eq_some_iff.1 h
    simp at h; obtain ⟨rfl, rfl⟩ := h
    obtain ⟨v', h1, h2⟩ := aLookup_ok (P := P) hS (hρ m) (hρ k) hu
    exact .value hS h2 (by simp [execOp, ho, h1])
  case h_24 t m k x ho =>
    obtain ⟨u, hu, h⟩ := Option.map_eq_some_iff.1 h
    simp at h; obtain ⟨rfl, rfl⟩ := h
    obtain ⟨w', h1, h2, h3⟩ := aMapUpdate_ok (P := P) hS (hρ m) (hρ k) (hρ x) hu
    exact ⟨φ, undef, w', .inr ⟨by simp [execOp, ho, h1], rfl⟩, h2, .undef _, h3⟩
  case h_25 t m k x ho =>
    obtain ⟨u, hu, h⟩ := Option.map_eq_some_iff.1 h
    simp at h; obtain ⟨rfl, rfl⟩ := h
    obtain ⟨w', h1, h2, h3⟩ := aMapUpdate_ok (P := P) hS (hρ m) (hρ k) (hρ x) hu
    exact ⟨φ, undef, w', .inr ⟨by simp [execOp, ho, h1], rfl⟩, h2, .undef _, h3⟩
  case h_26 t m k ho =>
    obtain ⟨v', w', h1, h2, h3, h4⟩ := aMapEntry_ok (P := P) hS (hρ m) (hρ k) h
    exact ⟨φ, v', w', .inl (by simp [execOp, ho, h1]), h2, h4, h3⟩
  case h_27 t m s x ho =>
    obtain ⟨u, hu, h⟩ := Option.map_eq_some_iff.1 h
    simp at h; obtain ⟨rfl, rfl⟩ := h
    obtain ⟨w', h1, h2, h3⟩ := aEntryStore_ok (P := P) (t := t) hS (hρ m) (hρ s) (hρ x) hu
    exact ⟨φ, undef, w', .inr ⟨by simp [execOp, ho, h1], rfl⟩, h2, .undef _, h3⟩
  case h_28 x i ho =>
    obtain ⟨u, hu, h⟩ := Option.map_eq_some_iff.1 h
    simp at h; obtain ⟨rfl, rfl⟩ := h
    obtain ⟨v', h1, h2⟩ := aExtract_ok (P := P) (hρ x) hu w
    exact .value hS h2 (by simp [execOp, ho, h1])
  case h_29 b as ts ho =>
    have hargs : LRel φ (as.toList.map ρ) (as.toList.map ρ') := ⟨by simp, fun i v v' e e' => by
      simp only [List.getElem?_map, Option.map_eq_some_iff] at e e'
      obtain ⟨x, hx, rfl⟩ := e; obtain ⟨y, hy, rfl⟩ := e'
      rw [hx] at hy; obtain rfl := Option.some.inj hy; exact hρ x⟩
    have hmap : as.map ρ' = (as.toList.map ρ').toArray := by apply Array.ext'; simp
    have hres : ∀ X, (builtin b ts o.type (as.map fun | .const _ => true | _ => false) (as.map ρ')).run P w = X → (execOp ρ' o).run P w = X := fun X hX => by
      rw [← hX]; simp [execOp, ho, resolve, invoke]; rfl
    have one : ∀ (l : List Operand) (x : Value), l.map ρ = [x] → ∃ X, l = [X] ∧ ρ X = x := fun l x e => by
      match l, e with
      | [X], e => simp at e; exact ⟨X, rfl, e⟩
    have two : ∀ (l : List Operand) (x y : Value), l.map ρ = [x, y] → ∃ X Y, l = [X, Y] ∧ ρ X = x ∧ ρ Y = y := fun l x y e => by
      match l, e with
      | [X, Y], e => simp at e; exact ⟨X, Y, rfl, e⟩
    unfold aBuiltin at h
    split at h
    · rename_i t x hts hxs
      obtain rfl : ts = #[t] := Array.ext' hts
      obtain ⟨X, hX, rfl⟩ := one _ _ hxs
      obtain ⟨u, hu, h⟩ := Option.map_eq_some_iff.1 h
      simp at h; obtain ⟨rfl, rfl⟩ := h
      obtain ⟨h1, h2⟩ := aLen_ok (P := P) (ty := o.type) hS (hρ X) hu
      refine .value hS h2 (hres _ ?_)
      rw [hmap, hX]
      simp [builtin, h1]
    · rename_i l
      obtain ⟨u, hu, h⟩ := Option.map_eq_some_iff.1 h
      simp at h; obtain ⟨rfl, rfl⟩ := h
      obtain ⟨h1, h2⟩ := aMin_ok (P := P) hargs hu ts o.type w
      refine .value hS h2 (hres _ ?_)
      rw [hmap]
      simp only [builtin, Sem.run_bind, h1, Result.andThen_ok, Sem.run_pure]
    · rename_i l
      obtain ⟨u, hu, h⟩ := Option.map_eq_some_iff.1 h
      simp at h; obtain ⟨rfl, rfl⟩ := h
      obtain ⟨h1, h2⟩ := aMax_ok (P := P) hargs hu ts o.type w
      refine .value hS h2 (hres _ ?_)
      rw [hmap]
      simp only [builtin, Sem.run_bind, h1, Result.andThen_ok, Sem.run_pure]
    · rename_i st xt s x hts hxs
      obtain rfl : ts = #[st, xt] := Array.ext' hts
      obtain ⟨X, Y, hX, rfl, rfl⟩ := two _ _ _ hxs
      obtain ⟨φ', v', w', h1, h2, h3, h4⟩ := aAppend_ok (P := P) (ty := o.type) hS (hρ X) (hρ Y) hf h
      refine ⟨φ', v', w', .inl (hres _ ?_), h2, h4, h3⟩
      rw [hmap, hX]
      simp only [builtin, Sem.run_bind, List.map_cons, List.map_nil, h1, Result.andThen_ok, Sem.run_pure]
    · rename_i dt st x y hts hxs
      obtain rfl : ts = #[dt, st] := Array.ext' hts
      obtain ⟨X, Y, hX, rfl, rfl⟩ := two _ _ _ hxs
      obtain ⟨v', w', h1, h2, h3, h4⟩ := aCopy_ok (P := P) (st := st) (ty := o.type) hS (hρ X) (hρ Y) h
      refine ⟨φ, v', w', .inl (hres _ ?_), h2, h4, h3⟩
      rw [hmap, hX]
      simp only [builtin, Sem.run_bind, List.map_cons, List.map_nil, h1, Result.andThen_ok, Sem.run_pure]
    · rename_i t xt m k hts hxs
      obtain rfl : ts = #[t, xt] := Array.ext' hts
      obtain ⟨X, Y, hX, rfl, rfl⟩ := two _ _ _ hxs
      obtain ⟨u, hu, h⟩ := Option.map_eq_some_iff.1 h
      simp at h; obtain ⟨rfl, rfl⟩ := h
      obtain ⟨w', h1, h2, h3⟩ := aDelete_ok (P := P) (xt := xt) (ty := o.type) hS (hρ X) (hρ Y) hu
      refine ⟨φ, undef, w', .inl (hres _ ?_), h2, .undef _, h3⟩
      rw [hmap, hX]
      simp only [builtin, Sem.run_bind, List.map_cons, List.map_nil, h1, Result.andThen_ok, Sem.run_pure, undef]
    · rename_i t m hts hxs
      obtain rfl : ts = #[t] := Array.ext' hts
      obtain ⟨X, hX, rfl⟩ := one _ _ hxs
      obtain ⟨u, hu, h⟩ := Option.map_eq_some_iff.1 h
      simp at h; obtain ⟨rfl, rfl⟩ := h
      obtain ⟨w', h1, h2, h3⟩ := aClear_ok (P := P) (ty := o.type) hS (hρ X) hu
      refine ⟨φ, undef, w', .inl (hres _ ?_), h2, .undef _, h3⟩
      rw [hmap, hX]
      simp only [builtin, Sem.run_bind, List.map_cons, List.map_nil, h1, Result.andThen_ok, Sem.run_pure, undef]
    · cases h
  case h_30 f as ts ho => exact absurd ho (hnc f as ts)
  case h_31 => cases h

/-- One operation: what stands behind it is reached. -/
theorem evOp_wp {P : Program} {call : Caller} (hC : CallerOk P call) {φ : Ren} {σ σ' : AH} {w : World} {ρ : Operand → Value} {a : Act} {o : Oper} {v : Value} {next : Act → World → Prop} {Q : Exit → Act → World → Prop}
    (hS : StRel φ σ w) (hρ : ∀ x, VRel φ (ρ x) (a.eval x)) (hf : ∀ b, σ.size ≤ b → b < σ'.size → φ b = none) (h : evOp P call ρ o.op σ = some (v, σ'))
    (hn : ∀ φ' v' w', StRel φ' σ' w' → VRel φ' v v' → Ext φ σ w φ' σ' w' → next (a.put o.dst v') w') : o.wp P a w next Q := by
  by_cases hc : ∃ f as ts, o.op = .call { callee := .value f, args := as, argTypes := ts }
  · obtain ⟨f, as, ts, ho⟩ := hc
    rw [ho] at h
    obtain ⟨⟨g, vs⟩, hcal, hcall⟩ := Option.bind_eq_some_iff.1 h
    obtain ⟨⟨fn, hfn, hbody, hname⟩, hcalls⟩ := hC _ _ _ _ _ hcall
    have hff := hρ f
    unfold callee at hcal
    split at hcal
    · rename_i g' first cap hfv
      simp at hcal; obtain ⟨rfl, rfl⟩ := hcal
      rw [hfv] at hff
      obtain ⟨first', cap', hfv', h1, h2⟩ := hff.of_func
      have hargs : LRel φ (as.toList.map ρ) (as.toList.map a.eval) := ⟨by simp, fun i v v' e e' => by
        simp only [List.getElem?_map, Option.map_eq_some_iff] at e e'
        obtain ⟨x, hx, rfl⟩ := e; obtain ⟨y, hy, rfl⟩ := e'
        rw [hx] at hy; obtain rfl := Option.some.inj hy; exact hρ x⟩
      have hrun : (execOp a.eval o).run P w = .ok (.enter g' (first'.toList ++ as.toList.map a.eval ++ cap'.toList).toArray) w := by
        have e : (first'.toList ++ as.toList.map a.eval ++ cap'.toList).toArray = first' ++ as.map a.eval ++ cap' := by apply Array.ext'; simp
        rw [e]
        have hb2 : fn.body ≠ none := by intro e; simp [e] at hbody
        have hn2 : fn.name ≠ "runtime.NumGoroutine" := by simpa using hname
        have hfn' : P.funcs[g']? = some fn := hfn
        simp [execOp, ho, resolve, Deferred.ofValue, hfv', invoke, callFunc, hfn', hb2, hn2]
      unfold Oper.wp
      rw [hrun, Oper.upon_enter]
      refine (hcalls φ w _ hS (by simpa using (h1.append hargs).append h2) hf).mono ?_
      rintro e w' ⟨φ', v', rfl, h3, h4, h5⟩
      exact hn φ' v' w' h3 h4 h5
    · cases hcal
  · obtain ⟨φ', v', w', h1, h2, h3, h4⟩ := evOp_run hS hρ hf (fun f as ts e => hc ⟨f, as, ts, e⟩) h
    unfold Oper.wp
    rcases h1 with h1 | ⟨h1, rfl⟩
    · rw [h1, Oper.upon_value]; exact hn φ' v' w' h2 h3 h4
    · rw [h1, Oper.upon_skip]; exact hn φ' undef w' h2 h3 h4
end Go.Ab
