/- Rules by which a function's text is walked in the interpreter: fuel is dealt with here, once. -/
import Derived.Test.YtaclhflmgafobaaAbK
namespace Go.Ab
open Go

/-- The call comes to an answer, and R holds of it. -/
def Ret (P : Program) (S : Caller) (f : FuncId) (args : List Value) (σ : AH) (R : Value → AH → Prop) : Prop :=
  ∃ v σ', (∃ n0, ∀ n, n0 ≤ n → evCall P S n f args σ = some (v, σ')) ∧ R v σ'
/-- The code comes to an end, and Q holds there. -/
def WC (P : Program) (S : Caller) (nt : Nat) (c : Code) (t : Tmps) (σ : AH) (Q : AExit → Tmps → AH → Prop) : Prop :=
  ∃ e t' σ', (∃ n0, ∀ n, n0 ≤ n → evCode P (evCall P S n) nt n c t σ = some (e, t', σ')) ∧ Q e t' σ'
/-- The operations come to an end, and Q holds there. -/
def WO (P : Program) (S : Caller) (nt : Nat) (ops : Array Oper) (l : List Oper) (t : Tmps) (σ : AH) (Q : Tmps → AH → Prop) : Prop :=
  ∃ t' σ', (∃ n0, ∀ n, n0 ≤ n → evOps P (evCall P S n) nt ops l t σ = some (t', σ')) ∧ Q t' σ'
/-- The same, of a region whose order is open. -/
def WD (P : Program) (S : Caller) (nt : Nat) (ops : Array Oper) (l : List Oper) (fr : List Bool) (t : Tmps) (σ : AH) (Q : Tmps → AH → Prop) : Prop :=
  ∃ t' σ', (∃ n0, ∀ n, n0 ≤ n → evDraw P (evCall P S n) nt ops l fr t σ = some (t', σ')) ∧ Q t' σ'
def noCall : Caller := fun _ _ _ => none
/-- An operation that is no call of a function. -/
def aOp (P : Program) (ρ : Operand → Value) (op : Op) (σ : AH) : Res := evOp P noCall ρ op σ
theorem aOp_ev {P : Program} {ρ : Operand → Value} {op : Op} {σ : AH} {r : Value × AH} (h : aOp P ρ op σ = some r) (call : Caller) : evOp P call ρ op σ = some r := by
  unfold aOp at h
  cases op with
  | call c =>
    obtain ⟨cal, as, ts⟩ := c
    cases cal with
    | value f =>
      simp only [evOp] at h
      obtain ⟨_, _, h⟩ := Option.bind_eq_some_iff.1 h
      cases h
    | _ => exact h
  | makeMap t r => cases r <;> exact h
  | _ => exact h

section
variable {P : Program} {S : Caller} {nt : Nat} {t : Tmps} {σ : AH} {Q : AExit → Tmps → AH → Prop}
theorem Ret.mono {f : FuncId} {args : List Value} {R R' : Value → AH → Prop} (h : Ret P S f args σ R) (hr : ∀ v σ', R v σ' → R' v σ') : Ret P S f args σ R' :=
  let ⟨v, σ', h1, h2⟩ := h; ⟨v, σ', h1, hr _ _ h2⟩
theorem WC.mono {c : Code} {Q' : AExit → Tmps → AH → Prop} (h : WC P S nt c t σ Q) (hq : ∀ e t σ, Q e t σ → Q' e t σ) : WC P S nt c t σ Q' :=
  let ⟨e, t', σ', h1, h2⟩ := h; ⟨e, t', σ', h1, hq _ _ _ h2⟩
theorem WO.mono {ops : Array Oper} {l : List Oper} {Q Q' : Tmps → AH → Prop} (h : WO P S nt ops l t σ Q) (hq : ∀ t σ, Q t σ → Q' t σ) : WO P S nt ops l t σ Q' :=
  let ⟨t', σ', h1, h2⟩ := h; ⟨t', σ', h1, hq _ _ h2⟩

/-- Behind code: on, where it has come to its end; else out. -/
def Then (k : Tmps → AH → Prop) (Q : AExit → Tmps → AH → Prop) : AExit → Tmps → AH → Prop
  | .normal, t, σ => k t σ
  | e, t, σ => Q e t σ
def Block (id : Nat) (Q : AExit → Tmps → AH → Prop) : AExit → Tmps → AH → Prop
  | .exit j, t, σ => if j = id then Q .normal t σ else Q (.exit j) t σ
  | e, t, σ => Q e t σ
theorem WC.skip (h : Q .normal t σ) : WC P S nt .skip t σ Q := ⟨.normal, t, σ, ⟨0, fun _ _ => rfl⟩, h⟩
theorem WC.label {l : Nat} (h : Q .normal t σ) : WC P S nt (.label l) t σ Q := ⟨.normal, t, σ, ⟨0, fun _ _ => rfl⟩, h⟩
theorem WC.exit {id : Nat} (h : Q (.exit id) t σ) : WC P S nt (.exit id) t σ Q := ⟨.exit id, t, σ, ⟨0, fun _ _ => rfl⟩, h⟩
theorem WC.ret (h : Q .ret t σ) : WC P S nt .ret t σ Q := ⟨.ret, t, σ, ⟨0, fun _ _ => rfl⟩, h⟩
theorem WC.seq {a b : Code} (h : WC P S nt a t σ (Then (fun t σ => WC P S nt b t σ Q) Q)) : WC P S nt (.seq a b) t σ Q := by
  obtain ⟨e, t1, σ1, ⟨n1, h1⟩, h2⟩ := h
  cases e with
  | normal =>
    obtain ⟨e, t2, σ2, ⟨n2, h3⟩, h4⟩ := h2
    exact ⟨e, t2, σ2, ⟨max n1 n2, fun n hn => by simp only [evCode, h1 n (by omega), thenDo]; exact h3 n (by omega)⟩, h4⟩
  | exit id => exact ⟨_, t1, σ1, ⟨n1, fun n hn => by simp only [evCode, h1 n hn, thenDo]⟩, h2⟩
  | ret => exact ⟨_, t1, σ1, ⟨n1, fun n hn => by simp only [evCode, h1 n hn, thenDo]⟩, h2⟩
theorem WC.condT {c : Operand} {a b : Code} (hc : opv t c = .bool true) (h : WC P S nt a t σ Q) : WC P S nt (.cond c a b) t σ Q := by
  obtain ⟨e, t1, σ1, ⟨n1, h1⟩, h2⟩ := h
  exact ⟨e, t1, σ1, ⟨n1, fun n hn => by simp only [evCode, hc, h1 n hn]⟩, h2⟩
theorem WC.condF {c : Operand} {a b : Code} (hc : opv t c = .bool false) (h : WC P S nt b t σ Q) : WC P S nt (.cond c a b) t σ Q := by
  obtain ⟨e, t1, σ1, ⟨n1, h1⟩, h2⟩ := h
  exact ⟨e, t1, σ1, ⟨n1, fun n hn => by simp only [evCode, hc, h1 n hn]⟩, h2⟩
theorem WC.cond {c : Operand} {a b : Code} {q : Bool} (hc : opv t c = .bool q) (ht : q = true → WC P S nt a t σ Q) (hf : q = false → WC P S nt b t σ Q) : WC P S nt (.cond c a b) t σ Q := by
  cases q with
  | true => exact .condT hc (ht rfl)
  | false => exact .condF hc (hf rfl)
theorem WC.block {id : Nat} {c : Code} (h : WC P S nt c t σ (Block id Q)) : WC P S nt (.block id c) t σ Q := by
  obtain ⟨e, t1, σ1, ⟨n1, h1⟩, h2⟩ := h
  cases e with
  | normal => exact ⟨.normal, t1, σ1, ⟨n1, fun n hn => by simp only [evCode, h1 n hn, blockEnd]⟩, h2⟩
  | ret => exact ⟨.ret, t1, σ1, ⟨n1, fun n hn => by simp only [evCode, h1 n hn, blockEnd]⟩, h2⟩
  | exit j =>
    by_cases hj : j = id
    · exact ⟨.normal, t1, σ1, ⟨n1, fun n hn => by simp only [evCode, h1 n hn, blockEnd, if_pos hj]⟩, by simpa [Block, hj] using h2⟩
    · exact ⟨.exit j, t1, σ1, ⟨n1, fun n hn => by simp only [evCode, h1 n hn, blockEnd, if_neg hj]⟩, by simpa [Block, hj] using h2⟩
/-- A loop: what holds at each round's head, and a measure that each round lowers. -/
theorem WC.loop {c : Code} (I : Nat → Tmps → AH → Prop) (m : Nat) (h0 : I m t σ) (round : ∀ m t σ, I m t σ → WC P S nt c t σ (Then (fun t σ => ∃ m', m' < m ∧ I m' t σ) Q)) : WC P S nt (.loop c) t σ Q := by
  have key : ∀ m t σ, I m t σ → ∃ e t' σ', (∃ n0 k0, ∀ n, n0 ≤ n → ∀ k, k0 ≤ k → iter (fun t σ => evCode P (evCall P S n) nt n c t σ) k t σ = some (e, t', σ')) ∧ Q e t' σ' := by
    intro m
    induction m using Nat.strongRecOn with
    | _ m ih =>
      intro t σ hI
      obtain ⟨e, t1, σ1, ⟨n1, h1⟩, h2⟩ := round m t σ hI
      cases e with
      | normal =>
        obtain ⟨m', hm, hI'⟩ := h2
        obtain ⟨e, t2, σ2, ⟨n2, k2, h3⟩, h4⟩ := ih m' hm t1 σ1 hI'
        refine ⟨e, t2, σ2, ⟨max n1 n2, k2 + 1, fun n hn k hk => ?_⟩, h4⟩
        obtain ⟨k, rfl⟩ : ∃ j, k = j + 1 := ⟨k - 1, by omega⟩
        simp only [iter, h1 n (by omega), thenDo]
        exact h3 n (by omega) k (by omega)
      | exit id =>
        refine ⟨_, t1, σ1, ⟨n1, 1, fun n hn k hk => ?_⟩, h2⟩
        obtain ⟨k, rfl⟩ : ∃ j, k = j + 1 := ⟨k - 1, by omega⟩
        simp only [iter, h1 n hn, thenDo]
      | ret =>
        refine ⟨_, t1, σ1, ⟨n1, 1, fun n hn k hk => ?_⟩, h2⟩
        obtain ⟨k, rfl⟩ : ∃ j, k = j + 1 := ⟨k - 1, by omega⟩
        simp only [iter, h1 n hn, thenDo]
  obtain ⟨e, t', σ', ⟨n0, k0, h1⟩, h2⟩ := key m t σ h0
  exact ⟨e, t', σ', ⟨max n0 k0, fun n hn => by simp only [evCode]; exact h1 n (by omega) n (by omega)⟩, h2⟩
theorem WC.region {id : Nat} {ops : Array Oper} (h : WO P S nt ops ops.toList t σ fun t σ => Q .normal t σ) : WC P S nt (.region id ops false) t σ Q := by
  obtain ⟨t1, σ1, ⟨n1, h1⟩, h2⟩ := h
  exact ⟨.normal, t1, σ1, ⟨n1, fun n hn => by simp only [evCode, h1 n hn]; rfl⟩, h2⟩
theorem WC.draw {id : Nat} {ops : Array Oper} {fr : List Bool} (hd : drawOk ops (befores ops.toList []) = true) (hfr : frees ops (befores ops.toList []) = fr) (h : WD P S nt ops ops.toList fr t σ fun t σ => Q .normal t σ) : WC P S nt (.region id ops true) t σ Q := by
  obtain ⟨t1, σ1, ⟨n1, h1⟩, h2⟩ := h
  exact ⟨.normal, t1, σ1, ⟨n1, fun n hn => by simp only [evCode, hd, hfr, h1 n hn]; rfl⟩, h2⟩
end

section
variable {P : Program} {S : Caller} {nt : Nat} {ops : Array Oper} {l : List Oper} {o : Oper} {t t1 : Tmps} {σ σ1 : AH} {v : Value} {Q : Tmps → AH → Prop}
theorem WO.nil (h : Q t σ) : WO P S nt ops [] t σ Q := ⟨t, σ, ⟨0, fun _ _ => rfl⟩, h⟩
/-- An operation that is no call. -/
theorem WO.op (hw : wantA ops o t = some true) (ho : aOp P (opv t) o.op σ = some (v, σ1)) (hp : putA nt t o.dst v = some t1) (h : WO P S nt ops l t1 σ1 Q) : WO P S nt ops (o :: l) t σ Q := by
  obtain ⟨t2, σ2, ⟨n1, h1⟩, h2⟩ := h
  exact ⟨t2, σ2, ⟨n1, fun n hn => by simp only [evOps, hw, aOp_ev ho, Option.bind_some, hp, h1 n hn]⟩, h2⟩
theorem WO.skip (hw : wantA ops o t = some false) (hp : putA nt t o.dst undef = some t1) (h : WO P S nt ops l t1 σ Q) : WO P S nt ops (o :: l) t σ Q := by
  obtain ⟨t2, σ2, ⟨n1, h1⟩, h2⟩ := h
  exact ⟨t2, σ2, ⟨n1, fun n hn => by simp only [evOps, hw, Option.bind_some, hp, h1 n hn]⟩, h2⟩
/-- A call, by its contract. -/
theorem WO.call {f : Operand} {as : Array Operand} {ts : Array TypeId} {g : FuncId} {vs : List Value} (hw : wantA ops o t = some true) (ho : o.op = .call { callee := .value f, args := as, argTypes := ts })
    (hc : callee (opv t f) (as.toList.map (opv t)) = some (g, vs)) (h : Ret P S g vs σ fun v σ1 => ∃ t1, putA nt t o.dst v = some t1 ∧ WO P S nt ops l t1 σ1 Q) : WO P S nt ops (o :: l) t σ Q := by
  obtain ⟨v, σ1, ⟨n1, h1⟩, t1, hp, t2, σ2, ⟨n2, h2⟩, h3⟩ := h
  exact ⟨t2, σ2, ⟨max n1 n2, fun n hn => by simp only [evOps, hw, ho, evOp, hc, Option.bind_some, h1 n (by omega), hp, h2 n (by omega)]⟩, h3⟩

variable {fr : List Bool} {b : Bool}
theorem WD.nil (h : Q t σ) : WD P S nt ops [] fr t σ Q := ⟨t, σ, ⟨0, fun _ _ => rfl⟩, h⟩
theorem AH.withBase_self {σ : AH} {n : Nat} (h : σ.base = n) : σ.withBase n = σ := by cases σ; simp only [AH.withBase] at *; rw [h]
theorem WD.op (hw : wantA ops o t = some true) (ho : aOp P (opv t) o.op (if b || pureOp o.op then σ else σ.withBase σ.size) = some (v, σ1)) (hp : putA nt t o.dst v = some t1) (h : WD P S nt ops l fr t1 (σ1.withBase σ.base) Q) : WD P S nt ops (o :: l) (b :: fr) t σ Q := by
  obtain ⟨t2, σ2, ⟨n1, h1⟩, h2⟩ := h
  exact ⟨t2, σ2, ⟨n1, fun n hn => by
    have ho' := aOp_ev ho (evCall P S n)
    unfold evDraw
    rw [hw]
    show Option.bind (evOp P (evCall P S n) (opv t) o.op (if b || pureOp o.op then σ else σ.withBase σ.size)) (fun vσ => (putA nt t o.dst vσ.1).bind fun t' => evDraw P (evCall P S n) nt ops l fr t' (vσ.2.withBase σ.base)) = _
    rw [ho']
    simp only [Option.bind_some, hp, h1 n hn]⟩, h2⟩
theorem WD.skip (hw : wantA ops o t = some false) (hp : putA nt t o.dst undef = some t1) (h : WD P S nt ops l fr t1 σ Q) : WD P S nt ops (o :: l) (b :: fr) t σ Q := by
  obtain ⟨t2, σ2, ⟨n1, h1⟩, h2⟩ := h
  exact ⟨t2, σ2, ⟨n1, fun n hn => by simp only [evDraw, hw, List.tail_cons, Option.bind_some, hp, h1 n hn]⟩, h2⟩
theorem WD.call {f : Operand} {as : Array Operand} {ts : Array TypeId} {g : FuncId} {vs : List Value} (hw : wantA ops o t = some true) (ho : o.op = .call { callee := .value f, args := as, argTypes := ts })
    (hc : callee (opv t f) (as.toList.map (opv t)) = some (g, vs)) (h : Ret P S g vs (if b || pureOp o.op then σ else σ.withBase σ.size) fun v σ1 => ∃ t1, putA nt t o.dst v = some t1 ∧ WD P S nt ops l fr t1 (σ1.withBase σ.base) Q) : WD P S nt ops (o :: l) (b :: fr) t σ Q := by
  obtain ⟨v, σ1, ⟨n1, h1⟩, t1, hp, t2, σ2, ⟨n2, h2⟩, h3⟩ := h
  have hev : ∀ n σ0, evOp P (evCall P S n) (opv t) o.op σ0 = evCall P S n g vs σ0 := fun n σ0 => by rw [ho]; simp only [evOp, hc, Option.bind_some]
  refine ⟨t2, σ2, ⟨max n1 n2, fun n hn => ?_⟩, h3⟩
  unfold evDraw
  rw [hw]
  show Option.bind (evOp P (evCall P S n) (opv t) o.op (if b || pureOp o.op then σ else σ.withBase σ.size)) (fun vσ => (putA nt t o.dst vσ.1).bind fun t' => evDraw P (evCall P S n) nt ops l fr t' (vσ.2.withBase σ.base)) = _
  rw [hev, h1 n (by omega)]
  simp only [Option.bind_some, hp, h2 n (by omega)]
end

/-- A function is entered. -/
theorem Ret.enter {P : Program} {S : Caller} {f : FuncId} {fn : Func} {c : Code} {args : List Value} {σ : AH} {R : Value → AH → Prop} (hsum : S f args σ = none) (hf : P.funcs[f]? = some fn) (hb : fn.body = some c) (hn : args.length ≤ fn.ntmps)
    (h : WC P S fn.ntmps c (start args) σ fun e t σ' => (e = .normal ∨ e = .ret) ∧ ∃ vs, fn.results.toList.mapM (resultV P t σ') = some vs ∧ R (tupleOf vs) σ') : Ret P S f args σ R := by
  obtain ⟨e, t, σ', ⟨n1, h1⟩, he, vs, hvs, hR⟩ := h
  refine ⟨tupleOf vs, σ', ⟨n1 + 1, fun n hn' => ?_⟩, hR⟩
  obtain ⟨n, rfl⟩ : ∃ k, n = k + 1 := ⟨n - 1, by omega⟩
  have := h1 n (by omega)
  rcases he with rfl | rfl <;> simp only [evCall, hsum, hf, evBody, hb, if_pos hn, this, hvs, Option.map_some]
/-- The answer is the machine's. -/
theorem Ret.sum {P : Program} {S : Caller} {f : FuncId} {args : List Value} {σ σ' : AH} {v : Value} {R : Value → AH → Prop} (h : S f args σ = some (v, σ')) (hR : R v σ') : Ret P S f args σ R :=
  ⟨v, σ', ⟨1, fun n hn => by
    obtain ⟨n, rfl⟩ : ∃ k, n = k + 1 := ⟨n - 1, by omega⟩
    simp only [evCall, h]⟩, hR⟩
theorem Ret.calls {P : Program} {S : Caller} (hSg : CallerGrows S) (hSo : CallerOk P S) (hm : P.follows .mixedOrders = true) (hn : ∀ (f : FuncId) (fn : Func), P.funcs[f]? = some fn → (fn.name == "runtime.NumGoroutine") = false) {f : FuncId} {args args' : List Value} {σ : AH} {R : Value → AH → Prop}
    {φ : Ren} {w : World} (h : Ret P S f args σ R) (hS : StRel φ σ w) (ha : LRel φ args args') (hφ : ∀ b, σ.size ≤ b → φ b = none) :
    Calls P f args'.toArray w fun e w' => ∃ v σ' φ' v', R v σ' ∧ e = .returned v' ∧ StRel φ' σ' w' ∧ VRel φ' v v' ∧ Ext φ σ w φ' σ' w' := by
  obtain ⟨v, σ', ⟨n, h1⟩, hR⟩ := h
  exact ((evCall_ok hSg hSo hm hn n _ _ _ _ _ (h1 n (Nat.le_refl _))).2 φ w args' hS ha (fun b h2 _ => hφ b h2)).mono fun e w' ⟨φ', v', a, b, c, d⟩ => ⟨v, σ', φ', v', hR, a, b, c, d⟩

/-- What a run from an empty heap has told, by a scalar's answer, holds from any heap. -/
def oneSum (f0 : FuncId) (v0 : Value) : Caller := fun f args σ => if f = f0 ∧ args.length = 0 then some (v0, σ) else none
theorem oneSum_grows (f0 : FuncId) (v0 : Value) : CallerGrows (oneSum f0 v0) := by
  intro f args σ v σ' h
  unfold oneSum at h
  split at h
  · simp at h; obtain ⟨_, rfl⟩ := h; exact Grows.refl _
  · cases h
def Ren.none : Ren := ⟨fun _ => .none, fun _ => (0, 0)⟩
theorem oneSum_ok {P : Program} (hm : P.follows .mixedOrders = true) (hn : ∀ (f : FuncId) (fn : Func), P.funcs[f]? = some fn → (fn.name == "runtime.NumGoroutine") = false) {f0 : FuncId} {q : Bool} {n : Nat}
    (hrun : (evCall P noSum n f0 [] ⟨0, []⟩).map (·.1) = some (.bool q)) : CallerOk P (oneSum f0 (.bool q)) := by
  intro f args σ v σ' h
  unfold oneSum at h
  split at h
  case isFalse => cases h
  rename_i hf
  obtain ⟨rfl, hargs⟩ := hf
  obtain rfl := List.eq_nil_of_length_eq_zero hargs
  simp at h
  obtain ⟨rfl, rfl⟩ := h
  obtain ⟨⟨v1, σ1⟩, h1, h2⟩ := Option.map_eq_some_iff.1 hrun
  simp at h2
  subst h2
  have hS0 : CallerGrows noSum := fun _ _ _ _ _ h => by cases h
  have hS1 : CallerOk P noSum := fun _ _ _ _ _ h => by cases h
  obtain ⟨hfn, hk⟩ := evCall_ok hS0 hS1 hm hn n _ _ _ _ _ h1
  refine ⟨hfn, fun φ w args' hS ha hfree => ?_⟩
  have he : args' = [] := List.eq_nil_of_length_eq_zero (by have := ha.1; simpa using this.symm)
  subst he
  have hE0 : StRel Ren.none ⟨0, []⟩ w := ⟨fun b c d h => (by cases h), fun b c d o h => (by cases h), fun b b' c d d' o o' h => (by cases h)⟩
  refine (hk Ren.none w [] hE0 ⟨rfl, fun i x y h => by simp at h⟩ fun b _ _ => rfl).mono fun e w' hh => ?_
  obtain ⟨φ', v', rfl, hS', hv, hE⟩ := hh
  have hsame : ∀ c, c < w.heap.size → w'.heap[c]? = w.heap[c]? := fun c hc => hE.frameC c hc fun b d h => (by cases h)
  refine ⟨φ, v', rfl, ?_, ?_, ?_⟩
  · refine ⟨fun b c d h => Nat.lt_of_lt_of_le (hS.inr b c d h) hE.hsize, fun b c d o h ho => ?_, hS.inj⟩
    have hc := hS.inr b c d h
    have := hS.obj b c d o h ho
    cases o with
    | cells ro z cs => simpa only [ORel, hsame c hc] using this
    | map es k => simpa only [ORel, hsame c hc] using this
    | dead => exact this
  · cases hv; exact .prim rfl
  · exact ⟨hE.os, hE.tape, hE.output, hE.hsize, Ren.le.refl _, rfl, Nat.le_refl _, (fun b c d h1 h2 => by rw [h1] at h2; cases h2), (fun c hc _ => hsame c hc), (fun _ _ _ => rfl), (fun _ _ h => h), (fun b h1 h2 => absurd h2 (by omega))⟩
end Go.Ab
