/- A logic of programs over the interpreter's heaps: each judgement speaks of all machines that stand in the relation; blocks may be numbered anew, and what will not be written again may be told as values. -/
import Derived.Test.YtaclhflmgafobaaFzK
namespace Go.Ab
open Go
set_option linter.unusedSimpArgs false
set_option linter.unusedVariables false

/-- Nothing stands beyond the heap's end. -/
def Ends (φ : Ren) (σ : AH) : Prop := ∀ b, σ.size ≤ b → φ b = none
/-- What a run may have turned: what the heap has that may be written, and nothing else that was there; the first n0 blocks stand where they stood. -/
structure Fr (n0 : Nat) (φ : Ren) (σ : AH) (w : World) (φ' : Ren) (σ' : AH) (w' : World) : Prop where
  os : w'.os = w.os
  tape : w'.tape = w.tape
  output : w'.output = w.output
  drawn : w.drawn ≤ w'.drawn
  hsize : w.heap.size ≤ w'.heap.size
  still : ∀ c i u, φ.still c i = some u → φ'.still c i = some u
  stills : ∀ c i u, φ'.still c i = some u → φ.still c i = some u ∨ w.heap.size ≤ c ∨ ∃ b0 d0, φ b0 = some (c, d0) ∧ σ.wr b0
  frameC : ∀ c, c < w.heap.size → (∀ b d, φ b = some (c, d) → ¬ σ.wr b) → w'.heap[c]? = w.heap[c]?
  own : ∀ b c d, φ' b = some (c, d) → σ'.wr b → w.heap.size ≤ c ∨ ∃ b0 d0, φ b0 = some (c, d0) ∧ σ.wr b0
  kept : ∀ b, b < n0 → φ' b = φ b ∧ ∀ c d, φ b = some (c, d) → φ'.lim c = φ.lim c
theorem Fr.refl (n0 : Nat) (φ : Ren) (σ : AH) (w : World) : Fr n0 φ σ w φ σ w :=
  ⟨rfl, rfl, rfl, Nat.le_refl _, Nat.le_refl _, fun _ _ _ h => h, fun _ _ _ h => .inl h, fun _ _ _ => rfl, fun b c d h h' => .inr ⟨b, d, h, h'⟩, fun b _ => ⟨rfl, fun _ _ _ => rfl⟩⟩
theorem Fr.trans {n0 : Nat} {φ φ1 φ2 : Ren} {σ σ1 σ2 : AH} {w w1 w2 : World} (h : Fr n0 φ σ w φ1 σ1 w1) (k : Fr n0 φ1 σ1 w1 φ2 σ2 w2) : Fr n0 φ σ w φ2 σ2 w2 where
  os := k.os.trans h.os
  tape := k.tape.trans h.tape
  output := k.output.trans h.output
  drawn := Nat.le_trans h.drawn k.drawn
  hsize := Nat.le_trans h.hsize k.hsize
  still := fun c i u e => k.still c i u (h.still c i u e)
  stills := fun c i u e => by
    rcases k.stills c i u e with e | e | ⟨b0, d0, e, hw⟩
    · exact h.stills c i u e
    · exact .inr (.inl (Nat.le_trans h.hsize e))
    · exact .inr (h.own b0 c d0 e hw)
  frameC := fun c hc hn => by
    rw [k.frameC c (Nat.lt_of_lt_of_le hc h.hsize) ?_, h.frameC c hc hn]
    intro b d e hw
    rcases h.own b c d e hw with e' | ⟨b0, d0, e', hw'⟩
    · omega
    · exact hn b0 d0 e' hw'
  own := fun b c d e hw => by
    rcases k.own b c d e hw with e | ⟨b0, d0, e, hw⟩
    · exact .inl (Nat.le_trans h.hsize e)
    · exact h.own b0 c d0 e hw
  kept := fun b hb => ⟨(k.kept b hb).1.trans (h.kept b hb).1, fun c d e => by
    have e1 : φ1 b = some (c, d) := by rw [(h.kept b hb).1]; exact e
    exact ((k.kept b hb).2 c d e1).trans ((h.kept b hb).2 c d e)⟩
theorem Fr.le {n n0 : Nat} (hn : n ≤ n0) {φ φ' : Ren} {σ σ' : AH} {w w' : World} (h : Fr n0 φ σ w φ' σ' w') : Fr n φ σ w φ' σ' w' :=
  ⟨h.os, h.tape, h.output, h.drawn, h.hsize, h.still, h.stills, h.frameC, h.own, fun b hb => h.kept b (Nat.lt_of_lt_of_le hb hn)⟩
theorem Ext.ends {φ φ' : Ren} {σ σ' : AH} {w w' : World} (h : Ext φ σ w φ' σ' w') (he : Ends φ σ) : Ends φ' σ' := fun b hb => by
  cases hq : φ' b with
  | none => rfl
  | some p =>
    have h0 := he b (Nat.le_trans h.asize hb)
    have := (h.fresh b p.1 p.2 h0 hq).2.1
    omega
theorem Ext.fr {φ φ' : Ren} {σ σ' : AH} {w w' : World} (h : Ext φ σ w φ' σ' w') (he : Ends φ σ) {n0 : Nat} (hn : n0 ≤ σ.size) : Fr n0 φ σ w φ' σ' w' where
  os := h.os
  tape := h.tape
  output := h.output
  drawn := h.drawn
  hsize := h.hsize
  still := h.le.2
  stills := h.stills
  frameC := h.frameC
  own := fun b c d e hw => by
    cases hq : φ b with
    | none => exact (h.fresh b c d hq e).2.2
    | some p =>
      have e1 := (h.le.1 _ _ hq).1
      rw [e] at e1
      obtain rfl := Option.some.inj e1
      by_cases hlt : b < σ.size
      · exact .inr ⟨b, d, hq, h.stay b hlt hw⟩
      · rw [he b (by omega)] at hq; cases hq
  kept := fun b hb => by
    cases hq : φ b with
    | none =>
      refine ⟨?_, fun c d e => by cases e⟩
      cases hq' : φ' b with
      | none => rfl
      | some p => have := (h.fresh b p.1 p.2 hq hq').1; omega
    | some p =>
      have e1 := h.le.1 _ _ hq
      exact ⟨e1.1, fun c d e => by cases e; exact e1.2⟩

/-! ### judgements -/
/-- Code from a state: it ends, and Q holds there. The first n0 blocks stay where they are. -/
def MC (P : Program) (nt n0 : Nat) (c : Code) (t : Tmps) (σ : AH) (Q : AExit → Tmps → AH → Prop) : Prop :=
  ∀ (φ : Ren) (a : Act) (w : World) (R : Exit → Act → World → Prop), At φ t σ nt a w → Ends φ σ →
    (∀ e t' σ' φ' a' w', Q e t' σ' → At φ' t' σ' nt a' w' → Ends φ' σ' → Fr n0 φ σ w φ' σ' w' → R (exitOf e) a' w') → c.wp P R a w
/-- A region's operations, in the order of the text. -/
def MO (P : Program) (nt n0 : Nat) (ops : Array Oper) (l : List Oper) (t : Tmps) (σ : AH) (Q : Tmps → AH → Prop) : Prop :=
  ∀ (k : Nat), ops.toList.drop k = l → ∀ (φ : Ren) (a : Act) (w : World) (R : Exit → Act → World → Prop), At φ t σ nt a w → Ends φ σ →
    (∀ t' σ' φ' a' w', Q t' σ' → At φ' t' σ' nt a' w' → Ends φ' σ' → Fr n0 φ σ w φ' σ' w' → R .normal a' w') → wpOps P ops R (List.range' k l.length) a w
/-- A call. All blocks that were there stay where they are. -/
def Fn (P : Program) (f : FuncId) (args : List Value) (σ : AH) (R : Value → AH → Prop) : Prop :=
  (∃ fn, P.funcs[f]? = some fn ∧ fn.body.isNone = false ∧ (fn.name == "runtime.NumGoroutine") = false) ∧
  ∀ (φ : Ren) (w : World) (args' : List Value), StRel φ σ w → LRel φ args args' → Ends φ σ →
    Calls P f args'.toArray w fun e w' => ∃ v σ' φ' v', R v σ' ∧ e = .returned v' ∧ StRel φ' σ' w' ∧ Ends φ' σ' ∧ VRel φ' v v' ∧ Fr σ.size φ σ w φ' σ' w'

/-- Behind code: on, where it has come to its end; else out. -/
def Then (k : Tmps → AH → Prop) (Q : AExit → Tmps → AH → Prop) : AExit → Tmps → AH → Prop
  | .normal, t, σ => k t σ
  | e, t, σ => Q e t σ
def Block (id : Nat) (Q : AExit → Tmps → AH → Prop) : AExit → Tmps → AH → Prop
  | .exit j, t, σ => if j = id then Q .normal t σ else Q (.exit j) t σ
  | e, t, σ => Q e t σ
section
variable {P : Program} {nt n0 : Nat} {t : Tmps} {σ : AH} {Q : AExit → Tmps → AH → Prop}
theorem Fn.mono {f : FuncId} {args : List Value} {R R' : Value → AH → Prop} (h : Fn P f args σ R) (hr : ∀ v σ', R v σ' → R' v σ') : Fn P f args σ R' :=
  ⟨h.1, fun φ w args' h1 h2 h3 => (h.2 φ w args' h1 h2 h3).mono fun e w' ⟨v, σ', φ', v', h4, h5⟩ => ⟨v, σ', φ', v', hr _ _ h4, h5⟩⟩
theorem MC.mono {c : Code} {Q' : AExit → Tmps → AH → Prop} (h : MC P nt n0 c t σ Q) (hq : ∀ e t σ, Q e t σ → Q' e t σ) : MC P nt n0 c t σ Q' :=
  fun φ a w R hA hE hR => h φ a w R hA hE fun e t' σ' φ' a' w' h1 => hR e t' σ' φ' a' w' (hq _ _ _ h1)
theorem MC.skip (h : Q .normal t σ) : MC P nt n0 .skip t σ Q := fun φ a w R hA hE hR => wp_skip (hR _ _ _ _ _ _ h hA hE (.refl _ _ _ _))
theorem MC.label {l : Nat} (h : Q .normal t σ) : MC P nt n0 (.label l) t σ Q := fun φ a w R hA hE hR => wp_label (hR _ _ _ _ _ _ h hA hE (.refl _ _ _ _))
theorem MC.exit {id : Nat} (h : Q (.exit id) t σ) : MC P nt n0 (.exit id) t σ Q := fun φ a w R hA hE hR => wp_exit (hR _ _ _ _ _ _ h hA hE (.refl _ _ _ _))
theorem MC.ret (h : Q .ret t σ) : MC P nt n0 .ret t σ Q := fun φ a w R hA hE hR => wp_ret (hR _ _ _ _ _ _ h hA hE (.refl _ _ _ _))
theorem MC.seq {x y : Code} (h : MC P nt n0 x t σ (Then (fun t σ => MC P nt n0 y t σ Q) Q)) : MC P nt n0 (.seq x y) t σ Q := fun φ a w R hA hE hR => by
  refine wp_seq (h φ a w _ hA hE fun e t1 σ1 φ1 a1 w1 hq hA1 hE1 hF1 => ?_)
  cases e with
  | normal => exact hq φ1 a1 w1 R hA1 hE1 fun e t' σ' φ' a' w' h1 h2 h3 h4 => hR e t' σ' φ' a' w' h1 h2 h3 (hF1.trans h4)
  | exit id => exact hR _ _ _ _ _ _ hq hA1 hE1 hF1
  | ret => exact hR _ _ _ _ _ _ hq hA1 hE1 hF1
theorem MC.condT {c : Operand} {x y : Code} (hc : opv t c = .bool true) (h : MC P nt n0 x t σ Q) : MC P nt n0 (.cond c x y) t σ Q := fun φ a w R hA hE hR => by
  have := opv_rel hA.tm c; rw [hc] at this
  exact wp_cond_true this.of_bool (h φ a w R hA hE hR)
theorem MC.condF {c : Operand} {x y : Code} (hc : opv t c = .bool false) (h : MC P nt n0 y t σ Q) : MC P nt n0 (.cond c x y) t σ Q := fun φ a w R hA hE hR => by
  have := opv_rel hA.tm c; rw [hc] at this
  exact wp_cond_false this.of_bool (h φ a w R hA hE hR)
theorem MC.cond {c : Operand} {x y : Code} {q : Bool} (hc : opv t c = .bool q) (ht : q = true → MC P nt n0 x t σ Q) (hf : q = false → MC P nt n0 y t σ Q) : MC P nt n0 (.cond c x y) t σ Q := by
  cases q with
  | true => exact .condT hc (ht rfl)
  | false => exact .condF hc (hf rfl)
theorem MC.block {id : Nat} {c : Code} (h : MC P nt n0 c t σ (Block id Q)) : MC P nt n0 (.block id c) t σ Q := fun φ a w R hA hE hR => by
  refine wp_block (h φ a w _ hA hE fun e t1 σ1 φ1 a1 w1 hq hA1 hE1 hF1 => ?_)
  cases e with
  | normal => exact hR _ _ _ _ _ _ hq hA1 hE1 hF1
  | ret => exact hR _ _ _ _ _ _ hq hA1 hE1 hF1
  | exit j =>
    simp only [Block] at hq
    by_cases hj : j = id
    · rw [if_pos hj] at hq; simp only [exitOf, Exit.inBlock, hj, if_true]; exact hR .normal _ _ _ _ _ hq hA1 hE1 hF1
    · rw [if_neg hj] at hq; simp only [exitOf, Exit.inBlock, hj, if_false]; exact hR (.exit j) _ _ _ _ _ hq hA1 hE1 hF1
/-- A loop: what holds at each round's head, and a measure that each round lowers. -/
theorem MC.loop {c : Code} (I : Nat → Tmps → AH → Prop) (m : Nat) (h0 : I m t σ) (round : ∀ m t σ, I m t σ → MC P nt n0 c t σ (Then (fun t σ => ∃ m', m' < m ∧ I m' t σ) Q)) : MC P nt n0 (.loop c) t σ Q := fun φ a w R hA hE hR => by
  refine wp_loop_rounds (m + 1) ?_
  have key : ∀ (n m : Nat) (t : Tmps) (σ : AH) (φ : Ren) (a : Act) (w : World), m < n → I m t σ → At φ t σ nt a w → Ends φ σ →
      (∀ e t' σ' φ' a' w', Q e t' σ' → At φ' t' σ' nt a' w' → Ends φ' σ' → Fr n0 φ σ w φ' σ' w' → R (exitOf e) a' w') → Code.rounds P c R n a w := by
    intro n
    induction n with
    | zero => intro m t σ φ a w h; omega
    | succ n ih =>
      intro m t σ φ a w hm hI hA hE hR
      rw [rounds_succ]
      refine round m t σ hI φ a w _ hA hE fun e t1 σ1 φ1 a1 w1 hq hA1 hE1 hF1 => ?_
      cases e with
      | normal =>
        obtain ⟨m', hm', hI'⟩ := hq
        exact ih m' t1 σ1 φ1 a1 w1 (by omega) hI' hA1 hE1 fun e t' σ' φ' a' w' h1 h2 h3 h4 => hR e t' σ' φ' a' w' h1 h2 h3 (hF1.trans h4)
      | exit id => exact hR _ _ _ _ _ _ hq hA1 hE1 hF1
      | ret => exact hR _ _ _ _ _ _ hq hA1 hE1 hF1
  exact key (m + 1) m t σ φ a w (by omega) h0 hA hE hR
theorem MC.region {id : Nat} {ops : Array Oper} (h : MO P nt n0 ops ops.toList t σ fun t σ => Q .normal t σ) : MC P nt n0 (.region id ops false) t σ Q := fun φ a w R hA hE hR => by
  refine wp_region ?_
  have := h 0 (by simp) φ a w R hA hE fun t' σ' φ' a' w' h1 h2 h3 h4 => hR .normal t' σ' φ' a' w' h1 h2 h3 h4
  rwa [Array.length_toList, ← List.range_eq_range'] at this
/-- A region whose order is open, its calls by a caller that is known to be right. -/
theorem MC.draw {S : Caller} (hC : CallerOk P S) (hG : CallerGrows S) (hm : P.follows .mixedOrders = true) {id : Nat} {ops : Array Oper} {fr : List Bool} {t' : Tmps} {σ' : AH} (hn : n0 ≤ σ.size) (hd : drawOk ops (befores ops.toList []) = true) (hfr : frees ops (befores ops.toList []) = fr)
    (h : evDraw P S nt ops ops.toList fr t σ = some (t', σ')) (hQ : Q .normal t' σ') : MC P nt n0 (.region id ops true) t σ Q := fun φ a w R hA hE hR => by
  subst hfr
  exact evDraw_wp hC hG hm hA (fun b h1 _ => hE b h1) hd h fun φ' a' w' hA' hX => hR .normal t' σ' φ' a' w' hQ hA' (hX.ends hE) (hX.fr hE hn)
end

section
variable {P : Program} {nt n0 : Nat} {ops : Array Oper} {l : List Oper} {o : Oper} {t t1 : Tmps} {σ σ1 : AH} {v : Value} {Q : Tmps → AH → Prop}
theorem MO.mono {Q' : Tmps → AH → Prop} (h : MO P nt n0 ops l t σ Q) (hq : ∀ t σ, Q t σ → Q' t σ) : MO P nt n0 ops l t σ Q' :=
  fun k hk φ a w R hA hE hR => h k hk φ a w R hA hE fun t' σ' φ' a' w' h1 => hR t' σ' φ' a' w' (hq _ _ h1)
theorem MO.nil (h : Q t σ) : MO P nt n0 ops [] t σ Q := fun k hk φ a w R hA hE hR => hR _ _ _ _ _ h hA hE (.refl _ _ _ _)
def noCall : Caller := fun _ _ _ => none
theorem noCall_ok (P : Program) : CallerOk P noCall := fun _ _ _ _ _ h => by cases h
theorem noCall_grows : CallerGrows noCall := fun _ _ _ _ _ h => by cases h
/-- An operation that is no call of a function. -/
def aOp (P : Program) (ρ : Operand → Value) (op : Op) (σ : AH) : Res := evOp P noCall ρ op σ
theorem aOp_ev {ρ : Operand → Value} {op : Op} {r : Value × AH} (h : aOp P ρ op σ = some r) (call : Caller) : evOp P call ρ op σ = some r := by
  unfold aOp at h
  cases op with
  | call c =>
    obtain ⟨cal, as, ts⟩ := c
    cases cal with
    | value f =>
      simp only [evOp] at h
      obtain ⟨_, _, h⟩ := Option.bind_eq_some_iff.1 h
      cases h
    | _ => exact h
  | makeMap t r => cases r <;> exact h
  | makeFunc fn a c => cases fn <;> exact h
  | _ => exact h
theorem drop_split {k : Nat} (h : ops.toList.drop k = o :: l) : ops[k]? = some o ∧ ops.toList.drop (k + 1) = l := by
  refine ⟨?_, by rw [← List.drop_drop, h]; rfl⟩
  have : (ops.toList.drop k)[0]? = some o := by rw [h]; rfl
  rw [List.getElem?_drop] at this; simpa using this
theorem MO.op (hn : n0 ≤ σ.size) (hw : wantA ops o t = some true) (ho : aOp P (opv t) o.op σ = some (v, σ1)) (hp : putA nt t o.dst v = some t1) (h : MO P nt n0 ops l t1 σ1 Q) : MO P nt n0 ops (o :: l) t σ Q := fun k hk φ a w R hA hE hR => by
  obtain ⟨hok, hk'⟩ := drop_split hk
  simp only [List.length_cons, List.range'_succ, wpOps, hok]
  rw [want_ok hA.tm hw, if_pos rfl]
  refine .inl (evOp_wp (noCall_ok P) hA.st (fun x => opv_rel hA.tm x) (fun b h1 _ => hE b h1) ho fun φ1 v' w1 hS1 hv1 hX => ?_)
  obtain ⟨p1, p2, p3⟩ := put_ok (At.mono_tm hX.le hA.tm) hA.sz hv1 hp
  exact h (k + 1) hk' φ1 _ w1 R ⟨hS1, p1, p2, by rw [p3]; exact hA.df⟩ (hX.ends hE) fun t' σ' φ' a' w' h1 h2 h3 h4 => hR t' σ' φ' a' w' h1 h2 h3 ((hX.fr hE hn).trans h4)
theorem MO.skip (hw : wantA ops o t = some false) (hp : putA nt t o.dst undef = some t1) (h : MO P nt n0 ops l t1 σ Q) : MO P nt n0 ops (o :: l) t σ Q := fun k hk φ a w R hA hE hR => by
  obtain ⟨hok, hk'⟩ := drop_split hk
  simp only [List.length_cons, List.range'_succ, wpOps, hok]
  rw [want_ok hA.tm hw, if_neg (by simp)]
  obtain ⟨p1, p2, p3⟩ := put_ok hA.tm hA.sz (VRel.undef φ) hp
  exact h (k + 1) hk' φ _ w R ⟨hA.st, p1, p2, by rw [p3]; exact hA.df⟩ hE hR
theorem le_of_kept {φ φ' : Ren} (hs : ∀ c i u, φ.still c i = some u → φ'.still c i = some u) (hk : ∀ b, b < σ.size → φ' b = φ b ∧ ∀ c d, φ b = some (c, d) → φ'.lim c = φ.lim c) (he : Ends φ σ) : φ.le φ' := by
  refine ⟨fun b p hb => ?_, hs⟩
  by_cases hlt : b < σ.size
  · exact ⟨by rw [(hk b hlt).1]; exact hb, (hk b hlt).2 p.1 p.2 hb⟩
  · rw [he b (by omega)] at hb; cases hb
/-- A call, by its contract. -/
theorem MO.call {f : Operand} {as : Array Operand} {ts : Array TypeId} {g : FuncId} {vs : List Value} (hn : n0 ≤ σ.size) (hw : wantA ops o t = some true) (ho : o.op = .call { callee := .value f, args := as, argTypes := ts })
    (hc : callee (opv t f) (as.toList.map (opv t)) = some (g, vs)) (h : Fn P g vs σ fun v σ1 => n0 ≤ σ1.size ∧ ∃ t1, putA nt t o.dst v = some t1 ∧ MO P nt n0 ops l t1 σ1 Q) : MO P nt n0 ops (o :: l) t σ Q := fun k hk φ a w R hA hE hR => by
  obtain ⟨hok, hk'⟩ := drop_split hk
  simp only [List.length_cons, List.range'_succ, wpOps, hok]
  rw [want_ok hA.tm hw, if_pos rfl]
  refine .inl ?_
  obtain ⟨⟨fn, hfn, hbody, hname⟩, hcalls⟩ := h
  have hff := opv_rel hA.tm f
  unfold callee at hc
  split at hc
  · rename_i g' first cap hfv
    simp at hc; obtain ⟨rfl, rfl⟩ := hc
    rw [hfv] at hff
    obtain ⟨first', cap', hfv', h1, h2⟩ := hff.of_func
    have hargs : LRel φ (as.toList.map (opv t)) (as.toList.map a.eval) := ⟨by simp, fun i v v' e e' => by
      simp only [List.getElem?_map, Option.map_eq_some_iff] at e e'
      obtain ⟨x, hx, rfl⟩ := e; obtain ⟨y, hy, rfl⟩ := e'
      rw [hx] at hy; obtain rfl := Option.some.inj hy; exact opv_rel hA.tm x⟩
    have hrun : (execOp a.eval o).run P w = .ok (.enter g' (first'.toList ++ as.toList.map a.eval ++ cap'.toList).toArray) w := by
      have e : (first'.toList ++ as.toList.map a.eval ++ cap'.toList).toArray = first' ++ as.map a.eval ++ cap' := by apply Array.ext'; simp
      rw [e]
      have hb2 : fn.body ≠ none := by intro e; simp [e] at hbody
      have hn2 : fn.name ≠ "runtime.NumGoroutine" := by simpa using hname
      have hfn' : P.funcs[g']? = some fn := hfn
      simp [execOp, ho, resolve, Deferred.ofValue, hfv', invoke, callFunc, hfn', hb2, hn2]
    unfold Oper.wp
    rw [hrun, Oper.upon_enter]
    refine (hcalls φ w _ hA.st (by simpa using (h1.append hargs).append h2) hE).mono ?_
    rintro e w' ⟨v, σ1, φ1, v', ⟨hn1, t1, hp, hm⟩, rfl, h3, h4, h5, h6⟩
    have hle := le_of_kept h6.still h6.kept hE
    obtain ⟨p1, p2, p3⟩ := put_ok (At.mono_tm hle hA.tm) hA.sz h5 hp
    exact hm (k + 1) hk' φ1 _ w' R ⟨h3, p1, p2, by rw [p3]; exact hA.df⟩ h4 fun t' σ' φ' a' w'' q1 q2 q3 q4 => hR t' σ' φ' a' w'' q1 q2 q3 ((h6.le hn).trans q4)
  · cases hc
end

/-- A function is entered. -/
theorem Fn.enter {P : Program} {f : FuncId} {fn : Func} {c : Code} {args : List Value} {σ : AH} {R : Value → AH → Prop} (hf : P.funcs[f]? = some fn) (hname : (fn.name == "runtime.NumGoroutine") = false) (hb : fn.body = some c) (hn : args.length ≤ fn.ntmps)
    (h : MC P fn.ntmps σ.size c (start args) σ fun e t σ' => (e = .normal ∨ e = .ret) ∧ ∃ vs, fn.results.toList.mapM (resultV P t σ') = some vs ∧ R (tupleOf vs) σ') : Fn P f args σ R := by
  refine ⟨⟨fn, hf, by rw [hb]; rfl, hname⟩, fun φ w args' hS hargs hE => calls_of_wp hf hb ?_⟩
  have hl' : args'.length ≤ fn.ntmps := by rw [← hargs.1]; exact hn
  refine h φ _ w _ ⟨hS, fun j => ?_, by simp; omega, rfl⟩ hE fun e t σ1 φ' a' w' ⟨he, vs, hvs, hR⟩ hA' hE' hF' => ?_
  · unfold start
    simp only [List.getD_eq_getElem?_getD]
    rcases hargs.get' j with ⟨e1, e2⟩ | ⟨x, y, e1, e2, r⟩
    · rw [e1]
      have : (args'.toArray ++ Array.replicate (fn.ntmps - args'.toArray.size) undef).getD j undef = undef := by
        simp only [Array.getD_eq_getD_getElem?]
        rw [List.getElem?_eq_none_iff] at e2
        rw [Array.getElem?_append_right (by simpa using e2), Array.getElem?_replicate]
        split <;> rfl
      rw [this]; exact .undef _
    · rw [e1]
      have hj := (List.getElem?_eq_some_iff.1 e2).1
      have : (args'.toArray ++ Array.replicate (fn.ntmps - args'.toArray.size) undef).getD j undef = y := by
        simp only [Array.getD_eq_getD_getElem?]
        rw [Array.getElem?_append_left (by simpa using hj)]
        simp [e2]
      rw [this]; exact r
  · obtain ⟨vs', h3, h4⟩ := results_list hA' _ _ hvs
    have hres : (results fn a'.tmps).run P w' = .ok (tupleOf vs') w' := by
      have e0 : results fn a'.tmps = (fn.results.mapM (resFn a'.tmps) >>= fun vs => pure (if h : vs.size = 1 then vs[0] else .tuple vs)) := rfl
      rw [e0, Array.mapM_eq_mapM_toList]
      simp only [Sem.run_bind, Sem.run_map, h3, Result.andThen_ok, Sem.run_pure]
      congr 1
      match vs' with
      | [] => rfl
      | [x] => rfl
      | x :: y :: r => simp [tupleOf]
    have hrel : VRel φ' (tupleOf vs) (tupleOf vs') := by
      match vs, vs', h4 with
      | [], [], _ => exact VRel.undef _
      | [x], [y], h4 => exact h4.2 0 x y rfl rfl
      | x :: x2 :: xs, y :: y2 :: ys, h4 => exact VRel.tuple_of h4
      | [], _ :: _, h4 => exact absurd h4.1 (by simp)
      | _ :: _, [], h4 => exact absurd h4.1 (by simp)
      | [_], _ :: _ :: _, h4 => exact absurd h4.1 (by simp)
      | _ :: _ :: _, [_], h4 => exact absurd h4.1 (by simp)
    rcases he with rfl | rfl <;> exact ⟨hA'.df, tupleOf vs', hres, tupleOf vs, σ1, φ', tupleOf vs', hR, rfl, hA'.st, hE', hrel, hF'⟩
end Go.Ab
