/- Regions in the order of the text: soundness; what the interpreter never turns. -/
import Derived.Test.YtaclhflmgafobaaFzG
namespace Go.Ab
open Go
set_option linter.unusedSimpArgs false
set_option linter.unusedVariables false

/-- The heap grows; what is below the base stays. -/
structure Grows (σ σ' : AH) : Prop where
  size : σ.size ≤ σ'.size
  base : σ'.base = σ.base
  keep : ∀ b, b < σ.size → b < σ.base → σ'.get b = σ.get b
theorem Grows.refl (σ : AH) : Grows σ σ := ⟨Nat.le_refl _, rfl, fun _ _ _ => rfl⟩
theorem Grows.trans {a b c : AH} (h : Grows a b) (k : Grows b c) : Grows a c :=
  ⟨Nat.le_trans h.size k.size, k.base.trans h.base, fun j h1 h2 => (k.keep j (Nat.lt_of_lt_of_le h1 h.size) (by rw [h.base]; exact h2)).trans (h.keep j h1 h2)⟩
theorem Grows.push (σ : AH) (o : AObj) : Grows σ (σ.push o) := ⟨by rw [AH.size_push]; omega, rfl, fun b hb _ => by rw [AH.get_push, if_neg (by omega)]⟩
theorem Grows.put {σ : AH} {b : Nat} (o : AObj) (hb : σ.base ≤ b) : Grows σ (σ.put b o) := by
  refine ⟨by rw [AH.size_put]; omega, rfl, fun j h1 h2 => ?_⟩
  show (σ.bs.set b o)[j]? = σ.bs[j]?
  rw [List.getElem?_set, if_neg (by omega)]
def CallerGrows (call : Caller) : Prop := ∀ f args σ v σ', call f args σ = some (v, σ') → Grows σ σ'

theorem keep_same {σ σ' : AH} {v : Value} {x : Option Value} (h : keep σ x = some (v, σ')) : σ' = σ := by
  obtain ⟨u, _, h⟩ := Option.map_eq_some_iff.1 h; simp at h; exact h.2.symm
theorem quietly_some {σ' : AH} {v : Value} {x : Option AH} (h : quietly x = some (v, σ')) : x = some σ' := by
  obtain ⟨u, hu, h⟩ := Option.map_eq_some_iff.1 h; simp at h; rw [hu, h.2]
theorem setRow_grows {σ σ' : AH} {b o : Nat} {vs : List Value} (h : σ.setRow b o vs = some σ') : Grows σ σ' := by
  unfold AH.setRow at h
  split at h
  · split at h
    · rename_i hc; obtain rfl := Option.some.inj h; exact .put _ hc.1
    · cases h
  · cases h
theorem evOp_grows {P : Program} {call : Caller} (hC : CallerGrows call) {ρ : Operand → Value} {op : Op} {σ σ' : AH} {v : Value} (h : evOp P call ρ op σ = some (v, σ')) : Grows σ σ' := by
  unfold evOp at h
  split at h
  case h_1 => simp at h; obtain ⟨_, rfl⟩ := h; exact .refl _
  case h_2 => simp at h; obtain ⟨_, rfl⟩ := h; exact .refl _
  case h_3 => split at h
              · simp at h; obtain ⟨_, rfl⟩ := h; exact .refl _
              · cases h
  case h_4 =>
    obtain ⟨z, _, h⟩ := Option.bind_eq_some_iff.1 h
    split at h
    · cases h
    · simp [AH.alloc] at h; obtain ⟨_, rfl⟩ := h; exact .push _ _
  case h_5 =>
    split at h
    · cases h
    · simp [AH.alloc] at h; obtain ⟨_, rfl⟩ := h; exact .push _ _
  case h_7 =>
    unfold aBuildSlice at h
    repeat' split at h
    all_goals first | cases h; done | (simp at h; obtain ⟨_, rfl⟩ := h; exact .push _ _)
  case h_9 =>
    have h := quietly_some h
    unfold aStore at h
    repeat' split at h
    all_goals first | cases h; done | exact setRow_grows h
  case h_14 =>
    repeat' split at h
    all_goals first | cases h; done | (simp at h; obtain ⟨_, rfl⟩ := h; exact .refl _)
  case h_15 => simp at h; obtain ⟨_, rfl⟩ := h; exact .refl _
  case h_16 => simp at h; obtain ⟨_, rfl⟩ := h; exact .push _ _
  case h_17 =>
    unfold aMakeSlice at h
    repeat' split at h
    all_goals first | cases h; done | (simp at h; obtain ⟨_, rfl⟩ := h; exact .push _ _)
  case h_24 =>
    have h := quietly_some h
    unfold aMapUpdate at h
    split at h
    · split at h
      · rename_i hc
        split at h
        · obtain rfl := Option.some.inj h; exact .put _ hc.2.1
        · obtain rfl := Option.some.inj h; exact .put _ hc.2.1
        · cases h
      · cases h
    · cases h
  case h_25 =>
    have h := quietly_some h
    unfold aMapUpdate at h
    split at h
    · split at h
      · rename_i hc
        split at h
        · obtain rfl := Option.some.inj h; exact .put _ hc.2.1
        · obtain rfl := Option.some.inj h; exact .put _ hc.2.1
        · cases h
      · cases h
    · cases h
  case h_26 =>
    unfold aMapEntry at h
    split at h
    · split at h
      · rename_i hc
        split at h
        · split at h
          · simp at h; obtain ⟨_, rfl⟩ := h; exact .put _ hc.1
          · cases h
        · split at h
          · simp at h; obtain ⟨_, rfl⟩ := h; exact .put _ hc.1
          · cases h
        · cases h
      · cases h
    · cases h
  case h_27 =>
    have h := quietly_some h
    unfold aEntryStore at h
    split at h
    · split at h
      · rename_i hc
        split at h
        · split at h
          · obtain rfl := Option.some.inj h; exact .put _ hc.2
          · cases h
        · cases h
      · cases h
    · cases h
  case h_29 =>
    unfold aBuiltin at h
    split at h
    · rw [keep_same h]; exact .refl _
    · rw [keep_same h]; exact .refl _
    · rw [keep_same h]; exact .refl _
    · have old : ∀ {st xt : TypeId} {s x : Value}, aAppend0 P st xt s x σ = some (v, σ') → Grows σ σ' := fun {st xt s x} h => by
        unfold aAppend0 at h
        split at h
        case h_2 => cases h
        split at h
        · split at h
          · simp at h; obtain ⟨_, rfl⟩ := h; exact .refl _
          · cases h
        · split at h
          · cases h
          split at h
          · cases h
          split at h
          · cases h
          split at h
          · cases h
          split at h
          · simp at h; obtain ⟨_, rfl⟩ := h; exact .push _ _
          · split at h
            · obtain ⟨u, hu, h⟩ := Option.map_eq_some_iff.1 h; simp at h; obtain ⟨_, rfl⟩ := h; exact setRow_grows hu
            · split at h
              · split at h
                · rename_i hc; simp at h; obtain ⟨_, rfl⟩ := h; exact (Grows.put .dead hc.1).trans (.push _ _)
                · cases h
              · cases h
          · cases h
      unfold aAppend at h
      split at h
      · unfold aAppendE at h
        split at h
        · split at h
          · split at h
            · split at h
              · simp at h; obtain ⟨_, rfl⟩ := h; exact .refl _
              · cases h
            · cases h
          · exact old h
        · cases h
      · exact old h
    · unfold aCopy at h
      split at h
      case h_2 => cases h
      split at h
      · split at h
        · split at h
          · simp at h; obtain ⟨_, rfl⟩ := h; exact .refl _
          · split at h
            · simp at h; obtain ⟨_, rfl⟩ := h; exact .refl _
            · obtain ⟨u, hu, h⟩ := Option.map_eq_some_iff.1 h; simp at h; obtain ⟨_, rfl⟩ := h; exact setRow_grows hu
          · cases h
        · cases h
      · cases h
    · have h := quietly_some h
      unfold aDelete at h
      split at h
      · obtain rfl := Option.some.inj h; exact .refl _
      · split at h
        · rename_i hc
          split at h
          · obtain rfl := Option.some.inj h; exact .put _ hc
          · obtain rfl := Option.some.inj h; exact .put _ hc
          · cases h
        · cases h
      · cases h
    · have h := quietly_some h
      unfold aClear at h
      split at h
      · obtain rfl := Option.some.inj h; exact .refl _
      · split at h
        · rename_i hc; obtain rfl := Option.some.inj h; exact .put _ hc
        · cases h
      · cases h
    · cases h
  case h_30 =>
    obtain ⟨⟨g, vs⟩, _, hcall⟩ := Option.bind_eq_some_iff.1 h
    exact hC _ _ _ _ _ hcall
  case h_31 => cases h
  all_goals (rw [keep_same h]; exact .refl _)

/-- The interpreter's state, and the machine's. -/
structure At (φ : Ren) (t : Tmps) (σ : AH) (nt : Nat) (a : Act) (w : World) : Prop where
  st : StRel φ σ w
  tm : ∀ j, VRel φ (t j) (a.tmps.getD j undef)
  sz : a.tmps.size = nt
  df : a.defers = []
theorem want_ok {ops : Array Oper} {o : Oper} {t : Tmps} {φ : Ren} {tmps : Array Value} {b : Bool} (ht : ∀ j, VRel φ (t j) (tmps.getD j undef)) (h : wantA ops o t = some b) : Region.wanted o (yielded ops tmps) = b := by
  unfold wantA at h
  unfold Region.wanted
  split at h
  · rename_i hg; simp at h; subst h; simp [hg]
  · rename_i j want hg
    simp only [hg]
    unfold yielded
    split at h
    · cases h
    · rename_i d hd
      rw [hd]
      have hv := ht d
      split at h
      · rename_i bb htd
        simp at h; subst h
        rw [htd] at hv
        have e := hv.of_bool
        have hs : tmps[d]? = some (.bool bb) := by
          cases hq : tmps[d]? with
          | none => simp [hq, undef] at e
          | some u => simp [hq] at e; rw [e]
        simp only [Option.bind_some, hs]
        cases bb <;> cases want <;> rfl
      · rename_i vs htd
        split at h
        · rename_i hem
          simp at h; subst h
          have hvs : vs = #[] := by simpa using hem
          subst hvs
          rw [htd] at hv
          obtain ⟨vs', e, hl⟩ := hv.of_tuple (by simp)
          have hvs' : vs' = #[] := by have := hl.1; apply Array.eq_empty_of_size_eq_zero; simpa using this.symm
          subst hvs'
          cases hq : tmps[d]? with
          | none => simp [Option.bind_some, hq]
          | some u => simp [hq] at e; simp [hq, e]
        · cases h
      · cases h
theorem put_ok {φ : Ren} {nt : Nat} {t t' : Tmps} {a : Act} {dst : Option Tmp} {v v' : Value} (ht : ∀ j, VRel φ (t j) (a.tmps.getD j undef)) (hs : a.tmps.size = nt) (hv : VRel φ v v') (h : putA nt t dst v = some t') :
    (∀ j, VRel φ (t' j) ((a.put dst v').tmps.getD j undef)) ∧ (a.put dst v').tmps.size = nt ∧ (a.put dst v').defers = a.defers := by
  unfold putA at h
  split at h
  · simp at h; subst h; exact ⟨ht, hs, rfl⟩
  · rename_i d
    split at h
    · rename_i hd
      obtain rfl := Option.some.inj h
      refine ⟨fun j => ?_, by simp [Act.put, hs], rfl⟩
      by_cases hj : j = d
      · subst hj
        have : (a.put (some j) v').tmps.getD j undef = v' := by simp [Act.put, hs, hd]
        rw [this]; simpa [upd] using hv
      · have : (a.put (some d) v').tmps.getD j undef = a.tmps.getD j undef := by simp [Act.put, Array.getElem?_setIfInBounds_ne (fun e => hj e.symm)]
        rw [this]; simpa [upd, hj] using ht j
    · cases h
theorem At.mono_tm {φ φ' : Ren} (hle : φ.le φ') {t : Tmps} {a : Act} (h : ∀ j, VRel φ (t j) (a.tmps.getD j undef)) : ∀ j, VRel φ' (t j) (a.tmps.getD j undef) := fun j => (h j).mono hle

theorem evOps_grows {P : Program} {call : Caller} (hC : CallerGrows call) {nt : Nat} {ops : Array Oper} : ∀ (l : List Oper) (t : Tmps) (σ : AH) (t' : Tmps) (σ' : AH), evOps P call nt ops l t σ = some (t', σ') → Grows σ σ'
  | [], t, σ, t', σ', h => by simp [evOps] at h; obtain ⟨_, rfl⟩ := h; exact .refl _
  | o :: l, t, σ, t', σ', h => by
    unfold evOps at h
    split at h
    · obtain ⟨⟨v, σ1⟩, h1, h⟩ := Option.bind_eq_some_iff.1 h
      obtain ⟨t1, _, h⟩ := Option.bind_eq_some_iff.1 h
      exact (evOp_grows hC h1).trans (evOps_grows hC l t1 σ1 t' σ' h)
    · obtain ⟨t1, _, h⟩ := Option.bind_eq_some_iff.1 h
      exact evOps_grows hC l t1 σ t' σ' h
    · cases h

theorem evOps_wp {P : Program} {call : Caller} (hC : CallerOk P call) (hG : CallerGrows call) {nt : Nat} {ops : Array Oper} {Q : Exit → Act → World → Prop} :
    ∀ (l : List Oper) (k : Nat), ops.toList.drop k = l → ∀ (t : Tmps) (σ : AH) (t' : Tmps) (σ' : AH) (φ : Ren) (a : Act) (w : World), At φ t σ nt a w → (∀ b, σ.size ≤ b → b < σ'.size → φ b = none) →
      evOps P call nt ops l t σ = some (t', σ') → (∀ φ' a' w', At φ' t' σ' nt a' w' → Ext φ σ w φ' σ' w' → Q .normal a' w') → wpOps P ops Q (List.range' k l.length) a w
  | [], k, hl, t, σ, t', σ', φ, a, w, hA, hf, h, hQ => by
    simp [evOps] at h; obtain ⟨rfl, rfl⟩ := h
    exact hQ φ a w hA (.refl _ _ _)
  | o :: l, k, hl, t, σ, t', σ', φ, a, w, hA, hf, h, hQ => by
    have ho : ops[k]? = some o := by
      have : (ops.toList.drop k)[0]? = some o := by rw [hl]; rfl
      rw [List.getElem?_drop] at this; simpa using this
    have hl' : ops.toList.drop (k + 1) = l := by rw [← List.drop_drop, hl]; rfl
    simp only [List.length_cons, List.range'_succ, wpOps, ho]
    unfold evOps at h
    split at h
    · rename_i hw
      rw [want_ok hA.tm hw, if_pos rfl]
      obtain ⟨⟨v, σ1⟩, h1, h⟩ := Option.bind_eq_some_iff.1 h
      obtain ⟨t1, h2, h⟩ := Option.bind_eq_some_iff.1 h
      have hg1 := evOp_grows hG h1
      have hg2 := evOps_grows hG l t1 σ1 t' σ' h
      refine .inl (evOp_wp hC hA.st (fun x => opv_rel hA.tm x) (fun b h3 h4 => hf b h3 (Nat.lt_of_lt_of_le h4 hg2.size)) h1 fun φ1 v' w1 hS1 hv1 hE1 => ?_)
      obtain ⟨p1, p2, p3⟩ := put_ok (At.mono_tm hE1.le hA.tm) hA.sz hv1 h2
      refine evOps_wp hC hG l (k + 1) hl' t1 σ1 t' σ' φ1 _ w1 ⟨hS1, p1, p2, by rw [p3]; exact hA.df⟩ (fun b h3 h4 => ?_) h fun φ' a' w' hA' hE' => hQ φ' a' w' hA' (hE1.trans hE')
      cases hq : φ1 b with
      | none => rfl
      | some p =>
        have h0 := hf b (Nat.le_trans hg1.size h3) h4
        have := (hE1.fresh b p.1 p.2 h0 hq).2.1
        omega
    · rename_i hw
      rw [want_ok hA.tm hw, if_neg (by simp)]
      obtain ⟨t1, h2, h⟩ := Option.bind_eq_some_iff.1 h
      obtain ⟨p1, p2, p3⟩ := put_ok hA.tm hA.sz (VRel.undef φ) h2
      exact evOps_wp hC hG l (k + 1) hl' t1 σ t' σ' φ _ w ⟨hA.st, p1, p2, by rw [p3]; exact hA.df⟩ hf h hQ
    · cases h
end Go.Ab
