/- Regions whose order is open: whatever the order, what the interpreter answers in the order of the text is answered. -/
import Derived.Test.YtaclhflmgafobaaFzH
import Derived.Orders
namespace Go.Ab
open Go
set_option linter.unusedSimpArgs false
set_option linter.unusedVariables false

/-! ### what comes before what -/
theorem fold_bits {acc : List Nat} {j : Nat} : ∀ (l : List Edge) (s : Nat), (l.foldl (fun s e => if Region.binds .any e then s ||| 2 ^ e.on ||| acc.getD e.on 0 else s) s).testBit j = true →
    s.testBit j = true ∨ ∃ e ∈ l, Region.binds .any e = true ∧ (e.on = j ∨ (acc.getD e.on 0).testBit j = true)
  | [], s, h => .inl h
  | e :: l, s, h => by
    simp only [List.foldl_cons] at h
    rcases fold_bits l _ h with h | ⟨e', he', h⟩
    · split at h
      · rename_i hb
        simp only [Nat.testBit_or, Nat.testBit_two_pow, Bool.or_eq_true, decide_eq_true_eq] at h
        rcases h with (h | h) | h
        · exact .inl h
        · exact .inr ⟨e, by simp, hb, .inl h⟩
        · exact .inr ⟨e, by simp, hb, .inr h⟩
      · exact .inl h
    · exact .inr ⟨e', by simp [he'], h⟩
def BInv (ops : Array Oper) (acc : List Nat) : Prop := ∀ k j, (acc.getD k 0).testBit j = true → ∃ o, ops[k]? = some o ∧ ∃ e ∈ o.after.toList, Region.binds .any e = true ∧ (e.on = j ∨ (acc.getD e.on 0).testBit j = true)
theorem befores_inv {ops : Array Oper} : ∀ (l : List Oper) (acc : List Nat), ops.toList.drop acc.length = l → BInv ops acc → BInv ops (befores l acc)
  | [], acc, _, h => h
  | o :: l, acc, hl, h => by
    have ho : ops[acc.length]? = some o := by
      have : (ops.toList.drop acc.length)[0]? = some o := by rw [hl]; rfl
      rw [List.getElem?_drop] at this; simpa using this
    have grow : ∀ (x m j : Nat), (acc.getD m 0).testBit j = true → ((acc ++ [x]).getD m 0).testBit j = true := fun x m j hj => by
      simp only [List.getD_eq_getElem?_getD, List.getElem?_append] at hj ⊢
      split
      · exact hj
      · rename_i hm; rw [List.getElem?_eq_none (by omega)] at hj; simp at hj
    refine befores_inv l _ (by rw [List.length_append, List.length_singleton, ← List.drop_drop, hl]; rfl) fun k j hj => ?_
    by_cases hk : k < acc.length
    · have : (acc.getD k 0).testBit j = true := by
        simpa only [List.getD_eq_getElem?_getD, List.getElem?_append, if_pos hk] using hj
      obtain ⟨o', h1, e, h2, h3, h4⟩ := h k j this
      exact ⟨o', h1, e, h2, h3, h4.imp id (grow _ _ _)⟩
    · by_cases hk' : k = acc.length
      · subst hk'
        simp only [List.getD_eq_getElem?_getD, List.getElem?_append, Nat.lt_irrefl, if_false, Nat.sub_self, List.getElem?_cons_zero, Option.getD_some] at hj
        rcases fold_bits _ _ hj with h0 | ⟨e, h2, h3, h4⟩
        · simp at h0
        · exact ⟨o, ho, e, h2, h3, h4.imp id (fun q => grow _ _ _ (by simpa using q))⟩
      · simp only [List.getD_eq_getElem?_getD] at hj
        rw [List.getElem?_eq_none (by simp; omega)] at hj; simp at hj

structure DrawOk (ops : Array Oper) (B : List Nat) : Prop where
  inv : BInv ops B
  down : ∀ i o, ops[i]? = some o → ∀ e ∈ o.after.toList, Region.binds .any e = true → e.on < i
  apart : ∀ i j x y, i < j → ops[i]? = some x → ops[j]? = some y → ordered B i j = true ∨ apartB ops x y = true
theorem mem_zipIdx' {ops : Array Oper} {i : Nat} {o : Oper} (h : ops[i]? = some o) : (o, i) ∈ ops.toList.zipIdx := by
  rw [List.mem_zipIdx_iff_getElem?]; simpa using h
theorem drawOk_of {ops : Array Oper} (h : drawOk ops (befores ops.toList []) = true) : DrawOk ops (befores ops.toList []) := by
  unfold drawOk at h
  simp only [Bool.and_eq_true, List.all_eq_true] at h
  refine ⟨befores_inv ops.toList [] rfl (fun k j hj => by simp at hj), fun i o ho e he hb => ?_, fun i j x y hij hx hy => ?_⟩
  · have := h.1 (o, i) (mem_zipIdx' ho) e he
    simpa [hb] using this
  · have := h.2 (y, j) (mem_zipIdx' hy) (x, i) (mem_zipIdx' hx)
    simp only [Bool.or_eq_true, decide_eq_true_eq] at this
    rcases this with (h1 | h1) | h1
    · omega
    · exact .inl h1
    · exact .inr h1

/-- What has been carried out: with each, what comes before it. -/
def Closed (ops : Array Oper) (D : Nat → Prop) : Prop := ∀ i o, D i → ops[i]? = some o → ∀ e ∈ o.after.toList, Region.binds .any e = true → D e.on
theorem pred_in {ops : Array Oper} {B : List Nat} (hO : DrawOk ops B) {D : Nat → Prop} (hD : Closed ops D) : ∀ (i j : Nat), (D i ∨ ∀ o, ops[i]? = some o → ∀ e ∈ o.after.toList, Region.binds .any e = true → D e.on) → (B.getD i 0).testBit j = true → D j := by
  intro i
  induction i using Nat.strongRecOn with
  | _ i ih =>
    intro j h hb
    obtain ⟨o, ho, e, he, hbi, h2⟩ := hO.inv i j hb
    have hon : D e.on := by
      rcases h with h | h
      · exact hD i o h ho e he hbi
      · exact h o ho e he hbi
    rcases h2 with rfl | h2
    · exact hon
    · exact ih e.on (hO.down i o ho e he hbi) j (.inl hon) h2

/-! ### what an operation looks at -/
theorem evOp_congr {P : Program} {call : Caller} {ρ ρ' : Operand → Value} {op : Op} {σ : AH} (h : ∀ x ∈ op.operands.toList, ρ x = ρ' x) : evOp P call ρ op σ = evOp P call ρ' op σ := by
  have arr : ∀ (l : List Operand), (∀ x ∈ l, ρ x = ρ' x) → l.map ρ = l.map ρ' := fun l hl => List.map_congr_left hl
  have opt : ∀ (q : Option Operand), (∀ x ∈ q, ρ x = ρ' x) → q.map ρ = q.map ρ' := fun q hq => by
    cases q with
    | none => rfl
    | some x => simp [hq x rfl]
  have ps : ∀ (l : List (Nat × Operand)), (∀ x ∈ l.map (·.2), ρ x = ρ' x) → l.map (fun p => (p.1, ρ p.2)) = l.map (fun p => (p.1, ρ' p.2)) := fun l hl =>
    List.map_congr_left fun p hp => by rw [hl p.2 (List.mem_map_of_mem hp)]
  cases op with
  | call c =>
    obtain ⟨cal, as, ts⟩ := c
    cases cal with
    | value f =>
      simp only [Op.operands, Call.operands] at h
      have h1 : ρ f = ρ' f := h f (by simp)
      have h2 := arr as.toList (fun x hx => h x (by simp [hx]))
      simp only [evOp, h1, h2]
    | invoke r m => rfl
    | builtin b =>
      simp only [Op.operands, Call.operands] at h
      have h2 := arr as.toList (fun x hx => h x (by simpa using hx))
      simp only [evOp, h2]
  | build t l => simp only [evOp]; rw [ps l.toList (by simpa [Op.operands] using h)]
  | buildSlice t n l => simp only [evOp]; rw [ps l.toList (by simpa [Op.operands] using h)]
  | makeFunc fn a c =>
    simp only [Op.operands, Array.toList_append, List.mem_append] at h
    have e1 : a.map ρ = a.map ρ' := Array.map_congr_left fun x hx => h x (.inl (by simpa using hx))
    have e2 : c.map ρ = c.map ρ' := Array.map_congr_left fun x hx => h x (.inr (by simpa using hx))
    cases fn <;> simp only [evOp, e1, e2]
  | makeMap t r => cases r <;> rfl
  | slice t x lo hi mx =>
    simp only [Op.operands] at h
    have e0 : ρ x = ρ' x := h x (by simp)
    have e1 := opt lo (fun y hy => h y (by rw [Option.mem_def] at hy; subst hy; simp))
    have e2 := opt hi (fun y hy => h y (by rw [Option.mem_def] at hy; subst hy; simp))
    have e3 := opt mx (fun y hy => h y (by rw [Option.mem_def] at hy; subst hy; simp))
    simp only [evOp, e0, e1, e2, e3]
  | _ => simp_all [Op.operands, evOp]
theorem pure_same {P : Program} {call : Caller} {ρ : Operand → Value} {op : Op} {σ σ' : AH} {v : Value} (hp : pureOp op = true) (h : evOp P call ρ op σ = some (v, σ')) : σ' = σ ∧ ∀ σ2, evOp P call ρ op σ2 = some (v, σ2) := by
  have kp : ∀ (x : Option Value), keep σ x = some (v, σ') → σ' = σ ∧ ∀ σ2, keep σ2 x = some (v, σ2) := fun x hx => by
    obtain ⟨u, rfl, hu⟩ := Option.map_eq_some_iff.1 hx
    simp at hu; obtain ⟨rfl, rfl⟩ := hu
    exact ⟨rfl, fun σ2 => rfl⟩
  cases op with
  | call c =>
    obtain ⟨cal, as, ts⟩ := c
    cases cal with
    | builtin b =>
      cases b <;> simp [pureOp] at hp
      · simp only [evOp, aBuiltin] at h ⊢; exact kp _ h
      · simp only [evOp, aBuiltin] at h ⊢; exact kp _ h
    | _ => simp [pureOp] at hp
  | pick c a b =>
    simp only [evOp] at h ⊢
    split at h
    · simp at h; obtain ⟨rfl, rfl⟩ := h; exact ⟨rfl, fun _ => rfl⟩
    · cases h
  | makeInterface t x =>
    simp only [evOp] at h ⊢
    repeat' split at h
    all_goals first
      | cases h; done
      | (simp at h; obtain ⟨rfl, rfl⟩ := h; refine ⟨rfl, fun _ => ?_⟩; simp [*])
  | makeFunc fn first cap =>
    cases fn with
    | func f => simp only [evOp] at h ⊢; simp at h; obtain ⟨rfl, rfl⟩ := h; exact ⟨rfl, fun _ => rfl⟩
    | _ => simp only [evOp] at h; cases h
  | _ => first
    | (simp [pureOp] at hp; done)
    | (simp only [evOp] at h ⊢; exact kp _ h)
    | (simp only [evOp] at h ⊢; simp at h; obtain ⟨rfl, rfl⟩ := h; exact ⟨rfl, fun _ => rfl⟩)
end Go.Ab
