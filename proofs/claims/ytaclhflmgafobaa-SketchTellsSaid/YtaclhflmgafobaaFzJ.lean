/- Regions whose order is open: the theorem: whatever the order, the state behind the region is the interpreter's. -/
import Derived.Test.YtaclhflmgafobaaFzI
namespace Go.Ab
open Go
set_option linter.unusedSimpArgs false
set_option linter.unusedVariables false

/-- One step of the interpreter through a region. -/
def Step (P : Program) (call : Caller) (nt : Nat) (ops : Array Oper) (fr : Nat → Bool) (T : Nat → Tmps) (S : Nat → AH) (V : Nat → Value) (i : Nat) (o : Oper) : Prop :=
  putA nt (T i) o.dst (V i) = some (T (i + 1)) ∧
  ((wantA ops o (T i) = some true ∧ ∃ σ', evOp P call (opv (T i)) o.op (if fr i || pureOp o.op then S i else (S i).withBase (S i).size) = some (V i, σ') ∧ S (i + 1) = σ'.withBase (S i).base) ∨
   (wantA ops o (T i) = some false ∧ V i = undef ∧ S (i + 1) = S i))

theorem trace_of {P : Program} {call : Caller} {nt : Nat} {ops : Array Oper} : ∀ (l : List Oper) (k : Nat) (frl : List Bool) (t : Tmps) (σ : AH) (t' : Tmps) (σ' : AH), ops.toList.drop k = l → evDraw P call nt ops l frl t σ = some (t', σ') →
    ∃ (T : Nat → Tmps) (S : Nat → AH) (V : Nat → Value), T k = t ∧ S k = σ ∧ T (k + l.length) = t' ∧ S (k + l.length) = σ' ∧
      ∀ i o, k ≤ i → ops[i]? = some o → Step P call nt ops (fun i => frl.getD (i - k) false) T S V i o
  | [], k, frl, t, σ, t', σ', hl, h => by
    simp [evDraw] at h; obtain ⟨rfl, rfl⟩ := h
    refine ⟨fun _ => t, fun _ => σ, fun _ => undef, rfl, rfl, rfl, rfl, fun i o hi ho => ?_⟩
    have : ops.toList.length ≤ k := List.drop_eq_nil_iff.1 hl
    have := (Array.getElem?_eq_some_iff.1 ho).1
    simp at *; omega
  | o :: l, k, frl, t, σ, t', σ', hl, h => by
    have ho : ops[k]? = some o := by
      have : (ops.toList.drop k)[0]? = some o := by rw [hl]; rfl
      rw [List.getElem?_drop] at this; simpa using this
    have hl' : ops.toList.drop (k + 1) = l := by rw [← List.drop_drop, hl]; rfl
    have hfr : ∀ i, k + 1 ≤ i → frl.tail.getD (i - (k + 1)) false = frl.getD (i - k) false := fun i hi => by
      rw [show i - k = (i - (k + 1)) + 1 by omega]; cases frl <;> simp
    unfold evDraw at h
    have main : ∀ (v : Value) (t1 : Tmps) (σ1 : AH), putA nt t o.dst v = some t1 → evDraw P call nt ops l frl.tail t1 σ1 = some (t', σ') →
        ((wantA ops o t = some true ∧ ∃ σ', evOp P call (opv t) o.op (if frl.getD 0 false || pureOp o.op then σ else σ.withBase σ.size) = some (v, σ') ∧ σ1 = σ'.withBase σ.base) ∨ (wantA ops o t = some false ∧ v = undef ∧ σ1 = σ)) →
        ∃ (T : Nat → Tmps) (S : Nat → AH) (V : Nat → Value), T k = t ∧ S k = σ ∧ T (k + (o :: l).length) = t' ∧ S (k + (o :: l).length) = σ' ∧
          ∀ i o, k ≤ i → ops[i]? = some o → Step P call nt ops (fun i => frl.getD (i - k) false) T S V i o := by
      intro v t1 σ1 hp hd hs
      obtain ⟨T, S, V, hT, hS, hT', hS', hst⟩ := trace_of l (k + 1) frl.tail t1 σ1 t' σ' hl' hd
      refine ⟨fun i => if i = k then t else T i, fun i => if i = k then σ else S i, fun i => if i = k then v else V i, by simp, by simp, ?_, ?_, fun i o' hi ho' => ?_⟩
      · simp only [List.length_cons]; rw [if_neg (by omega), ← hT']; congr 1; omega
      · simp only [List.length_cons]; rw [if_neg (by omega), ← hS']; congr 1; omega
      · by_cases hik : i = k
        · subst hik
          rw [ho] at ho'; obtain rfl := Option.some.inj ho'
          unfold Step
          simp only [if_true, if_neg (show ¬ i + 1 = i by omega), Nat.sub_self, hT, hS]
          exact ⟨hp, hs⟩
        · have := hst i o' (by omega) ho'
          unfold Step at this ⊢
          simp only [hfr i (by omega)] at this
          simp only [if_neg hik, if_neg (show ¬ i + 1 = k by omega)]
          exact this
    split at h
    · rename_i hw
      obtain ⟨⟨v, σ1⟩, h1, h⟩ := Option.bind_eq_some_iff.1 h
      obtain ⟨t1, h2, h⟩ := Option.bind_eq_some_iff.1 h
      exact main v t1 _ h2 h (.inl ⟨hw, σ1, by cases frl <;> simpa using h1, rfl⟩)
    · rename_i hw
      obtain ⟨t1, h2, h⟩ := Option.bind_eq_some_iff.1 h
      exact main undef t1 σ h2 h (.inr ⟨hw, rfl, rfl⟩)
    · cases h

/-! ### temporaries -/
section
variable {ops : Array Oper} {t : Tmps} {V : Nat → Value}
/-- What stands in a temporary once D has been carried out. -/
def cur (ops : Array Oper) (t : Tmps) (V : Nat → Value) (D : Nat → Bool) (d : Nat) : Nat → Value
  | 0 => t d
  | i + 1 => if D i && ((ops[i]?).bind (·.dst) == some d) then V i else cur ops t V D d i
theorem cur_congr {D D' : Nat → Bool} {d : Nat} : ∀ (n : Nat), (∀ j, j < n → (ops[j]?).bind (·.dst) = some d → D j = D' j) → cur ops t V D d n = cur ops t V D' d n
  | 0, _ => rfl
  | n + 1, h => by
    have ih := cur_congr (d := d) n (fun j hj => h j (by omega))
    unfold cur
    by_cases hd : (ops[n]?).bind (·.dst) = some d
    · rw [h n (by omega) hd, ih]
    · simp [hd, ih]
theorem cur_stop {D : Nat → Bool} {d i : Nat} : ∀ (n : Nat), i ≤ n → (∀ j, i ≤ j → j < n → (ops[j]?).bind (·.dst) = some d → D j = false) → cur ops t V D d n = cur ops t V D d i
  | 0, hi, _ => by obtain rfl : i = 0 := by omega
                   rfl
  | n + 1, hi, h => by
    by_cases hin : i = n + 1
    · subst hin; rfl
    · have ih := cur_stop (d := d) n (by omega) (fun j h1 h2 => h j h1 (by omega))
      have e : cur ops t V D d (n + 1) = if D n && ((ops[n]?).bind (·.dst) == some d) then V n else cur ops t V D d n := rfl
      rw [e, ih]
      by_cases hd : (ops[n]?).bind (·.dst) = some d
      · simp [h n (by omega) (by omega) hd]
      · simp [hd]
end

theorem cur_all {P : Program} {call : Caller} {nt : Nat} {ops : Array Oper} {fr : Nat → Bool} {T : Nat → Tmps} {S : Nat → AH} {V : Nat → Value} (hst : ∀ i o, ops[i]? = some o → Step P call nt ops fr T S V i o) (d : Nat) :
    ∀ n, n ≤ ops.size → cur ops (T 0) V (fun _ => true) d n = T n d
  | 0, _ => rfl
  | n + 1, hn => by
    have ih := cur_all hst d n (by omega)
    have ho : ops[n]? = some ops[n] := by simp [show n < ops.size by omega]
    have hp := (hst n _ ho).1
    unfold cur
    rw [ih]
    unfold putA at hp
    split at hp
    · rename_i hd; simp at hp; simp [ho, hd, hp]
    · rename_i d' hd
      split at hp
      · simp at hp
        rw [← hp]
        by_cases hdd : d' = d
        · subst hdd; simp [ho, hd, upd]
        · have : ¬ d = d' := fun e => hdd e.symm
          simp [ho, hd, upd, this, hdd]
      · cases hp

theorem wantA_congr {ops : Array Oper} {o : Oper} {t t' : Tmps} (h : ∀ d ∈ looks ops o, t d = t' d) : wantA ops o t = wantA ops o t' := by
  unfold wantA
  cases hg : o.guard with
  | none => rfl
  | some jw =>
    obtain ⟨j, want⟩ := jw
    simp only
    cases hd : (ops[j]?).bind (·.dst) with
    | none => rfl
    | some d => simp only; rw [h d (by simp [looks, hg, hd])]
theorem opv_congr {ops : Array Oper} {o : Oper} {t t' : Tmps} (h : ∀ d ∈ looks ops o, t d = t' d) : ∀ x ∈ o.op.operands.toList, opv t x = opv t' x := fun x hx => by
  cases x with
  | tmp j =>
    refine h j ?_
    unfold looks
    rw [List.mem_append]
    exact .inl (List.mem_filterMap.2 ⟨.tmp j, hx, rfl⟩)
  | _ => rfl

theorem apart_spec {ops : Array Oper} {x y : Oper} (h : apartB ops x y = true) : (∀ d, x.dst = some d → d ∉ looks ops y) ∧ (∀ d, x.dst = some d → y.dst ≠ some d) ∧ (∀ d, y.dst = some d → d ∉ looks ops x) := by
  refine ⟨fun d hd => ?_, fun d hd => ?_, fun d hd => ?_⟩ <;> simp [apartB, hd] at h
  · exact h.1.1
  · exact h.1.2
  · exact h.2

/-- What is not free, and is carried out on a heap that it may not turn, keeps all that was there. -/
structure Keeps (σ σ' : AH) : Prop where
  size : σ.size ≤ σ'.size
  base : σ'.base = σ.base
  keep : ∀ b, b < σ.size → σ'.get b = σ.get b
theorem Keeps.refl (σ : AH) : Keeps σ σ := ⟨Nat.le_refl _, rfl, fun _ _ => rfl⟩
theorem Keeps.trans {a b c : AH} (h : Keeps a b) (k : Keeps b c) : Keeps a c := ⟨Nat.le_trans h.size k.size, k.base.trans h.base, fun j hj => (k.keep j (Nat.lt_of_lt_of_le hj h.size)).trans (h.keep j hj)⟩

theorem Ext.grow {φ φ' : Ren} {σ σ1 σ2 : AH} {w w' : World} (h : Ext φ σ w φ' σ1 w') (k : Keeps σ1 σ2) (hf : ∀ b, σ.size ≤ b → b < σ2.size → φ b = none) : Ext φ σ w φ' σ2 w' where
  os := h.os
  tape := h.tape
  output := h.output
  drawn := h.drawn
  hsize := h.hsize
  le := h.le
  base := k.base.trans h.base
  asize := Nat.le_trans h.asize k.size
  fresh := fun b c d h0 h1 => let ⟨a, b', e⟩ := h.fresh b c d h0 h1; ⟨a, Nat.lt_of_lt_of_le b' k.size, e⟩
  frameC := h.frameC
  frameA := fun b hb hn => (k.keep b (Nat.lt_of_lt_of_le hb h.asize)).trans (h.frameA b hb hn)
  stay := fun b hb ⟨h1, o, h2, h3⟩ => h.stay b hb ⟨by rw [← k.base]; exact h1, o, by rw [← k.keep b (Nat.lt_of_lt_of_le hb h.asize)]; exact h2, h3⟩
  free := hf
  stills := h.stills

section
variable {P : Program} {call : Caller} {nt : Nat} {ops : Array Oper} {fr : Nat → Bool} {T : Nat → Tmps} {S : Nat → AH} {V : Nat → Value} {B : List Nat}

/-- A free operation that looks at memory. -/
def Loud (ops : Array Oper) (fr : Nat → Bool) (T : Nat → Tmps) (i : Nat) : Prop := ∃ o, ops[i]? = some o ∧ fr i = true ∧ pureOp o.op = false ∧ wantA ops o (T i) = some true

theorem step_keeps (hG : CallerGrows call) {i : Nat} {o : Oper} (ho : ops[i]? = some o) (hs : Step P call nt ops fr T S V i o) (hl : ¬ Loud ops fr T i) : Keeps (S i) (S (i + 1)) := by
  rcases hs.2 with ⟨hw, σ', h1, h2⟩ | ⟨_, _, h2⟩
  · by_cases hp : pureOp o.op = true
    · rw [hp, Bool.or_true, if_pos rfl] at h1
      obtain ⟨rfl, _⟩ := pure_same hp h1
      rw [h2]; exact ⟨Nat.le_refl _, rfl, fun _ _ => rfl⟩
    · have hfr : fr i = false := by
        cases hq : fr i with
        | false => rfl
        | true => exact absurd ⟨o, ho, hq, by simpa using hp, hw⟩ hl
      rw [hfr] at h1
      have hp' : pureOp o.op = false := by simpa using hp
      rw [hp'] at h1
      simp only [Bool.or_self, Bool.false_eq_true, if_false] at h1
      have hg := evOp_grows hG h1
      rw [h2]
      exact ⟨hg.size, rfl, fun b hb => hg.keep b hb hb⟩
  · rw [h2]; exact .refl _
theorem range_keeps (hG : CallerGrows call) (hst : ∀ i o, ops[i]? = some o → Step P call nt ops fr T S V i o) : ∀ (n i : Nat), i + n ≤ ops.size → (∀ j, i ≤ j → j < i + n → ¬ Loud ops fr T j) → Keeps (S i) (S (i + n))
  | 0, i, _, _ => .refl _
  | n + 1, i, hn, hl => by
    have ho : ops[i + n]? = some ops[i + n] := by simp [show i + n < ops.size by omega]
    exact (range_keeps hG hst n i (by omega) (fun j h1 h2 => hl j h1 (by omega))).trans (step_keeps hG ho (hst _ _ ho) (hl _ (by omega) (by omega)))
theorem step_grows (hG : CallerGrows call) {i : Nat} {o : Oper} (ho : ops[i]? = some o) (hs : Step P call nt ops fr T S V i o) : (S i).size ≤ (S (i + 1)).size ∧ (S (i + 1)).base = (S i).base := by
  rcases hs.2 with ⟨_, σ', h1, h2⟩ | ⟨_, _, h2⟩
  · have hg := evOp_grows hG h1
    rw [h2]
    refine ⟨?_, rfl⟩
    have := hg.size
    split at this <;> exact this
  · rw [h2]; exact ⟨Nat.le_refl _, rfl⟩
theorem range_grows (hG : CallerGrows call) (hst : ∀ i o, ops[i]? = some o → Step P call nt ops fr T S V i o) : ∀ (n i : Nat), i + n ≤ ops.size → (S i).size ≤ (S (i + n)).size ∧ (S (i + n)).base = (S i).base
  | 0, i, _ => ⟨Nat.le_refl _, rfl⟩
  | n + 1, i, hn => by
    have ho : ops[i + n]? = some ops[i + n] := by simp [show i + n < ops.size by omega]
    have h1 := range_grows hG hst n i (by omega)
    have h2 := step_grows hG ho (hst _ _ ho)
    exact ⟨Nat.le_trans h1.1 h2.1, h2.2.trans h1.2⟩
theorem grows_le (hG : CallerGrows call) (hst : ∀ i o, ops[i]? = some o → Step P call nt ops fr T S V i o) {i j : Nat} (hij : i ≤ j) (hj : j ≤ ops.size) : (S i).size ≤ (S j).size ∧ (S j).base = (S i).base := by
  have := range_grows hG hst (j - i) i (by omega)
  rwa [show i + (j - i) = j by omega] at this
theorem keeps_le (hG : CallerGrows call) (hst : ∀ i o, ops[i]? = some o → Step P call nt ops fr T S V i o) {i j : Nat} (hij : i ≤ j) (hj : j ≤ ops.size) (hl : ∀ k, i ≤ k → k < j → ¬ Loud ops fr T k) : Keeps (S i) (S j) := by
  have := range_keeps hG hst (j - i) i (by omega) (fun k h1 h2 => hl k h1 (by omega))
  rwa [show i + (j - i) = j by omega] at this
/-- The next free operation from k on. -/
theorem next_loud (ops : Array Oper) (fr : Nat → Bool) (T : Nat → Tmps) : ∀ (n k : Nat), k + n = ops.size → ∃ m, k ≤ m ∧ m ≤ ops.size ∧ (∀ j, k ≤ j → j < m → ¬ Loud ops fr T j) ∧ (m = ops.size ∨ Loud ops fr T m)
  | 0, k, h => ⟨k, Nat.le_refl _, by omega, fun j h1 h2 => by omega, .inl (by omega)⟩
  | n + 1, k, h => by
    by_cases hl : Loud ops fr T k
    · exact ⟨k, Nat.le_refl _, by omega, fun j h1 h2 => by omega, .inr hl⟩
    · obtain ⟨m, h1, h2, h3, h4⟩ := next_loud ops fr T n (k + 1) (by omega)
      refine ⟨m, by omega, h2, fun j h5 h6 => ?_, h4⟩
      by_cases hjk : j = k
      · subst hjk; exact hl
      · exact h3 j (by omega) h6

/-- The state once D has been carried out: the heap is the interpreter's ahead of the first free operation that has not been. -/
structure Inv (ops : Array Oper) (fr : Nat → Bool) (T : Nat → Tmps) (S : Nat → AH) (V : Nat → Value) (nt : Nat) (φ0 : Ren) (w0 : World) (D : Nat → Bool) (m : Nat) (φ : Ren) (a : Act) (w : World) : Prop where
  le : m ≤ ops.size
  low : ∀ j, j < ops.size → Loud ops fr T j → (D j = true ↔ j < m)
  here : m = ops.size ∨ Loud ops fr T m
  st : StRel φ (S m) w
  ext : Ext φ0 (S 0) w0 φ (S m) w
  dom : ∀ b, φ b ≠ none → φ0 b ≠ none ∨ ∃ j, j < m ∧ D j = true ∧ (S j).size ≤ b ∧ b < (S (j + 1)).size
  tm : ∀ d, VRel φ (cur ops (T 0) V D d ops.size) (a.tmps.getD d undef)
  sz : a.tmps.size = nt
  df : a.defers = []

variable {φ0 φ : Ren} {w0 w : World} {D : Nat → Bool} {m : Nat} {a : Act} {Q : Exit → Act → World → Prop}

/-- With one more. -/
def addD (D : Nat → Bool) (i : Nat) : Nat → Bool := fun j => if j = i then true else D j
theorem addD_same (D : Nat → Bool) (i : Nat) : addD D i i = true := by simp [addD]
theorem addD_other {D : Nat → Bool} {i j : Nat} (h : j ≠ i) : addD D i j = D j := by simp [addD, h]

theorem inv_step (hC : CallerOk P call) (hG : CallerGrows call) (hO : DrawOk ops B) (hfrB : ∀ i, fr i = true → ∀ j o, ops[j]? = some o → j = i ∨ pureOp o.op = true ∨ ordered B i j = true)
    (hst : ∀ i o, ops[i]? = some o → Step P call nt ops fr T S V i o) (hfree : ∀ b, (S 0).size ≤ b → b < (S ops.size).size → φ0 b = none)
    (hD : Closed ops fun i => D i = true) {i : Nat} {o : Oper} (ho : ops[i]? = some o) (hi : D i = false) (hready : ∀ e ∈ o.after.toList, Region.binds .any e = true → D e.on = true)
    (hI : Inv ops fr T S V nt φ0 w0 D m φ a w) {K : Act → World → Prop} (hK : ∀ m' φ' a' w', Inv ops fr T S V nt φ0 w0 (addD D i) m' φ' a' w' → K a' w') : wpOp P ops Q i K a w := by
  have hin : i < ops.size := (Array.getElem?_eq_some_iff.1 ho).1
  have hpre : ∀ j, (B.getD i 0).testBit j = true → D j = true := fun j hj => pred_in hO hD i j (.inr fun o' ho' => by rw [ho] at ho'; obtain rfl := Option.some.inj ho'; exact hready) hj
  have hpost : ∀ j, (B.getD j 0).testBit i = true → D j = false := fun j hj => by
    cases hq : D j with
    | false => rfl
    | true => have := pred_in hO hD j i (.inl hq) hj; rw [hi] at this; cases this
  have hord : ∀ j, j ≠ i → ordered B i j = true → (D j = true ↔ j < i) := fun j hne h => by
    unfold ordered at h
    by_cases hlt : j < i
    · rw [Nat.max_eq_left (by omega), Nat.min_eq_right (by omega)] at h
      exact ⟨fun _ => hlt, fun _ => hpre j h⟩
    · rw [Nat.max_eq_right (by omega), Nat.min_eq_left (by omega)] at h
      rw [hpost j h]
      exact ⟨fun h => (by cases h), fun h => absurd h hlt⟩
  have hsym : ∀ x y, ordered B x y = ordered B y x := fun x y => by unfold ordered; rw [Nat.max_comm, Nat.min_comm]
  -- what writes a temporary that the operation looks at or writes
  have hpair : ∀ j y d, j ≠ i → ops[j]? = some y → y.dst = some d → (d ∈ looks ops o ∨ o.dst = some d) → ordered B i j = true := fun j y d hne hy hyd hd => by
    by_cases hlt : j < i
    · rcases hO.apart j i y o hlt hy ho with h | h
      · rw [hsym]; exact h
      · obtain ⟨h1, h2, h3⟩ := apart_spec h
        rcases hd with hd | hd
        · exact absurd hd (h1 d hyd)
        · exact absurd hd (h2 d hyd)
    · rcases hO.apart i j o y (by omega) ho hy with h | h
      · exact h
      · obtain ⟨h1, h2, h3⟩ := apart_spec h
        rcases hd with hd | hd
        · exact absurd hd (h3 d hyd)
        · exact absurd hyd (h2 d hd)
  have hwriter : ∀ j d, j < ops.size → (ops[j]?).bind (·.dst) = some d → ∃ y, ops[j]? = some y ∧ y.dst = some d := fun j d hj h => by
    obtain ⟨y, hy, hyd⟩ := Option.bind_eq_some_iff.1 h; exact ⟨y, hy, hyd⟩
  have hlook : ∀ d ∈ looks ops o, cur ops (T 0) V D d ops.size = T i d := fun d hd => by
    have e1 : cur ops (T 0) V D d ops.size = cur ops (T 0) V D d i := by
      refine cur_stop ops.size (by omega) fun j h1 h2 h3 => ?_
      by_cases hji : j = i
      · subst hji; exact hi
      · obtain ⟨y, hy, hyd⟩ := hwriter j d h2 h3
        have := hord j hji (hpair j y d hji hy hyd (.inl hd))
        cases hq : D j with
        | false => rfl
        | true => have := this.1 hq; omega
    have e2 : cur ops (T 0) V D d i = cur ops (T 0) V (fun _ => true) d i := by
      refine cur_congr i fun j h1 h2 => ?_
      obtain ⟨y, hy, hyd⟩ := hwriter j d (by omega) h2
      exact (hord j (by omega) (hpair j y d (by omega) hy hyd (.inl hd))).2 h1
    rw [e1, e2, cur_all hst d i (by omega)]
  have hnew : ∀ d, o.dst = some d → cur ops (T 0) V (addD D i) d ops.size = V i := fun d hd => by
    have e1 : cur ops (T 0) V (addD D i) d ops.size = cur ops (T 0) V (addD D i) d (i + 1) := by
      refine cur_stop ops.size (by omega) fun j h1 h2 h3 => ?_
      obtain ⟨y, hy, hyd⟩ := hwriter j d h2 h3
      have := hord j (by omega) (hpair j y d (by omega) hy hyd (.inr hd))
      rw [addD_other (by omega)]
      cases hq : D j with
      | false => rfl
      | true => have := this.1 hq; omega
    rw [e1]; simp [cur, addD_same, ho, hd]
  have hold : ∀ d, o.dst ≠ some d → cur ops (T 0) V (addD D i) d ops.size = cur ops (T 0) V D d ops.size := fun d hd => by
    refine cur_congr ops.size fun j h1 h2 => ?_
    by_cases hji : j = i
    · subst hji; rw [ho] at h2; exact absurd h2 hd
    · exact addD_other hji
  have hs := hst i o ho
  -- the temporaries behind the operation
  have htm : ∀ φ' v', φ.le φ' → VRel φ' (V i) v' → (∀ d, VRel φ' (cur ops (T 0) V (addD D i) d ops.size) ((a.put o.dst v').tmps.getD d undef)) ∧ (a.put o.dst v').tmps.size = nt ∧ (a.put o.dst v').defers = [] := by
    intro φ' v' hle hv
    have hp := hs.1
    unfold putA at hp
    split at hp
    · rename_i hd
      refine ⟨fun d => ?_, by rw [hd]; exact hI.sz, by rw [hd]; exact hI.df⟩
      rw [hold d (by rw [hd]; simp)]
      rw [hd]; exact (hI.tm d).mono hle
    · rename_i d0 hd
      split at hp
      · rename_i hlt
        rw [hd]
        refine ⟨fun d => ?_, by simp [Act.put, hI.sz], hI.df⟩
        by_cases hdd : d = d0
        · subst hdd
          rw [hnew d hd]
          have : (a.put (some d) v').tmps.getD d undef = v' := by simp [Act.put, hI.sz, hlt]
          rw [this]; exact hv
        · rw [hold d (by rw [hd]; simpa using fun e => hdd e.symm)]
          have : (a.put (some d0) v').tmps.getD d undef = a.tmps.getD d undef := by simp [Act.put, Array.getElem?_setIfInBounds_ne (fun e => hdd e.symm)]
          rw [this]; exact (hI.tm d).mono hle
      · cases hp
  have hloudfr : ∀ j, Loud ops fr T j → ∀ k y, ops[k]? = some y → pureOp y.op = false → k ≠ j → ordered B j k = true := fun j ⟨y, hy, hf, hp, _⟩ k z hz hpz hne => by
    rcases hfrB j hf k z hz with h | h | h
    · exact absurd h hne
    · rw [hpz] at h; cases h
    · exact h
  have hDlow : ∀ j, j ≠ i → Loud ops fr T j → (addD D i j = true ↔ D j = true) := fun j hj _ => by rw [addD_other hj]
  unfold wpOp
  simp only [ho]
  rw [want_ok (t := fun d => cur ops (T 0) V D d ops.size) (b := (wantA ops o (T i)).getD false) hI.tm (by
    rw [wantA_congr (t' := T i) (fun d hd => hlook d hd)]
    rcases hs.2 with ⟨hw, _⟩ | ⟨hw, _⟩ <;> rw [hw] <;> rfl)]
  rcases hs.2 with ⟨hw, σ', h1, h2⟩ | ⟨hw, hv, h2⟩
  · rw [hw]
    simp only [Option.getD_some, if_true]
    have hev : ∀ σ0 r, evOp P call (opv (T i)) o.op σ0 = r → evOp P call (opv fun d => cur ops (T 0) V D d ops.size) o.op σ0 = r := fun σ0 r h => by
      rw [← h]; exact evOp_congr (opv_congr (ops := ops) fun d hd => hlook d hd)
    have hρ : ∀ x, VRel φ (opv (fun d => cur ops (T 0) V D d ops.size) x) (a.eval x) := fun x => opv_rel hI.tm x
    by_cases hp : pureOp o.op = true
    · -- it looks at no memory
      rw [hp, Bool.or_true, if_pos rfl] at h1
      obtain ⟨rfl, hall⟩ := pure_same hp h1
      have hnl : ¬ Loud ops fr T i := fun ⟨o', ho', _, hp', _⟩ => by rw [ho] at ho'; obtain rfl := Option.some.inj ho'; rw [hp] at hp'; cases hp'
      refine .inl (evOp_wp hC hI.st hρ (fun b h3 h4 => by omega) (hev _ _ (hall (S m))) fun φ' v' w' hS' hv' hE' => ?_)
      obtain ⟨q1, q2, q3⟩ := htm φ' v' hE'.le hv'
      refine hK m φ' _ w' ⟨hI.le, fun j hj hl => ?_, hI.here, hS', hI.ext.trans hE', fun b hb => ?_, q1, q2, q3⟩
      · rw [hDlow j (fun e => by subst e; exact hnl hl) hl]; exact hI.low j hj hl
      · have hb' : φ b ≠ none := fun e => by
          cases hq : φ' b with
          | none => exact hb hq
          | some p => have := (hE'.fresh b p.1 p.2 e hq); omega
        rcases hI.dom b hb' with h | ⟨j, h3, h4, h5⟩
        · exact .inl h
        · exact .inr ⟨j, h3, by rw [addD_other (fun e => by subst e; rw [hi] at h4; cases h4)]; exact h4, h5⟩
    · have hp : pureOp o.op = false := by simpa using hp
      by_cases hf : fr i = true
      · -- free: it may turn memory
        have hloud : Loud ops fr T i := ⟨o, ho, hf, hp, hw⟩
        have hmi : m = i := by
          have h3 : m ≤ i := by
            have := (hI.low i hin hloud)
            rw [hi] at this
            cases Nat.lt_or_ge i m with
            | inl h => have := this.2 h; cases this
            | inr h => exact h
          rcases hI.here with h | h
          · omega
          · by_cases hlt : m < i
            · have := (hord m (by omega) (by rw [hsym]; exact hloudfr m h i o ho hp (by omega))).2 hlt
              have := (hI.low m (by omega) h).1 this
              omega
            · omega
        subst hmi
        rw [hf, Bool.true_or, if_pos rfl] at h1
        have hbase : σ'.withBase (S m).base = σ' := by
          have := (evOp_grows hG h1).base
          cases σ'; simp only [AH.withBase] at *; rw [this]
        rw [hbase] at h2
        subst h2
        have hfr1 : ∀ b, (S m).size ≤ b → b < (S (m + 1)).size → φ b = none := fun b h3 h4 => by
          cases hq : φ b with
          | none => rfl
          | some p =>
            rcases hI.dom b (by rw [hq]; simp) with h | ⟨j, h5, _, _, h6⟩
            · have g1 := (grows_le hG hst (i := 0) (j := m) (by omega) hI.le).1
              have g2 := (grows_le hG hst (i := m + 1) (j := ops.size) (by omega) (Nat.le_refl _)).1
              exact absurd (hfree b (by omega) (by omega)) h
            · have g1 := (grows_le hG hst (i := j + 1) (j := m) (by omega) hI.le).1
              omega
        refine .inl (evOp_wp hC hI.st hρ hfr1 (hev _ _ h1) fun φ' v' w' hS' hv' hE' => ?_)
        obtain ⟨q1, q2, q3⟩ := htm φ' v' hE'.le hv'
        obtain ⟨m', g1, g2, g3, g4⟩ := next_loud ops fr T (ops.size - (m + 1)) (m + 1) (by omega)
        have hk := keeps_le hG hst g1 g2 g3
        have hEt := hI.ext.trans hE'
        have gn := (grows_le hG hst (i := m') (j := ops.size) g2 (Nat.le_refl _)).1
        refine hK m' φ' _ w' ⟨g2, fun j hj hl => ?_, g4, ?_, hEt.grow hk (fun b h3 h4 => hfree b h3 (by omega)), fun b hb => ?_, q1, q2, q3⟩
        · by_cases hjm : j = m
          · subst hjm; rw [addD_same]; exact ⟨fun _ => by omega, fun _ => rfl⟩
          · rw [addD_other hjm]
            obtain ⟨y, hy, hyf, hyp, hyw⟩ := hl
            have := hord j hjm (hloudfr m hloud j y hy hyp hjm)
            rw [this]
            constructor
            · omega
            · intro h5
              by_cases hlt : j < m
              · exact hlt
              · exact absurd ⟨y, hy, hyf, hyp, hyw⟩ (g3 j (by omega) h5)
        · have hb : ∀ b x, φ' b = some x → (S m').get b = (S (m + 1)).get b := fun b x hx => by
            by_cases hlt : b < (S (m + 1)).size
            · exact hk.keep b hlt
            · by_cases hlt2 : b < (S m').size
              · exfalso
                cases hq : φ b with
                | none => have := (hE'.fresh b x.1 x.2 hq hx).2.1; omega
                | some p =>
                  rcases hI.dom b (by rw [hq]; simp) with h | ⟨j, h5, _, _, h6⟩
                  · have g5 := (grows_le hG hst (i := 0) (j := m + 1) (by omega) (by omega)).1
                    exact absurd (hfree b (by omega) (by omega)) h
                  · have g5 := (grows_le hG hst (i := j + 1) (j := m + 1) (by omega) (by omega)).1
                    omega
              · rw [AH.get_ge (by omega), AH.get_ge (by omega)]
          exact ⟨hS'.inr, fun b c d x hx h => by rw [hb b _ hx] at h; exact hS'.obj b c d x hx h, fun b b' c d d' x x' hx hx' h h' => by rw [hb b _ hx] at h; rw [hb b' _ hx'] at h'; exact hS'.inj b b' c d d' x x' hx hx' h h', hS'.still, fun b c d x hx h => by rw [hb b _ hx] at h; exact hS'.apart b c d x hx h⟩
        · cases hq : φ b with
          | some p =>
            rcases hI.dom b (by rw [hq]; simp) with h | ⟨j, h3, h4, h5⟩
            · exact .inl h
            · exact .inr ⟨j, by omega, by rw [addD_other (by omega)]; exact h4, h5⟩
          | none =>
            cases hq' : φ' b with
            | none => exact absurd hq' hb
            | some p =>
              have := hE'.fresh b p.1 p.2 hq hq'
              exact .inr ⟨m, by omega, addD_same _ _, this.1, this.2.1⟩
      · -- not free: it turns nothing that was there
        have hf : fr i = false := by simpa using hf
        have hnl : ¬ Loud ops fr T i := fun ⟨_, _, hf', _, _⟩ => by rw [hf] at hf'; cases hf'
        rw [hf, hp] at h1
        simp only [Bool.or_self, Bool.false_eq_true, if_false] at h1
        have him : i < m := by
          rcases hI.here with h | h
          · omega
          · by_cases hlt : i < m
            · exact hlt
            · have hne : m ≠ i := fun e => by subst e; exact hnl h
              have := (hord m hne (by rw [hsym]; exact hloudfr m h i o ho hp (fun e => hne e.symm))).2 (by omega)
              have := (hI.low m (by obtain ⟨y, hy, _⟩ := h; exact (Array.getElem?_eq_some_iff.1 hy).1) h).1 this
              omega
        have hnoloud : ∀ j, i ≤ j → j < m → ¬ Loud ops fr T j := fun j h3 h4 hl => by
          have hne : j ≠ i := fun e => by subst e; exact hnl hl
          have hDj := (hI.low j (by have := hI.le; omega) hl).2 h4
          have := (hord j hne (by rw [hsym]; exact hloudfr j hl i o ho hp (fun e => hne e.symm))).1 hDj
          omega
        have hk1 := keeps_le hG hst (i := i) (j := m) (by omega) hI.le hnoloud
        have hk2 := keeps_le hG hst (i := i + 1) (j := m) (by omega) hI.le (fun j h3 h4 => hnoloud j (by omega) h4)
        have hg := evOp_grows hG h1
        have hsz1 : (S (i + 1)).size = σ'.size := by rw [h2]; rfl
        have hget1 : ∀ b, (S (i + 1)).get b = σ'.get b := fun b => by rw [h2]; rfl
        have gn := (grows_le hG hst (i := m) (j := ops.size) hI.le (Nat.le_refl _)).1
        have g0 := (grows_le hG hst (i := 0) (j := i) (by omega) (by omega)).1
        -- nothing stands yet where it makes memory
        have hfr1 : ∀ b, (S i).size ≤ b → b < σ'.size → φ b = none := fun b h3 h4 => by
          cases hq : φ b with
          | none => rfl
          | some p =>
            rcases hI.dom b (by rw [hq]; simp) with h | ⟨j, h5, h6, h7, h8⟩
            · exact absurd (hfree b (by omega) (by have := hk2.size; omega)) h
            · by_cases hji : j < i
              · have g1 := (grows_le hG hst (i := j + 1) (j := i) (by omega) (by omega)).1
                omega
              · have hne : j ≠ i := fun e => by subst e; rw [hi] at h6; cases h6
                have g1 := (grows_le hG hst (i := i + 1) (j := j) (by omega) (by have := hI.le; omega)).1
                omega
        have hSi : StRel φ ((S i).withBase (S i).size) w := by
          have hb : ∀ b x, (S i).get b = some x → (S m).get b = some x := fun b x hx => by rw [hk1.keep b (AH.get_lt hx)]; exact hx
          exact ⟨hI.st.inr, fun b c d x hx h => hI.st.obj b c d x hx (hb b x h), fun b b' c d d' x x' hx hx' h h' => hI.st.inj b b' c d d' x x' hx hx' (hb b x h) (hb b' x' h'), hI.st.still, fun b c d x hx h => hI.st.apart b c d x hx (hb b x h)⟩
        refine .inl (evOp_wp hC hSi hρ hfr1 (hev _ _ h1) fun φ' v' w' hS' hv' hE' => ?_)
        obtain ⟨q1, q2, q3⟩ := htm φ' v' hE'.le hv'
        have hnowr : ∀ b, ¬ ((S i).withBase (S i).size).wr b := fun b ⟨h3, x, h4, _⟩ => by
          have := AH.get_lt h4
          simp only [AH.size_withBase] at this
          have h3' : (S i).size ≤ b := h3
          omega
        have hheap : ∀ c, c < w.heap.size → w'.heap[c]? = w.heap[c]? := fun c hc => hE'.frameC c hc fun b d _ => hnowr b
        have hfresh : ∀ b c d, φ b = none → φ' b = some (c, d) → (S i).size ≤ b ∧ b < σ'.size ∧ w.heap.size ≤ c := fun b c d h3 h4 => by
          obtain ⟨h5, h6, h7⟩ := hE'.fresh b c d h3 h4
          refine ⟨h5, h6, ?_⟩
          rcases h7 with h7 | ⟨b0, d0, _, h8⟩
          · exact h7
          · exact absurd h8 (hnowr b0)
        have hgetm : ∀ b, b < σ'.size → (S m).get b = σ'.get b := fun b hb => by rw [hk2.keep b (by omega), hget1]
        refine hK m φ' _ w' ⟨hI.le, fun j hj hl => ?_, hI.here, ?_, ?_, fun b hb => ?_, q1, q2, q3⟩
        · rw [hDlow j (fun e => by subst e; exact hnl hl) hl]; exact hI.low j hj hl
        · refine ⟨hS'.inr, fun b c d x hx h => ?_, fun b b' c d d' x x' hx hx' h h' hl hl' hne => ?_, hS'.still, fun b c d x hx h hwx j => ?_⟩
          · cases hq : φ b with
            | none =>
              obtain ⟨_, h4, _⟩ := hfresh b c d hq hx
              rw [hgetm b h4] at h
              exact hS'.obj b c d x hx h
            | some p =>
              have hle := hE'.le.1 b p hq
              rw [hx] at hle
              obtain rfl := Option.some.inj hle.1
              have hor := hI.st.obj b c d x hq h
              by_cases hxl : x.live = true
              · exact (hor.mono hE'.le hle.2).congr (hheap c (hor.lt hxl))
              · cases x <;> simp_all [AObj.live, ORel]
          · cases hq : φ b with
            | none =>
              obtain ⟨_, h4, h5⟩ := hfresh b c d hq hx
              cases hq' : φ b' with
              | none =>
                obtain ⟨_, h4', _⟩ := hfresh b' c d' hq' hx'
                rw [hgetm b h4] at h; rw [hgetm b' h4'] at h'
                exact hS'.inj b b' c d d' x x' hx hx' h h' hl hl' hne
              | some p =>
                have hle := hE'.le.1 b' p hq'
                rw [hx'] at hle
                obtain rfl := Option.some.inj hle.1
                have := hI.st.inr b' c d' hq'
                omega
            | some p =>
              have hle := hE'.le.1 b p hq
              rw [hx] at hle
              obtain rfl := Option.some.inj hle.1
              cases hq' : φ b' with
              | none =>
                obtain ⟨_, _, h5⟩ := hfresh b' c d' hq' hx'
                have := hI.st.inr b c d hq
                omega
              | some p' =>
                have hle' := hE'.le.1 b' p' hq'
                rw [hx'] at hle'
                obtain rfl := Option.some.inj hle'.1
                exact hI.st.inj b b' c d d' x x' hq hq' h h' hl hl' hne
          · cases hq : φ b with
            | none =>
              obtain ⟨_, h4, _⟩ := hfresh b c d hq hx
              rw [hgetm b h4] at h
              exact hS'.apart b c d x hx h hwx j
            | some p =>
              have hle := hE'.le.1 b p hq
              rw [hx] at hle
              obtain rfl := Option.some.inj hle.1
              cases hs : φ'.still c j with
              | none => rfl
              | some u =>
                rcases hE'.stills c j u hs with h5 | h5 | ⟨b0, d0, _, h5⟩
                · rw [hI.st.apart b c d x hq h hwx j] at h5; cases h5
                · have := hI.st.inr b c d hq; omega
                · exact absurd h5 (hnowr b0)
        · exact {
            os := hE'.os.trans hI.ext.os, tape := hE'.tape.trans hI.ext.tape, output := hE'.output.trans hI.ext.output
            drawn := Nat.le_trans hI.ext.drawn hE'.drawn
            hsize := Nat.le_trans hI.ext.hsize hE'.hsize
            le := hI.ext.le.trans hE'.le
            base := hI.ext.base, asize := hI.ext.asize
            fresh := fun b c d h3 h4 => by
              cases hq : φ b with
              | some p =>
                have hle := hE'.le.1 b p hq
                rw [h4] at hle
                obtain rfl := Option.some.inj hle.1
                exact hI.ext.fresh b c d h3 hq
              | none =>
                obtain ⟨h5, h6, h7⟩ := hfresh b c d hq h4
                exact ⟨by omega, by have := hk2.size; omega, .inl (Nat.le_trans hI.ext.hsize h7)⟩
            frameC := fun c hc hn => (hheap c (Nat.lt_of_lt_of_le hc hI.ext.hsize)).trans (hI.ext.frameC c hc hn)
            frameA := hI.ext.frameA, stay := hI.ext.stay, free := hI.ext.free
            stills := fun c i u h3 => by
              rcases hE'.stills c i u h3 with h4 | h4 | ⟨b0, _, _, h4⟩
              · exact hI.ext.stills c i u h4
              · exact .inr (.inl (Nat.le_trans hI.ext.hsize h4))
              · exact absurd h4 (hnowr b0) }
        · cases hq : φ b with
          | some p =>
            rcases hI.dom b (by rw [hq]; simp) with h | ⟨j, h3, h4, h5⟩
            · exact .inl h
            · exact .inr ⟨j, h3, by rw [addD_other (fun e => by subst e; rw [hi] at h4; cases h4)]; exact h4, h5⟩
          | none =>
            cases hq' : φ' b with
            | none => exact absurd hq' hb
            | some p =>
              obtain ⟨h5, h6, _⟩ := hfresh b p.1 p.2 hq hq'
              exact .inr ⟨i, him, addD_same _ _, h5, by omega⟩
  · -- passed over
    rw [hw]
    simp only [Option.getD_some, Bool.false_eq_true, if_false]
    obtain ⟨q1, q2, q3⟩ := htm φ undef (.refl _) (by rw [hv]; exact .undef _)
    have hl : ¬ Loud ops fr T i := fun ⟨o', ho', _, _, hw'⟩ => by rw [ho] at ho'; obtain rfl := Option.some.inj ho'; rw [hw] at hw'; cases hw'
    refine hK m φ _ w ⟨hI.le, fun j hj hlj => ?_, hI.here, hI.st, hI.ext, fun b hb => ?_, q1, q2, q3⟩
    · rw [hDlow j (fun e => by subst e; exact hl hlj) hlj]; exact hI.low j hj hlj
    · rcases hI.dom b hb with h | ⟨j, h3, h4, h5⟩
      · exact .inl h
      · exact .inr ⟨j, h3, by rw [addD_other (fun e => by subst e; rw [hi] at h4; cases h4)]; exact h4, h5⟩
end
end Go.Ab
