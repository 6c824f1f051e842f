/- THE INTERPRETER IS SOUND: what it answers for a call, the machine answers, on every tape: values under the relation, old memory untouched but for the blocks that may be written. -/
import Derived.Test.YtaclhflmgafobaaFzJ
import Derived.LoopN
namespace Go.Ab
open Go
set_option linter.unusedSimpArgs false
set_option linter.unusedVariables false

theorem zip_all {ops : Array Oper} {p : Oper → Nat → Bool} (h : (ops.toList.zipIdx.all fun (o, j) => p o j) = true) {j : Nat} {o : Oper} (ho : ops[j]? = some o) : p o j = true := by
  rw [List.all_eq_true] at h
  exact h (o, j) (mem_zipIdx' ho)

theorem any_wp {P : Program} {call : Caller} (hC : CallerOk P call) (hG : CallerGrows call) {nt : Nat} {ops : Array Oper} {fr : Nat → Bool} {T : Nat → Tmps} {S : Nat → AH} {V : Nat → Value} {B : List Nat} {Q : Exit → Act → World → Prop}
    (hO : DrawOk ops B) (hfrB : ∀ i, fr i = true → ∀ j o, ops[j]? = some o → j = i ∨ pureOp o.op = true ∨ ordered B i j = true) (hst : ∀ i o, ops[i]? = some o → Step P call nt ops fr T S V i o)
    {φ0 : Ren} {w0 : World} (hfree : ∀ b, (S 0).size ≤ b → b < (S ops.size).size → φ0 b = none)
    (hQ : ∀ φ' a' w', At φ' (T ops.size) (S ops.size) nt a' w' → Ext φ0 (S 0) w0 φ' (S ops.size) w' → Q .normal a' w') :
    ∀ (fuel : Nat) (listed : Array Bool) (m : Nat) (φ : Ren) (a : Act) (w : World), listed.size = ops.size → Closed ops (fun i => listed.getD i false = true) → fuel + (listed.toList.count true) = ops.size →
      Inv ops fr T S V nt φ0 w0 (fun i => listed.getD i false) m φ a w → wpAny P .any ops Q fuel listed a w := by
  -- all carried out
  have fin : ∀ (listed : Array Bool) (m : Nat) (φ : Ren) (a : Act) (w : World), (∀ i, i < ops.size → listed.getD i false = true) → Inv ops fr T S V nt φ0 w0 (fun i => listed.getD i false) m φ a w → Q .normal a w := by
    intro listed m φ a w hall hI
    have hm : m = ops.size := by
      rcases hI.here with h | h
      · exact h
      · have hlt : m < ops.size := by obtain ⟨y, hy, _⟩ := h; exact (Array.getElem?_eq_some_iff.1 hy).1
        have := (hI.low m hlt h).1 (hall m hlt)
        omega
    subst hm
    refine hQ φ a w ⟨hI.st, fun d => ?_, hI.sz, hI.df⟩ hI.ext
    have := hI.tm d
    rw [cur_congr (D' := fun _ => true) ops.size (fun j hj _ => hall j hj), cur_all hst d ops.size (Nat.le_refl _)] at this
    exact this
  -- nothing can come up: all has been
  have done : ∀ (listed : Array Bool), listed.size = ops.size → Region.ready .any ops listed = [] → ∀ i, i < ops.size → listed.getD i false = true := by
    intro listed hls hr i
    induction i using Nat.strongRecOn with
    | _ i ih =>
      intro hi
      cases hq : listed.getD i false with
      | true => rfl
      | false =>
        have hmem : i ∈ Region.ready .any ops listed := by
          unfold Region.ready
          rw [List.mem_filter]
          refine ⟨List.mem_range.2 hi, ?_⟩
          have h1 : listed.getD i true = false := by
            simp only [Array.getD_eq_getD_getElem?] at hq ⊢
            have : listed[i]? = some listed[i] := by simp [show i < listed.size by omega]
            rw [this] at hq ⊢; simpa using hq
          have h2 : ops[i]? = some ops[i] := by simp [hi]
          simp only [h1, h2, Bool.not_false, Bool.true_and, Option.map_some, Option.getD_some, Array.all_eq_true_iff_forall_mem]
          intro e he
          by_cases hb : Region.binds .any e = true
          · have hlt := hO.down i _ h2 e (by simpa using he) hb
            rw [ih e.on hlt (by omega)]; simp
          · simp [hb]
        rw [hr] at hmem; cases hmem
  intro fuel
  induction fuel with
  | zero =>
    intro listed m φ a w hls hcl hcount hI
    have hall : ∀ i, i < ops.size → listed.getD i false = true := fun i hi => by
      have hc : listed.toList.count true = listed.toList.length := by simpa [hls] using hcount
      have := List.count_eq_length.1 hc
      have hi' : i < listed.size := by omega
      have h3 : listed.getD i false = listed[i] := by simp [Array.getD_eq_getD_getElem?, hi']
      rw [h3]
      exact (this listed[i] (by simp)).symm
    refine ⟨?_, fin listed m φ a w hall hI⟩
    unfold Region.ready
    rw [List.filter_eq_nil_iff]
    intro i hi
    have hi := List.mem_range.1 hi
    have h1 : listed.getD i true = true := by
      have := hall i hi
      simp only [Array.getD_eq_getD_getElem?] at this ⊢
      have h2 : listed[i]? = some listed[i] := by simp [show i < listed.size by omega]
      rw [h2] at this ⊢; exact this
    simp [h1]
  | succ fuel ih =>
    intro listed m φ a w hls hcl hcount hI
    refine ⟨fun hr => fin listed m φ a w (done listed hls hr) hI, fun i hi => ?_⟩
    unfold Region.ready at hi
    rw [List.mem_filter] at hi
    obtain ⟨hir, hi⟩ := hi
    have hin := List.mem_range.1 hir
    have ho : ops[i]? = some ops[i] := by simp [hin]
    simp only [ho, Option.map_some, Option.getD_some, Bool.and_eq_true, Bool.not_eq_true', Array.all_eq_true_iff_forall_mem] at hi
    have hil : listed.getD i false = false := by
      have h1 := hi.1
      have h2 : listed[i]? = some listed[i] := by simp [show i < listed.size by omega]
      simp only [Array.getD_eq_getD_getElem?] at h1 ⊢
      rw [h2] at h1 ⊢; exact h1
    have hadd : (fun j => (listed.setIfInBounds i true).getD j false) = addD (fun i => listed.getD i false) i := by
      funext j
      unfold addD
      simp only [Array.getD_eq_getD_getElem?]
      by_cases hji : j = i
      · subst hji; simp [show j < listed.size by omega]
      · rw [if_neg hji, Array.getElem?_setIfInBounds_ne (fun e => hji e.symm)]
    have hready : ∀ e ∈ (ops[i]).after.toList, Region.binds .any e = true → listed.getD e.on false = true := fun e he hb => by
      have := hi.2 e (by simpa using he)
      simpa [hb] using this
    refine inv_step hC hG hO hfrB hst hfree hcl ho hil hready hI fun m' φ' a' w' hI' => ?_
    refine ih (listed.setIfInBounds i true) m' φ' a' w' (by simpa using hls) ?_ ?_ (by rw [hadd]; exact hI')
    · intro j y hj hy e he hb
      have hj' : addD (fun i => listed.getD i false) i j = true := by rw [← hadd]; exact hj
      show (fun j => (listed.setIfInBounds i true).getD j false) e.on = true
      rw [hadd]
      by_cases hji : j = i
      · subst hji
        rw [ho] at hy; obtain rfl := Option.some.inj hy
        unfold addD; split
        · rfl
        · exact hready e he hb
      · rw [addD_other hji] at hj'
        have := hcl j y hj' hy e he hb
        unfold addD; split
        · rfl
        · exact this
    · have hlt : i < listed.toList.length := by simp; omega
      have hset : (listed.setIfInBounds i true).toList = listed.toList.set i true := by simp
      rw [hset]
      have hi0 : listed.toList[i] = false := by
        have h2 : listed[i]? = some listed[i] := by simp [show i < listed.size by omega]
        simp only [Array.getD_eq_getD_getElem?] at hil
        rw [h2] at hil; simpa using hil
      have hc2 : (listed.toList.set i true).count true = listed.toList.count true + 1 := by
        rw [List.count_set hlt, hi0]; simp
      rw [hc2]; omega

theorem evDraw_wp {P : Program} {call : Caller} (hC : CallerOk P call) (hG : CallerGrows call) (hm : P.follows .mixedOrders = true) {nt id : Nat} {ops : Array Oper} {Q : Exit → Act → World → Prop}
    {t t' : Tmps} {σ σ' : AH} {φ : Ren} {a : Act} {w : World} (hA : At φ t σ nt a w) (hf : ∀ b, σ.size ≤ b → b < σ'.size → φ b = none) (hd : drawOk ops (befores ops.toList []) = true)
    (h : evDraw P call nt ops ops.toList (frees ops (befores ops.toList [])) t σ = some (t', σ')) (hQ : ∀ φ' a' w', At φ' t' σ' nt a' w' → Ext φ σ w φ' σ' w' → Q .normal a' w') : (Code.region id ops true).wp P Q a w := by
  obtain ⟨T, S, V, hT, hS, hT', hS', hst⟩ := trace_of ops.toList 0 _ t σ t' σ' rfl h
  simp only [Array.length_toList, Nat.zero_add, Nat.sub_zero] at hT' hS' hst
  have hO := drawOk_of hd
  have hfr : ∀ i, (frees ops (befores ops.toList [])).getD i false = true → ∀ j o, ops[j]? = some o → j = i ∨ pureOp o.op = true ∨ ordered (befores ops.toList []) i j = true := fun i hi j o ho => by
    have : freeAt ops (befores ops.toList []) i = true := by
      unfold frees at hi
      simp only [List.getD_eq_getElem?_getD, List.getElem?_map] at hi
      by_cases hlt : i < ops.size
      · rw [List.getElem?_range hlt] at hi; simpa using hi
      · rw [List.getElem?_eq_none (by simp; omega)] at hi; simp at hi
    unfold freeAt at this
    have := zip_all (p := fun o j => j == i || pureOp o.op || ordered (befores ops.toList []) i j) this ho
    simp only [Bool.or_eq_true, beq_iff_eq] at this
    rcases this with (h | h) | h
    · exact .inl h
    · exact .inr (.inl h)
    · exact .inr (.inr h)
  have hst' : ∀ i o, ops[i]? = some o → Step P call nt ops (fun i => (frees ops (befores ops.toList [])).getD i false) T S V i o := fun i o ho => hst i o (by omega) ho
  refine wp_region_any hm ?_
  obtain ⟨m, _, h2, h3, h4⟩ := next_loud ops (fun i => (frees ops (befores ops.toList [])).getD i false) T ops.size 0 (by omega)
  subst hT hS hT' hS'
  have hk := keeps_le hG hst' (i := 0) (j := m) (by omega) h2 h3
  have hE0 : Ext φ (S 0) w φ (S 0) { w with drawn := w.drawn + 1 } := ⟨rfl, rfl, rfl, Nat.le_succ _, Nat.le_refl _, .refl _, rfl, Nat.le_refl _, fun b c d h h' => (by rw [h] at h'; cases h'), fun _ _ _ => rfl, fun _ _ _ => rfl, fun _ _ h => h, fun _ _ _ => by omega, fun _ _ _ h => .inl h⟩
  have gm := (grows_le hG hst' (i := m) (j := ops.size) h2 (Nat.le_refl _)).1
  have hst0 := hA.st.drawn (w.drawn + 1)
  have hdom : ∀ b x, φ b = some x → (S m).get b = (S 0).get b := fun b x hx => by
    by_cases hlt : b < (S 0).size
    · exact hk.keep b hlt
    · by_cases hlt2 : b < (S m).size
      · have := hf b (by omega) (by omega); rw [hx] at this; cases this
      · rw [AH.get_ge (by omega), AH.get_ge (by omega)]
  refine any_wp hC hG hO hfr hst' (w0 := w) hf (fun φ' a' w' hA' hE' => hQ φ' a' w' hA' hE') ops.size (Array.replicate ops.size false) m φ a _ (by simp) ?_ ?_ ?_
  · intro i o hi; simp [Array.getD_eq_getD_getElem?, Array.getElem?_replicate] at hi; split at hi <;> simp at hi
  · simp [List.count_replicate]
  · have hD0 : ∀ i, (Array.replicate ops.size false).getD i false = false := fun i => by simp [Array.getD_eq_getD_getElem?, Array.getElem?_replicate]; split <;> rfl
    refine ⟨h2, fun j hj hl => ?_, h4, ?_, hE0.grow hk (fun b h5 h6 => hf b h5 (by omega)), fun b hb => .inl hb, fun d => ?_, hA.sz, hA.df⟩
    · rw [hD0]
      constructor
      · intro h; cases h
      · intro h; exact absurd hl (h3 j (by omega) h)
    · exact ⟨hst0.inr, fun b c d x hx h => by rw [hdom b _ hx] at h; exact hst0.obj b c d x hx h, fun b b' c d d' x x' hx hx' h h' => by rw [hdom b _ hx] at h; rw [hdom b' _ hx'] at h'; exact hst0.inj b b' c d d' x x' hx hx' h h', hst0.still, fun b c d x hx h => by rw [hdom b _ hx] at h; exact hst0.apart b c d x hx h⟩
    · rw [cur_stop (i := 0) ops.size (by omega) (fun j _ _ _ => hD0 j)]
      exact hA.tm d

theorem evDraw_grows {P : Program} {call : Caller} (hG : CallerGrows call) {nt : Nat} {ops : Array Oper} : ∀ (l : List Oper) (fr : List Bool) (t : Tmps) (σ : AH) (t' : Tmps) (σ' : AH), evDraw P call nt ops l fr t σ = some (t', σ') → Grows σ σ'
  | [], fr, t, σ, t', σ', h => by simp [evDraw] at h; obtain ⟨_, rfl⟩ := h; exact .refl _
  | o :: l, fr, t, σ, t', σ', h => by
    unfold evDraw at h
    split at h
    · obtain ⟨⟨v, σ1⟩, h1, h⟩ := Option.bind_eq_some_iff.1 h
      obtain ⟨t1, _, h⟩ := Option.bind_eq_some_iff.1 h
      have h2 := evDraw_grows hG l fr.tail t1 _ t' σ' h
      have hg := evOp_grows hG h1
      have h3 : Grows σ (σ1.withBase σ.base) := by
        split at hg
        · exact ⟨hg.size, rfl, fun b h4 h5 => hg.keep b h4 h5⟩
        · exact ⟨hg.size, rfl, fun b h4 h5 => hg.keep b h4 h4⟩
      exact h3.trans h2
    · obtain ⟨t1, _, h⟩ := Option.bind_eq_some_iff.1 h
      exact evDraw_grows hG l fr.tail t1 σ t' σ' h
    · cases h

/-! ### code -/
theorem iter_grows {f : Tmps → AH → Option St} (hf : ∀ t σ e t' σ', f t σ = some (e, t', σ') → Grows σ σ') : ∀ (n : Nat) (t : Tmps) (σ : AH) (e : AExit) (t' : Tmps) (σ' : AH), iter f n t σ = some (e, t', σ') → Grows σ σ'
  | 0, t, σ, e, t', σ', h => by simp [iter] at h
  | n + 1, t, σ, e, t', σ', h => by
    unfold iter thenDo at h
    split at h
    · rename_i t1 σ1 h1; exact (hf _ _ _ _ _ h1).trans (iter_grows hf n t1 σ1 e t' σ' h)
    · exact hf _ _ _ _ _ h
theorem evCode_grows {P : Program} {call : Caller} (hG : CallerGrows call) {nt fuel : Nat} : ∀ (c : Code) (t : Tmps) (σ : AH) (e : AExit) (t' : Tmps) (σ' : AH), evCode P call nt fuel c t σ = some (e, t', σ') → Grows σ σ' := by
  intro c
  induction c with
  | skip => intro t σ e t' σ' h; simp [evCode] at h; obtain ⟨_, _, rfl⟩ := h; exact .refl _
  | label l => intro t σ e t' σ' h; simp [evCode] at h; obtain ⟨_, _, rfl⟩ := h; exact .refl _
  | exit id => intro t σ e t' σ' h; simp [evCode] at h; obtain ⟨_, _, rfl⟩ := h; exact .refl _
  | ret => intro t σ e t' σ' h; simp [evCode] at h; obtain ⟨_, _, rfl⟩ := h; exact .refl _
  | region id ops draw =>
    intro t σ e t' σ' h
    unfold evCode at h
    split at h
    · split at h
      · obtain ⟨r, h1, h2⟩ := Option.map_eq_some_iff.1 h
        simp at h2; obtain ⟨_, _, rfl⟩ := h2
        exact evDraw_grows hG _ _ _ _ _ _ h1
      · cases h
    · obtain ⟨r, h1, h2⟩ := Option.map_eq_some_iff.1 h
      simp at h2; obtain ⟨_, _, rfl⟩ := h2
      exact evOps_grows hG _ _ _ _ _ h1
  | seq a b iha ihb =>
    intro t σ e t' σ' h
    unfold evCode thenDo at h
    split at h
    · rename_i t1 σ1 h1; exact (iha _ _ _ _ _ h1).trans (ihb _ _ _ _ _ h)
    · exact iha _ _ _ _ _ h
  | cond c a b iha ihb =>
    intro t σ e t' σ' h
    unfold evCode at h
    split at h
    · exact iha _ _ _ _ _ h
    · exact ihb _ _ _ _ _ h
    · cases h
  | block id body ih =>
    intro t σ e t' σ' h
    unfold evCode blockEnd at h
    split at h
    · rename_i j t1 σ1 h1
      split at h <;> (simp at h; obtain ⟨_, _, rfl⟩ := h; exact ih _ _ _ _ _ h1)
    · exact ih _ _ _ _ _ h
  | loop body ih =>
    intro t σ e t' σ' h
    unfold evCode at h
    exact iter_grows ih fuel t σ e t' σ' h
  | _ => intro t σ e t' σ' h; simp [evCode] at h

def exitOf : AExit → Exit
  | .normal => .normal
  | .exit id => .exit id
  | .ret => .ret

theorem free_then {φ φ1 : Ren} {σ σ1 σ' : AH} {w w1 : World} (hE : Ext φ σ w φ1 σ1 w1) (hf : ∀ b, σ.size ≤ b → b < σ'.size → φ b = none) : ∀ b, σ1.size ≤ b → b < σ'.size → φ1 b = none := fun b h3 h4 => by
  cases hq : φ1 b with
  | none => rfl
  | some p =>
    have h0 := hf b (Nat.le_trans hE.asize h3) h4
    have := (hE.fresh b p.1 p.2 h0 hq).2.1
    omega

theorem evCode_wp {P : Program} {call : Caller} (hC : CallerOk P call) (hG : CallerGrows call) (hm : P.follows .mixedOrders = true) {nt fuel : Nat} : ∀ (c : Code) (t : Tmps) (σ : AH) (e : AExit) (t' : Tmps) (σ' : AH) (Q : Exit → Act → World → Prop) (φ : Ren) (a : Act) (w : World),
    At φ t σ nt a w → (∀ b, σ.size ≤ b → b < σ'.size → φ b = none) → evCode P call nt fuel c t σ = some (e, t', σ') → (∀ φ' a' w', At φ' t' σ' nt a' w' → Ext φ σ w φ' σ' w' → Q (exitOf e) a' w') → c.wp P Q a w := by
  intro c
  induction c with
  | skip => intro t σ e t' σ' Q φ a w hA hf h hQ; simp [evCode] at h; obtain ⟨rfl, rfl, rfl⟩ := h; exact wp_skip (hQ φ a w hA (.refl _ _ _))
  | label l => intro t σ e t' σ' Q φ a w hA hf h hQ; simp [evCode] at h; obtain ⟨rfl, rfl, rfl⟩ := h; exact wp_label (hQ φ a w hA (.refl _ _ _))
  | exit id => intro t σ e t' σ' Q φ a w hA hf h hQ; simp [evCode] at h; obtain ⟨rfl, rfl, rfl⟩ := h; exact wp_exit (hQ φ a w hA (.refl _ _ _))
  | ret => intro t σ e t' σ' Q φ a w hA hf h hQ; simp [evCode] at h; obtain ⟨rfl, rfl, rfl⟩ := h; exact wp_ret (hQ φ a w hA (.refl _ _ _))
  | region id ops draw =>
    intro t σ e t' σ' Q φ a w hA hf h hQ
    unfold evCode at h
    cases draw with
    | true =>
      simp only [if_true] at h
      split at h
      · rename_i hd
        obtain ⟨⟨t1, σ1⟩, h1, h2⟩ := Option.map_eq_some_iff.1 h
        simp at h2; obtain ⟨rfl, rfl, rfl⟩ := h2
        exact evDraw_wp hC hG hm hA hf hd h1 hQ
      · cases h
    | false =>
      simp only [Bool.false_eq_true, if_false] at h
      obtain ⟨⟨t1, σ1⟩, h1, h2⟩ := Option.map_eq_some_iff.1 h
      simp at h2; obtain ⟨rfl, rfl, rfl⟩ := h2
      refine wp_region ?_
      have := evOps_wp hC hG (Q := Q) ops.toList 0 rfl t σ t1 σ1 φ a w hA hf h1 hQ
      rwa [Array.length_toList, ← List.range_eq_range'] at this
  | seq x y ihx ihy =>
    intro t σ e t' σ' Q φ a w hA hf h hQ
    unfold evCode thenDo at h
    refine wp_seq ?_
    split at h
    · rename_i t1 σ1 h1
      have g2 := evCode_grows hG _ _ _ _ _ _ h
      refine ihx t σ .normal t1 σ1 _ φ a w hA (fun b h3 h4 => hf b h3 (Nat.lt_of_lt_of_le h4 g2.size)) h1 fun φ1 a1 w1 hA1 hE1 => ?_
      exact ihy t1 σ1 e t' σ' Q φ1 a1 w1 hA1 (free_then hE1 hf) h fun φ' a' w' hA' hE' => hQ φ' a' w' hA' (hE1.trans hE')
    · rename_i hne
      refine ihx t σ e t' σ' _ φ a w hA hf h fun φ1 a1 w1 hA1 hE1 => ?_
      have := hQ φ1 a1 w1 hA1 hE1
      cases e with
      | normal => exact absurd h (fun h => hne _ _ h)
      | exit id => exact this
      | ret => exact this
  | cond c x y ihx ihy =>
    intro t σ e t' σ' Q φ a w hA hf h hQ
    unfold evCode at h
    have hc := opv_rel hA.tm c
    split at h
    · rename_i hb; rw [hb] at hc; exact wp_cond_true hc.of_bool (ihx t σ e t' σ' Q φ a w hA hf h hQ)
    · rename_i hb; rw [hb] at hc; exact wp_cond_false hc.of_bool (ihy t σ e t' σ' Q φ a w hA hf h hQ)
    · cases h
  | block id body ih =>
    intro t σ e t' σ' Q φ a w hA hf h hQ
    unfold evCode blockEnd at h
    refine wp_block ?_
    split at h
    · rename_i j t1 σ1 h1
      split at h
      · rename_i hj
        simp at h; obtain ⟨rfl, rfl, rfl⟩ := h
        exact ih t σ _ t1 σ1 _ φ a w hA hf h1 fun φ1 a1 w1 hA1 hE1 => by simp only [exitOf, Exit.inBlock, hj, if_true]; exact hQ φ1 a1 w1 hA1 hE1
      · rename_i hj
        simp at h; obtain ⟨rfl, rfl, rfl⟩ := h
        exact ih t σ _ t1 σ1 _ φ a w hA hf h1 fun φ1 a1 w1 hA1 hE1 => by simp only [exitOf, Exit.inBlock, hj, if_false]; exact hQ φ1 a1 w1 hA1 hE1
    · rename_i hne
      refine ih t σ e t' σ' _ φ a w hA hf h fun φ1 a1 w1 hA1 hE1 => ?_
      have := hQ φ1 a1 w1 hA1 hE1
      cases e with
      | normal => exact this
      | exit j => exact absurd h (fun h => hne _ _ _ h)
      | ret => exact this
  | loop body ih =>
    intro t σ e t' σ' Q φ a w hA hf h hQ
    unfold evCode at h
    refine wp_loop_rounds fuel ?_
    have key : ∀ (n : Nat) (t : Tmps) (σ : AH) (φ : Ren) (a : Act) (w : World), At φ t σ nt a w → (∀ b, σ.size ≤ b → b < σ'.size → φ b = none) → iter (fun t σ => evCode P call nt fuel body t σ) n t σ = some (e, t', σ') →
        (∀ φ' a' w', At φ' t' σ' nt a' w' → Ext φ σ w φ' σ' w' → Q (exitOf e) a' w') → Code.rounds P body Q n a w := by
      intro n
      induction n with
      | zero => intro t σ φ a w hA hf h; simp [iter] at h
      | succ n ihn =>
        intro t σ φ a w hA hf h hQ
        rw [rounds_succ]
        unfold iter thenDo at h
        split at h
        · rename_i t1 σ1 h1
          have g2 := iter_grows (fun t σ e t' σ' h => evCode_grows hG body t σ e t' σ' h) n t1 σ1 e t' σ' h
          refine ih t σ .normal t1 σ1 _ φ a w hA (fun b h3 h4 => hf b h3 (Nat.lt_of_lt_of_le h4 g2.size)) h1 fun φ1 a1 w1 hA1 hE1 => ?_
          exact ihn t1 σ1 φ1 a1 w1 hA1 (free_then hE1 hf) h fun φ' a' w' hA' hE' => hQ φ' a' w' hA' (hE1.trans hE')
        · rename_i hne
          refine ih t σ e t' σ' _ φ a w hA hf h fun φ1 a1 w1 hA1 hE1 => ?_
          have := hQ φ1 a1 w1 hA1 hE1
          cases e with
          | normal => exact absurd h (fun h => hne _ _ h)
          | exit id => exact this
          | ret => exact this
    exact key fuel t σ φ a w hA hf h hQ
  | _ => intro t σ e t' σ' Q φ a w hA hf h hQ; simp [evCode] at h

/-! ### calls -/
def resFn (tmps : Array Value) (r : ResultVar) : Sem Value :=
  match r with
  | .tmp t => pure (tmps.getD t undef)
  | .cell b t => do loadVar t (← asAddr (tmps.getD b undef))
theorem resultV_ok {P : Program} {φ : Ren} {t : Tmps} {σ : AH} {nt : Nat} {a : Act} {w : World} (hA : At φ t σ nt a w) {r : ResultVar} {v : Value} (h : resultV P t σ r = some v) :
    ∃ v', (resFn a.tmps r).run P w = .ok v' w ∧ VRel φ v v' := by
  cases r with
  | tmp j => simp [resultV] at h; subst h; exact ⟨_, rfl, hA.tm j⟩
  | cell b ty =>
    simp only [resultV] at h
    obtain ⟨v', h1, h2⟩ := aLoad_ok (P := P) hA.st (hA.tm b) h
    refine ⟨v', ?_, h2⟩
    have hp : ∃ ad, a.tmps.getD b undef = .pointer (some ad) := by
      unfold aLoad at h
      split at h
      · rename_i cs hp
        obtain ⟨m, ms, hq⟩ := fcells_some hp
        have := hA.tm b; rw [hq] at this
        obtain ⟨c, o, us, e, _⟩ := this.of_pfz; exact ⟨_, e⟩
      split at h
      · rename_i x o n hp _ _
        have := hA.tm b; rw [ptrOf_some hp] at this
        obtain ⟨c, d, _, e⟩ := this.of_ptr'; exact ⟨_, e⟩
      · rename_i x o hp _
        have := hA.tm b; rw [ptrOf_some hp] at this
        obtain ⟨c, d, _, e⟩ := this.of_ptr'; exact ⟨_, e⟩
      · cases h
    obtain ⟨ad, hp⟩ := hp
    rw [hp] at h1
    show ((do loadVar ty (← asAddr (a.tmps.getD b undef)) : Sem Value)).run P w = .ok v' w
    rw [hp]
    simpa [Instr.loadAt, Instr.sureAddr, asAddr] using h1
theorem results_list {P : Program} {φ : Ren} {t : Tmps} {σ : AH} {nt : Nat} {a : Act} {w : World} (hA : At φ t σ nt a w) : ∀ (l : List ResultVar) (vs : List Value), l.mapM (resultV P t σ) = some vs →
    ∃ vs', (l.mapM (m := Sem) (resFn a.tmps)).run P w = .ok vs' w ∧ LRel φ vs vs'
  | [], vs, h => by simp at h; subst h; exact ⟨[], by simp, LRel.nil φ⟩
  | r :: l, vs, h => by
    simp only [List.mapM_cons] at h ⊢
    obtain ⟨v, hv, h⟩ := Option.bind_eq_some_iff.1 h
    obtain ⟨vs1, hvs, h⟩ := Option.bind_eq_some_iff.1 h
    simp at h; subst h
    obtain ⟨v', h1, h2⟩ := resultV_ok hA hv
    obtain ⟨vs', h3, h4⟩ := results_list hA l vs1 hvs
    exact ⟨v' :: vs', by simp only [Sem.run_bind, h1, Result.andThen_ok, h3, Sem.run_pure], .cons h2 h4⟩

theorem evCall_grows {P : Program} {S : Caller} (hSg : CallerGrows S) : ∀ n, CallerGrows (evCall P S n)
  | 0 => fun f args σ v σ' h => by simp [evCall] at h
  | n + 1 => fun f args σ v σ' h => by
    unfold evCall at h
    split at h
    · rename_i r hr
      rw [Option.some.inj h] at hr
      exact hSg _ _ _ _ _ hr
    split at h
    · cases h
    · unfold evBody at h
      split at h
      · cases h
      · split at h
        · split at h
          · rename_i t σ1 h1
            obtain ⟨vs, _, h2⟩ := Option.map_eq_some_iff.1 h
            simp at h2; obtain ⟨_, rfl⟩ := h2
            exact evCode_grows (evCall_grows hSg n) _ _ _ _ _ _ h1
          · rename_i t σ1 h1
            obtain ⟨vs, _, h2⟩ := Option.map_eq_some_iff.1 h
            simp at h2; obtain ⟨_, rfl⟩ := h2
            exact evCode_grows (evCall_grows hSg n) _ _ _ _ _ _ h1
          · cases h
        · cases h

/-- THE THEOREM. -/
theorem evCall_ok {P : Program} {S : Caller} (hSg : CallerGrows S) (hSo : CallerOk P S) (hm : P.follows .mixedOrders = true) (hn : ∀ (f : FuncId) (fn : Func), P.funcs[f]? = some fn → (fn.name == "runtime.NumGoroutine") = false) : ∀ n, CallerOk P (evCall P S n)
  | 0 => fun f args σ v σ' h => by simp [evCall] at h
  | n + 1 => fun f args σ v σ' h => by
    unfold evCall at h
    split at h
    · rename_i r hr
      rw [Option.some.inj h] at hr
      exact hSo _ _ _ _ _ hr
    split at h
    · cases h
    rename_i fn hfn
    unfold evBody at h
    split at h
    · cases h
    rename_i c hc
    refine ⟨⟨fn, hfn, by rw [hc]; rfl, hn f fn hfn⟩, fun φ w args' hS hargs hf => ?_⟩
    split at h
    case isFalse => cases h
    rename_i hlen
    -- the body has come to its end
    have main : ∀ (e : AExit) (t : Tmps) (σ1 : AH), (e = .normal ∨ e = .ret) → evCode P (evCall P S n) fn.ntmps n c (start args) σ = some (e, t, σ1) → ((fn.results.toList.mapM (resultV P t σ1)).map fun vs => (tupleOf vs, σ1)) = some (v, σ') →
        Calls P f args'.toArray w fun e w' => ∃ φ' v', e = .returned v' ∧ StRel φ' σ' w' ∧ VRel φ' v v' ∧ Ext φ σ w φ' σ' w' := by
      intro e t σ1 he h1 h2
      obtain ⟨vs, hvs, h2⟩ := Option.map_eq_some_iff.1 h2
      simp at h2; obtain ⟨rfl, rfl⟩ := h2
      refine calls_of_wp hfn hc ?_
      have hl' : args'.length ≤ fn.ntmps := by rw [← hargs.1]; exact hlen
      refine evCode_wp (evCall_ok hSg hSo hm hn n) (evCall_grows hSg n) hm c (start args) σ e t σ1 _ φ _ w ⟨hS, fun j => ?_, by simp; omega, rfl⟩ hf h1 fun φ' a' w' hA' hE' => ?_
      · unfold start
        simp only [List.getD_eq_getElem?_getD]
        rcases hargs.get' j with ⟨e1, e2⟩ | ⟨x, y, e1, e2, r⟩
        · rw [e1]
          have : (args'.toArray ++ Array.replicate (fn.ntmps - args'.toArray.size) undef).getD j undef = undef := by
            simp only [Array.getD_eq_getD_getElem?]
            rw [List.getElem?_eq_none_iff] at e2
            rw [Array.getElem?_append_right (by simpa using e2), Array.getElem?_replicate]
            split <;> rfl
          rw [this]; exact .undef _
        · rw [e1]
          have hj := (List.getElem?_eq_some_iff.1 e2).1
          have : (args'.toArray ++ Array.replicate (fn.ntmps - args'.toArray.size) undef).getD j undef = y := by
            simp only [Array.getD_eq_getD_getElem?]
            rw [Array.getElem?_append_left (by simpa using hj)]
            simp [e2]
          rw [this]; exact r
      · obtain ⟨vs', h3, h4⟩ := results_list hA' _ _ hvs
        have hres : (results fn a'.tmps).run P w' = .ok (tupleOf vs') w' := by
          have e0 : results fn a'.tmps = (fn.results.mapM (resFn a'.tmps) >>= fun vs => pure (if h : vs.size = 1 then vs[0] else .tuple vs)) := rfl
          rw [e0, Array.mapM_eq_mapM_toList]
          simp only [Sem.run_bind, Sem.run_map, h3, Result.andThen_ok, Sem.run_pure]
          congr 1
          match vs' with
          | [] => rfl
          | [x] => rfl
          | x :: y :: r => simp [tupleOf]
        have hrel : VRel φ' (tupleOf vs) (tupleOf vs') := by
          match vs, vs', h4 with
          | [], [], _ => exact VRel.undef _
          | [x], [y], h4 => exact h4.2 0 x y rfl rfl
          | x :: x2 :: xs, y :: y2 :: ys, h4 => exact VRel.tuple_of h4
          | [], _ :: _, h4 => exact absurd h4.1 (by simp)
          | _ :: _, [], h4 => exact absurd h4.1 (by simp)
          | [_], _ :: _ :: _, h4 => exact absurd h4.1 (by simp)
          | _ :: _ :: _, [_], h4 => exact absurd h4.1 (by simp)
        rcases he with rfl | rfl <;> exact ⟨hA'.df, tupleOf vs', hres, φ', tupleOf vs', rfl, hA'.st, hrel, hE'⟩
    split at h
    · rename_i t σ1 h1; exact main .normal t σ1 (.inl rfl) h1 h
    · rename_i t σ1 h1; exact main .ret t σ1 (.inr rfl) h1 h
    · cases h
end Go.Ab
