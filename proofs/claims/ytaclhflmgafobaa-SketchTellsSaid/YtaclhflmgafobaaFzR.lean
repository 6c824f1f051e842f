/- Rules that the printed walks use. -/
import Derived.Test.YtaclhflmgafobaaFzQ
namespace Go.Ab
open Go
set_option linter.unusedSimpArgs false
set_option linter.unusedVariables false

theorem bind_some {α β : Type} {o : Option α} {f : α → Option β} {r : β} (h : o.bind f = some r) : ∃ a, o = some a ∧ f a = some r := Option.bind_eq_some_iff.1 h

/-! ### nil is the slice without elements -/
def wkc (v : Value) : Value := match v with
  | .slice none 0 0 => fz 0 #[]
  | v => v
def wkv (v : Value) : Value := match v with
  | .agg cs => .agg (cs.map wkc)
  | v => wkc v
theorem Wk.wkc (v : Value) : Wk (wkc v) v := by
  unfold Ab.wkc; split
  · exact .nil
  · exact .same _
theorem Wk.wkv (v : Value) : Wk (wkv v) v := by
  unfold Ab.wkv; split
  · intro φ v' hv
    obtain ⟨cs', rfl, hc⟩ := hv.of_agg
    refine VRel.agg_of' ⟨by have := hc.1; simpa using this, fun i v2 v' e e' => ?_⟩
    simp only [Array.toList_map, List.getElem?_map, Option.map_eq_some_iff] at e
    obtain ⟨v, e, rfl⟩ := e
    exact Wk.wkc v φ v' (hc.2 i v v' e e')
  · exact .wkc _
theorem Wk.of {v2 v : Value} (h : Ab.wkv v = v2) : Wk v2 v := h ▸ Wk.wkv v
def LWk : List Value → List Value → Prop
  | [], [] => True
  | v :: vs, a :: as => Wk v a ∧ LWk vs as
  | _, _ => False
theorem LWk.nil : LWk [] [] := trivial
theorem LWk.cons {v a : Value} {vs as : List Value} (h : Wk v a) (hs : LWk vs as) : LWk (v :: vs) (a :: as) := ⟨h, hs⟩
theorem LWk.rel {φ : Ren} : ∀ {vs as as' : List Value}, LWk vs as → LRel φ as as' → LRel φ vs as'
  | [], [], _, _, h => h
  | v :: vs, a :: as, [], _, h => absurd h.1 (by simp)
  | v :: vs, a :: as, a' :: as', ⟨h1, h2⟩, h => .cons (h1 φ a' (h.2 0 a a' rfl rfl)) (LWk.rel h2 ⟨by simpa using h.1, fun i x y e e' => h.2 (i + 1) x y (by simpa using e) (by simpa using e')⟩)
theorem Fn.args {P : Program} {f : FuncId} {vs as : List Value} {σ : AH} {R : Value → AH → Prop} (h : Fn P f vs σ R) (hw : LWk vs as) : Fn P f as σ R :=
  ⟨h.1, fun φ w args' h1 h2 h3 => h.2 φ w args' h1 (hw.rel h2) h3⟩
section
variable {P : Program} {nt n0 : Nat} {ops : Array Oper} {ol : List Oper} {o : Oper} {t t1 : Tmps} {σ : AH} {Q : Tmps → AH → Prop} {v v2 : Value}
theorem MO.weakAt (d : Nat) (hv : t d = v) (hw : Wk v2 v) (hc : MO P nt n0 ops ol (upd t d v2) σ Q) : MO P nt n0 ops ol t σ Q :=
  MO.weak (fun j => by
    unfold upd; split
    · rename_i h; subst h; rw [hv]; exact hw
    · exact .same _) hc
theorem MC.weakAt {c : Code} {Q : AExit → Tmps → AH → Prop} (d : Nat) (hv : t d = v) (hw : Wk v2 v) (hc : MC P nt n0 c (upd t d v2) σ Q) : MC P nt n0 c t σ Q :=
  MC.weak (fun j => by
    unfold upd; split
    · rename_i h; subst h; rw [hv]; exact hw
    · exact .same _) hc
theorem want_yes {j d : Nat} {want q : Bool} (hg : o.guard = some (j, want)) (hd : (ops[j]?).bind (·.dst) = some d) (ht : t d = .bool q) (hq : q = want) : wantA ops o t = some true := by
  unfold wantA; rw [hg]; simp only [hd, ht, hq, beq_self_eq_true]
theorem want_no {j d : Nat} {want q : Bool} (hg : o.guard = some (j, want)) (hd : (ops[j]?).bind (·.dst) = some d) (ht : t d = .bool q) (hq : q = !want) : wantA ops o t = some false := by
  unfold wantA; rw [hg]; simp only [hd, ht, hq]; cases want <;> rfl
theorem callee_of {f : Operand} {as : Array Operand} {g : FuncId} {vs : List Value} (hf : opv t f = .func (.func g) #[] #[]) (ha : as.toList.map (opv t) = vs) : callee (opv t f) (as.toList.map (opv t)) = some (g, vs) := by
  rw [hf, ha]; simp [callee]
theorem args_nil {ρ : Operand → Value} : ([] : List Operand).map ρ = [] := rfl
theorem args_cons {ρ : Operand → Value} {X : Operand} {Xs : List Operand} {x : Value} {xs : List Value} (h : ρ X = x) (hs : Xs.map ρ = xs) : (X :: Xs).map ρ = x :: xs := by rw [List.map_cons, h, hs]
theorem parts_nil {ρ : Operand → Value} : ([] : List (Nat × Operand)).map (fun p => (p.1, ρ p.2)) = [] := rfl
theorem parts_cons {ρ : Operand → Value} {i : Nat} {X : Operand} {Xs : List (Nat × Operand)} {x : Value} {xs : List (Nat × Value)} (h : ρ X = x) (hs : Xs.map (fun p => (p.1, ρ p.2)) = xs) : ((i, X) :: Xs).map (fun p => (p.1, ρ p.2)) = (i, x) :: xs := by rw [List.map_cons, hs]; simp only [h]
theorem res_nil : ([] : List ResultVar).mapM (resultV P t σ) = some [] := rfl
theorem res_cons {r : ResultVar} {l : List ResultVar} {v : Value} {vs : List Value} (h : resultV P t σ r = some v) (hs : l.mapM (resultV P t σ) = some vs) : (r :: l).mapM (resultV P t σ) = some (v :: vs) := by
  simp [List.mapM_cons, h, hs]
theorem res_tmp {j : Nat} (h : t j = v) : resultV P t σ (.tmp j) = some v := by rw [← h]; rfl
theorem res_cell {a : Nat} {ty : TypeId} {p : Value} (hp : t a = p) (h : aLoad P ty p σ = some v) : resultV P t σ (.cell a ty) = some v := by rw [← h, ← hp]; rfl
theorem Block.exit {id : Nat} {Q : AExit → Tmps → AH → Prop} (h : Q .normal t σ) : Block id Q (.exit id) t σ := by simpa [Block] using h
theorem Block.other {id j : Nat} {Q : AExit → Tmps → AH → Prop} (hne : j ≠ id) (h : Q (.exit j) t σ) : Block id Q (.exit j) t σ := by simpa [Block, hne] using h
/-- A call that needs no memory. -/
theorem MO.pureW {f : Operand} {as : Array Operand} {ts : Array TypeId} {g : FuncId} {vs as' : List Value} (hn : n0 ≤ σ.size) (hw : wantA ops o t = some true) (ho : o.op = .call { callee := .value f, args := as, argTypes := ts })
    (hc : callee (opv t f) (as.toList.map (opv t)) = some (g, as')) (hl : LWk vs as') (hP : Pure P g vs v) (hp : putA nt t o.dst v = some t1) (h : MO P nt n0 ops ol t1 σ Q) : MO P nt n0 ops (o :: ol) t σ Q :=
  MO.call hn hw ho hc (((hP.fn σ).args hl).mono fun r σ' ⟨h1, h2⟩ => by subst h1 h2; exact ⟨hn, t1, hp, h⟩)
end

/-! ### a call looks at what is one's own -/
/-- An argument: as it is, or a slice of one's own as a list. -/
def Bw (l : List It) (v a : Value) : Prop := Wk v a ∨ ∃ (α : Type) (e : En α) (xs : List α), It.sl e a xs ∈ l ∧ v = slv e xs
def LBw (l : List It) : List Value → List Value → Prop
  | [], [] => True
  | v :: vs, a :: as => Bw l v a ∧ LBw l vs as
  | _, _ => False
theorem LBw.nil {l : List It} : LBw l [] [] := trivial
theorem LBw.cons {l : List It} {v a : Value} {vs as : List Value} (h : Bw l v a) (hs : LBw l vs as) : LBw l (v :: vs) (a :: as) := ⟨h, hs⟩
theorem all_still {φ : Ren} {w : World} : ∀ (l : List It) (σ : AH), Hp σ l → StRel φ σ w → Ends φ σ →
    ∃ φ2 σ2, StRel φ2 σ2 w ∧ Ends φ2 σ2 ∧ φ2.pos = φ.pos ∧ φ2.lim = φ.lim ∧ (∀ v v', VRel φ v v' → VRel φ2 v v') ∧ ∀ v a v', Bw l v a → VRel φ a v' → VRel φ2 v v' := by
  intro l
  induction l generalizing φ with
  | nil =>
    intro σ h hS hE
    refine ⟨φ, σ, hS, hE, rfl, rfl, fun _ _ h => h, fun v a v' hb hv => ?_⟩
    rcases hb with hb | ⟨_, _, _, hm, _⟩
    · exact hb φ v' hv
    · simp at hm
  | cons it l ih =>
    intro σ h hS hE
    have easy : (∀ v a v', (∃ (α : Type) (e : En α) (xs : List α), It.sl e a xs = it ∧ v = slv e xs) → VRel φ a v' → VRel φ v v') →
        ∃ φ2 σ2, StRel φ2 σ2 w ∧ Ends φ2 σ2 ∧ φ2.pos = φ.pos ∧ φ2.lim = φ.lim ∧ (∀ v v', VRel φ v v' → VRel φ2 v v') ∧ ∀ v a v', Bw (it :: l) v a → VRel φ a v' → VRel φ2 v v' := fun hno => by
      obtain ⟨φ2, σ2, h1, h2, h3, h4, h5, h6⟩ := ih σ h.tail hS hE
      refine ⟨φ2, σ2, h1, h2, h3, h4, h5, fun v a v' hb hv => ?_⟩
      rcases hb with hb | ⟨α, e, xs, hm, hv2⟩
      · exact h6 v a v' (.inl hb) hv
      · rcases List.mem_cons.1 hm with hm | hm
        · exact h5 _ _ (hno v a v' ⟨α, e, xs, hm, hv2⟩ hv)
        · exact h6 v a v' (.inr ⟨α, e, xs, hm, hv2⟩) hv
    match it with
    | .box b cs => exact easy fun v a v' ⟨_, _, _, hm, _⟩ => by cases hm
    | .mp b es k => exact easy fun v a v' ⟨_, _, _, hm, _⟩ => by cases hm
    | .own a0 s n cs =>
      obtain ⟨hl, ⟨hv0, h1⟩ | ⟨b, o, cap, C, rfl, h1, h2, h3, h4, h5⟩⟩ := h.all (.own a0 s n cs) (by simp)
      · refine easy fun v a v' ⟨α, e, xs, hm, hv2⟩ hv => ?_
        simp only [It.sl, It.own.injEq] at hm
        obtain ⟨rfl, _, hn, _⟩ := hm
        have : xs = [] := List.eq_nil_of_length_eq_zero (by omega)
        subst this hv2
        exact hv0.wk φ v' hv
      · have hb := AH.get_lt h3
        have hcap : n * s ≤ cap * s := Nat.mul_le_mul_right _ h1
        have hst : Stills b s C (σ.put b .dead) σ := ⟨⟨h3, h2⟩, fun o' ho => by rw [AH.get_put hb, if_pos rfl] at ho; cases ho; rfl, AH.size_put, rfl, fun b' o2 ho hl => by
          rw [AH.get_put hb] at ho
          split at ho
          · cases ho; cases hl
          · exact ⟨o2, ho, .same _ _ _⟩⟩
        have hH : Hp (σ.put b .dead) l := ⟨fun x hx => It.ok_keep (h.tail.all x hx) rfl fun b' hb' => by
          rw [AH.get_put hb, if_neg]; rintro rfl
          exact (List.pairwise_cons.1 h.apart).1 x hx _ rfl hb', h.tail.apart, by rw [AH.size_put]; exact h.base⟩
        obtain ⟨φ1, q1, q2, q3, q4, hpos⟩ := hst.ok' hS hE 0
        obtain ⟨φ2, σ2, g1, g2, g3, g4, g5, g6⟩ := ih (σ.put b .dead) hH q1 q2
        refine ⟨φ2, σ2, g1, g2, g3.trans hpos.1, g4.trans hpos.2, fun v v' hv => g5 _ _ (q4 _ _ _ (.same _ _ _) hv), fun v a v' hbw hv => ?_⟩
        rcases hbw with hbw | ⟨α, e, xs, hm, hv2⟩
        · exact g5 _ _ (q4 _ _ _ (.same _ _ _) (hbw φ v' hv))
        · rcases List.mem_cons.1 hm with hm | hm
          · simp only [It.sl, It.own.injEq] at hm
            obtain ⟨rfl, rfl, rfl, rfl⟩ := hm
            have hc := Cz.slice (b := b) (o := o) (n := xs.length) (k := cap) (s := e.sz) (cs := C) h1 (by omega)
            rw [← h5] at hc
            rw [hv2]
            exact g5 _ _ (q4 _ _ _ hc hv)
          · exact g6 v a v' (.inr ⟨α, e, xs, hm, hv2⟩) (q4 _ _ _ (.same _ _ _) hv)
theorem LBw.rel {φ φ2 : Ren} {l : List It} (h : ∀ v a v', Bw l v a → VRel φ a v' → VRel φ2 v v') : ∀ {vs as as' : List Value}, LBw l vs as → LRel φ as as' → LRel φ2 vs as'
  | [], [], as', _, h => ⟨h.1, fun i x y e => by simp at e⟩
  | v :: vs, a :: as, [], _, h => absurd h.1 (by simp)
  | v :: vs, a :: as, a' :: as', ⟨h1, h2⟩, hr => .cons (h v a a' h1 (hr.2 0 a a' rfl rfl)) (LBw.rel h h2 ⟨by simpa using hr.1, fun i x y e e' => hr.2 (i + 1) x y (by simpa using e) (by simpa using e')⟩)
/-- What says the same to all: numbers, truth values, and some of these. -/
def Plain (v : Value) : Prop := ∀ (φ φ' : Ren) (v' : Value), VRel φ v v' → VRel φ' v v'
theorem Plain.prim {v : Value} (h : Ab.prim v = true) : Plain v := fun φ φ' v' hv => by rw [prim_eq hv h]; exact .prim h
theorem Plain.tuple {cs : Array Value} (hne : cs ≠ #[.nilFunc]) (h : ∀ v ∈ cs.toList, Plain v) : Plain (.tuple cs) := fun φ φ' v' hv => by
  obtain ⟨cs', rfl, hc⟩ := hv.of_tuple hne
  have := VRel.tuple_of (φ := φ') (xs := cs.toList) (ys := cs'.toList) ⟨hc.1, fun i v v' e e' => h v (List.mem_of_getElem? e) φ φ' v' (hc.2 i v v' e e')⟩
  simpa using this
theorem Plain.agg {cs : Array Value} (h : ∀ v ∈ cs.toList, Plain v) : Plain (.agg cs) := fun φ φ' v' hv => by
  obtain ⟨cs', rfl, hc⟩ := hv.of_agg
  exact VRel.agg_of' ⟨hc.1, fun i v v' e e' => h v (List.mem_of_getElem? e) φ φ' v' (hc.2 i v v' e e')⟩
theorem Pure.borrow {P : Program} {f : FuncId} {vs as : List Value} {v : Value} (h : Pure P f vs v) (hv : Plain v) {σ : AH} {l : List It} (hH : Hp σ l) (hb : LBw l vs as) : Fn P f as σ fun r σ' => r = v ∧ σ' = σ := by
  refine ⟨h.2.2.1, fun φ w args' hS hl hE => ?_⟩
  obtain ⟨φ2, σ2, h1, h2, h3, h4, h5, h6⟩ := all_still l σ hH hS hE
  refine (h.run h1 (hb.rel h6 hl)).mono ?_
  rintro e w' ⟨φ', v', rfl, q1, q2, q3, q4, q5⟩
  have hst : StRel φ σ w' := by
    refine ⟨fun b c d hb => Nat.lt_of_lt_of_le (hS.inr b c d hb) q4.hsize, fun b c d o hb ho => ?_, hS.inj, fun c i u hu => ?_, hS.apart⟩
    · by_cases hl : o.live = true
      · have := hS.obj b c d o hb ho
        exact this.congr (q5 c (this.lt hl))
      · cases o <;> simp_all [AObj.live, ORel]
    · obtain ⟨C, e, fr, g1, g2⟩ := hS.still c i u hu
      exact ⟨C, e, fr, by rw [q5 c (Array.getElem?_eq_some_iff.1 g1).1]; exact g1, g2⟩
  refine ⟨v, σ, φ, v', ⟨rfl, rfl⟩, rfl, hst, hE, hv φ' φ v' q3, ?_⟩
  exact ⟨q4.os, q4.tape, q4.output, q4.drawn, q4.hsize, fun _ _ _ h => h, fun _ _ _ h => .inl h, fun c hc _ => q5 c hc, fun b c d h h' => .inr ⟨b, d, h, h'⟩, fun b _ => ⟨rfl, fun _ _ _ => rfl⟩⟩
section
variable {P : Program} {nt n0 : Nat} {ops : Array Oper} {ol : List Oper} {o : Oper} {t t1 : Tmps} {σ : AH} {Q : Tmps → AH → Prop} {v v2 : Value} {l : List It}
/-- A call that looks at what is one's own, and answers numbers. -/
theorem MO.borrow {f : Operand} {as : Array Operand} {ts : Array TypeId} {g : FuncId} {vs as' : List Value} (hn : n0 ≤ σ.size) (hw : wantA ops o t = some true) (ho : o.op = .call { callee := .value f, args := as, argTypes := ts })
    (hc : callee (opv t f) (as.toList.map (opv t)) = some (g, as')) (hH : Hp σ l) (hl : LBw l vs as') (hP : Pure P g vs v) (hv : Plain v) (hp : putA nt t o.dst v = some t1) (h : MO P nt n0 ops ol t1 σ Q) : MO P nt n0 ops (o :: ol) t σ Q :=
  MO.call hn hw ho hc ((hP.borrow hv hH hl).mono fun r σ' ⟨h1, h2⟩ => by subst h1 h2; exact ⟨hn, t1, hp, h⟩)
end

/-! ### what is made with nil slices in it -/
/-- Cells that say less. -/
def OWk : AObj → AObj → Prop
  | .cells ro2 z2 cs2, .cells ro z cs => ro2 = ro ∧ z2 = z ∧ ∀ (i : Nat) (v2 : Value), cs2[i]? = some v2 → ∃ v, cs[i]? = some v ∧ Wk v2 v
  | o2, o => o2 = o
theorem OWk.rfl' (o : AObj) : OWk o o := by
  cases o with
  | cells ro z cs => exact ⟨rfl, rfl, fun i v hv => ⟨v, hv, .same _⟩⟩
  | _ => rfl
theorem OWk.kind {o2 o : AObj} (h : OWk o2 o) : o2.live = o.live ∧ o2.isRo = o.isRo ∧ o2.wr = o.wr := by
  cases o2 with
  | cells ro2 z2 cs2 =>
    cases o with
    | cells ro z cs => obtain ⟨rfl, _⟩ := h; cases ro2 <;> exact ⟨rfl, rfl, rfl⟩
    | _ => cases h
  | _ => cases h; exact ⟨rfl, rfl, rfl⟩
theorem OWk.rel {φ : Ren} {w : World} {c d : Nat} {o2 o : AObj} (h : OWk o2 o) (hO : ORel φ w c d o) : ORel φ w c d o2 := by
  cases o2 with
  | cells ro2 z2 cs2 =>
    cases o with
    | cells ro z cs =>
      obtain ⟨rfl, rfl, h3⟩ := h
      obtain ⟨C, e, fr, h4, h5, h6, h7⟩ := hO
      refine ⟨C, e, fr, h4, h5, h6, fun i v2 hv2 => ?_⟩
      obtain ⟨v, hv, hr⟩ := h3 i v2 hv2
      obtain ⟨v', h8, h9⟩ := h7 i v hv
      exact ⟨v', h8, hr φ v' h9⟩
    | _ => cases h
  | _ => cases h; exact hO
theorem MO.weakH {P : Program} {nt n0 : Nat} {ops : Array Oper} {ol : List Oper} {t : Tmps} {σ σ2 : AH} {Q : Tmps → AH → Prop} (hz : σ2.size = σ.size) (hb : σ2.base = σ.base) (hg : ∀ b o2, σ2.get b = some o2 → ∃ o, σ.get b = some o ∧ OWk o2 o) (hc : MO P nt n0 ops ol t σ2 Q) : MO P nt n0 ops ol t σ Q :=
  fun k hk φ a w R hA hE hR => by
    have hS := hA.st
    have hS2 : StRel φ σ2 w := by
      refine ⟨hS.inr, fun b c d o2 hb ho => ?_, fun b b' c d d' o2 o2' hb hb' ho ho' hl hl' hne => ?_, hS.still, fun b c d o2 hb ho hw i => ?_⟩
      · obtain ⟨o, h1, h2⟩ := hg b o2 ho
        exact h2.rel (hS.obj b c d o hb h1)
      · obtain ⟨o, h1, h2⟩ := hg b o2 ho
        obtain ⟨o', h1', h2'⟩ := hg b' o2' ho'
        rw [h2.kind.2.1, h2'.kind.2.1]
        exact hS.inj b b' c d d' o o' hb hb' h1 h1' (by rw [← h2.kind.1]; exact hl) (by rw [← h2'.kind.1]; exact hl') hne
      · obtain ⟨o, h1, h2⟩ := hg b o2 ho
        exact hS.apart b c d o hb h1 (by rw [← h2.kind.2.2]; exact hw) i
    have wr : ∀ b, σ2.wr b → σ.wr b := fun b ⟨h1, o2, h2, h3⟩ => by
      obtain ⟨o, h4, h5⟩ := hg b o2 h2
      exact ⟨by rw [← hb]; exact h1, o, h4, by rw [← h5.kind.2.2]; exact h3⟩
    refine hc k hk φ a w R ⟨hS2, hA.tm, hA.sz, hA.df⟩ (fun b h => hE b (by rw [← hz]; exact h)) fun t' σ' φ' a' w' q1 q2 q3 q4 => hR t' σ' φ' a' w' q1 q2 q3 ?_
    refine ⟨q4.os, q4.tape, q4.output, q4.drawn, q4.hsize, q4.still, fun c i u e => ?_, fun c hc hn => q4.frameC c hc fun b d h1 h2 => hn b d h1 (wr b h2), fun b c d e hw => ?_, q4.kept⟩
    · rcases q4.stills c i u e with e | e | ⟨b0, d0, e, hw⟩
      · exact .inl e
      · exact .inr (.inl e)
      · exact .inr (.inr ⟨b0, d0, e, wr _ hw⟩)
    · rcases q4.own b c d e hw with e | ⟨b0, d0, e, hw⟩
      · exact .inl e
      · exact .inr ⟨b0, d0, e, wr _ hw⟩
theorem push_weak {σ : AH} {z : Nat} {cs2 cs : List Value} (h : cs2 = cs.map wkc) : ∀ b o2, (σ.push (.cells false z cs2)).get b = some o2 → ∃ o, (σ.push (.cells false z cs)).get b = some o ∧ OWk o2 o := fun b o2 ho => by
  rw [AH.get_push] at ho ⊢
  split at ho
  · rename_i hb
    rw [if_pos hb]
    obtain rfl := Option.some.inj ho
    refine ⟨_, rfl, rfl, rfl, fun i v2 hv2 => ?_⟩
    subst h
    simp only [List.getElem?_map, Option.map_eq_some_iff] at hv2
    obtain ⟨v, hv, rfl⟩ := hv2
    exact ⟨v, hv, Wk.wkc v⟩
  · rename_i hb
    rw [if_neg hb]
    exact ⟨o2, ho, .rfl' _⟩
section
variable {α : Type} {P : Program} {nt n0 : Nat} {ops : Array Oper} {ol : List Oper} {o : Oper} {t : Tmps} {σ : AH} {Q : Tmps → AH → Prop} {l : List It} {e : En α}
/-- A box with a type's zero value in it. -/
theorem MO.allocW {ty : TypeId} {z : Value} {x : α} (hn : n0 ≤ σ.size) (hw : wantA ops o t = some true) (ho : o.op = .alloc ty) (hz : zeroOf P ty = some z) (ht : isTuple z = false) (hx : (cellsOfV z).map wkc = e.cells x) (hH : Hp σ l) {d : Nat} (hd : o.dst = some d) (hdn : d < nt)
    (k : ∀ b σ', Hp σ' (.box b (e.cells x) :: l) → MO P nt n0 ops ol (upd t d (.pointer (some ⟨b, 0, none⟩))) σ' Q) : MO P nt n0 ops (o :: ol) t σ Q := by
  refine MO.op (v := .pointer (some ⟨σ.size, 0, none⟩)) (σ1 := σ.push (.cells false 0 (cellsOfV z))) (t1 := upd t d (.pointer (some ⟨σ.size, 0, none⟩))) hn hw (by rw [ho]; exact ev_alloc hz ht rfl) (by rw [hd]; simp only [putA, hdn, if_true]) ?_
  refine MO.weakH (σ2 := σ.push (.cells false 0 (e.cells x))) (by rw [AH.size_push, AH.size_push]) rfl (push_weak hx.symm) ?_
  exact k σ.size _ (hH.push _ ⟨hH.base, 0, by rw [AH.get_push, if_pos rfl]⟩ (fun b hb => by cases hb; exact Nat.le_refl _))
end
end Go.Ab
