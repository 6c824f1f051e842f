/- A slice of one's own that was put into a box stands still. -/
import Derived.Test.YtaclhflmgafobaaFzS
namespace Go.Ab
open Go
set_option linter.unusedSimpArgs false
set_option linter.unusedVariables false

/-- Without a step of the machine's: something may be told anew. -/
def MG (nt n0 : Nat) (t : Tmps) (σ : AH) (K : Tmps → AH → Prop) : Prop := ∀ (φ : Ren) (a : Act) (w : World) (R : Prop), At φ t σ nt a w → Ends φ σ → (∀ t' σ' φ', K t' σ' → At φ' t' σ' nt a w → Ends φ' σ' → Fr n0 φ σ w φ' σ' w → R) → R
theorem MG.done {nt n0 : Nat} {t : Tmps} {σ : AH} {K : Tmps → AH → Prop} (h : K t σ) : MG nt n0 t σ K := fun φ a w R hA hE hR => hR t σ φ h hA hE (.refl _ _ _ _)
theorem MC.fixN {P : Program} {nt n0 : Nat} {c : Code} {t : Tmps} {σ : AH} {Q : AExit → Tmps → AH → Prop} (h : MC P nt n0 c t σ (Then (fun t σ => MG nt n0 t σ (fun t σ => Q .normal t σ)) Q)) : MC P nt n0 c t σ Q := fun φ a w R hA hE hR => by
  refine h φ a w R hA hE fun e t1 σ1 φ1 a1 w1 hq hA1 hE1 hF1 => ?_
  cases e with
  | normal => exact hq φ1 a1 w1 _ hA1 hE1 fun t' σ' φ' h1 h2 h3 h4 => hR .normal t' σ' φ' a1 w1 h1 h2 h3 (hF1.trans h4)
  | exit id => exact hR _ _ _ _ _ _ hq hA1 hE1 hF1
  | ret => exact hR _ _ _ _ _ _ hq hA1 hE1 hF1
theorem MG.weak {nt n0 : Nat} {t t2 : Tmps} {σ : AH} {K : Tmps → AH → Prop} (ht : ∀ j, Wk (t2 j) (t j)) (hc : MG nt n0 t2 σ K) : MG nt n0 t σ K :=
  fun φ a w R hA hE hR => hc φ a w R ⟨hA.st, fun j => ht j φ _ (hA.tm j), hA.sz, hA.df⟩ hE hR
theorem MG.freeze {nt n0 : Nat} {t t2 : Tmps} {σ σ2 : AH} {K : Tmps → AH → Prop} (b z : Nat) (cs : List Value) (h : Stills b z cs σ2 σ) (ht : ∀ j, Cz b cs (t2 j) (t j)) (hc : MG nt n0 t2 σ2 K) : MG nt n0 t σ K :=
  fun φ a w R hA hE hR => by
    obtain ⟨φ2, h1, h2, h3, h4⟩ := h.ok hA.st hE n0
    exact hc φ2 a w R ⟨h1, fun j => h4 _ _ _ (ht j) (hA.tm j), hA.sz, hA.df⟩ h2 fun t' σ' φ' q1 q2 q3 q4 => hR t' σ' φ' q1 q2 q3 (h3.trans q4)
theorem MG.weakH {nt n0 : Nat} {t : Tmps} {σ σ2 : AH} {K : Tmps → AH → Prop} (hz : σ2.size = σ.size) (hb : σ2.base = σ.base) (hg : ∀ b o2, σ2.get b = some o2 → ∃ o, σ.get b = some o ∧ OWk o2 o) (hc : MG nt n0 t σ2 K) : MG nt n0 t σ K :=
  fun φ a w R hA hE hR => by
    have hS := hA.st
    have hS2 : StRel φ σ2 w := by
      refine ⟨hS.inr, fun b c d o2 hb ho => ?_, fun b b' c d d' o2 o2' hb hb' ho ho' hl hl' hne => ?_, hS.still, fun b c d o2 hb ho hw i => ?_⟩
      · obtain ⟨o, h1, h2⟩ := hg b o2 ho
        exact h2.rel (hS.obj b c d o hb h1)
      · obtain ⟨o, h1, h2⟩ := hg b o2 ho
        obtain ⟨o', h1', h2'⟩ := hg b' o2' ho'
        rw [h2.kind.2.1, h2'.kind.2.1]
        exact hS.inj b b' c d d' o o' hb hb' h1 h1' (by rw [← h2.kind.1]; exact hl) (by rw [← h2'.kind.1]; exact hl') hne
      · obtain ⟨o, h1, h2⟩ := hg b o2 ho
        exact hS.apart b c d o hb h1 (by rw [← h2.kind.2.2]; exact hw) i
    have wr : ∀ b, σ2.wr b → σ.wr b := fun b ⟨h1, o2, h2, h3⟩ => by
      obtain ⟨o, h4, h5⟩ := hg b o2 h2
      exact ⟨by rw [← hb]; exact h1, o, h4, by rw [← h5.kind.2.2]; exact h3⟩
    refine hc φ a w R ⟨hS2, hA.tm, hA.sz, hA.df⟩ (fun b h => hE b (by rw [← hz]; exact h)) fun t' σ' φ' q1 q2 q3 q4 => hR t' σ' φ' q1 q2 q3 ?_
    refine ⟨q4.os, q4.tape, q4.output, q4.drawn, q4.hsize, q4.still, fun c i u e => ?_, fun c hc hn => q4.frameC c hc fun b d h1 h2 => hn b d h1 (wr b h2), fun b c d e hw => ?_, q4.kept⟩
    · rcases q4.stills c i u e with e | e | ⟨b0, d0, e, hw⟩
      · exact .inl e
      · exact .inr (.inl e)
      · exact .inr (.inr ⟨b0, d0, e, wr _ hw⟩)
    · rcases q4.own b c d e hw with e | ⟨b0, d0, e, hw⟩
      · exact .inl e
      · exact .inr ⟨b0, d0, e, wr _ hw⟩
section
variable {α β : Type} {P : Program} {σ : AH} {l : List It} {i k : Nat} {e : En α} {v : Value} {xs : List α} {t : Tmps} {nt n0 : Nat}
theorem sl_value (h : (It.sl e v xs).ok σ) : isCell v = true ∧ isTuple v = false ∧ cellsOfV v = [v] := by
  obtain ⟨_, ⟨hv, _⟩ | ⟨b, o, cap, C, rfl, _⟩⟩ := h
  · rcases hv with rfl | rfl <;> exact ⟨rfl, rfl, rfl⟩
  · exact ⟨rfl, rfl, rfl⟩
/-- A slice of one's own is put into a box. -/
theorem Hp.boxRaw (h : Hp σ l) {b : Nat} {cs : List Value} (hi : l[i]? = some (.box b cs)) (hk : l[k]? = some (It.sl e v xs)) {o : Nat} {ty : TypeId} (hs : szOf P ty = some 1) (hcs : o + 1 ≤ cs.length) :
    ∃ σ', aStore P ty (.pointer (some ⟨b, o, none⟩)) v σ = some σ' ∧ Hp σ' (l.set i (.box b (spliceAt cs o [v]))) ∧ σ'.size = σ.size := by
  obtain ⟨hb, z, hg⟩ := h.at hi
  obtain ⟨h1, h2, h3⟩ := sl_value (h.at hk)
  refine ⟨σ.put b (.cells false z (spliceAt cs o [v])), ?_, ?_, AH.size_put⟩
  · simp only [aStore, ptrOf, hs, h3, h2]
    rw [if_pos ⟨trivial, rfl, by simp [h1]⟩]
    simp only [AH.setRow, hg]
    rw [if_pos ⟨hb, by simpa using hcs⟩]
  · refine h.set hi rfl (by rw [AH.size_put]; exact Nat.le_refl _) (fun b' hb' hne => ?_) ⟨hb, z, by rw [AH.get_put (AH.get_lt hg), if_pos rfl]⟩ fun b' hb' => .inl hb'
    rw [AH.get_put (AH.get_lt hg), if_neg]; rintro rfl; exact hne rfl
theorem splice_get {cs : List Value} {o : Nat} {x y : Value} (ho : o + 1 ≤ cs.length) (j : Nat) (w : Value) (h : (spliceAt cs o [x])[j]? = some w) : (j = o ∧ w = x ∧ (spliceAt cs o [y])[j]? = some y) ∨ (spliceAt cs o [y])[j]? = some w := by
  have hl : (cs.take o).length = o := by simp; omega
  simp only [spliceAt, List.append_assoc, List.getElem?_append, hl, List.length_singleton] at *
  by_cases h1 : j < o
  · rw [if_pos h1] at h ⊢; exact .inr h
  · rw [if_neg h1] at h ⊢
    by_cases h2 : j - o < 1
    · rw [if_pos h2] at h ⊢
      have : j - o = 0 := by omega
      rw [this] at h ⊢
      simp at h; subst h
      exact .inl ⟨by omega, rfl, rfl⟩
    · rw [if_neg h2] at h ⊢; exact .inr h
theorem MG.stillIn {K : Tmps → AH → Prop} (h : Hp σ l) (hi : l[i]? = some (It.sl e v xs)) {b o : Nat} {cs cs' : List Value} (hk : l[k]? = some (.box b (spliceAt cs o [v]))) (ho : o + 1 ≤ cs.length) (hc' : spliceAt cs o [slv e xs] = cs')
    (hki : k ≠ i) (js : List Nat) (ht : ∀ j ∈ js, t j = v) (kk : ∀ σ', Hp σ' ((l.set k (.box b cs')).eraseIdx i) → σ'.size = σ.size → MG nt n0 (upds t js (slv e xs)) σ' K) : MG nt n0 t σ K := by
  subst hc'
  obtain ⟨hb, z, hg⟩ := h.at hk
  have hlb := AH.get_lt hg
  -- the heap with the other cells in the box
  have hput : ∀ σ1 : AH, Hp σ1 l → σ1.get b = some (.cells false z (spliceAt cs o [v])) → Hp (σ1.put b (.cells false z (spliceAt cs o [slv e xs]))) (l.set k (.box b (spliceAt cs o [slv e xs]))) := fun σ1 h1 hg1 =>
    h1.set hk rfl (by rw [AH.size_put]; exact Nat.le_refl _) (fun b' hb' hne => by rw [AH.get_put (AH.get_lt hg1), if_neg]; rintro rfl; exact hne rfl) ⟨(h1.at hk).1, z, by rw [AH.get_put (AH.get_lt hg1), if_pos rfl]⟩ fun b' hb' => .inl hb'
  rcases sl_still h hi with ⟨hv, rfl⟩ | ⟨b1, cs1, hbv, h1, h2, h3⟩
  · refine MG.weakH (σ2 := σ.put b (.cells false z (spliceAt cs o [slv e []]))) AH.size_put rfl (fun b' o2 ho2 => ?_) (MG.weak (fun j => ?_) (kk _ (erase_nil (hput σ h hg)) AH.size_put))
    · rw [AH.get_put hlb] at ho2
      split at ho2
      · rename_i hbb; subst hbb
        obtain rfl := Option.some.inj ho2
        refine ⟨_, hg, rfl, rfl, fun j w hw => ?_⟩
        rcases splice_get ho (y := v) j w hw with ⟨rfl, rfl, h5⟩ | h5
        · exact ⟨v, h5, hv.wk⟩
        · exact ⟨w, h5, .same _⟩
      · exact ⟨o2, ho2, .rfl' _⟩
    · rw [upds_get]; split
      · rw [ht j (by assumption)]; exact hv.wk
      · exact .same _
  · clear h1 h2 h3
    have hHa := hput σ h hg
    have hne : (l.set k (.box b (spliceAt cs o [slv e xs])))[i]? = some (It.sl e v xs) := by rw [List.getElem?_set_ne hki]; exact hi
    rcases sl_still hHa hne with ⟨hv, rfl⟩ | ⟨b2, cs2, g0, g1, g2, g3⟩
    · rcases hv with rfl | rfl <;> cases hbv
    · have hbb : b2 ≠ b := fun e1 => by
        subst e1
        have hlk : k < l.length := (List.getElem?_eq_some_iff.1 hk).1
        have hli : i < l.length := (List.getElem?_eq_some_iff.1 hi).1
        have e2 : l[k] = .box b2 (spliceAt cs o [v]) := (List.getElem?_eq_some_iff.1 hk).2
        have e3 : l[i] = It.sl e v xs := (List.getElem?_eq_some_iff.1 hi).2
        rcases Nat.lt_or_gt_of_ne hki with hlt | hgt
        · exact List.pairwise_iff_getElem.1 h.apart k i hlk hli hlt b2 (by rw [e2]; rfl) (by rw [e3]; exact g0)
        · exact List.pairwise_iff_getElem.1 h.apart i k hli hlk hgt b2 (by rw [e3]; exact g0) (by rw [e2]; rfl)
      have hwas := g1.was
      rw [AH.get_put hlb, if_neg hbb] at hwas
      have hl2 : b2 < (σ.put b (.cells false z (spliceAt cs o [slv e xs]))).size := by rw [AH.size_put]; exact AH.get_lt hwas.1
      have hst : Stills b2 e.sz cs2 ((σ.put b (.cells false z (spliceAt cs o [slv e xs]))).put b2 .dead) σ := by
        refine ⟨⟨hwas.1, hwas.2⟩, g1.gone, by rw [AH.size_put, AH.size_put], rfl, fun b' o2 ho2 hl2' => ?_⟩
        rw [AH.get_put hl2] at ho2
        split at ho2
        · cases ho2; cases hl2'
        · rw [AH.get_put hlb] at ho2
          split at ho2
          · rename_i hbb2; subst hbb2
            obtain rfl := Option.some.inj ho2
            refine ⟨_, hg, rfl, rfl, fun j w hw => ?_⟩
            rcases splice_get ho (y := v) j w hw with ⟨rfl, rfl, h5⟩ | h5
            · exact ⟨v, h5, g2⟩
            · exact ⟨w, h5, .same _ _ _⟩
          · exact ⟨o2, ho2, .same _ _ _⟩
      refine MG.freeze b2 e.sz cs2 hst (fun j => ?_) (kk _ g3 (by rw [AH.size_put, AH.size_put]))
      rw [upds_get]; split
      · rw [ht j (by assumption)]; exact g2
      · exact .same _ _ _
end
/-! ### calls whose answer is the caller's own -/
/-- With these arguments a function answers a slice that nobody else has. -/
def PureO {α : Type} (P : Program) (f : FuncId) (args : List Value) (e : En α) (r : List α) : Prop := Flats args ∧ e.sz ≠ 0 ∧ Fn P f args ⟨0, []⟩ fun v σ => Hp σ [It.sl e v r]
section
variable {α : Type} {P : Program} {f : FuncId} {args : List Value} {e : En α} {r : List α}
theorem PureO.pure (h : PureO P f args e r) : Pure P f args (slv e r) := by
  refine ⟨h.1, slv_flat e r, ⟨h.2.2.1, fun φ w args' hS ha hE => (h.2.2.2 φ w args' hS ha hE).mono fun x w' ⟨v, σ', φ', v', hH, he, h2, h3, h4, h5⟩ => ?_⟩⟩
  rcases sl_still hH (i := 0) rfl with ⟨hv, rfl⟩ | ⟨b, cs, _, g1, g2, g3⟩
  · exact ⟨slv e [], σ', φ', v', rfl, he, h2, h3, hv.wk φ' v' h4, h5⟩
  · obtain ⟨φ2, q1, q2, q3, q4⟩ := g1.ok h2 h3 0
    exact ⟨slv e r, _, φ2, v', rfl, he, q1, q2, q4 _ _ _ g2 h4, h5.trans q3⟩
theorem PureO.fn (h : PureO P f args e r) {σ : AH} {l : List It} (hH : Hp σ l) : Fn P f args σ fun v σ' => Hp σ' (It.sl e v r :: l) ∧ σ.size ≤ σ'.size := by
  refine ⟨h.2.2.1, fun φ w args' hS hl hE => ?_⟩
  obtain ⟨hS0, hE0⟩ := none_rel hS
  have ha := h.1
  refine (h.2.2.2 (φ.by fun _ => none) w args' hS0 ⟨hl.1, fun i v v' e e' => ha v (List.mem_of_getElem? e) φ _ v' (fun _ _ _ h => h) (hl.2 i v v' e e')⟩ hE0).mono ?_
  rintro x w' ⟨v, σ1, φ1, v', hH1, rfl, h2, h3, h4, h5⟩
  have nowr : ∀ b, ¬ AH.wr ⟨0, []⟩ b := fun b ⟨_, o, h, _⟩ => by cases h
  have hheap : ∀ c, c < w.heap.size → w'.heap[c]? = w.heap[c]? := fun c hc => h5.frameC c hc fun b d _ => nowr b
  have hnew : ∀ c i u, φ1.still c i = some u → φ.still c i = some u ∨ w.heap.size ≤ c := fun c i u e => by
    rcases h5.stills c i u e with e | e | ⟨b0, _, _, hw⟩
    · exact .inl e
    · exact .inr e
    · exact absurd hw (nowr b0)
  have hst : ∀ c i u, φ.still c i = some u → φ1.still c i = some u := fun c i u e => h5.still c i u e
  have oldobj : ∀ (φ' : Ren), (∀ b p, φ b = some p → φ' b = some p ∧ φ'.lim p.1 = φ.lim p.1) → φ'.still = φ1.still → ∀ b c d o, φ b = some (c, d) → σ.get b = some o → ORel φ' w' c d o := fun φ' hp hs b c d o hb ho => by
    by_cases hl : o.live = true
    · have h6 : ORel φ w c d o := hS.obj b c d o hb ho
      exact (h6.mono ⟨hp, fun c i u e => by rw [hs]; exact hst c i u e⟩ (hp b (c, d) hb).2).congr (hheap c (h6.lt hl))
    · cases o <;> simp_all [AObj.live, ORel]
  have oldapart : ∀ b c d o, φ b = some (c, d) → σ.get b = some o → o.wr = true → ∀ i, φ1.still c i = none := fun b c d o hb ho hw i => by
    cases hq : φ1.still c i with
    | none => rfl
    | some u =>
      rcases hnew c i u hq with e | e
      · rw [hS.apart b c d o hb ho hw i] at e; cases e
      · have := hS.inr b c d hb; omega
  obtain ⟨hlen, ⟨hv, h0⟩ | ⟨b1, o, cap, C, rfl, g1, g2, g3, g4, g5⟩⟩ := hH1.all _ (List.mem_cons_self ..)
  · -- nothing
    have hr : r = [] := List.eq_nil_of_length_eq_zero h0
    subst hr
    have hfl : VRel ⟨φ.pos, φ.lim, φ1.still⟩ v v' := by
      rcases hv with rfl | rfl
      · obtain ⟨rfl, _, _⟩ := h4.of_nilSlice; exact .prim rfl
      · obtain ⟨c, o, rfl⟩ := h4.of_emp rfl; exact .emp rfl
    refine ⟨v, σ, ⟨φ.pos, φ.lim, φ1.still⟩, v', ⟨?_, Nat.le_refl _⟩, rfl, ⟨fun b c d hb => Nat.lt_of_lt_of_le (hS.inr b c d hb) h5.hsize, oldobj _ (fun _ _ h => ⟨h, rfl⟩) rfl, hS.inj, h2.still, oldapart⟩, hE, hfl, ?_⟩
    · refine ⟨fun it hi => ?_, List.pairwise_cons.2 ⟨fun _ _ b hb => ?_, hH.apart⟩, hH.base⟩
      rotate_left
      · rcases hv with rfl | rfl <;> cases hb
      rcases List.mem_cons.1 hi with rfl | hi
      · exact ⟨by simp [En.all], .inl ⟨hv, rfl⟩⟩
      · exact hH.all it hi
    · exact ⟨h5.os, h5.tape, h5.output, h5.drawn, h5.hsize, fun c i u e => hst c i u e, fun c i u e => (hnew c i u e).imp id .inl, fun c hc _ => hheap c hc, fun b c d h h' => .inr ⟨b, d, h, h'⟩, fun b _ => ⟨rfl, fun _ _ _ => rfl⟩⟩
  · -- a block of its own
    obtain ⟨c, d, hb1, hvr⟩ : ∃ c d, φ1 b1 = some (c, d) ∧ ∀ φ' : Ren, φ' σ.size = some (c, d + o) → φ'.lim c = φ1.lim c → VRel φ' (.slice (some ⟨σ.size, 0, none⟩) r.length r.length) v' := by
      generalize r.length = n at h4 g1
      cases h4 with
      | prim h => simp [Ab.prim] at h
      | slice e1 e2 e3 =>
        rename_i c d k'
        refine ⟨c, d, e1, fun φ' p1 p2 => ?_⟩
        have key := VRel.slice (φ := φ') (b := σ.size) (o := 0) (c := c) (d := d + o) (n := n) (k := n) (k' := k') p1 (by omega) ?_
        · simpa using key
        · obtain ⟨C', et, fr, q1, _, ⟨q2, q3⟩, q4⟩ := h2.obj b1 c d _ e1 g3
          rw [p2]
          by_cases hk0 : k' = 0
          · exact .inl (by omega)
          · right
            refine ⟨by rw [← q2]; exact h.2.1, ?_⟩
            rcases e3 with e3 | ⟨_, e3⟩
            · have hC : d + C.length ≤ C'.size := by
                have hpos : 0 < cap * e.sz := Nat.mul_pos (by omega) (Nat.pos_of_ne_zero h.2.1)
                have hi : C.length - 1 < C.length := by omega
                obtain ⟨u, hu, _⟩ := q4 (C.length - 1) C[C.length - 1] (by simp [hi])
                have := (Array.getElem?_eq_some_iff.1 hu).1
                omega
              rw [← q2, ← q3 h.2.1, ← e3]; omega
            · simpa using e3
      | slice0 e1 e2 => exact ⟨_, _, e1, fun φ' p1 p2 => .slice0 p1 (by rw [p2]; exact e2)⟩
    have hfresh : w.heap.size ≤ c := by
      rcases h5.own b1 c d hb1 ⟨g2, _, g3, rfl⟩ with e1 | ⟨b0, _, _, hw⟩
      · exact e1
      · exact absurd hw (nowr b0)
    have hEnd := hE σ.size (Nat.le_refl _)
    let φ' : Ren := ⟨fun b => if b = σ.size then some (c, d + o) else φ.pos b, fun c' => if c' = c then φ1.lim c' else φ.lim c', φ1.still⟩
    have hself : φ' σ.size = some (c, d + o) := by show (if σ.size = σ.size then some (c, d + o) else φ.pos σ.size) = _; rw [if_pos rfl]
    have hother : ∀ b, b ≠ σ.size → φ' b = φ b := fun b hb => by show (if b = σ.size then some (c, d + o) else φ.pos b) = _; rw [if_neg hb]
    have hlim : φ'.lim c = φ1.lim c := by show (if c = c then φ1.lim c else φ.lim c) = _; rw [if_pos rfl]
    have hlimo : ∀ c', c' ≠ c → φ'.lim c' = φ.lim c' := fun c' hc => by show (if c' = c then φ1.lim c' else φ.lim c') = _; rw [if_neg hc]
    have hold : ∀ b p, φ b = some p → φ' b = some p ∧ φ'.lim p.1 = φ.lim p.1 := fun b p hb => by
      have hne : b ≠ σ.size := fun e => by subst e; rw [hEnd] at hb; cases hb
      refine ⟨by rw [hother b hne]; exact hb, hlimo _ fun e => ?_⟩
      have := hS.inr b p.1 p.2 hb; omega
    obtain ⟨C', et, fr, q1, q5, ⟨q2, q3⟩, q4⟩ := h2.obj b1 c d _ hb1 g3
    have hcap : r.length * e.sz ≤ cap * e.sz := Nat.mul_le_mul_right _ g1
    refine ⟨.slice (some ⟨σ.size, 0, none⟩) r.length r.length, σ.push (.cells false e.sz (e.all r)), φ', v', ⟨hH.push _ ⟨hlen, .inr ⟨σ.size, 0, r.length, _, rfl, Nat.le_refl _, hH.base, by rw [AH.get_push, if_pos rfl], by omega, by rw [List.drop_zero, List.take_of_length_le (by omega)]⟩⟩ (fun b hb => by cases hb; exact Nat.le_refl _), by rw [AH.size_push]; omega⟩, rfl, ⟨fun b c' d' hb => ?_, fun b c' d' x hb hx => ?_, fun b b' c' d' d'' x x' hb hb' hx hx' hl hl' hne => ?_, h2.still, fun b c' d' x hb hx hw i => ?_⟩, fun b hb => ?_, hvr φ' hself hlim, ?_⟩
    · by_cases hbs : b = σ.size
      · subst hbs; rw [hself] at hb; cases hb; exact h2.inr b1 c d hb1
      · rw [hother b hbs] at hb; exact Nat.lt_of_lt_of_le (hS.inr b c' d' hb) h5.hsize
    · rw [AH.get_push] at hx
      by_cases hbs : b = σ.size
      · subst hbs
        rw [hself] at hb; cases hb
        rw [if_pos rfl] at hx; cases hx
        refine ⟨C', et, fr, q1, fun _ => q5 rfl, ⟨by rw [hlim]; exact q2, by rw [hlim]; exact q3⟩, fun i u hu => ?_⟩
        have hi : i < r.length * e.sz := by have := (List.getElem?_eq_some_iff.1 hu).1; omega
        have hu2 : C[o + i]? = some u := by
          have := hu
          rw [g5, List.getElem?_take, if_pos hi, List.getElem?_drop] at this
          exact this
        obtain ⟨u', p1, p2⟩ := q4 (o + i) u hu2
        exact ⟨u', by rw [Nat.add_assoc]; exact p1, all_flat e r u (List.mem_of_getElem? hu) φ1 φ' u' (fun _ _ _ h => h) p2⟩
      · rw [hother b hbs] at hb
        rw [if_neg hbs] at hx
        exact oldobj φ' hold rfl b c' d' x hb hx
    · rw [AH.get_push] at hx hx'
      by_cases hbs : b = σ.size
      · subst hbs
        have hbs' : b' ≠ σ.size := fun e => hne e.symm
        rw [hself] at hb; cases hb
        rw [hother b' hbs'] at hb'
        have := hS.inr b' _ d'' hb'; omega
      · rw [hother b hbs] at hb
        rw [if_neg hbs] at hx
        by_cases hbs' : b' = σ.size
        · subst hbs'
          rw [hself] at hb'; cases hb'
          have := hS.inr b _ d' hb; omega
        · rw [hother b' hbs'] at hb'
          rw [if_neg hbs'] at hx'
          exact hS.inj b b' c' d' d'' x x' hb hb' hx hx' hl hl' hne
    · rw [AH.get_push] at hx
      by_cases hbs : b = σ.size
      · subst hbs; rw [hself] at hb; cases hb
        exact h2.apart b1 _ d _ hb1 g3 rfl i
      · rw [hother b hbs] at hb
        rw [if_neg hbs] at hx
        exact oldapart b c' d' x hb hx hw i
    · rw [AH.size_push] at hb
      rw [hother b (by omega)]; exact hE b (by omega)
    · refine ⟨h5.os, h5.tape, h5.output, h5.drawn, h5.hsize, fun c i u e => hst c i u e, fun c i u e => (hnew c i u e).imp id .inl, fun c hc _ => hheap c hc, fun b c' d' h6 h7 => ?_, fun b hb => ⟨hother b (by omega), fun c' d' h6 => (hold b (c', d') h6).2⟩⟩
      by_cases hbs : b = σ.size
      · subst hbs; rw [hself] at h6; cases h6; exact .inl hfresh
      · rw [hother b hbs] at h6
        obtain ⟨p1, x, p2, p3⟩ := h7
        rw [AH.get_push, if_neg hbs] at p2
        exact .inr ⟨b, d', h6, p1, x, p2, p3⟩
end
section
variable {α : Type} {P : Program} {nt n0 : Nat} {ops : Array Oper} {ol : List Oper} {o : Oper} {t : Tmps} {σ : AH} {Q : Tmps → AH → Prop} {l : List It} {e : En α}
/-- A call whose answer is the caller's own. -/
theorem MO.pureO {f : Operand} {as : Array Operand} {ts : Array TypeId} {g : FuncId} {vs as' : List Value} {r : List α} (hn : n0 ≤ σ.size) (hw : wantA ops o t = some true) (ho : o.op = .call { callee := .value f, args := as, argTypes := ts })
    (hc : callee (opv t f) (as.toList.map (opv t)) = some (g, as')) (hl : LWk vs as') (hP : PureO P g vs e r) (hH : Hp σ l) {d : Nat} (hd : o.dst = some d) (hdn : d < nt) (k : ∀ v σ', Hp σ' (It.sl e v r :: l) → MO P nt n0 ops ol (upd t d v) σ' Q) : MO P nt n0 ops (o :: ol) t σ Q :=
  MO.call hn hw ho hc (((hP.fn hH).args hl).mono fun v σ' ⟨h1, h2⟩ => ⟨Nat.le_trans hn h2, upd t d v, by rw [hd]; simp only [putA, hdn, if_true], k v σ' h1⟩)
end
end Go.Ab
