/- Numbering blocks anew, telling what stands still as values, and calls of functions that need no memory. -/
import Derived.Test.YtaclhflmgafobaaFzL
namespace Go.Ab
open Go
set_option linter.unusedSimpArgs false
set_option linter.unusedVariables false

/-- A value that names no block. -/
def Flat (v : Value) : Prop := ∀ (φ φ' : Ren) (v' : Value), (∀ c i u, φ.still c i = some u → φ'.still c i = some u) → VRel φ v v' → VRel φ' v v'
theorem Flat.prim {v : Value} (h : Ab.prim v = true) : Flat v := fun φ φ' v' _ hv => by rw [prim_eq hv h]; exact .prim h
theorem Flat.erased : Flat erased := fun _ _ v' _ _ => .erased v'
theorem Flat.undef : Flat undef := fun φ φ' v' hs hv => by
  cases hv with
  | prim h => simp [Ab.prim, Go.undef] at h
  | tuple hn h =>
    rename_i a'
    have : a' = #[] := by simpa using hn.symm
    subst this
    exact VRel.undef _
theorem Flat.agg {cs : Array Value} (h : ∀ v ∈ cs.toList, Flat v) : Flat (.agg cs) := fun φ φ' v' hs hv => by
  obtain ⟨cs', rfl, hc⟩ := hv.of_agg
  exact VRel.agg_of' ⟨hc.1, fun i v v' e e' => h v (List.mem_of_getElem? e) φ φ' v' hs (hc.2 i v v' e e')⟩
theorem Flat.fz {n : Nat} {cs : Array Value} (h : ∀ v ∈ cs.toList, Flat v) : Flat (fz n cs) := fun φ φ' v' hs hv => by
  rcases hv.of_fz with ⟨c, o, k', us, rfl, hk, h0, h1⟩ | ⟨⟨a, k', rfl⟩, rfl, rfl⟩
  · exact .fz hk (fun i hi => hs _ _ _ (h0 i hi)) fun i v hv => h v (List.mem_of_getElem? (by simpa using hv)) φ φ' _ hs (h1 i v hv)
  · exact .fz0
theorem Flat.pfz {m : String} {ms cs : Array Value} (h : ∀ v ∈ cs.toList, Flat v) : Flat (.func (.method m) ms cs) := fun φ φ' v' hs hv => by
  obtain ⟨c, o, us, rfl, h0, h1⟩ := hv.of_pfz
  exact .pfz (fun i hi => hs _ _ _ (h0 i hi)) fun i v hv => h v (List.mem_of_getElem? (by simpa using hv)) φ φ' _ hs (h1 i v hv)
theorem Flat.tuple {cs : Array Value} (hne : cs ≠ #[.nilFunc]) (h : ∀ v ∈ cs.toList, Flat v) : Flat (.tuple cs) := fun φ φ' v' hs hv => by
  obtain ⟨cs', rfl, hc⟩ := hv.of_tuple hne
  have := VRel.tuple_of (φ := φ') (xs := cs.toList) (ys := cs'.toList) ⟨hc.1, fun i v v' e e' => h v (List.mem_of_getElem? e) φ φ' v' hs (hc.2 i v v' e e')⟩
  simpa using this
theorem Flat.iface {t : TypeId} {v : Value} (h : Flat v) : Flat (.iface t v) := fun φ φ' v' hs hv => by
  obtain ⟨u, rfl, hu⟩ := hv.of_iface
  exact .iface (h φ φ' u hs hu)
theorem Flat.fn {f : FuncId} {a c : Array Value} (ha : ∀ v ∈ a.toList, Flat v) (hc : ∀ v ∈ c.toList, Flat v) : Flat (.func (.func f) a c) := fun φ φ' v' hs hv => by
  obtain ⟨a', c', rfl, h1, h2⟩ := hv.of_func
  exact .func (by have := h1.1; simpa using this) (fun i v v' e e' => ha v (List.mem_of_getElem? (by simpa using e)) φ φ' v' hs (h1.2 i v v' (by simpa using e) (by simpa using e'))) (by have := h2.1; simpa using this)
    (fun i v v' e e' => hc v (List.mem_of_getElem? (by simpa using e)) φ φ' v' hs (h2.2 i v v' (by simpa using e) (by simpa using e')))

/-! ### blocks numbered anew -/
/-- The value v2 says of the new numbers (new number to old one) what v says of the old ones; it may say less. -/
def Rn (ρ : Nat → Option Nat) (v2 v : Value) : Prop := ∀ (φ φ2 : Ren) (v' : Value), φ2.lim = φ.lim → φ2.still = φ.still → (∀ b2 b, ρ b2 = some b → φ2 b2 = φ b) → VRel φ v v' → VRel φ2 v2 v'
theorem Rn.flat {ρ : Nat → Option Nat} {v : Value} (h : Flat v) : Rn ρ v v := fun φ φ2 v' _ hs _ hv => h φ φ2 v' (fun c i u e => by rw [hs]; exact e) hv
theorem Rn.erased {ρ : Nat → Option Nat} (v : Value) : Rn ρ erased v := fun _ _ v' _ _ _ _ => .erased v'
theorem Rn.ptr {ρ : Nat → Option Nat} {b2 b o : Nat} (h : ρ b2 = some b) : Rn ρ (.pointer (some ⟨b2, o, none⟩)) (.pointer (some ⟨b, o, none⟩)) := fun φ φ2 v' _ _ hp hv => by
  obtain ⟨c, d, e, rfl⟩ := hv.of_ptr'
  exact .ptr (by rw [hp _ _ h]; exact e)
theorem Rn.slice {ρ : Nat → Option Nat} {b2 b o n k : Nat} (h : ρ b2 = some b) : Rn ρ (.slice (some ⟨b2, o, none⟩) n k) (.slice (some ⟨b, o, none⟩) n k) := fun φ φ2 v' hl _ hp hv => by
  cases hv with
  | prim h => simp [Ab.prim] at h
  | slice h1 h2 h3 => exact .slice (by rw [hp _ _ h]; exact h1) h2 (by rw [hl]; exact h3)
  | slice0 h1 h2 => exact .slice0 (by rw [hp _ _ h]; exact h1) (by rw [hl]; exact h2)
theorem Rn.map {ρ : Nat → Option Nat} {b2 b : Nat} (h : ρ b2 = some b) : Rn ρ (.map (some b2)) (.map (some b)) := fun φ φ2 v' _ _ hp hv => by
  obtain ⟨c, e, rfl⟩ := hv.of_map
  exact .map (by rw [hp _ _ h]; exact e)
theorem Rn.agg {ρ : Nat → Option Nat} {cs2 cs : Array Value} (hn : cs2.size = cs.size) (h : ∀ (i : Nat) (v2 v : Value), cs2[i]? = some v2 → cs[i]? = some v → Rn ρ v2 v) : Rn ρ (.agg cs2) (.agg cs) := fun φ φ2 v' hl hs hp hv => by
  obtain ⟨cs', rfl, hc⟩ := hv.of_agg
  refine VRel.agg_of' ⟨by have := hc.1; simp at *; omega, fun i v2 v' e e' => ?_⟩
  have hi : i < cs.size := by have := (List.getElem?_eq_some_iff.1 e).1; simp at this; omega
  exact h i v2 cs[i] (by simpa using e) (by simp [hi]) φ φ2 v' hl hs hp (hc.2 i cs[i] v' (by simp [hi]) e')
theorem Rn.fn {ρ : Nat → Option Nat} {f : FuncId} {a c a2 c2 : Array Value} (hn : a2.size = a.size) (h : ∀ (i : Nat) (v2 v : Value), a2[i]? = some v2 → a[i]? = some v → Rn ρ v2 v)
    (hm : c2.size = c.size) (h' : ∀ (i : Nat) (v2 v : Value), c2[i]? = some v2 → c[i]? = some v → Rn ρ v2 v) : Rn ρ (.func (.func f) a2 c2) (.func (.func f) a c) := fun φ φ2 v' hl hs hp hv => by
  obtain ⟨a', c', rfl, h1, h2⟩ := hv.of_func
  refine .func (by have := h1.1; simp at this; omega) (fun i v2 v' e e' => ?_) (by have := h2.1; simp at this; omega) (fun i v2 v' e e' => ?_)
  · have hi : i < a.size := by have := (Array.getElem?_eq_some_iff.1 e).1; omega
    exact h i v2 a[i] e (by simp [hi]) φ φ2 v' hl hs hp (h1.2 i a[i] v' (by simp [hi]) (by simpa using e'))
  · have hi : i < c.size := by have := (Array.getElem?_eq_some_iff.1 e).1; omega
    exact h' i v2 c[i] e (by simp [hi]) φ φ2 v' hl hs hp (h2.2 i c[i] v' (by simp [hi]) (by simpa using e'))
theorem Rn.iface {ρ : Nat → Option Nat} {t : TypeId} {v2 v : Value} (h : Rn ρ v2 v) : Rn ρ (.iface t v2) (.iface t v) := fun φ φ2 v' hl hs hp hv => by
  obtain ⟨u, rfl, hu⟩ := hv.of_iface
  exact .iface (h φ φ2 u hl hs hp hu)
/-- The same, of blocks. -/
def ORn (ρ : Nat → Option Nat) : AObj → AObj → Prop
  | .cells ro2 z2 cs2, .cells ro z cs => ro2 = ro ∧ z2 = z ∧ ∀ (i : Nat) (v2 : Value), cs2[i]? = some v2 → ∃ v, cs[i]? = some v ∧ Rn ρ v2 v
  | .map es2 k2, .map es k => k2 = k ∧ es2.length = es.length ∧ ∀ (i : Nat) (x2 x : Value × Value × Nat), es2[i]? = some x2 → es[i]? = some x → x2.2.2 = x.2.2 ∧ x2.1 = x.1 ∧ Rn ρ x2.2.1 x.2.1
  | .dead, _ => True
  | _, _ => False
theorem ORn.wr {ρ : Nat → Option Nat} {o2 o : AObj} (h : ORn ρ o2 o) (hw : o2.wr = true) : o.wr = true := by
  cases o2 with
  | cells ro2 z2 cs2 => cases o with
    | cells ro z cs => simp only [ORn] at h; obtain ⟨rfl, _⟩ := h; cases ro2 <;> simp_all [AObj.wr]
    | _ => simp [ORn] at h
  | _ => cases o <;> simp_all [ORn, AObj.wr]
theorem ORn.live {ρ : Nat → Option Nat} {o2 o : AObj} (h : ORn ρ o2 o) (hw : o2.live = true) : o.live = true := by
  cases o2 <;> cases o <;> simp_all [ORn, AObj.live]
theorem ORn.isRo {ρ : Nat → Option Nat} {o2 o : AObj} (h : ORn ρ o2 o) (hl : o2.live = true) : o2.isRo = o.isRo := by
  cases o2 with
  | cells ro2 z2 cs2 => cases o with
    | cells ro z cs => simp only [ORn] at h; rw [h.1]; cases ro <;> rfl
    | _ => simp [ORn] at h
  | map => cases o <;> simp_all [ORn, AObj.isRo]
  | dead => simp [AObj.live] at hl
theorem ORn.flat {ρ : Nat → Option Nat} {o : AObj} (h : match o with | .cells _ _ cs => ∀ v ∈ cs, Flat v | .map es _ => ∀ x ∈ es, Flat x.2.1 | .dead => True) : ORn ρ o o := by
  cases o with
  | cells ro z cs => exact ⟨rfl, rfl, fun i v hv => ⟨v, hv, .flat (h v (List.mem_of_getElem? hv))⟩⟩
  | map es k => exact ⟨rfl, rfl, fun i x2 x h1 h2 => by rw [h1] at h2; obtain rfl := Option.some.inj h2; exact ⟨rfl, rfl, .flat (h _ (List.mem_of_getElem? h1))⟩⟩
  | dead => trivial
theorem ORn.rel {ρ : Nat → Option Nat} {φ φ2 : Ren} {w : World} {c d : Nat} {o2 o : AObj} (h : ORn ρ o2 o) (hl : φ2.lim = φ.lim) (hs : φ2.still = φ.still) (hp : ∀ b2 b, ρ b2 = some b → φ2 b2 = φ b) (hO : ORel φ w c d o) : ORel φ2 w c d o2 := by
  cases o2 with
  | dead => trivial
  | cells ro2 z2 cs2 =>
    cases o with
    | cells ro z cs =>
      obtain ⟨rfl, rfl, h3⟩ := h
      obtain ⟨C, e, fr, h4, h5, h6, h7⟩ := hO
      refine ⟨C, e, fr, h4, h5, by rw [hl]; exact h6, fun i v2 hv2 => ?_⟩
      obtain ⟨v, hv, hr⟩ := h3 i v2 hv2
      obtain ⟨v', h8, h9⟩ := h7 i v hv
      exact ⟨v', h8, hr φ φ2 v' hl hs hp h9⟩
    | _ => simp [ORn] at h
  | map es2 k2 =>
    cases o with
    | map es k =>
      obtain ⟨rfl, hlen, h3⟩ := h
      obtain ⟨E, h4, h5, h6, h7⟩ := hO
      refine ⟨E, h4, h5, by omega, fun i x2 e hx2 he => ?_⟩
      have hi : i < es.length := by have := (List.getElem?_eq_some_iff.1 hx2).1; omega
      have hx : es[i]? = some es[i] := by simp [hi]
      obtain ⟨h8, h9, hr⟩ := h3 i x2 es[i] hx2 hx
      obtain ⟨g1, g2, g3, g4⟩ := h7 i es[i] e hx he
      refine ⟨by rw [h8]; exact g1, ?_, hr φ φ2 _ hl hs hp g3, by rw [h9]; exact g4⟩
      rw [h9, prim_eq g2 g4]; exact .prim g4
    | _ => simp [ORn] at h

/-- One heap as it is seen by other numbers (new to old); it may be seen in part. -/
structure View (ρ : Nat → Option Nat) (σ2 σ : AH) : Prop where
  obj : ∀ b2 o2, σ2.get b2 = some o2 → o2.live = true → ∃ b o, ρ b2 = some b ∧ σ.get b = some o ∧ ORn ρ o2 o ∧ (σ2.wr b2 → σ.wr b)
  inj : ∀ b2 b2' b, ρ b2 = some b → ρ b2' = some b → b2 = b2'
  lt : ∀ b2 b, ρ b2 = some b → b2 < σ2.size
def Ren.by (φ : Ren) (ρ : Nat → Option Nat) : Ren := ⟨fun b2 => (ρ b2).bind φ.pos, φ.lim, φ.still⟩
theorem Ren.by_some {φ : Ren} {ρ : Nat → Option Nat} {b2 b : Nat} (h : ρ b2 = some b) : (φ.by ρ) b2 = φ b := by show (ρ b2).bind φ.pos = φ.pos b; rw [h]; rfl
theorem Ren.by_of {φ : Ren} {ρ : Nat → Option Nat} {b2 : Nat} {p : Nat × Nat} (h : (φ.by ρ) b2 = some p) : ∃ b, ρ b2 = some b ∧ φ b = some p := Option.bind_eq_some_iff.1 h
theorem View.rel {ρ : Nat → Option Nat} {φ : Ren} {σ2 σ : AH} {w : World} (h : View ρ σ2 σ) (hS : StRel φ σ w) : StRel (φ.by ρ) σ2 w ∧ Ends (φ.by ρ) σ2 := by
  have one : ∀ b2 c d o2, (φ.by ρ) b2 = some (c, d) → σ2.get b2 = some o2 → o2.live = true → ∃ b o, ρ b2 = some b ∧ φ b = some (c, d) ∧ σ.get b = some o ∧ ORn ρ o2 o ∧ (σ2.wr b2 → σ.wr b) := fun b2 c d o2 hb ho hl => by
    obtain ⟨b, h1, h2⟩ := Ren.by_of hb
    obtain ⟨b', o, h3, h4⟩ := h.obj b2 o2 ho hl
    rw [h1] at h3; obtain rfl := Option.some.inj h3
    exact ⟨b, o, h1, h2, h4⟩
  refine ⟨⟨fun b2 c d hb => ?_, fun b2 c d o2 hb ho => ?_, fun b2 b2' c d d' o2 o2' hb hb' ho ho' hl hl' hne => ?_, hS.still, fun b2 c d o2 hb ho hw i => ?_⟩, fun b2 hb => ?_⟩
  · obtain ⟨b, h1, h2⟩ := Ren.by_of hb
    exact hS.inr b c d h2
  · by_cases hl : o2.live = true
    · obtain ⟨b, o, h1, h2, h3, h4, _⟩ := one b2 c d o2 hb ho hl
      exact h4.rel (φ := φ) rfl rfl (fun _ _ e => Ren.by_some e) (hS.obj b c d o h2 h3)
    · cases o2 <;> simp_all [AObj.live, ORel]
  · obtain ⟨b, o, h1, h2, h3, h4, _⟩ := one b2 c d o2 hb ho hl
    obtain ⟨b', o', h1', h2', h3', h4', _⟩ := one b2' c d' o2' hb' ho' hl'
    have hne' : b ≠ b' := fun e => by subst e; exact hne (h.inj _ _ _ h1 h1')
    have := hS.inj b b' c d d' o o' h2 h2' h3 h3' (h4.live hl) (h4'.live hl') hne'
    rw [h4.isRo hl, h4'.isRo hl']; exact this
  · have ⟨hl, _⟩ := AObj.live_of_wr hw
    obtain ⟨b, o, h1, h2, h3, h4, _⟩ := one b2 c d o2 hb ho hl
    exact hS.apart b c d o h2 h3 (h4.wr hw) i
  · cases hq : ρ b2 with
    | none => show (ρ b2).bind φ.pos = none; rw [hq]; rfl
    | some b => have := h.lt b2 b hq; omega
theorem View.fr {ρ : Nat → Option Nat} {n0 : Nat} {φ φ' : Ren} {σ2 σ σ' : AH} {w w' : World} (h : View ρ σ2 σ) (hn : ∀ b, b < n0 → ρ b = some b) (hF : Fr n0 (φ.by ρ) σ2 w φ' σ' w') : Fr n0 φ σ w φ' σ' w' := by
  have up : ∀ b2 c d, (φ.by ρ) b2 = some (c, d) → σ2.wr b2 → ∃ b, φ b = some (c, d) ∧ σ.wr b := fun b2 c d hb hw => by
    obtain ⟨b, h1, h2⟩ := Ren.by_of hb
    obtain ⟨h3, o2, h4, h5⟩ := hw
    obtain ⟨b', o, h6, h7, h8, h9⟩ := h.obj b2 o2 h4 (AObj.live_of_wr h5).1
    rw [h1] at h6; obtain rfl := Option.some.inj h6
    exact ⟨b, h2, h9 ⟨h3, o2, h4, h5⟩⟩
  refine ⟨hF.os, hF.tape, hF.output, hF.drawn, hF.hsize, hF.still, fun c i u e => ?_, fun c hc hn => hF.frameC c hc fun b d hb hw => ?_, fun b c d e hw => ?_, fun b hb => ?_⟩
  · rcases hF.stills c i u e with e | e | ⟨b0, d0, e, hw⟩
    · exact .inl e
    · exact .inr (.inl e)
    · obtain ⟨b, h1, h2⟩ := up b0 c d0 e hw; exact .inr (.inr ⟨b, d0, h1, h2⟩)
  · obtain ⟨b', h1, h2⟩ := up b c d hb hw; exact hn b' d h1 h2
  · rcases hF.own b c d e hw with e | ⟨b0, d0, e, hw⟩
    · exact .inl e
    · obtain ⟨b, h1, h2⟩ := up b0 c d0 e hw; exact .inr ⟨b, d0, h1, h2⟩
  · have := hF.kept b hb
    rw [Ren.by_some (hn b hb)] at this
    exact this
/-- A state is seen by other numbers, or less is said of it. -/
theorem MC.view {P : Program} {nt n0 : Nat} {c : Code} {t t2 : Tmps} {σ σ2 : AH} {Q : AExit → Tmps → AH → Prop} (ρ : Nat → Option Nat) (hv : View ρ σ2 σ) (hn : ∀ b, b < n0 → ρ b = some b) (ht : ∀ j, Rn ρ (t2 j) (t j)) (h : MC P nt n0 c t2 σ2 Q) : MC P nt n0 c t σ Q :=
  fun φ a w R hA hE hR => h (φ.by ρ) a w R ⟨(hv.rel hA.st).1, fun j => ht j φ (φ.by ρ) _ rfl rfl (fun _ _ e => Ren.by_some e) (hA.tm j), hA.sz, hA.df⟩ (hv.rel hA.st).2 fun e t' σ' φ' a' w' h1 h2 h3 h4 => hR e t' σ' φ' a' w' h1 h2 h3 (hv.fr hn h4)
/-- The same at the end of code: where one comes to. -/
theorem MC.ends {P : Program} {nt n0 : Nat} {t t2 : Tmps} {σ σ2 : AH} {Q : AExit → Tmps → AH → Prop} {c : Code} (h : MC P nt n0 c t σ fun e t σ => ∃ ρ t2 σ2, View ρ σ2 σ ∧ (∀ b, b < n0 → ρ b = some b) ∧ (∀ j, Rn ρ (t2 j) (t j)) ∧ Q e t2 σ2) : MC P nt n0 c t σ Q :=
  fun φ a w R hA hE hR => h φ a w R hA hE fun e t1 σ1 φ1 a1 w1 ⟨ρ, t2, σ2, hv, hn, ht, hq⟩ hA1 hE1 hF1 =>
    hR e t2 σ2 (φ1.by ρ) a1 w1 hq ⟨(hv.rel hA1.st).1, fun j => ht j φ1 (φ1.by ρ) _ rfl rfl (fun _ _ e => Ren.by_some e) (hA1.tm j), hA1.sz, hA1.df⟩ (hv.rel hA1.st).2 (hF1.trans (hv.fr hn (.refl _ _ _ _)))

/-! ### what stands still -/
/-- The value v2 says of a block's cells, where these stand still, what v said of the block. -/
def Cz (b : Nat) (cs : List Value) (v2 v : Value) : Prop := ∀ (φ φ2 : Ren) (v' : Value), φ2.pos = φ.pos → φ2.lim = φ.lim → (∀ c i u, φ.still c i = some u → φ2.still c i = some u) →
  (∀ c d, φ b = some (c, d) → ∀ (i : Nat) (v : Value), cs[i]? = some v → ∃ u, φ2.still c (d + i) = some u ∧ VRel φ v u) → VRel φ v v' → VRel φ2 v2 v'
theorem le_still {φ φ2 : Ren} (h1 : φ2.pos = φ.pos) (h2 : φ2.lim = φ.lim) (h3 : ∀ c i u, φ.still c i = some u → φ2.still c i = some u) : φ.le φ2 := ⟨fun b p e => ⟨by rw [h1]; exact e, by rw [h2]⟩, h3⟩
theorem Cz.same (b : Nat) (cs : List Value) (v : Value) : Cz b cs v v := fun φ φ2 v' h1 h2 h3 _ hv => hv.mono (le_still h1 h2 h3)
theorem Cz.erased (b : Nat) (cs : List Value) (v : Value) : Cz b cs erased v := fun _ _ v' _ _ _ _ _ => .erased v'
theorem Cz.slice {b o n k s : Nat} {cs : List Value} (hk : n ≤ k) (hl : o + n * s ≤ cs.length) : Cz b cs (fz n ((cs.drop o).take (n * s)).toArray) (.slice (some ⟨b, o, none⟩) n k) := fun φ φ2 v' h1 h2 h3 h4 hv => by
  have gen : ∀ c d o' k', φ b = some (c, d) → n ≤ k' → (n * s ≠ 0 → o' = d + o) → VRel φ2 (fz n ((cs.drop o).take (n * s)).toArray) (.slice (some ⟨c, o', none⟩) n k') := fun c d o' k' hb hk' ho' => by
    have hlen : ((cs.drop o).take (n * s)).length = n * s := by simp; omega
    have hcell : ∀ i, i < n * s → cs[o + i]? = some (cs.getD (o + i) Go.undef) := fun i hi => by
      have : o + i < cs.length := by omega
      simp [List.getD, this]
    refine .fz (us := fun i => ((φ2.still c (d + (o + i))).getD Go.undef)) hk' (fun i hi => ?_) fun i v hv => ?_
    · have hi : i < n * s := by simp at hi; omega
      obtain ⟨u, e, _⟩ := h4 c d hb (o + i) _ (hcell i hi)
      rw [ho' (by omega), Nat.add_assoc, e]; rfl
    · have hi : i < n * s := by have := (Array.getElem?_eq_some_iff.1 hv).1; simp at this; omega
      obtain ⟨u, e, r⟩ := h4 c d hb (o + i) _ (hcell i hi)
      simp only [List.getElem?_toArray, List.getElem?_take, hi, if_true, List.getElem?_drop] at hv
      rw [hcell i hi] at hv; obtain rfl := Option.some.inj hv
      rw [e]; exact r.mono (le_still h1 h2 h3)
  cases hv with
  | prim h => simp [Ab.prim] at h
  | slice e h5 h6 => exact gen _ _ _ _ e (by omega) fun _ => rfl
  | slice0 e h5 => exact gen _ _ _ _ e (Nat.zero_le _) fun h => absurd (Nat.zero_mul s) h
theorem Cz.ptr {b o : Nat} {cs : List Value} : Cz b cs (pfz (cs.drop o).toArray) (.pointer (some ⟨b, o, none⟩)) := fun φ φ2 v' h1 h2 h3 h4 hv => by
  obtain ⟨c, d, e, rfl⟩ := hv.of_ptr'
  have hcell : ∀ i, i < cs.length - o → cs[o + i]? = some (cs.getD (o + i) Go.undef) := fun i hi => by
    have : o + i < cs.length := by omega
    simp [List.getD, this]
  refine .pfz (us := fun i => ((φ2.still c (d + (o + i))).getD Go.undef)) (fun i hi => ?_) fun i v hv => ?_
  · have hi : i < cs.length - o := by simpa using hi
    obtain ⟨u, e', _⟩ := h4 c d e (o + i) _ (hcell i hi)
    rw [Nat.add_assoc, e']; rfl
  · have hi : i < cs.length - o := by have := (Array.getElem?_eq_some_iff.1 hv).1; simpa using this
    obtain ⟨u, e', r⟩ := h4 c d e (o + i) _ (hcell i hi)
    simp only [List.getElem?_toArray, List.getElem?_drop] at hv
    rw [hcell i hi] at hv; obtain rfl := Option.some.inj hv
    rw [e']; exact r.mono (le_still h1 h2 h3)
theorem Cz.nil {b : Nat} {cs : List Value} : Cz b cs (fz 0 #[]) (.slice none 0 0) := fun φ φ2 v' h1 h2 h3 h4 hv => by
  obtain ⟨rfl, _, _⟩ := hv.of_nilSlice; exact .fz0
theorem Cz.agg {b : Nat} {cs : List Value} {as2 as : Array Value} (hn : as2.size = as.size) (h : ∀ (i : Nat) (v2 v : Value), as2[i]? = some v2 → as[i]? = some v → Cz b cs v2 v) : Cz b cs (.agg as2) (.agg as) := fun φ φ2 v' h1 h2 h3 h4 hv => by
  obtain ⟨cs', rfl, hc⟩ := hv.of_agg
  refine VRel.agg_of' ⟨by have := hc.1; simp at *; omega, fun i v2 v' e e' => ?_⟩
  have hi : i < as.size := by have := (List.getElem?_eq_some_iff.1 e).1; simp at this; omega
  exact h i v2 as[i] (by simpa using e) (by simp [hi]) φ φ2 v' h1 h2 h3 h4 (hc.2 i as[i] v' (by simp [hi]) e')
def OCz (b : Nat) (cs : List Value) : AObj → AObj → Prop
  | .cells ro2 z2 cs2, .cells ro z ds => ro2 = ro ∧ z2 = z ∧ ∀ (i : Nat) (v2 : Value), cs2[i]? = some v2 → ∃ v, ds[i]? = some v ∧ Cz b cs v2 v
  | .map es2 k2, .map es k => k2 = k ∧ es2.length = es.length ∧ ∀ (i : Nat) (x2 x : Value × Value × Nat), es2[i]? = some x2 → es[i]? = some x → x2.2.2 = x.2.2 ∧ x2.1 = x.1 ∧ Cz b cs x2.2.1 x.2.1
  | .dead, _ => True
  | _, _ => False
theorem OCz.same (b : Nat) (cs : List Value) (o : AObj) : OCz b cs o o := by
  cases o with
  | cells ro z ds => exact ⟨rfl, rfl, fun i v hv => ⟨v, hv, .same _ _ _⟩⟩
  | map es k => exact ⟨rfl, rfl, fun i x2 x h1 h2 => by rw [h1] at h2; obtain rfl := Option.some.inj h2; exact ⟨rfl, rfl, .same _ _ _⟩⟩
  | dead => trivial
theorem OCz.wr {b : Nat} {cs : List Value} {o2 o : AObj} (h : OCz b cs o2 o) (hw : o2.wr = true) : o.wr = true := by
  cases o2 with
  | cells ro2 z2 cs2 => cases o with
    | cells ro z cs => simp only [OCz] at h; obtain ⟨rfl, _⟩ := h; cases ro2 <;> simp_all [AObj.wr]
    | _ => simp [OCz] at h
  | _ => cases o <;> simp_all [OCz, AObj.wr]
theorem OCz.live {b : Nat} {cs : List Value} {o2 o : AObj} (h : OCz b cs o2 o) (hw : o2.live = true) : o.live = true := by
  cases o2 <;> cases o <;> simp_all [OCz, AObj.live]
theorem OCz.isRo {b : Nat} {cs : List Value} {o2 o : AObj} (h : OCz b cs o2 o) (hl : o2.live = true) : o2.isRo = o.isRo := by
  cases o2 with
  | cells ro2 z2 cs2 => cases o with
    | cells ro z cs => simp only [OCz] at h; rw [h.1]; cases ro <;> rfl
    | _ => simp [OCz] at h
  | map => cases o <;> simp_all [OCz, AObj.isRo]
  | dead => simp [AObj.live] at hl
theorem OCz.rel {b : Nat} {cs : List Value} {φ φ2 : Ren} {w : World} {c d : Nat} {o2 o : AObj} (h : OCz b cs o2 o) (h1 : φ2.pos = φ.pos) (h2 : φ2.lim = φ.lim) (h3 : ∀ c i u, φ.still c i = some u → φ2.still c i = some u)
    (h4 : ∀ c d, φ b = some (c, d) → ∀ (i : Nat) (v : Value), cs[i]? = some v → ∃ u, φ2.still c (d + i) = some u ∧ VRel φ v u) (hO : ORel φ w c d o) : ORel φ2 w c d o2 := by
  cases o2 with
  | dead => trivial
  | cells ro2 z2 cs2 =>
    cases o with
    | cells ro z ds =>
      obtain ⟨rfl, rfl, h5⟩ := h
      obtain ⟨C, e, fr, h6, h7, h8, h9⟩ := hO
      refine ⟨C, e, fr, h6, h7, by rw [h2]; exact h8, fun i v2 hv2 => ?_⟩
      obtain ⟨v, hv, hr⟩ := h5 i v2 hv2
      obtain ⟨v', g1, g2⟩ := h9 i v hv
      exact ⟨v', g1, hr φ φ2 v' h1 h2 h3 h4 g2⟩
    | _ => simp [OCz] at h
  | map es2 k2 =>
    cases o with
    | map es k =>
      obtain ⟨rfl, hlen, h5⟩ := h
      obtain ⟨E, h6, h7, h8, h9⟩ := hO
      refine ⟨E, h6, h7, by omega, fun i x2 e hx2 he => ?_⟩
      have hi : i < es.length := by have := (List.getElem?_eq_some_iff.1 hx2).1; omega
      have hx : es[i]? = some es[i] := by simp [hi]
      obtain ⟨g1, g2, hr⟩ := h5 i x2 es[i] hx2 hx
      obtain ⟨g3, g4, g5, g6⟩ := h9 i es[i] e hx he
      refine ⟨by rw [g1]; exact g3, ?_, hr φ φ2 _ h1 h2 h3 h4 g5, by rw [g2]; exact g6⟩
      rw [g2, prim_eq g4 g6]; exact .prim g6
    | _ => simp [OCz] at h
/-- A block's cells stand still from now on. -/
structure Stills (b z : Nat) (cs : List Value) (σ2 σ : AH) : Prop where
  was : σ.get b = some (.cells false z cs) ∧ σ.base ≤ b
  gone : ∀ o, σ2.get b = some o → o.live = false
  size : σ2.size = σ.size
  base : σ2.base = σ.base
  obj : ∀ b' o2, σ2.get b' = some o2 → o2.live = true → ∃ o, σ.get b' = some o ∧ OCz b cs o2 o
def Ren.withStill (φ : Ren) (w : World) (b n : Nat) : Ren := ⟨φ.pos, φ.lim, fun c i => match φ b with
  | some (c0, d) => if c = c0 ∧ d ≤ i ∧ i < d + n then w.cell? ⟨c, i, none⟩ else φ.still c i
  | none => φ.still c i⟩
theorem Stills.ok' {b z : Nat} {cs : List Value} {σ2 σ : AH} (h : Stills b z cs σ2 σ) {φ : Ren} {w : World} (hS : StRel φ σ w) (hE : Ends φ σ) (n0 : Nat) :
    ∃ φ2, StRel φ2 σ2 w ∧ Ends φ2 σ2 ∧ Fr n0 φ σ w φ2 σ2 w ∧ (∀ v2 v v', Cz b cs v2 v → VRel φ v v' → VRel φ2 v2 v') ∧ φ2.pos = φ.pos ∧ φ2.lim = φ.lim := by
  obtain ⟨hg, hbase⟩ := h.was
  have hwr : σ.wr b := ⟨hbase, _, hg, rfl⟩
  have hst : ∀ c i u, φ.still c i = some u → (φ.withStill w b cs.length).still c i = some u := fun c i u e => by
    simp only [Ren.withStill]
    split
    · rename_i c0 d hb
      split
      · rename_i hc
        obtain ⟨rfl, _⟩ := hc
        rw [hS.apart b _ d _ hb hg rfl i] at e; cases e
      · exact e
    · exact e
  have hcells : ∀ c d, φ b = some (c, d) → ∀ (i : Nat) (v : Value), cs[i]? = some v → ∃ u, (φ.withStill w b cs.length).still c (d + i) = some u ∧ VRel φ v u := fun c d hb i v hv => by
    obtain ⟨C, e, fr, h1, _, _, h2⟩ := hS.obj b c d _ hb hg
    obtain ⟨u, h3, h4⟩ := h2 i v hv
    have hi := (List.getElem?_eq_some_iff.1 hv).1
    refine ⟨u, ?_, h4⟩
    simp only [Ren.withStill, hb]
    rw [if_pos ⟨trivial, by omega, by omega⟩]
    simp [World.cell?, h1, h3]
  have hnew : ∀ c i u, (φ.withStill w b cs.length).still c i = some u → φ.still c i = some u ∨ ∃ d, φ b = some (c, d) ∧ w.cell? ⟨c, i, none⟩ = some u := fun c i u e => by
    simp only [Ren.withStill] at e
    split at e
    · rename_i c0 d hb
      split at e
      · rename_i hc
        obtain ⟨rfl, _⟩ := hc
        exact .inr ⟨d, hb, e⟩
      · exact .inl e
    · exact .inl e
  refine ⟨φ.withStill w b cs.length, ⟨hS.inr, fun b' c d o2 hb' ho => ?_, fun b1 b2 c d d' o1 o2 hb1 hb2 ho1 ho2 hl1 hl2 hne => ?_, fun c i u e => ?_, fun b' c d o2 hb' ho hw i => ?_⟩, fun b' hb' => hE b' (by rw [← h.size]; exact hb'), ?_, fun v2 v v' hc hv => hc φ _ v' rfl rfl hst hcells hv, rfl, rfl⟩
  · by_cases hl : o2.live = true
    · obtain ⟨o, h1, h2⟩ := h.obj b' o2 ho hl
      exact h2.rel (φ := φ) rfl rfl hst hcells (hS.obj b' c d o hb' h1)
    · cases o2 <;> simp_all [AObj.live, ORel]
  · obtain ⟨p1, h1, h2⟩ := h.obj b1 o1 ho1 hl1
    obtain ⟨p2, h3, h4⟩ := h.obj b2 o2 ho2 hl2
    have := hS.inj b1 b2 c d d' p1 p2 hb1 hb2 h1 h3 (h2.live hl1) (h4.live hl2) hne
    rw [h2.isRo hl1, h4.isRo hl2]; exact this
  · rcases hnew c i u e with e | ⟨d, hb, e⟩
    · exact hS.still c i u e
    · obtain ⟨C, e', fr, h1, _⟩ := hS.obj b c d _ hb hg
      exact ⟨C, e', fr, h1, by simpa [World.cell?, h1] using e⟩
  · have ⟨hl, _⟩ := AObj.live_of_wr hw
    obtain ⟨o, h1, h2⟩ := h.obj b' o2 ho hl
    cases hq : (φ.withStill w b cs.length).still c i with
    | none => rfl
    | some u =>
      rcases hnew c i u hq with e | ⟨d', hb, _⟩
      · rw [hS.apart b' c d o hb' h1 (h2.wr hw) i] at e; cases e
      · have hne : b' ≠ b := fun e => by subst e; have := h.gone o2 ho; rw [hl] at this; cases this
        have := (hS.inj b' b c d d' o _ hb' hb h1 hg (h2.live hl) rfl hne).2
        simp [AObj.isRo] at this
  · refine ⟨rfl, rfl, rfl, Nat.le_refl _, Nat.le_refl _, hst, fun c i u e => ?_, fun _ _ _ => rfl, fun b' c d e hw => ?_, fun b' _ => ⟨rfl, fun _ _ _ => rfl⟩⟩
    · rcases hnew c i u e with e | ⟨d, hb, _⟩
      · exact .inl e
      · exact .inr (.inr ⟨b, d, hb, hwr⟩)
    · obtain ⟨h1, o2, h2, h3⟩ := hw
      obtain ⟨o, h4, h5⟩ := h.obj b' o2 h2 (AObj.live_of_wr h3).1
      exact .inr ⟨b', d, e, by rw [← h.base]; exact h1, o, h4, h5.wr h3⟩
theorem Stills.ok {b z : Nat} {cs : List Value} {σ2 σ : AH} (h : Stills b z cs σ2 σ) {φ : Ren} {w : World} (hS : StRel φ σ w) (hE : Ends φ σ) (n0 : Nat) :
    ∃ φ2, StRel φ2 σ2 w ∧ Ends φ2 σ2 ∧ Fr n0 φ σ w φ2 σ2 w ∧ ∀ v2 v v', Cz b cs v2 v → VRel φ v v' → VRel φ2 v2 v' :=
  let ⟨φ2, h1, h2, h3, h4, _⟩ := h.ok' hS hE n0
  ⟨φ2, h1, h2, h3, h4⟩
theorem MC.freeze {P : Program} {nt n0 : Nat} {c : Code} {t t2 : Tmps} {σ σ2 : AH} {Q : AExit → Tmps → AH → Prop} (b z : Nat) (cs : List Value) (h : Stills b z cs σ2 σ) (ht : ∀ j, Cz b cs (t2 j) (t j)) (hc : MC P nt n0 c t2 σ2 Q) : MC P nt n0 c t σ Q :=
  fun φ a w R hA hE hR => by
    obtain ⟨φ2, h1, h2, h3, h4⟩ := h.ok hA.st hE n0
    exact hc φ2 a w R ⟨h1, fun j => h4 _ _ _ (ht j) (hA.tm j), hA.sz, hA.df⟩ h2 fun e t' σ' φ' a' w' q1 q2 q3 q4 => hR e t' σ' φ' a' w' q1 q2 q3 (h3.trans q4)
theorem MO.freeze {P : Program} {nt n0 : Nat} {ops : Array Oper} {l : List Oper} {t t2 : Tmps} {σ σ2 : AH} {Q : Tmps → AH → Prop} (b z : Nat) (cs : List Value) (h : Stills b z cs σ2 σ) (ht : ∀ j, Cz b cs (t2 j) (t j)) (hc : MO P nt n0 ops l t2 σ2 Q) : MO P nt n0 ops l t σ Q :=
  fun k hk φ a w R hA hE hR => by
    obtain ⟨φ2, h1, h2, h3, h4⟩ := h.ok hA.st hE n0
    exact hc k hk φ2 a w R ⟨h1, fun j => h4 _ _ _ (ht j) (hA.tm j), hA.sz, hA.df⟩ h2 fun t' σ' φ' a' w' q1 q2 q3 q4 => hR t' σ' φ' a' w' q1 q2 q3 (h3.trans q4)
/-- The answer's cells stand still from now on. -/
theorem Fn.still {P : Program} {f : FuncId} {args : List Value} {σ : AH} {R R' : Value → AH → Prop} (h : Fn P f args σ R) (hr : ∀ v σ', R v σ' → R' v σ' ∨ ∃ b z cs v2 σ2, Stills b z cs σ2 σ' ∧ Cz b cs v2 v ∧ R' v2 σ2) : Fn P f args σ R' :=
  ⟨h.1, fun φ w args' hS ha hE => (h.2 φ w args' hS ha hE).mono fun e w' ⟨v, σ', φ', v', h1, he, h2, h3, h4, h5⟩ => by
    rcases hr v σ' h1 with h6 | ⟨b, z, cs, v2, σ2, h6, h7, h8⟩
    · exact ⟨v, σ', φ', v', h6, he, h2, h3, h4, h5⟩
    · obtain ⟨φ2, q1, q2, q3, q4⟩ := h6.ok h2 h3 σ.size
      exact ⟨v2, σ2, φ2, v', h8, he, q1, q2, q4 _ _ _ h7 h4, h5.trans q3⟩⟩

/-! ### calls that need no memory -/
/-- With these arguments a function answers v, and has turned nothing. -/
def Flats (l : List Value) : Prop := ∀ v ∈ l, Flat v
theorem Flats.nil : Flats [] := fun v h => by simp at h
theorem Flats.cons {v : Value} {l : List Value} (h : Flat v) (hl : Flats l) : Flats (v :: l) := fun x hx => by
  rcases List.mem_cons.1 hx with rfl | hx
  · exact h
  · exact hl x hx
def Pure (P : Program) (f : FuncId) (args : List Value) (v : Value) : Prop := Flats args ∧ Flat v ∧ Fn P f args ⟨0, []⟩ fun r _ => r = v
theorem none_rel {φ : Ren} {σ : AH} {w : World} (hS : StRel φ σ w) : StRel (φ.by fun _ => none) ⟨0, []⟩ w ∧ Ends (φ.by fun _ => none) ⟨0, []⟩ :=
  View.rel (ρ := fun _ => none) ⟨fun b o h => (by cases h), fun _ _ _ h => (by cases h), fun _ _ h => (by cases h)⟩ hS
theorem Pure.run {P : Program} {f : FuncId} {args : List Value} {v : Value} (h : Pure P f args v) {φ : Ren} {σ : AH} {w : World} {args' : List Value} (hS : StRel φ σ w) (hl : LRel φ args args') :
    Calls P f args'.toArray w fun e w' => ∃ φ' v', e = .returned v' ∧ StRel φ' σ w' ∧ φ'.pos = φ.pos ∧ VRel φ' v v' ∧ Ext φ σ w φ' σ w' ∧ ∀ c, c < w.heap.size → w'.heap[c]? = w.heap[c]? := by
  obtain ⟨hS0, hE0⟩ := none_rel hS
  have ha := h.1
  refine (h.2.2.2 (φ.by fun _ => none) w args' hS0 ⟨hl.1, fun i v v' e e' => ha v (List.mem_of_getElem? e) φ _ v' (fun _ _ _ h => h) (hl.2 i v v' e e')⟩ hE0).mono ?_
  rintro e w' ⟨r, σ1, φ1, v', rfl, rfl, h2, h3, h4, h5⟩
  have nowr : ∀ b, ¬ AH.wr ⟨0, []⟩ b := fun b ⟨_, o, h, _⟩ => by cases h
  have hheap : ∀ c, c < w.heap.size → w'.heap[c]? = w.heap[c]? := fun c hc => h5.frameC c hc fun b d _ => nowr b
  have hnew : ∀ c i u, φ1.still c i = some u → φ.still c i = some u ∨ w.heap.size ≤ c := fun c i u e => by
    rcases h5.stills c i u e with e | e | ⟨b0, _, _, hw⟩
    · exact .inl e
    · exact .inr e
    · exact absurd hw (nowr b0)
  refine ⟨⟨φ.pos, φ.lim, φ1.still⟩, v', rfl, ⟨fun b c d hb => Nat.lt_of_lt_of_le (hS.inr b c d hb) h5.hsize, fun b c d o hb ho => ?_, hS.inj, h2.still, fun b c d o hb ho hw i => ?_⟩, rfl, h.2.1 φ1 _ v' (fun _ _ _ h => h) h4, ?_⟩
  · by_cases hl : o.live = true
    · have : ORel φ w c d o := hS.obj b c d o hb ho
      have hle : φ.le ⟨φ.pos, φ.lim, φ1.still⟩ := ⟨fun _ _ h => ⟨h, rfl⟩, fun c i u e => h5.still c i u e⟩
      exact (this.mono hle rfl).congr (hheap c (this.lt hl))
    · cases o <;> simp_all [AObj.live, ORel]
  · cases hq : φ1.still c i with
    | none => rfl
    | some u =>
      rcases hnew c i u hq with e | e
      · rw [hS.apart b c d o hb ho hw i] at e; cases e
      · have := hS.inr b c d hb; omega
  · exact ⟨⟨h5.os, h5.tape, h5.output, h5.drawn, h5.hsize, ⟨fun _ _ h => ⟨h, rfl⟩, fun c i u e => h5.still c i u e⟩, rfl, Nat.le_refl _, fun b c d h0 h1 => (by rw [show (⟨φ.pos, φ.lim, φ1.still⟩ : Ren) b = φ b from rfl, h0] at h1; cases h1),
      fun c hc _ => hheap c hc, fun _ _ _ => rfl, fun _ _ h => h, fun b h1 h2 => by omega, fun c i u e => (hnew c i u e).imp id .inl⟩, hheap⟩
/-- It may be called from any heap. -/
theorem Pure.fn {P : Program} {f : FuncId} {args : List Value} {v : Value} (h : Pure P f args v) (σ : AH) : Fn P f args σ fun r σ' => r = v ∧ σ' = σ :=
  ⟨h.2.2.1, fun φ w args' hS hl hE => (h.run hS hl).mono fun e w' ⟨φ', v', h1, h2, h3, h4, h5, _⟩ => ⟨v, σ, φ', v', ⟨rfl, rfl⟩, h1, h2, fun b hb => by rw [h3]; exact hE b hb, h4, h5.fr hE (Nat.le_refl _)⟩⟩
/-- Some calls that need no memory, as a caller. -/
noncomputable def known : List (FuncId × List Value × Value) → Caller
  | [], _, _, _ => none
  | e :: l, f, args, σ => open Classical in if f = e.1 ∧ args = e.2.1 then some (e.2.2, σ) else known l f args σ
theorem known_grows (l : List (FuncId × List Value × Value)) : CallerGrows (known l) := by
  induction l with
  | nil => intro f args σ v σ' h; cases h
  | cons e l ih =>
    intro f args σ v σ' h
    unfold known at h
    split at h
    · simp at h; obtain ⟨_, rfl⟩ := h; exact .refl _
    · exact ih f args σ v σ' h
theorem known_ok {P : Program} (l : List (FuncId × List Value × Value)) (hl : ∀ e ∈ l, Pure P e.1 e.2.1 e.2.2) : CallerOk P (known l) := by
  induction l with
  | nil => intro f args σ v σ' h; cases h
  | cons e l ih =>
    intro f args σ v σ' h
    unfold known at h
    split at h
    · rename_i he
      obtain ⟨rfl, rfl⟩ := he
      simp at h; obtain ⟨rfl, rfl⟩ := h
      have h1 := hl e (by simp)
      refine ⟨h1.2.2.1, fun φ w args' hS ha hf => ?_⟩
      exact (h1.run hS ha).mono fun e w' ⟨φ', v', q1, q2, _, q4, q5, _⟩ => ⟨φ', v', q1, q2, q4, q5⟩
    · exact ih (fun e he => hl e (by simp [he])) f args σ v σ' h
end Go.Ab
