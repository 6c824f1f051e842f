/- The interpreter's operations on memory are the machine's: soundness, operation by operation, under the relation of heaps. -/
import Derived.Test.YtaclhflmgafobaaFzC
namespace Go.Ab
open Go
set_option linter.unusedSimpArgs false
set_option linter.unusedVariables false

theorem ORel.congr {φ : Ren} {w w' : World} {c d : Nat} {o : AObj} (hh : w'.heap[c]? = w.heap[c]?) (h : ORel φ w c d o) : ORel φ w' c d o := by
  cases o with
  | cells ro z cs => obtain ⟨C, e, fr, h1, h2⟩ := h; exact ⟨C, e, fr, by rw [hh]; exact h1, h2⟩
  | map es k => obtain ⟨E, h0, h1, h2⟩ := h; exact ⟨E, h0, by rw [hh]; exact h1, h2⟩
  | dead => trivial
theorem ORel.mono {φ φ' : Ren} (hle : φ.le φ') {w : World} {c d : Nat} {o : AObj} (hlim : φ'.lim c = φ.lim c) (h : ORel φ w c d o) : ORel φ' w c d o := by
  cases o with
  | cells ro z cs => obtain ⟨C, e, fr, h1, h2, h4, h3⟩ := h; exact ⟨C, e, fr, h1, h2, by rw [hlim]; exact h4, fun i v hv => let ⟨v', e', r⟩ := h3 i v hv; ⟨v', e', r.mono hle⟩⟩
  | map es k => obtain ⟨E, h0, h1, h2, h3⟩ := h; exact ⟨E, h0, h1, h2, fun i x e hx he => let ⟨a, b, c, d⟩ := h3 i x e hx he; ⟨a, b.mono hle, c.mono hle, d⟩⟩
  | dead => trivial
theorem ORel.lt {φ : Ren} {w : World} {c d : Nat} {o : AObj} (h : ORel φ w c d o) (hl : o.live = true) : c < w.heap.size := by
  cases o with
  | cells ro z cs => obtain ⟨C, e, fr, h1, h2⟩ := h; exact (Array.getElem?_eq_some_iff.1 h1).1
  | map es k => obtain ⟨E, h0, h1, h2⟩ := h; exact (Array.getElem?_eq_some_iff.1 h1).1
  | dead => simp [AObj.live] at hl
theorem AObj.live_of_wr {o : AObj} (h : o.wr = true) : o.live = true ∧ o.isRo = false := by cases o with
  | cells ro z cs => cases ro <;> simp_all [AObj.wr, AObj.live, AObj.isRo]
  | map => simp [AObj.live, AObj.isRo]
  | dead => simp [AObj.wr] at h

/-! ### a new block -/
def Ren.add (φ : Ren) (b c d : Nat) (L : Nat × Nat) : Ren := ⟨fun j => if j = b then some (c, d) else φ j, fun j => if j = c then L else φ.lim j, φ.still⟩
theorem Ren.add_le {φ : Ren} {b c d : Nat} {L : Nat × Nat} (h : φ b = none) (hc : ∀ b' d', φ b' = some (c, d') → L = φ.lim c) : φ.le (φ.add b c d L) := by
  refine ⟨fun j p e => ⟨?_, ?_⟩, fun _ _ _ h => h⟩
  · show (if j = b then some (c, d) else φ j) = some p
    split
    · subst_vars; rw [h] at e; cases e
    · exact e
  · show (if p.1 = c then L else φ.lim p.1) = φ.lim p.1
    split
    · rename_i hp; subst hp; exact hc j p.2 e
    · rfl
theorem Ren.add_same {φ : Ren} {b c d : Nat} {L : Nat × Nat} : φ.add b c d L b = some (c, d) := by simp [Ren.add]
theorem Ren.add_other {φ : Ren} {b c d j : Nat} {L : Nat × Nat} (h : j ≠ b) : φ.add b c d L j = φ j := by simp [Ren.add, h]
theorem Ren.lim_same {φ : Ren} {b c d : Nat} {L : Nat × Nat} : (φ.add b c d L).lim c = L := by simp [Ren.add]
theorem Ren.lim_other {φ : Ren} {b c d j : Nat} {L : Nat × Nat} (h : j ≠ c) : (φ.add b c d L).lim j = φ.lim j := by simp [Ren.add, h]

theorem new_block {φ : Ren} {σ : AH} {w w' : World} {o : AObj} {O : Obj} {L : Nat × Nat} (hS : StRel φ σ w) (hf : φ σ.size = none)
    (hw : w'.heap = w.heap.push O) (h1 : w'.os = w.os) (h2 : w'.tape = w.tape) (h3 : w'.output = w.output) (h4 : w.drawn ≤ w'.drawn)
    (hO : ORel (φ.add σ.size w.heap.size 0 L) w' w.heap.size 0 o) (hwr : o.isRo = false) :
    StRel (φ.add σ.size w.heap.size 0 L) (σ.push o) w' ∧ Ext φ σ w (φ.add σ.size w.heap.size 0 L) (σ.push o) w' := by
  have hle := Ren.add_le (c := w.heap.size) (d := 0) (L := L) hf (fun b' d' e => absurd (hS.inr b' _ d' e) (Nat.lt_irrefl _))
  have old : ∀ c, c < w.heap.size → w'.heap[c]? = w.heap[c]? := fun c hc => by rw [hw, Array.getElem?_push, if_neg (by omega)]
  have key : ∀ b c d o, φ b = some (c, d) → σ.get b = some o → o.live = true → c < w.heap.size := fun b c d o hb ho hl => (hS.obj b c d o hb ho).lt hl
  have fresh0 : ∀ i, φ.still w.heap.size i = none := fun i => by
    cases hq : φ.still w.heap.size i with
    | none => rfl
    | some u => obtain ⟨C, e, fr, h, _⟩ := hS.still _ _ _ hq; have := (Array.getElem?_eq_some_iff.1 h).1; omega
  refine ⟨⟨fun b c d hb => ?_, fun b c d x hb hx => ?_, fun b b' c d d' x x' hb hb' hx hx' hl hl' hne => ?_, fun c i u h => ?_, fun b c d x hb hx hwx i => ?_⟩, ?_⟩
  · have hs : w'.heap.size = w.heap.size + 1 := by rw [hw]; simp
    by_cases hbs : b = σ.size
    · subst hbs
      rw [Ren.add_same] at hb
      obtain ⟨rfl, rfl⟩ := Prod.mk.inj (Option.some.inj hb)
      omega
    · rw [Ren.add_other hbs] at hb
      have := hS.inr b c d hb; omega
  · by_cases hbs : b = σ.size
    · subst hbs
      rw [Ren.add_same] at hb
      obtain ⟨rfl, rfl⟩ := Prod.mk.inj (Option.some.inj hb)
      rw [AH.get_push, if_pos rfl] at hx
      obtain rfl := Option.some.inj hx
      exact hO
    · rw [Ren.add_other hbs] at hb
      rw [AH.get_push, if_neg hbs] at hx
      by_cases hl : x.live = true
      · exact ((hS.obj b c d x hb hx).mono hle (Ren.lim_other (by have := hS.inr b c d hb; omega))).congr (old c (key b c d x hb hx hl))
      · cases x <;> simp_all [AObj.live, ORel]
  · by_cases hbs : b = σ.size
    · subst hbs
      have hbs' : b' ≠ σ.size := fun e => hne e.symm
      rw [Ren.add_same] at hb; rw [Ren.add_other hbs'] at hb'
      rw [AH.get_push, if_neg hbs'] at hx'
      obtain ⟨rfl, rfl⟩ := Prod.mk.inj (Option.some.inj hb)
      have := key b' _ _ x' hb' hx' hl'; omega
    · by_cases hbs' : b' = σ.size
      · subst hbs'
        rw [Ren.add_same] at hb'; rw [Ren.add_other hbs] at hb
        rw [AH.get_push, if_neg hbs] at hx
        obtain ⟨rfl, rfl⟩ := Prod.mk.inj (Option.some.inj hb')
        have := key b _ _ x hb hx hl; omega
      · rw [Ren.add_other hbs] at hb; rw [Ren.add_other hbs'] at hb'
        rw [AH.get_push, if_neg hbs] at hx; rw [AH.get_push, if_neg hbs'] at hx'
        exact hS.inj b b' c d d' x x' hb hb' hx hx' hl hl' hne
  · obtain ⟨C, e, fr, h5, h6⟩ := hS.still c i u h
    exact ⟨C, e, fr, by rw [old c (Array.getElem?_eq_some_iff.1 h5).1]; exact h5, h6⟩
  · show φ.still c i = none
    by_cases hbs : b = σ.size
    · subst hbs
      rw [Ren.add_same] at hb
      obtain ⟨rfl, rfl⟩ := Prod.mk.inj (Option.some.inj hb)
      exact fresh0 i
    · rw [Ren.add_other hbs] at hb
      rw [AH.get_push, if_neg hbs] at hx
      exact hS.apart b c d x hb hx hwx i
  · exact {
      os := h1, tape := h2, output := h3, drawn := h4
      hsize := by rw [hw]; simp
      le := hle, base := rfl
      asize := by rw [AH.size_push]; omega
      fresh := fun b c d h0 h' => by
        by_cases hbs : b = σ.size
        · subst hbs; rw [Ren.add_same] at h'
          obtain ⟨rfl, rfl⟩ := Prod.mk.inj (Option.some.inj h')
          exact ⟨Nat.le_refl _, by rw [AH.size_push]; omega, .inl (Nat.le_refl _)⟩
        · rw [Ren.add_other hbs, h0] at h'; cases h'
      frameC := fun c hc _ => old c hc
      frameA := fun b hb _ => by rw [AH.get_push, if_neg (by omega)]
      stay := fun b hb ⟨h4, x, h5, h6⟩ => ⟨h4, x, by rwa [AH.get_push, if_neg (by omega)] at h5, h6⟩
      free := fun b h4 h5 => by rw [AH.size_push] at h5; obtain rfl : b = σ.size := by omega
                                exact hf
      stills := fun _ _ _ h => .inl h }

/-! ### a block that is written -/
theorem put_block {φ : Ren} {σ : AH} {w w' : World} {b c d : Nat} {o o' : AObj} (hS : StRel φ σ w) (hb : φ b = some (c, d)) (ho : σ.get b = some o) (hwr : o.wr = true) (hbase : σ.base ≤ b)
    (hsz : w'.heap.size = w.heap.size) (hh : ∀ j, j ≠ c → w'.heap[j]? = w.heap[j]?) (h1 : w'.os = w.os) (h2 : w'.tape = w.tape) (h3 : w'.output = w.output) (h4 : w.drawn ≤ w'.drawn)
    (hO : ORel φ w' c d o') (hro : o'.isRo = false) : StRel φ (σ.put b o') w' ∧ Ext φ σ w φ (σ.put b o') w' := by
  have hlt := AH.get_lt ho
  have ⟨hol, hor⟩ := AObj.live_of_wr hwr
  refine ⟨⟨fun j c' d' hj => by rw [hsz]; exact hS.inr j c' d' hj, fun j c' d' x hj hx => ?_, fun j j' c' d' d'' x x' hj hj' hx hx' hl hl' hne => ?_, fun c' i u h => ?_, fun j c' d' x hj hx hwx i => ?_⟩, ?_⟩
  · rw [AH.get_put hlt] at hx
    split at hx
    · subst_vars
      rw [hb] at hj
      obtain ⟨rfl, rfl⟩ := Prod.mk.inj (Option.some.inj hj)
      obtain rfl := Option.some.inj hx
      exact hO
    · rename_i hjb
      by_cases hl : x.live = true
      · refine (hS.obj j c' d' x hj hx).congr (hh c' fun e => ?_)
        subst e
        have := (hS.inj b j c' d d' o x hb hj ho hx hol hl (fun e => hjb e.symm)).1
        rw [hor] at this; cases this
      · cases x <;> simp_all [AObj.live, ORel]
  · rw [AH.get_put hlt] at hx hx'
    split at hx
    · split at hx'
      · subst_vars; exact absurd rfl hne
      · rename_i e hjb
        subst e
        rw [hb] at hj
        obtain ⟨rfl, rfl⟩ := Prod.mk.inj (Option.some.inj hj)
        have := (hS.inj j j' _ _ d'' o x' hb hj' ho hx' hol hl' hne).1
        rw [hor] at this; cases this
    · split at hx'
      · rename_i hjb e
        subst e
        rw [hb] at hj'
        obtain ⟨rfl, rfl⟩ := Prod.mk.inj (Option.some.inj hj')
        have := (hS.inj j' j _ _ d' o x hb hj ho hx hol hl (fun e => hne e.symm)).1
        rw [hor] at this; cases this
      · exact hS.inj j j' c' d' d'' x x' hj hj' hx hx' hl hl' hne
  · obtain ⟨C, e, fr, h5, h6⟩ := hS.still c' i u h
    refine ⟨C, e, fr, ?_, h6⟩
    rw [hh c' fun e => ?_]; exact h5
    subst e; rw [hS.apart b c' d o hb ho hwr i] at h; cases h
  · rw [AH.get_put hlt] at hx
    split at hx
    · subst_vars
      rw [hb] at hj
      obtain ⟨rfl, rfl⟩ := Prod.mk.inj (Option.some.inj hj)
      exact hS.apart _ _ _ o hb ho hwr i
    · exact hS.apart j c' d' x hj hx hwx i
  · exact {
      os := h1, tape := h2, output := h3, drawn := h4
      hsize := by rw [hsz]; exact Nat.le_refl _
      le := .refl _, base := rfl
      asize := by rw [AH.size_put]; exact Nat.le_refl _
      fresh := fun j c' d' h0 h' => by rw [h0] at h'; cases h'
      frameC := fun j hj hn => hh j fun e => by subst e; exact hn b d hb ⟨hbase, o, ho, hwr⟩
      frameA := fun j hj hn => by
        rw [AH.get_put hlt, if_neg]
        rintro rfl
        rcases hn with hn | hn
        · rw [hb] at hn; cases hn
        · exact hn ⟨hbase, o, ho, hwr⟩
      stay := fun j hj ⟨h4, x, h5, h6⟩ => by
        rw [AH.get_put hlt] at h5
        split at h5
        · subst_vars; exact ⟨hbase, o, ho, hwr⟩
        · exact ⟨h4, x, h5, h6⟩
      free := fun j h4 h5 => by rw [AH.size_put] at h5; omega
      stills := fun _ _ _ h => .inl h }

/-! ### rows -/
theorem row_some {σ : AH} {b o n : Nat} {l : List Value} (h : σ.row b o n = some l) : ∃ ro z cs, σ.get b = some (.cells ro z cs) ∧ o + n ≤ cs.length ∧ l = (cs.drop o).take n := by
  unfold AH.row at h
  split at h
  · rename_i ro z cs hg
    split at h
    · rename_i hle; exact ⟨ro, z, cs, hg, hle, (Option.some.inj h).symm⟩
    · cases h
  · cases h
theorem run_row {P : Program} {φ : Ren} {σ : AH} {w : World} {b c d o n : Nat} {l : List Value} (hS : StRel φ σ w) (hb : φ b = some (c, d)) (h : σ.row b o n = some l) :
    ∃ L, LRel φ l L ∧ (loadCells ⟨c, d + o, none⟩ n).run P w = .ok L.toArray w ∧ ∀ j v, L[j]? = some v → w.cell? ⟨c, d + o + j, none⟩ = some v := by
  obtain ⟨ro, z, cs, hg, hle, rfl⟩ := row_some h
  obtain ⟨C, e, fr, h1, h2, _, h3⟩ := hS.obj b c d _ hb hg
  have hl : (((cs.drop o).take n)).length = n := by simp; omega
  let L := (C.toList.drop (d + o)).take n
  have hcell : ∀ j, j < n → ∃ v, cs[o + j]? = some v ∧ ∃ v', C[d + (o + j)]? = some v' ∧ VRel φ v v' := fun j hj => by
    have hi : o + j < cs.length := by omega
    exact ⟨cs[o + j], by simp [hi], h3 _ _ (by simp [hi])⟩
  have hL : ∀ j v, L[j]? = some v → w.cell? ⟨c, d + o + j, none⟩ = some v := fun j v hv => by
    have hv' : C.toList[d + o + j]? = some v := by
      have := hv
      simp only [L, List.getElem?_take, List.getElem?_drop] at this
      split at this
      · exact this
      · cases this
    simp only [World.cell?, h1]
    simpa using hv'
  have hLl : L.length = n := by
    simp only [L, List.length_take, List.length_drop, Array.length_toList]
    by_cases hn : n = 0
    · omega
    · obtain ⟨v, _, v', h4, _⟩ := hcell (n - 1) (by omega)
      have := (Array.getElem?_eq_some_iff.1 h4).1
      omega
  refine ⟨L, ⟨by rw [hl, hLl], fun j v v' hv hv' => ?_⟩, ?_, hL⟩
  · have hj : j < n := by have := (List.getElem?_eq_some_iff.1 hv).1; omega
    obtain ⟨u, hu, u', hu', r⟩ := hcell j hj
    simp only [List.getElem?_take, List.getElem?_drop, hj, if_true] at hv
    rw [hu] at hv; obtain rfl := Option.some.inj hv
    simp only [L, List.getElem?_take, List.getElem?_drop, hj, if_true] at hv'
    have : C.toList[d + o + j]? = some u' := by rw [Nat.add_assoc]; simpa using hu'
    rw [this] at hv'; obtain rfl := Option.some.inj hv'
    exact r
  · have := run_loadCells_list (P := P) w ⟨c, d + o, none⟩ L (fun j v hv => by rw [Addr.add_lit]; exact hL j v hv)
    rwa [hLl] at this
theorem aLoad_ok {P : Program} {φ : Ren} {σ : AH} {w : World} {t : TypeId} {a a' v : Value} (hS : StRel φ σ w) (ha : VRel φ a a') (h : aLoad P t a σ = some v) :
    ∃ v', (Instr.loadAt t a').run P w = .ok v' w ∧ VRel φ v v' := by
  unfold aLoad at h
  split at h
  · rename_i cs hp
    obtain ⟨m, ms, rfl⟩ := fcells_some hp
    obtain ⟨c, o, us, rfl, h0, h1⟩ := ha.of_pfz
    have hcell : ∀ i, i < cs.size → w.cell? ⟨c, o + i, none⟩ = some (us i) := fun i hi => by
      obtain ⟨C, e, fr, h2, h3⟩ := hS.still _ _ _ (h0 i hi)
      simp [World.cell?, h2, h3]
    unfold aPart at h
    split at h
    · rename_i n hg hs
      split at h
      · rename_i hle
        obtain rfl := Option.some.inj h
        have hl := run_loadCells_list (P := P) w ⟨c, o, none⟩ ((List.range n).map us) (fun j v hv => by
          have hj : j < n := by have := (List.getElem?_eq_some_iff.1 hv).1; simpa using this
          rw [Addr.add_lit]
          rw [List.getElem?_map, List.getElem?_range hj] at hv
          simp at hv; subst hv
          exact hcell j (by omega))
        simp only [List.length_map, List.length_range] at hl
        refine ⟨.agg ((List.range n).map us).toArray, by simp only [Instr.loadAt, Instr.sureAddr, loadVar, Sem.run_bind, Sem.run_pure, Result.andThen_ok, run_isAgg hg, run_sizeOf' hs, if_true, hl], VRel.agg_of' ⟨by simp; omega, fun i v v' e e' => ?_⟩⟩
        have hi : i < n := by have := (List.getElem?_eq_some_iff.1 e').1; simpa using this
        simp only [List.getElem?_map, List.getElem?_range hi, Option.map_some, Option.some.injEq] at e'
        subst e'
        refine h1 i v ?_
        simp only [Nat.zero_add, Array.toList_extract, List.extract_eq_take_drop, Nat.sub_zero, List.drop_zero, List.getElem?_take, hi, if_true] at e
        simpa using e
      · cases h
    · rename_i hg
      have hi := (Array.getElem?_eq_some_iff.1 h).1
      exact ⟨us 0, by have := hcell 0 hi; simp at this; simp [Instr.loadAt, Instr.sureAddr, loadVar, run_isAgg hg, this], h1 0 v h⟩
    · cases h
  split at h
  · rename_i b o n hp hg hs
    obtain ⟨l, hl, rfl⟩ := Option.map_eq_some_iff.1 h
    rw [ptrOf_some hp] at ha
    obtain ⟨c, d, hb, rfl⟩ := ha.of_ptr'
    obtain ⟨L, r, e, _⟩ := run_row (P := P) hS hb hl
    exact ⟨.agg L.toArray, by simp [Instr.loadAt, Instr.sureAddr, loadVar, run_isAgg hg, run_sizeOf' hs, e], VRel.agg_of r⟩
  · rename_i b o hp hg
    rw [ptrOf_some hp] at ha
    obtain ⟨c, d, hb, rfl⟩ := ha.of_ptr'
    unfold AH.cell at h
    split at h
    · rename_i ro z cs hget
      obtain ⟨C, e, fr, h1, h2, _, h3⟩ := hS.obj b c d _ hb hget
      obtain ⟨v', h4, r⟩ := h3 o v h
      exact ⟨v', by simp [Instr.loadAt, Instr.sureAddr, loadVar, run_isAgg hg, World.cell?, h1, h4], r⟩
    · cases h
  · cases h

/-! ### storing -/
theorem setRow_ok {P : Program} {φ : Ren} {σ σ' : AH} {w : World} {b c d o : Nat} {vs vs' : List Value} (hS : StRel φ σ w) (hb : φ b = some (c, d)) (hv : LRel φ vs vs') (hc : vs.all isCell = true)
    (h : σ.setRow b o vs = some σ') : ∃ w', (storeCells ⟨c, d + o, none⟩ vs').run P w = .ok () w' ∧ StRel φ σ' w' ∧ Ext φ σ w φ σ' w' := by
  unfold AH.setRow at h
  split at h
  · rename_i z cs hget
    split at h
    · rename_i hle
      obtain rfl := Option.some.inj h
      obtain ⟨C, e, fr, h1, h2, hz, h3⟩ := hS.obj b c d _ hb hget
      obtain rfl := h2 rfl
      have hbig : vs.length ≠ 0 → d + o + vs.length ≤ C.size := fun hn => by
        have hi : o + vs.length - 1 < cs.length := by omega
        obtain ⟨v', h4, _⟩ := h3 (o + vs.length - 1) cs[o + vs.length - 1] (by simp [hi])
        have := (Array.getElem?_eq_some_iff.1 h4).1
        omega
      have hone : ∀ v ∈ vs', v.oneCell' = true := fun v hm => by
        obtain ⟨i, hi, rfl⟩ := List.getElem_of_mem hm
        have hi' : i < vs.length := by rw [hv.1]; exact hi
        exact (hv.2 i vs[i] vs'[i] (by simp [hi']) (by simp [hi])).oneCell (List.all_eq_true.1 hc _ (List.getElem_mem _))
      have hlen := hv.1
      by_cases hn : vs.length = 0
      · obtain rfl : vs = [] := List.eq_nil_of_length_eq_zero hn
        obtain rfl : vs' = [] := List.eq_nil_of_length_eq_zero (by rw [← hlen]; rfl)
        have hsame : spliceAt cs o [] = cs := by simp [spliceAt]
        rw [hsame]
        have hput := put_block hS hb hget (o' := .cells false z cs) rfl hle.1 rfl (fun _ _ => rfl) rfl rfl rfl (Nat.le_refl _) ⟨C, e, _, h1, fun _ => rfl, hz, h3⟩ rfl
        exact ⟨w, by simp [storeCells], hput⟩
      · have hC : d + o + vs'.length ≤ C.size := by rw [← hlen]; exact hbig hn
        have hrun := run_storeCells_at P c (d + o) e vs' 0 C w h1 (by simpa using hC) hone
        rw [Nat.add_zero] at hrun
        refine ⟨_, hrun, ?_⟩
        have hcl : c < w.heap.size := (Array.getElem?_eq_some_iff.1 h1).1
        refine put_block hS hb hget (o' := .cells false z (spliceAt cs o vs)) rfl hle.1 (by simp [World.setRow]) (fun j hj => ?_) rfl rfl rfl (Nat.le_refl _) ?_ rfl
        · simp only [World.setRow, Array.getElem?_modify]; rw [if_neg (fun e => hj e.symm)]
        · refine ⟨_, e, _, setRow_heap w c C _ e _ h1, fun _ => rfl, ⟨hz.1, fun hz0 => by rw [← hz.2 hz0]; simp; omega⟩, fun i v hv' => ?_⟩
          have hlt : i < (spliceAt cs o vs).length := (List.getElem?_eq_some_iff.1 hv').1
          have e1 : ((C.toList.take (d + o) ++ vs' ++ C.toList.drop (d + o + vs'.length)).toArray)[d + i]? = (spliceAt C.toList (d + o) vs')[d + i]? := by simp [spliceAt]
          rw [e1]
          unfold spliceAt at hv' ⊢
          rw [List.append_assoc, List.getElem?_append] at hv' ⊢
          have hl1 : (cs.take o).length = o := by simp; omega
          have hl2 : (C.toList.take (d + o)).length = d + o := by simp; omega
          rw [hl1] at hv'; rw [hl2]
          by_cases hio : i < o
          · rw [if_pos hio] at hv'; rw [if_pos (by omega)]
            rw [List.getElem?_take, if_pos hio] at hv'
            obtain ⟨v', h5, r⟩ := h3 i v hv'
            exact ⟨v', by rw [List.getElem?_take, if_pos (by omega)]; simpa using h5, r⟩
          · rw [if_neg hio] at hv'; rw [if_neg (by omega)]
            rw [show d + i - (d + o) = i - o by omega]
            rw [List.getElem?_append] at hv' ⊢
            rw [← hlen]
            by_cases hiv : i - o < vs.length
            · rw [if_pos hiv] at hv' ⊢
              exact hv.get hv'
            · rw [if_neg hiv] at hv' ⊢
              rw [List.getElem?_drop] at hv' ⊢
              obtain ⟨v', h5, r⟩ := h3 _ v hv'
              refine ⟨v', ?_, r⟩
              rw [show d + o + vs.length + (i - o - vs.length) = d + (o + vs.length + (i - o - vs.length)) by omega]
              simpa using h5
    · cases h
  · cases h
theorem aStore_ok {P : Program} {φ : Ren} {σ σ' : AH} {w : World} {t : TypeId} {a a' v v' : Value} (hS : StRel φ σ w) (ha : VRel φ a a') (hv : VRel φ v v') (h : aStore P t a v σ = some σ') :
    ∃ w', (Instr.storeAt t a' v').run P w = .ok () w' ∧ StRel φ σ' w' ∧ Ext φ σ w φ σ' w' := by
  unfold aStore at h
  split at h
  · rename_i b o n hp hs
    split at h
    · rename_i hc
      rw [ptrOf_some hp] at ha
      obtain ⟨c, d, hb, rfl⟩ := ha.of_ptr'
      have hcells := hv.cells hc.1
      obtain ⟨w', e, r⟩ := setRow_ok (P := P) hS hb hcells hc.2.2 h
      refine ⟨w', ?_, r⟩
      have hsz : v'.cells.size = n := by have := hcells.1; rw [hc.2.1] at this; simpa using this.symm
      simp [Instr.storeAt, Instr.sureAddr, storeVar, run_sizeOf' hs, hsz, e]
    · cases h
  · cases h
theorem aSlice_ok {P : Program} {φ : Ren} {σ : AH} {w : World} {t : TypeId} {x x' v : Value} {lo hi mx lo' hi' mx' : Option Value} (hS : StRel φ σ w) (hx : VRel φ x x')
    (hlo : ∀ v, lo = some v → ∃ v', lo' = some v' ∧ VRel φ v v') (hlo0 : lo = none → lo' = none) (hhi : ∀ v, hi = some v → ∃ v', hi' = some v' ∧ VRel φ v v') (hhi0 : hi = none → hi' = none)
    (hmx0 : mx = none → mx' = none) (h : aSlice P t x lo hi mx σ = some v) :
    ∃ v', (Instr.sliceAt t x' lo' hi' mx').run P w = .ok v' w ∧ VRel φ v v' := by
  unfold aSlice at h
  split at h
  · rename_i elem a len cap hu
    obtain rfl := hmx0 rfl
    split at h
    · rename_i hn s eh hs
      split at h
      · cases h
      rename_i hle
      split at h
      · rename_i l el
        simp at h; subst h
        have hlh : l ≤ hn := by
          unfold bound at el; split at el
          · simp at el; omega
          · split at el
            · rename_i hb; simp at el; omega
            · cases el
          · cases el
        cases a with
        | none =>
          obtain ⟨rfl, rfl, rfl⟩ := hx.of_nilSlice
          have hb := bounds_ok (P := P) (sl := true) hlo hlo0 hhi hhi0 (Nat.le_refl 0) eh el w
          obtain rfl : hn = 0 := by omega
          exact ⟨.slice none 0 0, by simp [Instr.sliceAt, Instr.slice, run_underlying hu, hb, run_sizeOf' hs], by simp; exact .prim rfl⟩
        | some a =>
          obtain ⟨c, d, o', k', hsp, e, rfl, hk, ho, hlim⟩ := hx.of_slice
          have hb := bounds_ok (P := P) (sl := true) hlo hlo0 hhi hhi0 hk eh el w
          refine ⟨.slice (some (if k' = l then ⟨c, o', none⟩ else ⟨c, o' + l * s, none⟩)) (hn - l) (k' - l), ?_, ?_⟩
          · simp only [Instr.sliceAt, Instr.slice, run_underlying hu, hb, run_sizeOf' hs, Sem.run_bind, Result.andThen_ok, Sem.run_pure, Option.map_some, Addr.add_lit]
            congr 2
            split <;> rfl
          · obtain ⟨ab, ao, as⟩ := a
            simp only at hsp e ho
            subst hsp
            have hz_of : φ ab = some (c, d) → (φ.lim c).1 ≠ 0 → (φ.lim c).1 = s := fun e hz => by
              have hok : σ.elemOk (some ⟨ab, ao, none⟩) s = true := by
                by_cases hq : σ.elemOk (some ⟨ab, ao, none⟩) s = true
                · exact hq
                · exact absurd (Or.inr (by simpa using hq)) hle
              unfold AH.elemOk at hok
              simp only at hok
              split at hok
              · rename_i ro z cs hg
                obtain ⟨C, el', fr, _, _, ⟨h3, _⟩, _⟩ := hS.obj ab c d _ e hg
                simp at hok
                rw [← h3] at hz ⊢
                rcases hok with hok | hok
                · exact absurd hok hz
                · exact hok
              · cases hok
            by_cases h1 : cap = l
            · rw [if_pos h1, show hn - l = 0 by omega, show cap - l = 0 by omega]
              split
              · exact .slice0 e (.inl (by omega))
              · refine .slice0 e ?_
                rcases hlim with hlim | ⟨hz, hlim⟩
                · exact .inl (by omega)
                · have hzs := hz_of e hz
                  refine .inr ⟨hz, ?_⟩
                  rw [hzs] at hlim ⊢
                  rw [Nat.sub_mul]
                  have : l * s ≤ k' * s := Nat.mul_le_mul_right _ (by omega)
                  omega
            · rw [if_neg h1, if_neg (by omega)]
              have ho : o' = d + ao := by
                rcases ho with ho | ho
                · omega
                · exact ho
              subst ho
              rw [Nat.add_assoc]
              refine .slice e (by omega) ?_
              rcases hlim with hlim | ⟨hz, hlim⟩
              · exact .inl (by omega)
              · have hzs := hz_of e hz
                refine .inr ⟨hz, ?_⟩
                rw [hzs] at hlim ⊢
                rw [Nat.sub_mul]
                have : l * s ≤ k' * s := Nat.mul_le_mul_right _ (by omega)
                show d + (ao + l * s) + (k' * s - l * s) ≤ (φ.lim c).2
                omega
      · cases h
    · cases h
  · rename_i n elem b o hu
    obtain rfl := hmx0 rfl
    split at h
    · rename_i hn s eh hs
      split at h
      · rename_i l el
        simp at h; subst h
        obtain ⟨c, d, e, rfl⟩ := hx.of_ptr'
        have hb := bounds_ok (P := P) (sl := false) hlo hlo0 hhi hhi0 (Nat.le_refl n) eh el w
        refine ⟨.slice (some (if n = l then ⟨c, d + o, none⟩ else ⟨c, d + o + l * s, none⟩)) (hn - l) (n - l), ?_, ?_⟩
        · simp only [Instr.sliceAt, run_underlying hu, hb, run_sizeOf' hs, Sem.run_bind, Result.andThen_ok, Sem.run_pure, Addr.add_lit, Instr.sureAddr]
        · split
          · exact .slice e (Nat.le_refl _) (.inl rfl)
          · rw [Nat.add_assoc]; exact .slice e (Nat.le_refl _) (.inl rfl)
      · cases h
    · cases h
  · rename_i elem n ms cs hu
    obtain rfl := hmx0 rfl
    split at h
    · rename_i hn s eh hs
      split at h
      · rename_i l el
        simp at h; subst h
        have hh : hn ≤ n := by
          unfold bound at eh; split at eh
          · simp at eh; omega
          · split at eh
            · rename_i hb; simp at eh; omega
            · cases eh
          · cases eh
        by_cases hemp : isEmp (.func (.yield n) ms cs) = true
        · obtain ⟨c, o, rfl⟩ := hx.of_emp hemp
          have hn0 : n = 0 := by
            rcases hx.of_fz with ⟨_, _, _, _, e, _⟩ | ⟨_, e, _⟩
            · cases e; rfl
            · exact e
          subst hn0
          have hb := bounds_ok (P := P) (sl := true) hlo hlo0 hhi hhi0 (Nat.le_refl 0) eh el w
          obtain rfl : hn = 0 := by omega
          obtain rfl : l = 0 := by
            unfold bound at el; split at el
            · simp at el; omega
            · split at el
              · rename_i hb; simp at el; omega
              · cases el
            · cases el
          rw [if_pos hemp]
          exact ⟨.slice (some ⟨c, o, none⟩) 0 0, by simp [Instr.sliceAt, Instr.slice, run_underlying hu, hb, run_sizeOf' hs], .emp rfl⟩
        rw [if_neg hemp]
        rcases hx.of_fz with ⟨c, o, k', us, rfl, hk, h0, h1⟩ | ⟨⟨a, k', rfl⟩, rfl, rfl⟩
        · have hb := bounds_ok (P := P) (sl := true) hlo hlo0 hhi hhi0 hk eh el w
          refine ⟨.slice (some (if k' = l then ⟨c, o, none⟩ else ⟨c, o + l * s, none⟩)) (hn - l) (k' - l), ?_, ?_⟩
          · simp only [Instr.sliceAt, Instr.slice, run_underlying hu, hb, run_sizeOf' hs, Sem.run_bind, Result.andThen_ok, Sem.run_pure, Option.map_some, Addr.add_lit]
            congr 2
            split <;> rfl
          · split
            · have hl0 : hn - l = 0 := by omega
              have : cs.extract (l * s) (hn * s) = #[] := by
                have : hn * s ≤ l * s := Nat.mul_le_mul_right _ (by omega)
                simp; omega
              rw [this]
              exact .fz (us := us) (by omega) (fun i hi => by simp at hi) (fun i v hv => by simp at hv)
            · exact still_rows (by omega) h0 h1
        · have hb := bounds_ok (P := P) (sl := true) hlo hlo0 hhi hhi0 (Nat.zero_le k') eh el w
          obtain rfl : hn = 0 := by omega
          refine ⟨.slice (a.map fun a => if k' = l then a else a.add (l * s)) (0 - l) (k' - l), ?_, ?_⟩
          · simp only [Instr.sliceAt, Instr.slice, run_underlying hu, hb, run_sizeOf' hs, Sem.run_bind, Result.andThen_ok, Sem.run_pure]
            cases a <;> simp <;> split <;> rfl
          · simp; exact .fz0
      · cases h
    · cases h
  · rename_i n elem ms cs hu
    obtain rfl := hmx0 rfl
    split at h
    · rename_i hn s eh hs
      split at h
      · rename_i l el
        simp at h; subst h
        have hh : hn ≤ n := by
          unfold bound at eh; split at eh
          · simp at eh; omega
          · split at eh
            · rename_i hb; simp at eh; omega
            · cases eh
          · cases eh
        obtain ⟨c, o, us, rfl, h0, h1⟩ := hx.of_pfz
        have hb := bounds_ok (P := P) (sl := false) hlo hlo0 hhi hhi0 (Nat.le_refl n) eh el w
        refine ⟨.slice (some (if n = l then ⟨c, o, none⟩ else ⟨c, o + l * s, none⟩)) (hn - l) (n - l), ?_, ?_⟩
        · simp only [Instr.sliceAt, run_underlying hu, hb, run_sizeOf' hs, Sem.run_bind, Result.andThen_ok, Sem.run_pure, Addr.add_lit, Instr.sureAddr]
        · split
          · have : cs.extract (l * s) (hn * s) = #[] := by
              have : hn * s ≤ l * s := Nat.mul_le_mul_right _ (by omega)
              simp; omega
            rw [this]
            exact .fz (us := us) (by omega) (fun i hi => by simp at hi) (fun i v hv => by simp at hv)
          · exact still_rows (by omega) h0 h1
      · cases h
    · cases h
  · rename_i s hu
    obtain rfl := hmx0 rfl
    rw [hx.of_string]
    split at h
    · rename_i hn eh
      split at h
      · rename_i l el
        simp at h; subst h
        have hb := bounds_ok (P := P) (sl := false) hlo hlo0 hhi hhi0 (Nat.le_refl s.size) eh el w
        exact ⟨.string (s.extract l hn), by simp [Instr.sliceAt, Instr.slice, run_underlying hu, hb], .prim rfl⟩
      · cases h
    · cases h
  · cases h

end Go.Ab
