/- The interpreter's operations that make and fill, append and copy, and those on maps, are the machine's: soundness under the relation of heaps. -/
import Derived.Test.YtaclhflmgafobaaFzD
namespace Go.Ab
open Go
set_option linter.unusedSimpArgs false
set_option linter.unusedVariables false

theorem LRel.set {φ : Ren} {xs ys : List Value} {v v' : Value} (h : LRel φ xs ys) (hv : VRel φ v v') (i : Nat) : LRel φ (xs.set i v) (ys.set i v') :=
  ⟨by simp [h.1], fun j u u' e e' => by
    rw [List.getElem?_set] at e e'
    rw [← h.1] at e'
    split at e
    · rename_i hij; rw [if_pos hij] at e'
      split at e
      · rename_i hl; rw [if_pos hl] at e'; simp at e e'; subst e; subst e'; exact hv
      · cases e
    · rename_i hij; rw [if_neg hij] at e'; exact h.2 j u u' e e'⟩
theorem foldl_set {φ : Ren} (off : Nat) : ∀ (l l' : List Value) (k : Nat) (C C' : Array Value), LRel φ l l' → LRel φ C.toList C'.toList →
    LRel φ ((l.zipIdx k).foldl (fun cs x => cs.setIfInBounds (off + x.2) x.1) C).toList ((l'.zipIdx k).foldl (fun cs x => cs.setIfInBounds (off + x.2) x.1) C').toList
  | [], l', k, C, C', h, hC => by
    obtain rfl : l' = [] := List.eq_nil_of_length_eq_zero h.1.symm
    simpa using hC
  | x :: l, l', k, C, C', h, hC => by
    match l', h with
    | y :: l', h =>
      simp only [List.zipIdx_cons, List.foldl_cons]
      refine foldl_set off l l' (k + 1) _ _ ⟨by simpa using h.1, fun i v v' e e' => h.2 (i + 1) v v' (by simpa using e) (by simpa using e')⟩ ?_
      simp only [Array.toList_setIfInBounds]
      exact hC.set (h.2 0 x y rfl rfl) _
    | [], h => exact absurd h.1 (by simp)
theorem fill_ok {φ : Ren} {ρ ρ' : Operand → Value} (hρ : ∀ x, VRel φ (ρ x) (ρ' x)) (place : Nat → Option (Nat × Nat)) : ∀ (ps : List (Nat × Operand)) (C C' r : Array Value),
    LRel φ C.toList C'.toList → ((ps.map fun p => (p.1, ρ p.2)).all (fun p => !isTuple p.2)) = true → Instr.fill place C (ps.map fun p => (p.1, ρ p.2)) = some r →
    ∃ r', Instr.fill place C' (ps.map fun p => (p.1, ρ' p.2)) = some r' ∧ LRel φ r.toList r'.toList
  | [], C, C', r, hC, _, h => by simp [Instr.fill] at h; subst h; exact ⟨C', by simp [Instr.fill], hC⟩
  | (i, x) :: ps, C, C', r, hC, hf, h => by
    simp only [List.map_cons, List.all_cons, Bool.and_eq_true, Bool.not_eq_true'] at hf
    simp only [List.map_cons, Instr.fill] at h ⊢
    have hc := (hρ x).cells hf.1
    have hs : (ρ' x).cells.size = (ρ x).cells.size := by have := hc.1; simpa [cellsOfV] using this.symm
    have hCs : C'.size = C.size := by have := hC.1; simpa using this.symm
    cases hp : place i with
    | none => simp [hp] at h
    | some os =>
      obtain ⟨off, size⟩ := os
      simp only [hp] at h ⊢
      rw [hs, hCs]
      split at h
      · cases h
      · rename_i hbad
        rw [if_neg hbad]
        refine fill_ok hρ place ps _ _ r ?_ hf.2 h
        have := foldl_set (φ := φ) off (ρ x).cells.toList (ρ' x).cells.toList 0 C C' hc hC
        rw [← Array.foldl_toList, ← Array.foldl_toList, Array.toList_zipIdx, Array.toList_zipIdx]
        exact this
theorem closed_cells {φ : Ren} {z : Value} (h : closedV z = true) (ht : isTuple z = false) : LRel φ z.cells.toList z.cells.toList := (closed_rel (φ := φ) h).cells ht
theorem closed_cells' {φ : Ren} {z : Value} (h : closedV z = true) : LRel φ z.cells.toList z.cells.toList := by
  cases z with
  | tuple cs => exact LRel.cons (closed_rel h) (LRel.nil φ)
  | agg cs => exact closed_cells h rfl
  | _ => exact LRel.cons (closed_rel h) (LRel.nil φ)

theorem run_places {P : Program} {w : World} : ∀ (l : List Field) (pl : List (Nat × Nat)), (l.mapM fun f => (szOf P f.type).map fun s => (f.offset, s)) = some pl →
    (l.mapM (m := Sem) fun f => do pure (f.offset, ← sizeOf f.type)).run P w = .ok pl w
  | [], pl, h => by simp at h; subst h; simp
  | f :: l, pl, h => by
    simp only [List.mapM_cons] at h ⊢
    cases hs : szOf P f.type with
    | none => simp [hs] at h
    | some s =>
      simp only [hs, Option.map_some, Option.bind_eq_bind, Option.bind_some] at h
      cases hl : (l.mapM fun f => (szOf P f.type).map fun s => (f.offset, s)) with
      | none => simp [hl] at h
      | some pl' =>
        simp [hl] at h; subst h
        have ih := run_places (w := w) l pl' hl
        simp only [Sem.run_bind, run_sizeOf' hs, Result.andThen_ok, Sem.run_pure, ih]
theorem aBuild_ok {P : Program} {φ : Ren} {ρ ρ' : Operand → Value} (hρ : ∀ x, VRel φ (ρ x) (ρ' x)) {t : TypeId} {ps : List (Nat × Operand)} {v : Value}
    (h : aBuild P t (ps.map fun p => (p.1, ρ p.2)) = some v) (w : World) :
    ∃ v', (Instr.build t (ps.map fun p => (p.1, ρ' p.2)).toArray).run P w = .ok v' w ∧ VRel φ v v' := by
  unfold aBuild at h
  split at h
  · cases h
  rename_i hf
  have hf : ((ps.map fun p => (p.1, ρ p.2)).all (fun p => !isTuple p.2)) = true := by simpa using hf
  split at h
  · rename_i z fs hz hu
    split at h
    · rename_i pl hpl
      obtain ⟨r, hr, rfl⟩ := Option.map_eq_some_iff.1 h
      obtain ⟨_, _, _, hcl⟩ := zeroOf_some hz
      obtain ⟨r', hr', hrel⟩ := fill_ok hρ (fun i => pl[i]?) ps z.cells z.cells r (closed_cells' hcl) hf hr
      refine ⟨.agg r', ?_, VRel.agg_of' hrel⟩
      have hp := run_places (w := w) fs.toList pl hpl
      have hp' : (fs.mapM (m := Sem) fun f => do pure (f.offset, ← sizeOf f.type)).run P w = .ok pl.toArray w := by
        rw [Array.mapM_eq_mapM_toList, Sem.run_map, hp]; rfl
      simp only [Instr.build, Sem.run_bind, run_zeroValue' hz, run_underlying hu, Result.andThen_ok, hp']
      simp only [List.getElem?_toArray, hr']
      rfl
    · cases h
  · rename_i z n elem hz hu
    split at h
    · rename_i s hs
      obtain ⟨r, hr, rfl⟩ := Option.map_eq_some_iff.1 h
      obtain ⟨_, _, _, hcl⟩ := zeroOf_some hz
      obtain ⟨r', hr', hrel⟩ := fill_ok hρ _ ps z.cells z.cells r (closed_cells' hcl) hf hr
      refine ⟨.agg r', ?_, VRel.agg_of' hrel⟩
      simp only [Instr.build, Sem.run_bind, run_zeroValue' hz, run_underlying hu, Result.andThen_ok, run_sizeOf' hs, hr']
      rfl
    · cases h
  · cases h

theorem rep_length (z : List Value) (n : Nat) : (rep z n).length = n * z.length := by
  induction n with
  | zero => simp [rep]
  | succ n ih => simp [rep, ih, Nat.succ_mul, Nat.add_comm]
theorem rep_get (z : List Value) : ∀ (n i : Nat), i < n * z.length → (rep z n)[i]? = z[i % z.length]?
  | 0, i, h => by omega
  | n + 1, i, h => by
    simp only [rep, List.getElem?_append]
    by_cases hi : i < z.length
    · rw [if_pos hi, Nat.mod_eq_of_lt hi]
    · rw [if_neg hi, rep_get z n (i - z.length) (by rw [Nat.succ_mul] at h; omega), ← Nat.mod_eq_sub_mod (by omega)]
theorem rep_rel {φ : Ren} {z : List Value} (h : LRel φ z z) : ∀ n, LRel φ (rep z n) (rep z n)
  | 0 => LRel.nil φ
  | n + 1 => h.append (rep_rel h n)
theorem zeros_rep (z : Array Value) (n : Nat) (hz : 0 < z.size) : (Array.range (n * z.size)).map (z[· % z.size]!) = (rep z.toList n).toArray := by
  apply Array.ext'
  apply List.ext_getElem?
  intro i
  simp only [Array.toList_map, Array.toList_range, List.getElem?_map]
  by_cases hi : i < n * z.size
  · rw [rep_get _ _ _ (by simpa using hi)]
    simp only [List.getElem?_range hi, Option.map_some, Array.length_toList]
    have hm : i % z.size < z.size := Nat.mod_lt _ hz
    simp [hm, getElem!_pos z (i % z.size) hm]
  · rw [List.getElem?_eq_none (by simp; omega), List.getElem?_eq_none (by rw [rep_length]; simp; omega)]
    rfl

theorem cells_new {φ : Ren} {σ : AH} {w w' : World} {cs : List Value} {C : Array Value} {e : TypeId} {z : Nat} {rest : Array Value} (hS : StRel φ σ w) (hf : φ σ.size = none)
    (hw : w'.heap = w.heap.push (.cells (C ++ rest) e)) (h1 : w'.os = w.os) (h2 : w'.tape = w.tape) (h3 : w'.output = w.output) (h4 : w.drawn ≤ w'.drawn) (hC : LRel φ cs C.toList) :
    StRel (φ.add σ.size w.heap.size 0 (z, (C ++ rest).size)) (σ.push (.cells false z cs)) w' ∧ Ext φ σ w (φ.add σ.size w.heap.size 0 (z, (C ++ rest).size)) (σ.push (.cells false z cs)) w' := by
  have hle := Ren.add_le (c := w.heap.size) (d := 0) (L := (z, (C ++ rest).size)) hf (fun b' d' e => absurd (hS.inr b' _ d' e) (Nat.lt_irrefl _))
  refine new_block hS hf hw h1 h2 h3 h4 ⟨C ++ rest, e, (0, 0), by rw [hw]; simp, fun _ => rfl, ⟨by rw [Ren.lim_same], fun _ => by rw [Ren.lim_same]⟩, fun i v hv => ?_⟩ rfl
  obtain ⟨v', e', r⟩ := (hC.mono hle).get hv
  refine ⟨v', ?_, r⟩
  have hi := (Array.getElem?_eq_some_iff.1 (show C[i]? = some v' by simpa using e')).1
  rw [Nat.zero_add, Array.getElem?_append_left hi]
  simpa using e'

theorem box_ok {P : Program} {φ : Ren} {σ : AH} {w : World} {e : TypeId} {v v' : Value} (hS : StRel φ σ w) (hf : φ σ.size = none) (hv : VRel φ v v') (ht : isTuple v = false) :
    ∃ φ' w', (newVar e v').run P w = .ok ⟨w.heap.size, 0, none⟩ w' ∧ StRel φ' (σ.alloc (cellsOfV v)).2 w' ∧ Ext φ σ w φ' (σ.alloc (cellsOfV v)).2 w' ∧ VRel φ' (σ.alloc (cellsOfV v)).1 (.pointer (some ⟨w.heap.size, 0, none⟩)) := by
  have hc := hv.cells ht
  have := cells_new (z := 0) (rest := #[]) (e := e) (C := v'.cells) (w' := { w with heap := w.heap.push (.cells v'.cells e) }) hS hf (by simp) rfl rfl rfl (Nat.le_refl _) hc
  exact ⟨_, _, by simp [newVar, newRow], this.1, this.2, .ptr Ren.add_same⟩

theorem aBuildSlice_ok {P : Program} {φ : Ren} {σ σ' : AH} {w : World} {ρ ρ' : Operand → Value} (hρ : ∀ x, VRel φ (ρ x) (ρ' x)) {t : TypeId} {n : Nat} {ps : List (Nat × Operand)} {v : Value}
    (hS : StRel φ σ w) (hf0 : φ σ.size = none) (h : aBuildSlice P t n (ps.map fun p => (p.1, ρ p.2)) σ = some (v, σ')) :
    ∃ φ' v' w', (Instr.buildSlice t n (ps.map fun p => (p.1, ρ' p.2)).toArray).run P w = .ok v' w' ∧ StRel φ' σ' w' ∧ Ext φ σ w φ' σ' w' ∧ VRel φ' v v' := by
  unfold aBuildSlice at h
  split at h
  · cases h
  rename_i hf
  have hf : ((ps.map fun p => (p.1, ρ p.2)).all (fun p => !isTuple p.2)) = true := by simpa using hf
  split at h
  · rename_i elem hu
    split at h
    · rename_i s z hs hz
      split at h
      · rename_i hc
        split at h
        · rename_i r hr
          simp only [Option.some.injEq, Prod.mk.injEq] at h
          obtain ⟨rfl, rfl⟩ := h
          obtain ⟨_, _, _, hcl⟩ := zeroOf_some hz
          obtain ⟨r', hr', hrel⟩ := fill_ok hρ _ ps _ _ r (by simpa using rep_rel (closed_cells' (φ := φ) hcl) n) hf hr
          have hnew := cells_new (z := s) (rest := #[]) (e := elem) (C := r') (w' := { w with heap := w.heap.push (.cells r' elem) }) hS hf0 (by simp) rfl rfl rfl (Nat.le_refl _) hrel
          have hdead := new_block (o := .dead) (L := (0, 0)) (O := .cells r' elem) (w' := { w with heap := w.heap.push (.cells r' elem) }) hS hf0 rfl rfl rfl rfl (Nat.le_refl _) trivial rfl
          have hpair : ∃ φ', (StRel φ' (σ.push (if n = 0 then .dead else .cells false s r.toList)) { w with heap := w.heap.push (.cells r' elem) } ∧ Ext φ σ w φ' (σ.push (if n = 0 then .dead else .cells false s r.toList)) { w with heap := w.heap.push (.cells r' elem) }) ∧ VRel φ' (if n = 0 then emp else .slice (some ⟨σ.size, 0, none⟩) n n) (.slice (some ⟨w.heap.size, 0, none⟩) n n) := by
            by_cases hn : n = 0
            · simp only [if_pos hn]
              exact ⟨_, hdead, by rw [hn]; exact .emp rfl⟩
            · simp only [if_neg hn]
              refine ⟨_, hnew, ?_⟩
              have := VRel.slice (φ := φ.add σ.size w.heap.size 0 (s, (r' ++ #[]).size)) (o := 0) (n := n) Ren.add_same (Nat.le_refl n) (.inl rfl)
              simpa using this
          obtain ⟨φ', hnew, hvr⟩ := hpair
          refine ⟨φ', .slice (some ⟨w.heap.size, 0, none⟩) n n, _, ?_, hnew.1, hnew.2, hvr⟩
          · have hlim : ¬ n * s > 2 ^ 24 := by omega
            by_cases hn : n * s = 0
            · have h0 : n = 0 := by rcases Nat.mul_eq_zero.1 hn with h | h <;> omega
              subst h0
              have hr0 : Instr.fill (fun i => some (i * s, s)) #[] (List.map (fun p => (p.fst, ρ' p.snd)) ps) = some r' := by simpa [rep] using hr'
              simp [Instr.buildSlice, run_underlying hu, run_sizeOf' hs, hr0, newRow, Array.range_zero']
            · have hrep : (Array.range (n * s)).map (z.cells[· % z.cells.size]!) = (rep z.cells.toList n).toArray := by
                rw [← hc.2.1]; exact zeros_rep z.cells n (by omega)
              simp only [Instr.buildSlice, Sem.run_bind, run_underlying hu, Result.andThen_ok, run_sizeOf' hs, if_neg hlim, if_neg hn, run_zeroValue' hz, hrep, pure_bind, Sem.run_pure, hr', newRow, run_newObj]
        · cases h
      · cases h
    · cases h
  · cases h

theorem aMakeSlice_ok {P : Program} {φ : Ren} {σ σ' : AH} {w : World} {t : TypeId} {l c l' c' v : Value}
    (hS : StRel φ σ w) (hf0 : φ σ.size = none) (hl : VRel φ l l') (hc : VRel φ c c') (h : aMakeSlice P t l c σ = some (v, σ')) :
    ∃ φ' v' w', (Instr.makeSlice t l' c').run P w = .ok v' w' ∧ StRel φ' σ' w' ∧ Ext φ σ w φ' σ' w' ∧ VRel φ' v v' := by
  unfold aMakeSlice at h
  split at h
  · rename_i elem k ln k2 cn hu
    rw [hl.of_int, hc.of_int]
    split at h
    · rename_i i hi
      split at h
      · rename_i z hz
        split at h
        · rename_i hb
          simp only [Option.some.injEq, Prod.mk.injEq] at h
          obtain ⟨rfl, rfl⟩ := h
          obtain ⟨h0, h1, h2, h3, h4, h5, h6⟩ := hb
          have hnew := cells_new (z := i.size) (rest := #[]) (e := elem) (C := (rep z.cells.toList cn.toNat).toArray) (w' := { w with heap := w.heap.push (.cells (rep z.cells.toList cn.toNat).toArray elem) }) hS hf0 (by simp) rfl rfl rfl (Nat.le_refl _) (by simpa using rep_rel (closed_cells' (φ := φ) h6) cn.toNat)
          refine ⟨_, .slice (some ⟨w.heap.size, 0, none⟩) ln.toNat cn.toNat, _, ?_, hnew.1, hnew.2, ?_⟩
          · have w1 : IntKind.i64.wrap ln = ln := IntWalk.i64_in _ (by omega)
            have w2 : IntKind.i64.wrap cn = cn := IntWalk.i64_in _ (by omega)
            have hz' : zeroOf P elem = some z := by simp [zeroOf, hi, hz, h6]
            have hbytes : ¬ ((i.bytes : Int) * cn > 2 ^ 48) := by
              have : (2 : Int) ^ 40 ≤ 2 ^ 48 := by decide
              omega
            have hcond : ((decide (cn < 0) || decide ((i.bytes : Int) * cn > 2 ^ 48)) || decide (ln < 0) || decide (ln > cn)) = false := by simp; omega
            have hs' : szOf P elem = some i.size := by simp [szOf, hi]
            by_cases hn : cn.toNat * i.size = 0
            · have hc0 : cn.toNat = 0 := by rcases Nat.mul_eq_zero.1 hn with h | h <;> omega
              simp only [Instr.makeSlice, Sem.run_bind, run_underlying hu, Result.andThen_ok, asInt, asIntOf, Sem.run_pure, run_typeInfo' hi, w1, w2, pure_bind]
              rw [if_neg (by simpa using hcond)]
              simp [run_askRoom, run_sizeOf' hs', hc0, rep, newRow, Array.range_zero']
            · have hrep : (Array.range (cn.toNat * i.size)).map (z.cells[· % z.cells.size]!) = (rep z.cells.toList cn.toNat).toArray := by
                rw [← h5]; exact zeros_rep z.cells cn.toNat (by omega)
              simp only [Instr.makeSlice, Sem.run_bind, run_underlying hu, Result.andThen_ok, asInt, asIntOf, Sem.run_pure, run_typeInfo' hi, w1, w2, pure_bind]
              rw [if_neg (by simpa using hcond)]
              simp only [Sem.run_bind, run_askRoom, Result.andThen_ok, run_sizeOf' hs', if_neg hn, run_zeroValue' hz', Sem.run_pure, hrep, newRow, run_newObj, pure_bind]
          · have := VRel.slice (φ := φ.add σ.size w.heap.size 0 (i.size, ((rep z.cells.toList cn.toNat).toArray ++ #[]).size)) (o := 0) (n := ln.toNat) Ren.add_same (Nat.le_refl cn.toNat) (.inl rfl)
            simpa using this
        · cases h
      · cases h
    · cases h
  · cases h

theorem firstC_ok {P : Program} {φ : Ren} {σ : AH} {w : World} {x x' : Value} {size n : Nat} {l : List Value} (hS : StRel φ σ w) (hx : VRel φ x x') (hn : n * size ≠ 0 → ∃ m, lenV x = some m ∧ m ≠ 0) (h : firstC σ size n x = some l) :
    ∃ L, LRel φ l L ∧ (∀ k, (Builtin.firstCells size n x').run P { w with drawn := k } = .ok L.toArray { w with drawn := k }) ∧ (lenV x = some n → l.length = n * size) := by
  unfold firstC at h
  split at h
  · rename_i b o k1 k2
    obtain ⟨c, d, o', k', _, e, rfl, _, ho, _⟩ := hx.of_slice
    obtain ⟨ro, z, cs, hg, hle, hl⟩ := row_some h
    have hlen : l.length = n * size := by rw [hl]; simp; omega
    by_cases h0 : n * size = 0
    · refine ⟨[], ?_, fun k => by simp [Builtin.firstCells, h0, loadCells, loadCellsFrom], fun _ => hlen⟩
      rw [h0] at hlen
      rw [List.eq_nil_of_length_eq_zero hlen]; exact LRel.nil φ
    · obtain ⟨m, hm, hm0⟩ := hn h0
      simp [lenV] at hm
      have ho : o' = d + o := by
        rcases ho with ho | ho
        · omega
        · exact ho
      subst ho
      obtain ⟨L, r, _, hcell⟩ := run_row (P := P) hS e h
      refine ⟨L, r, fun k => ?_, fun _ => hlen⟩
      have := run_loadCells_list (P := P) { w with drawn := k } ⟨c, d + o, none⟩ L (fun j v hv => by rw [Addr.add_lit]; exact hcell j v hv)
      rw [← r.1, hlen] at this
      simp [Builtin.firstCells, this]
  · obtain ⟨rfl, rfl, rfl⟩ := hx.of_nilSlice
    simp at h; subst h
    exact ⟨[], LRel.nil φ, fun k => by simp [Builtin.firstCells], fun h => by simp [lenV] at h; simp [← h]⟩
  · rename_i m ms cs
    split at h
    · rename_i hle
      obtain rfl := Option.some.inj h
      rcases hx.of_fz with ⟨c, o, k', us, rfl, _, h0, h1⟩ | ⟨⟨a, k', rfl⟩, rfl, rfl⟩
      · have hl := fun k => run_loadCells_list (P := P) { w with drawn := k } ⟨c, o, none⟩ ((List.range (n * size)).map us) (fun j v hv => by
          have hj : j < n * size := by have := (List.getElem?_eq_some_iff.1 hv).1; simpa using this
          rw [Addr.add_lit]
          rw [List.getElem?_map, List.getElem?_range hj] at hv
          simp at hv; subst hv
          obtain ⟨C, e, fr, h2, h3⟩ := hS.still _ _ _ (h0 j (by omega))
          simp [World.cell?, h2, h3])
        simp only [List.length_map, List.length_range] at hl
        refine ⟨(List.range (n * size)).map us, ⟨by simp; omega, fun i v v' e e' => ?_⟩, fun k => by simp [Builtin.firstCells, hl k], fun _ => by simp; omega⟩
        have hi : i < n * size := by have := (List.getElem?_eq_some_iff.1 e').1; simpa using this
        simp only [List.getElem?_map, List.getElem?_range hi, Option.map_some, Option.some.injEq] at e'
        subst e'
        simp only [List.getElem?_take, hi, if_true] at e
        exact h1 i v (by simpa using e)
      · have hns : n * size = 0 := by
          have : n * size ≤ 0 := hle
          omega
        refine ⟨[], ?_, fun k => by cases a <;> simp [Builtin.firstCells, hns, loadCells, loadCellsFrom], fun _ => by simp at hle ⊢; omega⟩
        simpa using LRel.nil φ
    · cases h
  · cases h
theorem lenV_ok {P : Program} {φ : Ren} {w : World} {x x' : Value} {n : Nat} (hx : VRel φ x x') (h : lenV x = some n) : (Builtin.lenOf x').run P w = .ok n w := by
  unfold lenV at h
  split at h
  · simp at h; subst h
    obtain ⟨b', k', rfl, _⟩ := hx.of_slice_any
    simp [Builtin.lenOf]
  · simp at h; subst h
    rcases hx.of_fz with ⟨c, o, k', us, rfl, _⟩ | ⟨⟨_, _, rfl⟩, rfl, _⟩ <;> simp [Builtin.lenOf]
  · cases h
theorem isCell_one {φ : Ren} {xs ys : List Value} (h : LRel φ xs ys) (hc : xs.all isCell = true) : ∀ v ∈ ys, v.oneCell' = true := fun v hm => by
  obtain ⟨i, hi, rfl⟩ := List.getElem_of_mem hm
  have hi' : i < xs.length := by rw [h.1]; exact hi
  exact (h.2 i xs[i] ys[i] (by simp [hi']) (by simp [hi])).oneCell (List.all_eq_true.1 hc _ (List.getElem_mem _))
theorem nextslice_le (need cap : Nat) (h : cap < need) : Builtin.nextslicecap need cap ≤ 4 * need + 4096 := by
  unfold Builtin.nextslicecap
  split
  · omega
  · split
    · omega
    · have key : ∀ (r c : Nat), c ≤ 2 * need + 1024 → Builtin.growBy need r c ≤ 4 * need + 4096 := by
        intro r
        induction r with
        | zero => intro c hc; simp [Builtin.growBy]; omega
        | succ r ih =>
          intro c hc
          simp only [Builtin.growBy]
          split
          · omega
          · rename_i hlt
            exact ih _ (by omega)
      exact key 4 cap (by omega)
theorem run_append_fits {P : Program} {w w' : World} {st xt ty elem xe : TypeId} {a : Option Addr} {sLen cap n size : Nat} {x : Value} {L : List Value} (hu : P.underlying st = some (.slice elem)) (hxu : P.underlying xt = some (.slice xe))
    (hsize : szOf P elem = some size) (hlen : (Builtin.lenOf x).run P w = .ok n w) (hfit : sLen + n ≤ cap) (hfirst : (Builtin.firstCells size n x).run P w = .ok L.toArray w)
    (hst : ∀ b, a = some b → (storeCells (b.add (sLen * size)) L).run P w = .ok () w') (hnone : a = none → w' = w) :
    (Builtin.append_ #[st, xt] ty #[.slice a sLen cap, x]).run P w = .ok (.slice a (sLen + n) cap) w' := by
  cases a with
  | none => obtain rfl := hnone rfl; simp [Builtin.append_, run_underlying hu, run_underlying hxu, run_sizeOf' hsize, hlen, hfit, hfirst]
  | some b => simp [Builtin.append_, run_underlying hu, run_underlying hxu, run_sizeOf' hsize, hlen, hfit, hfirst, hst b rfl]
theorem run_append_grows {P : Program} {w : World} {st xt ty elem xe : TypeId} {a : Option Addr} {sLen cap n : Nat} {i : TypeInfo} {z : Value} {x : Value} {O L : List Value} (hu : P.underlying st = some (.slice elem)) (hxu : P.underlying xt = some (.slice xe))
    (hi : P.info? elem = some i) (hz : i.zero = some z) (hby : i.bytes ≠ 0) (hroom : ¬ 2 ^ 34 < (sLen + n) * i.bytes) (hlen : (Builtin.lenOf x).run P w = .ok n w) (hfit : ¬ sLen + n ≤ cap)
    (hO : ∀ k, (Builtin.firstCells i.size sLen (.slice a sLen cap)).run P { w with drawn := k } = .ok O.toArray { w with drawn := k })
    (hL : ∀ k, (Builtin.firstCells i.size n x).run P { w with drawn := k } = .ok L.toArray { w with drawn := k }) :
    ∃ newCap rest k, sLen + n ≤ newCap ∧ w.drawn ≤ k ∧ (O.length = sLen * i.size → L.length = n * i.size → z.cells.size = i.size → ((O ++ L).toArray ++ rest).size = newCap * i.size) ∧
      (Builtin.append_ #[st, xt] ty #[.slice a sLen cap, x]).run P w = .ok (.slice (some ⟨w.heap.size, 0, none⟩) (sLen + n) newCap) { w with drawn := k, heap := w.heap.push (.cells ((O ++ L).toArray ++ rest) elem) } := by
  have hsize : szOf P elem = some i.size := by simp [szOf, hi]
  have hzero : ∀ w : World, (zeroValue elem).run P w = .ok z w := fun w => by simp [zeroValue, typeInfo, hi, hz]
  have hnext := nextslice_le (sLen + n) cap (by omega)
  have hbig : ¬ (Builtin.nextslicecap (sLen + n) cap * i.bytes > 2 ^ 48) := by
    have h1 : Builtin.nextslicecap (sLen + n) cap * i.bytes ≤ (4 * (sLen + n) + 4096) * i.bytes := Nat.mul_le_mul_right _ hnext
    have h2 : (4 * (sLen + n) + 4096) * i.bytes ≤ 4100 * ((sLen + n) * i.bytes) := by
      have h3 : (4 * (sLen + n) + 4096) ≤ 4100 * (sLen + n) := by omega
      calc (4 * (sLen + n) + 4096) * i.bytes ≤ (4100 * (sLen + n)) * i.bytes := Nat.mul_le_mul_right _ h3
        _ = 4100 * ((sLen + n) * i.bytes) := Nat.mul_assoc _ _ _
    omega
  let q := Question.appendCap (sLen + n) cap elem
  let newCap := q.cut (w.tape w.drawn q)
  have hcap : sLen + n ≤ newCap := by show sLen + n ≤ (sLen + n) + _ % _; omega
  refine ⟨newCap, Builtin.zeroCells z.cells (newCap - (sLen + n)), w.drawn + 1, hcap, Nat.le_succ _, fun h1 h2 h3 => ?_, ?_⟩
  · simp [Builtin.zeroCells, h1, h2, h3]
    rw [← Nat.add_mul, ← Nat.add_mul]; congr 1; omega
  · simp [Builtin.append_, run_underlying hu, run_underlying hxu, run_sizeOf' hsize, run_typeInfo' hi, hlen, hfit, hby]
    rw [if_neg (by omega)]
    have hfd : (Question.appendCap (sLen + n) cap elem).forced = false := rfl
    have hO' : (Builtin.firstCells i.size sLen (.slice a sLen cap)).run P w.drew = .ok O.toArray w.drew := hO _
    have hL' : (Builtin.firstCells i.size n x).run P w.drew = .ok L.toArray w.drew := hL _
    rw [if_neg (by rw [hfd]; simp)]
    simp only [hO', hL', hzero, Result.andThen_ok, newRow, Sem.run_bind, run_newObj, Sem.run_pure]
    rw [← Array.append_assoc]
    simp
    exact ⟨rfl, rfl, rfl, rfl⟩

theorem StRel.drawn {φ : Ren} {σ : AH} {w : World} (h : StRel φ σ w) (k : Nat) : StRel φ σ { w with drawn := k } := by
  refine ⟨h.inr, fun b c d o hb ho => ?_, h.inj, h.still, h.apart⟩
  exact (h.obj b c d o hb ho).congr rfl
/-- A block is given up; what is new stands in the machine's same block. -/
theorem alias_block {φ : Ren} {σ : AH} {w w' : World} {b c d dn : Nat} {o o2 : AObj} (hS : StRel φ σ w) (hb : φ b = some (c, d)) (ho : σ.get b = some o) (hwr : o.wr = true) (hbase : σ.base ≤ b)
    (hf : φ σ.size = none) (hsz : w'.heap.size = w.heap.size) (hh : ∀ j, j ≠ c → w'.heap[j]? = w.heap[j]?) (h1 : w'.os = w.os) (h2 : w'.tape = w.tape) (h3 : w'.output = w.output) (h4 : w.drawn ≤ w'.drawn)
    (hO : ORel (φ.add σ.size c dn (φ.lim c)) w' c dn o2) (hro : o2.isRo = false) :
    StRel (φ.add σ.size c dn (φ.lim c)) ((σ.put b .dead).push o2) w' ∧ Ext φ σ w (φ.add σ.size c dn (φ.lim c)) ((σ.put b .dead).push o2) w' := by
  obtain ⟨hS1, hE1⟩ := put_block (w' := w') (o' := .dead) hS hb ho hwr hbase hsz hh h1 h2 h3 h4 trivial rfl
  have hlt := AH.get_lt ho
  have ⟨hol, hor⟩ := AObj.live_of_wr hwr
  have hsz1 : (σ.put b .dead).size = σ.size := AH.size_put
  have hle : φ.le (φ.add σ.size c dn (φ.lim c)) := Ren.add_le hf (fun _ _ _ => rfl)
  -- no live block stands in c any more
  have hno : ∀ j d' x, φ j = some (c, d') → (σ.put b .dead).get j = some x → x.live = false := fun j d' x hj hx => by
    rw [AH.get_put hlt] at hx
    split at hx
    · simp at hx; subst hx; rfl
    · rename_i hne
      cases hl : x.live with
      | false => rfl
      | true =>
        have := (hS.inj b j c d d' o x hb hj ho hx hol hl (fun e => hne e.symm)).1
        rw [hor] at this; cases this
  refine ⟨⟨fun j c' d' hj => ?_, fun j c' d' x hj hx => ?_, fun j j' c' d' d'' x x' hj hj' hx hx' hl hl' hne => ?_, hS1.still, fun j c' d' x hj hx hwx i => ?_⟩, ?_⟩
  · by_cases hjs : j = σ.size
    · subst hjs
      rw [Ren.add_same] at hj
      obtain ⟨rfl, rfl⟩ := Prod.mk.inj (Option.some.inj hj)
      rw [hsz]; exact hS.inr b _ d hb
    · rw [Ren.add_other hjs] at hj; exact hS1.inr j c' d' hj
  · rw [AH.get_push, hsz1] at hx
    by_cases hjs : j = σ.size
    · subst hjs
      rw [Ren.add_same] at hj
      obtain ⟨rfl, rfl⟩ := Prod.mk.inj (Option.some.inj hj)
      rw [if_pos rfl] at hx
      obtain rfl := Option.some.inj hx
      exact hO
    · rw [Ren.add_other hjs] at hj
      rw [if_neg hjs] at hx
      refine (hS1.obj j c' d' x hj hx).mono hle ?_
      by_cases hcc : c' = c
      · subst hcc; exact Ren.lim_same
      · exact Ren.lim_other hcc
  · rw [AH.get_push, hsz1] at hx hx'
    by_cases hjs : j = σ.size
    · subst hjs
      have hjs' : j' ≠ σ.size := fun e => hne e.symm
      rw [Ren.add_same] at hj
      obtain ⟨rfl, rfl⟩ := Prod.mk.inj (Option.some.inj hj)
      rw [Ren.add_other hjs'] at hj'; rw [if_neg hjs'] at hx'
      rw [hno j' d'' x' hj' hx'] at hl'; cases hl'
    · by_cases hjs' : j' = σ.size
      · subst hjs'
        rw [Ren.add_same] at hj'
        obtain ⟨rfl, rfl⟩ := Prod.mk.inj (Option.some.inj hj')
        rw [Ren.add_other hjs] at hj; rw [if_neg hjs] at hx
        rw [hno j d' x hj hx] at hl; cases hl
      · rw [Ren.add_other hjs] at hj; rw [Ren.add_other hjs'] at hj'
        rw [if_neg hjs] at hx; rw [if_neg hjs'] at hx'
        exact hS1.inj j j' c' d' d'' x x' hj hj' hx hx' hl hl' hne
  · show φ.still c' i = none
    by_cases hjs : j = σ.size
    · subst hjs
      rw [Ren.add_same] at hj
      obtain ⟨rfl, rfl⟩ := Prod.mk.inj (Option.some.inj hj)
      exact hS.apart b _ d o hb ho hwr i
    · rw [Ren.add_other hjs] at hj
      rw [AH.get_push, hsz1, if_neg hjs] at hx
      exact hS1.apart j c' d' x hj hx hwx i
  · exact {
      os := h1, tape := h2, output := h3, drawn := h4
      hsize := by rw [hsz]; exact Nat.le_refl _
      le := hle, base := rfl
      asize := by rw [AH.size_push, hsz1]; omega
      fresh := fun j c' d' h0 h' => by
        by_cases hjs : j = σ.size
        · subst hjs; rw [Ren.add_same] at h'
          obtain ⟨rfl, rfl⟩ := Prod.mk.inj (Option.some.inj h')
          exact ⟨Nat.le_refl _, by rw [AH.size_push, hsz1]; omega, .inr ⟨b, d, hb, hbase, o, ho, hwr⟩⟩
        · rw [Ren.add_other hjs, h0] at h'; cases h'
      frameC := hE1.frameC
      frameA := fun j hj hn => by rw [AH.get_push, hsz1, if_neg (by omega)]; exact hE1.frameA j hj hn
      stay := fun j hj ⟨h4, x, h5, h6⟩ => by
        rw [AH.get_push, hsz1, if_neg (by omega)] at h5
        exact hE1.stay j hj ⟨h4, x, h5, h6⟩
      free := fun j h4 h5 => by rw [AH.size_push, hsz1] at h5; obtain rfl : j = σ.size := by omega
                                exact hf
      stills := fun _ _ _ h => .inl h }
theorem aAppend0_ok {P : Program} {φ : Ren} {σ σ' : AH} {w : World} {st xt : TypeId} {ty : TypeId} {s x s' x' v : Value} (hS : StRel φ σ w) (hs : VRel φ s s') (hx : VRel φ x x')
    (hf0 : ∀ b, σ.size ≤ b → b < σ'.size → φ b = none) (h : aAppend0 P st xt s x σ = some (v, σ')) :
    ∃ φ' v' w', (Builtin.append_ #[st, xt] ty #[s', x']).run P w = .ok v' w' ∧ StRel φ' σ' w' ∧ Ext φ σ w φ' σ' w' ∧ VRel φ' v v' := by
  unfold aAppend0 at h
  split at h
  case h_2 => cases h
  rename_i elem xe a sLen sCap n hu hxu hlen
  have hrunlen := lenV_ok (P := P) (w := w) hx hlen
  split at h
  · -- nothing is appended
    rename_i hn0; subst hn0
    split at h
    · rename_i hle
      simp only [Option.some.injEq, Prod.mk.injEq] at h
      obtain ⟨rfl, rfl⟩ := h
      obtain ⟨a', k', rfl, _⟩ := hs.of_slice_any
      have hle' : sLen ≤ k' := by
        cases a with
        | none => obtain ⟨_, rfl, _⟩ := hs.of_nilSlice; omega
        | some a => obtain ⟨_, _, _, k2, _, _, e, hk, _⟩ := hs.of_slice; cases e; exact Nat.le_trans hle.1 hk
      refine ⟨φ, .slice a' sLen k', w, ?_, hS, .refl _ _ _, hs⟩
      have hfirst : ∀ size, (Builtin.firstCells size 0 x').run P w = .ok ([] : List Value).toArray w := fun size => by
        unfold lenV at hlen
        split at hlen
        · obtain ⟨b', k3, rfl, _⟩ := hx.of_slice_any
          cases b' <;> simp [Builtin.firstCells, loadCells, loadCellsFrom]
        · rcases hx.of_fz with ⟨c, o, k', us, rfl, _⟩ | ⟨⟨a, _, rfl⟩, _, _⟩ <;> first | (simp [Builtin.firstCells, loadCells, loadCellsFrom]; done) | (cases a <;> simp [Builtin.firstCells, loadCells, loadCellsFrom])
        · cases hlen
      have hinfo := hle.2
      unfold szOf at hinfo
      cases hq : P.info? elem with
      | none => simp [hq] at hinfo
      | some i =>
        have := run_append_fits (P := P) (ty := ty) (a := a') (sLen := sLen) (cap := k') (w' := w) (L := []) hu hxu (size := i.size) (by simp [szOf, hq]) hrunlen (by omega) (hfirst _) (fun b _ => by simp [storeCells]) (fun _ => rfl)
        simpa using this
    · cases h
  · rename_i hn0
    split at h
    · cases h
    rename_i i hi
    split at h
    · cases h
    rename_i hbad
    simp only [not_or] at hbad
    obtain ⟨hsz, hby, hroom, hzs⟩ := hbad
    obtain ⟨z, hz, hzsz⟩ : ∃ z, i.zero = some z ∧ z.cells.size = i.size := by cases hq : i.zero with
      | none => simp [hq] at hzs
      | some z => simp [hq] at hzs; exact ⟨z, rfl, hzs⟩
    have hsize : szOf P elem = some i.size := by simp [szOf, hi]
    have hzero : ∀ w : World, (zeroValue elem).run P w = .ok z w := fun w => by simp [zeroValue, typeInfo, hi, hz]
    split at h
    · cases h
    rename_i new hnew
    split at h
    · cases h
    rename_i hcell
    have hcell : new.all isCell = true := by simpa using hcell
    have hnz : n * i.size ≠ 0 → ∃ m, lenV x = some m ∧ m ≠ 0 := fun _ => ⟨n, hlen, hn0⟩
    obtain ⟨L, hLr, hLsame, hLlen⟩ := firstC_ok (P := P) hS hx hnz hnew
    have hLn : L.length = n * i.size := by rw [← hLr.1]; exact hLlen hlen
    split at h
    · -- onto nil
      obtain ⟨rfl, rfl, rfl⟩ := hs.of_nilSlice
      simp only [Option.some.injEq, Prod.mk.injEq] at h
      obtain ⟨rfl, rfl⟩ := h
      obtain ⟨newCap, rest, k, hcap, hdk, hszs, hrun⟩ := run_append_grows (P := P) (ty := ty) (a := none) (sLen := 0) (cap := 0) (O := []) hu hxu hi hz hby hroom hrunlen (by omega) (fun k => by simp [Builtin.firstCells]) hLsame
      have hnew' := cells_new (z := i.size) (rest := rest) (e := elem) (C := L.toArray) (w' := { w with drawn := k, heap := w.heap.push (.cells (L.toArray ++ rest) elem) }) hS (hf0 _ (Nat.le_refl _) (by rw [AH.size_push]; omega)) (by simp) rfl rfl rfl hdk hLr
      simp only [List.nil_append, Nat.zero_add] at hrun hszs hcap
      refine ⟨_, _, _, hrun, hnew'.1, hnew'.2, ?_⟩
      have := VRel.slice (φ := φ.add σ.size w.heap.size 0 (i.size, (L.toArray ++ rest).size)) (o := 0) (n := n) (k := n) (k' := newCap) Ren.add_same hcap (.inr ⟨by rw [Ren.lim_same]; exact hsz, by rw [Ren.lim_same, hszs (by simp) hLn hzsz]; simp⟩)
      simpa using this
    · rename_i b o
      obtain ⟨c, d, o', k', _, e, rfl, hk, ho, hlim⟩ := hs.of_slice
      simp only at e ho
      split at h
      · -- there is room, and it is known
        rename_i hroom'
        obtain ⟨σ1, h1, h2⟩ := Option.map_eq_some_iff.1 h
        simp only [Prod.mk.injEq] at h2
        obtain ⟨rfl, rfl⟩ := h2
        have ho : o' = d + o := by
          rcases ho with ho | ho
          · exact absurd hroom' (by rw [ho.1, ho.2]; simpa using hn0)
          · exact ho
        subst ho
        obtain ⟨w', hst, hS', hE⟩ := setRow_ok (P := P) hS e hLr hcell h1
        rw [← Nat.add_assoc] at hst
        refine ⟨φ, _, w', run_append_fits (P := P) (w := w) hu hxu hsize hrunlen (by omega) (hLsame w.drawn) (fun b hb => by cases hb; rw [Addr.add_lit]; exact hst) (fun hb => by cases hb), hS', hE, .slice e hk ?_⟩
        exact hlim
      · rename_i hroom'
        split at h
        · rename_i z0 cs hg
          split at h
          · rename_i hc
            simp only [Option.some.injEq, Prod.mk.injEq] at h
            obtain ⟨rfl, rfl⟩ := h
            have hrow : firstC σ i.size sLen (.slice (some ⟨b, o, none⟩) sLen sCap) = some ((cs.drop o).take (sLen * i.size)) := by
              show σ.row b o (sLen * i.size) = _
              simp [AH.row, hg, hc.2.1]
            obtain ⟨O, hOr, hOrun, hOlen⟩ := firstC_ok (P := P) hS hs (fun h0 => ⟨sLen, rfl, fun h1 => h0 (by rw [h1]; simp)⟩) hrow
            have hOn : O.length = sLen * i.size := by rw [← hOr.1]; exact hOlen rfl
            have hf1 : φ σ.size = none := hf0 _ (Nat.le_refl _) (by rw [AH.size_push, AH.size_put]; omega)
            by_cases hfit : sLen + n ≤ k'
            · -- in place
              have hne : sCap ≠ k' := fun he => hroom' (by rw [he]; exact hfit)
              obtain ⟨hz1, hlim1⟩ := hlim.resolve_left hne
              obtain ⟨C, et, fr, hC1, hC2, ⟨hz2, hz3⟩, hC3⟩ := hS.obj b c d _ e hg
              obtain rfl := hC2 rfl
              have hzz : z0 = i.size := by
                rcases hc.2.2 with h0 | h0
                · rw [← hz2] at hz1; exact absurd h0 hz1
                · exact h0
              have hCs : C.size = (φ.lim c).2 := hz3 (by rw [hzz]; exact hsz)
              rw [← hz2, hzz, ← hCs] at hlim1
              have hmul : (sLen + n) * i.size ≤ k' * i.size := Nat.mul_le_mul_right _ hfit
              rw [Nat.add_mul] at hmul
              have hone := isCell_one hLr hcell
              have hrun := run_storeCells_at P c (o' + sLen * i.size) et L 0 C w hC1 (by rw [hLn]; omega) hone
              rw [Nat.add_zero] at hrun
              have hcl : c < w.heap.size := (Array.getElem?_eq_some_iff.1 hC1).1
              have hle : φ.le (φ.add σ.size c o' (φ.lim c)) := Ren.add_le hf1 (fun _ _ _ => rfl)
              have hal := alias_block (dn := o') (o2 := .cells false i.size ((cs.drop o).take (sLen * i.size) ++ new)) (w' := w.setRow c (C.toList.take (o' + sLen * i.size) ++ L ++ C.toList.drop (o' + sLen * i.size + L.length)).toArray) hS e hg rfl hc.1 hf1 (by simp [World.setRow])
                (fun j hj => by simp only [World.setRow, Array.getElem?_modify]; rw [if_neg (fun e => hj e.symm)]) rfl rfl rfl (Nat.le_refl _)
                ⟨_, et, _, setRow_heap w c C _ et _ hC1, fun _ => rfl, ⟨by rw [Ren.lim_same, ← hz2, hzz], fun _ => by rw [Ren.lim_same, ← hCs]; simp; omega⟩, fun j v hv => by
                  have hs1 : ((cs.drop o).take (sLen * i.size)).length = sLen * i.size := by rw [hOr.1, hOn]
                  rw [List.getElem?_append, hs1] at hv
                  have hl2 : (C.toList.take (o' + sLen * i.size)).length = o' + sLen * i.size := by simp; omega
                  simp only [List.getElem?_toArray]
                  rw [List.append_assoc, List.getElem?_append, hl2]
                  by_cases hj : j < sLen * i.size
                  · rw [if_pos hj] at hv
                    rw [if_pos (by omega), List.getElem?_take, if_pos (by omega)]
                    have hsl : sLen ≠ 0 := by rintro rfl; simp at hj
                    have hoo : o' = d + o := by
                      rcases ho with ho | ho
                      · exact absurd ho.1 hsl
                      · exact ho
                    rw [List.getElem?_take, if_pos hj, List.getElem?_drop] at hv
                    obtain ⟨v', h5, r⟩ := hC3 _ v hv
                    refine ⟨v', ?_, r.mono hle⟩
                    rw [hoo, Nat.add_assoc]; simpa using h5
                  · rw [if_neg hj] at hv
                    rw [if_neg (by omega)]
                    have hjn : j - sLen * i.size < new.length := (List.getElem?_eq_some_iff.1 hv).1
                    rw [List.getElem?_append, if_pos (by rw [← hLr.1]; omega)]
                    rw [show o' + j - (o' + sLen * i.size) = j - sLen * i.size by omega]
                    exact (hLr.mono hle).get hv⟩ rfl
              refine ⟨_, .slice (some ⟨c, o', none⟩) (sLen + n) k', _, run_append_fits (P := P) (w := w) hu hxu hsize hrunlen hfit (hLsame w.drawn) (fun b hb => by cases hb; rw [Addr.add_lit]; exact hrun) (fun hb => by cases hb), hal.1, hal.2, ?_⟩
              have := VRel.slice (φ := φ.add σ.size c o' (φ.lim c)) (o := 0) (n := sLen + n) (k := sLen + n) (k' := k') Ren.add_same hfit (.inr ⟨by rw [Ren.lim_same, ← hz2, hzz]; exact hsz, by rw [Ren.lim_same, ← hz2, hzz, ← hCs]; omega⟩)
              simpa using this
            · -- a new row
              obtain ⟨newCap, rest, k, hcap, hdk, hszs, hrun⟩ := run_append_grows (P := P) (ty := ty) (O := O) hu hxu hi hz hby hroom hrunlen hfit hOrun hLsame
              have hput := put_block (w' := w) (o' := .dead) hS e hg rfl hc.1 rfl (fun _ _ => rfl) rfl rfl rfl (Nat.le_refl _) trivial rfl
              have hnew' := cells_new (z := i.size) (rest := rest) (e := elem) (C := (O ++ L).toArray) (w' := { w with drawn := k, heap := w.heap.push (.cells ((O ++ L).toArray ++ rest) elem) }) hput.1 (by rw [AH.size_put]; exact hf1) (by simp) rfl rfl rfl hdk (by simpa using hOr.append hLr)
              refine ⟨_, _, _, hrun, hnew'.1, hput.2.trans hnew'.2, ?_⟩
              rw [AH.size_put]
              have := VRel.slice (φ := φ.add σ.size w.heap.size 0 (i.size, ((O ++ L).toArray ++ rest).size)) (o := 0) (n := sLen + n) (k := sLen + n) (k' := newCap) Ren.add_same hcap (.inr ⟨by rw [Ren.lim_same]; exact hsz, by rw [Ren.lim_same, hszs hOn hLn hzsz]; simp⟩)
              simpa using this
          · cases h
        · cases h
    · cases h
theorem aAppend_ok {P : Program} {φ : Ren} {σ σ' : AH} {w : World} {st xt : TypeId} {ty : TypeId} {s x s' x' v : Value} (hS : StRel φ σ w) (hs : VRel φ s s') (hx : VRel φ x x')
    (hf0 : ∀ b, σ.size ≤ b → b < σ'.size → φ b = none) (h : aAppend P st xt s x σ = some (v, σ')) :
    ∃ φ' v' w', (Builtin.append_ #[st, xt] ty #[s', x']).run P w = .ok v' w' ∧ StRel φ' σ' w' ∧ Ext φ σ w φ' σ' w' ∧ VRel φ' v v' := by
  unfold aAppend at h
  split at h
  · rename_i he
    obtain ⟨c, o, rfl⟩ := hs.of_emp he
    unfold aAppendE at h
    split at h
    · rename_i elem n hu hlen
      have hrunlen := lenV_ok (P := P) (w := w) hx hlen
      split at h
      · rename_i hn0; subst hn0
        split at h
        · rename_i hq
          split at h
          · rename_i xe hxu
            simp only [Option.some.injEq, Prod.mk.injEq] at h
            obtain ⟨rfl, rfl⟩ := h
            have hfirst : ∀ size, (Builtin.firstCells size 0 x').run P w = .ok ([] : List Value).toArray w := fun size => by
              unfold lenV at hlen
              split at hlen
              · obtain ⟨b', k3, rfl, _⟩ := hx.of_slice_any
                cases b' <;> simp [Builtin.firstCells, loadCells, loadCellsFrom]
              · rcases hx.of_fz with ⟨c, o, k', us, rfl, _⟩ | ⟨⟨a, _, rfl⟩, _, _⟩ <;> first | (simp [Builtin.firstCells, loadCells, loadCellsFrom]; done) | (cases a <;> simp [Builtin.firstCells, loadCells, loadCellsFrom])
              · cases hlen
            have hinfo := hq.1
            unfold szOf at hinfo
            cases hqi : P.info? elem with
            | none => simp [hqi] at hinfo
            | some i =>
              have := run_append_fits (P := P) (ty := ty) (a := some ⟨c, o, none⟩) (sLen := 0) (cap := 0) (w' := w) (L := []) hu hxu (size := i.size) (by simp [szOf, hqi]) hrunlen (by omega) (hfirst _) (fun b _ => by simp [storeCells]) (fun h => by cases h)
              exact ⟨φ, _, w, by simpa using this, hS, .refl _ _ _, hs⟩
          · cases h
        · cases h
      · rename_i hn0
        -- as onto nil: there is no room
        unfold aAppend0 at h
        simp only [hu] at h
        split at h
        case h_2 => cases h
        rename_i _ xe a sLen sCap n' hu' hxu hsl hlen'
        cases hu'
        obtain ⟨rfl, rfl, rfl⟩ := Value.slice.inj hsl
        rw [hlen] at hlen'; obtain rfl := Option.some.inj hlen'
        rw [if_neg hn0] at h
        split at h
        · cases h
        rename_i i hi
        split at h
        · cases h
        rename_i hbad
        simp only [not_or] at hbad
        obtain ⟨hsz, hby, hroom, hzs⟩ := hbad
        obtain ⟨z, hz, hzsz⟩ : ∃ z, i.zero = some z ∧ z.cells.size = i.size := by cases hq : i.zero with
          | none => simp [hq] at hzs
          | some z => simp [hq] at hzs; exact ⟨z, rfl, hzs⟩
        split at h
        · cases h
        rename_i new hnew
        split at h
        · cases h
        rename_i hcell
        have hnz : n * i.size ≠ 0 → ∃ m, lenV x = some m ∧ m ≠ 0 := fun _ => ⟨n, hlen, hn0⟩
        obtain ⟨L, hLr, hLsame, hLlen⟩ := firstC_ok (P := P) hS hx hnz hnew
        have hLn : L.length = n * i.size := by rw [← hLr.1]; exact hLlen hlen
        simp only [Option.some.injEq, Prod.mk.injEq] at h
        obtain ⟨rfl, rfl⟩ := h
        obtain ⟨newCap, rest, k, hcap, hdk, hszs, hrun⟩ := run_append_grows (P := P) (ty := ty) (a := some ⟨c, o, none⟩) (sLen := 0) (cap := 0) (O := []) hu hxu hi hz hby hroom hrunlen (by omega) (fun k => by simp [Builtin.firstCells, loadCells, loadCellsFrom]) hLsame
        have hnew' := cells_new (z := i.size) (rest := rest) (e := elem) (C := L.toArray) (w' := { w with drawn := k, heap := w.heap.push (.cells (L.toArray ++ rest) elem) }) hS (hf0 _ (Nat.le_refl _) (by rw [AH.size_push]; omega)) (by simp) rfl rfl rfl hdk hLr
        simp only [List.nil_append, Nat.zero_add] at hrun hszs hcap
        refine ⟨_, _, _, hrun, hnew'.1, hnew'.2, ?_⟩
        have := VRel.slice (φ := φ.add σ.size w.heap.size 0 (i.size, (L.toArray ++ rest).size)) (o := 0) (n := n) (k := n) (k' := newCap) Ren.add_same hcap (.inr ⟨by rw [Ren.lim_same]; exact hsz, by rw [Ren.lim_same, hszs (by simp) hLn hzsz]; simp⟩)
        simpa using this
    · cases h
  · exact aAppend0_ok hS hs hx hf0 h
end Go.Ab
