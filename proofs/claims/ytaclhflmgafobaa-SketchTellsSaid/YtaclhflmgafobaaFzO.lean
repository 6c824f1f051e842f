/- What a function has in memory for itself: slices, boxes, maps, told one by one; what the operations do to them. -/
import Derived.Test.YtaclhflmgafobaaFzN
namespace Go.Ab
open Go
set_option linter.unusedSimpArgs false
set_option linter.unusedVariables false

/-- A thing in memory: a slice of n elements of s cells each; a row of cells; a map. -/
inductive It where
  | own (v : Value) (s n : Nat) (cs : List Value)
  | box (b : Nat) (cs : List Value)
  | mp (b : Nat) (es : List (Value × Value × Nat)) (k : Nat)
def blockOf : Value → Option Nat
  | .slice (some a) _ _ => some a.block
  | _ => none
def It.blk : It → Option Nat
  | .own v _ _ _ => blockOf v
  | .box b _ => some b
  | .mp b _ _ => some b
/-- Nothing, and no room. -/
def Nl (v : Value) : Prop := v = .slice none 0 0 ∨ v = emp
def It.ok (σ : AH) : It → Prop
  | .own v s n cs => cs.length = n * s ∧ ((Nl v ∧ n = 0) ∨ ∃ b o cap C, v = .slice (some ⟨b, o, none⟩) n cap ∧ n ≤ cap ∧ σ.base ≤ b ∧ σ.get b = some (.cells false s C) ∧ o + cap * s ≤ C.length ∧ cs = (C.drop o).take (n * s))
  | .box b cs => σ.base ≤ b ∧ ∃ z, σ.get b = some (.cells false z cs)
  | .mp b es k => σ.base ≤ b ∧ σ.get b = some (.map es k)
/-- These things, each in a block of its own. -/
structure Hp (σ : AH) (l : List It) : Prop where
  all : ∀ it ∈ l, It.ok σ it
  apart : l.Pairwise fun x y => ∀ b, x.blk = some b → y.blk ≠ some b
  base : σ.base ≤ σ.size
theorem Hp.nil {σ : AH} (h : σ.base ≤ σ.size) : Hp σ [] := ⟨fun _ h => by simp at h, .nil, h⟩
theorem It.ok_lt {σ : AH} {it : It} (h : it.ok σ) : ∀ b, it.blk = some b → b < σ.size := by
  cases it with
  | own v s n cs =>
    obtain ⟨_, ⟨hv, _⟩ | ⟨b, o, cap, C, rfl, h1, h2, h3, _⟩⟩ := h
    · rcases hv with rfl | rfl <;> (intro b hb; cases hb)
    · intro b' hb; cases hb; exact AH.get_lt h3
  | box b cs => intro b' hb; cases hb; obtain ⟨_, z, h⟩ := h; exact AH.get_lt h
  | mp b es k => intro b' hb; cases hb; exact AH.get_lt h.2
theorem It.ok_keep {σ σ' : AH} {it : It} (h : it.ok σ) (hb : σ'.base = σ.base) (hk : ∀ b, it.blk = some b → σ'.get b = σ.get b) : it.ok σ' := by
  cases it with
  | own v s n cs =>
    obtain ⟨h0, ⟨hv, h1⟩ | ⟨b, o, cap, C, rfl, h1, h2, h3, h4⟩⟩ := h
    · exact ⟨h0, .inl ⟨hv, h1⟩⟩
    · exact ⟨h0, .inr ⟨b, o, cap, C, rfl, h1, by rw [hb]; exact h2, by rw [hk b rfl]; exact h3, h4⟩⟩
  | box b cs => obtain ⟨h1, z, h2⟩ := h; exact ⟨by rw [hb]; exact h1, z, by rw [hk b rfl]; exact h2⟩
  | mp b es k => exact ⟨by rw [hb]; exact h.1, by rw [hk b rfl]; exact h.2⟩
section
variable {σ σ' : AH} {l l' : List It} {it : It} {i : Nat}
theorem Hp.tail (h : Hp σ (it :: l)) : Hp σ l := ⟨fun x hx => h.1 x (by simp [hx]), (List.pairwise_cons.1 h.2).2, h.3⟩
theorem Hp.sub (h : Hp σ l) (hs : l'.Sublist l) : Hp σ l' := ⟨fun x hx => h.1 x (hs.subset hx), h.2.sublist hs, h.3⟩
theorem Hp.perm (h : Hp σ l) (hs : l'.Perm l) : Hp σ l' := ⟨fun x hx => h.1 x (hs.mem_iff.1 hx), (hs.pairwise_iff fun {x y} h b h1 h2 => h b h2 h1).2 h.2, h.3⟩
theorem Hp.at (h : Hp σ l) (hi : l[i]? = some it) : it.ok σ := h.1 it (List.mem_of_getElem? hi)
/-- All things but one are as they were; that one is another. -/
theorem Hp.set (h : Hp σ l) (hi : l[i]? = some it) {it' : It} (hb : σ'.base = σ.base) (hz : σ.size ≤ σ'.size) (hk : ∀ b, b < σ.size → it.blk ≠ some b → σ'.get b = σ.get b) (ho : it'.ok σ') (hn : ∀ b, it'.blk = some b → it.blk = some b ∨ σ.size ≤ b) : Hp σ' (l.set i it') := by
  have hlt : i < l.length := (List.getElem?_eq_some_iff.1 hi).1
  have hit : l[i] = it := (List.getElem?_eq_some_iff.1 hi).2
  have dist : ∀ j (hj : j < l.length), j ≠ i → ∀ b, l[j].blk = some b → it.blk ≠ some b := fun j hj hne b h1 h2 => by
    rcases Nat.lt_or_gt_of_ne hne with hlt' | hgt
    · exact List.pairwise_iff_getElem.1 h.2 j i hj hlt hlt' b h1 (by rw [hit]; exact h2)
    · exact List.pairwise_iff_getElem.1 h.2 i j hlt hj hgt b (by rw [hit]; exact h2) h1
  refine ⟨fun x hx => ?_, List.pairwise_iff_getElem.2 fun j k hj hk' hjk b => ?_, by rw [hb]; exact Nat.le_trans h.3 hz⟩
  · obtain ⟨j, hj, rfl⟩ := List.getElem_of_mem hx
    rw [List.length_set] at hj
    by_cases hji : i = j
    · subst hji; rw [List.getElem_set_self]; exact ho
    · rw [List.getElem_set_ne hji]
      refine It.ok_keep (h.1 _ (List.getElem_mem hj)) hb fun b h1 => hk b (It.ok_lt (h.1 _ (List.getElem_mem hj)) b h1) (dist j hj (fun e => hji e.symm) b h1)
  · rw [List.length_set] at hj hk'
    by_cases hji : i = j
    · subst hji
      rw [List.getElem_set_self, List.getElem_set_ne (by omega)]
      intro h1 h2
      rcases hn b h1 with h3 | h3
      · exact dist k hk' (by omega) b h2 h3
      · have := It.ok_lt (h.1 _ (List.getElem_mem hk')) b h2; omega
    · rw [List.getElem_set_ne hji]
      by_cases hki : i = k
      · subst hki
        rw [List.getElem_set_self]
        intro h1 h2
        rcases hn b h2 with h3 | h3
        · exact dist j hj (fun e => hji e.symm) b h1 h3
        · have := It.ok_lt (h.1 _ (List.getElem_mem hj)) b h1; omega
      · rw [List.getElem_set_ne hki]
        exact List.pairwise_iff_getElem.1 h.2 j k hj hk' hjk b
/-- Something new. -/
theorem Hp.push (h : Hp σ l) (o : AObj) {it' : It} (ho : it'.ok (σ.push o)) (hn : ∀ b, it'.blk = some b → σ.size ≤ b) : Hp (σ.push o) (it' :: l) := by
  have keep : ∀ it ∈ l, it.ok (σ.push o) := fun it hi => It.ok_keep (h.1 it hi) rfl fun b hb => by rw [AH.get_push, if_neg (by have := It.ok_lt (h.1 it hi) b hb; omega)]
  refine ⟨fun x hx => ?_, List.pairwise_cons.2 ⟨fun y hy b h1 h2 => ?_, h.2⟩, by rw [AH.size_push]; exact Nat.le_succ_of_le h.3⟩
  · rcases List.mem_cons.1 hx with rfl | hx
    · exact ho
    · exact keep x hx
  · have := It.ok_lt (h.1 y hy) b h2
    have := hn b h1; omega
theorem Hp.pushed (h : Hp σ l) (o : AObj) : Hp (σ.push o) l := ⟨fun it hi => It.ok_keep (h.1 it hi) rfl fun b hb => by rw [AH.get_push, if_neg (by have := It.ok_lt (h.1 it hi) b hb; omega)], h.2, by rw [AH.size_push]; exact Nat.le_succ_of_le h.3⟩
theorem Hp.same (h : Hp σ l) (hb : σ'.base = σ.base) (hz : σ'.size = σ.size) (hk : ∀ b, σ'.get b = σ.get b) : Hp σ' l := ⟨fun it hi => It.ok_keep (h.1 it hi) hb fun b _ => hk b, h.2, by rw [hb, hz]; exact h.3⟩
end

/-! ### slices of one's own -/
section
variable {α : Type} {P : Program} {σ : AH} {l : List It} {i : Nat} {t el : TypeId} {e : En α} {v : Value} {xs : List α} {bytes : Nat}
/-- A slice of one's own with these elements. -/
def It.sl {α : Type} (e : En α) (v : Value) (xs : List α) : It := .own v e.sz xs.length (e.all xs)
theorem sl_nil (e : En α) (σ : AH) : (It.sl e (.slice none 0 0) ([] : List α)).ok σ := ⟨by simp [En.all], .inl ⟨.inl rfl, rfl⟩⟩
theorem Hp.nilSl (h : Hp σ l) (e : En α) : Hp σ (It.sl e (.slice none 0 0) ([] : List α) :: l) :=
  ⟨fun x hx => by
    rcases List.mem_cons.1 hx with rfl | hx
    · exact sl_nil e σ
    · exact h.1 x hx, List.pairwise_cons.2 ⟨fun _ _ b h1 => (by cases h1), h.2⟩, h.3⟩
theorem Hp.empSl (h : Hp σ l) (e : En α) : Hp σ (It.sl e emp ([] : List α) :: l) :=
  ⟨fun x hx => by
    rcases List.mem_cons.1 hx with rfl | hx
    · exact ⟨by simp [En.all], .inl ⟨.inr rfl, rfl⟩⟩
    · exact h.1 x hx, List.pairwise_cons.2 ⟨fun _ _ b h1 => (by cases h1), h.2⟩, h.3⟩
theorem It.sl_len (h : (It.sl e v xs).ok σ) (hu : P.underlying t = some (.slice el)) (σ' : AH) : aLen P t v σ' = some (.int .i64 xs.length) := by
  obtain ⟨_, ⟨hv, h1⟩ | ⟨b, o, cap, C, rfl, _⟩⟩ := h
  · rcases hv with rfl | rfl <;> (rw [h1]; simp [aLen, hu, emp])
  · simp [aLen, hu]
theorem It.sl_elem (h : (It.sl e v xs).ok σ) (hT : Ty P el e) (hu : P.underlying t = some (.slice el)) {j : Int} {k : IntKind} {x : α} (h0 : 0 ≤ j) (hx : xs[j.toNat]? = some x) :
    ∃ p, aIndexAddr P t v (.int k j) = some p ∧ ∀ σ', (∀ b, σ'.get b = σ.get b) → aLoad P el p σ' = some (e.val x) := by
  have hj : j.toNat < xs.length := (List.getElem?_eq_some_iff.1 hx).1
  obtain ⟨hl, ⟨hv, h1⟩ | ⟨b, o, cap, C, rfl, h1, h2, h3, h4, h5⟩⟩ := h
  · omega
  · refine ⟨.pointer (some ⟨b, o + j.toNat * e.sz, none⟩), ?_, fun σ' hσ => ?_⟩
    · simp only [aIndexAddr, hu, hT.sz]; rw [if_pos ⟨h0, by omega⟩]
    · have hmul : (j.toNat + 1) * e.sz ≤ xs.length * e.sz := Nat.mul_le_mul_right _ hj
      have hcap : xs.length * e.sz ≤ cap * e.sz := Nat.mul_le_mul_right _ h1
      rw [Nat.succ_mul] at hmul
      have hat := all_at (e := e) hx
      rw [h5, List.drop_take, List.drop_drop, List.take_take, Nat.min_eq_left (by omega)] at hat
      have hrow : σ'.row b (o + j.toNat * e.sz) e.sz = some (e.cells x) := by
        simp only [AH.row, hσ, h3]
        rw [if_pos (by omega), hat]
      show aLoad P el (.pointer (some ⟨b, o + j.toNat * e.sz, none⟩)) σ' = _
      simp only [aLoad, fcells, ptrOf, hT.ag, hT.sz]
      cases ho : e.one with
      | false => simp only [Bool.not_false, hrow, Option.map_some]; unfold En.val; rw [if_neg (by simp [ho])]
      | true =>
        simp only [Bool.not_true]
        have h6 := val_one e x ho
        rw [h6, e.hone ho, Nat.mul_one] at hat
        have : (C.drop (o + j.toNat))[0]? = some (e.val x) := by
          have h7 : ((C.drop (o + j.toNat)).take 1)[0]? = some (e.val x) := by rw [hat]; rfl
          simpa [List.getElem?_take] using h7
        rw [List.getElem?_drop, Nat.add_zero] at this
        rw [e.hone ho, Nat.mul_one]
        simp only [AH.cell, hσ, h3, this]
theorem spliceAt_all {xs : List α} {j : Nat} (hj : j < xs.length) (x : α) : spliceAt (e.all xs) (j * e.sz) (e.cells x) = e.all (xs.set j x) := by
  induction xs generalizing j with
  | nil => simp at hj
  | cons y xs ih =>
    cases j with
    | zero =>
      simp only [spliceAt, En.all, List.flatMap_cons, List.set_cons_zero, Nat.zero_mul, List.take_zero, List.nil_append, Nat.zero_add, e.len]
      rw [← e.len y, List.drop_left]
    | succ j =>
      have := ih (j := j) (by simpa using hj)
      simp only [spliceAt, En.all, List.flatMap_cons, List.set_cons_succ, e.len] at *
      rw [← this, Nat.succ_mul, List.take_append, e.len, List.take_of_length_le (by rw [e.len]; omega), List.drop_append, e.len, List.drop_of_length_le (by rw [e.len]; omega)]
      simp only [List.append_assoc, List.nil_append]
      congr 2
      · congr 1; omega
      · congr 2; omega
theorem take_splice {cs : List Value} {o n p : Nat} {vs : List Value} (hp : p + vs.length ≤ n) (hn : o + n ≤ cs.length) : ((spliceAt cs (o + p) vs).drop o).take n = spliceAt ((cs.drop o).take n) p vs := by
  apply List.ext_getElem?
  intro j
  simp only [spliceAt, List.getElem?_take, List.getElem?_drop, List.getElem?_append, List.length_append, List.length_take, List.length_drop]
  have e1 : min (o + p) cs.length = o + p := by omega
  have e2 : min p (min n (cs.length - o)) = p := by omega
  rw [e1, e2]
  by_cases hj : j < n
  · rw [if_pos hj]
    by_cases h1 : j < p + vs.length
    · rw [if_pos (by omega : o + j < o + p + vs.length), if_pos h1]
      by_cases h2 : j < p
      · rw [if_pos (by omega : o + j < o + p), if_pos h2, if_pos (by omega), if_pos h2, if_pos (by omega)]
      · rw [if_neg (by omega : ¬ o + j < o + p), if_neg h2]; congr 1; omega
    · rw [if_neg (by omega : ¬ o + j < o + p + vs.length), if_neg h1]
      have e3 : o + p + vs.length + (o + j - (o + p + vs.length)) = o + j := by omega
      have e4 : p + vs.length + (j - (p + vs.length)) = j := by omega
      rw [e3, e4, if_pos hj]
  · rw [if_neg hj]
    symm
    rw [if_neg (by omega), if_neg (by omega)]
theorem Hp.store (h : Hp σ l) (hi : l[i]? = some (It.sl e v xs)) (hT : Ty P el e) (hu : P.underlying t = some (.slice el)) {j : Int} {k : IntKind} (h0 : 0 ≤ j) (hj : j.toNat < xs.length) :
    ∃ p, aIndexAddr P t v (.int k j) = some p ∧ ∀ x : α, ∃ σ', aStore P el p (e.val x) σ = some σ' ∧ Hp σ' (l.set i (It.sl e v (xs.set j.toNat x))) ∧ σ'.size = σ.size := by
  obtain ⟨hl, ⟨hv, h1⟩ | ⟨b, o, cap, C, rfl, h1, h2, h3, h4, h5⟩⟩ := h.at hi
  · omega
  · refine ⟨.pointer (some ⟨b, o + j.toNat * e.sz, none⟩), ?_, fun x => ⟨σ.put b (.cells false e.sz (spliceAt C (o + j.toNat * e.sz) (e.cells x))), ?_, ?_, AH.size_put⟩⟩
    · simp only [aIndexAddr, hu, hT.sz]; rw [if_pos ⟨h0, by omega⟩]
    · have hmul : (j.toNat + 1) * e.sz ≤ xs.length * e.sz := Nat.mul_le_mul_right _ hj
      have hcap : xs.length * e.sz ≤ cap * e.sz := Nat.mul_le_mul_right _ h1
      rw [Nat.succ_mul] at hmul
      simp only [aStore, ptrOf, hT.sz, val_cells, val_isTuple]
      rw [if_pos ⟨trivial, e.len x, List.all_eq_true.2 (e.cell x)⟩]
      simp only [AH.setRow, h3]
      rw [if_pos ⟨h2, by rw [e.len]; omega⟩]
    · have hmul : (j.toNat + 1) * e.sz ≤ xs.length * e.sz := Nat.mul_le_mul_right _ hj
      have hcap : xs.length * e.sz ≤ cap * e.sz := Nat.mul_le_mul_right _ h1
      rw [Nat.succ_mul] at hmul
      refine h.set hi rfl (by rw [AH.size_put]; exact Nat.le_refl _) (fun b' hb' hne => ?_) ⟨?_, .inr ⟨b, o, cap, _, by simp [It.sl], by simpa using h1, h2, by rw [AH.get_put (AH.get_lt h3), if_pos rfl], ?_, ?_⟩⟩ fun b' hb' => .inl hb'
      · rw [AH.get_put (AH.get_lt h3), if_neg]; rintro rfl; exact hne rfl
      · rw [all_len]
      · simp only [spliceAt, List.length_append, List.length_take, List.length_drop, e.len]; omega
      · rw [List.length_set, take_splice (by rw [e.len]; omega) (by omega), ← h5, spliceAt_all hj]
/-- What is appended. -/
structure Src (P : Program) (σ : AH) (xt : TypeId) (x : Value) (s m : Nat) (ds : List Value) : Prop where
  ty : ∃ xe, P.underlying xt = some (.slice xe)
  len : lenV x = some m
  first : firstC σ s m x = some ds
  dlen : ds.length = m * s
  cell : ds.all isCell = true
theorem src_still (e : En α) (ys : List α) (hu : ∃ xe, P.underlying t = some (.slice xe)) (σ : AH) : Src P σ t (slv e ys) e.sz ys.length (e.all ys) :=
  ⟨hu, rfl, by
    have hl := all_len e ys
    simp only [slv, fz, firstC]
    rw [if_pos (by simp [hl]), ← hl]; simp, all_len e ys, List.all_eq_true.2 (all_cell e ys)⟩
theorem src_own (h : (It.sl e v xs).ok σ) (hu : ∃ xe, P.underlying t = some (.slice xe)) : Src P σ t v e.sz xs.length (e.all xs) := by
  have hl := all_len e xs
  refine ⟨hu, ?_, ?_, hl, List.all_eq_true.2 (all_cell e xs)⟩
  · obtain ⟨_, ⟨hv, h1⟩ | ⟨b, o, cap, C, rfl, h1, h2, h3, h4, h5⟩⟩ := h
    · rcases hv with rfl | rfl <;> (rw [h1]; rfl)
    · rfl
  · obtain ⟨_, ⟨hv, h1⟩ | ⟨b, o, cap, C, rfl, h1, h2, h3, h4, h5⟩⟩ := h
    · rw [h1, Nat.zero_mul] at hl
      rcases hv with rfl | rfl
      · rw [List.eq_nil_of_length_eq_zero hl]; rfl
      · rw [List.eq_nil_of_length_eq_zero hl, h1]; simp [firstC, emp]
    · have hcap : xs.length * e.sz ≤ cap * e.sz := Nat.mul_le_mul_right _ h1
      simp only [firstC, AH.row, h3]
      rw [if_pos (by omega), h5]
theorem src_nil (e : En α) (hu : ∃ xe, P.underlying t = some (.slice xe)) (σ : AH) : Src P σ t (.slice none 0 0) e.sz 0 [] := ⟨hu, rfl, rfl, by simp, rfl⟩
theorem set_same {l : List It} {i : Nat} {it : It} (hi : l[i]? = some it) : l.set i it = l := by
  apply List.ext_getElem?
  intro j
  rw [List.getElem?_set]
  split
  · rename_i hij; subst hij; rw [if_pos (List.getElem?_eq_some_iff.1 hi).1, hi]
  · rfl
theorem Hp.append (h : Hp σ l) (hi : l[i]? = some (It.sl e v xs)) (hu : P.underlying t = some (.slice el)) (hE : ElemT P el e.sz bytes) {xt : TypeId} {x : Value} {ys : List α} (hx : Src P σ xt x e.sz ys.length (e.all ys)) (hsmall : (xs.length + ys.length) * bytes ≤ 2 ^ 34) :
    ∃ v' σ', aAppend P t xt v x σ = some (v', σ') ∧ Hp σ' (l.set i (It.sl e v' (xs ++ ys))) ∧ σ.size ≤ σ'.size := by
  obtain ⟨ii, hii, hi1, hi2, hi3⟩ := hE.get
  have hsp := hE.pos
  have hbp := hE.bpos
  obtain ⟨xe, hxu⟩ := hx.ty
  have hlen := hx.len
  have hfirst := hx.first
  have hdl := hx.dlen
  have hc := hx.cell
  generalize hm' : ys.length = m at *
  generalize hds : e.all ys = ds at *
  have hall : e.all (xs ++ ys) = e.all xs ++ ds := by rw [all_app, hds]
  have hxl : (xs ++ ys).length = xs.length + m := by simp [hm']
  have hok := h.at hi
  by_cases hm : m = 0
  · subst hm
    have : ys = [] := List.eq_nil_of_length_eq_zero hm'
    subst this
    refine ⟨v, σ, ?_, ?_, Nat.le_refl _⟩
    · obtain ⟨_, ⟨hv, h1⟩ | ⟨b, o, cap, C, rfl, h1, h2, h3, h4, h5⟩⟩ := hok
      · rcases hv with rfl | rfl
        · simp [aAppend, isEmp, aAppend0, hu, hxu, hlen, hE.sz]
        · simp [aAppend, emp, isEmp, aAppendE, hu, hxu, hlen, hE.sz]
      · simp [aAppend, isEmp, aAppend0, hu, hxu, hlen, hE.sz, h1]
    · rw [List.append_nil, set_same hi]; exact h
  have hnb : ¬ (e.sz = 0 ∨ bytes = 0 ∨ 2 ^ 34 < (xs.length + m) * bytes ∨ ii.zero.map (·.cells.size) ≠ some e.sz) := by
    simp only [not_or]; exact ⟨hsp, hbp, by omega, by simpa using hi3⟩
  obtain ⟨hl, ⟨hv, h1⟩ | ⟨b, o, cap, C, rfl, h1, h2, h3, h4, h5⟩⟩ := hok
  · obtain rfl : xs = [] := List.eq_nil_of_length_eq_zero h1
    refine ⟨.slice (some ⟨σ.size, 0, none⟩) m m, σ.push (.cells false e.sz ds), ?_, ?_, by rw [AH.size_push]; omega⟩
    · simp only [List.length_nil, Nat.zero_add] at hnb
      have h0 : aAppend0 P t xt (.slice none 0 0) x σ = some (.slice (some ⟨σ.size, 0, none⟩) m m, σ.push (.cells false e.sz ds)) := by
        simp only [aAppend0, hu, hxu, hlen, if_neg hm, hii, hi1, hi2, Nat.zero_add, if_neg hnb, hfirst, hc]
        simp
      rcases hv with rfl | rfl
      · exact h0
      · show (if isEmp emp then aAppendE P t xt emp x σ else aAppend0 P t xt emp x σ) = _
        rw [if_pos (show isEmp emp = true from rfl)]
        simp only [aAppendE, hu, hlen, if_neg hm]
        exact h0
    · refine h.set hi rfl (by rw [AH.size_push]; omega) (fun b' hb' _ => by rw [AH.get_push, if_neg (by omega)]) ⟨by rw [all_len], .inr ⟨σ.size, 0, m, ds, by simp [hm'], by simp [hm'], ?_, by rw [AH.get_push, if_pos rfl], by omega, ?_⟩⟩ fun b' hb' => .inr ?_
      · exact h.3
      · rw [hall, hxl]; simp [En.all, ← hdl]
      · cases hb'; exact Nat.le_refl _
  · have hcap : xs.length * e.sz ≤ cap * e.sz := Nat.mul_le_mul_right _ h1
    by_cases hroom : xs.length + m ≤ cap
    · have hmul : (xs.length + m) * e.sz ≤ cap * e.sz := Nat.mul_le_mul_right _ hroom
      rw [Nat.add_mul] at hmul
      have hset : σ.setRow b (o + xs.length * e.sz) ds = some (σ.put b (.cells false e.sz (spliceAt C (o + xs.length * e.sz) ds))) := by
        simp only [AH.setRow, h3]
        rw [if_pos ⟨h2, by rw [hdl]; omega⟩]
      refine ⟨.slice (some ⟨b, o, none⟩) (xs.length + m) cap, σ.put b (.cells false e.sz (spliceAt C (o + xs.length * e.sz) ds)), ?_, ?_, by rw [AH.size_put]; exact Nat.le_refl _⟩
      · simp only [aAppend, isEmp, Bool.false_eq_true, if_false, aAppend0, hu, hxu, hlen, if_neg hm, hii, hi1, hi2, if_neg hnb, hfirst, hc, if_pos hroom, hset]
        simp
      · refine h.set hi rfl (by rw [AH.size_put]; exact Nat.le_refl _) (fun b' hb' hne => ?_) ⟨by rw [all_len], .inr ⟨b, o, cap, _, by rw [hxl], by rw [hxl]; exact hroom, h2, by rw [AH.get_put (AH.get_lt h3), if_pos rfl], ?_, ?_⟩⟩ fun b' hb' => .inl hb'
        · rw [AH.get_put (AH.get_lt h3), if_neg]; rintro rfl; exact hne rfl
        · simp only [spliceAt, List.length_append, List.length_take, List.length_drop]; omega
        · rw [hxl, Nat.add_mul, hall]
          apply List.ext_getElem?
          intro j
          rw [h5]
          simp only [spliceAt, List.getElem?_take, List.getElem?_drop, List.getElem?_append, List.length_append, List.length_take, List.length_drop]
          have e1 : min (o + xs.length * e.sz) C.length = o + xs.length * e.sz := by omega
          have e2 : min (xs.length * e.sz) (C.length - o) = xs.length * e.sz := by omega
          rw [e1, e2]
          by_cases hj : j < xs.length * e.sz
          · rw [if_pos hj, if_pos hj, if_pos (by omega), if_pos (by omega), if_pos (by omega), if_pos (by omega)]
          · rw [if_neg hj]
            by_cases hj2 : j < xs.length * e.sz + m * e.sz
            · rw [if_pos hj2, if_pos (by omega), if_neg (by omega)]; congr 1; omega
            · rw [if_neg hj2, List.getElem?_eq_none (by omega)]
    · have hcl : o + xs.length * e.sz ≤ C.length := by omega
      refine ⟨.slice (some ⟨σ.size, 0, none⟩) (xs.length + m) (xs.length + m), (σ.put b .dead).push (.cells false e.sz ((C.drop o).take (xs.length * e.sz) ++ ds)), ?_, ?_, by rw [AH.size_push, AH.size_put]; omega⟩
      · simp only [aAppend, isEmp, Bool.false_eq_true, if_false, aAppend0, hu, hxu, hlen, if_neg hm, hii, hi1, hi2, if_neg hnb, hfirst, hc, if_neg hroom, h3]
        simp only [Bool.true_eq_false, if_false]
        rw [if_pos ⟨h2, hcl, by simp⟩]
      · have hb := AH.get_lt h3
        refine h.set hi rfl (by rw [AH.size_push, AH.size_put]; omega) (fun b' hb' hne => ?_) ⟨by rw [all_len], .inr ⟨σ.size, 0, xs.length + m, _, by rw [hxl], by rw [hxl]; exact Nat.le_refl _, by show σ.base ≤ σ.size; omega, by rw [AH.get_push, AH.size_put, if_pos rfl], ?_, ?_⟩⟩ fun b' hb' => .inr ?_
        · rw [AH.get_push, AH.size_put, if_neg (by omega), AH.get_put hb, if_neg]; rintro rfl; exact hne rfl
        · rw [← h5]; simp [hl, hdl, Nat.add_mul]
        · rw [← h5, List.drop_zero, hxl, Nat.add_mul, hall, List.take_of_length_le (by simp [hl, hdl])]
        · cases hb'; exact Nat.le_refl _
end
end Go.Ab
