/- Rules for walking: making slices, boxes, parts of one's own; what stands still at last; regions whose order is open; loops told as functions. -/
import Derived.Test.YtaclhflmgafobaaFzO
namespace Go.Ab
open Go
set_option linter.unusedSimpArgs false
set_option linter.unusedVariables false

section
variable {α β : Type} {P : Program} {σ : AH} {l : List It} {i : Nat} {t el : TypeId} {e : En α} {v : Value} {xs : List α} {bytes : Nat}
theorem rep_all (e : En α) (z : α) (n : Nat) : rep (e.cells z) n = e.all (List.replicate n z) := by
  induction n with
  | zero => rfl
  | succ n ih => rw [rep, ih]; simp [En.all, List.replicate_succ]
theorem zero_cells {z : α} {el : TypeId} (hz : zeroOf P el = some (e.val z)) : (e.val z).cells.toList = e.cells z := val_cells e z
theorem Hp.make (h : Hp σ l) (hu : P.underlying t = some (.slice el)) (hE : ElemT P el e.sz bytes) {z : α} (hz : zeroOf P el = some (e.val z)) {n : Int} {k k' : IntKind} (h0 : 0 ≤ n) (hn : n ≤ 2 ^ 20) (hbt : bytes ≤ 2 ^ 20) :
    ∃ v σ', aMakeSlice P t (.int k n) (.int k' n) σ = some (v, σ') ∧ Hp σ' (It.sl e v (List.replicate n.toNat z) :: l) ∧ σ.size ≤ σ'.size := by
  obtain ⟨ii, hi, hi1, hi2, hi3⟩ := hE.get
  obtain ⟨i', hi', hz', hc⟩ := zeroOf_some hz
  rw [hi] at hi'; obtain rfl := Option.some.inj hi'
  have hpos := hE.pos
  have hcs : (e.val z).cells.size = e.sz := by have := congrArg List.length (zero_cells hz); rw [e.len] at this; simpa using this
  have hlen := all_len e (List.replicate n.toNat z)
  rw [List.length_replicate] at hlen
  refine ⟨.slice (some ⟨σ.size, 0, none⟩) n.toNat n.toNat, σ.push (.cells false e.sz (e.all (List.replicate n.toNat z))), ?_, h.push _ ⟨all_len _ _, .inr ⟨σ.size, 0, n.toNat, _, by simp, by simp, h.base, by rw [AH.get_push, if_pos rfl], by omega, by rw [List.drop_zero, List.length_replicate, List.take_of_length_le (by omega)]⟩⟩ (fun b hb => by cases hb; exact Nat.le_refl _), by rw [AH.size_push]; omega⟩
  have hmul : (bytes : Int) * n ≤ 2 ^ 20 * 2 ^ 20 := Int.mul_le_mul (by omega) hn h0 (by decide)
  simp only [aMakeSlice, hu, hi, hz', hi1, hi2]
  rw [if_pos ⟨h0, Int.le_refl _, by omega, by omega, by omega, hcs, hc⟩, ← rep_all, ← zero_cells hz]
theorem foldl_cells : ∀ (ds : List Value) (off k : Nat) (C : Array Value), off + k + ds.length ≤ C.size → ((ds.zipIdx k).foldl (fun cs x => cs.setIfInBounds (off + x.2) x.1) C).toList = C.toList.take (off + k) ++ ds ++ C.toList.drop (off + k + ds.length)
  | [], off, k, C, _ => by simp
  | y :: ds, off, k, C, h => by
    simp only [List.length_cons] at h
    simp only [List.zipIdx_cons, List.foldl_cons]
    rw [foldl_cells ds off (k + 1) _ (by simpa using by omega)]
    simp only [Array.toList_setIfInBounds]
    have hkl : off + k < C.toList.length := by simp; omega
    rw [List.take_set, List.drop_set, if_pos (by omega), List.length_cons, show off + k + (ds.length + 1) = off + (k + 1) + ds.length by omega]
    congr 1
    rw [show off + (k + 1) = off + k + 1 by omega, List.take_succ_eq_append_getElem hkl, List.set_append_right _ _ (by simp; omega)]
    simp [show min (off + k) C.size = off + k by omega]
theorem fill_row (e : En α) : ∀ (ys : List α) (k : Nat) (C : Array Value), (k + ys.length) * e.sz ≤ C.size →
    ∃ r, Instr.fill (fun i => some (i * e.sz, e.sz)) C ((ys.zipIdx k).map fun x => (x.2, e.val x.1)) = some r ∧ r.toList = C.toList.take (k * e.sz) ++ e.all ys ++ C.toList.drop ((k + ys.length) * e.sz)
  | [], k, C, _ => ⟨C, by simp [Instr.fill], by simp [En.all]⟩
  | y :: ys, k, C, h => by
    simp only [List.length_cons] at h
    have hcs : (e.val y).cells.toList = e.cells y := val_cells e y
    have hsz : (e.val y).cells.size = e.sz := by have := congrArg List.length hcs; rw [e.len] at this; simpa using this
    have hk1 : (k + 1) * e.sz ≤ C.size := Nat.le_trans (Nat.mul_le_mul_right _ (by omega)) h
    rw [Nat.succ_mul] at hk1
    simp only [List.zipIdx_cons, List.map_cons, Instr.fill]
    rw [if_neg (by simp [hsz]; omega)]
    have hfold : ((e.val y).cells.zipIdx.foldl (fun cs x => cs.setIfInBounds (k * e.sz + x.2) x.1) C).toList = C.toList.take (k * e.sz) ++ e.cells y ++ C.toList.drop (k * e.sz + e.sz) := by
      rw [← Array.foldl_toList, Array.toList_zipIdx, hcs]
      have := foldl_cells (e.cells y) (k * e.sz) 0 C (by rw [e.len]; omega)
      rw [this, e.len]; rfl
    have hsize : ((e.val y).cells.zipIdx.foldl (fun cs x => cs.setIfInBounds (k * e.sz + x.2) x.1) C).size = C.size := by
      have := congrArg List.length hfold
      simp only [Array.length_toList, List.length_append, List.length_take, List.length_drop, e.len] at this
      rw [this]; omega
    obtain ⟨r, h1, h2⟩ := fill_row e ys (k + 1) _ (by rw [hsize]; rw [show k + 1 + ys.length = k + (ys.length + 1) by omega]; exact h)
    refine ⟨r, h1, ?_⟩
    have hk2 : (k * e.sz) ≤ C.toList.length := by simp; omega
    have e1 : k + 1 + ys.length = k + (ys.length + 1) := by omega
    have el : (C.toList.take (k * e.sz) ++ e.cells y).length = (k + 1) * e.sz := by simp [e.len, Nat.succ_mul]; simp at hk2; omega
    have el2 : (k + 1) * e.sz ≤ (k + (ys.length + 1)) * e.sz := Nat.mul_le_mul_right _ (by omega)
    rw [h2, hfold, e1]
    rw [← el, List.take_left' rfl, List.drop_append, el, List.drop_of_length_le (by rw [el]; exact el2), List.nil_append, List.drop_drop]
    have e3 : k * e.sz + e.sz + ((k + (ys.length + 1)) * e.sz - (k + 1) * e.sz) = (k + (ys.length + 1)) * e.sz := by rw [Nat.succ_mul] at el2 ⊢; omega
    rw [e3]
    simp [En.all, List.append_assoc]
/-- A slice literal. -/
theorem lit_ev (hu : P.underlying t = some (.slice el)) (hE : ElemT P el e.sz bytes) {z : Value} (hz : zeroOf P el = some z) (hsz : z.cells.size = e.sz) (ys : List α) (hs : ys.length * e.sz ≤ 2 ^ 24) {ps : List (Nat × Value)} (hp : ps = ys.zipIdx.map fun x => (x.2, e.val x.1)) (σ : AH) :
    aBuildSlice P t ys.length ps σ = some (if ys.length = 0 then emp else .slice (some ⟨σ.size, 0, none⟩) ys.length ys.length, σ.push (if ys.length = 0 then .dead else .cells false e.sz (e.all ys))) := by
  subst hp
  have hpos := hE.pos
  have hrl : (rep z.cells.toList ys.length).length = ys.length * e.sz := by rw [rep_length]; simp [hsz]
  obtain ⟨r, h1, h2⟩ := fill_row e ys 0 (rep z.cells.toList ys.length).toArray (by simp [hrl])
  have hr : r.toList = e.all ys := by
    rw [h2]; simp only [Nat.zero_mul, List.take_zero, List.nil_append, Nat.zero_add]
    rw [List.drop_of_length_le (by simp [hrl]), List.append_nil]
  have hall : (ys.zipIdx.map fun x => (x.2, e.val x.1)).all (fun p => !isTuple p.2) = true := by
    rw [List.all_eq_true]; intro p hp
    obtain ⟨x, _, rfl⟩ := List.mem_map.1 hp
    simp [val_isTuple]
  simp only [aBuildSlice, hall, Bool.true_eq_false, if_false, hu, hE.sz, hz]
  rw [if_pos ⟨by omega, hsz, hs⟩, h1]
  simp only [hr]
theorem lit_hp (h : Hp σ l) (e : En α) (ys : List α) : Hp (σ.push (if ys.length = 0 then .dead else .cells false e.sz (e.all ys))) (It.sl e (if ys.length = 0 then emp else .slice (some ⟨σ.size, 0, none⟩) ys.length ys.length) ys :: l) := by
  have hlen := all_len e ys
  by_cases h0 : ys.length = 0
  · have : ys = [] := List.eq_nil_of_length_eq_zero h0
    subst this
    exact h.push _ ⟨all_len _ _, .inl ⟨.inr rfl, rfl⟩⟩ (fun b hb => by cases hb)
  · simp only [if_neg h0]
    exact h.push _ ⟨all_len _ _, .inr ⟨σ.size, 0, ys.length, _, rfl, Nat.le_refl _, h.base, by rw [AH.get_push, if_pos rfl], by omega, by rw [List.drop_zero, List.take_of_length_le (by omega)]⟩⟩ (fun b hb => by cases hb; exact Nat.le_refl _)
theorem Hp.lit (h : Hp σ l) (hu : P.underlying t = some (.slice el)) (hE : ElemT P el e.sz bytes) {z : Value} (hz : zeroOf P el = some z) (hsz : z.cells.size = e.sz) (ys : List α) (hs : ys.length * e.sz ≤ 2 ^ 24) {ps : List (Nat × Value)} (hp : ps = ys.zipIdx.map fun x => (x.2, e.val x.1)) :
    ∃ v σ', aBuildSlice P t ys.length ps σ = some (v, σ') ∧ Hp σ' (It.sl e v ys :: l) ∧ σ.size ≤ σ'.size :=
  ⟨_, _, lit_ev hu hE hz hsz ys hs hp σ, lit_hp h e ys, by rw [AH.size_push]; omega⟩
/-- The first elements of a slice of one's own: what is behind them is given up. -/
theorem Hp.upto' (h : Hp σ l) (hi : l[i]? = some (It.sl e v xs)) (hT : Ty P el e) (hu : P.underlying t = some (.slice el)) {lo hi' : Option Value} {a b : Nat} (hb : bound hi' xs.length xs.length = some b) (ha : bound lo 0 b = some a) (hlh : a ≤ b) (hbx : b ≤ xs.length) :
    ∃ r, aSlice P t v lo hi' none σ = some r ∧ Hp σ (l.set i (It.sl e r ((xs.take b).drop a))) := by
  obtain ⟨hl, ⟨hv, h1⟩ | ⟨bl, o, cap, C, rfl, h1, h2, h3, h4, h5⟩⟩ := h.at hi
  · obtain rfl : xs = [] := List.eq_nil_of_length_eq_zero h1
    simp only [List.length_nil] at hb hbx
    obtain rfl : b = 0 := by omega
    obtain rfl : a = 0 := by omega
    rcases hv with rfl | rfl
    · refine ⟨.slice none 0 0, ?_, ?_⟩
      · simp [aSlice, hu, hT.sz, hb, ha, AH.elemOk]
      · simp only [List.take_nil, List.drop_nil]; rw [set_same hi]; exact h
    · refine ⟨emp, ?_, ?_⟩
      · simp [aSlice, emp, isEmp, hu, hT.sz, hb, ha]
      · simp only [List.take_nil, List.drop_nil]; rw [set_same hi]; exact h
  · have hcap : xs.length * e.sz ≤ cap * e.sz := Nat.mul_le_mul_right _ h1
    have hbc : bound hi' xs.length cap = some b := by
      unfold bound at hb ⊢
      split at hb
      · exact hb
      · split at hb
        · rename_i hx; rw [if_pos ⟨hx.1, by omega⟩]; exact hb
        · cases hb
      · cases hb
    have hab : a * e.sz ≤ b * e.sz := Nat.mul_le_mul_right _ hlh
    have hbx' : b * e.sz ≤ xs.length * e.sz := Nat.mul_le_mul_right _ hbx
    have hac : a * e.sz ≤ cap * e.sz := by omega
    have hlen2 : ((xs.take b).drop a).length = b - a := by simp; omega
    refine ⟨.slice (some (if cap = a then ⟨bl, o, none⟩ else ⟨bl, o + a * e.sz, none⟩)) (b - a) (cap - a), ?_, ?_⟩
    · simp only [aSlice, hu, hT.sz, hbc, ha]
      rw [if_neg (by simp only [AH.elemOk, h3, beq_self_eq_true, Bool.or_true, Bool.true_eq_false, or_false]; omega)]
      congr 2
      split <;> simp
    · refine h.set hi rfl (Nat.le_refl _) (fun _ _ _ => rfl) ⟨all_len _ _, .inr ?_⟩ (fun b' hb' => .inl ?_)
      · have hdr : e.all ((xs.take b).drop a) = (C.drop (o + a * e.sz)).take ((b - a) * e.sz) := by
          have h6 := all_slice (e := e) (xs := xs) (l := a) (h := b)
          have h7 := congrArg Array.toList h6
          simp only [Array.toList_extract, List.extract_eq_take_drop] at h7
          rw [← h7, h5, List.drop_take, List.drop_drop, List.take_take, Nat.sub_mul]
          congr 1; omega
        by_cases hca : cap = a
        · refine ⟨bl, o, cap - a, C, by rw [hlen2, if_pos hca], by omega, h2, h3, by rw [Nat.sub_mul]; omega, ?_⟩
          have : b - a = 0 := by omega
          rw [hlen2, hdr, this]; simp
        · refine ⟨bl, o + a * e.sz, cap - a, C, by rw [hlen2, if_neg hca], by omega, h2, h3, by rw [Nat.sub_mul]; omega, by rw [hlen2, hdr]⟩
      · simp only [It.sl, It.blk, blockOf] at hb' ⊢
        split at hb' <;> exact hb'

/-! ### boxes -/
theorem Hp.alloc (h : Hp σ l) (e : En α) (x : α) : ∃ b σ', σ.alloc (cellsOfV (e.val x)) = (.pointer (some ⟨b, 0, none⟩), σ') ∧ Hp σ' (.box b (e.cells x) :: l) ∧ σ.size ≤ σ'.size := by
  refine ⟨σ.size, σ.push (.cells false 0 (e.cells x)), by rw [val_cells]; rfl, h.push _ ⟨h.base, 0, by rw [AH.get_push, if_pos rfl]⟩ (fun b hb => by cases hb; exact Nat.le_refl _), by rw [AH.size_push]; omega⟩
theorem Hp.boxLoad (h : Hp σ l) {b : Nat} {cs : List Value} (hi : l[i]? = some (.box b cs)) {o : Nat} {y : α} (hT : Ty P t e) (hy : (cs.drop o).take e.sz = e.cells y) {σ' : AH} (hσ : ∀ b, σ'.get b = σ.get b) : aLoad P t (.pointer (some ⟨b, o, none⟩)) σ' = some (e.val y) := by
  obtain ⟨_, z, hg⟩ := h.at hi
  have hp := hT.pos
  have hl := e.len y
  rw [← hy] at hl
  simp at hl
  simp only [aLoad, fcells, ptrOf, hT.ag, hT.sz]
  cases ho : e.one with
  | false =>
    simp only [Bool.not_false, AH.row, hσ, hg]
    rw [if_pos (by omega), hy]
    simp only [Option.map_some]
    unfold En.val; rw [if_neg (by simp [ho])]
  | true =>
    simp only [Bool.not_true, AH.cell, hσ, hg]
    have h6 := val_one e y ho
    rw [h6, e.hone ho] at hy
    have : (cs.drop o)[0]? = some (e.val y) := by
      have h7 : ((cs.drop o).take 1)[0]? = some (e.val y) := by rw [hy]; rfl
      simpa [List.getElem?_take] using h7
    rw [List.getElem?_drop, Nat.add_zero] at this
    exact this
theorem Hp.boxStore (h : Hp σ l) {b : Nat} {cs : List Value} (hi : l[i]? = some (.box b cs)) {o : Nat} {y : α} (hT : Ty P t e) {cs' : List Value} (hcs : o + e.sz ≤ cs.length) (hs : spliceAt cs o (e.cells y) = cs') :
    ∃ σ', aStore P t (.pointer (some ⟨b, o, none⟩)) (e.val y) σ = some σ' ∧ Hp σ' (l.set i (.box b cs')) ∧ σ'.size = σ.size := by
  obtain ⟨hb, z, hg⟩ := h.at hi
  subst hs
  refine ⟨σ.put b (.cells false z (spliceAt cs o (e.cells y))), ?_, ?_, AH.size_put⟩
  · simp only [aStore, ptrOf, hT.sz, val_cells, val_isTuple]
    rw [if_pos ⟨trivial, e.len y, List.all_eq_true.2 (e.cell y)⟩]
    simp only [AH.setRow, hg]
    rw [if_pos ⟨hb, by rw [e.len]; exact hcs⟩]
  · refine h.set hi rfl (by rw [AH.size_put]; exact Nat.le_refl _) (fun b' hb' hne => ?_) ⟨hb, z, by rw [AH.get_put (AH.get_lt hg), if_pos rfl]⟩ fun b' hb' => .inl hb'
    rw [AH.get_put (AH.get_lt hg), if_neg]; rintro rfl; exact hne rfl
theorem fieldAddr_box {s : TypeId} {f b o n : Nat} {fd : Field} (hf : fieldOf P s f = some fd) (hs : szOf P fd.type = some (n + 1)) : aFieldAddr P s (.pointer (some ⟨b, o, none⟩)) f = some (.pointer (some ⟨b, o + fd.offset, none⟩)) := by
  simp [aFieldAddr, fcells, ptrOf, hf, hs]
theorem indexAddr_box {n b o s : Nat} {k : IntKind} {j : Int} (hu : P.underlying t = some (.array n el)) (hs : szOf P el = some s) (h0 : 0 ≤ j) (hj : j < n) : aIndexAddr P t (.pointer (some ⟨b, o, none⟩)) (.int k j) = some (.pointer (some ⟨b, o + j.toNat * s, none⟩)) := by
  simp only [aIndexAddr, hu, hs]; rw [if_pos ⟨h0, hj⟩]
end

/-! ### what stands still at last -/
def Wk (v2 v : Value) : Prop := ∀ (φ : Ren) (v' : Value), VRel φ v v' → VRel φ v2 v'
theorem Wk.same (v : Value) : Wk v v := fun _ _ h => h
theorem Wk.nil : Wk (fz 0 #[]) (.slice none 0 0) := fun φ v' h => by obtain ⟨rfl, _, _⟩ := h.of_nilSlice; exact .fz0
theorem Wk.emp : Wk (fz 0 #[]) emp := fun φ v' h => by
  obtain ⟨c, o, rfl⟩ := h.of_emp rfl
  exact .fz (us := fun _ => undef) (Nat.le_refl _) (fun i hi => by simp at hi) (fun i v hv => by simp at hv)
theorem Wk.erased (v : Value) : Wk erased v := fun _ v' _ => .erased v'
theorem Nl.wk {v : Value} (h : Nl v) : Wk (fz 0 #[]) v := by
  rcases h with rfl | rfl
  · exact .nil
  · exact .emp
theorem MO.weak {P : Program} {nt n0 : Nat} {ops : Array Oper} {l : List Oper} {t t2 : Tmps} {σ : AH} {Q : Tmps → AH → Prop} (ht : ∀ j, Wk (t2 j) (t j)) (hc : MO P nt n0 ops l t2 σ Q) : MO P nt n0 ops l t σ Q :=
  fun k hk φ a w R hA hE hR => hc k hk φ a w R ⟨hA.st, fun j => ht j φ _ (hA.tm j), hA.sz, hA.df⟩ hE hR
theorem MC.weak {P : Program} {nt n0 : Nat} {c : Code} {t t2 : Tmps} {σ : AH} {Q : AExit → Tmps → AH → Prop} (ht : ∀ j, Wk (t2 j) (t j)) (hc : MC P nt n0 c t2 σ Q) : MC P nt n0 c t σ Q :=
  fun φ a w R hA hE hR => hc φ a w R ⟨hA.st, fun j => ht j φ _ (hA.tm j), hA.sz, hA.df⟩ hE hR
/-- Some temporaries are told anew. -/
def upds (t : Tmps) (js : List Nat) (v : Value) : Tmps := js.foldl (fun t j => upd t j v) t
theorem upds_get (t : Tmps) (js : List Nat) (v : Value) (j : Nat) : upds t js v j = if j ∈ js then v else t j := by
  induction js generalizing t with
  | nil => simp [upds]
  | cons a js ih =>
    rw [upds, List.foldl_cons, ← upds, ih]
    by_cases h : j ∈ js
    · simp [h]
    · by_cases h2 : j = a <;> simp [h, h2, upd]
section
variable {α : Type} {P : Program} {nt n0 : Nat} {σ : AH} {l : List It} {i : Nat} {e : En α} {v : Value} {xs : List α} {t : Tmps}
/-- A slice of one's own stands still: what is told of it from now on. -/
theorem sl_still (h : Hp σ l) (hi : l[i]? = some (It.sl e v xs)) :
    (Nl v ∧ xs = []) ∨ ∃ b cs, blockOf v = some b ∧ Stills b e.sz cs (σ.put b .dead) σ ∧ Cz b cs (slv e xs) v ∧ Hp (σ.put b .dead) (l.eraseIdx i) := by
  have hlt : i < l.length := (List.getElem?_eq_some_iff.1 hi).1
  have hit : l[i] = It.sl e v xs := (List.getElem?_eq_some_iff.1 hi).2
  obtain ⟨hl, ⟨hv, h1⟩ | ⟨b, o, cap, C, rfl, h1, h2, h3, h4, h5⟩⟩ := h.at hi
  · exact .inl ⟨hv, List.eq_nil_of_length_eq_zero h1⟩
  · right
    have hb := AH.get_lt h3
    have hcap : xs.length * e.sz ≤ cap * e.sz := Nat.mul_le_mul_right _ h1
    refine ⟨b, C, rfl, ⟨⟨h3, h2⟩, fun o' ho => ?_, AH.size_put, rfl, fun b' o2 ho hl => ?_⟩, ?_, ?_⟩
    · rw [AH.get_put hb, if_pos rfl] at ho; cases ho; rfl
    · rw [AH.get_put hb] at ho
      split at ho
      · cases ho; cases hl
      · exact ⟨o2, ho, .same _ _ _⟩
    · have := Cz.slice (b := b) (o := o) (n := xs.length) (k := cap) (s := e.sz) (cs := C) h1 (by omega)
      rwa [← h5] at this
    · refine ⟨fun x hx => ?_, h.apart.sublist (List.eraseIdx_sublist _ _), by rw [AH.size_put]; exact h.base⟩
      obtain ⟨j, hj, hji, rfl⟩ : ∃ j, ∃ (hj : j < l.length), j ≠ i ∧ l[j] = x := by
        obtain ⟨j, hj, hx⟩ := List.mem_eraseIdx_iff_getElem.1 hx
        exact ⟨j, hj, hx.1, hx.2⟩
      refine It.ok_keep (h.all _ (List.getElem_mem hj)) rfl fun b' hb' => ?_
      rw [AH.get_put hb, if_neg]
      rintro rfl
      rcases Nat.lt_or_gt_of_ne hji with hlt' | hgt
      · exact List.pairwise_iff_getElem.1 h.apart j i hj hlt hlt' _ hb' (by rw [hit]; rfl)
      · exact List.pairwise_iff_getElem.1 h.apart i j hlt hj hgt _ (by rw [hit]; rfl) hb'
theorem erase_nil {σ : AH} {l : List It} {i : Nat} (h : Hp σ l) : Hp σ (l.eraseIdx i) := h.sub (List.eraseIdx_sublist _ _)
theorem MO.still {ops : Array Oper} {ol : List Oper} {Q : Tmps → AH → Prop} (h : Hp σ l) (hi : l[i]? = some (It.sl e v xs)) (js : List Nat) (ht : ∀ j ∈ js, t j = v) (k : ∀ σ', Hp σ' (l.eraseIdx i) → σ'.size = σ.size → MO P nt n0 ops ol (upds t js (slv e xs)) σ' Q) : MO P nt n0 ops ol t σ Q := by
  rcases sl_still h hi with ⟨hv, rfl⟩ | ⟨b, cs, _, h1, h2, h3⟩
  · refine MO.weak (fun j => ?_) (k σ (erase_nil h) rfl)
    rw [upds_get]; split
    · rw [ht j (by assumption)]; exact hv.wk
    · exact .same _
  · refine MO.freeze b e.sz cs h1 (fun j => ?_) (k _ h3 AH.size_put)
    rw [upds_get]; split
    · rw [ht j (by assumption)]; exact h2
    · exact .same _ _ _
theorem MC.still {c : Code} {Q : AExit → Tmps → AH → Prop} (h : Hp σ l) (hi : l[i]? = some (It.sl e v xs)) (js : List Nat) (ht : ∀ j ∈ js, t j = v) (k : ∀ σ', Hp σ' (l.eraseIdx i) → σ'.size = σ.size → MC P nt n0 c (upds t js (slv e xs)) σ' Q) : MC P nt n0 c t σ Q := by
  rcases sl_still h hi with ⟨hv, rfl⟩ | ⟨b, cs, _, h1, h2, h3⟩
  · refine MC.weak (fun j => ?_) (k σ (erase_nil h) rfl)
    rw [upds_get]; split
    · rw [ht j (by assumption)]; exact hv.wk
    · exact .same _
  · refine MC.freeze b e.sz cs h1 (fun j => ?_) (k _ h3 AH.size_put)
    rw [upds_get]; split
    · rw [ht j (by assumption)]; exact h2
    · exact .same _ _ _
end

/-! ### operations, one rule for each kind -/
section
variable {P : Program} {ρ : Operand → Value} {σ σ' : AH} {x y z v : Value} {X Y Z : Operand} {t t' : TypeId}
theorem ev_move (hx : ρ X = v) : aOp P ρ (.move X) σ = some (v, σ) := by subst hx; rfl
theorem ev_assign (hx : ρ X = v) : aOp P ρ (.assign X) σ = some (v, σ) := by subst hx; rfl
theorem ev_bin {op : BinOp} (hx : ρ X = x) (hy : ρ Y = y) (h : aBin P op t x y = some v) : aOp P ρ (.binOp op t X Y t') σ = some (v, σ) := by subst hx hy; show keep σ _ = _; rw [h]; rfl
theorem ev_un {op : UnOp} (hx : ρ X = x) (h : aUn op x = some v) : aOp P ρ (.unOp op t X) σ = some (v, σ) := by subst hx; show keep σ _ = _; rw [h]; rfl
theorem ev_conv (hx : ρ X = x) (h : aConv P t t' x = some v) : aOp P ρ (.convert t t' X) σ = some (v, σ) := by subst hx; show keep σ _ = _; rw [h]; rfl
theorem ev_load (hx : ρ X = x) (h : aLoad P t x σ = some v) : aOp P ρ (.load t X) σ = some (v, σ) := by subst hx; show keep σ _ = _; rw [h]; rfl
theorem ev_store (hx : ρ X = x) (hy : ρ Y = y) (h : aStore P t x y σ = some σ') : aOp P ρ (.store t X Y) σ = some (undef, σ') := by subst hx hy; show quietly _ = _; rw [h]; rfl
theorem ev_field {f : Nat} (hx : ρ X = x) (h : aField P t x f = some v) : aOp P ρ (.field t X f) σ = some (v, σ) := by subst hx; show keep σ _ = _; rw [h]; rfl
theorem ev_fieldAddr {f : Nat} (hx : ρ X = x) (h : aFieldAddr P t x f = some v) : aOp P ρ (.fieldAddr t X f) σ = some (v, σ) := by subst hx; show keep σ _ = _; rw [h]; rfl
theorem ev_indexAddr (hx : ρ X = x) (hy : ρ Y = y) (h : aIndexAddr P t x y = some v) : aOp P ρ (.indexAddr t X Y) σ = some (v, σ) := by subst hx hy; show keep σ _ = _; rw [h]; rfl
theorem ev_index (hx : ρ X = x) (hy : ρ Y = y) (h : aIndex P t x y = some v) : aOp P ρ (.index t X Y) σ = some (v, σ) := by subst hx hy; show keep σ _ = _; rw [h]; rfl
theorem ev_build {ps : Array (Nat × Operand)} {qs : List (Nat × Value)} (hp : ps.toList.map (fun p => (p.1, ρ p.2)) = qs) (h : aBuild P t qs = some v) : aOp P ρ (.build t ps) σ = some (v, σ) := by subst hp; show keep σ _ = _; rw [h]; rfl
theorem ev_buildSlice {n : Nat} {ps : Array (Nat × Operand)} {qs : List (Nat × Value)} (hp : ps.toList.map (fun p => (p.1, ρ p.2)) = qs) (h : aBuildSlice P t n qs σ = some (v, σ')) : aOp P ρ (.buildSlice t n ps) σ = some (v, σ') := by subst hp; exact h
theorem ev_makeSlice (hx : ρ X = x) (hy : ρ Y = y) (h : aMakeSlice P t x y σ = some (v, σ')) : aOp P ρ (.makeSlice t X Y) σ = some (v, σ') := by subst hx hy; exact h
theorem ev_slice {A B C : Option Operand} {a b c : Option Value} (hx : ρ X = x) (ha : A.map ρ = a) (hb : B.map ρ = b) (hc : C.map ρ = c) (h : aSlice P t x a b c σ = some v) : aOp P ρ (.slice t X A B C) σ = some (v, σ) := by subst hx ha hb hc; show keep σ _ = _; rw [h]; rfl
theorem ev_len (hx : ρ X = x) (h : aLen P t x σ = some v) : aOp P ρ (.call { callee := .builtin .len, args := #[X], argTypes := #[t] }) σ = some (v, σ) := by subst hx; show keep σ _ = _; rw [h]; rfl
theorem ev_min (hx : ρ X = x) (hy : ρ Y = y) (h : aMin [x, y] = some v) : aOp P ρ (.call { callee := .builtin .min, args := #[X, Y], argTypes := #[t, t'] }) σ = some (v, σ) := by subst hx hy; show keep σ (aMin [ρ X, ρ Y]) = _; rw [h]; rfl
theorem ev_max (hx : ρ X = x) (hy : ρ Y = y) (h : aMax [x, y] = some v) : aOp P ρ (.call { callee := .builtin .max, args := #[X, Y], argTypes := #[t, t'] }) σ = some (v, σ) := by subst hx hy; show keep σ (aMax [ρ X, ρ Y]) = _; rw [h]; rfl
theorem ev_append (hx : ρ X = x) (hy : ρ Y = y) (h : aAppend P t t' x y σ = some (v, σ')) : aOp P ρ (.call { callee := .builtin .append, args := #[X, Y], argTypes := #[t, t'] }) σ = some (v, σ') := by subst hx hy; exact h
theorem ev_copy (hx : ρ X = x) (hy : ρ Y = y) (h : aCopy P t x y σ = some (v, σ')) : aOp P ρ (.call { callee := .builtin .copy, args := #[X, Y], argTypes := #[t, t'] }) σ = some (v, σ') := by subst hx hy; exact h
theorem ev_alloc {z : Value} {b : Value} (hz : zeroOf P t = some z) (ht : isTuple z = false) (h : σ.alloc (cellsOfV z) = (b, σ')) : aOp P ρ (.alloc t) σ = some (b, σ') := by
  show (zeroOf P t).bind _ = _
  rw [hz, Option.bind_some, if_neg (by simp [ht]), h]
theorem ev_box {b : Value} (hx : ρ X = x) (ht : isTuple x = false) (h : σ.alloc (cellsOfV x) = (b, σ')) : aOp P ρ (.box t X) σ = some (b, σ') := by
  subst hx
  show (if isTuple (ρ X) then none else some (σ.alloc (cellsOfV (ρ X)))) = _
  rw [if_neg (by simp [ht]), h]
theorem ev_extract {i : Nat} (hx : ρ X = x) (h : aExtract x i = some v) : aOp P ρ (.extract X i) σ = some (v, σ) := by subst hx; show keep σ _ = _; rw [h]; rfl
theorem ev_pickT (hc : ρ X = .bool true) (hv : ρ Y = v) : aOp P ρ (.pick X Y Z) σ = some (v, σ) := by
  show (match ρ X with | .bool t => some (if t then ρ Y else ρ Z, σ) | _ => none) = _
  rw [hc, ← hv]; rfl
theorem ev_pickF (hc : ρ X = .bool false) (hv : ρ Z = v) : aOp P ρ (.pick X Y Z) σ = some (v, σ) := by
  show (match ρ X with | .bool t => some (if t then ρ Y else ρ Z, σ) | _ => none) = _
  rw [hc, ← hv]; rfl
theorem ev_nilCheck (hx : ρ X = x) (h : aNilCheck x = some v) : aOp P ρ (.nilCheck X) σ = some (v, σ) := by subst hx; show keep σ _ = _; rw [h]; rfl
end
/-- A call that needs no memory. -/
theorem MO.pure {P : Program} {nt n0 : Nat} {ops : Array Oper} {l : List Oper} {o : Oper} {t t1 : Tmps} {σ : AH} {v : Value} {Q : Tmps → AH → Prop} {f : Operand} {as : Array Operand} {ts : Array TypeId} {g : FuncId} {vs : List Value} (hn : n0 ≤ σ.size) (hw : wantA ops o t = some true) (ho : o.op = .call { callee := .value f, args := as, argTypes := ts })
    (hc : callee (opv t f) (as.toList.map (opv t)) = some (g, vs)) (hP : Pure P g vs v) (hp : putA nt t o.dst v = some t1) (h : MO P nt n0 ops l t1 σ Q) : MO P nt n0 ops (o :: l) t σ Q :=
  MO.call hn hw ho hc ((hP.fn σ).mono fun r σ' ⟨h1, h2⟩ => by subst h1 h2; exact ⟨hn, t1, hp, h⟩)

/-! ### regions whose order is open -/
def DD (P : Program) (S : Caller) (nt : Nat) (ops : Array Oper) (l : List Oper) (fr : List Bool) (t : Tmps) (σ : AH) (Q : Tmps → AH → Prop) : Prop := ∃ t' σ', evDraw P S nt ops l fr t σ = some (t', σ') ∧ Q t' σ'
section
variable {P : Program} {S : Caller} {nt n0 : Nat} {ops : Array Oper} {l : List Oper} {o : Oper} {t t1 : Tmps} {σ σ1 : AH} {v : Value} {Q : Tmps → AH → Prop} {fr : List Bool} {b : Bool}
theorem DD.nil (h : Q t σ) : DD P S nt ops [] fr t σ Q := ⟨t, σ, rfl, h⟩
theorem AH.withBase_self {σ : AH} {n : Nat} (h : σ.base = n) : σ.withBase n = σ := by cases σ; simp only [AH.withBase] at *; rw [h]
theorem DD.op' (hw : wantA ops o t = some true) (ho : evOp P S (opv t) o.op (if b || pureOp o.op then σ else σ.withBase σ.size) = some (v, σ1)) (hp : putA nt t o.dst v = some t1) (h : DD P S nt ops l fr t1 (σ1.withBase σ.base) Q) : DD P S nt ops (o :: l) (b :: fr) t σ Q := by
  obtain ⟨t2, σ2, h1, h2⟩ := h
  refine ⟨t2, σ2, ?_, h2⟩
  unfold evDraw
  rw [hw]
  show Option.bind (evOp P S (opv t) o.op (if b || pureOp o.op then σ else σ.withBase σ.size)) (fun vσ => (putA nt t o.dst vσ.1).bind fun t' => evDraw P S nt ops l fr t' (vσ.2.withBase σ.base)) = _
  rw [ho, Option.bind_some, hp, Option.bind_some, h1]
/-- An operation that turns nothing. -/
theorem DD.same (hw : wantA ops o t = some true) (ho : ∀ n, aOp P (opv t) o.op (σ.withBase n) = some (v, σ.withBase n)) (hp : putA nt t o.dst v = some t1) (h : DD P S nt ops l fr t1 σ Q) : DD P S nt ops (o :: l) (b :: fr) t σ Q := by
  have h0 : σ.withBase σ.base = σ := AH.withBase_self rfl
  refine DD.op' (σ1 := if b || pureOp o.op then σ else σ.withBase σ.size) hw ?_ hp ?_
  · split
    · have := aOp_ev (ho σ.base) S; rwa [h0] at this
    · exact aOp_ev (ho σ.size) S
  · split
    · rw [h0]; exact h
    · exact (by rw [show (σ.withBase σ.size).withBase σ.base = σ from h0]; exact h)
/-- An operation that makes memory. -/
theorem DD.push {x : AObj} (hw : wantA ops o t = some true) (ho : ∀ n, aOp P (opv t) o.op (σ.withBase n) = some (v, (σ.withBase n).push x)) (hp : putA nt t o.dst v = some t1) (h : DD P S nt ops l fr t1 (σ.push x) Q) : DD P S nt ops (o :: l) (b :: fr) t σ Q := by
  have h0 : σ.withBase σ.base = σ := AH.withBase_self rfl
  refine DD.op' (σ1 := (if b || pureOp o.op then σ else σ.withBase σ.size).push x) hw ?_ hp ?_
  · split
    · have := aOp_ev (ho σ.base) S; rwa [h0] at this
    · exact aOp_ev (ho σ.size) S
  · have : ((if b || pureOp o.op then σ else σ.withBase σ.size).push x).withBase σ.base = σ.push x := by split <;> rfl
    rw [this]; exact h
/-- An operation that stands in a fixed place. -/
theorem DD.free (hw : wantA ops o t = some true) (ho : aOp P (opv t) o.op σ = some (v, σ1)) (hb : σ1.base = σ.base) (hp : putA nt t o.dst v = some t1) (h : DD P S nt ops l fr t1 σ1 Q) : DD P S nt ops (o :: l) (true :: fr) t σ Q := by
  refine DD.op' (b := true) (σ1 := σ1) hw (by simpa using aOp_ev ho S) hp ?_
  rw [AH.withBase_self hb]; exact h
theorem DD.skip (hw : wantA ops o t = some false) (hp : putA nt t o.dst undef = some t1) (h : DD P S nt ops l fr t1 σ Q) : DD P S nt ops (o :: l) (b :: fr) t σ Q := by
  obtain ⟨t2, σ2, h1, h2⟩ := h
  exact ⟨t2, σ2, by unfold evDraw; simp only [hw, List.tail_cons, hp, Option.bind_some, h1], h2⟩
theorem DD.call {f : Operand} {as : Array Operand} {ts : Array TypeId} {g : FuncId} {vs : List Value} (hw : wantA ops o t = some true) (ho : o.op = .call { callee := .value f, args := as, argTypes := ts })
    (hc : callee (opv t f) (as.toList.map (opv t)) = some (g, vs)) (hS : ∀ σ, S g vs σ = some (v, σ)) (hp : putA nt t o.dst v = some t1) (h : DD P S nt ops l fr t1 σ Q) : DD P S nt ops (o :: l) (b :: fr) t σ Q := by
  have h0 : σ.withBase σ.base = σ := AH.withBase_self rfl
  have hev : ∀ σ, evOp P S (opv t) o.op σ = some (v, σ) := fun σ => by rw [ho]; simp only [evOp, hc, Option.bind_some, hS]
  refine DD.op' (σ1 := if b || pureOp o.op then σ else σ.withBase σ.size) hw (hev _) hp ?_
  split
  · rw [h0]; exact h
  · exact (by rw [show (σ.withBase σ.size).withBase σ.base = σ from h0]; exact h)
theorem known_head (f : FuncId) (as : List Value) (v : Value) (l : List (FuncId × List Value × Value)) (σ : AH) : known ((f, as, v) :: l) f as σ = some (v, σ) := by simp [known]
theorem known_tail {f f' : FuncId} {as as' : List Value} {v v' : Value} {l : List (FuncId × List Value × Value)} (h : ∀ σ, known l f as σ = some (v, σ)) (hne : f = f' → as = as' → v' = v) (σ : AH) : known ((f', as', v') :: l) f as σ = some (v, σ) := by
  unfold known
  split
  · rename_i he; rw [hne he.1 he.2]
  · exact h σ
theorem MC.open {id : Nat} {Q : AExit → Tmps → AH → Prop} (calls : List (FuncId × List Value × Value)) (hcalls : ∀ e ∈ calls, Pure P e.1 e.2.1 e.2.2) (hm : P.follows .mixedOrders = true) (hn : n0 ≤ σ.size) (hd : drawOk ops (befores ops.toList []) = true) (hfr : frees ops (befores ops.toList []) = fr)
    (h : DD P (known calls) nt ops ops.toList fr t σ fun t σ => Q .normal t σ) : MC P nt n0 (.region id ops true) t σ Q := by
  obtain ⟨t', σ', h1, h2⟩ := h
  exact MC.draw (known_ok calls hcalls) (known_grows calls) hm hn hd hfr h1 h2
end

/-! ### joins, loops -/
section
variable {P : Program} {nt n0 : Nat} {t : Tmps} {σ : AH} {Q : AExit → Tmps → AH → Prop}
/-- Where ways meet. -/
theorem MC.join {a b : Code} (J : Tmps → AH → Prop) (h : MC P nt n0 a t σ (Then J Q)) (k : ∀ t σ, J t σ → MC P nt n0 b t σ Q) : MC P nt n0 (.seq a b) t σ Q :=
  MC.seq (h.mono fun e t σ hq => by cases e <;> first | exact k _ _ hq | exact hq)
/-- A loop as a function: what goes on is handed to its body. -/
def loopK {S R : Type} (body : (S → Option R) → S → Option R) : Nat → S → Option R
  | 0, _ => none
  | n + 1, s => body (loopK body n) s
noncomputable def fuel : Nat := Classical.choose (⟨2 ^ 64, Nat.le_refl _⟩ : ∃ n, 2 ^ 64 ≤ n)
theorem fuel_ge : 2 ^ 64 ≤ fuel := Classical.choose_spec (⟨2 ^ 64, Nat.le_refl _⟩ : ∃ n, 2 ^ 64 ≤ n)
/-- What comes of a loop: its states, one by one, and the end. -/
theorem loopK_trace {S R : Type} {body : (S → Option R) → S → Option R} (st : Nat → S) (N : Nat) (out : Option R) (hs : ∀ i, i < N → ∀ next, body next (st i) = next (st (i + 1))) (he : ∀ next, body next (st N) = out) {n : Nat} (hn : N < n) : loopK body n (st 0) = out := by
  have key : ∀ (m i n : Nat), i + m = N → m < n → loopK body n (st i) = out := by
    intro m
    induction m with
    | zero => intro i n hi hn; obtain ⟨n, rfl⟩ : ∃ k, n = k + 1 := ⟨n - 1, by omega⟩; rw [loopK]; rw [show i = N by omega]; exact he _
    | succ m ih => intro i n hi hn; obtain ⟨n, rfl⟩ : ∃ k, n = k + 1 := ⟨n - 1, by omega⟩; rw [loopK, hs i (by omega)]; exact ih (i + 1) n (by omega) (by omega)
  exact key N 0 n (by omega) hn
theorem MC.loopK {S R : Type} {body : (S → Option R) → S → Option R} {c : Code} {n : Nat} {s : S} {r : R} (I : S → Tmps → AH → Prop) (h : loopK body n s = some r) (h0 : I s t σ)
    (round : ∀ (next : S → Option R) s t σ, I s t σ → body next s = some r → MC P nt n0 c t σ (Then (fun t σ => ∃ s', I s' t σ ∧ next s' = some r) Q)) : MC P nt n0 (.loop c) t σ Q := by
  refine MC.loop (fun m t σ => ∃ s, I s t σ ∧ Go.Ab.loopK body m s = some r) n ⟨s, h0, h⟩ fun m t σ ⟨s, hI, hs⟩ => ?_
  cases m with
  | zero => cases hs
  | succ m =>
    refine (round _ s t σ hI hs).mono fun e t σ hq => ?_
    cases e with
    | normal =>
      obtain ⟨s', h1, h2⟩ := hq
      exact ⟨m, by omega, s', h1, h2⟩
    | exit id => exact hq
    | ret => exact hq
end
end Go.Ab
