/- Lean's own data as values that stand still, and what a function has in memory for itself: slices, boxes, maps; what the operations do to them. -/
import Derived.Test.YtaclhflmgafobaaFzM
namespace Go.Ab
open Go
set_option linter.unusedSimpArgs false
set_option linter.unusedVariables false

/-! ### data as values -/
/-- How data of a type are laid in cells. -/
structure En (α : Type) where
  sz : Nat
  one : Bool
  cells : α → List Value
  len : ∀ x, (cells x).length = sz
  hone : one = true → sz = 1
  flat : ∀ x, ∀ v ∈ cells x, Flat v
  cell : ∀ x, ∀ v ∈ cells x, isCell v = true
  inj : ∀ x y, cells x = cells y → x = y
def En.val {α : Type} (e : En α) (x : α) : Value := if e.one then (e.cells x).headD undef else .agg (e.cells x).toArray
def eI (k : IntKind) : En Int := ⟨1, true, fun n => [.int k n], fun _ => rfl, fun _ => rfl, fun x v h => by simp at h; subst h; exact .prim rfl, fun x v h => by simp at h; subst h; rfl, fun x y h => by simpa using h⟩
/-- A word of 64 bits. -/
def w64 (x : BitVec 64) : Value := .int .u64 x.toNat
def eW : En (BitVec 64) := ⟨1, true, fun n => [w64 n], fun _ => rfl, fun _ => rfl, fun x v h => by simp at h; subst h; exact .prim rfl, fun x v h => by simp at h; subst h; rfl, fun x y h => BitVec.eq_of_toNat_eq (by simp [w64] at h; omega)⟩
def eB : En Bool := ⟨1, true, fun n => [.bool n], fun _ => rfl, fun _ => rfl, fun x v h => by simp at h; subst h; exact .prim rfl, fun x v h => by simp at h; subst h; rfl, fun x y h => by simpa using h⟩
def eT : En ByteArray := ⟨1, true, fun n => [.string n], fun _ => rfl, fun _ => rfl, fun x v h => by simp at h; subst h; exact .prim rfl, fun x v h => by simp at h; subst h; rfl, fun x y h => by simpa using h⟩
/-- All elements' cells, one element behind the other. -/
def En.all {α : Type} (e : En α) (xs : List α) : List Value := xs.flatMap e.cells
def slv {α : Type} (e : En α) (xs : List α) : Value := fz xs.length (e.all xs).toArray
theorem all_flat {α : Type} (e : En α) (xs : List α) : ∀ v ∈ e.all xs, Flat v := fun v hv => by
  obtain ⟨x, _, hx⟩ := List.mem_flatMap.1 hv; exact e.flat x v hx
theorem all_cell {α : Type} (e : En α) (xs : List α) : ∀ v ∈ e.all xs, isCell v = true := fun v hv => by
  obtain ⟨x, _, hx⟩ := List.mem_flatMap.1 hv; exact e.cell x v hx
theorem all_len {α : Type} (e : En α) (xs : List α) : (e.all xs).length = xs.length * e.sz := by
  induction xs with
  | nil => simp [En.all]
  | cons x xs ih => simp only [En.all, List.flatMap_cons, List.length_append, e.len, List.length_cons] at *; rw [ih, Nat.succ_mul, Nat.add_comm]
theorem all_app {α : Type} (e : En α) (xs ys : List α) : e.all (xs ++ ys) = e.all xs ++ e.all ys := by simp [En.all]
theorem all_one {α : Type} (e : En α) (x : α) : e.all [x] = e.cells x := by simp [En.all]
theorem slv_flat {α : Type} (e : En α) (xs : List α) : Flat (slv e xs) := Flat.fz (by simpa using all_flat e xs)
theorem all_inj {α : Type} (e : En α) : ∀ (xs ys : List α), xs.length = ys.length → e.all xs = e.all ys → xs = ys
  | [], [], _, _ => rfl
  | [], _ :: _, h, _ => by simp at h
  | _ :: _, [], h, _ => by simp at h
  | x :: xs, y :: ys, h, ha => by
    simp only [En.all, List.flatMap_cons] at ha
    obtain ⟨h1, h2⟩ := List.append_inj ha (by rw [e.len, e.len])
    rw [e.inj x y h1, all_inj e xs ys (by simpa using h) h2]
theorem slv_inj {α : Type} (e : En α) (xs ys : List α) (h : slv e xs = slv e ys) : xs = ys := by
  unfold slv fz at h
  simp at h
  exact all_inj e xs ys h.1 h.2
def eL {α : Type} (e : En α) : En (List α) := ⟨1, true, fun xs => [slv e xs], fun _ => rfl, fun _ => rfl, fun x v h => by simp at h; subst h; exact slv_flat e x, fun x v h => by simp at h; subst h; rfl, fun x y h => slv_inj e x y (by simpa using h)⟩
def ptv {α : Type} (e : En α) (x : α) : Value := pfz (e.cells x).toArray
theorem ptv_flat {α : Type} (e : En α) (x : α) : Flat (ptv e x) := Flat.pfz (by simpa using e.flat x)
theorem val_flat {α : Type} (e : En α) (x : α) : Flat (e.val x) := by
  unfold En.val
  split
  · rename_i h
    have hl := e.len x
    rw [e.hone h] at hl
    match hc : e.cells x, hl with
    | [v], _ => exact e.flat x v (by rw [hc]; simp)
  · exact Flat.agg (by simpa using e.flat x)
theorem val_one {α : Type} (e : En α) (x : α) (h : e.one = true) : e.cells x = [e.val x] := by
  have hl := e.len x
  rw [e.hone h] at hl
  unfold En.val
  rw [if_pos h]
  match hc : e.cells x, hl with
  | [v], _ => rfl
theorem val_inj {α : Type} (e : En α) {x y : α} (h : e.val x = e.val y) : x = y := by
  by_cases ho : e.one = true
  · exact e.inj x y (by rw [val_one e x ho, val_one e y ho, h])
  · unfold En.val at h
    rw [if_neg ho, if_neg ho] at h
    exact e.inj x y (by simpa using h)
theorem val_isTuple {α : Type} (e : En α) (x : α) : isTuple (e.val x) = false := by
  by_cases h : e.one = true
  · have := e.cell x (e.val x) (by rw [val_one e x h]; simp)
    revert this; cases e.val x <;> simp [isCell, isTuple]
  · unfold En.val; rw [if_neg h]; rfl
theorem val_cells {α : Type} (e : En α) (x : α) : cellsOfV (e.val x) = e.cells x := by
  by_cases h : e.one = true
  · have h1 := val_one e x h
    have := e.cell x (e.val x) (by rw [h1]; simp)
    rw [h1]
    revert this; cases e.val x <;> simp [isCell, cellsOfV, Value.cells]
  · unfold En.val; rw [if_neg h]; simp [cellsOfV, Value.cells]
/-- Arrays. -/
def eV {α : Type} (e : En α) (n : Nat) : En (Vector α n) := ⟨n * e.sz, false, fun v => e.all v.toList, fun v => by rw [all_len]; simp, fun h => (by cases h), fun v => all_flat e _, fun v => all_cell e _, fun v w h => Vector.toList_inj.1 (all_inj e _ _ (by simp) h)⟩

/-- A type of the program's is laid so. -/
structure Ty {α : Type} (P : Program) (t : TypeId) (e : En α) : Prop where
  sz : szOf P t = some e.sz
  ag : isAggT P t = some (!e.one)
  pos : e.sz ≠ 0
/-- What a type's element is. -/
structure ElemT (P : Program) (e : TypeId) (s bytes : Nat) : Prop where
  info : (P.info? e).map (fun i => (i.size, i.bytes, i.zero.map (·.cells.size))) = some (s, bytes, some s)
  pos : s ≠ 0
  bpos : bytes ≠ 0
theorem ElemT.get {P : Program} {e : TypeId} {s bytes : Nat} (h : ElemT P e s bytes) : ∃ i, P.info? e = some i ∧ i.size = s ∧ i.bytes = bytes ∧ i.zero.map (·.cells.size) = some s := by
  have := h.info
  cases hi : P.info? e with
  | none => simp [hi] at this
  | some i => simp [hi] at this; exact ⟨i, rfl, this.1, this.2.1, by simpa using this.2.2⟩
theorem ElemT.sz {P : Program} {e : TypeId} {s bytes : Nat} (h : ElemT P e s bytes) : szOf P e = some s := by
  obtain ⟨i, h1, h2, _⟩ := h.get; simp [szOf, h1, h2]

/-! ### what stands still -/
section
variable {α β : Type} {P : Program} {t el : TypeId} {e : En α} {e' : En β}
/-- A part of cells. -/
theorem part_of (h : Ty P t e) {cs : List Value} {off : Nat} {x : α} (hx : (cs.drop off).take e.sz = e.cells x) : aPart P t cs.toArray off = some (e.val x) := by
  have hl := e.len x
  rw [← hx] at hl
  unfold aPart
  rw [h.ag, h.sz]
  cases ho : e.one with
  | false =>
    simp only [Bool.not_false]
    have hp := h.pos
    have hle2 : off + e.sz ≤ cs.length := by
      simp at hl; omega
    have hext : (cs.toArray.extract off (off + e.sz)) = (e.cells x).toArray := by
      apply Array.ext'
      simp only [Array.toList_extract, List.extract_eq_take_drop]
      rw [← hx]; congr 1; omega
    rw [if_pos (by simpa using hle2), hext]; unfold En.val; rw [if_neg (by simp [ho])]
  | true =>
    simp only [Bool.not_true]
    have h1 := val_one e x ho
    rw [h1, e.hone ho] at hx
    have : (cs.drop off)[0]? = some (e.val x) := by
      have h2 : ((cs.drop off).take 1)[0]? = some (e.val x) := by rw [hx]; rfl
      simpa [List.getElem?_take] using h2
    rw [List.getElem?_drop] at this
    simpa using this
theorem field_val {e0 : En β} {s : TypeId} {x : β} {f : Nat} {fd : Field} (h : Ty P fd.type e) (hf : fieldOf P s f = some fd) (ho : e0.one = false) {y : α} (hx : ((e0.cells x).drop fd.offset).take e.sz = e.cells y) : aField P s (e0.val x) f = some (e.val y) := by
  have : e0.val x = .agg (e0.cells x).toArray := by unfold En.val; rw [if_neg (by simp [ho])]
  rw [this]
  simp only [aField, hf]
  exact part_of h hx
theorem load_still (h : Ty P t e) (x : α) (σ : AH) : aLoad P t (ptv e x) σ = some (e.val x) := by
  show aPart P t (e.cells x).toArray 0 = _
  exact part_of h (by rw [List.drop_zero]; exact List.take_of_length_le (by rw [e.len]; exact Nat.le_refl _))
theorem all_at {xs : List α} {i : Nat} {x : α} (hx : xs[i]? = some x) : ((e.all xs).drop (i * e.sz)).take e.sz = e.cells x := by
  induction xs generalizing i with
  | nil => simp at hx
  | cons y xs ih =>
    cases i with
    | zero =>
      simp at hx; subst hx
      simp only [En.all, List.flatMap_cons, Nat.zero_mul, List.drop_zero]
      rw [← e.len y, List.take_left]
    | succ i =>
      have := ih (by simpa using hx)
      simp only [En.all, List.flatMap_cons] at *
      rw [Nat.succ_mul, Nat.add_comm, ← List.drop_drop]
      have hd : (e.cells y ++ xs.flatMap e.cells).drop e.sz = xs.flatMap e.cells := by rw [← e.len y, List.drop_left]
      rw [hd]; exact this
theorem ext_take {cs : List Value} {a n : Nat} : cs.toArray.extract a (a + n) = ((cs.drop a).take n).toArray := by
  apply Array.ext'
  simp only [Array.toList_extract, List.extract_eq_take_drop]
  congr 1; omega
theorem index_still (h : Ty P el e) (hu : P.underlying t = some (.slice el)) {xs : List α} {i : Int} {k : IntKind} {x : α} (h0 : 0 ≤ i) (hx : xs[i.toNat]? = some x) : aIndexAddr P t (slv e xs) (.int k i) = some (ptv e x) := by
  have hi : i < xs.length := by have := (List.getElem?_eq_some_iff.1 hx).1; omega
  simp only [aIndexAddr, slv, fz, hu, h.sz]
  rw [if_pos ⟨h0, hi⟩, ext_take, all_at hx]; rfl
theorem len_still (hu : P.underlying t = some (.slice el)) (xs : List α) (σ : AH) : aLen P t (slv e xs) σ = some (.int .i64 xs.length) := by
  simp [aLen, slv, fz, hu]
/-- A field's place, of a pointer to what stands still. -/
theorem fieldAddr_still {e0 : En β} {s : TypeId} {x : β} {f : Nat} {fd : Field} (h : Ty P fd.type e) (hf : fieldOf P s f = some fd) {y : α} (hx : ((e0.cells x).drop fd.offset).take e.sz = e.cells y) : aFieldAddr P s (ptv e0 x) f = some (ptv e y) := by
  have hp := h.pos
  have hl := e.len y
  rw [← hx] at hl
  simp at hl
  obtain ⟨n, hn⟩ : ∃ n, e.sz = n + 1 := ⟨e.sz - 1, by omega⟩
  simp only [aFieldAddr, ptv, pfz, fcells, hf, Option.bind_some, h.sz, hn]
  rw [if_pos (by simp; omega), ← hn, ext_take, hx]
theorem indexAddr_arr {n : Nat} (h : Ty P el e) (hu : P.underlying t = some (.array n el)) {v : Vector α n} {i : Int} {k : IntKind} {x : α} (h0 : 0 ≤ i) (hx : v.toList[i.toNat]? = some x) : aIndexAddr P t (ptv (eV e n) v) (.int k i) = some (ptv e x) := by
  have hi : i < n := by have := (List.getElem?_eq_some_iff.1 hx).1; simp at this; omega
  simp only [aIndexAddr, ptv, pfz, hu, h.sz]
  rw [if_pos ⟨h0, hi⟩]
  show some (Value.func _ _ ((e.all v.toList).toArray.extract _ _)) = _
  rw [ext_take, all_at hx]
theorem all_slice {xs : List α} {l h : Nat} : (e.all xs).toArray.extract (l * e.sz) (h * e.sz) = (e.all ((xs.take h).drop l)).toArray := by
  have tk : ∀ (xs : List α) (n : Nat), (e.all xs).take (n * e.sz) = e.all (xs.take n) := by
    intro xs
    induction xs with
    | nil => intro n; simp [En.all]
    | cons y xs ih =>
      intro n
      cases n with
      | zero => simp [En.all]
      | succ n =>
        have := ih n
        simp only [En.all, List.flatMap_cons, List.take_succ_cons] at *
        rw [← this, List.take_append, e.len, Nat.succ_mul, List.take_of_length_le (by rw [e.len]; omega)]
        congr 2; omega
  have dr : ∀ (xs : List α) (n : Nat), (e.all xs).drop (n * e.sz) = e.all (xs.drop n) := by
    intro xs
    induction xs with
    | nil => intro n; simp [En.all]
    | cons y xs ih =>
      intro n
      cases n with
      | zero => simp [En.all]
      | succ n =>
        have := ih n
        simp only [En.all, List.flatMap_cons, List.drop_succ_cons] at *
        rw [← this, List.drop_append, e.len, Nat.succ_mul, List.drop_of_length_le (by rw [e.len]; omega), List.nil_append]
        congr 1; omega
  apply Array.ext'
  simp only [Array.toList_extract, List.extract_eq_take_drop]
  rw [← Nat.sub_mul]
  show ((e.all xs).drop (l * e.sz)).take ((h - l) * e.sz) = _
  rw [dr, tk, List.take_drop]
  congr 1
  by_cases hlh : l ≤ h
  · rw [Nat.add_sub_cancel' hlh]
  · rw [List.drop_eq_nil_of_le (by simp; omega), List.drop_eq_nil_of_le (by simp; omega)]
def bnd (v : Option Int) (k : IntKind) : Option Value := v.map (Value.int k)
/-- A part of a slice. -/
theorem slice_still (h : Ty P el e) (hu : P.underlying t = some (.slice el)) {xs : List α} {lo hi : Option Value} {l h' : Nat} (hh : bound hi xs.length xs.length = some h') (hl : bound lo 0 h' = some l) (σ : AH) (hlh : l ≤ h') (hhx : h' ≤ xs.length) :
    aSlice P t (slv e xs) lo hi none σ = some (slv e ((xs.take h').drop l)) := by
  simp only [aSlice, slv, fz, hu, hh, h.sz, hl]
  rw [all_slice]
  simp [isEmp]; omega
end
end Go.Ab
