/- Slices of things of one cell each, by the list of what stands in them. -/
import Derived.Test.YtaclhflmgafobaaAbM
namespace Go.Ab
open Go
set_option linter.unusedSimpArgs false
set_option linter.unusedVariables false

/-- A slice whose elements are a list's, each of one cell. -/
def Vec {α : Type} (enc : α → Value) (σ : AH) (v : Value) (xs : List α) : Prop := Row σ v 1 xs.length (xs.map enc)
/-- The same, of one's own, from block B on. -/
def OVec {α : Type} (enc : α → Value) (σ : AH) (B : Nat) (v : Value) (xs : List α) : Prop := Own σ B v 1 xs.length (xs.map enc)

section
variable {P : Program} {α : Type} {enc : α → Value} {σ σ' : AH} {B : Nat} {v : Value} {xs : List α} {t e : TypeId}
theorem Vec.nil (enc : α → Value) (σ : AH) : Vec enc σ (.slice none 0 0) [] := Row.nil σ 1
theorem OVec.nil (enc : α → Value) (σ : AH) (B : Nat) : OVec enc σ B (.slice none 0 0) [] := Own.nil σ B 1
theorem OVec.vec (h : OVec enc σ B v xs) : Vec enc σ v xs := h.row
theorem Vec.keeps (h : Vec enc σ v xs) (k : Since σ.size σ σ') : Vec enc σ' v xs := Row.keeps h k
theorem Vec.since {C : Nat} (h : Vec enc σ v xs) (k : Since C σ σ') (hb : ∀ b, blockOf v = some b → b < C) : Vec enc σ' v xs := Row.since h k hb
theorem Vec.lt (h : Vec enc σ v xs) : ∀ b, blockOf v = some b → b < σ.size := Row.lt h
theorem OVec.keeps (h : OVec enc σ B v xs) (k : Since σ.size σ σ') : OVec enc σ' B v xs := Own.keeps h k
theorem OVec.le (h : OVec enc σ B v xs) : ∀ b, blockOf v = some b → B ≤ b := Own.le h
theorem Vec.len (h : Vec enc σ v xs) (hu : P.underlying t = some (.slice e)) : ∀ σ', aLen P t v σ' = some (.int .i64 xs.length) := by
  obtain ⟨a, cap, rfl, _⟩ := Row.isSlice h
  exact fun _ => len_slice hu
theorem Vec.elem (h : Vec enc σ v xs) (hu : P.underlying t = some (.slice e)) (hs : szOf P e = some 1) (ha : isAggT P e = some false) {i : Int} {k : IntKind} (h0 : 0 ≤ i) {x : α} (hx : xs[i.toNat]? = some x) :
    ∃ p, aIndexAddr P t v (.int k i) = some p ∧ (∀ σ', (∀ b, blockOf v = some b → σ'.get b = σ.get b) → aLoad P e p σ' = some (enc x)) ∧ aLoad P e p σ = some (enc x) := by
  have hi : i < xs.length := by
    have := (List.getElem?_eq_some_iff.1 hx).1; omega
  obtain ⟨p, h1, h2⟩ := Row.elem h hu hs (k := k) h0 hi (x := enc x) (by rw [List.getElem?_map, hx]; rfl)
  exact ⟨p, h1, h2 ha, h2 ha _ fun _ _ => rfl⟩
theorem Vec.sliceTo (h : Vec enc σ v xs) (hu : P.underlying t = some (.slice e)) (hs : szOf P e = some 1) {m : Int} (h0 : 0 ≤ m) (hm : m ≤ xs.length) {k : IntKind} :
    ∃ r, aSlice P t v none (some (.int k m)) none σ = some r ∧ Vec enc σ r (xs.take m.toNat) ∧ blockOf r = blockOf v := by
  obtain ⟨r, h1, h2, h3⟩ := Row.sliceTo h hu hs h0 hm (k := k)
  refine ⟨r, h1, ?_, h3⟩
  rw [Vec, List.length_take, Nat.min_eq_left (by omega), List.map_take]
  simpa using h2
theorem getD_some {β : Type} {l : List β} {i : Nat} (h : i < l.length) (d : β) : l[i]? = some (l.getD i d) := by rw [List.getElem?_eq_getElem h]; simp [List.getD, h]
theorem getD_none {β : Type} {l : List β} {i : Nat} (h : l.length ≤ i) (d : β) : l.getD i d = d := by simp [List.getD, List.getElem?_eq_none h]
theorem rep_one (z : Value) (n : Nat) : rep [z] n = List.replicate n z := by
  induction n with
  | zero => rfl
  | succ n ih => rw [rep, ih]; rfl
theorem OVec.make (hB : B ≤ σ.size) (hb : σ.base ≤ σ.size) (hu : P.underlying t = some (.slice e)) {bytes : Nat} (hE : ElemT P e 1 bytes) {x : α} (hz : zeroOf P e = some (enc x)) (hx : (enc x).cells = #[enc x]) {n : Int} (h0 : 0 ≤ n) (hn : n ≤ 2 ^ 20) (hbt : bytes ≤ 2 ^ 20) {k k' : IntKind} :
    ∃ r σ', aMakeSlice P t (.int k n) (.int k' n) σ = some (r, σ') ∧ OVec enc σ' B r (List.replicate n.toNat x) ∧ Since B σ σ' := by
  obtain ⟨i, hi, hi1, hi2, hi3⟩ := hE.get
  obtain ⟨i', hi', hz', hc⟩ := zeroOf_some hz
  rw [hi] at hi'; obtain rfl := Option.some.inj hi'
  refine ⟨.slice (some ⟨σ.size, 0, none⟩) n.toNat n.toNat, σ.push (.cells false 1 (List.replicate n.toNat (enc x))), ?_, ?_, .push hB _⟩
  · have hmul : (bytes : Int) * n ≤ 2 ^ 20 * 2 ^ 20 := Int.mul_le_mul (by omega) hn h0 (by decide)
    simp only [aMakeSlice, hu, hi, hz', hi1, hi2, hx]
    rw [if_pos ⟨h0, Int.le_refl _, by omega, by omega, by decide, rfl, hc⟩, rep_one]
  · rw [OVec, List.length_replicate, List.map_replicate]
    exact own_new hB hb (by simp)
theorem OVec.append1 (hB : B ≤ σ.size) (hb : σ.base ≤ σ.size) (hv : OVec enc σ B v xs) {y : Value} {x : α} (hy : Vec enc σ y [x]) (hu : P.underlying t = some (.slice e)) {bytes : Nat} (hE : ElemT P e 1 bytes) (hc : isCell (enc x) = true) (hsmall : (xs.length + 1) * bytes ≤ 2 ^ 34) :
    ∃ r σ', aAppend P t t v y σ = some (r, σ') ∧ OVec enc σ' B r (xs ++ [x]) ∧ Since B σ σ' ∧ (∀ b, b < σ.size → blockOf v ≠ some b → σ'.get b = σ.get b) ∧ (blockOf r = blockOf v ∨ blockOf r = some σ.size) := by
  obtain ⟨r, σ', h1, h2, h3⟩ := append_own hB hb hv (show Row σ y 1 1 [enc x] from hy) (by decide) hu hu hE (by simp [hc]) hsmall
  exact ⟨r, σ', h1, by simpa [OVec] using h2, h3⟩
/-- The slice of one element that is made ahead of an append. -/
theorem build1 (hB : B ≤ σ.size) (hu : P.underlying t = some (.slice e)) {bytes : Nat} (hE : ElemT P e 1 bytes) {z : Value} (hz : zeroOf P e = some z) {x : α} (hx : (enc x).cells = #[enc x]) (hf : isTuple (enc x) = false) :
    ∃ y σ', aBuildSlice P t 1 [(0, enc x)] σ = some (y, σ') ∧ Vec enc σ' y [x] ∧ Since σ.size σ σ' ∧ blockOf y = some σ.size := by
  refine ⟨_, _, build_one hu hE hz (by simp [cellsOfV, hx]) hf (by decide), ?_, .push (Nat.le_refl _) _, rfl⟩
  have := row_new (σ := σ) (s := 1) (n := 1) (cs := cellsOfV (enc x)) (by simp [cellsOfV, hx])
  simpa [Vec, cellsOfV, hx] using this
theorem OVec.store (h : OVec enc σ B v xs) (hu : P.underlying t = some (.slice e)) (hs : szOf P e = some 1) {i : Int} {k : IntKind} (h0 : 0 ≤ i) (hi : i < xs.length) {x : α} (hx : isCell (enc x) = true) (hcx : (enc x).cells = #[enc x]) :
    ∃ p, aIndexAddr P t v (.int k i) = some p ∧ ∃ σ', aStore P e p (enc x) σ = some σ' ∧ OVec enc σ' B v (xs.set i.toNat x) ∧ Since B σ σ' ∧ (∀ b, blockOf v ≠ some b → σ'.get b = σ.get b) := by
  obtain ⟨p, h1, σ', h2, h3, h4⟩ := store_own h hu hs (k := k) h0 hi hx hcx
  exact ⟨p, h1, σ', h2, by simpa [OVec, List.map_set] using h3, h4⟩
theorem OVec.other (h : OVec enc σ B v xs) (hw : ∀ b, blockOf v = some b → σ'.get b = σ.get b) (hs : σ'.base = σ.base) : OVec enc σ' B v xs := by
  obtain ⟨h0, h1 | ⟨b, cap, C, rfl, h1, h2, h3, h4, h5⟩⟩ := h
  · exact ⟨h0, .inl h1⟩
  · exact ⟨h0, .inr ⟨b, cap, C, rfl, h1, h2, by rw [hs]; exact h3, by rw [hw b rfl]; exact h4, h5⟩⟩
theorem Vec.other (h : Vec enc σ v xs) {w : Value} (hw : ∀ b, blockOf w ≠ some b → σ'.get b = σ.get b) (hn : ∀ b, blockOf v = some b → blockOf w ≠ some b) (hs : σ'.base = σ.base) : Vec enc σ' v xs := by
  obtain ⟨h0, h1 | ⟨b, o, cap, ro, z, C, rfl, h1, h2, h3⟩⟩ := h
  · exact ⟨h0, .inl h1⟩
  · exact ⟨h0, .inr ⟨b, o, cap, ro, z, C, rfl, h1, by rw [hw b (hn b rfl)]; exact h2, h3⟩⟩
end
end Go.Ab
