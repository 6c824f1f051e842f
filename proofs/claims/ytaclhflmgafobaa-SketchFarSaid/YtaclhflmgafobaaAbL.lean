/- Slices in the interpreter's heap: those that are read, those that are a function's own; what the operations do to them. -/
import Derived.Test.YtaclhflmgafobaaAbW
namespace Go.Ab
open Go
set_option linter.unusedSimpArgs false
set_option linter.unusedVariables false

theorem upd_self (t : Tmps) (d : Nat) (v : Value) : upd t d v d = v := by simp [upd]
theorem upd_ne (t : Tmps) (d j : Nat) (v : Value) (h : j ≠ d) : upd t d v j = t j := by simp [upd, h]
theorem opv_tmp (t : Tmps) (j : Nat) : opv t (.tmp j) = t j := rfl
theorem opv_const (t : Tmps) (v : Value) (h : closedV v = true) : opv t (.const v) = v := by simp [opv, h]
theorem opv_func (t : Tmps) (f : FuncId) : opv t (.func f) = .func (.func f) #[] #[] := rfl
theorem start_zero (a : Value) (l : List Value) : start (a :: l) 0 = a := rfl
theorem start_succ (a : Value) (l : List Value) (j : Nat) : start (a :: l) (j + 1) = start l j := by simp [start]

/-- Below B all is as it was. -/
structure Since (B : Nat) (σ σ' : AH) : Prop where
  size : σ.size ≤ σ'.size
  base : σ'.base = σ.base
  keep : ∀ b, b < B → σ'.get b = σ.get b
theorem Since.refl (B : Nat) (σ : AH) : Since B σ σ := ⟨Nat.le_refl _, rfl, fun _ _ => rfl⟩
theorem Since.trans {B : Nat} {a b c : AH} (h : Since B a b) (k : Since B b c) : Since B a c := ⟨Nat.le_trans h.size k.size, k.base.trans h.base, fun j hj => (k.keep j hj).trans (h.keep j hj)⟩
theorem Since.mono {B B' : Nat} {a b : AH} (h : Since B a b) (hB : B' ≤ B) : Since B' a b := ⟨h.size, h.base, fun j hj => h.keep j (Nat.lt_of_lt_of_le hj hB)⟩
theorem Since.then {a b c : AH} (h : Since a.size a b) (k : Since b.size b c) : Since a.size a c := h.trans (k.mono h.size)
theorem Since.based {B : Nat} {σ σ' : AH} (h : Since B σ σ') (hb : σ.base ≤ σ.size) : σ'.base ≤ σ'.size := by rw [h.base]; exact Nat.le_trans hb h.size
theorem Since.push {B : Nat} {σ : AH} (hB : B ≤ σ.size) (o : AObj) : Since B σ (σ.push o) := ⟨by rw [AH.size_push]; omega, rfl, fun b hb => by rw [AH.get_push, if_neg (by omega)]⟩
theorem Since.put {B : Nat} {σ : AH} {b : Nat} (hB : B ≤ b) (o : AObj) : Since B σ (σ.put b o) := ⟨by rw [AH.size_put]; omega, rfl, fun j hj => by
  show (σ.bs.set b o)[j]? = σ.bs[j]?
  rw [List.getElem?_set, if_neg (by omega)]⟩

/-- A slice of n elements, each of s cells; its cells. -/
def Row (σ : AH) (v : Value) (s n : Nat) (cs : List Value) : Prop :=
  cs.length = n * s ∧ ((v = .slice none 0 0 ∧ n = 0) ∨ ∃ b o cap ro z C, v = .slice (some ⟨b, o, none⟩) n cap ∧ n ≤ cap ∧ σ.get b = some (.cells ro z C) ∧ (z = 0 ∨ z = s) ∧ o + n * s ≤ C.length ∧ cs = (C.drop o).take (n * s))
theorem Row.isSlice {σ : AH} {v : Value} {s n : Nat} {cs : List Value} (h : Row σ v s n cs) : ∃ a cap, v = .slice a n cap ∧ n ≤ cap := by
  obtain ⟨_, ⟨rfl, rfl⟩ | ⟨b, o, cap, ro, z, C, rfl, h, _⟩⟩ := h
  · exact ⟨_, _, rfl, Nat.le_refl _⟩
  · exact ⟨_, _, rfl, h⟩
theorem Row.nil (σ : AH) (s : Nat) : Row σ (.slice none 0 0) s 0 [] := ⟨by simp, .inl ⟨rfl, rfl⟩⟩
/-- The block of a slice. -/
def blockOf : Value → Option Nat
  | .slice (some a) _ _ => some a.block
  | _ => none
theorem Row.since {B : Nat} {σ σ' : AH} {v : Value} {s n : Nat} {cs : List Value} (h : Row σ v s n cs) (k : Since B σ σ') (hb : ∀ b, blockOf v = some b → b < B) : Row σ' v s n cs := by
  obtain ⟨h0, h1 | ⟨b, o, cap, ro, z, C, rfl, h1, h2, h3⟩⟩ := h
  · exact ⟨h0, .inl h1⟩
  · exact ⟨h0, .inr ⟨b, o, cap, ro, z, C, rfl, h1, by rw [k.keep b (hb b rfl)]; exact h2, h3⟩⟩
theorem Row.lt {σ : AH} {v : Value} {s n : Nat} {cs : List Value} (h : Row σ v s n cs) : ∀ b, blockOf v = some b → b < σ.size := by
  obtain ⟨h0, ⟨rfl, _⟩ | ⟨b, o, cap, ro, z, C, rfl, h1, h2, h3⟩⟩ := h
  · intro b hb; cases hb
  · intro b' hb; cases hb; exact AH.get_lt h2
theorem Row.keeps {σ σ' : AH} {v : Value} {s n : Nat} {cs : List Value} (h : Row σ v s n cs) (k : Since σ.size σ σ') : Row σ' v s n cs := h.since k h.lt

theorem Row.sliceTo {P : Program} {σ : AH} {v : Value} {s n : Nat} {cs : List Value} (h : Row σ v s n cs) {t e : TypeId} (hu : P.underlying t = some (.slice e)) (hs : szOf P e = some s) {m : Int} (h0 : 0 ≤ m) (hm : m ≤ n) {k : IntKind} :
    ∃ r, aSlice P t v none (some (.int k m)) none σ = some r ∧ Row σ r s m.toNat (cs.take (m.toNat * s)) ∧ blockOf r = blockOf v := by
  obtain ⟨hl, ⟨rfl, rfl⟩ | ⟨b, o, cap, ro, z, C, rfl, h1, h2, h3, h4, h5⟩⟩ := h
  · obtain rfl : m = 0 := by omega
    refine ⟨.slice none 0 0, ?_, ?_, rfl⟩
    · simp [aSlice, hu, hs, bound, AH.elemOk]
    · simp; exact Row.nil σ s
  · have hmc : m.toNat ≤ n := by omega
    have hok : σ.elemOk (some ⟨b, o, none⟩) s = true := by
      unfold AH.elemOk
      simp only [h2]
      rcases h3 with rfl | rfl <;> simp
    refine ⟨.slice (some ⟨b, o, none⟩) m.toNat cap, ?_, ?_, rfl⟩
    · have hb1 : (0 ≤ m ∧ m ≤ (cap : Int)) := ⟨h0, by omega⟩
      have hcl : ¬ (cap < m.toNat) := by omega
      simp only [aSlice, hu, hs, bound, hok]
      simp [hb1, hcl, hok]
    · have hms : m.toNat * s ≤ n * s := Nat.mul_le_mul_right _ hmc
      refine ⟨by rw [List.length_take, hl]; omega, .inr ⟨b, o, cap, ro, z, C, rfl, by omega, h2, h3, by omega, ?_⟩⟩
      rw [h5, List.take_take, Nat.min_eq_left hms]

/-- A one-cell element of a slice. -/
theorem Row.elem {P : Program} {σ : AH} {v : Value} {n : Nat} {cs : List Value} (h : Row σ v 1 n cs) {t e : TypeId} (hu : P.underlying t = some (.slice e)) (hs : szOf P e = some 1) {i : Int} {k : IntKind} (h0 : 0 ≤ i) (hi : i < n) {x : Value} (hx : cs[i.toNat]? = some x) :
    ∃ p, aIndexAddr P t v (.int k i) = some p ∧ (isAggT P e = some false → ∀ σ', (∀ b, blockOf v = some b → σ'.get b = σ.get b) → aLoad P e p σ' = some x) := by
  obtain ⟨hl, ⟨rfl, rfl⟩ | ⟨b, o, cap, ro, z, C, rfl, h1, h2, h3, h4, h5⟩⟩ := h
  · omega
  · refine ⟨.pointer (some ⟨b, o + i.toNat * 1, none⟩), ?_, fun ha σ' hσ => ?_⟩
    · simp only [aIndexAddr, hu, hs]
      rw [if_pos ⟨h0, hi⟩]
    · have hg := hσ b rfl
      rw [h2] at hg
      simp only [aLoad, ptrOf, ha, AH.cell, hg, Nat.mul_one]
      rw [h5, List.getElem?_take, List.getElem?_drop] at hx
      split at hx
      · exact hx
      · cases hx

/-- A slice of the function's own: what stands in it may be turned, and it may grow. -/
def Own (σ : AH) (B : Nat) (v : Value) (s n : Nat) (cs : List Value) : Prop :=
  cs.length = n * s ∧ ((v = .slice none 0 0 ∧ n = 0) ∨ ∃ b cap C, v = .slice (some ⟨b, 0, none⟩) n cap ∧ n ≤ cap ∧ B ≤ b ∧ σ.base ≤ b ∧ σ.get b = some (.cells false s C) ∧ cap * s ≤ C.length ∧ cs = C.take (n * s))
theorem Own.row {σ : AH} {B : Nat} {v : Value} {s n : Nat} {cs : List Value} (h : Own σ B v s n cs) : Row σ v s n cs := by
  obtain ⟨hl, h | ⟨b, cap, C, rfl, h1, h2, h3, h4, h5, h6⟩⟩ := h
  · exact ⟨hl, .inl h⟩
  · have : n * s ≤ cap * s := Nat.mul_le_mul_right _ h1
    exact ⟨hl, .inr ⟨b, 0, cap, false, s, C, rfl, h1, h4, .inr rfl, by omega, by simpa using h6⟩⟩
theorem Own.nil (σ : AH) (B s : Nat) : Own σ B (.slice none 0 0) s 0 [] := ⟨by simp, .inl ⟨rfl, rfl⟩⟩
theorem Own.le {σ : AH} {B : Nat} {v : Value} {s n : Nat} {cs : List Value} (h : Own σ B v s n cs) : ∀ b, blockOf v = some b → B ≤ b := by
  obtain ⟨hl, ⟨rfl, _⟩ | ⟨b, cap, C, rfl, h1, h2, h3⟩⟩ := h
  · intro b hb; cases hb
  · intro b' hb; cases hb; exact h2
theorem Own.mono {σ : AH} {B B' : Nat} {v : Value} {s n : Nat} {cs : List Value} (h : Own σ B v s n cs) (hB : B' ≤ B) : Own σ B' v s n cs := by
  obtain ⟨hl, h | ⟨b, cap, C, h0, h1, h2, h3⟩⟩ := h
  · exact ⟨hl, .inl h⟩
  · exact ⟨hl, .inr ⟨b, cap, C, h0, h1, by omega, h3⟩⟩
theorem Own.since {σ σ' : AH} {B B' : Nat} {v : Value} {s n : Nat} {cs : List Value} (h : Own σ B v s n cs) (k : Since B' σ σ') (hb : ∀ b, blockOf v = some b → b < B') : Own σ' B v s n cs := by
  obtain ⟨hl, h | ⟨b, cap, C, rfl, h1, h2, h3, h4, h5⟩⟩ := h
  · exact ⟨hl, .inl h⟩
  · exact ⟨hl, .inr ⟨b, cap, C, rfl, h1, h2, by rw [k.base]; exact h3, by rw [k.keep b (hb b rfl)]; exact h4, h5⟩⟩
theorem Own.lt {σ : AH} {B : Nat} {v : Value} {s n : Nat} {cs : List Value} (h : Own σ B v s n cs) : ∀ b, blockOf v = some b → b < σ.size := h.row.lt
theorem Own.keeps {σ σ' : AH} {B : Nat} {v : Value} {s n : Nat} {cs : List Value} (h : Own σ B v s n cs) (k : Since σ.size σ σ') : Own σ' B v s n cs := h.since k h.lt

/-- What an element's type is. -/
structure ElemT (P : Program) (e : TypeId) (s bytes : Nat) : Prop where
  info : (P.info? e).map (fun i => (i.size, i.bytes, i.zero.map (·.cells.size))) = some (s, bytes, some s)
  pos : s ≠ 0
  bpos : bytes ≠ 0
theorem ElemT.get {P : Program} {e : TypeId} {s bytes : Nat} (h : ElemT P e s bytes) : ∃ i, P.info? e = some i ∧ i.size = s ∧ i.bytes = bytes ∧ i.zero.map (·.cells.size) = some s := by
  have := h.info
  cases hi : P.info? e with
  | none => simp [hi] at this
  | some i => simp [hi] at this; exact ⟨i, rfl, this.1, this.2.1, by simpa using this.2.2⟩
theorem ElemT.sz {P : Program} {e : TypeId} {s bytes : Nat} (h : ElemT P e s bytes) : szOf P e = some s := by
  obtain ⟨i, h1, h2, _⟩ := h.get; simp [szOf, h1, h2]

theorem append_own {P : Program} {σ : AH} {B : Nat} {v x : Value} {s n m bytes : Nat} {cs ds : List Value} {st xt e xe : TypeId} (hB : B ≤ σ.size) (hbase : σ.base ≤ σ.size) (hv : Own σ B v s n cs) (hx : Row σ x s m ds) (hm : m ≠ 0) (hu : P.underlying st = some (.slice e)) (hxu : P.underlying xt = some (.slice xe))
    (hE : ElemT P e s bytes) (hc : ds.all isCell = true) (hsmall : (n + m) * bytes ≤ 2 ^ 34) : ∃ v' σ', aAppend P st xt v x σ = some (v', σ') ∧ Own σ' B v' s (n + m) (cs ++ ds) ∧ Since B σ σ' ∧ (∀ b, b < σ.size → blockOf v ≠ some b → σ'.get b = σ.get b) ∧ (blockOf v' = blockOf v ∨ blockOf v' = some σ.size) := by
  obtain ⟨i, hi, hi1, hi2, hi3⟩ := hE.get
  have hsp := hE.pos
  have hbp := hE.bpos
  have hxl : ∃ a cap, x = .slice a m cap := by obtain ⟨a, cap, h, _⟩ := hx.isSlice; exact ⟨a, cap, h⟩
  have hfirst : firstC σ s m x = some ds := by
    obtain ⟨hl, ⟨rfl, rfl⟩ | ⟨b, o, cap, ro, z, C, rfl, h1, h2, h3, h4, h5⟩⟩ := hx
    · exact absurd rfl hm
    · simp [firstC, AH.row, h2, h4, h5]
  obtain ⟨xa, xcap, hxs⟩ := hxl
  have hlen : lenV x = some m := by rw [hxs]; rfl
  have hnb : ¬ (s = 0 ∨ bytes = 0 ∨ 2 ^ 34 < (n + m) * bytes ∨ i.zero.map (·.cells.size) ≠ some s) := by
    simp only [not_or]; exact ⟨hsp, hbp, by omega, by simpa using hi3⟩
  have hdl := hx.1
  obtain ⟨hl, ⟨rfl, rfl⟩ | ⟨b, cap, C, rfl, h1, h2, h3, h4, h5, h6⟩⟩ := hv
  · obtain rfl : cs = [] := List.eq_nil_of_length_eq_zero (by simpa using hl)
    refine ⟨.slice (some ⟨σ.size, 0, none⟩) m m, σ.push (.cells false s ds), ?_, ⟨by simp [hdl], .inr ⟨σ.size, m, ds, by simp, by omega, hB, hbase, by rw [AH.get_push, if_pos rfl], by omega, ?_⟩⟩, .push hB _, fun b hb _ => by rw [AH.get_push, if_neg (by omega)], .inr rfl⟩
    · simp only [Nat.zero_add] at hnb
      simp only [aAppend, hu, hxu, hlen, if_neg hm, hi, hi1, hi2, Nat.zero_add, if_neg hnb, hfirst, hc]
      simp
    · simp [← hdl]
  · by_cases hroom : n + m ≤ cap
    · have hmul : (n + m) * s ≤ cap * s := Nat.mul_le_mul_right _ hroom
      have hset : σ.setRow b (0 + n * s) ds = some (σ.put b (.cells false s (spliceAt C (0 + n * s) ds))) := by
        simp only [AH.setRow, h4]
        rw [if_pos ⟨h3, by rw [hdl, Nat.zero_add, ← Nat.add_mul]; omega⟩]
      refine ⟨.slice (some ⟨b, 0, none⟩) (n + m) cap, σ.put b (.cells false s (spliceAt C (0 + n * s) ds)), ?_, ⟨by simp [hl, hdl, Nat.add_mul], .inr ⟨b, cap, spliceAt C (0 + n * s) ds, rfl, hroom, h2, h3, by rw [AH.get_put (AH.get_lt h4), if_pos rfl], ?_, ?_⟩⟩, .put h2 _, fun b' hb' hne => by rw [AH.get_put (AH.get_lt h4), if_neg (fun h => hne (by rw [h]; rfl))], .inl rfl⟩
      · simp only [aAppend, hu, hxu, hlen, if_neg hm, hi, hi1, hi2, if_neg hnb, hfirst, hc, if_pos hroom, hset]
        simp
      · rw [Nat.add_mul] at hmul
        simp [spliceAt, hdl]; omega
      · rw [Nat.add_mul] at hmul
        simp only [spliceAt, Nat.zero_add]
        rw [Nat.add_mul, ← hdl, List.append_assoc, h6]
        have e1 : (C.take (n * s)).length = n * s := by simp; omega
        rw [show (n * s + ds.length : Nat) = (C.take (n * s)).length + ds.length by rw [e1], List.take_length_add_append, List.take_left]
    · have hcl : 0 + n * s ≤ C.length := by have : n * s ≤ cap * s := Nat.mul_le_mul_right _ h1; omega
      refine ⟨.slice (some ⟨σ.size, 0, none⟩) (n + m) (n + m), (σ.put b .dead).push (.cells false s ((C.drop 0).take (n * s) ++ ds)), ?_, ⟨by simp [hl, hdl, Nat.add_mul], .inr ⟨σ.size, n + m, (C.drop 0).take (n * s) ++ ds, rfl, by omega, hB, hbase, ?_, ?_, ?_⟩⟩, (Since.put h2 .dead).trans (.push (by rw [AH.size_put]; exact hB) _), fun b' hb' hne => by rw [AH.get_push, AH.size_put, if_neg (by omega), AH.get_put (AH.get_lt h4), if_neg (fun h => hne (by rw [h]; rfl))], .inr rfl⟩
      · simp only [aAppend, hu, hxu, hlen, if_neg hm, hi, hi1, hi2, if_neg hnb, hfirst, hc, if_neg hroom, h4]
        simp only [Bool.true_eq_false, if_false]
        rw [if_pos ⟨h3, hcl, by simp⟩]
      · rw [AH.get_push, AH.size_put, if_pos rfl]
      · rw [List.drop_zero, ← h6]; simp [hl, hdl, Nat.add_mul]
      · rw [List.drop_zero, ← h6, Nat.add_mul, ← hl, ← hdl]; exact (List.take_of_length_le (by simp)).symm

/-- A slice literal of one element. -/
theorem build_one {P : Program} {σ : AH} {t e : TypeId} {s bytes : Nat} {x z : Value} (hu : P.underlying t = some (.slice e)) (hE : ElemT P e s bytes) (hz : zeroOf P e = some z) (hx : (cellsOfV x).length = s) (hf : isTuple x = false) (hs : s ≤ 2 ^ 24) :
    aBuildSlice P t 1 [(0, x)] σ = some (.slice (some ⟨σ.size, 0, none⟩) 1 1, σ.push (.cells false s (cellsOfV x))) := by
  obtain ⟨i, hi, hi1, hi2, hi3⟩ := hE.get
  obtain ⟨i', hi', hz', _⟩ := zeroOf_some hz
  rw [hi] at hi'; obtain rfl := Option.some.inj hi'
  have hzs : z.cells.size = s := by rw [hz'] at hi3; simpa using hi3
  have hxs : x.cells.size = s := by simpa [cellsOfV] using hx
  have hpos := hE.pos
  have hfill : Instr.fill (fun i => some (i * s, s)) (rep z.cells.toList 1).toArray [(0, x)] = some x.cells := by
    simp only [Instr.fill, rep, List.append_nil, Nat.zero_mul, Nat.zero_add]
    rw [if_neg (by simp [hxs, hzs])]
    congr 1
    apply Array.ext'
    apply List.ext_getElem?
    intro j
    have key : ∀ (l : List Value) (k : Nat) (C : Array Value), k + l.length ≤ C.size → ((l.zipIdx k).foldl (fun cs x => cs.setIfInBounds x.2 x.1) C).toList = C.toList.take k ++ l ++ C.toList.drop (k + l.length) := by
      intro l
      induction l with
      | nil => intro k C _; simp
      | cons y l ih =>
        intro k C hk
        simp only [List.zipIdx_cons, List.foldl_cons]
        rw [ih (k + 1) _ (by simpa [Nat.add_assoc, Nat.add_comm 1] using hk)]
        simp only [Array.toList_setIfInBounds]
        simp only [List.length_cons] at hk
        have hkl : k < C.toList.length := by simp; omega
        rw [List.take_set, List.drop_set, if_pos (by omega), List.length_cons, show k + (l.length + 1) = k + 1 + l.length by omega]
        congr 1
        rw [List.take_succ_eq_append_getElem hkl, List.set_append_right _ _ (by simp; omega)]
        simp [show min k C.size = k by omega]
    have h0 := key x.cells.toList 0 (z.cells.toList ++ []).toArray (by simp [hxs, hzs])
    simp only [List.append_nil] at h0
    rw [← Array.foldl_toList, Array.toList_zipIdx]
    rw [h0, List.drop_eq_nil_of_le (by simp [hxs, hzs])]
    simp
  simp only [aBuildSlice, List.all_cons, hf, Bool.not_false, List.all_nil, Bool.and_true, Bool.true_eq_false, if_false, hu, hE.sz, hz]
  rw [if_pos ⟨by omega, hzs, by omega⟩, hfill]
  rfl
theorem row_new {σ : AH} {s n : Nat} {cs : List Value} (h : cs.length = n * s) : Row (σ.push (.cells false s cs)) (.slice (some ⟨σ.size, 0, none⟩) n n) s n cs :=
  ⟨h, .inr ⟨σ.size, 0, n, false, s, cs, rfl, Nat.le_refl _, by rw [AH.get_push, if_pos rfl], .inr rfl, by omega, by simp [← h]⟩⟩
theorem own_new {σ : AH} {B s n : Nat} {cs : List Value} (hB : B ≤ σ.size) (hb : σ.base ≤ σ.size) (h : cs.length = n * s) : Own (σ.push (.cells false s cs)) B (.slice (some ⟨σ.size, 0, none⟩) n n) s n cs :=
  ⟨h, .inr ⟨σ.size, n, cs, rfl, Nat.le_refl _, hB, hb, by rw [AH.get_push, if_pos rfl], by omega, by simp [← h]⟩⟩
/-- A store into a slice of one's own. -/
theorem store_own {P : Program} {σ : AH} {B : Nat} {v x : Value} {n : Nat} {cs : List Value} (h : Own σ B v 1 n cs) {t e : TypeId} (hu : P.underlying t = some (.slice e)) (hs : szOf P e = some 1) {i : Int} {k : IntKind} (h0 : 0 ≤ i) (hi : i < n) (hx : isCell x = true) (hcx : x.cells = #[x]) :
    ∃ p, aIndexAddr P t v (.int k i) = some p ∧ ∃ σ', aStore P e p x σ = some σ' ∧ Own σ' B v 1 n (cs.set i.toNat x) ∧ Since B σ σ' ∧ (∀ b, blockOf v ≠ some b → σ'.get b = σ.get b) := by
  obtain ⟨hl, ⟨rfl, rfl⟩ | ⟨b, cap, C, rfl, h1, h2, h3, h4, h5, h6⟩⟩ := h
  · omega
  · have hit : isTuple x = false := by cases x <;> simp_all [isCell, isTuple]
    refine ⟨.pointer (some ⟨b, 0 + i.toNat * 1, none⟩), ?_, σ.put b (.cells false 1 (spliceAt C (0 + i.toNat * 1) [x])), ?_, ⟨by simpa using hl, .inr ⟨b, cap, _, rfl, h1, h2, h3, by rw [AH.get_put (AH.get_lt h4), if_pos rfl], ?_, ?_⟩⟩, .put h2 _, fun b' hb' => ?_⟩
    · simp only [aIndexAddr, hu, hs]; rw [if_pos ⟨h0, hi⟩]
    · have hcv : cellsOfV x = [x] := by simp [cellsOfV, hcx]
      simp only [aStore, ptrOf, hs, hit, hcv, List.length_singleton, List.all_cons, hx, List.all_nil, Bool.and_true, and_self, if_true, AH.setRow, h4]
      rw [if_pos ⟨h3, by omega⟩]
    · simp [spliceAt]; omega
    · simp only [spliceAt, Nat.mul_one, Nat.zero_add, List.length_singleton]
      have hiC : i.toNat < C.length := by omega
      have e : C.take i.toNat ++ [x] ++ C.drop (i.toNat + 1) = C.set i.toNat x := by
        rw [List.set_eq_take_append_cons_drop, if_pos hiC]; simp
      rw [e, h6, Nat.mul_one, List.take_set]
    · rw [AH.get_put (AH.get_lt h4), if_neg]
      rintro rfl; exact hb' rfl
end Go.Ab
