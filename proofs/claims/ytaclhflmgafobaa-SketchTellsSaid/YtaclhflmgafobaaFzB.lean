/- How the interpreter's heap stands to the machine's: the relations, without conditions. -/
import Derived.Test.YtaclhflmgafobaaFzA
import Derived.Laws.CopyRow
import Derived.WalkKit
namespace Go.Ab
open Go

/-- Where a block stands: the machine's block, and the place in it; and of the machine's blocks: the cells of an element, and how many cells there are. -/
structure Ren where
  pos : Nat → Option (Nat × Nat)
  lim : Nat → Nat × Nat
  still : Nat → Nat → Option Value
instance : CoeFun Ren fun _ => Nat → Option (Nat × Nat) := ⟨Ren.pos⟩

inductive VRel (φ : Ren) : Value → Value → Prop
  | erased (v : Value) : VRel φ (.tuple #[.nilFunc]) v
  | prim {v : Value} (h : prim v = true) : VRel φ v v
  | ptr {b o c d : Nat} (h : φ b = some (c, d)) : VRel φ (.pointer (some ⟨b, o, none⟩)) (.pointer (some ⟨c, d + o, none⟩))
  | slice {b o c d n k k' : Nat} (h : φ b = some (c, d)) (h1 : k ≤ k') (h2 : k = k' ∨ ((φ.lim c).1 ≠ 0 ∧ d + o + k' * (φ.lim c).1 ≤ (φ.lim c).2)) : VRel φ (.slice (some ⟨b, o, none⟩) n k) (.slice (some ⟨c, d + o, none⟩) n k')
  | slice0 {b o c d o' k' : Nat} (h : φ b = some (c, d)) (h2 : k' = 0 ∨ ((φ.lim c).1 ≠ 0 ∧ o' + k' * (φ.lim c).1 ≤ (φ.lim c).2)) : VRel φ (.slice (some ⟨b, o, none⟩) 0 0) (.slice (some ⟨c, o', none⟩) 0 k')
  | map {b c : Nat} (h : φ b = some (c, 0)) : VRel φ (.map (some b)) (.map (some c))
  | func {fn : FuncId} {a a' c c' : Array Value} (hn : a.size = a'.size) (h : ∀ (i : Nat) (v v' : Value), a[i]? = some v → a'[i]? = some v' → VRel φ v v')
      (hm : c.size = c'.size) (h' : ∀ (i : Nat) (v v' : Value), c[i]? = some v → c'[i]? = some v' → VRel φ v v') : VRel φ (.func (.func fn) a c) (.func (.func fn) a' c')
  | fz {c o n k' : Nat} {cs : Array Value} {us : Nat → Value} (hn : n ≤ k') (h0 : ∀ i, i < cs.size → φ.still c (o + i) = some (us i)) (h : ∀ (i : Nat) (v : Value), cs[i]? = some v → VRel φ v (us i)) : VRel φ (.func (.yield n) #[] cs) (.slice (some ⟨c, o, none⟩) n k')
  | fz0 {a : Option Addr} {k' : Nat} : VRel φ (.func (.yield 0) #[] #[]) (.slice a 0 k')
  | emp {c o : Nat} {ms : Array Value} (hm : ms.size = 1) : VRel φ (.func (.yield 0) ms #[]) (.slice (some ⟨c, o, none⟩) 0 0)
  | pfz {c o : Nat} {m : String} {ms cs : Array Value} {us : Nat → Value} (h0 : ∀ i, i < cs.size → φ.still c (o + i) = some (us i)) (h : ∀ (i : Nat) (v : Value), cs[i]? = some v → VRel φ v (us i)) : VRel φ (.func (.method m) ms cs) (.pointer (some ⟨c, o, none⟩))
  | iface {t : TypeId} {v v' : Value} (h : VRel φ v v') : VRel φ (.iface t v) (.iface t v')
  | agg {a a' : Array Value} (hn : a.size = a'.size) (h : ∀ (i : Nat) (v v' : Value), a[i]? = some v → a'[i]? = some v' → VRel φ v v') : VRel φ (.agg a) (.agg a')
  | tuple {a a' : Array Value} (hn : a.size = a'.size) (h : ∀ (i : Nat) (v v' : Value), a[i]? = some v → a'[i]? = some v' → VRel φ v v') : VRel φ (.tuple a) (.tuple a')

def LRel (φ : Ren) (xs ys : List Value) : Prop := xs.length = ys.length ∧ ∀ (i : Nat) (v v' : Value), xs[i]? = some v → ys[i]? = some v' → VRel φ v v'

def Ren.le (φ φ' : Ren) : Prop := (∀ b c, φ b = some c → φ' b = some c ∧ φ'.lim c.1 = φ.lim c.1) ∧ ∀ c i u, φ.still c i = some u → φ'.still c i = some u
theorem Ren.le.refl (φ : Ren) : φ.le φ := ⟨fun _ _ h => ⟨h, rfl⟩, fun _ _ _ h => h⟩
theorem Ren.le.trans {φ φ' φ'' : Ren} (h : φ.le φ') (h' : φ'.le φ'') : φ.le φ'' := ⟨fun b c e =>
  let ⟨a, b'⟩ := h.1 b c e
  let ⟨a', b''⟩ := h'.1 b c a
  ⟨a', b''.trans b'⟩, fun c i u e => h'.2 c i u (h.2 c i u e)⟩

theorem VRel.mono {φ φ' : Ren} (hle : φ.le φ') {v v' : Value} (h : VRel φ v v') : VRel φ' v v' := by
  induction h with
  | erased v => exact .erased v
  | prim h => exact .prim h
  | ptr h => exact .ptr (hle.1 _ _ h).1
  | slice h h1 h2 => exact .slice (hle.1 _ _ h).1 h1 (by rw [(hle.1 _ _ h).2]; exact h2)
  | slice0 h h2 => exact .slice0 (hle.1 _ _ h).1 (by rw [(hle.1 _ _ h).2]; exact h2)
  | map h => exact .map (hle.1 _ _ h).1
  | func hn _ hm _ ih ih' => exact .func hn ih hm ih'
  | fz hn h0 _ ih => exact .fz hn (fun i hi => hle.2 _ _ _ (h0 i hi)) ih
  | fz0 => exact .fz0
  | emp hm => exact .emp hm
  | pfz h0 _ ih => exact .pfz (fun i hi => hle.2 _ _ _ (h0 i hi)) ih
  | iface _ ih => exact .iface ih
  | agg hn _ ih => exact .agg hn ih
  | tuple hn _ ih => exact .tuple hn ih

theorem LRel.mono {φ φ' : Ren} (hle : φ.le φ') {xs ys : List Value} (h : LRel φ xs ys) : LRel φ' xs ys :=
  ⟨h.1, fun i v v' e e' => (h.2 i v v' e e').mono hle⟩
theorem LRel.nil (φ : Ren) : LRel φ [] [] := ⟨rfl, fun i v v' h => by simp at h⟩
theorem LRel.cons {φ : Ren} {x y : Value} {xs ys : List Value} (h : VRel φ x y) (hs : LRel φ xs ys) : LRel φ (x :: xs) (y :: ys) :=
  ⟨by simp [hs.1], fun i v v' e e' => by
    cases i with
    | zero => simp at e e'; subst e; subst e'; exact h
    | succ i => simp at e e'; exact hs.2 i v v' e e'⟩
theorem LRel.append {φ : Ren} {xs ys us vs : List Value} (h : LRel φ xs ys) (h' : LRel φ us vs) : LRel φ (xs ++ us) (ys ++ vs) :=
  ⟨by simp [h.1, h'.1], fun i v v' e e' => by
    rw [List.getElem?_append] at e e'
    rw [← h.1] at e'
    split at e
    · rename_i hi; rw [if_pos hi] at e'; exact h.2 i v v' e e'
    · rename_i hi; rw [if_neg hi] at e'; exact h'.2 _ v v' e e'⟩
theorem LRel.drop {φ : Ren} {xs ys : List Value} (h : LRel φ xs ys) (n : Nat) : LRel φ (xs.drop n) (ys.drop n) :=
  ⟨by simp [h.1], fun i v v' e e' => by rw [List.getElem?_drop] at e e'; exact h.2 _ v v' e e'⟩
theorem LRel.take {φ : Ren} {xs ys : List Value} (h : LRel φ xs ys) (n : Nat) : LRel φ (xs.take n) (ys.take n) :=
  ⟨by simp [h.1], fun i v v' e e' => by
    rw [List.getElem?_take] at e e'
    split at e
    · rename_i hi; rw [if_pos hi] at e'; exact h.2 _ v v' e e'
    · simp at e⟩
theorem LRel.get {φ : Ren} {xs ys : List Value} (h : LRel φ xs ys) {i : Nat} {v : Value} (hv : xs[i]? = some v) : ∃ v', ys[i]? = some v' ∧ VRel φ v v' := by
  have hi : i < xs.length := (List.getElem?_eq_some_iff.1 hv).1
  have hi' : i < ys.length := h.1 ▸ hi
  exact ⟨ys[i], by simp [hi'], h.2 i v _ hv (by simp [hi'])⟩
theorem LRel.get' {φ : Ren} {xs ys : List Value} (h : LRel φ xs ys) (i : Nat) : (xs[i]? = none ∧ ys[i]? = none) ∨ ∃ v v', xs[i]? = some v ∧ ys[i]? = some v' ∧ VRel φ v v' := by
  cases hv : xs[i]? with
  | none => left; exact ⟨rfl, by rw [List.getElem?_eq_none_iff] at hv ⊢; have := h.1; omega⟩
  | some v => right; obtain ⟨v', e, r⟩ := h.get hv; exact ⟨v, v', rfl, e, r⟩

theorem VRel.of_agg {φ : Ren} {a : Array Value} {v' : Value} (h : VRel φ (.agg a) v') : ∃ a', v' = .agg a' ∧ LRel φ a.toList a'.toList := by
  cases h with
  | prim h => simp [Ab.prim] at h
  | agg hn h => exact ⟨_, rfl, by simpa using hn, fun i v v' e e' => h i v v' (by simpa using e) (by simpa using e')⟩
theorem VRel.of_tuple {φ : Ren} {a : Array Value} {v' : Value} (h : VRel φ (.tuple a) v') (hne : a ≠ #[.nilFunc]) : ∃ a', v' = .tuple a' ∧ LRel φ a.toList a'.toList := by
  cases h with
  | erased => exact absurd rfl hne
  | prim h => simp [Ab.prim] at h
  | tuple hn h => exact ⟨_, rfl, by simpa using hn, fun i v v' e e' => h i v v' (by simpa using e) (by simpa using e')⟩
theorem VRel.agg_of {φ : Ren} {xs ys : List Value} (h : LRel φ xs ys) : VRel φ (.agg xs.toArray) (.agg ys.toArray) :=
  .agg (by simpa using h.1) fun i v v' e e' => h.2 i v v' (by simpa using e) (by simpa using e')
theorem VRel.agg_of' {φ : Ren} {xs ys : Array Value} (h : LRel φ xs.toList ys.toList) : VRel φ (.agg xs) (.agg ys) :=
  .agg (by simpa using h.1) fun i v v' e e' => h.2 i v v' (by simpa using e) (by simpa using e')
theorem VRel.tuple_of {φ : Ren} {xs ys : List Value} (h : LRel φ xs ys) : VRel φ (.tuple xs.toArray) (.tuple ys.toArray) :=
  .tuple (by simpa using h.1) fun i v v' e e' => h.2 i v v' (by simpa using e) (by simpa using e')
theorem VRel.undef (φ : Ren) : VRel φ undef undef := VRel.tuple_of (LRel.nil φ)

theorem VRel.of_int {φ : Ren} {k : IntKind} {n : Int} {v' : Value} (h : VRel φ (.int k n) v') : v' = .int k n := by cases h; rfl
theorem VRel.of_bool {φ : Ren} {b : Bool} {v' : Value} (h : VRel φ (.bool b) v') : v' = .bool b := by cases h; rfl
theorem VRel.of_string {φ : Ren} {b : ByteArray} {v' : Value} (h : VRel φ (.string b) v') : v' = .string b := by cases h; rfl
theorem VRel.of_nilFunc {φ : Ren} {v' : Value} (h : VRel φ .nilFunc v') : v' = .nilFunc := by cases h; rfl
theorem VRel.of_nilIface {φ : Ren} {v' : Value} (h : VRel φ .nilIface v') : v' = .nilIface := by cases h; rfl
theorem VRel.of_nilMap {φ : Ren} {v' : Value} (h : VRel φ (.map none) v') : v' = .map none := by cases h; rfl
theorem VRel.of_nilPtr {φ : Ren} {v' : Value} (h : VRel φ (.pointer none) v') : v' = .pointer none := by cases h; rfl
theorem VRel.of_nilSlice {φ : Ren} {n k : Nat} {v' : Value} (h : VRel φ (.slice none n k) v') : v' = .slice none 0 0 ∧ n = 0 ∧ k = 0 := by
  cases h with
  | prim h => cases n <;> cases k <;> simp [Ab.prim] at h; exact ⟨rfl, rfl, rfl⟩
theorem VRel.of_ptr {φ : Ren} {a : Addr} {v' : Value} (h : VRel φ (.pointer (some a)) v') : ∃ c d, a.spot = none ∧ φ a.block = some (c, d) ∧ v' = .pointer (some ⟨c, d + a.off, none⟩) := by
  cases h with
  | prim h => simp [Ab.prim] at h
  | ptr h => exact ⟨_, _, rfl, h, rfl⟩
theorem VRel.of_slice {φ : Ren} {a : Addr} {n k : Nat} {v' : Value} (h : VRel φ (.slice (some a) n k) v') :
    ∃ c d o' k', a.spot = none ∧ φ a.block = some (c, d) ∧ v' = .slice (some ⟨c, o', none⟩) n k' ∧ k ≤ k' ∧ ((n = 0 ∧ k = 0) ∨ o' = d + a.off) ∧ (k = k' ∨ ((φ.lim c).1 ≠ 0 ∧ o' + k' * (φ.lim c).1 ≤ (φ.lim c).2)) := by
  cases h with
  | prim h => simp [Ab.prim] at h
  | slice h h1 h2 => exact ⟨_, _, _, _, rfl, h, rfl, h1, .inr rfl, h2⟩
  | slice0 h h2 => exact ⟨_, _, _, _, rfl, h, rfl, Nat.zero_le _, .inl ⟨rfl, rfl⟩, h2.imp (fun e => e.symm) id⟩
theorem VRel.of_map {φ : Ren} {b : Nat} {v' : Value} (h : VRel φ (.map (some b)) v') : ∃ c, φ b = some (c, 0) ∧ v' = .map (some c) := by
  cases h with
  | prim h => simp [Ab.prim] at h
  | map h => exact ⟨_, h, rfl⟩
theorem VRel.of_fz {φ : Ren} {n : Nat} {ms cs : Array Value} {v' : Value} (h : VRel φ (.func (.yield n) ms cs) v') : (∃ (c o k' : Nat) (us : Nat → Value), v' = .slice (some ⟨c, o, none⟩) n k' ∧ n ≤ k' ∧ (∀ i, i < cs.size → φ.still c (o + i) = some (us i)) ∧ ∀ (i : Nat) (v : Value), cs[i]? = some v → VRel φ v (us i)) ∨ ((∃ a k', v' = .slice a 0 k') ∧ n = 0 ∧ cs = #[]) := by
  cases h with
  | prim h => simp [Ab.prim] at h
  | fz hn h0 h => exact .inl ⟨_, _, _, _, rfl, hn, h0, h⟩
  | fz0 => exact .inr ⟨⟨_, _, rfl⟩, rfl, rfl⟩
  | emp hm => exact .inl ⟨_, _, _, fun _ => Go.undef, rfl, Nat.le_refl _, fun i hi => by simp at hi, fun i v hv => by simp at hv⟩
theorem VRel.of_emp {φ : Ren} {v v' : Value} (h : VRel φ v v') (he : isEmp v = true) : ∃ c o, v' = .slice (some ⟨c, o, none⟩) 0 0 := by
  cases h with
  | fz => simp [isEmp] at he
  | fz0 => simp [isEmp] at he
  | emp hm => exact ⟨_, _, rfl⟩
  | prim h => cases v <;> simp_all [Ab.prim, isEmp]
  | _ => simp [isEmp] at he
theorem VRel.of_pfz {φ : Ren} {m : String} {ms cs : Array Value} {v' : Value} (h : VRel φ (.func (.method m) ms cs) v') : ∃ (c o : Nat) (us : Nat → Value), v' = .pointer (some ⟨c, o, none⟩) ∧ (∀ i, i < cs.size → φ.still c (o + i) = some (us i)) ∧ ∀ (i : Nat) (v : Value), cs[i]? = some v → VRel φ v (us i) := by
  cases h with
  | prim h => simp [Ab.prim] at h
  | pfz h0 h => exact ⟨_, _, _, rfl, h0, h⟩
theorem VRel.of_func {φ : Ren} {fn : FuncId} {a c : Array Value} {v' : Value} (h : VRel φ (.func (.func fn) a c) v') : ∃ a' c', v' = .func (.func fn) a' c' ∧ LRel φ a.toList a'.toList ∧ LRel φ c.toList c'.toList := by
  cases h with
  | prim h => simp [Ab.prim] at h
  | func hn h hm h' => exact ⟨_, _, rfl, ⟨by simpa using hn, fun i v v' e e' => h i v v' (by simpa using e) (by simpa using e')⟩, by simpa using hm, fun i v v' e e' => h' i v v' (by simpa using e) (by simpa using e')⟩
theorem VRel.of_iface {φ : Ren} {t : TypeId} {v v' : Value} (h : VRel φ (.iface t v) v') : ∃ u, v' = .iface t u ∧ VRel φ v u := by
  cases h with
  | prim h => simp [Ab.prim] at h
  | iface h => exact ⟨_, rfl, h⟩

theorem VRel.cells {φ : Ren} {v v' : Value} (h : VRel φ v v') (hnt : isTuple v = false) : LRel φ (cellsOfV v) v'.cells.toList := by
  cases h with
  | erased => simp [isTuple] at hnt
  | tuple => simp [isTuple] at hnt
  | agg hn h => exact ⟨by simpa [cellsOfV, Value.cells] using hn, fun i v v' e e' => h i v v' (by simpa [cellsOfV, Value.cells] using e) (by simpa [Value.cells] using e')⟩
  | prim h => cases v <;> first | (simp [Ab.prim] at h; done) | exact LRel.cons (.prim h) (LRel.nil φ)
  | ptr h => exact LRel.cons (.ptr h) (LRel.nil φ)
  | slice h h1 h2 => exact LRel.cons (.slice h h1 h2) (LRel.nil φ)
  | slice0 h h2 => exact LRel.cons (.slice0 h h2) (LRel.nil φ)
  | map h => exact LRel.cons (.map h) (LRel.nil φ)
  | func hn h hm h' => exact LRel.cons (.func hn h hm h') (LRel.nil φ)
  | fz hn h0 h => exact LRel.cons (.fz hn h0 h) (LRel.nil φ)
  | fz0 => exact LRel.cons .fz0 (LRel.nil φ)
  | emp hm => exact LRel.cons (.emp hm) (LRel.nil φ)
  | pfz h0 h => exact LRel.cons (.pfz h0 h) (LRel.nil φ)
  | iface h => exact LRel.cons (.iface h) (LRel.nil φ)
theorem VRel.oneCell {φ : Ren} {v v' : Value} (h : VRel φ v v') (hnt : isCell v = true) : v'.oneCell' = true := by
  cases h with
  | erased => simp [isCell] at hnt
  | tuple => simp [isCell] at hnt
  | agg hn h => simp [isCell] at hnt
  | prim h => cases v <;> first | (simp [Ab.prim] at h; done) | rfl
  | ptr h => rfl
  | slice h h1 h2 => rfl
  | slice0 h h2 => rfl
  | map h => rfl
  | func hn h hm h' => rfl
  | fz hn h0 h => rfl
  | fz0 => rfl
  | emp hm => rfl
  | pfz h0 h => rfl
  | iface h => rfl
theorem closed_rel {φ : Ren} {v : Value} (h : closedV v = true) : VRel φ v v := by
  cases v with
  | agg cs =>
    refine .agg rfl fun i u u' e e' => ?_
    rw [e] at e'
    obtain rfl := Option.some.inj e'
    simp [closedV] at h
    have hi := (Array.getElem?_eq_some_iff.1 e)
    obtain ⟨hi, rfl⟩ := hi
    exact .prim (h i hi)
  | tuple cs =>
    have : cs = #[] := by simpa [closedV] using h
    subst this
    exact VRel.undef φ
  | _ => exact .prim h
theorem opv_rel {φ : Ren} {t : Tmps} {a : Act} (ht : ∀ j, VRel φ (t j) (a.tmps.getD j undef)) (x : Operand) : VRel φ (opv t x) (a.eval x) := by
  cases x with
  | tmp j => exact ht j
  | const v =>
    show VRel φ (if closedV v then v else erased) v
    split
    · rename_i h; exact closed_rel h
    · exact .erased _
  | global g => exact .erased _
  | func f => exact .func rfl (by simp) rfl (by simp)

/-! ### heaps -/
def ORel (φ : Ren) (w : World) (c d : Nat) : AObj → Prop
  | .cells ro z cs => ∃ C e fr, w.heap[c]? = some (.cells C e fr) ∧ (ro = false → fr = (0, 0)) ∧ (z = (φ.lim c).1 ∧ (z ≠ 0 → C.size = (φ.lim c).2)) ∧ ∀ (i : Nat) (v : Value), cs[i]? = some v → ∃ v', C[d + i]? = some v' ∧ VRel φ v v'
  | .map es k => ∃ E, d = 0 ∧ w.heap[c]? = some (.map E k) ∧ E.size = es.length ∧ ∀ (i : Nat) (x : Value × Value × Nat) (e : MapEntry), es[i]? = some x → E[i]? = some e → e.born = x.2.2 ∧ VRel φ x.1 e.key ∧ VRel φ x.2.1 e.val ∧ prim x.1 = true
  | .dead => True

def AObj.isRo : AObj → Bool
  | .cells true _ _ => true
  | _ => false
def AObj.live : AObj → Bool
  | .dead => false
  | _ => true
def AObj.wr : AObj → Bool
  | .cells false _ _ | .map _ _ => true
  | _ => false

/-- The block may be written. -/
def AH.wr (σ : AH) (b : Nat) : Prop := σ.base ≤ b ∧ ∃ o, σ.get b = some o ∧ o.wr = true

structure StRel (φ : Ren) (σ : AH) (w : World) : Prop where
  inr : ∀ b c d, φ b = some (c, d) → c < w.heap.size
  obj : ∀ b c d o, φ b = some (c, d) → σ.get b = some o → ORel φ w c d o
  inj : ∀ b b' c d d' o o', φ b = some (c, d) → φ b' = some (c, d') → σ.get b = some o → σ.get b' = some o' → o.live = true → o'.live = true → b ≠ b' → o.isRo = true ∧ o'.isRo = true
  still : ∀ c i u, φ.still c i = some u → ∃ C e fr, w.heap[c]? = some (.cells C e fr) ∧ C[i]? = some u
  apart : ∀ b c d o, φ b = some (c, d) → σ.get b = some o → o.wr = true → ∀ i, φ.still c i = none

structure Ext (φ : Ren) (σ : AH) (w : World) (φ' : Ren) (σ' : AH) (w' : World) : Prop where
  os : w'.os = w.os
  tape : w'.tape = w.tape
  output : w'.output = w.output
  drawn : w.drawn ≤ w'.drawn
  hsize : w.heap.size ≤ w'.heap.size
  le : φ.le φ'
  base : σ'.base = σ.base
  asize : σ.size ≤ σ'.size
  fresh : ∀ b c d, φ b = none → φ' b = some (c, d) → σ.size ≤ b ∧ b < σ'.size ∧ (w.heap.size ≤ c ∨ ∃ b0 d0, φ b0 = some (c, d0) ∧ σ.wr b0)
  frameC : ∀ c, c < w.heap.size → (∀ b d, φ b = some (c, d) → ¬ σ.wr b) → w'.heap[c]? = w.heap[c]?
  frameA : ∀ b, b < σ.size → (φ b = none ∨ ¬ σ.wr b) → σ'.get b = σ.get b
  stay : ∀ b, b < σ.size → σ'.wr b → σ.wr b
  free : ∀ b, σ.size ≤ b → b < σ'.size → φ b = none
  stills : ∀ c i u, φ'.still c i = some u → φ.still c i = some u ∨ w.heap.size ≤ c ∨ ∃ b0 d0, φ b0 = some (c, d0) ∧ σ.wr b0

theorem AH.get_lt {σ : AH} {b : Nat} {o : AObj} (h : σ.get b = some o) : b < σ.size := (List.getElem?_eq_some_iff.1 h).1
theorem AH.get_ge {σ : AH} {b : Nat} (h : σ.size ≤ b) : σ.get b = none := List.getElem?_eq_none h
theorem AH.get_push {σ : AH} {o : AObj} {b : Nat} : (σ.push o).get b = if b = σ.size then some o else σ.get b := by
  show (σ.bs ++ [o])[b]? = if b = σ.size then some o else σ.get b
  rw [List.getElem?_append]
  by_cases h : b < σ.bs.length
  · rw [if_pos h, if_neg (by unfold AH.size; omega)]; rfl
  · rw [if_neg h]
    by_cases h' : b = σ.size
    · rw [if_pos h']; unfold AH.size at h'; subst h'; simp
    · rw [if_neg h', AH.get_ge (by unfold AH.size; omega)]
      exact List.getElem?_eq_none (by unfold AH.size at h'; simp; omega)
theorem AH.size_push {σ : AH} {o : AObj} : (σ.push o).size = σ.size + 1 := by simp [AH.size, AH.push]
theorem AH.size_put {σ : AH} {o : AObj} {b : Nat} : (σ.put b o).size = σ.size := by simp [AH.size, AH.put]
theorem AH.get_put {σ : AH} {o : AObj} {b j : Nat} (hb : b < σ.size) : (σ.put b o).get j = if j = b then some o else σ.get j := by
  show (σ.bs.set b o)[j]? = if j = b then some o else σ.get j
  rw [List.getElem?_set]
  by_cases h : b = j
  · subst h; simp [show b < σ.bs.length from hb]
  · rw [if_neg h, if_neg (fun e => h e.symm)]; rfl
theorem AH.base_push {σ : AH} {o : AObj} : (σ.push o).base = σ.base := rfl
theorem AH.base_put {σ : AH} {o : AObj} {b : Nat} : (σ.put b o).base = σ.base := rfl
theorem AH.get_withBase {σ : AH} {n b : Nat} : (σ.withBase n).get b = σ.get b := rfl
theorem AH.size_withBase {σ : AH} {n : Nat} : (σ.withBase n).size = σ.size := rfl

theorem Ext.refl (φ : Ren) (σ : AH) (w : World) : Ext φ σ w φ σ w :=
  ⟨rfl, rfl, rfl, Nat.le_refl _, Nat.le_refl _, .refl _, rfl, Nat.le_refl _, fun b c d h h' => by simp [h] at h', fun _ _ _ => rfl, fun _ _ _ => rfl, fun _ _ h => h, fun _ _ _ => by omega, fun _ _ _ h => .inl h⟩

theorem Ext.trans {φ φ1 φ2 : Ren} {σ σ1 σ2 : AH} {w w1 w2 : World} (h : Ext φ σ w φ1 σ1 w1) (k : Ext φ1 σ1 w1 φ2 σ2 w2) : Ext φ σ w φ2 σ2 w2 where
  os := k.os.trans h.os
  tape := k.tape.trans h.tape
  output := k.output.trans h.output
  drawn := Nat.le_trans h.drawn k.drawn
  hsize := Nat.le_trans h.hsize k.hsize
  le := h.le.trans k.le
  base := k.base.trans h.base
  asize := Nat.le_trans h.asize k.asize
  fresh := fun b c d h0 h2 => by
    cases h1 : φ1 b with
    | some p =>
      have := (k.le.1 _ _ h1).1
      rw [h2] at this
      obtain rfl := Option.some.inj this
      obtain ⟨a, b', e⟩ := h.fresh b _ _ h0 h1
      exact ⟨a, Nat.lt_of_lt_of_le b' k.asize, e⟩
    | none =>
      obtain ⟨a, b', e⟩ := k.fresh b _ _ h1 h2
      refine ⟨Nat.le_trans h.asize a, b', ?_⟩
      rcases e with e | ⟨b0, d0, e, hw⟩
      · exact .inl (Nat.le_trans h.hsize e)
      · cases h3 : φ b0 with
        | none =>
          obtain ⟨_, _, e'⟩ := h.fresh b0 _ _ h3 e
          exact e'
        | some p =>
          have e1 := (h.le.1 _ _ h3).1
          rw [e] at e1
          obtain rfl := Option.some.inj e1
          by_cases hlt : b0 < σ.size
          · exact .inr ⟨b0, _, h3, h.stay b0 hlt hw⟩
          · have := h.free b0 (by omega) (AH.get_lt hw.2.choose_spec.1)
            rw [h3] at this; cases this
  frameC := fun c hc hn => by
    rw [k.frameC c (Nat.lt_of_lt_of_le hc h.hsize) ?_, h.frameC c hc hn]
    intro b d e hw
    cases h3 : φ b with
    | none =>
      obtain ⟨_, _, e'⟩ := h.fresh b _ _ h3 e
      rcases e' with e' | ⟨b0, d0, e0, hw0⟩
      · omega
      · exact hn _ _ e0 hw0
    | some p =>
      have e1 := (h.le.1 _ _ h3).1
      rw [e] at e1
      obtain rfl := Option.some.inj e1
      by_cases hlt : b < σ.size
      · exact hn b d h3 (h.stay b hlt hw)
      · have := h.free b (by omega) (AH.get_lt hw.2.choose_spec.1)
        rw [h3] at this; cases this
  frameA := fun b hb hn => by
    rw [k.frameA b (Nat.lt_of_lt_of_le hb h.asize) ?_, h.frameA b hb hn]
    rcases hn with hn | hn
    · left
      cases h1 : φ1 b with
      | none => rfl
      | some p => obtain ⟨a, _, _⟩ := h.fresh b _ _ hn h1; omega
    · exact .inr fun hw => hn (h.stay b hb hw)
  stay := fun b hb hw => h.stay b hb (k.stay b (Nat.lt_of_lt_of_le hb h.asize) hw)
  free := fun b h1 h2 => by
    by_cases hlt : b < σ1.size
    · exact h.free b h1 hlt
    · have := k.free b (by omega) h2
      cases h3 : φ b with
      | none => rfl
      | some p => rw [(h.le.1 _ _ h3).1] at this; cases this
  stills := fun c i u e => by
    rcases k.stills c i u e with e | e | ⟨b0, d0, e, hw⟩
    · exact h.stills c i u e
    · exact .inr (.inl (Nat.le_trans h.hsize e))
    · cases h3 : φ b0 with
      | none =>
        obtain ⟨_, _, e'⟩ := h.fresh b0 _ _ h3 e
        exact .inr e'
      | some p =>
        have e1 := (h.le.1 _ _ h3).1
        rw [e] at e1
        obtain rfl := Option.some.inj e1
        by_cases hlt : b0 < σ.size
        · exact .inr (.inr ⟨b0, _, h3, h.stay b0 hlt hw⟩)
        · have := h.free b0 (by omega) (AH.get_lt hw.2.choose_spec.1)
          rw [h3] at this; cases this
end Go.Ab
