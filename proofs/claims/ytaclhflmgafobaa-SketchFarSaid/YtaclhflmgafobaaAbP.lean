/- From what came in to the interpreter's heap, and back to what the claim asks. -/
import Derived.Test.YtaclhflmgafobaaAbO
import Derived.Below
import Derived.WideShapes
namespace Go.Ab
open Go
set_option linter.unusedSimpArgs false
set_option linter.unusedVariables false

/-- A slice that came in: where its cells lie, and what they are. -/
structure InRow (w : World) (i : Option Addr × List Value) : Prop where
  cells : ∀ x, i.1 = some x → x.spot = none ∧ ∃ C e fr, w.heap[x.block]? = some (.cells C e fr) ∧ ∀ (j : Nat) (v : Value), i.2[j]? = some v → C[x.off + j]? = some v ∧ prim v = true
def inH (ins : List (Option Addr × List Value)) : AH := ⟨ins.length, ins.map fun i => .cells true 0 i.2⟩
def inR (ins : List (Option Addr × List Value)) : Ren := ⟨fun b => match ins[b]? with
  | some (some x, _) => some (x.block, x.off)
  | _ => none, fun _ => (0, 0)⟩
def inV (b : Nat) (a : Option Addr) (len cap : Nat) : Value := match a with
  | none => .slice none 0 0
  | some _ => .slice (some ⟨b, 0, none⟩) len cap
section
variable {w : World} {ins : List (Option Addr × List Value)}
theorem inH_size : (inH ins).size = ins.length := by simp [inH, AH.size]
theorem inH_get (b : Nat) : (inH ins).get b = (ins[b]?).map fun i => .cells true 0 i.2 := by simp [inH, AH.get]
theorem inH_ro {b : Nat} : ¬ (inH ins).wr b := by
  rintro ⟨_, o, h, h'⟩
  rw [inH_get] at h
  obtain ⟨i, _, rfl⟩ := Option.map_eq_some_iff.1 h
  cases h'
theorem inR_some {b c d : Nat} (h : inR ins b = some (c, d)) : ∃ x l, ins[b]? = some (some x, l) ∧ c = x.block ∧ d = x.off := by
  unfold inR at h
  simp only at h
  split at h
  · rename_i x l hx
    simp at h
    exact ⟨x, l, hx, h.1.symm, h.2.symm⟩
  · cases h
theorem in_st (h : ∀ i ∈ ins, InRow w i) : StRel (inR ins) (inH ins) w := by
  refine ⟨fun b c d hb => ?_, fun b c d o hb ho => ?_, fun b b' c d d' o o' _ _ ho ho' _ _ _ => ?_⟩
  · obtain ⟨x, l, hx, rfl, rfl⟩ := inR_some hb
    obtain ⟨_, C, e, fr, hC, _⟩ := (h _ (List.mem_of_getElem? hx)).cells x rfl
    rw [Array.getElem?_eq_some_iff] at hC
    exact hC.1
  · obtain ⟨x, l, hx, rfl, rfl⟩ := inR_some hb
    rw [inH_get, hx] at ho
    obtain rfl : o = .cells true 0 l := by simpa using ho.symm
    obtain ⟨_, C, e, fr, hC, hv⟩ := (h _ (List.mem_of_getElem? hx)).cells x rfl
    refine ⟨C, e, fr, hC, fun h => (by cases h), ⟨rfl, fun h => absurd rfl h⟩, fun i v hi => ?_⟩
    obtain ⟨h1, h2⟩ := hv i v hi
    exact ⟨v, h1, .prim h2⟩
  · rw [inH_get] at ho ho'
    obtain ⟨i, _, rfl⟩ := Option.map_eq_some_iff.1 ho
    obtain ⟨i', _, rfl⟩ := Option.map_eq_some_iff.1 ho'
    exact ⟨rfl, rfl⟩
theorem in_val {b : Nat} {a : Option Addr} {l : List Value} {len cap : Nat} (h : InRow w (a, l)) (hb : ins[b]? = some (a, l)) (hnil : a = none → len = 0 ∧ cap = 0) : VRel (inR ins) (inV b a len cap) (.slice a len cap) := by
  cases a with
  | none => obtain ⟨rfl, rfl⟩ := hnil rfl; exact .prim rfl
  | some x =>
    obtain ⟨hs, _⟩ := h.cells x rfl
    have e : x = ⟨x.block, x.off + 0, none⟩ := by cases x; simp_all
    have hr : inR ins b = some (x.block, x.off) := by unfold inR; simp only [hb]
    have := VRel.slice (φ := inR ins) (n := len) (o := 0) hr (Nat.le_refl cap) (.inl rfl)
    rw [← e] at this
    exact this
theorem in_row {b : Nat} {a : Option Addr} {l : List Value} {len cap : Nat} (hb : ins[b]? = some (a, l)) (hnil : a = none → len = 0) (hlc : len ≤ cap) (hl : a ≠ none → l.length = cap) : Row (inH ins) (inV b a len cap) 1 len (l.take len) ∨ a = none := by
  cases a with
  | none => exact .inr rfl
  | some x =>
    have hl := hl (by simp)
    refine .inl ⟨by simp; omega, .inr ⟨b, 0, cap, true, 0, l, rfl, hlc, by rw [inH_get, hb]; rfl, .inl rfl, by omega, by simp⟩⟩
/-- What a run in the interpreter tells of the machine: the answer, and that nothing that was there has changed. -/
theorem Ret.below {P : Program} {S : Caller} (hSg : CallerGrows S) (hSo : CallerOk P S) (hm : P.follows .mixedOrders = true) (hn : ∀ (f : FuncId) (fn : Func), P.funcs[f]? = some fn → (fn.name == "runtime.NumGoroutine") = false) {f : FuncId} {args args' : List Value} {R : Value → AH → Prop}
    (h : Ret P S f args (inH ins) R) (hin : ∀ i ∈ ins, InRow w i) (ha : LRel (inR ins) args args') : Calls P f args'.toArray w fun e w' => (∃ v σ' φ' v', R v σ' ∧ e = .returned v' ∧ VRel φ' v v') ∧ Go.RowKit.Below w.heap.size w w' := by
  refine (Ret.calls hSg hSo hm hn h (in_st hin) ha fun b hb => ?_).mono fun e w' hh => ?_
  · rw [inH_size] at hb
    unfold inR
    simp only [List.getElem?_eq_none hb]
  · obtain ⟨v, σ', φ', v', hR, he, _, hv, hE⟩ := hh
    exact ⟨⟨v, σ', φ', v', hR, he, hv⟩, hE.os, hE.tape, hE.output, hE.hsize, fun k hk => hE.frameC k hk fun b d _ => inH_ro⟩
/-- Where a slice that came in lies. -/
theorem lies {P : Program} {W : World} {r : Reach} {base len cap : Nat} {t e : TypeId} {x : Addr} (ht : P.underlying t = some (.slice e)) (h : Value.okWide P W r base t (.slice (some x) len cap)) : x.spot = none ∧ ∃ C e fr, W.heap[x.block]? = some (.cells C e fr) := by
  simp only [Value.okWide, ht, Cell.okWide, Cell.ok, World.has] at h
  obtain ⟨_, _, _, hs, row, cells, hsh, _⟩ := h
  refine ⟨hs, ?_⟩
  unfold World.shape? at hsh
  split at hsh
  · rename_i C e' fr hC; exact ⟨C, e', fr, hC⟩
  · cases hsh
theorem in_ints {W : World} {k : IntKind} {a : Option Addr} {zs : List Int} (h1 : ∀ x, a = some x → x.spot = none ∧ ∃ C e fr, W.heap[x.block]? = some (.cells C e fr)) (h2 : ∀ x, a = some x → ∀ i, i < zs.length → W.cell? (x.add i) = some (.int k (zs.getD i 0))) : InRow W (a, zs.map (.int k)) := by
  refine ⟨fun x hx => ?_⟩
  obtain ⟨hs, C, e, fr, hC⟩ := h1 x hx
  refine ⟨hs, C, e, fr, hC, fun j v hv => ?_⟩
  rw [List.getElem?_map] at hv
  obtain ⟨n, hn, rfl⟩ := Option.map_eq_some_iff.1 hv
  have hj := (List.getElem?_eq_some_iff.1 hn).1
  have := h2 x hx j hj
  have e1 : zs.getD j 0 = n := by simp [List.getD, hn]
  rw [e1] at this
  unfold World.cell? at this
  have e2 : (x.add j).block = x.block := by unfold Addr.add; split <;> rfl
  have e3 : (x.add j).off = x.off + j := by unfold Addr.add; split <;> simp_all
  rw [e2, hC, e3] at this
  simp only at this
  split at this
  · cases this
  · exact ⟨this, rfl⟩
end
end Go.Ab
