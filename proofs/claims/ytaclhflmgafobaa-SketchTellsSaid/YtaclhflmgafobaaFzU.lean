/- What comes in: data laid in the machine's memory, told as Lean's own. -/
import Derived.Test.YtaclhflmgafobaaFzT
import Derived.ChangeArms
import Derived.Below
namespace Go.Ab
open Go
set_option linter.unusedSimpArgs false
set_option linter.unusedVariables false

/-- All that the machine has now stands still. -/
def stood (w : World) : Ren := ⟨fun _ => none, fun _ => (0, 0), fun c i => match w.heap[c]? with
  | some (.cells C _ _) => C[i]?
  | _ => none⟩
theorem stood_st (w : World) : StRel (stood w) ⟨0, []⟩ w := by
  refine ⟨fun b c d h => ?_, fun b c d o h => ?_, fun b b' c d d' o o' h => ?_, fun c i u h => ?_, fun b c d o h => ?_⟩
  · cases h
  · cases h
  · cases h
  · simp only [stood] at h
    split at h
    · rename_i C e fr hC; exact ⟨C, e, fr, hC, h⟩
    · cases h
  · cases h
theorem cell_still {w : World} {a : Addr} {v : Value} (h : w.cell? a = some v) : a.spot = none ∧ (stood w).still a.block a.off = some v := by
  unfold World.cell? at h
  split at h
  · rename_i C e fr hC
    split at h
    · cases h
    · rename_i hs
      refine ⟨by simpa using hs, ?_⟩
      simp only [stood, hC]; exact h
  · cases h
/-- Data of this type can be told. -/
def Opens {α : Type} (P : Program) (w : World) (base : Nat) (spare : Nat → Bool) (t : TypeId) (e : En α) (wf : α → Prop) : Prop :=
  ∀ {H : Type} (enc : TypeId × Value → H) (held : Bool) (fuel : Nat) (cs : List Value) (x : DataW H × List MemPlace), DataW.trod enc P w base spare held fuel t cs = some x → ∃ a, wf a ∧ LRel (stood w) (e.cells a) cs
section
variable {P : Program} {w : World} {base : Nat} {spare : Nat → Bool} {t el : TypeId}
theorem one_rel {φ : Ren} {v v' : Value} (h : VRel φ v v') : LRel φ [v] [v'] := .cons h (LRel.nil φ)
theorem Opens.int {k : IntKind} (ht : P.underlying t = some (.int k)) : Opens P w base spare t (eI k) fun n => (Lit.int k n).wf = true := by
  intro H enc held fuel cs x h
  cases fuel with
  | zero => simp [DataW.trod] at h
  | succ n =>
    unfold DataW.trod at h
    rw [ht] at h
    split at h <;> simp_all
    obtain ⟨⟨rfl, hw⟩, _⟩ := h
    exact ⟨_, hw, one_rel (.prim rfl)⟩
theorem Opens.word (ht : P.underlying t = some (.int .u64)) : Opens P w base spare t eW fun _ => True := by
  intro H enc held fuel cs x h
  obtain ⟨n, hn, hr⟩ := Opens.int ht enc held fuel cs x h
  have hb : 0 ≤ n ∧ n ≤ 18446744073709551615 := by simpa [Lit.wf, IntKind.min, IntKind.max, IntKind.signed, IntKind.bits] using hn
  refine ⟨BitVec.ofInt 64 n, trivial, ?_⟩
  have e : eW.cells (BitVec.ofInt 64 n) = (eI .u64).cells n := by
    show [Value.int .u64 ((BitVec.ofInt 64 n).toNat : Int)] = [Value.int .u64 n]
    rw [BitVec.toNat_ofInt]; congr 2; omega
  rw [e]; exact hr
theorem Opens.bool (ht : P.underlying t = some .bool) : Opens P w base spare t eB fun _ => True := by
  intro H enc held fuel cs x h
  cases fuel with
  | zero => simp [DataW.trod] at h
  | succ n =>
    unfold DataW.trod at h
    rw [ht] at h
    split at h <;> (try (simp_all; done))
    rename_i b _
    exact ⟨b, trivial, one_rel (.prim rfl)⟩
theorem mapM_get {α β : Type} {f : α → Option β} : ∀ {l : List α} {r : List β}, l.mapM f = some r → r.length = l.length ∧ ∀ (i : Nat) (x : α), l[i]? = some x → ∃ y, f x = some y ∧ r[i]? = some y
  | [], r, h => by simp at h; subst h; exact ⟨rfl, fun i x hx => by simp at hx⟩
  | a :: l, r, h => by
    simp only [List.mapM_cons] at h
    obtain ⟨y, hy, h⟩ := Option.bind_eq_some_iff.1 h
    obtain ⟨ys, hys, h⟩ := Option.bind_eq_some_iff.1 h
    simp at h; subst h
    obtain ⟨h1, h2⟩ := mapM_get hys
    refine ⟨by simp [h1], fun i x hx => ?_⟩
    cases i with
    | zero => simp at hx; subst hx; exact ⟨y, hy, rfl⟩
    | succ i => exact h2 i x (by simpa using hx)
theorem cells_at {a : Addr} {n : Nat} {cs : List Value} (h : w.cells? base a n = some cs) : cs.length = n ∧ ∀ (j : Nat) (v : Value), cs[j]? = some v → w.cell? (a.add j) = some v := by
  unfold World.cells? at h
  split at h
  · obtain ⟨h1, h2⟩ := mapM_get h
    refine ⟨by simpa using h1, fun j v hv => ?_⟩
    have hj : j < n := by have := (List.getElem?_eq_some_iff.1 hv).1; rw [h1] at this; simpa using this
    obtain ⟨y, hy, hr⟩ := h2 j j (by simp [hj])
    rw [hv] at hr; rw [hy, hr]
  · cases h
theorem Opens.slice {α : Type} {e : En α} {wf : α → Prop} (ht : P.underlying t = some (.slice el)) (hs : P.cellsOf el = e.sz) (hp : e.sz ≠ 0) (ho : Opens P w base spare el e wf) : Opens P w base spare t (eL e) fun xs => xs.length ≤ maxLen ∧ ∀ x ∈ xs, wf x := by
  intro H enc held fuel cs x h
  cases fuel with
  | zero => simp [DataW.trod] at h
  | succ n =>
    unfold DataW.trod at h
    rw [ht] at h
    split at h <;> (try (simp_all; done))
    · exact ⟨[], ⟨Nat.zero_le _, fun x hx => by simp at hx⟩, one_rel .fz0⟩
    · rename_i e2 a len cap he
      simp only [Option.some.injEq, TypeDesc.slice.injEq] at he
      subst he
      simp only at h
      split at h
      · rename_i hc
        obtain ⟨elems, h1, _⟩ := Option.bind_eq_some_iff.1 h
        obtain ⟨h2, h3⟩ := mapM_get h1
        have key : ∀ i, i < len → ∃ a1 cs1, wf a1 ∧ w.cells? base (a.add (i * P.cellsOf el)) (P.cellsOf el) = some cs1 ∧ LRel (stood w) (e.cells a1) cs1 := fun i hi => by
          obtain ⟨y, hy, _⟩ := h3 i i (by simp [hi])
          obtain ⟨cs1, hc1, hy⟩ := Option.bind_eq_some_iff.1 hy
          obtain ⟨a1, hw1, hr1⟩ := ho enc held n cs1 y hy
          exact ⟨a1, cs1, hw1, hc1, hr1⟩
        have list : ∀ m, m ≤ len → ∃ xs : List α, xs.length = m ∧ (∀ x ∈ xs, wf x) ∧ ∀ i a1, xs[i]? = some a1 → ∃ cs1, w.cells? base (a.add (i * P.cellsOf el)) (P.cellsOf el) = some cs1 ∧ LRel (stood w) (e.cells a1) cs1 := by
          intro m
          induction m with
          | zero => intro _; exact ⟨[], rfl, fun x hx => by simp at hx, fun i a1 h => by simp at h⟩
          | succ m ih =>
            intro hm
            obtain ⟨xs, g1, g2, g3⟩ := ih (by omega)
            obtain ⟨a1, cs1, g4, g5, g6⟩ := key m (by omega)
            refine ⟨xs ++ [a1], by simp [g1], fun x hx => ?_, fun i a2 h => ?_⟩
            · rcases List.mem_append.1 hx with hx | hx
              · exact g2 x hx
              · simp at hx; subst hx; exact g4
            · rw [List.getElem?_append] at h
              split at h
              · exact g3 i a2 h
              · rename_i hi
                have : i = m := by
                  have := (List.getElem?_eq_some_iff.1 h).1
                  simp at this; omega
                subst this
                rw [g1, Nat.sub_self] at h; simp at h; subst h
                exact ⟨cs1, g5, g6⟩
        obtain ⟨xs, g1, g2, g3⟩ := list len (Nat.le_refl _)
        refine ⟨xs, ⟨by rw [g1]; omega, g2⟩, one_rel ?_⟩
        by_cases h0 : len = 0
        · subst h0
          have : xs = [] := List.eq_nil_of_length_eq_zero g1
          subst this
          exact .fz0
        have hcell : ∀ (j : Nat) (v : Value), (e.all xs)[j]? = some v → ∃ u, w.cell? ⟨a.block, a.off + j, none⟩ = some u ∧ VRel (stood w) v u ∧ (j = 0 → a.spot = none) := fun j v hv => by
          have hjl := (List.getElem?_eq_some_iff.1 hv).1
          rw [all_len] at hjl
          have hq : j / e.sz < xs.length := Nat.div_lt_of_lt_mul (by rw [Nat.mul_comm]; exact hjl)
          have hx : xs[j / e.sz]? = some xs[j / e.sz] := by simp [hq]
          have hat := all_at (e := e) hx
          have hm := Nat.mod_lt j (Nat.pos_of_ne_zero hp)
          have hdm := Nat.div_add_mod j e.sz
          have hv2 : (e.cells xs[j / e.sz])[j % e.sz]? = some v := by
            rw [← hat, List.getElem?_take, if_pos hm, List.getElem?_drop, Nat.mul_comm, hdm]; exact hv
          obtain ⟨cs1, g4, g5⟩ := g3 _ _ hx
          obtain ⟨u, hu, hr⟩ := g5.get hv2
          have := (cells_at g4).2 _ u hu
          rw [hs] at this
          have hadd : (a.add (j / e.sz * e.sz)).add (j % e.sz) = if j = 0 then a else ⟨a.block, a.off + j, none⟩ := by
            have hdm2 : j / e.sz * e.sz + j % e.sz = j := by rw [Nat.mul_comm]; exact hdm
            unfold Addr.add
            by_cases hj0 : j = 0
            · subst hj0; simp
            · rw [if_neg hj0]
              by_cases hA : j / e.sz * e.sz = 0
              · rw [if_pos hA]
                have : j % e.sz ≠ 0 := by omega
                rw [if_neg this]; congr 1; omega
              · rw [if_neg hA]
                by_cases hB : j % e.sz = 0
                · rw [if_pos hB]; congr 1; omega
                · rw [if_neg hB]; congr 1; simp only; omega
          rw [hadd] at this
          by_cases hj0 : j = 0
          · rw [if_pos hj0] at this
            have hsp := (cell_still this).1
            refine ⟨u, ?_, hr, fun _ => hsp⟩
            subst hj0
            have hA : (⟨a.block, a.off + 0, none⟩ : Addr) = a := by cases a; simp_all
            rw [hA]; exact this
          · rw [if_neg hj0] at this
            exact ⟨u, this, hr, fun h => absurd h hj0⟩
        have hspot : a.spot = none := by
          have hlen := all_len e xs
          have hpos : 0 < (e.all xs).length := by rw [hlen, g1]; exact Nat.mul_pos (by omega) (Nat.pos_of_ne_zero hp)
          obtain ⟨u, _, _, hsp⟩ := hcell 0 (e.all xs)[0] (by simp [hpos])
          exact hsp rfl
        have ha : a = ⟨a.block, a.off, none⟩ := by cases a; simp_all
        rw [ha]
        have := VRel.fz (φ := stood w) (c := a.block) (o := a.off) (n := xs.length) (k' := cap) (cs := (e.all xs).toArray) (us := fun i => ((w.cell? ⟨a.block, a.off + i, none⟩).getD undef)) (by omega) (fun i hi => ?_) (fun i v hv => ?_)
        · rw [g1] at this
          show VRel _ (fz xs.length _) _
          rw [g1]; exact this
        · have hi : i < (e.all xs).length := by simpa using hi
          obtain ⟨u, hu, _⟩ := hcell i (e.all xs)[i] (by simp [hi])
          rw [(cell_still hu).2, hu]; rfl
        · obtain ⟨u, hu, hr, _⟩ := hcell i v (by simpa using hv)
          rw [hu]; exact hr
      · cases h
theorem LRel.cat {φ : Ren} {l1 l2 cs : List Value} {o s1 s2 : Nat} (h1 : LRel φ l1 ((cs.drop o).take s1)) (h2 : LRel φ l2 ((cs.drop (o + s1)).take s2)) : LRel φ (l1 ++ l2) ((cs.drop o).take (s1 + s2)) := by
  have : (cs.drop o).take (s1 + s2) = (cs.drop o).take s1 ++ (cs.drop (o + s1)).take s2 := by rw [List.take_add, List.drop_drop]
  rw [this]; exact h1.append h2
/-- A value whose cells are told. -/
theorem val_rel {α : Type} {φ : Ren} {e : En α} {a : α} {v : Value} (h : LRel φ (e.cells a) v.cells.toList) (hv : e.one = true → v.cells = #[v]) (hv' : e.one = false → ∃ cs, v = .agg cs) : VRel φ (e.val a) v := by
  cases ho : e.one with
  | true =>
    rw [val_one e a ho, hv ho] at h
    exact h.2 0 _ _ rfl rfl
  | false =>
    obtain ⟨cs, rfl⟩ := hv' ho
    unfold En.val; rw [if_neg (by simp [ho])]
    exact VRel.agg_of' (by simpa [Value.cells] using h)
/-- The law's walk: the answer, and nothing that was there has changed. -/
theorem Pure.below {f : FuncId} {args args' : List Value} {v : Value} (h : Pure P f args v) (hl : LRel (stood w) args args') : Calls P f args'.toArray w fun e w' => (∃ φ' v', e = .returned v' ∧ VRel φ' v v') ∧ Go.RowKit.Below w.heap.size w w' :=
  (h.run (stood_st w) hl).mono fun e w' ⟨φ', v', h1, _, _, h4, h5, h6⟩ => ⟨⟨φ', v', h1, h4⟩, h5.os, h5.tape, h5.output, h5.hsize, h6⟩
end
end Go.Ab
