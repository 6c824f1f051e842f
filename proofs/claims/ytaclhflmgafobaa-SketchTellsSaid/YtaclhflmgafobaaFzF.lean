/- The interpreter's copy, len and operations on maps are the machine's: soundness under the relation of heaps. -/
import Derived.Test.YtaclhflmgafobaaFzE
namespace Go.Ab
open Go
set_option linter.unusedSimpArgs false
set_option linter.unusedVariables false

theorem aCopy_ok {P : Program} {φ : Ren} {σ σ' : AH} {w : World} {dt st ty : TypeId} {x y x' y' v : Value} (hS : StRel φ σ w) (hx : VRel φ x x') (hy : VRel φ y y')
    (h : aCopy P dt x y σ = some (v, σ')) :
    ∃ v' w', (Builtin.copy_ #[dt, st] ty #[x', y']).run P w = .ok v' w' ∧ StRel φ σ' w' ∧ Ext φ σ w φ σ' w' ∧ VRel φ v v' := by
  unfold aCopy at h
  split at h
  case h_2 => cases h
  rename_i elem a dLen dCap n hu hlen
  have hrunlen := lenV_ok (P := P) (w := w) hy hlen
  split at h
  · rename_i s new hs hnew
    rw [hs] at hnew
    simp only [Option.getD_some] at hnew
    split at h
    · rename_i hc
      obtain ⟨L, hLr, hLrun, _⟩ := firstC_ok (P := P) hS hy (fun h0 => ⟨n, hlen, fun h1 => h0 (by subst h1; simp)⟩) hnew
      have hLw : (Builtin.firstCells s (Nat.min n dLen) y').run P w = .ok L.toArray w := hLrun w.drawn
      split at h
      · obtain ⟨rfl, rfl, rfl⟩ := hx.of_nilSlice
        simp only [Option.some.injEq, Prod.mk.injEq] at h
        obtain ⟨rfl, rfl⟩ := h
        refine ⟨.int .i64 ((min n 0 : Nat) : Int), w, ?_, hS, .refl _ _ _, .prim rfl⟩
        simp only [Builtin.copy_, List.getElem?_toArray, List.getElem?_cons_zero, List.getElem?_cons_succ, Sem.run_bind, run_underlying hu, Result.andThen_ok, hrunlen, run_sizeOf' hs, hLw, goInt, Sem.run_pure]
      · rename_i b o
        obtain ⟨c, d, o', k', _, e, rfl, hk, ho, hlim⟩ := hx.of_slice
        simp only at e ho
        split at h
        · rename_i hmin
          simp only [Option.some.injEq, Prod.mk.injEq] at h
          obtain ⟨rfl, rfl⟩ := h
          have hL0 : L = [] := by
            have := hLr.1; rw [hc.1, hmin] at this
            exact List.eq_nil_of_length_eq_zero (by omega)
          subst hL0
          refine ⟨.int .i64 0, w, ?_, hS, .refl _ _ _, .prim rfl⟩
          have hmin' : Nat.min n dLen = 0 := hmin
          rw [hmin'] at hLw
          simp [Builtin.copy_, run_underlying hu, hrunlen, run_sizeOf' hs, hmin', hLw, storeCells, goInt]
        · rename_i hmin
          obtain ⟨σ1, h1, h2⟩ := Option.map_eq_some_iff.1 h
          simp only [Prod.mk.injEq] at h2
          obtain ⟨rfl, rfl⟩ := h2
          have ho : o' = d + o := by
            rcases ho with ho | ho
            · exact absurd (by rw [ho.1]; simp) hmin
            · exact ho
          subst ho
          obtain ⟨w', hst, hS', hE⟩ := setRow_ok (P := P) hS e hLr hc.2 h1
          refine ⟨.int .i64 ((min n dLen : Nat) : Int), w', ?_, hS', hE, .prim rfl⟩
          have e2 : min n dLen = Nat.min n dLen := rfl
          rw [e2]
          simp [Builtin.copy_, run_underlying hu, hrunlen, run_sizeOf' hs, hLw, hst, goInt]
      · cases h
    · cases h
  · cases h

/-! ### maps -/
def MRel (φ : Ren) (es : List (Value × Value × Nat)) (E : Array MapEntry) : Prop :=
  E.size = es.length ∧ ∀ (i : Nat) (x : Value × Value × Nat) (e : MapEntry), es[i]? = some x → E[i]? = some e → e.born = x.2.2 ∧ VRel φ x.1 e.key ∧ VRel φ x.2.1 e.val ∧ prim x.1 = true
theorem MRel.get {φ : Ren} {es : List (Value × Value × Nat)} {E : Array MapEntry} (h : MRel φ es E) {i : Nat} {x : Value × Value × Nat} (hx : es[i]? = some x) :
    ∃ e, E[i]? = some e ∧ e.born = x.2.2 ∧ VRel φ x.1 e.key ∧ VRel φ x.2.1 e.val ∧ prim x.1 = true := by
  have hi := (List.getElem?_eq_some_iff.1 hx).1
  have hi' : i < E.size := by rw [h.1]; exact hi
  exact ⟨E[i], by simp [hi'], h.2 i x _ hx (by simp [hi'])⟩
theorem sameNow_ok {φ : Ren} {d : TypeDesc} {k k' x x' : Value} {b : Bool} (hk : VRel φ k k') (hx : VRel φ x x') (h : Instr.sameNow d k x = some b) : Instr.sameNow d k' x' = some b := by
  unfold Instr.sameNow at h
  split at h
  · obtain rfl := hk.of_int; obtain rfl := hx.of_int; exact h
  · obtain rfl := hk.of_string; obtain rfl := hx.of_string; exact h
  · obtain rfl := hk.of_bool; obtain rfl := hx.of_bool; exact h
  · cases h
theorem findA_ok {φ : Ren} {d : TypeDesc} {k k' : Value} (hk : VRel φ k k') : ∀ (es : List (Value × Value × Nat)) (E : List MapEntry) (i : Nat) (r : Option (Nat × Value)),
    E.length = es.length → (∀ (j : Nat) (x : Value × Value × Nat) (e : MapEntry), es[j]? = some x → E[j]? = some e → VRel φ x.1 e.key ∧ VRel φ x.2.1 e.val) → findA d k es i = some r →
    ∃ r', Instr.findNow d k' E i = some r' ∧ ((r = none ∧ r' = none) ∨ ∃ j v v', r = some (j, v) ∧ r' = some (j, v') ∧ VRel φ v v' ∧ i ≤ j ∧ ∃ x, es[j - i]? = some x ∧ x.2.1 = v ∧ Instr.sameNow d k x.1 = some true)
  | [], E, i, r, hl, _, h => by
    obtain rfl : E = [] := List.eq_nil_of_length_eq_zero hl
    simp [findA] at h; subst h
    exact ⟨none, by simp [Instr.findNow], .inl ⟨rfl, rfl⟩⟩
  | x :: es, E, i, r, hl, hr, h => by
    match E, hl with
    | e :: E, hl =>
      have h0 := hr 0 x e rfl rfl
      unfold findA at h
      split at h
      · rename_i hs
        simp at h; subst h
        exact ⟨some (i, e.val), by simp [Instr.findNow, sameNow_ok hk h0.1 hs], .inr ⟨i, x.2.1, e.val, rfl, rfl, h0.2, Nat.le_refl _, x, by simp, rfl, hs⟩⟩
      · rename_i hs
        obtain ⟨r', h1, h2⟩ := findA_ok hk es E (i + 1) r (by simpa using hl) (fun j x e hx he => hr (j + 1) x e (by simpa using hx) (by simpa using he)) h
        refine ⟨r', by simp [Instr.findNow, sameNow_ok hk h0.1 hs, h1], ?_⟩
        rcases h2 with h2 | ⟨j, v, v', a, b, c, hij, y, hy, hy2⟩
        · exact .inl h2
        · refine .inr ⟨j, v, v', a, b, c, by omega, y, ?_, hy2⟩
          rw [show j - i = (j - (i + 1)) + 1 by omega]
          simpa using hy
      · cases h
    | [], hl => simp at hl
theorem run_find {P : Program} {φ : Ren} {w : World} {kt : TypeId} {d : TypeDesc} {k k' : Value} {es : List (Value × Value × Nat)} {E : Array MapEntry} {r : Option (Nat × Value)} (hd : P.underlying kt = some d) (hk : VRel φ k k') (hE : MRel φ es E) (h : findA d k es 0 = some r) :
    ∃ r', (Instr.findKey kt k' E.toList).run P w = .ok r' w ∧ ((r = none ∧ r' = none) ∨ ∃ j v v', r = some (j, v) ∧ r' = some (j, v') ∧ VRel φ v v' ∧ ∃ x, es[j]? = some x ∧ x.2.1 = v ∧ Instr.sameNow d k x.1 = some true) := by
  obtain ⟨r', h1, h2⟩ := findA_ok hk es E.toList 0 r (by simpa using hE.1) (fun j x e hx he => by
    obtain ⟨_, a, b, _⟩ := hE.2 j x e hx (by simpa using he); exact ⟨a, b⟩) h
  refine ⟨r', by simp [Instr.findKey, run_underlying hd, h1], ?_⟩
  rcases h2 with h2 | ⟨j, v, v', a, b, c, hij, y, hy, hy2⟩
  · exact .inl h2
  · exact .inr ⟨j, v, v', a, b, c, y, by simpa using hy, hy2⟩
theorem keyT_some {P : Program} {t kt e : TypeId} {d : TypeDesc} (h : keyT P t = some (kt, e, d)) : P.underlying t = some (.map kt e) ∧ P.underlying kt = some d ∧ plainKeyT P kt = true := by
  unfold keyT at h
  split at h
  · rename_i k e' hu
    split at h
    · rename_i hp
      obtain ⟨d', hd, h⟩ := Option.map_eq_some_iff.1 h
      simp at h; obtain ⟨rfl, rfl, rfl⟩ := h
      exact ⟨hu, hd, hp⟩
    · cases h
  · cases h
theorem run_checkKey {P : Program} {kt : TypeId} (hp : plainKeyT P kt = true) (b : Bool) (k : Value) (w : World) : (Instr.checkKey b 10000 kt k).run P w = .ok () w := by
  show (Instr.checkKey b (9999 + 1) kt k).run P w = .ok () w
  unfold plainKeyT at hp
  split at hp
  all_goals first
    | (rename_i hu; unfold Instr.checkKey; simp only [Sem.run_bind, run_underlying hu, Result.andThen_ok]; cases k <;> rfl)
    | (rename_i kk hu; unfold Instr.checkKey; simp only [Sem.run_bind, run_underlying hu, Result.andThen_ok]; cases k <;> rfl)
    | cases hp
theorem mapOf_some {φ : Ren} {σ : AH} {w : World} {m m' : Value} {b ck : Nat} {es : List (Value × Value × Nat)} (hS : StRel φ σ w) (hm : VRel φ m m') (h : mapOf σ m = some (b, es, ck)) :
    m = .map (some b) ∧ σ.get b = some (.map es ck) ∧ ∃ c E, φ b = some (c, 0) ∧ m' = .map (some c) ∧ w.heap[c]? = some (.map E ck) ∧ MRel φ es E := by
  unfold mapOf at h
  split at h
  · rename_i b'
    split at h
    · rename_i es' c' hg
      simp at h; obtain ⟨rfl, rfl, rfl⟩ := h
      obtain ⟨c, hb, rfl⟩ := hm.of_map
      obtain ⟨E, _, h1, h2, h3⟩ := hS.obj _ c 0 _ hb hg
      exact ⟨rfl, hg, c, E, hb, rfl, h1, h2, h3⟩
    · cases h
  · cases h
theorem run_getMap {P : Program} {w : World} {c k : Nat} {E : Array MapEntry} (h : w.heap[c]? = some (.map E k)) : (getObj c).run P w = .ok (.map E k) w := by
  simp [getObj, Sem.run, h]
theorem run_setMap {P : Program} {w : World} {c k : Nat} {E : Array MapEntry} {o : Obj} (h : w.heap[c]? = some (.map E k)) : (setObj c o).run P w = .ok () { w with heap := w.heap.setIfInBounds c o } := by
  simp [setObj, Sem.run, h]

theorem aLookup_ok {P : Program} {φ : Ren} {σ : AH} {w : World} {t : TypeId} {m k m' k' v : Value} {ok : Bool} (hS : StRel φ σ w) (hm : VRel φ m m') (hk : VRel φ k k') (h : aLookup P t m k ok σ = some v) :
    ∃ v', (Instr.lookup t m' k' ok).run P w = .ok v' w ∧ VRel φ v v' := by
  unfold aLookup at h
  split at h
  case h_2 => cases h
  rename_i kt e d es hkt hes
  obtain ⟨hu, hd, hp⟩ := keyT_some hkt
  obtain ⟨E, hE, hrun⟩ : ∃ E, MRel φ es E ∧ ((m' = .map none ∧ E = #[]) ∨ ∃ c ck, m' = .map (some c) ∧ w.heap[c]? = some (.map E ck)) := by
    unfold entriesA at hes
    split at hes
    · obtain rfl := hm.of_nilMap
      simp at hes; subst hes
      exact ⟨#[], ⟨rfl, by simp⟩, .inl ⟨rfl, rfl⟩⟩
    · obtain ⟨⟨b, es', ck⟩, h1, h2⟩ := Option.map_eq_some_iff.1 hes
      simp at h2; subst h2
      obtain ⟨_, _, c, E, _, rfl, h3, h4⟩ := mapOf_some hS hm h1
      exact ⟨E, h4, .inr ⟨c, ck, rfl, h3⟩⟩
    · cases hes
  split at h
  · rename_i j u hf
    simp at h; subst h
    obtain ⟨r', h1, h2⟩ := run_find (P := P) (w := w) hd hk hE hf
    rcases h2 with ⟨h2, _⟩ | ⟨j', v1, v', h2, rfl, hv, _⟩
    · cases h2
    · simp at h2; obtain ⟨rfl, rfl⟩ := h2
      refine ⟨if ok then .tuple #[v', .bool true] else v', ?_, ?_⟩
      · rcases hrun with ⟨rfl, rfl⟩ | ⟨c, ck, rfl, hh⟩
        · simp only [Instr.lookup, Sem.run_bind, run_underlying hu, Result.andThen_ok, run_checkKey hp, h1, Sem.run_pure, pure_bind]
        · simp only [Instr.lookup, Sem.run_bind, run_underlying hu, Result.andThen_ok, run_getMap hh, run_checkKey hp, h1, Sem.run_pure, pure_bind]
      · cases ok
        · exact hv
        · exact VRel.tuple_of (xs := [_, _]) (ys := [_, _]) (.cons hv (.cons (.prim rfl) (.nil φ)))
  · rename_i hf
    obtain ⟨z, hz, rfl⟩ := Option.map_eq_some_iff.1 h
    obtain ⟨_, _, _, hcl⟩ := zeroOf_some hz
    obtain ⟨r', h1, h2⟩ := run_find (P := P) (w := w) hd hk hE hf
    rcases h2 with ⟨_, rfl⟩ | ⟨j', v1, v', h2, _⟩
    · refine ⟨if ok then .tuple #[z, .bool false] else z, ?_, ?_⟩
      · rcases hrun with ⟨rfl, rfl⟩ | ⟨c, ck, rfl, hh⟩
        · simp only [Instr.lookup, Sem.run_bind, run_underlying hu, Result.andThen_ok, run_checkKey hp, h1, run_zeroValue' hz, Sem.run_pure, pure_bind]
        · simp only [Instr.lookup, Sem.run_bind, run_underlying hu, Result.andThen_ok, run_getMap hh, run_checkKey hp, h1, run_zeroValue' hz, Sem.run_pure, pure_bind]
      · cases ok
        · exact closed_rel hcl
        · exact VRel.tuple_of (xs := [_, _]) (ys := [_, _]) (.cons (closed_rel hcl) (.cons (.prim rfl) (.nil φ)))
    · cases h2
  · cases h

theorem MRel.set {φ : Ren} {es : List (Value × Value × Nat)} {E : Array MapEntry} (h : MRel φ es E) {i : Nat} {x : Value × Value × Nat} {e : MapEntry} (f : MapEntry → MapEntry)
    (hf : ∀ y e, es[i]? = some y → E[i]? = some e → (f e).born = x.2.2 ∧ VRel φ x.1 (f e).key ∧ VRel φ x.2.1 (f e).val ∧ prim x.1 = true) : MRel φ (es.set i x) (E.modify i f) :=
  ⟨by simp [h.1], fun j y e' hy he => by
    rw [List.getElem?_set] at hy
    rw [Array.getElem?_modify] at he
    split at hy
    · rename_i hij
      split at hy
      · rename_i hl
        simp at hy; subst hy
        rw [if_pos hij] at he
        have hi' : j < E.size := by rw [h.1]; omega
        have he' : E[j]? = some E[j] := by simp [hi']
        rw [he'] at he
        simp at he; subst he
        subst hij
        exact hf es[i] _ (by simp [hl]) he'
      · cases hy
    · rename_i hij
      rw [if_neg hij] at he
      exact h.2 j y e' hy he⟩
theorem MRel.push {φ : Ren} {es : List (Value × Value × Nat)} {E : Array MapEntry} (h : MRel φ es E) {x : Value × Value × Nat} {e : MapEntry}
    (he : e.born = x.2.2 ∧ VRel φ x.1 e.key ∧ VRel φ x.2.1 e.val ∧ prim x.1 = true) : MRel φ (es ++ [x]) (E.push e) :=
  ⟨by simp [h.1], fun j y e' hy he' => by
    rw [List.getElem?_append] at hy
    rw [Array.getElem?_push] at he'
    split at hy
    · rename_i hj; rw [if_neg (by rw [h.1]; omega)] at he'; exact h.2 j y e' hy he'
    · rename_i hj
      by_cases hjs : j = es.length
      · subst hjs
        rw [if_pos h.1.symm] at he'
        simp at hy he'; subst hy; subst he'; exact he
      · rw [List.getElem?_eq_none (by simp; omega)] at hy; cases hy⟩
theorem map_put {φ : Ren} {σ : AH} {w : World} {b c ck ck' : Nat} {es es' : List (Value × Value × Nat)} {E E' : Array MapEntry} (hS : StRel φ σ w) (hb : φ b = some (c, 0)) (hg : σ.get b = some (.map es ck)) (hbase : σ.base ≤ b)
    (hh : w.heap[c]? = some (.map E ck)) (hE : MRel φ es' E') :
    StRel φ (σ.put b (.map es' ck')) { w with heap := w.heap.setIfInBounds c (.map E' ck') } ∧ Ext φ σ w φ (σ.put b (.map es' ck')) { w with heap := w.heap.setIfInBounds c (.map E' ck') } := by
  have hc := (Array.getElem?_eq_some_iff.1 hh).1
  exact put_block hS hb hg rfl hbase (by simp) (fun j hj => by rw [Array.getElem?_setIfInBounds, if_neg (fun e => hj e.symm)]) rfl rfl rfl (Nat.le_refl _) ⟨E', rfl, by simp [hc], hE.1, hE.2⟩ rfl
theorem prim_eq {φ : Ren} {v v' : Value} (h : VRel φ v v') (hp : prim v = true) : v' = v := by
  cases h with
  | erased => simp [Ab.prim] at hp
  | prim => rfl
  | ptr => simp [Ab.prim] at hp
  | slice => simp [Ab.prim] at hp
  | slice0 => simp [Ab.prim] at hp
  | map => simp [Ab.prim] at hp
  | func => simp [Ab.prim] at hp
  | fz => simp [Ab.prim] at hp
  | fz0 => simp [Ab.prim] at hp
  | emp => simp [Ab.prim] at hp
  | pfz => simp [Ab.prim] at hp
  | iface => simp [Ab.prim] at hp
  | agg => simp [Ab.prim] at hp
  | tuple => simp [Ab.prim] at hp
theorem bytes_of_beq {a b : ByteArray} (h : (a == b) = true) : a = b ∧ (a == a) = true := by
  have h' : (a.data == b.data) = true := h
  have e : a.data = b.data := eq_of_beq h'
  have e2 : a = b := by cases a; cases b; simp at e; rw [e]
  exact ⟨e2, show (a.data == a.data) = true from by simp⟩
theorem same_bits {d : TypeDesc} {k x : Value} (h : Instr.sameNow d k x = some true) : x = k ∧ Instr.sameBits 10000 x k = true := by
  show x = k ∧ Instr.sameBits (9999 + 1) x k = true
  unfold Instr.sameNow at h
  split at h
  · split at h
    · simp at h; subst_vars; exact ⟨rfl, by simp [Instr.sameBits]⟩
    · cases h
  · obtain ⟨rfl, hb⟩ := bytes_of_beq (Option.some.inj h); exact ⟨rfl, by simp [Instr.sameBits, hb]⟩
  · obtain rfl := eq_of_beq (Option.some.inj h); exact ⟨rfl, by simp [Instr.sameBits]⟩
  · cases h
theorem aMapUpdate_ok {P : Program} {φ : Ren} {σ σ' : AH} {w : World} {t : TypeId} {m k v m' k' v' : Value} (hS : StRel φ σ w) (hm : VRel φ m m') (hk : VRel φ k k') (hv : VRel φ v v') (h : aMapUpdate P t m k v σ = some σ') :
    ∃ w', (Instr.mapUpdate t m' k' v').run P w = .ok () w' ∧ StRel φ σ' w' ∧ Ext φ σ w φ σ' w' := by
  unfold aMapUpdate at h
  split at h
  case h_2 => cases h
  rename_i kt e d b es ck hkt hmo
  obtain ⟨hu, hd, hp⟩ := keyT_some hkt
  obtain ⟨rfl, hg, c, E, hb, rfl, hh, hE⟩ := mapOf_some hS hm hmo
  split at h
  case isFalse => cases h
  rename_i hc
  obtain rfl := prim_eq hk hc.2.2
  split at h
  · rename_i i u hf
    obtain rfl := Option.some.inj h
    obtain ⟨r', h1, h2⟩ := run_find (P := P) (w := w) hd hk hE hf
    rcases h2 with ⟨h2, _⟩ | ⟨j, v1, v1', h2, rfl, hv1, x, hx, hx1, hx2⟩
    · cases h2
    simp at h2; obtain ⟨rfl, rfl⟩ := h2
    obtain ⟨e1, he1, he2, he3, he4, he5⟩ := hE.get hx
    obtain ⟨hxk, hsb⟩ := same_bits hx2
    have hek : e1.key = k' := by rw [← hxk]; exact prim_eq he3 he5
    have hstay : (Instr.keyThatStays e1.key k').run P w = .ok k' w := by
      rw [hek]; rw [hxk] at hsb; simp [Instr.keyThatStays, hsb]
    have hmr : MRel φ (es.set i (k', v, ((es[i]?).map (·.2.2)).getD 0)) (E.modify i fun e => { e with key := k', val := v' }) :=
      hE.set (e := e1) _ fun y e hy he => by
        rw [hx] at hy; obtain rfl := Option.some.inj hy
        rw [he1] at he; obtain rfl := Option.some.inj he
        exact ⟨by simp [hx, he2], hk, hv, hc.2.2⟩
    have := map_put (ck' := ck) hS hb hg hc.2.1 hh hmr
    refine ⟨_, ?_, this⟩
    simp only [Instr.mapUpdate, Sem.run_bind, run_underlying hu, Result.andThen_ok, run_getMap hh, run_checkKey hp, h1, he1, Option.map_some, Option.getD_some, hstay, run_setMap hh]
  · rename_i hf
    obtain rfl := Option.some.inj h
    obtain ⟨r', h1, h2⟩ := run_find (P := P) (w := w) hd hk hE hf
    rcases h2 with ⟨_, rfl⟩ | ⟨j, v1, v1', h2, _⟩
    · have hmr : MRel φ (es ++ [(k', v, ck)]) (E.push { key := k', val := v', born := ck }) := hE.push ⟨rfl, hk, hv, hc.2.2⟩
      have := map_put (ck' := ck + 1) hS hb hg hc.2.1 hh hmr
      refine ⟨_, ?_, this⟩
      simp only [Instr.mapUpdate, Sem.run_bind, run_underlying hu, Result.andThen_ok, run_getMap hh, run_checkKey hp, h1, run_setMap hh]
    · cases h2
  · cases h
theorem aDelete_ok {P : Program} {φ : Ren} {σ σ' : AH} {w : World} {t xt ty : TypeId} {m k m' k' : Value} (hS : StRel φ σ w) (hm : VRel φ m m') (hk : VRel φ k k') (h : aDelete P t m k σ = some σ') :
    ∃ w', (Builtin.delete_ #[t, xt] ty #[m', k']).run P w = .ok (.tuple #[]) w' ∧ StRel φ σ' w' ∧ Ext φ σ w φ σ' w' := by
  unfold aDelete at h
  split at h
  · rename_i x hkt
    obtain ⟨kt, e, d⟩ := x
    obtain ⟨hu, hd, hp⟩ := keyT_some hkt
    obtain rfl := hm.of_nilMap
    obtain rfl := Option.some.inj h
    exact ⟨w, by simp [Builtin.delete_, run_underlying hu, run_checkKey hp], hS, .refl _ _ _⟩
  · rename_i kt e d b es ck hkt _ hmo
    obtain ⟨hu, hd, hp⟩ := keyT_some hkt
    obtain ⟨rfl, hg, c, E, hb, rfl, hh, hE⟩ := mapOf_some hS hm hmo
    split at h
    case isFalse => cases h
    rename_i hc
    split at h
    · rename_i i u hf
      obtain rfl := Option.some.inj h
      obtain ⟨r', h1, h2⟩ := run_find (P := P) (w := w) hd hk hE hf
      rcases h2 with ⟨h2, _⟩ | ⟨j, v1, v1', h2, rfl, hv1, x, hx, hx1, hx2⟩
      · cases h2
      simp at h2; obtain ⟨rfl, rfl⟩ := h2
      have hi := (List.getElem?_eq_some_iff.1 hx).1
      have hmr : MRel φ (es.eraseIdx i) (E.eraseIdxIfInBounds i) := by
        have hi' : i < E.size := by rw [hE.1]; exact hi
        refine ⟨by simp [Array.eraseIdxIfInBounds, hi', List.length_eraseIdx, hi, hE.1], fun j y e' hy he' => ?_⟩
        have he2 : (E.toList.eraseIdx i)[j]? = some e' := by
          rw [← Array.toList_eraseIdx (h := hi')]
          have h3 : E.eraseIdxIfInBounds i = E.eraseIdx i hi' := by simp [Array.eraseIdxIfInBounds, hi']
          rw [h3] at he'
          rw [Array.getElem?_toList]; exact he'
        rw [List.getElem?_eraseIdx] at hy he2
        split at hy
        · rename_i hj; rw [if_pos hj] at he2; exact hE.2 j y e' hy (by simpa using he2)
        · rename_i hj; rw [if_neg hj] at he2; exact hE.2 (j + 1) y e' hy (by simpa using he2)
      have := map_put (ck' := ck) hS hb hg hc hh hmr
      refine ⟨_, ?_, this⟩
      simp [Builtin.delete_, run_underlying hu, run_checkKey hp, run_getMap hh, h1, run_setMap hh]
    · rename_i hf
      obtain rfl := Option.some.inj h
      obtain ⟨r', h1, h2⟩ := run_find (P := P) (w := w) hd hk hE hf
      rcases h2 with ⟨_, rfl⟩ | ⟨j, v1, v1', h2, _⟩
      · have := map_put (ck' := ck) hS hb hg hc hh hE
        refine ⟨_, ?_, this⟩
        simp [Builtin.delete_, run_underlying hu, run_checkKey hp, run_getMap hh, h1, run_setMap hh]
      · cases h2
    · cases h
  · cases h
theorem aClear_ok {P : Program} {φ : Ren} {σ σ' : AH} {w : World} {t ty : TypeId} {m m' : Value} (hS : StRel φ σ w) (hm : VRel φ m m') (h : aClear P t m σ = some σ') :
    ∃ w', (Builtin.clear_ #[t] ty #[m']).run P w = .ok (.tuple #[]) w' ∧ StRel φ σ' w' ∧ Ext φ σ w φ σ' w' := by
  unfold aClear at h
  split at h
  · rename_i kt e hu
    obtain rfl := hm.of_nilMap
    obtain rfl := Option.some.inj h
    exact ⟨w, by simp [Builtin.clear_, run_underlying hu], hS, .refl _ _ _⟩
  · rename_i kt e b es ck hu _ hmo
    obtain ⟨rfl, hg, c, E, hb, rfl, hh, hE⟩ := mapOf_some hS hm hmo
    split at h
    case isFalse => cases h
    rename_i hc
    obtain rfl := Option.some.inj h
    have := map_put (ck' := ck) (es' := []) (E' := #[]) hS hb hg hc hh ⟨rfl, by simp⟩
    refine ⟨_, ?_, this⟩
    simp [Builtin.clear_, run_underlying hu, run_getMap hh, run_setMap hh]
  · cases h
theorem aLen_ok {P : Program} {φ : Ren} {σ : AH} {w : World} {t ty : TypeId} {x x' v : Value} (hS : StRel φ σ w) (hx : VRel φ x x') (h : aLen P t x σ = some v) :
    (Builtin.len_ #[t] ty #[x']).run P w = .ok v w ∧ VRel φ v v := by
  unfold aLen at h
  split at h
  · rename_i s hu; obtain rfl := hx.of_string; simp at h; subst h; exact ⟨by simp [Builtin.len_, run_underlying hu, goInt], .prim rfl⟩
  · rename_i n e hu; simp at h; subst h; exact ⟨by simp [Builtin.len_, run_underlying hu, goInt], .prim rfl⟩
  · rename_i n k e hu; obtain ⟨b', k', rfl, _⟩ := hx.of_slice_any; simp at h; subst h; exact ⟨by simp [Builtin.len_, run_underlying hu, goInt], .prim rfl⟩
  · rename_i e n hu; simp at h; subst h; rcases hx.of_fz with ⟨_, _, _, _, rfl, _⟩ | ⟨⟨_, _, rfl⟩, rfl, _⟩ <;> exact ⟨by simp [Builtin.len_, run_underlying hu, goInt], .prim rfl⟩
  · rename_i e hu; obtain rfl := hx.of_nilMap; simp at h; subst h; exact ⟨by simp [Builtin.len_, run_underlying hu, goInt], .prim rfl⟩
  · rename_i e b hu
    obtain ⟨⟨b', es, ck⟩, h1, h2⟩ := Option.map_eq_some_iff.1 h
    subst h2
    obtain ⟨_, _, c, E, _, rfl, h3, h4⟩ := mapOf_some hS hx h1
    exact ⟨by simp [Builtin.len_, run_underlying hu, goInt, run_getMap h3, h4.1], .prim rfl⟩
  · cases h

theorem aMapEntry_ok {P : Program} {φ : Ren} {σ σ' : AH} {w : World} {t : TypeId} {m k m' k' v : Value} (hS : StRel φ σ w) (hm : VRel φ m m') (hk : VRel φ k k') (h : aMapEntry P t m k σ = some (v, σ')) :
    ∃ v' w', (Instr.mapEntry t m' k').run P w = .ok v' w' ∧ StRel φ σ' w' ∧ Ext φ σ w φ σ' w' ∧ VRel φ v v' := by
  unfold aMapEntry at h
  split at h
  case h_2 => cases h
  rename_i kt e d b es ck hkt hmo
  obtain ⟨hu, hd, hp⟩ := keyT_some hkt
  obtain ⟨rfl, hg, c, E, hb, rfl, hh, hE⟩ := mapOf_some hS hm hmo
  split at h
  case isFalse => cases h
  rename_i hc
  obtain rfl := prim_eq hk hc.2
  split at h
  · rename_i i u hf
    obtain ⟨r', h1, h2⟩ := run_find (P := P) (w := w) hd hk hE hf
    rcases h2 with ⟨h2, _⟩ | ⟨j, v1, v1', h2, rfl, hv1, x, hx, hx1, hx2⟩
    · cases h2
    simp at h2; obtain ⟨rfl, rfl⟩ := h2
    simp only [hx, Option.some.injEq, Prod.mk.injEq] at h
    obtain ⟨rfl, rfl⟩ := h
    obtain ⟨e1, he1, he2, he3, he4, he5⟩ := hE.get hx
    obtain ⟨hxk, hsb⟩ := same_bits hx2
    have hek : e1.key = k' := by rw [← hxk]; exact prim_eq he3 he5
    have hstay : (Instr.keyThatStays e1.key k').run P w = .ok k' w := by
      rw [hek]; rw [hxk] at hsb; simp [Instr.keyThatStays, hsb]
    have hmr : MRel φ (es.set i (k', x.2)) (E.modify i fun e => { e with key := k' }) :=
      hE.set (e := e1) _ fun y e hy he => by
        rw [hx] at hy; obtain rfl := Option.some.inj hy
        rw [he1] at he; obtain rfl := Option.some.inj he
        exact ⟨he2, hk, he4, hc.2⟩
    have := map_put (ck' := ck) hS hb hg hc.1 hh hmr
    refine ⟨.tuple #[v1', .int .i64 (e1.born : Nat)], _, ?_, this.1, this.2, ?_⟩
    · simp only [Instr.mapEntry, Sem.run_bind, run_underlying hu, Result.andThen_ok, run_getMap hh, run_checkKey hp, h1, he1, Option.map_some, Option.getD_some, hstay, run_setMap hh, goInt, Sem.run_pure]
    · rw [he2]
      exact VRel.tuple_of (xs := [_, _]) (ys := [_, _]) (.cons hv1 (.cons (.prim rfl) (.nil φ)))
  · rename_i hf
    split at h
    · rename_i z hz
      simp only [Option.some.injEq, Prod.mk.injEq] at h
      obtain ⟨rfl, rfl⟩ := h
      obtain ⟨_, _, _, hcl⟩ := zeroOf_some hz
      obtain ⟨r', h1, h2⟩ := run_find (P := P) (w := w) hd hk hE hf
      rcases h2 with ⟨_, rfl⟩ | ⟨j, v1, v1', h2, _⟩
      · have hmr : MRel φ (es ++ [(k', z, ck)]) (E.push { key := k', val := z, born := ck }) := hE.push ⟨rfl, hk, closed_rel hcl, hc.2⟩
        have := map_put (ck' := ck + 1) hS hb hg hc.1 hh hmr
        refine ⟨.tuple #[z, .int .i64 (ck : Nat)], _, ?_, this.1, this.2, ?_⟩
        · simp only [Instr.mapEntry, Sem.run_bind, run_underlying hu, Result.andThen_ok, run_getMap hh, run_checkKey hp, h1, run_zeroValue' hz, run_setMap hh, goInt, Sem.run_pure]
        · exact VRel.tuple_of (xs := [_, _]) (ys := [_, _]) (.cons (closed_rel hcl) (.cons (.prim rfl) (.nil φ)))
      · cases h2
    · cases h
  · cases h
theorem aEntryStore_ok {P : Program} {φ : Ren} {σ σ' : AH} {w : World} {t : TypeId} {m st v m' st' v' : Value} (hS : StRel φ σ w) (hm : VRel φ m m') (hs : VRel φ st st') (hv : VRel φ v v') (h : aEntryStore m st v σ = some σ') :
    ∃ w', (Instr.entryStore t m' st' v').run P w = .ok () w' ∧ StRel φ σ' w' ∧ Ext φ σ w φ σ' w' := by
  unfold aEntryStore at h
  split at h
  case h_2 => cases h
  rename_i b es ck k n hmo
  obtain ⟨rfl, hg, c, E, hb, rfl, hh, hE⟩ := mapOf_some hS hm hmo
  obtain rfl := hs.of_int
  split at h
  case isFalse => cases h
  rename_i hc
  split at h
  · rename_i i hi
    split at h
    · rename_i x hx
      obtain rfl := Option.some.inj h
      have hborn : es.map (fun x => x.2.2) = E.toList.map (·.born) := by
        apply List.ext_getElem?
        intro j
        simp only [List.getElem?_map]
        cases hy : es[j]? with
        | none => rw [List.getElem?_eq_none_iff] at hy; rw [List.getElem?_eq_none (by simp [hE.1]; omega)]; rfl
        | some y =>
          obtain ⟨e, he, he2, _⟩ := hE.get hy
          rw [Array.getElem?_toList, he]; simp [he2]
      have hfind : E.findIdx? (fun e => (e.born : Int) == n) = some i := by
        have hEt : E.findIdx? (fun e => (e.born : Int) == n) = E.toList.findIdx? (fun e => (e.born : Int) == n) := by
          conv => lhs; rw [← Array.toArray_toList (xs := E), List.findIdx?_toArray]
        rw [hEt]
        have h1 := List.findIdx?_map (l := es) (f := fun x => x.2.2) (p := fun (q : Nat) => (q : Int) == n)
        have h2 := List.findIdx?_map (l := E.toList) (f := (·.born)) (p := fun (q : Nat) => (q : Int) == n)
        rw [hborn] at h1
        rw [h1] at h2
        exact (h2.symm.trans hi)
      have hmr : MRel φ (es.set i (x.1, v, x.2.2)) (E.modify i fun e => { e with val := v' }) :=
        hE.set (e := default) _ fun y e hy he => by
          rw [hx] at hy; obtain rfl := Option.some.inj hy
          obtain ⟨a, b, _, d⟩ := hE.2 i _ e hx he
          exact ⟨a, b, hv, d⟩
      have := map_put (ck' := ck) hS hb hg hc.2 hh hmr
      refine ⟨_, ?_, this⟩
      simp [Instr.entryStore, run_getMap hh, asInt, asIntOf, hfind, run_setMap hh]
    · cases h
  · cases h
end Go.Ab
