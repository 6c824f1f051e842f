/- The interpreter's operations without memory are the machine's: soundness, operation by operation, under the relation of values. -/
import Derived.Test.YtaclhflmgafobaaFzB
import Derived.WalkLawsBesides
import Derived.WideLaws
namespace Go.Ab
open Go
set_option linter.unusedSimpArgs false
set_option linter.unusedVariables false

theorem run_isAgg {P : Program} {t : TypeId} {b : Bool} (h : isAggT P t = some b) (w : World) : (isAgg t).run P w = .ok b w := by
  unfold isAggT at h
  cases hu : P.underlying t with
  | none => simp [hu] at h
  | some d => rw [hu] at h; cases d <;> simp_all [isAgg, run_underlying hu]
theorem run_sizeOf' {P : Program} {t : TypeId} {n : Nat} (h : szOf P t = some n) (w : World) : (sizeOf t).run P w = .ok n w := by
  unfold szOf at h
  cases hi : P.info? t with
  | none => simp [hi] at h
  | some i => simp [hi] at h; subst h; simp [sizeOf, typeInfo, hi]
theorem zeroOf_some {P : Program} {t : TypeId} {v : Value} (h : zeroOf P t = some v) : ∃ i, P.info? t = some i ∧ i.zero = some v ∧ closedV v = true := by
  unfold zeroOf at h
  cases hi : P.info? t with
  | none => simp [hi] at h
  | some i =>
    cases hz : i.zero with
    | none => simp [hi, hz] at h
    | some z =>
      simp [hi, hz] at h
      obtain ⟨h1, rfl⟩ := h
      exact ⟨i, rfl, hz, h1⟩
theorem run_zeroValue' {P : Program} {t : TypeId} {v : Value} (h : zeroOf P t = some v) (w : World) : (zeroValue t).run P w = .ok v w := by
  obtain ⟨i, hi, hz, _⟩ := zeroOf_some h
  simp [zeroValue, typeInfo, hi, hz]
theorem run_typeInfo' {P : Program} {t : TypeId} {i : TypeInfo} (h : P.info? t = some i) (w : World) : (typeInfo t).run P w = .ok i w := by
  simp [typeInfo, h]

theorem aPart_ok {P : Program} {φ : Ren} {t : TypeId} {cs cs' : Array Value} {off : Nat} {v : Value} (hc : LRel φ cs.toList cs'.toList) (h : aPart P t cs off = some v) (w : World) :
    ∃ v', (part t cs' off).run P w = .ok v' w ∧ VRel φ v v' := by
  unfold aPart at h
  split at h
  · rename_i n hg hs
    split at h
    · rename_i hle
      obtain rfl := Option.some.inj h
      refine ⟨.agg (cs'.extract off (off + n)), by simp [part, run_isAgg hg, run_sizeOf' hs], ?_⟩
      refine VRel.agg_of' ?_
      simp only [Array.toList_extract]
      exact (hc.drop _).take _
    · cases h
  · rename_i hg
    obtain ⟨v', e, r⟩ := hc.get (show cs.toList[off]? = some v by simpa using h)
    exact ⟨v', by simp only [part, Sem.run_bind, run_isAgg hg, Result.andThen_ok]; simp at e; simp [e], r⟩
  · cases h

theorem aBits_ok {P : Program} {φ : Ren} {op : BinOp} {k : IntKind} {a b : Int} {v : Value} (h : aBits op k a b = some v) (w : World) :
    (Op.intBits op k a b).run P w = .ok v w ∧ VRel φ v v := by
  cases op <;> simp [aBits] at h <;> subst h <;> exact ⟨by simp [Op.intBits], .prim rfl⟩
theorem aShift_ok {P : Program} {φ : Ren} {op : BinOp} {k yk : IntKind} {a b : Int} {v : Value} (h : aShift op k a b = some v) (w : World) :
    (Op.shift op k a yk b).run P w = .ok v w ∧ VRel φ v v := by
  unfold aShift at h
  split at h
  · cases h
  · rename_i hb
    cases op <;> simp at h <;> subst h <;> exact ⟨by simp [Op.shift, hb], .prim rfl⟩
theorem aInt_ok {P : Program} {φ : Ren} {op : BinOp} {k : IntKind} {a b : Int} {v : Value} (h : aInt op k a b = some v) (t : TypeId) (w : World) :
    (binOp op t (.int k a) (.int k b)).run P w = .ok v w ∧ VRel φ v v := by
  cases op <;> simp only [aInt] at h
  case shl => cases h
  case shr => cases h
  case quo =>
    split at h
    · cases h
    · rename_i hb; simp only [Option.some.injEq] at h; subst h; exact ⟨by simp [binOp_quo, Op.intDiv, hb], .prim rfl⟩
  case rem =>
    split at h
    · cases h
    · rename_i hb; simp only [Option.some.injEq] at h; subst h; exact ⟨by simp [binOp_rem, Op.intDiv, hb], .prim rfl⟩
  case and => rw [binOp_and]; exact aBits_ok h w
  case or => rw [binOp_or]; exact aBits_ok h w
  case xor => rw [binOp_xor]; exact aBits_ok h w
  case andNot => rw [binOp_andNot]; exact aBits_ok h w
  all_goals
    first
      | (simp only [Option.some.injEq] at h; subst h; exact ⟨by simp [binOp_add, binOp_sub, binOp_mul, Op.intArith, binOp_eql, binOp_neq, binOp_lss, binOp_leq, binOp_gtr, binOp_geq], .prim rfl⟩)
      | cases h

theorem VRel.of_slice_any {φ : Ren} {b : Option Addr} {n k : Nat} {v' : Value} (h : VRel φ (.slice b n k) v') : ∃ b' k', v' = .slice b' n k' ∧ b'.isNone = b.isNone := by
  cases b with
  | none => obtain ⟨rfl, rfl, rfl⟩ := h.of_nilSlice; exact ⟨_, _, rfl, rfl⟩
  | some a => obtain ⟨c, d, o', k', _, _, rfl, _⟩ := h.of_slice; exact ⟨_, _, rfl, rfl⟩
theorem VRel.of_ptr_any {φ : Ren} {b : Option Addr} {v' : Value} (h : VRel φ (.pointer b) v') : ∃ b', v' = .pointer b' ∧ b'.isNone = b.isNone := by
  cases b with
  | none => obtain rfl := h.of_nilPtr; exact ⟨_, rfl, rfl⟩
  | some a => obtain ⟨c, d, _, _, rfl⟩ := h.of_ptr; exact ⟨_, rfl, rfl⟩
theorem VRel.of_map_any {φ : Ren} {b : Option Nat} {v' : Value} (h : VRel φ (.map b) v') : ∃ b', v' = .map b' ∧ b'.isNone = b.isNone := by
  cases b with
  | none => obtain rfl := h.of_nilMap; exact ⟨_, rfl, rfl⟩
  | some a => obtain ⟨c, _, rfl⟩ := h.of_map; exact ⟨_, rfl, rfl⟩

/-- Equality of parts, one by one. -/
theorem equal_fields {P : Program} {φ : Ren} {d : Nat} {w : World} {xs ys xs' ys' : Array Value} (hx : LRel φ xs.toList xs'.toList) (hy : LRel φ ys.toList ys'.toList) (E : Nat)
    (ih : ∀ (t : TypeId) (x y x' y' : Value) (b : Bool), VRel φ x x' → VRel φ y y' → aEq P d t x y = some b → (Op.equalIn E t x' y').run P w = .ok b w) :
    ∀ (l : List Field) (b : Bool), (l.foldr (fun f r => if f.name = "_" then r else
        match aPart P f.type xs f.offset, aPart P f.type ys f.offset with
        | some u, some v => match aEq P d f.type u v with
          | some true => r
          | e => e
        | _, _ => none) (some true)) = some b →
      ((forIn (m := Sem) l ((none, ()) : Option Bool × Unit) fun f _ => do
        if f.name ≠ "_" then
          if !(← Op.equalIn E f.type (← part f.type xs' f.offset) (← part f.type ys' f.offset)) then pure (.done (some false, ())) else pure (.yield (none, ()))
        else pure (.yield (none, ()))).run P w) = .ok (if b then (none, ()) else (some false, ())) w := by
  intro l
  induction l with
  | nil => intro b h; simp at h; subst h; simp
  | cons f l ihl =>
    intro b h
    simp only [List.foldr_cons] at h
    by_cases hn : f.name = "_"
    · rw [if_pos hn] at h
      simp only [List.forIn_cons, hn, ne_eq, not_true_eq_false, if_false, Sem.run_bind, Sem.run_pure, Result.andThen_ok]
      exact ihl b h
    · rw [if_neg hn] at h
      split at h
      · rename_i u v hu hv
        obtain ⟨u', eu, ru⟩ := aPart_ok hx hu w
        obtain ⟨v', ev, rv⟩ := aPart_ok hy hv w
        cases hq : aEq P d f.type u v with
        | none => rw [hq] at h; cases h
        | some q =>
          rw [hq] at h
          have he := ih f.type u v u' v' q ru rv hq
          cases q with
          | true =>
            simp only [List.forIn_cons, ne_eq, hn, not_false_eq_true, if_true, Sem.run_bind, eu, ev, he, Result.andThen_ok, Bool.not_true, Bool.false_eq_true, if_false, Sem.run_pure]
            exact ihl b h
          | false =>
            obtain rfl := Option.some.inj h
            simp [hn, eu, ev, he]
      · cases h
theorem equal_elems {P : Program} {φ : Ren} {d n : Nat} {w : World} {elem : TypeId} {xs ys xs' ys' : Array Value} (hx : LRel φ xs.toList xs'.toList) (hy : LRel φ ys.toList ys'.toList) (E : Nat)
    (ih : ∀ (t : TypeId) (x y x' y' : Value) (b : Bool), VRel φ x x' → VRel φ y y' → aEq P d t x y = some b → (Op.equalIn E t x' y').run P w = .ok b w) :
    ∀ (l : List Nat) (b : Bool), (l.foldr (fun i r =>
        match aPart P elem xs (i * n), aPart P elem ys (i * n) with
        | some u, some v => match aEq P d elem u v with
          | some true => r
          | e => e
        | _, _ => none) (some true)) = some b →
      ((forIn (m := Sem) l ((none, ()) : Option Bool × Unit) fun i _ => do
          if !(← Op.equalIn E elem (← part elem xs' (i * n)) (← part elem ys' (i * n))) then pure (.done (some false, ())) else pure (.yield (none, ()))).run P w)
      = .ok (if b then (none, ()) else (some false, ())) w := by
  intro l
  induction l with
  | nil => intro b h; simp at h; subst h; simp
  | cons i l ihl =>
    intro b h
    simp only [List.foldr_cons] at h
    split at h
    · rename_i u v hu hv
      obtain ⟨u', eu, ru⟩ := aPart_ok hx hu w
      obtain ⟨v', ev, rv⟩ := aPart_ok hy hv w
      cases hq : aEq P d elem u v with
      | none => rw [hq] at h; cases h
      | some q =>
        rw [hq] at h
        have he := ih elem u v u' v' q ru rv hq
        cases q with
        | true =>
          simp only [List.forIn_cons, Sem.run_bind, eu, ev, he, Result.andThen_ok, Bool.not_true, Bool.false_eq_true, if_false, Sem.run_pure]
          exact ihl b h
        | false =>
          obtain rfl := Option.some.inj h
          simp [eu, ev, he]
    · cases h

theorem aEq_ok {P : Program} {φ : Ren} {w : World} : ∀ (d : Nat) (t : TypeId) (x y x' y' : Value) (b : Bool) (k : Nat), VRel φ x x' → VRel φ y y' → aEq P d t x y = some b →
    (Op.equalIn (d + k) t x' y').run P w = .ok b w
  | 0, t, x, y, x', y', b, k, _, _, h => by simp [aEq] at h
  | d + 1, t, x, y, x', y', b, k, hx, hy, h => by
    have ih : ∀ (t : TypeId) (x y x' y' : Value) (b : Bool), VRel φ x x' → VRel φ y y' → aEq P d t x y = some b → (Op.equalIn (d + k) t x' y').run P w = .ok b w := fun t x y x' y' b hx hy h => aEq_ok (w := w) d t x y x' y' b k hx hy h
    rw [show d + 1 + k = (d + k) + 1 by omega]
    unfold aEq at h
    split at h
    · rename_i a c hu; rw [hx.of_bool, hy.of_bool]; simp at h; subst h; simp [Op.equalIn, run_underlying hu]
    · rename_i kk a kk' c hu; rw [hx.of_int, hy.of_int]; split at h
      · simp at h; subst h; simp [Op.equalIn, run_underlying hu, *]
      · cases h
    · rename_i a c hu; rw [hx.of_string, hy.of_string]; simp at h; subst h; simp [Op.equalIn, run_underlying hu]
    · rename_i p b' hu; rw [hx.of_nilPtr]; obtain ⟨b'', rfl, e⟩ := hy.of_ptr_any; simp at h; subst h; simp [Op.equalIn, run_underlying hu, ← e]
    · rename_i p a hu; rw [hy.of_nilPtr]; obtain ⟨c, d', _, _, rfl⟩ := hx.of_ptr; simp at h; subst h; simp [Op.equalIn, run_underlying hu]
    · rename_i hu; rw [hy.of_nilPtr]; obtain ⟨c, d', _, rfl, _⟩ := hx.of_pfz; simp at h; subst h; simp [Op.equalIn, run_underlying hu]
    · rename_i hu
      obtain ⟨rfl, rfl, rfl⟩ := hy.of_nilSlice
      rcases hx.of_fz with ⟨c, o, k', us, rfl, _⟩ | ⟨_, hn, _⟩
      · simp at h; subst h; simp [Op.equalIn, run_underlying hu]
      · omega
    · rename_i p _ _ b' _ _ hu; obtain ⟨rfl, rfl, rfl⟩ := hx.of_nilSlice; obtain ⟨b'', k', rfl, e⟩ := hy.of_slice_any; simp at h; subst h; simp [Op.equalIn, run_underlying hu, ← e]
    · rename_i p a _ _ _ _ hu; obtain ⟨rfl, rfl, rfl⟩ := hy.of_nilSlice; obtain ⟨c, d', o', k', _, _, rfl, _⟩ := hx.of_slice; simp at h; subst h; simp [Op.equalIn, run_underlying hu]
    · rename_i p q b' hu; rw [hx.of_nilMap]; obtain ⟨b'', rfl, e⟩ := hy.of_map_any; simp at h; subst h; simp [Op.equalIn, run_underlying hu, ← e]
    · rename_i p q a hu; rw [hy.of_nilMap]; obtain ⟨c, _, rfl⟩ := hx.of_map; simp at h; subst h; simp [Op.equalIn, run_underlying hu]
    · rename_i hu; rw [hx.of_nilFunc, hy.of_nilFunc]; simp at h; subst h; simp [Op.equalIn, run_underlying hu]
    · rename_i hu; rw [hx.of_nilFunc]; obtain ⟨_, _, rfl, _⟩ := hy.of_func; simp at h; subst h; simp [Op.equalIn, run_underlying hu]
    · rename_i hu; rw [hy.of_nilFunc]; obtain ⟨_, _, rfl, _⟩ := hx.of_func; simp at h; subst h; simp [Op.equalIn, run_underlying hu]
    · rename_i hu; rw [hx.of_nilIface]; obtain ⟨_, rfl, _⟩ := hy.of_iface; simp at h; subst h; simp [Op.equalIn, run_underlying hu]
    · rename_i hu; rw [hy.of_nilIface]; obtain ⟨_, rfl, _⟩ := hx.of_iface; simp at h; subst h; simp [Op.equalIn, run_underlying hu]
    · rename_i fs xs ys hu
      split at h
      · cases h
      · rename_i hst
        obtain ⟨xs', rfl, rx⟩ := hx.of_agg
        obtain ⟨ys', rfl, ry⟩ := hy.of_agg
        have := equal_fields (w := w) rx ry (d + k) ih fs.toList b h
        rw [Array.forIn_toList] at this
        simp only [Op.equalIn, Sem.run_bind, run_underlying hu, Result.andThen_ok, run_program, hst, Bool.false_eq_true, if_false, this]
        cases b <;> simp
    · rename_i len elem xs ys hu
      split at h
      · cases h
      · rename_i n hs
        obtain ⟨xs', rfl, rx⟩ := hx.of_agg
        obtain ⟨ys', rfl, ry⟩ := hy.of_agg
        have := equal_elems (w := w) (n := n) (elem := elem) rx ry (d + k) ih (List.range len) b h
        have e : (forIn (m := Sem) [:len] ((none, ()) : Option Bool × Unit) fun i _ => do
          if !(← Op.equalIn (d + k) elem (← part elem xs' (i * n)) (← part elem ys' (i * n))) then pure (.done (some false, ())) else pure (.yield (none, ()))) =
          (forIn (m := Sem) (List.range len) ((none, ()) : Option Bool × Unit) fun i _ => do
          if !(← Op.equalIn (d + k) elem (← part elem xs' (i * n)) (← part elem ys' (i * n))) then pure (.done (some false, ())) else pure (.yield (none, ()))) := by
          simp [Std.Legacy.Range.forIn_eq_forIn_range', Std.Legacy.Range.size, List.range_eq_range']
        simp only [Op.equalIn, Sem.run_bind, run_underlying hu, Result.andThen_ok, run_sizeOf' hs]
        rw [e, this]
        cases b <;> simp
    · cases h

theorem equal_ok {P : Program} {φ : Ren} {w : World} {t : TypeId} {x y x' y' : Value} {b : Bool} (d : Nat) (hd : d ≤ 10000) (hx : VRel φ x x') (hy : VRel φ y y') (h : aEq P d t x y = some b) :
    (Op.equal t x' y').run P w = .ok b w := by
  have := aEq_ok (w := w) d t x y x' y' b (10000 - d) hx hy h
  rwa [show d + (10000 - d) = 10000 by omega] at this
theorem aBin_ok {P : Program} {φ : Ren} {op : BinOp} {t : TypeId} {x y x' y' v : Value} {X Y : Operand} (hx : VRel φ x x') (hy : VRel φ y y') (h : aBin P op t x y = some v) (w : World) :
    ∃ v', (do eqGuard op t X Y x' y'; binOp op t x' y' : Sem Value).run P w = .ok v' w ∧ VRel φ v v' := by
  unfold aBin at h
  split at h
  · rw [hx.of_int, hy.of_int]; exact ⟨v, by simpa [eqGuard_at_int, binOp_shl] using (aShift_ok (P := P) (φ := φ) (yk := _) h w).1, (aShift_ok (P := P) (φ := φ) (yk := .i64) h w).2⟩
  · rw [hx.of_int, hy.of_int]; exact ⟨v, by simpa [eqGuard_at_int, binOp_shr] using (aShift_ok (P := P) (φ := φ) (yk := _) h w).1, (aShift_ok (P := P) (φ := φ) (yk := .i64) h w).2⟩
  · rw [hx.of_int, hy.of_int]
    split at h
    · subst_vars; exact ⟨v, by simpa [eqGuard_at_int] using (aInt_ok (P := P) (φ := φ) h t w).1, (aInt_ok (P := P) (φ := φ) h t w).2⟩
    · cases h
  · rw [hx.of_string, hy.of_string]; simp at h; subst h; exact ⟨_, by simp [eqGuard_at_string, binOp, Op.stringOp], .prim rfl⟩
  · rw [hx.of_string, hy.of_string]; simp at h; subst h; exact ⟨_, by simp [eqGuard_at_string, binOp, Op.stringOp], .prim rfl⟩
  · split at h
    · cases h
    · rename_i hg
      obtain ⟨b, hb, rfl⟩ := Option.map_eq_some_iff.1 h
      have he := equal_ok (w := w) 9999 (by omega) hx hy hb
      obtain ⟨xs', rfl, rx⟩ := hx.of_agg
      obtain ⟨ys', rfl, ry⟩ := hy.of_agg
      exact ⟨.bool b, by simp [eqGuard, hg, binOp, he], .prim rfl⟩
  · split at h
    · cases h
    · rename_i hg
      obtain ⟨b, hb, rfl⟩ := Option.map_eq_some_iff.1 h
      have he := equal_ok (w := w) 9999 (by omega) hx hy hb
      obtain ⟨xs', rfl, rx⟩ := hx.of_agg
      obtain ⟨ys', rfl, ry⟩ := hy.of_agg
      exact ⟨.bool !b, by simp [eqGuard, hg, binOp, he], .prim rfl⟩
  · cases h
  · cases h
  · obtain ⟨b, hb, rfl⟩ := Option.map_eq_some_iff.1 h
    clear h
    have he := equal_ok (w := w) 1 (by omega) hx hy hb
    refine ⟨.bool b, ?_, .prim rfl⟩
    unfold aEq at hb
    split at hb
    · obtain rfl := hx.of_bool; obtain rfl := hy.of_bool; simp [eqGuard_at_bool, binOp, he]
    · obtain rfl := hx.of_int; obtain rfl := hy.of_int
      split at hb
      · subst_vars; simp at hb; subst hb; simp [eqGuard_at_int, binOp_eql, binOp_neq, bne]
      · cases hb
    · exfalso; simp_all
    · obtain rfl := hx.of_nilPtr; obtain ⟨_, rfl, _⟩ := hy.of_ptr_any; simp [eqGuard_at_pointer, binOp, he]
    · obtain rfl := hy.of_nilPtr; obtain ⟨_, _, _, _, rfl⟩ := hx.of_ptr; simp [eqGuard_at_pointer, binOp, he]
    · obtain rfl := hy.of_nilPtr; obtain ⟨_, _, _, rfl, _⟩ := hx.of_pfz; simp [eqGuard_at_pointer, binOp, he]
    · obtain ⟨rfl, rfl, rfl⟩ := hy.of_nilSlice
      rcases hx.of_fz with ⟨c, o, k', us, rfl, _⟩ | ⟨_, hn, _⟩
      · simp [eqGuard_at_slice, binOp, he]
      · omega
    · obtain ⟨rfl, rfl, rfl⟩ := hx.of_nilSlice; obtain ⟨_, _, rfl, _⟩ := hy.of_slice_any; simp [eqGuard_at_slice, binOp, he]
    · obtain ⟨rfl, rfl, rfl⟩ := hy.of_nilSlice; obtain ⟨_, _, _, _, _, _, rfl, _⟩ := hx.of_slice; simp [eqGuard_at_slice, binOp, he]
    · obtain rfl := hx.of_nilMap; obtain ⟨_, rfl, _⟩ := hy.of_map_any; simp [eqGuard_at_map, binOp, he]
    · obtain rfl := hy.of_nilMap; obtain ⟨_, _, rfl⟩ := hx.of_map; simp [eqGuard_at_map, binOp, he]
    · obtain rfl := hx.of_nilFunc; obtain rfl := hy.of_nilFunc; simp [eqGuard_at_nilFunc, binOp, he]
    · obtain rfl := hx.of_nilFunc; obtain ⟨_, _, rfl, _⟩ := hy.of_func; simp [eqGuard_at_nilFunc, binOp, he]
    · obtain rfl := hy.of_nilFunc; obtain ⟨_, _, rfl, _⟩ := hx.of_func; simp [eqGuard_at_func, binOp, he]
    · obtain rfl := hx.of_nilIface; obtain ⟨_, rfl, _⟩ := hy.of_iface; simp [eqGuard_nil_iface, binOp, he]
    · obtain rfl := hy.of_nilIface; obtain ⟨_, rfl, _⟩ := hx.of_iface; simp [eqGuard_at_iface, binOp, he]
    · exfalso; simp_all
    · exfalso; simp_all
    · cases hb
  · obtain ⟨b, hb, rfl⟩ := Option.map_eq_some_iff.1 h
    clear h
    have he := equal_ok (w := w) 1 (by omega) hx hy hb
    refine ⟨.bool !b, ?_, .prim rfl⟩
    unfold aEq at hb
    split at hb
    · obtain rfl := hx.of_bool; obtain rfl := hy.of_bool; simp [eqGuard_at_bool, binOp, he]
    · obtain rfl := hx.of_int; obtain rfl := hy.of_int
      split at hb
      · subst_vars; simp at hb; subst hb; simp [eqGuard_at_int, binOp_eql, binOp_neq, bne]
      · cases hb
    · exfalso; simp_all
    · obtain rfl := hx.of_nilPtr; obtain ⟨_, rfl, _⟩ := hy.of_ptr_any; simp [eqGuard_at_pointer, binOp, he]
    · obtain rfl := hy.of_nilPtr; obtain ⟨_, _, _, _, rfl⟩ := hx.of_ptr; simp [eqGuard_at_pointer, binOp, he]
    · obtain rfl := hy.of_nilPtr; obtain ⟨_, _, _, rfl, _⟩ := hx.of_pfz; simp [eqGuard_at_pointer, binOp, he]
    · obtain ⟨rfl, rfl, rfl⟩ := hy.of_nilSlice
      rcases hx.of_fz with ⟨c, o, k', us, rfl, _⟩ | ⟨_, hn, _⟩
      · simp [eqGuard_at_slice, binOp, he]
      · omega
    · obtain ⟨rfl, rfl, rfl⟩ := hx.of_nilSlice; obtain ⟨_, _, rfl, _⟩ := hy.of_slice_any; simp [eqGuard_at_slice, binOp, he]
    · obtain ⟨rfl, rfl, rfl⟩ := hy.of_nilSlice; obtain ⟨_, _, _, _, _, _, rfl, _⟩ := hx.of_slice; simp [eqGuard_at_slice, binOp, he]
    · obtain rfl := hx.of_nilMap; obtain ⟨_, rfl, _⟩ := hy.of_map_any; simp [eqGuard_at_map, binOp, he]
    · obtain rfl := hy.of_nilMap; obtain ⟨_, _, rfl⟩ := hx.of_map; simp [eqGuard_at_map, binOp, he]
    · obtain rfl := hx.of_nilFunc; obtain rfl := hy.of_nilFunc; simp [eqGuard_at_nilFunc, binOp, he]
    · obtain rfl := hx.of_nilFunc; obtain ⟨_, _, rfl, _⟩ := hy.of_func; simp [eqGuard_at_nilFunc, binOp, he]
    · obtain rfl := hy.of_nilFunc; obtain ⟨_, _, rfl, _⟩ := hx.of_func; simp [eqGuard_at_func, binOp, he]
    · obtain rfl := hx.of_nilIface; obtain ⟨_, rfl, _⟩ := hy.of_iface; simp [eqGuard_nil_iface, binOp, he]
    · obtain rfl := hy.of_nilIface; obtain ⟨_, rfl, _⟩ := hx.of_iface; simp [eqGuard_at_iface, binOp, he]
    · exfalso; simp_all
    · exfalso; simp_all
    · cases hb
  · cases h

theorem aUn_ok {P : Program} {φ : Ren} {op : UnOp} {x x' v : Value} (hx : VRel φ x x') (h : aUn op x = some v) (w : World) : (Op.unary op x').run P w = .ok v w ∧ VRel φ v v := by
  unfold aUn at h
  split at h
  · rw [hx.of_int]; simp at h; subst h; exact ⟨by simp [Op.unary, Op.intArith], .prim rfl⟩
  · rw [hx.of_int]; exact ⟨by simpa [Op.unary] using (aBits_ok (P := P) (φ := φ) h w).1, (aBits_ok (P := P) (φ := φ) h w).2⟩
  · rw [hx.of_bool]; simp at h; subst h; exact ⟨by simp [Op.unary], .prim rfl⟩
  · cases h
theorem aConv_ok {P : Program} {φ : Ren} {s d : TypeId} {x x' v : Value} (hx : VRel φ x x') (h : aConv P s d x = some v) (w : World) : (convert s d x').run P w = .ok v w ∧ VRel φ v v := by
  unfold aConv at h
  split at h
  · rename_i hs hd; rw [hx.of_int]; simp at h; subst h; exact ⟨by simp [convert, run_underlying hs, run_underlying hd, Conv.intToInt], .prim rfl⟩
  · cases h
theorem ptrOf_some {v : Value} {b o : Nat} (h : ptrOf v = some (b, o)) : v = .pointer (some ⟨b, o, none⟩) := by
  unfold ptrOf at h
  split at h
  · simp at h; obtain ⟨rfl, rfl⟩ := h; rfl
  · cases h
theorem VRel.of_ptr' {φ : Ren} {b o : Nat} {v' : Value} (h : VRel φ (.pointer (some ⟨b, o, none⟩)) v') : ∃ c d, φ b = some (c, d) ∧ v' = .pointer (some ⟨c, d + o, none⟩) := by
  obtain ⟨c, d, _, h1, h2⟩ := h.of_ptr; exact ⟨c, d, h1, h2⟩
theorem fcells_some {v : Value} {cs : Array Value} (h : fcells v = some cs) : ∃ m ms, v = .func (.method m) ms cs := by
  unfold fcells at h
  split at h
  · simp at h; subst h; exact ⟨_, _, rfl⟩
  · cases h
theorem still_part {φ : Ren} {c o : Nat} {cs : Array Value} {us : Nat → Value} (h0 : ∀ i, i < cs.size → φ.still c (o + i) = some (us i)) (h1 : ∀ (i : Nat) (v : Value), cs[i]? = some v → VRel φ v (us i)) {a b : Nat} (hb : (cs.extract a b).size ≤ cs.size - a) :
    VRel φ (pfz (cs.extract a b)) (.pointer (some ⟨c, o + a, none⟩)) := by
  refine .pfz (us := fun i => us (a + i)) (fun i hi => ?_) fun i v hv => ?_
  · rw [Nat.add_assoc]; exact h0 _ (by omega)
  · have hlt := (Array.getElem?_eq_some_iff.1 hv).1
    have e : cs[a + i]? = some v := by
      rw [← hv, Array.getElem?_extract]
      simp at hlt
      rw [if_pos (by omega)]
    exact h1 _ _ e
theorem still_rows {φ : Ren} {c o n k' : Nat} {cs : Array Value} {us : Nat → Value} (hn : n ≤ k') (h0 : ∀ i, i < cs.size → φ.still c (o + i) = some (us i)) (h1 : ∀ (i : Nat) (v : Value), cs[i]? = some v → VRel φ v (us i)) {a b : Nat} :
    VRel φ (fz n (cs.extract a b)) (.slice (some ⟨c, o + a, none⟩) n k') := by
  refine .fz (us := fun i => us (a + i)) hn (fun i hi => ?_) fun i v hv => ?_
  · rw [Nat.add_assoc]; simp at hi; exact h0 _ (by omega)
  · have hlt := (Array.getElem?_eq_some_iff.1 hv).1
    have e : cs[a + i]? = some v := by
      rw [← hv, Array.getElem?_extract]
      simp at hlt
      rw [if_pos (by omega)]
    exact h1 _ _ e
theorem aFieldAddr_ok {P : Program} {φ : Ren} {s : TypeId} {f : Nat} {x x' v : Value} (hx : VRel φ x x') (h : aFieldAddr P s x f = some v) (w : World) :
    ∃ v', (Instr.fieldAt s x' f).run P w = .ok v' w ∧ VRel φ v v' := by
  unfold aFieldAddr at h
  split at h
  · rename_i cs hp
    obtain ⟨fd, hf, h⟩ := Option.bind_eq_some_iff.1 h
    split at h
    · rename_i n hs
      split at h
      · rename_i hle
        simp at h; subst h
        obtain ⟨m, ms, rfl⟩ := fcells_some hp
        obtain ⟨c, o, us, rfl, h0, h1⟩ := hx.of_pfz
        unfold fieldOf at hf
        split at hf
        · rename_i fs hu
          refine ⟨.pointer (some ⟨c, o + fd.offset, none⟩), ?_, still_part (us := us) h0 h1 (by simp; omega)⟩
          simp [Instr.fieldAt, run_underlying hu, hf, Instr.sureAddr, fieldPlace, run_sizeOf' hs, Addr.add_lit, Nat.add_assoc]
        · cases hf
      · cases h
    · cases h
  split at h
  · rename_i b o fd hp hf
    split at h
    · rename_i n hs
      simp at h; subst h
      rw [ptrOf_some hp] at hx
      obtain ⟨c, d, e, rfl⟩ := hx.of_ptr'
      unfold fieldOf at hf
      split at hf
      · rename_i fs hu
        refine ⟨.pointer (some ⟨c, d + (o + fd.offset), none⟩), ?_, .ptr e⟩
        simp [Instr.fieldAt, run_underlying hu, hf, Instr.sureAddr, fieldPlace, run_sizeOf' hs, Addr.add_lit, Nat.add_assoc]
      · cases hf
    · cases h
  · cases h
theorem aField_ok {P : Program} {φ : Ren} {s : TypeId} {f : Nat} {x x' v : Value} (hx : VRel φ x x') (h : aField P s x f = some v) (w : World) :
    ∃ v', (Instr.field s x' f).run P w = .ok v' w ∧ VRel φ v v' := by
  unfold aField at h
  split at h
  · rename_i cs fd hf
    obtain ⟨cs', rfl, hc⟩ := hx.of_agg
    unfold fieldOf at hf
    split at hf
    · rename_i fs hu
      obtain ⟨v', e, r⟩ := aPart_ok hc h w
      exact ⟨v', by simp [Instr.field, run_underlying hu, hf, asAgg, e], r⟩
    · cases hf
  · cases h
theorem aIndexAddr_ok {P : Program} {φ : Ren} {t : TypeId} {x i x' i' v : Value} (hx : VRel φ x x') (hi : VRel φ i i') (h : aIndexAddr P t x i = some v) (w : World) :
    ∃ v', (Instr.indexAt t x' i').run P w = .ok v' w ∧ VRel φ v v' := by
  unfold aIndexAddr at h
  split at h
  · rename_i elem b o len cap k n hu
    rw [hi.of_int]
    split at h
    · rename_i s hs
      split at h
      · rename_i hb
        simp at h; subst h
        obtain ⟨c, d, o', k', _, e, rfl, _, ho, _⟩ := hx.of_slice
        have ho : o' = d + o := by
          rcases ho with ho | ho
          · omega
          · exact ho
        subst ho
        refine ⟨.pointer (some ⟨c, d + (o + n.toNat * s), none⟩), ?_, .ptr e⟩
        simp [Instr.indexAt, run_underlying hu, asIntOf, hb, run_sizeOf' hs, Addr.add_lit, Nat.add_assoc]
      · cases h
    · cases h
  · rename_i len elem b o k n hu
    rw [hi.of_int]
    split at h
    · rename_i s hs
      split at h
      · rename_i hb
        simp at h; subst h
        obtain ⟨c, d, e, rfl⟩ := hx.of_ptr'
        refine ⟨.pointer (some ⟨c, d + (o + n.toNat * s), none⟩), ?_, .ptr e⟩
        simp [Instr.indexAt, run_underlying hu, asIntOf, hb, run_sizeOf' hs, Addr.add_lit, Nat.add_assoc, Instr.sureAddr]
      · cases h
    · cases h
  · rename_i elem len ms cs k n hu
    rw [hi.of_int]
    split at h
    · rename_i s hs
      split at h
      · rename_i hb
        simp at h; subst h
        rcases hx.of_fz with ⟨c, o, k', us, rfl, hk, h0, h1⟩ | ⟨_, hn, _⟩
        · refine ⟨.pointer (some ⟨c, o + n.toNat * s, none⟩), ?_, still_part h0 h1 (by simp; omega)⟩
          simp [Instr.indexAt, run_underlying hu, asIntOf, hb, run_sizeOf' hs, Addr.add_lit, Nat.add_assoc]
        · omega
      · cases h
    · cases h
  · rename_i len elem ms cs k n hu
    rw [hi.of_int]
    split at h
    · rename_i s hs
      split at h
      · rename_i hb
        simp at h; subst h
        obtain ⟨c, o, us, rfl, h0, h1⟩ := hx.of_pfz
        refine ⟨.pointer (some ⟨c, o + n.toNat * s, none⟩), ?_, still_part h0 h1 (by simp; omega)⟩
        simp [Instr.indexAt, run_underlying hu, asIntOf, hb, run_sizeOf' hs, Addr.add_lit, Nat.add_assoc, Instr.sureAddr]
      · cases h
    · cases h
  · cases h
theorem aIndex_ok {P : Program} {φ : Ren} {t : TypeId} {x i x' i' v : Value} (hx : VRel φ x x') (hi : VRel φ i i') (h : aIndex P t x i = some v) (w : World) :
    ∃ v', (Instr.index t x' i').run P w = .ok v' w ∧ VRel φ v v' := by
  unfold aIndex at h
  split at h
  · rename_i len elem cs k n hu
    rw [hi.of_int]
    split at h
    · rename_i s hs
      split at h
      · rename_i hb
        obtain ⟨cs', rfl, hc⟩ := hx.of_agg
        obtain ⟨v', e, r⟩ := aPart_ok hc h w
        exact ⟨v', by simp [Instr.index, run_underlying hu, asIntOf, hb, run_sizeOf' hs, e], r⟩
      · cases h
    · cases h
  · rename_i s k n hu
    rw [hi.of_int, hx.of_string]
    split at h
    · rename_i hb
      obtain ⟨b, hb', rfl⟩ := Option.map_eq_some_iff.1 h
      exact ⟨_, by simp [Instr.index, run_underlying hu, asIntOf, hb, hb'], .prim rfl⟩
    · cases h
  · cases h
theorem aExtract_ok {P : Program} {φ : Ren} {x x' v : Value} {i : Nat} (hx : VRel φ x x') (h : aExtract x i = some v) (w : World) :
    ∃ v', (Instr.extract x' i).run P w = .ok v' w ∧ VRel φ v v' := by
  unfold aExtract at h
  split at h
  · rename_i vs
    split at h
    · cases h
    · rename_i hsz
      have hv : vs ≠ #[.nilFunc] := by
        rintro rfl
        exact hsz (by simp)
      obtain ⟨vs', rfl, hc⟩ := hx.of_tuple hv
      obtain ⟨v', e, r⟩ := hc.get (show vs.toList[i]? = some v by simpa using h)
      simp at e
      exact ⟨v', by simp [Instr.extract, e], r⟩
  · cases h

theorem bound_ok {P : Program} {φ : Ren} {v v' : Value} {most most' n : Nat} {dflt : Nat} {code : Go.BoundsCode} (hv : VRel φ v v') (hm : most ≤ most') (h : bound (some v) dflt most = some n) (w : World) :
    (Instr.sliceBound v' most' code).run P w = .ok n w := by
  unfold bound at h
  split at h
  · rename_i e; cases e
  · rename_i k i e
    obtain rfl := Option.some.inj e
    rw [hv.of_int]
    split at h
    · rename_i hb
      obtain rfl := Option.some.inj h
      have : 0 ≤ i ∧ i ≤ most' := ⟨hb.1, by omega⟩
      simp [Instr.sliceBound, asIntOf, this]
    · cases h
  · cases h
/-- Bounds: what stands in the interpreter's, and the machine's, whose capacity may be more. -/
theorem bounds_ok {P : Program} {φ : Ren} {lo hi lo' hi' : Option Value} {len cap cap' h l : Nat} {sl : Bool}
    (hlo : ∀ v, lo = some v → ∃ v', lo' = some v' ∧ VRel φ v v') (hlo0 : lo = none → lo' = none) (hhi : ∀ v, hi = some v → ∃ v', hi' = some v' ∧ VRel φ v v') (hhi0 : hi = none → hi' = none)
    (hc : cap ≤ cap') (eh : bound hi len cap = some h) (el : bound lo 0 h = some l) (w : World) :
    (Instr.sliceBounds sl len cap' lo' hi' none).run P w = .ok (l, h, cap') w := by
  cases hi with
  | none =>
    obtain rfl := hhi0 rfl
    simp [bound] at eh; subst eh
    cases lo with
    | none => obtain rfl := hlo0 rfl; simp [bound] at el; subst el; simp [Instr.sliceBounds]
    | some v => obtain ⟨v', rfl, r⟩ := hlo v rfl; simp [Instr.sliceBounds, bound_ok r (Nat.le_refl _) el w]
  | some u =>
    obtain ⟨u', rfl, ru⟩ := hhi u rfl
    cases lo with
    | none => obtain rfl := hlo0 rfl; simp [bound] at el; subst el; simp [Instr.sliceBounds, bound_ok ru hc eh w]
    | some v => obtain ⟨v', rfl, r⟩ := hlo v rfl; simp [Instr.sliceBounds, bound_ok ru hc eh w, bound_ok r (Nat.le_refl _) el w]

theorem aMin_ok {P : Program} {φ : Ren} {l l' : List Value} {v : Value} (hl : LRel φ l l') (h : aMin l = some v) (ts : Array TypeId) (t : TypeId) (w : World) :
    (Builtin.min_ ts t l'.toArray).run P w = .ok v w ∧ VRel φ v v := by
  unfold aMin at h
  split at h
  · rename_i k x k' y
    obtain ⟨a, e, r⟩ := hl.get (i := 0) rfl
    obtain ⟨b, e', r'⟩ := hl.get (i := 1) rfl
    rw [r.of_int] at e; rw [r'.of_int] at e'
    have hn := hl.1
    match l', hn, e, e' with
    | [_, _], _, e, e' =>
      simp at e e' h; subst e e' h
      exact ⟨by simp [Builtin.min_, Builtin.min2], .prim rfl⟩
  · rename_i k x k' y k'' z
    obtain ⟨a, e, r⟩ := hl.get (i := 0) rfl
    obtain ⟨b, e', r'⟩ := hl.get (i := 1) rfl
    obtain ⟨c, e'', r''⟩ := hl.get (i := 2) rfl
    rw [r.of_int] at e; rw [r'.of_int] at e'; rw [r''.of_int] at e''
    have hn := hl.1
    match l', hn, e, e', e'' with
    | [_, _, _], _, e, e', e'' =>
      simp at e e' e'' h; subst e e' e'' h
      exact ⟨by simp [Builtin.min_, Builtin.min2], .prim rfl⟩
  · cases h
theorem aMax_ok {P : Program} {φ : Ren} {l l' : List Value} {v : Value} (hl : LRel φ l l') (h : aMax l = some v) (ts : Array TypeId) (t : TypeId) (w : World) :
    (Builtin.max_ ts t l'.toArray).run P w = .ok v w ∧ VRel φ v v := by
  unfold aMax at h
  split at h
  · rename_i k x k' y
    obtain ⟨a, e, r⟩ := hl.get (i := 0) rfl
    obtain ⟨b, e', r'⟩ := hl.get (i := 1) rfl
    rw [r.of_int] at e; rw [r'.of_int] at e'
    have hn := hl.1
    match l', hn, e, e' with
    | [_, _], _, e, e' =>
      simp at e e' h; subst e e' h
      exact ⟨by simp [Builtin.max_, Builtin.max2], .prim rfl⟩
  · rename_i k x k' y k'' z
    obtain ⟨a, e, r⟩ := hl.get (i := 0) rfl
    obtain ⟨b, e', r'⟩ := hl.get (i := 1) rfl
    obtain ⟨c, e'', r''⟩ := hl.get (i := 2) rfl
    rw [r.of_int] at e; rw [r'.of_int] at e'; rw [r''.of_int] at e''
    have hn := hl.1
    match l', hn, e, e', e'' with
    | [_, _, _], _, e, e', e'' =>
      simp at e e' e'' h; subst e e' e'' h
      exact ⟨by simp [Builtin.max_, Builtin.max2], .prim rfl⟩
  · cases h
end Go.Ab
