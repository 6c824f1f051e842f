/- Rules that the printed walks use: slices of one's own. -/
import Derived.Test.YtaclhflmgafobaaFzR
namespace Go.Ab
open Go
set_option linter.unusedSimpArgs false
set_option linter.unusedVariables false

section
variable {α β : Type} {P : Program} {σ : AH} {l : List It} {i : Nat} {t el tf : TypeId} {e : En α} {ef : En β} {v : Value} {xs : List α} {bytes : Nat}
/-- An element's place, and what stands there. -/
theorem It.sl_at (h : (It.sl e v xs).ok σ) (hT : Ty P el e) (hu : P.underlying t = some (.slice el)) {j : Int} {k : IntKind} {x : α} (h0 : 0 ≤ j) (hx : xs[j.toNat]? = some x) :
    ∃ b o, aIndexAddr P t v (.int k j) = some (.pointer (some ⟨b, o, none⟩)) ∧ ∃ C, σ.get b = some (.cells false e.sz C) ∧ (C.drop o).take e.sz = e.cells x ∧ o + e.sz ≤ C.length := by
  have hj : j.toNat < xs.length := (List.getElem?_eq_some_iff.1 hx).1
  obtain ⟨hl, ⟨hv, h1⟩ | ⟨b, o, cap, C, rfl, h1, h2, h3, h4, h5⟩⟩ := h
  · omega
  · have hmul : (j.toNat + 1) * e.sz ≤ xs.length * e.sz := Nat.mul_le_mul_right _ hj
    have hcap : xs.length * e.sz ≤ cap * e.sz := Nat.mul_le_mul_right _ h1
    rw [Nat.succ_mul] at hmul
    have hat := all_at (e := e) hx
    rw [h5, List.drop_take, List.drop_drop, List.take_take, Nat.min_eq_left (by omega)] at hat
    refine ⟨b, o + j.toNat * e.sz, ?_, C, h3, hat, by omega⟩
    simp only [aIndexAddr, hu, hT.sz]; rw [if_pos ⟨h0, by omega⟩]
theorem cells_load {b o z : Nat} {ro : Bool} {C : List Value} {σ' : AH} {y : β} (hg : σ'.get b = some (.cells ro z C)) (hT : Ty P tf ef) (hy : (C.drop o).take ef.sz = ef.cells y) : aLoad P tf (.pointer (some ⟨b, o, none⟩)) σ' = some (ef.val y) := by
  have hp := hT.pos
  have hl := ef.len y
  rw [← hy] at hl
  simp at hl
  simp only [aLoad, fcells, ptrOf, hT.ag, hT.sz]
  cases ho : ef.one with
  | false =>
    simp only [Bool.not_false, AH.row, hg]
    rw [if_pos (by omega), hy]
    simp only [Option.map_some]
    unfold En.val; rw [if_neg (by simp [ho])]
  | true =>
    simp only [Bool.not_true, AH.cell, hg]
    have h6 := val_one ef y ho
    rw [h6, ef.hone ho] at hy
    have : (C.drop o)[0]? = some (ef.val y) := by
      have h7 : ((C.drop o).take 1)[0]? = some (ef.val y) := by rw [hy]; rfl
      simpa [List.getElem?_take] using h7
    rw [List.getElem?_drop, Nat.add_zero] at this
    exact this
/-- A load through a pointer into a slice of one's own. -/
theorem Hp.elLoad (h : Hp σ l) (hi : l[i]? = some (It.sl e v xs)) (hE : Ty P el e) (hu : P.underlying t = some (.slice el)) {j : Int} {k : IntKind} {x : α} (hx : gx xs j = some x) {b o : Nat} (ha : aIndexAddr P t v (.int k j) = some (.pointer (some ⟨b, o, none⟩)))
    (hT : Ty P tf ef) {off : Nat} {y : β} (hy : ((e.cells x).drop off).take ef.sz = ef.cells y) {σ' : AH} (hσ : ∀ b, σ'.get b = σ.get b) : aLoad P tf (.pointer (some ⟨b, o + off, none⟩)) σ' = some (ef.val y) := by
  obtain ⟨h0, hx'⟩ := gx_some hx
  obtain ⟨b', o', ha', C, hg, hc, hle⟩ := It.sl_at (h.at hi) hE hu (k := k) h0 hx'
  rw [ha] at ha'
  simp only [Option.some.injEq, Value.pointer.injEq, Addr.mk.injEq, and_true] at ha'
  obtain ⟨rfl, rfl⟩ := ha'
  have hp := hT.pos
  have hl := ef.len y
  rw [← hy] at hl
  simp only [List.length_take, List.length_drop, e.len] at hl
  refine cells_load (by rw [hσ]; exact hg) hT ?_
  rw [← hc, List.drop_take, List.drop_drop, List.take_take, Nat.min_eq_left (by omega)] at hy
  exact hy
theorem Hp.elStore (h : Hp σ l) (hi : l[i]? = some (It.sl e v xs)) (hE : Ty P el e) (hu : P.underlying t = some (.slice el)) {j : Int} {k : IntKind} {x : α} (hx : gx xs j = some x) {b o : Nat} (ha : aIndexAddr P t v (.int k j) = some (.pointer (some ⟨b, o, none⟩)))
    (hT : Ty P tf ef) {off : Nat} {y : β} {x' : α} (hoff : off + ef.sz ≤ e.sz) (hy : spliceAt (e.cells x) off (ef.cells y) = e.cells x') :
    ∃ σ', aStore P tf (.pointer (some ⟨b, o + off, none⟩)) (ef.val y) σ = some σ' ∧ Hp σ' (l.set i (It.sl e v (xs.set j.toNat x'))) ∧ σ'.size = σ.size := by
  obtain ⟨h0, hx'⟩ := gx_some hx
  have hj : j.toNat < xs.length := (List.getElem?_eq_some_iff.1 hx').1
  obtain ⟨hl, ⟨hv, h1⟩ | ⟨b', o', cap, C, rfl, h1, h2, h3, h4, h5⟩⟩ := h.at hi
  · omega
  · have hmul : (j.toNat + 1) * e.sz ≤ xs.length * e.sz := Nat.mul_le_mul_right _ hj
    have hcap : xs.length * e.sz ≤ cap * e.sz := Nat.mul_le_mul_right _ h1
    rw [Nat.succ_mul] at hmul
    have ha2 : aIndexAddr P t (.slice (some ⟨b', o', none⟩) xs.length cap) (.int k j) = some (.pointer (some ⟨b', o' + j.toNat * e.sz, none⟩)) := by
      simp only [aIndexAddr, hu, hE.sz]; rw [if_pos ⟨h0, by omega⟩]
    rw [ha] at ha2
    simp only [Option.some.injEq, Value.pointer.injEq, Addr.mk.injEq, and_true] at ha2
    obtain ⟨rfl, rfl⟩ := ha2
    refine ⟨σ.put b (.cells false e.sz (spliceAt C (o' + j.toNat * e.sz + off) (ef.cells y))), ?_, ?_, AH.size_put⟩
    · simp only [aStore, ptrOf, hT.sz, val_cells, val_isTuple]
      rw [if_pos ⟨trivial, ef.len y, List.all_eq_true.2 (ef.cell y)⟩]
      simp only [AH.setRow, h3]
      rw [if_pos ⟨h2, by rw [ef.len]; omega⟩]
    · refine h.set hi rfl (by rw [AH.size_put]; exact Nat.le_refl _) (fun b' hb' hne => ?_) ⟨all_len _ _, .inr ⟨b, o', cap, _, by simp, by simpa using h1, h2, by rw [AH.get_put (AH.get_lt h3), if_pos rfl], ?_, ?_⟩⟩ fun b' hb' => .inl hb'
      · rw [AH.get_put (AH.get_lt h3), if_neg]; rintro rfl; exact hne rfl
      · simp only [spliceAt, List.length_append, List.length_take, List.length_drop, ef.len]; omega
      · have hC : spliceAt C (o' + j.toNat * e.sz + off) (ef.cells y) = spliceAt C (o' + j.toNat * e.sz) (e.cells x') := by
          rw [← hy]
          have hat := all_at (e := e) hx'
          rw [h5, List.drop_take, List.drop_drop, List.take_take, Nat.min_eq_left (by omega)] at hat
          have hel := e.len x
          apply List.ext_getElem?
          intro q
          rw [← hat]
          simp only [spliceAt, List.getElem?_append, List.getElem?_take, List.getElem?_drop, List.length_append, List.length_take, List.length_drop, ef.len]
          have e1 : min (o' + j.toNat * e.sz + off) C.length = o' + j.toNat * e.sz + off := by omega
          have e2 : min (o' + j.toNat * e.sz) C.length = o' + j.toNat * e.sz := by omega
          have e3 : min e.sz (C.length - (o' + j.toNat * e.sz)) = e.sz := by omega
          have e4 : min off e.sz = off := by omega
          simp only [e1, e2, e3, e4]
          by_cases c1 : q < o' + j.toNat * e.sz
          · rw [if_pos (by omega), if_pos (by omega), if_pos (by omega), if_pos (by omega), if_pos c1, if_pos c1]
          · by_cases c2 : q < o' + j.toNat * e.sz + off
            · rw [if_pos (by omega), if_pos (by omega), if_pos (by omega), if_pos (by omega), if_neg c1, if_pos (by omega), if_pos (by omega), if_pos (by omega), if_pos (by omega)]; congr 1; omega
            · by_cases c3 : q < o' + j.toNat * e.sz + off + ef.sz
              · rw [if_pos (by omega), if_neg (by omega), if_pos (by omega), if_neg c1, if_pos (by omega), if_neg (by omega)]; congr 1; omega
              · by_cases c4 : q < o' + j.toNat * e.sz + e.sz
                · rw [if_neg (by omega), if_pos (by omega), if_neg c1, if_neg (by omega), if_pos (by omega)]; congr 1; omega
                · rw [if_neg (by omega), if_neg (by omega)]; congr 1; omega
        rw [hC, List.length_set, take_splice (by rw [e.len]; omega) (by omega), ← h5, spliceAt_all hj]
theorem Hp.app (h : Hp σ l) (hi : l[i]? = some (It.sl e v xs)) (hu : P.underlying t = some (.slice el)) (hE : ElemT P el e.sz bytes) {xt : TypeId} {x : Value} {ys zs : List α} (hx : Src P σ xt x e.sz ys.length (e.all ys)) (hz : app bytes xs ys = some zs) :
    ∃ v' σ', aAppend P t xt v x σ = some (v', σ') ∧ Hp σ' (l.set i (It.sl e v' zs)) ∧ σ.size ≤ σ'.size := by
  obtain ⟨h1, rfl⟩ := app_some hz
  exact h.append hi hu hE hx h1
theorem Hp.mkl (h : Hp σ l) (hu : P.underlying t = some (.slice el)) (hE : ElemT P el e.sz bytes) {z : α} (hz : zeroOf P el = some (e.val z)) {n : Int} {k k' : IntKind} {zs : List α} (hn : mkn n z = some zs) (hbt : bytes ≤ 2 ^ 20) :
    ∃ v σ', aMakeSlice P t (.int k n) (.int k' n) σ = some (v, σ') ∧ Hp σ' (It.sl e v zs :: l) ∧ σ.size ≤ σ'.size := by
  obtain ⟨h1, h2, rfl⟩ := mkn_some hn
  exact h.make hu hE hz h1 h2 hbt
/-- Bounds of a part. -/
def lo? (a : Option Int) : Int := a.getD 0
def hi? {α : Type} (xs : List α) (b : Option Int) : Int := b.getD xs.length
theorem bnd_lo {k : IntKind} {a : Option Int} {m : Nat} (h0 : 0 ≤ lo? a) (h1 : lo? a ≤ m) : bound (a.map (Value.int k)) 0 m = some (lo? a).toNat := by
  cases a with
  | none => rfl
  | some a => exact bound_int h0 h1
theorem bnd_hi {k : IntKind} {b : Option Int} {xs : List α} (h0 : 0 ≤ hi? xs b) (h1 : hi? xs b ≤ xs.length) : bound (b.map (Value.int k)) xs.length xs.length = some (hi? xs b).toNat := by
  cases b with
  | none => simp [bound, hi?]
  | some b => exact bound_int h0 h1
theorem cut_still (h : Ty P el e) (hu : P.underlying t = some (.slice el)) {a b : Option Int} {k k' : IntKind} {zs : List α} (hz : cut xs (lo? a) (hi? xs b) = some zs) (σ : AH) :
    aSlice P t (slv e xs) (a.map (Value.int k)) (b.map (Value.int k')) none σ = some (slv e zs) := by
  obtain ⟨⟨h0, h1, h2⟩, rfl⟩ := cut_some hz
  exact slice_still h hu (bnd_hi (by omega) h2) (bnd_lo h0 (by omega)) σ (by omega) (by omega)
theorem Hp.cutAt (hH : Hp σ l) (hi : l[i]? = some (It.sl e v xs)) (h : Ty P el e) (hu : P.underlying t = some (.slice el)) {a b : Option Int} {k k' : IntKind} {zs : List α} (hz : cut xs (lo? a) (hi? xs b) = some zs) :
    ∃ r, aSlice P t v (a.map (Value.int k)) (b.map (Value.int k')) none σ = some r ∧ Hp σ (l.set i (It.sl e r zs)) := by
  obtain ⟨⟨h0, h1, h2⟩, rfl⟩ := cut_some hz
  exact hH.upto' hi h hu (bnd_hi (by omega) h2) (bnd_lo h0 (by omega)) (by omega) (by omega)
end
section
variable {P : Program} {t : TypeId} {x y : BitVec 64}
theorem word_sub : aBin P .sub t (w64 x) (w64 y) = some (w64 (x - y)) := by
  rw [w64, w64, int_sub, wrap_ofInt]
  have : BitVec.ofInt 64 ((x.toNat : Int) - y.toNat) = x - y := by
    apply BitVec.eq_of_toNat_eq
    rw [BitVec.toNat_ofInt, BitVec.toNat_sub]
    have := x.isLt; have := y.isLt; omega
  rw [this]; rfl
theorem word_lss : aBin P .lss t (w64 x) (w64 y) = some (.bool (decide (x < y))) := by
  rw [w64, w64, int_lss]; exact congrArg (fun q => some (Value.bool q)) (decide_eq_decide.2 (by rw [BitVec.lt_def]; omega))
theorem word_leq : aBin P .leq t (w64 x) (w64 y) = some (.bool (decide (x ≤ y))) := by
  rw [w64, w64, int_leq]; exact congrArg (fun q => some (Value.bool q)) (decide_eq_decide.2 (by rw [BitVec.le_def]; omega))
theorem word_gtr : aBin P .gtr t (w64 x) (w64 y) = some (.bool (decide (y < x))) := by
  rw [w64, w64, int_gtr]; exact congrArg (fun q => some (Value.bool q)) (decide_eq_decide.2 (by rw [BitVec.lt_def]; omega))
theorem word_geq : aBin P .geq t (w64 x) (w64 y) = some (.bool (decide (y ≤ x))) := by
  rw [w64, w64, int_geq]; exact congrArg (fun q => some (Value.bool q)) (decide_eq_decide.2 (by rw [BitVec.le_def]; omega))
theorem bool_eql {a b : Bool} (h : P.underlying t = some .bool) : aBin P .eql t (.bool a) (.bool b) = some (.bool (a == b)) := by
  simp only [aBin, aEq, h, Option.map_some]
theorem bool_neq {a b : Bool} (h : P.underlying t = some .bool) : aBin P .neq t (.bool a) (.bool b) = some (.bool (!(a == b))) := by
  simp only [aBin, aEq, h, Option.map_some]
end
section
variable {P : Program} {nt n0 : Nat} {t : Tmps} {σ : AH} {Q : AExit → Tmps → AH → Prop} {k : Tmps → AH → Prop}
theorem Then.at (h : k t σ) : Then k Q .normal t σ := h
theorem Then.ret (h : Q .ret t σ) : Then k Q .ret t σ := h
theorem Then.exit {id : Nat} (h : Q (.exit id) t σ) : Then k Q (.exit id) t σ := h
theorem Block.at {id : Nat} (h : Q .normal t σ) : Block id Q .normal t σ := h
theorem Block.ret {id : Nat} (h : Q .ret t σ) : Block id Q .ret t σ := h
end
theorem Flats.tup {l : List Value} (h : Flats l) (hne : l ≠ [.nilFunc]) : Flat (.tuple l.toArray) := Flat.tuple (fun e => hne (by simpa using congrArg Array.toList e)) (by simpa [Flats] using h)
theorem w64_iff {x y : BitVec 64} : (w64 x = w64 y) ↔ x = y := ⟨fun h => BitVec.eq_of_toNat_eq (by simp [w64] at h; omega), fun h => by rw [h]⟩
theorem slv_iff {α : Type} {e : En α} {x y : List α} : (slv e x = slv e y) ↔ x = y := ⟨slv_inj e x y, fun h => by rw [h]⟩
theorem val_iff {α : Type} {e : En α} {x y : α} : (e.val x = e.val y) ↔ x = y := ⟨val_inj e, fun h => by rw [h]⟩
theorem conv_ww {P : Program} {s d : TypeId} {x : BitVec 64} (h1 : P.underlying s = some (.int .u64)) (h2 : P.underlying d = some (.int .u64)) : aConv P s d (w64 x) = some (w64 x) := by
  rw [w64, conv_int h1 h2]; exact congrArg some (congrArg (Value.int .u64) (wrap_nat x))
section
variable {α : Type} {P : Program} {nt n0 : Nat} {ops : Array Oper} {ol : List Oper} {o : Oper} {t : Tmps} {σ : AH} {Q : Tmps → AH → Prop} {l : List It} {e : En α}
theorem rep_map (z : List Value) (n : Nat) (f : Value → Value) : (rep z n).map f = rep (z.map f) n := by
  induction n with
  | zero => rfl
  | succ n ih => simp [rep, ih]
/-- A slice of zero values is made, in which nil slices stand. -/
theorem MO.makeW {ty el : TypeId} {L C : Operand} {k k' : IntKind} {n : Int} {zr : Value} {z : α} {zs : List α} {bytes : Nat} (hn : n0 ≤ σ.size) (hw : wantA ops o t = some true) (ho : o.op = .makeSlice ty L C) (hL : opv t L = .int k n) (hC : opv t C = .int k' n) (hu : P.underlying ty = some (.slice el)) (hE : ElemT P el e.sz bytes)
    (hz : zeroOf P el = some zr) (hzc : zr.cells.toList.map wkc = e.cells z) (hm : mkn n z = some zs) (hbt : bytes ≤ 2 ^ 20) (hH : Hp σ l) {d : Nat} (hd : o.dst = some d) (hdn : d < nt)
    (kk : ∀ v σ', Hp σ' (It.sl e v zs :: l) → MO P nt n0 ops ol (upd t d v) σ' Q) : MO P nt n0 ops (o :: ol) t σ Q := by
  obtain ⟨h0, hn1, rfl⟩ := mkn_some hm
  obtain ⟨ii, hi, hi1, hi2, hi3⟩ := hE.get
  obtain ⟨i', hi', hz', hc⟩ := zeroOf_some hz
  rw [hi] at hi'; obtain rfl := Option.some.inj hi'
  have hpos := hE.pos
  have hcs : zr.cells.size = e.sz := by have := congrArg List.length hzc; rw [e.len] at this; simpa using this
  have hlen := all_len e (List.replicate n.toNat z)
  rw [List.length_replicate] at hlen
  have hmul : (bytes : Int) * n ≤ 2 ^ 20 * 2 ^ 20 := Int.mul_le_mul (by omega) hn1 h0 (by decide)
  have hop : aOp P (opv t) o.op σ = some (.slice (some ⟨σ.size, 0, none⟩) n.toNat n.toNat, σ.push (.cells false e.sz (rep zr.cells.toList n.toNat))) := by
    rw [ho]
    refine ev_makeSlice hL hC ?_
    simp only [aMakeSlice, hu, hi, hz', hi1, hi2]
    rw [if_pos ⟨h0, Int.le_refl _, by omega, by omega, by omega, hcs, hc⟩]
  refine MO.op (t1 := upd t d (.slice (some ⟨σ.size, 0, none⟩) n.toNat n.toNat)) hn hw hop (by rw [hd]; simp only [putA, hdn, if_true]) ?_
  refine MO.weakH (σ2 := σ.push (.cells false e.sz (e.all (List.replicate n.toNat z)))) (by rw [AH.size_push, AH.size_push]) rfl (push_weak (by rw [rep_map, hzc, rep_all])) ?_
  exact kk _ _ (hH.push _ ⟨all_len _ _, .inr ⟨σ.size, 0, n.toNat, _, by simp, by simp, hH.base, by rw [AH.get_push, if_pos rfl], by omega, by rw [List.drop_zero, List.length_replicate, List.take_of_length_le (by omega)]⟩⟩ (fun b hb => by cases hb; exact Nat.le_refl _))
end
section
variable {P : Program} {t : TypeId} {x y : BitVec 64} {a b : Int}
theorem word_quo (h : y ≠ 0#64) : aBin P .quo t (w64 x) (w64 y) = some (w64 (x / y)) := by
  have h0 : (y.toNat : Int) ≠ 0 := fun e => h (BitVec.eq_of_toNat_eq (by simpa using e))
  rw [w64, w64, int_quo h0, wrap_ofInt]
  have : BitVec.ofInt 64 (Int.tdiv (x.toNat : Int) y.toNat) = x / y := by
    apply BitVec.eq_of_toNat_eq
    rw [BitVec.toNat_ofInt, BitVec.toNat_udiv, Int.tdiv_eq_ediv_of_nonneg (by omega)]
    have := x.isLt
    have h1 : x.toNat / y.toNat ≤ x.toNat := Nat.div_le_self _ _
    have h2 : ((x.toNat : Int) / (y.toNat : Int)) = ((x.toNat / y.toNat : Nat) : Int) := by norm_cast
    rw [h2]
    clear h2
    generalize x.toNat / y.toNat = q at *
    omega
  rw [this]; rfl
theorem word_rem (h : y ≠ 0#64) : aBin P .rem t (w64 x) (w64 y) = some (w64 (x % y)) := by
  have h0 : (y.toNat : Int) ≠ 0 := fun e => h (BitVec.eq_of_toNat_eq (by simpa using e))
  rw [w64, w64, int_rem h0]
  have h2 : Int.tmod (x.toNat : Int) y.toNat = ((x % y).toNat : Int) := by
    rw [BitVec.toNat_umod, Int.tmod_eq_emod_of_nonneg (by omega)]; norm_cast
  rw [h2]; rfl
def iand (a b : Int) : Int := IntKind.i64.wrap (((BitVec.ofInt 64 a) &&& (BitVec.ofInt 64 b)).toNat : Int)
def ior (a b : Int) : Int := IntKind.i64.wrap (((BitVec.ofInt 64 a) ||| (BitVec.ofInt 64 b)).toNat : Int)
def ixor (a b : Int) : Int := IntKind.i64.wrap (((BitVec.ofInt 64 a) ^^^ (BitVec.ofInt 64 b)).toNat : Int)
theorem i64_and : aBin P .and t (.int .i64 a) (.int .i64 b) = some (.int .i64 (iand a b)) := by simp only [aBin, aInt, if_true, aBits]; rfl
theorem i64_or : aBin P .or t (.int .i64 a) (.int .i64 b) = some (.int .i64 (ior a b)) := by simp only [aBin, aInt, if_true, aBits]; rfl
theorem i64_xor : aBin P .xor t (.int .i64 a) (.int .i64 b) = some (.int .i64 (ixor a b)) := by simp only [aBin, aInt, if_true, aBits]; rfl
theorem i64_shr {k : IntKind} (h : 0 ≤ b) : aBin P .shr t (.int .i64 a) (.int k b) = some (.int .i64 (Int.fdiv a (2 ^ (min b.toNat 64)))) := by
  simp only [aBin, aShift, if_neg (show ¬ b < 0 by omega)]; rfl
theorem i64_shl {k : IntKind} (h : 0 ≤ b) : aBin P .shl t (.int .i64 a) (.int k b) = some (.int .i64 (wr (a * 2 ^ (min b.toNat 64)))) := by
  simp only [aBin, aShift, if_neg (show ¬ b < 0 by omega)]; rfl
end
section
variable {P : Program} {t : TypeId}
theorem aeqI {k k' : IntKind} (h : P.underlying t = some (.int k)) (d : Nat) (x y : Int) : aEq P (d + 1) t (.int k' x) (.int k' y) = some (decide (x = y)) := by
  simp only [aEq, h, if_true]; rfl
theorem aeqB (h : P.underlying t = some .bool) (d : Nat) (x y : Bool) : aEq P (d + 1) t (.bool x) (.bool y) = some (decide (x = y)) := by
  simp only [aEq, h]; cases x <;> cases y <;> rfl
theorem aeqW (h : P.underlying t = some (.int .u64)) (d : Nat) (x y : BitVec 64) : aEq P (d + 1) t (w64 x) (w64 y) = some (decide (x = y)) := by
  simp only [w64]
  rw [aeqI h]; exact congrArg some (decide_eq_decide.2 nat_inj)
end
/-! ### memory in regions whose order is open -/
theorem aOp_base {P : Program} {ρ : Operand → Value} {op : Op} {σ σ1 : AH} {v : Value} (h : aOp P ρ op σ = some (v, σ1)) : σ1.base = σ.base := (evOp_grows noCall_grows h).base
section
variable {α : Type} {P : Program} {S : Caller} {nt : Nat} {ops : Array Oper} {ol : List Oper} {o : Oper} {t t1 : Tmps} {σ σ1 : AH} {v : Value} {Q : Tmps → AH → Prop} {fr : List Bool} {b : Bool} {l : List It} {e : En α} {d : Nat} {ty el : TypeId} {bytes : Nat}
theorem DD.freeM (hw : wantA ops o t = some true) (ho : aOp P (opv t) o.op σ = some (v, σ1)) (hp : putA nt t o.dst v = some t1) (h : DD P S nt ops ol fr t1 σ1 Q) : DD P S nt ops (o :: ol) (true :: fr) t σ Q :=
  DD.free hw ho (aOp_base ho) hp h
theorem DD.lit {n : Nat} {ps : Array (Nat × Operand)} {qs : List (Nat × Value)} {z : Value} {ys : List α} (hw : wantA ops o t = some true) (ho : o.op = .buildSlice ty n ps) (hq : ps.toList.map (fun p => (p.1, opv t p.2)) = qs) (hH : Hp σ l) (hu : P.underlying ty = some (.slice el)) (hE : ElemT P el e.sz bytes) (hz : zeroOf P el = some z) (hsz : z.cells.size = e.sz)
    (hn : n = ys.length) (hs : ys.length * e.sz ≤ 2 ^ 24) (hqs : qs = ys.zipIdx.map fun x => (x.2, e.val x.1)) (hd : o.dst = some d) (hdn : d < nt)
    (k : ∀ v σ', Hp σ' (It.sl e v ys :: l) → DD P S nt ops ol fr (upd t d v) σ' Q) : DD P S nt ops (o :: ol) (b :: fr) t σ Q := by
  subst hn
  refine DD.push (v := if ys.length = 0 then emp else .slice (some ⟨σ.size, 0, none⟩) ys.length ys.length) (t1 := upd t d (if ys.length = 0 then emp else .slice (some ⟨σ.size, 0, none⟩) ys.length ys.length)) (x := if ys.length = 0 then .dead else .cells false e.sz (e.all ys)) hw (fun n => ?_) (by rw [hd]; simp only [putA, hdn, if_true]) (k _ _ (lit_hp hH e ys))
  rw [ho]
  exact ev_buildSlice hq (lit_ev hu hE hz hsz ys hs hqs (σ.withBase n))
/-- An append to a literal without elements. -/
theorem DD.appE {X Y : Operand} {xt : TypeId} {y : Value} {ys : List α} (hw : wantA ops o t = some true) (ho : o.op = .call { callee := .builtin .append, args := #[X, Y], argTypes := #[ty, xt] }) (hX : opv t X = emp) (hY : opv t Y = y) (hH : Hp σ l) (hu : P.underlying ty = some (.slice el)) (hE : ElemT P el e.sz bytes)
    (hx : Src P σ xt y e.sz ys.length (e.all ys)) {zs : List α} (hz : app bytes ([] : List α) ys = some zs) (hd : o.dst = some d) (hdn : d < nt)
    (k : ∀ v σ', Hp σ' (It.sl e v zs :: l) → DD P S nt ops ol fr (upd t d v) σ' Q) : DD P S nt ops (o :: ol) (b :: fr) t σ Q := by
  obtain ⟨hsmall, hzs⟩ := app_some hz
  rw [List.nil_append] at hzs
  rw [hzs] at k
  obtain ⟨xe, hxu⟩ := hx.ty
  have hlen := hx.len
  have hput : ∀ v, putA nt t o.dst v = some (upd t d v) := fun v => by rw [hd]; simp only [putA, hdn, if_true]
  by_cases h0 : ys.length = 0
  · have : ys = [] := List.eq_nil_of_length_eq_zero h0
    subst this
    refine DD.same (v := emp) hw (fun n => ?_) (hput _) (k _ _ (hH.empSl e))
    rw [ho]
    refine ev_append hX hY ?_
    show (if isEmp emp then aAppendE P ty xt emp y _ else _) = _
    rw [if_pos (show isEmp emp = true from rfl)]
    simp only [List.length_nil] at hlen
    simp [aAppendE, hu, hxu, hlen, hE.sz]
  · obtain ⟨ii, hii, hi1, hi2, hi3⟩ := hE.get
    have hnb : ¬ (e.sz = 0 ∨ bytes = 0 ∨ 2 ^ 34 < ys.length * bytes ∨ ii.zero.map (·.cells.size) ≠ some e.sz) := by
      simp only [not_or]; exact ⟨hE.pos, hE.bpos, by simp at hsmall; omega, by simpa using hi3⟩
    have hal := all_len e ys
    refine DD.push (v := .slice (some ⟨σ.size, 0, none⟩) ys.length ys.length) (x := .cells false e.sz (e.all ys)) hw (fun n => ?_) (hput _) (k _ _ (hH.push (it' := It.sl e (.slice (some ⟨σ.size, 0, none⟩) ys.length ys.length) ys) (.cells false e.sz (e.all ys)) ⟨all_len e ys, .inr ⟨σ.size, 0, ys.length, _, rfl, Nat.le_refl _, hH.base, by rw [AH.get_push, if_pos rfl], by omega, by rw [List.drop_zero, List.take_of_length_le (by omega)]⟩⟩ (fun b hb => by cases hb; exact Nat.le_refl _)))
    rw [ho]
    refine ev_append hX hY ?_
    show (if isEmp emp then aAppendE P ty xt emp y _ else _) = _
    rw [if_pos (show isEmp emp = true from rfl)]
    have hfirst : firstC (σ.withBase n) e.sz ys.length y = some (e.all ys) := hx.first
    simp only [aAppendE, hu, hlen, if_neg h0]
    simp only [aAppend0, hu, hxu, hlen, if_neg h0, hii, hi1, hi2, Nat.zero_add, if_neg hnb, hfirst, hx.cell]
    simp [AH.size_withBase]
theorem DD.boxN {X : Operand} {x : α} (hw : wantA ops o t = some true) (ho : o.op = .box ty X) (hX : opv t X = e.val x) (hH : Hp σ l) (hd : o.dst = some d) (hdn : d < nt)
    (k : ∀ b0 σ', Hp σ' (.box b0 (e.cells x) :: l) → DD P S nt ops ol fr (upd t d (.pointer (some ⟨b0, 0, none⟩))) σ' Q) : DD P S nt ops (o :: ol) (b :: fr) t σ Q := by
  refine DD.push (v := .pointer (some ⟨σ.size, 0, none⟩)) (t1 := upd t d (.pointer (some ⟨σ.size, 0, none⟩))) (x := .cells false 0 (e.cells x)) hw (fun n => ?_) (by rw [hd]; simp only [putA, hdn, if_true]) (k _ _ (hH.push _ ⟨hH.base, 0, by rw [AH.get_push, if_pos rfl]⟩ (fun b hb => by cases hb; exact Nat.le_refl _)))
  rw [ho]
  exact ev_box hX (val_isTuple e x) (by rw [val_cells]; rfl)
end
theorem want_undef {ops : Array Oper} {o : Oper} {t : Tmps} {j d : Nat} {want : Bool} (hg : o.guard = some (j, want)) (hd : (ops[j]?).bind (·.dst) = some d) (ht : t d = undef) : wantA ops o t = some false := by
  unfold wantA; rw [hg]; simp only [hd, ht]; rfl
end Go.Ab
