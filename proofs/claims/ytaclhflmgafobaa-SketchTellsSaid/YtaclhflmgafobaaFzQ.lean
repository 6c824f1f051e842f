/- What the operations on numbers and words compute. -/
import Derived.Test.YtaclhflmgafobaaFzP
namespace Go.Ab
open Go
set_option linter.unusedSimpArgs false
set_option linter.unusedVariables false

section
variable {P : Program} {t : TypeId} {k k' : IntKind} {a b : Int} {x y : BitVec 64} {T : Tmps}

theorem int_add : aBin P .add t (.int k a) (.int k b) = some (.int k (k.wrap (a + b))) := by simp [aBin, aInt]
theorem int_sub : aBin P .sub t (.int k a) (.int k b) = some (.int k (k.wrap (a - b))) := by simp [aBin, aInt]
theorem int_mul : aBin P .mul t (.int k a) (.int k b) = some (.int k (k.wrap (a * b))) := by simp [aBin, aInt]
theorem int_quo (h : b ≠ 0) : aBin P .quo t (.int k a) (.int k b) = some (.int k (k.wrap (a.tdiv b))) := by simp [aBin, aInt, h]
theorem int_rem (h : b ≠ 0) : aBin P .rem t (.int k a) (.int k b) = some (.int k (a.tmod b)) := by simp [aBin, aInt, h]
theorem int_eql : aBin P .eql t (.int k a) (.int k b) = some (.bool (decide (a = b))) := by simp [aBin, aInt]; rfl
theorem int_neq : aBin P .neq t (.int k a) (.int k b) = some (.bool (decide (a ≠ b))) := by
  simp only [aBin, aInt, if_true]; congr 2; rw [decide_not]; rfl
theorem int_lss : aBin P .lss t (.int k a) (.int k b) = some (.bool (decide (a < b))) := by simp [aBin, aInt]
theorem int_leq : aBin P .leq t (.int k a) (.int k b) = some (.bool (decide (a ≤ b))) := by simp [aBin, aInt]
theorem int_gtr : aBin P .gtr t (.int k a) (.int k b) = some (.bool (decide (b < a))) := by simp [aBin, aInt]
theorem int_geq : aBin P .geq t (.int k a) (.int k b) = some (.bool (decide (b ≤ a))) := by simp [aBin, aInt]
theorem int_neg : aUn .neg (.int k a) = some (.int k (k.wrap (0 - a))) := rfl
theorem bool_not {q : Bool} : aUn .not (.bool q) = some (.bool !q) := rfl
theorem min_two : aMin [.int k a, .int k' b] = some (.int k (min a b)) := by
  simp only [aMin]; congr 2; rw [Int.min_def]; split <;> split <;> omega
theorem max_two : aMax [.int k a, .int k' b] = some (.int k (max a b)) := by
  simp only [aMax]; congr 2; rw [Int.max_def]; split <;> split <;> omega

/-! words -/
theorem wrap_nat (x : BitVec 64) : IntKind.u64.wrap (x.toNat : Int) = x.toNat := by
  have := x.isLt
  simp only [IntKind.wrap, IntKind.signed, IntKind.bits, Bool.false_and, Bool.false_eq_true, if_false]
  omega
theorem wrap_ofInt (n : Int) : IntKind.u64.wrap n = ((BitVec.ofInt 64 n).toNat : Int) := by
  simp only [IntKind.wrap, IntKind.signed, IntKind.bits, Bool.false_and, Bool.false_eq_true, if_false, BitVec.toNat_ofInt]
  omega
theorem ofInt_nat (x : BitVec 64) : BitVec.ofInt 64 (x.toNat : Int) = x := by
  apply BitVec.eq_of_toNat_eq
  have := x.isLt
  rw [BitVec.toNat_ofInt]
  omega
theorem bits_u64 : IntKind.u64.bits = 64 := rfl
theorem aBits_and : aBits .and .u64 a b = some (w64 (BitVec.ofInt 64 a &&& BitVec.ofInt 64 b)) := by
  simp only [aBits, w64]; exact congrArg some (congrArg (Value.int .u64) (wrap_nat (BitVec.ofInt 64 a &&& BitVec.ofInt 64 b)))
theorem aBits_or : aBits .or .u64 a b = some (w64 (BitVec.ofInt 64 a ||| BitVec.ofInt 64 b)) := by
  simp only [aBits, w64]; exact congrArg some (congrArg (Value.int .u64) (wrap_nat (BitVec.ofInt 64 a ||| BitVec.ofInt 64 b)))
theorem aBits_xor : aBits .xor .u64 a b = some (w64 (BitVec.ofInt 64 a ^^^ BitVec.ofInt 64 b)) := by
  simp only [aBits, w64]; exact congrArg some (congrArg (Value.int .u64) (wrap_nat (BitVec.ofInt 64 a ^^^ BitVec.ofInt 64 b)))
theorem aBits_andNot : aBits .andNot .u64 a b = some (w64 (BitVec.ofInt 64 a &&& ~~~BitVec.ofInt 64 b)) := by
  simp only [aBits, w64]; exact congrArg some (congrArg (Value.int .u64) (wrap_nat (BitVec.ofInt 64 a &&& ~~~BitVec.ofInt 64 b)))
theorem word_and : aBin P .and t (w64 x) (w64 y) = some (w64 (x &&& y)) := by simp only [aBin, w64, aInt, if_true, aBits_and, ofInt_nat]
theorem word_or : aBin P .or t (w64 x) (w64 y) = some (w64 (x ||| y)) := by simp only [aBin, w64, aInt, if_true, aBits_or, ofInt_nat]
theorem word_xor : aBin P .xor t (w64 x) (w64 y) = some (w64 (x ^^^ y)) := by simp only [aBin, w64, aInt, if_true, aBits_xor, ofInt_nat]
theorem word_andNot : aBin P .andNot t (w64 x) (w64 y) = some (w64 (x &&& ~~~y)) := by simp only [aBin, w64, aInt, if_true, aBits_andNot, ofInt_nat]
theorem word_andc : aBin P .and t (w64 x) (.int .u64 b) = some (w64 (x &&& BitVec.ofInt 64 b)) := by simp only [aBin, w64, aInt, if_true, aBits_and, ofInt_nat]
theorem ofInt_add' (a b : Int) : BitVec.ofInt 64 a + BitVec.ofInt 64 b = BitVec.ofInt 64 (a + b) := (BitVec.ofInt_add a b).symm
theorem ofInt_mul' (a b : Int) : BitVec.ofInt 64 a * BitVec.ofInt 64 b = BitVec.ofInt 64 (a * b) := (BitVec.ofInt_mul a b).symm
theorem word_addI : aBin P .add t (.int .u64 a) (.int .u64 b) = some (w64 (BitVec.ofInt 64 a + BitVec.ofInt 64 b)) := by rw [int_add, wrap_ofInt, ofInt_add']; rfl
theorem word_mulI : aBin P .mul t (.int .u64 a) (.int .u64 b) = some (w64 (BitVec.ofInt 64 a * BitVec.ofInt 64 b)) := by rw [int_mul, wrap_ofInt, ofInt_mul']; rfl
theorem word_add : aBin P .add t (w64 x) (w64 y) = some (w64 (x + y)) := by rw [w64, w64, word_addI, ofInt_nat, ofInt_nat]
theorem word_addc : aBin P .add t (w64 x) (.int .u64 b) = some (w64 (x + BitVec.ofInt 64 b)) := by rw [w64, word_addI, ofInt_nat]
theorem word_mul : aBin P .mul t (w64 x) (w64 y) = some (w64 (x * y)) := by rw [w64, w64, word_mulI, ofInt_nat, ofInt_nat]
theorem word_mulc : aBin P .mul t (w64 x) (.int .u64 b) = some (w64 (x * BitVec.ofInt 64 b)) := by rw [w64, word_mulI, ofInt_nat]
theorem nat_inj : ((x.toNat : Int) = y.toNat) ↔ x = y := ⟨fun h => BitVec.eq_of_toNat_eq (by omega), fun h => by rw [h]⟩
theorem word_eql : aBin P .eql t (w64 x) (w64 y) = some (.bool (decide (x = y))) := by
  rw [w64, w64, int_eql]; exact congrArg (fun q => some (Value.bool q)) (decide_eq_decide.2 nat_inj)
theorem word_neq : aBin P .neq t (w64 x) (w64 y) = some (.bool (decide (x ≠ y))) := by
  rw [w64, w64, int_neq]; exact congrArg (fun q => some (Value.bool q)) (decide_eq_decide.2 (not_congr nat_inj))
theorem w64_zero : (.int .u64 0 : Value) = w64 0#64 := rfl
theorem word_eql0 : aBin P .eql t (w64 x) (.int .u64 0) = some (.bool (decide (x = 0#64))) := by rw [w64_zero, word_eql]
theorem word_neq0 : aBin P .neq t (w64 x) (.int .u64 0) = some (.bool (decide (x ≠ 0#64))) := by rw [w64_zero, word_neq]
theorem word_shr (h : 0 ≤ b) : aBin P .shr t (w64 x) (.int k b) = some (w64 (x >>> b.toNat)) := by
  have hx := x.isLt
  simp only [aBin, w64, aShift, if_neg (show ¬ b < 0 by omega), bits_u64]
  congr 2
  rw [BitVec.toNat_ushiftRight, Nat.shiftRight_eq_div_pow]
  by_cases hb : b.toNat ≤ 64
  · rw [Nat.min_eq_left hb, Int.fdiv_eq_ediv_of_nonneg _ (by exact_mod_cast Nat.zero_le _)]; norm_cast
  · rw [Nat.min_eq_right (by omega), Int.fdiv_eq_ediv_of_nonneg _ (by decide)]
    have h1 : x.toNat / 2 ^ b.toNat = 0 := Nat.div_eq_of_lt (Nat.lt_of_lt_of_le hx (Nat.pow_le_pow_right (by decide) (by omega)))
    rw [h1]; omega
theorem word_shl (h : 0 ≤ b) : aBin P .shl t (.int .u64 a) (.int k b) = some (w64 (BitVec.ofInt 64 a <<< b.toNat)) := by
  simp only [aBin, w64, aShift, if_neg (show ¬ b < 0 by omega), bits_u64]
  congr 2
  rw [wrap_ofInt]
  congr 2
  by_cases hb : b.toNat ≤ 64
  · rw [Nat.min_eq_left hb, BitVec.ofInt_mul, BitVec.shiftLeft_eq_mul_twoPow]; congr 1
    apply BitVec.eq_of_toNat_eq
    rw [BitVec.toNat_ofInt, BitVec.toNat_twoPow]; norm_cast
  · rw [Nat.min_eq_right (by omega), BitVec.shiftLeft_eq_zero (by omega), BitVec.ofInt_mul]
    have : BitVec.ofInt 64 (2 ^ 64) = 0#64 := by decide
    rw [this, BitVec.mul_zero]
theorem word_shlw (h : 0 ≤ b) : aBin P .shl t (w64 x) (.int k b) = some (w64 (x <<< b.toNat)) := by rw [w64, word_shl h, ofInt_nat]

/-! conversions -/
theorem wrap_i64 {n : Int} (h1 : -9223372036854775808 ≤ n) (h2 : n ≤ 9223372036854775807) : IntKind.i64.wrap n = n := by
  simp only [IntKind.wrap, IntKind.signed, IntKind.bits, Bool.true_and]
  split <;> simp_all <;> omega
theorem wrap_i32 {n : Int} (h1 : -2147483648 ≤ n) (h2 : n ≤ 2147483647) : IntKind.i32.wrap n = n := by
  simp only [IntKind.wrap, IntKind.signed, IntKind.bits, Bool.true_and]
  split <;> simp_all <;> omega
theorem conv_int {s d : TypeId} {k0 k1 : IntKind} (h1 : P.underlying s = some (.int k0)) (h2 : P.underlying d = some (.int k1)) : aConv P s d (.int k a) = some (.int k1 (k1.wrap a)) := by
  simp [aConv, h1, h2]
theorem conv_word {s d : TypeId} {k0 : IntKind} (h1 : P.underlying s = some (.int k0)) (h2 : P.underlying d = some (.int .u64)) : aConv P s d (.int k a) = some (w64 (BitVec.ofInt 64 a)) := by
  rw [conv_int h1 h2, wrap_ofInt]; rfl
theorem conv_back {s d : TypeId} {k0 : IntKind} (h1 : P.underlying s = some (.int k0)) (h2 : P.underlying d = some (.int .i64)) : aConv P s d (w64 x) = some (.int .i64 x.toInt) := by
  rw [w64, conv_int h1 h2]
  congr 2
  have := x.isLt
  simp only [IntKind.wrap, IntKind.signed, IntKind.bits, Bool.true_and, BitVec.toInt_eq_toNat_cond]
  split <;> split <;> simp_all <;> omega
theorem len_slice {e : TypeId} {p : Option Addr} {n c : Nat} {σ : AH} (h : P.underlying t = some (.slice e)) : aLen P t (.slice p n c) σ = some (.int .i64 n) := by simp [aLen, h]
end
/-- A number of 64 bits, turned round where it is too great. -/
def wr (n : Int) : Int := IntKind.i64.wrap n
theorem wr_of {n : Int} (h1 : -9223372036854775808 ≤ n) (h2 : n ≤ 9223372036854775807) : wr n = n := wrap_i64 h1 h2
/-- An element. -/
def gx {α : Type} (xs : List α) (i : Int) : Option α := if 0 ≤ i then xs[i.toNat]? else none
theorem gx_some {α : Type} {xs : List α} {i : Int} {x : α} (h : gx xs i = some x) : 0 ≤ i ∧ xs[i.toNat]? = some x := by
  unfold gx at h
  split at h
  · exact ⟨by assumption, h⟩
  · cases h
theorem gx_nat {α : Type} (xs : List α) (i : Nat) : gx xs (i : Int) = xs[i]? := by simp [gx]
/-- Elements, as many as fit. -/
def app {α : Type} (bytes : Nat) (xs ys : List α) : Option (List α) := if (xs.length + ys.length) * bytes ≤ 2 ^ 34 then some (xs ++ ys) else none
theorem app_some {α : Type} {bytes : Nat} {xs ys zs : List α} (h : app bytes xs ys = some zs) : (xs.length + ys.length) * bytes ≤ 2 ^ 34 ∧ zs = xs ++ ys := by
  unfold app at h
  split at h
  · exact ⟨by assumption, (Option.some.inj h).symm⟩
  · cases h
def mkn {α : Type} (n : Int) (z : α) : Option (List α) := if 0 ≤ n ∧ n ≤ 2 ^ 20 then some (List.replicate n.toNat z) else none
theorem mkn_some {α : Type} {n : Int} {z : α} {zs : List α} (h : mkn n z = some zs) : 0 ≤ n ∧ n ≤ 2 ^ 20 ∧ zs = List.replicate n.toNat z := by
  unfold mkn at h
  split at h
  · rename_i hc; exact ⟨hc.1, hc.2, (Option.some.inj h).symm⟩
  · cases h
/-- A list with another element. -/
def sx {α : Type} (xs : List α) (i : Int) (x : α) : Option (List α) := if 0 ≤ i ∧ i.toNat < xs.length then some (xs.set i.toNat x) else none
theorem sx_some {α : Type} {xs zs : List α} {i : Int} {x : α} (h : sx xs i x = some zs) : 0 ≤ i ∧ i.toNat < xs.length ∧ zs = xs.set i.toNat x := by
  unfold sx at h
  split at h
  · rename_i hc; exact ⟨hc.1, hc.2, (Option.some.inj h).symm⟩
  · cases h
/-- The elements from a on, up to b. -/
def cut {α : Type} (xs : List α) (a b : Int) : Option (List α) := if 0 ≤ a ∧ a ≤ b ∧ b ≤ xs.length then some ((xs.take b.toNat).drop a.toNat) else none
theorem cut_some {α : Type} {xs zs : List α} {a b : Int} (h : cut xs a b = some zs) : (0 ≤ a ∧ a ≤ b ∧ b ≤ xs.length) ∧ zs = (xs.take b.toNat).drop a.toNat := by
  unfold cut at h
  split at h
  · exact ⟨by assumption, (Option.some.inj h).symm⟩
  · cases h
theorem bound_int {k : IntKind} {n : Int} {d m : Nat} (h0 : 0 ≤ n) (hm : n ≤ m) : bound (some (.int k n)) d m = some n.toNat := by simp [bound, h0, hm]
theorem bound_none {d m : Nat} : bound none d m = some d := rfl

/-! ### types told by their numbers -/
def FO (P : Program) (s : TypeId) (f : Nat) (t : TypeId) (off : Nat) : Prop := (fieldOf P s f).map (fun fd => (fd.type, fd.offset)) = some (t, off)
theorem FO.get {P : Program} {s : TypeId} {f : Nat} {t : TypeId} {off : Nat} (h : FO P s f t off) : ∃ fd, fieldOf P s f = some fd ∧ fd.type = t ∧ fd.offset = off := by
  obtain ⟨fd, h1, h2⟩ := Option.map_eq_some_iff.1 h
  simp at h2; exact ⟨fd, h1, h2.1, h2.2⟩
section
variable {α β : Type} {P : Program} {t s : TypeId} {e : En α} {e0 : En β} {f off : Nat}
theorem fld (h : Ty P t e) (hf : FO P s f t off) {x : β} {y : α} (ho : e0.one = false) (hx : ((e0.cells x).drop off).take e.sz = e.cells y) : aField P s (e0.val x) f = some (e.val y) := by
  obtain ⟨fd, h1, rfl, rfl⟩ := hf.get; exact field_val h h1 ho hx
theorem fldAddr (h : Ty P t e) (hf : FO P s f t off) {x : β} {y : α} (hx : ((e0.cells x).drop off).take e.sz = e.cells y) : aFieldAddr P s (ptv e0 x) f = some (ptv e y) := by
  obtain ⟨fd, h1, rfl, rfl⟩ := hf.get; exact fieldAddr_still h h1 hx
theorem fldBox (h : Ty P t e) (hf : FO P s f t off) {b o : Nat} : aFieldAddr P s (.pointer (some ⟨b, o, none⟩)) f = some (.pointer (some ⟨b, o + off, none⟩)) := by
  obtain ⟨fd, h1, rfl, rfl⟩ := hf.get
  obtain ⟨n, hn⟩ : ∃ n, e.sz = n + 1 := ⟨e.sz - 1, by have := h.pos; omega⟩
  exact fieldAddr_box h1 (by rw [h.sz, hn])
end

/-! ### products -/
theorem pair_mem {α β : Type} {e : En α} {e' : En β} {x : α × β} {v : Value} (h : v ∈ e.cells x.1 ++ e'.cells x.2) : v ∈ e.cells x.1 ∨ v ∈ e'.cells x.2 := List.mem_append.1 h
def eP {α β : Type} (e : En α) (e' : En β) : En (α × β) := ⟨e.sz + e'.sz, false, fun x => e.cells x.1 ++ e'.cells x.2, fun x => by simp [e.len, e'.len], fun h => (by cases h), fun x v h => (pair_mem h).elim (e.flat _ v) (e'.flat _ v), fun x v h => (pair_mem h).elim (e.cell _ v) (e'.cell _ v), fun x y h => by
  obtain ⟨h1, h2⟩ := List.append_inj h (by rw [e.len, e.len])
  exact Prod.ext (e.inj _ _ h1) (e'.inj _ _ h2)⟩
/-- Data of a structure's type, by what stands in it. -/
def eS {α β : Type} (e : En α) (f : β → α) (hf : ∀ x y, f x = f y → x = y) : En β := ⟨e.sz, false, fun x => e.cells (f x), fun x => e.len _, fun h => (by cases h), fun x => e.flat _, fun x => e.cell _, fun x y h => hf x y (e.inj _ _ h)⟩
end Go.Ab
