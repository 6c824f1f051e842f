/- What the interpreter's operations compute, one line for each kind of operation. -/
import Derived.Test.YtaclhflmgafobaaAbL
namespace Go.Ab
open Go
set_option linter.unusedSimpArgs false
set_option linter.unusedVariables false

/-- A word of 64 bits. -/
def w64 (x : BitVec 64) : Value := .int .u64 x.toNat
/-- A number (int). -/
def num (n : Int) : Value := .int .i64 n

section
variable {P : Program} {t : TypeId} {k k' : IntKind} {a b : Int} {x y : BitVec 64} {T : Tmps}
theorem opv_int : opv T (.const (.int k a)) = .int k a := rfl
theorem opv_bool {q : Bool} : opv T (.const (.bool q)) = .bool q := rfl
theorem opv_nil : opv T (.const (.slice none 0 0)) = .slice none 0 0 := rfl
theorem opv_nilp : opv T (.const (.pointer none)) = .pointer none := rfl
theorem opv_num : opv T (.const (.int .i64 a)) = num a := rfl

theorem int_add : aBin P .add t (.int k a) (.int k b) = some (.int k (k.wrap (a + b))) := by simp [aBin, aInt]
theorem int_sub : aBin P .sub t (.int k a) (.int k b) = some (.int k (k.wrap (a - b))) := by simp [aBin, aInt]
theorem int_mul : aBin P .mul t (.int k a) (.int k b) = some (.int k (k.wrap (a * b))) := by simp [aBin, aInt]
theorem int_quo (h : b ≠ 0) : aBin P .quo t (.int k a) (.int k b) = some (.int k (k.wrap (a.tdiv b))) := by simp [aBin, aInt, h]
theorem int_rem (h : b ≠ 0) : aBin P .rem t (.int k a) (.int k b) = some (.int k (a.tmod b)) := by simp [aBin, aInt, h]
theorem int_eql : aBin P .eql t (.int k a) (.int k b) = some (.bool (decide (a = b))) := by simp [aBin, aInt]; rfl
theorem int_neq : aBin P .neq t (.int k a) (.int k b) = some (.bool (decide (a ≠ b))) := by
  simp only [aBin, aInt, if_true]; congr 2; rw [decide_not]; rfl
theorem int_lss : aBin P .lss t (.int k a) (.int k b) = some (.bool (decide (a < b))) := by simp [aBin, aInt]
theorem int_leq : aBin P .leq t (.int k a) (.int k b) = some (.bool (decide (a ≤ b))) := by simp [aBin, aInt]
theorem int_gtr : aBin P .gtr t (.int k a) (.int k b) = some (.bool (decide (b < a))) := by simp [aBin, aInt]
theorem int_geq : aBin P .geq t (.int k a) (.int k b) = some (.bool (decide (b ≤ a))) := by simp [aBin, aInt]
theorem int_neg : aUn .neg (.int k a) = some (.int k (k.wrap (0 - a))) := rfl
theorem bool_not {q : Bool} : aUn .not (.bool q) = some (.bool !q) := rfl
theorem min_two : aMin [.int k a, .int k' b] = some (.int k (min a b)) := by
  simp only [aMin]; congr 2; rw [Int.min_def]; split <;> split <;> omega
theorem max_two : aMax [.int k a, .int k' b] = some (.int k (max a b)) := by
  simp only [aMax]; congr 2; rw [Int.max_def]; split <;> split <;> omega
theorem pick_true {T : Tmps} {c a b : Operand} (h : opv T c = .bool true) (σ : AH) : aOp P (opv T) (.pick c a b) σ = some (opv T a, σ) := by simp [aOp, evOp, h]
theorem pick_false {T : Tmps} {c a b : Operand} (h : opv T c = .bool false) (σ : AH) : aOp P (opv T) (.pick c a b) σ = some (opv T b, σ) := by simp [aOp, evOp, h]

/-! words -/
theorem wrap_nat (x : BitVec 64) : IntKind.u64.wrap (x.toNat : Int) = x.toNat := by
  have := x.isLt
  simp only [IntKind.wrap, IntKind.signed, IntKind.bits, Bool.false_and, Bool.false_eq_true, if_false]
  omega
theorem wrap_ofInt (n : Int) : IntKind.u64.wrap n = ((BitVec.ofInt 64 n).toNat : Int) := by
  simp only [IntKind.wrap, IntKind.signed, IntKind.bits, Bool.false_and, Bool.false_eq_true, if_false, BitVec.toNat_ofInt]
  omega
theorem ofInt_nat (x : BitVec 64) : BitVec.ofInt 64 (x.toNat : Int) = x := by
  apply BitVec.eq_of_toNat_eq
  have := x.isLt
  rw [BitVec.toNat_ofInt]
  omega
theorem bits_u64 : IntKind.u64.bits = 64 := rfl
theorem aBits_and : aBits .and .u64 a b = some (w64 (BitVec.ofInt 64 a &&& BitVec.ofInt 64 b)) := by
  simp only [aBits, w64]; exact congrArg some (congrArg (Value.int .u64) (wrap_nat (BitVec.ofInt 64 a &&& BitVec.ofInt 64 b)))
theorem aBits_or : aBits .or .u64 a b = some (w64 (BitVec.ofInt 64 a ||| BitVec.ofInt 64 b)) := by
  simp only [aBits, w64]; exact congrArg some (congrArg (Value.int .u64) (wrap_nat (BitVec.ofInt 64 a ||| BitVec.ofInt 64 b)))
theorem aBits_xor : aBits .xor .u64 a b = some (w64 (BitVec.ofInt 64 a ^^^ BitVec.ofInt 64 b)) := by
  simp only [aBits, w64]; exact congrArg some (congrArg (Value.int .u64) (wrap_nat (BitVec.ofInt 64 a ^^^ BitVec.ofInt 64 b)))
theorem aBits_andNot : aBits .andNot .u64 a b = some (w64 (BitVec.ofInt 64 a &&& ~~~BitVec.ofInt 64 b)) := by
  simp only [aBits, w64]; exact congrArg some (congrArg (Value.int .u64) (wrap_nat (BitVec.ofInt 64 a &&& ~~~BitVec.ofInt 64 b)))
theorem word_and : aBin P .and t (w64 x) (w64 y) = some (w64 (x &&& y)) := by simp only [aBin, w64, aInt, if_true, aBits_and, ofInt_nat]
theorem word_or : aBin P .or t (w64 x) (w64 y) = some (w64 (x ||| y)) := by simp only [aBin, w64, aInt, if_true, aBits_or, ofInt_nat]
theorem word_xor : aBin P .xor t (w64 x) (w64 y) = some (w64 (x ^^^ y)) := by simp only [aBin, w64, aInt, if_true, aBits_xor, ofInt_nat]
theorem word_andNot : aBin P .andNot t (w64 x) (w64 y) = some (w64 (x &&& ~~~y)) := by simp only [aBin, w64, aInt, if_true, aBits_andNot, ofInt_nat]
theorem word_andc : aBin P .and t (w64 x) (.int .u64 b) = some (w64 (x &&& BitVec.ofInt 64 b)) := by simp only [aBin, w64, aInt, if_true, aBits_and, ofInt_nat]
theorem ofInt_add' (a b : Int) : BitVec.ofInt 64 a + BitVec.ofInt 64 b = BitVec.ofInt 64 (a + b) := (BitVec.ofInt_add a b).symm
theorem ofInt_mul' (a b : Int) : BitVec.ofInt 64 a * BitVec.ofInt 64 b = BitVec.ofInt 64 (a * b) := (BitVec.ofInt_mul a b).symm
theorem word_addI : aBin P .add t (.int .u64 a) (.int .u64 b) = some (w64 (BitVec.ofInt 64 a + BitVec.ofInt 64 b)) := by rw [int_add, wrap_ofInt, ofInt_add']; rfl
theorem word_mulI : aBin P .mul t (.int .u64 a) (.int .u64 b) = some (w64 (BitVec.ofInt 64 a * BitVec.ofInt 64 b)) := by rw [int_mul, wrap_ofInt, ofInt_mul']; rfl
theorem word_add : aBin P .add t (w64 x) (w64 y) = some (w64 (x + y)) := by rw [w64, w64, word_addI, ofInt_nat, ofInt_nat]
theorem word_addc : aBin P .add t (w64 x) (.int .u64 b) = some (w64 (x + BitVec.ofInt 64 b)) := by rw [w64, word_addI, ofInt_nat]
theorem word_mul : aBin P .mul t (w64 x) (w64 y) = some (w64 (x * y)) := by rw [w64, w64, word_mulI, ofInt_nat, ofInt_nat]
theorem word_mulc : aBin P .mul t (w64 x) (.int .u64 b) = some (w64 (x * BitVec.ofInt 64 b)) := by rw [w64, word_mulI, ofInt_nat]
theorem nat_inj : ((x.toNat : Int) = y.toNat) ↔ x = y := ⟨fun h => BitVec.eq_of_toNat_eq (by omega), fun h => by rw [h]⟩
theorem word_eql : aBin P .eql t (w64 x) (w64 y) = some (.bool (decide (x = y))) := by
  rw [w64, w64, int_eql]; exact congrArg (fun q => some (Value.bool q)) (decide_eq_decide.2 nat_inj)
theorem word_neq : aBin P .neq t (w64 x) (w64 y) = some (.bool (decide (x ≠ y))) := by
  rw [w64, w64, int_neq]; exact congrArg (fun q => some (Value.bool q)) (decide_eq_decide.2 (not_congr nat_inj))
theorem w64_zero : (.int .u64 0 : Value) = w64 0#64 := rfl
theorem word_eql0 : aBin P .eql t (w64 x) (.int .u64 0) = some (.bool (decide (x = 0#64))) := by rw [w64_zero, word_eql]
theorem word_neq0 : aBin P .neq t (w64 x) (.int .u64 0) = some (.bool (decide (x ≠ 0#64))) := by rw [w64_zero, word_neq]
theorem word_shr (h : 0 ≤ b) : aBin P .shr t (w64 x) (.int k b) = some (w64 (x >>> b.toNat)) := by
  have hx := x.isLt
  simp only [aBin, w64, aShift, if_neg (show ¬ b < 0 by omega), bits_u64]
  congr 2
  rw [BitVec.toNat_ushiftRight, Nat.shiftRight_eq_div_pow]
  by_cases hb : b.toNat ≤ 64
  · rw [Nat.min_eq_left hb, Int.fdiv_eq_ediv_of_nonneg _ (by exact_mod_cast Nat.zero_le _)]; norm_cast
  · rw [Nat.min_eq_right (by omega), Int.fdiv_eq_ediv_of_nonneg _ (by decide)]
    have h1 : x.toNat / 2 ^ b.toNat = 0 := Nat.div_eq_of_lt (Nat.lt_of_lt_of_le hx (Nat.pow_le_pow_right (by decide) (by omega)))
    rw [h1]; omega
theorem word_shl (h : 0 ≤ b) : aBin P .shl t (.int .u64 a) (.int k b) = some (w64 (BitVec.ofInt 64 a <<< b.toNat)) := by
  simp only [aBin, w64, aShift, if_neg (show ¬ b < 0 by omega), bits_u64]
  congr 2
  rw [wrap_ofInt]
  congr 2
  by_cases hb : b.toNat ≤ 64
  · rw [Nat.min_eq_left hb, BitVec.ofInt_mul, BitVec.shiftLeft_eq_mul_twoPow]; congr 1
    apply BitVec.eq_of_toNat_eq
    rw [BitVec.toNat_ofInt, BitVec.toNat_twoPow]; norm_cast
  · rw [Nat.min_eq_right (by omega), BitVec.shiftLeft_eq_zero (by omega), BitVec.ofInt_mul]
    have : BitVec.ofInt 64 (2 ^ 64) = 0#64 := by decide
    rw [this, BitVec.mul_zero]
theorem word_shlw (h : 0 ≤ b) : aBin P .shl t (w64 x) (.int k b) = some (w64 (x <<< b.toNat)) := by rw [w64, word_shl h, ofInt_nat]

/-! conversions -/
theorem wrap_i64 {n : Int} (h1 : -9223372036854775808 ≤ n) (h2 : n ≤ 9223372036854775807) : IntKind.i64.wrap n = n := by
  simp only [IntKind.wrap, IntKind.signed, IntKind.bits, Bool.true_and]
  split <;> simp_all <;> omega
theorem wrap_i32 {n : Int} (h1 : -2147483648 ≤ n) (h2 : n ≤ 2147483647) : IntKind.i32.wrap n = n := by
  simp only [IntKind.wrap, IntKind.signed, IntKind.bits, Bool.true_and]
  split <;> simp_all <;> omega
theorem conv_int {s d : TypeId} {k0 k1 : IntKind} (h1 : P.underlying s = some (.int k0)) (h2 : P.underlying d = some (.int k1)) : aConv P s d (.int k a) = some (.int k1 (k1.wrap a)) := by
  simp [aConv, h1, h2]
theorem conv_word {s d : TypeId} {k0 : IntKind} (h1 : P.underlying s = some (.int k0)) (h2 : P.underlying d = some (.int .u64)) : aConv P s d (.int k a) = some (w64 (BitVec.ofInt 64 a)) := by
  rw [conv_int h1 h2, wrap_ofInt]; rfl
theorem conv_back {s d : TypeId} {k0 : IntKind} (h1 : P.underlying s = some (.int k0)) (h2 : P.underlying d = some (.int .i64)) : aConv P s d (w64 x) = some (.int .i64 x.toInt) := by
  rw [w64, conv_int h1 h2]
  congr 2
  have := x.isLt
  simp only [IntKind.wrap, IntKind.signed, IntKind.bits, Bool.true_and, BitVec.toInt_eq_toNat_cond]
  split <;> split <;> simp_all <;> omega
theorem len_slice {e : TypeId} {p : Option Addr} {n c : Nat} {σ : AH} (h : P.underlying t = some (.slice e)) : aLen P t (.slice p n c) σ = some (.int .i64 n) := by simp [aLen, h]
end
/-! Bundles: what a step's simp set is made of. -/
/-- Looking up. -/
theorem LK : (∀ (t : Tmps) (d : Nat) (v : Value), upd t d v d = v) ∧ (∀ (t : Tmps) (d j : Nat) (v : Value), j ≠ d → upd t d v j = t j) ∧ (∀ (t : Tmps) (j : Nat), opv t (.tmp j) = t j)
    ∧ (∀ (t : Tmps) (k : IntKind) (n : Int), opv t (.const (.int k n)) = .int k n) ∧ (∀ (t : Tmps) (q : Bool), opv t (.const (.bool q)) = .bool q) ∧ (∀ t : Tmps, opv t (.const (.slice none 0 0)) = .slice none 0 0)
    ∧ (∀ t : Tmps, opv t (.const (.pointer none)) = .pointer none) ∧ (∀ (t : Tmps) (f : FuncId), opv t (.func f) = .func (.func f) #[] #[])
    ∧ (∀ (a : Value) (l : List Value), start (a :: l) 0 = a) ∧ (∀ (a b : Value) (l : List Value), start (a :: b :: l) 1 = b) ∧ (∀ (a b c : Value) (l : List Value), start (a :: b :: c :: l) 2 = c)
    ∧ (∀ (a b c d : Value) (l : List Value), start (a :: b :: c :: d :: l) 3 = d) ∧ (∀ (a b c d e : Value) (l : List Value), start (a :: b :: c :: d :: e :: l) 4 = e) ∧ (∀ (a b c d e f : Value) (l : List Value), start (a :: b :: c :: d :: e :: f :: l) 5 = f)
    ∧ (∀ (a b c d e f g : Value) (l : List Value), start (a :: b :: c :: d :: e :: f :: g :: l) 6 = g) ∧ (∀ (a b c d e f g h : Value) (l : List Value), start (a :: b :: c :: d :: e :: f :: g :: h :: l) 7 = h) :=
  ⟨upd_self, upd_ne, fun _ _ => rfl, fun _ _ _ => rfl, fun _ _ => rfl, fun _ => rfl, fun _ => rfl, fun _ _ => rfl, fun _ _ => rfl, fun _ _ _ => rfl, fun _ _ _ _ => rfl, fun _ _ _ _ _ => rfl, fun _ _ _ _ _ _ => rfl, fun _ _ _ _ _ _ _ => rfl, fun _ _ _ _ _ _ _ _ => rfl, fun _ _ _ _ _ _ _ _ _ => rfl⟩
def pickV (c a b : Value) (σ : AH) : Res := match c with
  | .bool t => some (if t then a else b, σ)
  | _ => none
/-- What an operation is. -/
theorem EV : (∀ (P : Program) (ρ : Operand → Value) (c a b : Operand) (σ : AH), aOp P ρ (.pick c a b) σ = pickV (ρ c) (ρ a) (ρ b) σ) ∧ (∀ (a b : Value) (σ : AH), pickV (.bool true) a b σ = some (a, σ)) ∧ (∀ (a b : Value) (σ : AH), pickV (.bool false) a b σ = some (b, σ)) ∧ (∀ (P : Program) (ρ : Operand → Value) (x : Operand) (σ : AH), aOp P ρ (.move x) σ = some (ρ x, σ)) ∧ (∀ (P : Program) (ρ : Operand → Value) (x : Operand) (σ : AH), aOp P ρ (.assign x) σ = some (ρ x, σ))
    ∧ (∀ (P : Program) (ρ : Operand → Value) (op : BinOp) (t t' : TypeId) (x y : Operand) (σ : AH), aOp P ρ (.binOp op t x y t') σ = keep σ (aBin P op t (ρ x) (ρ y)))
    ∧ (∀ (P : Program) (ρ : Operand → Value) (op : UnOp) (t : TypeId) (x : Operand) (σ : AH), aOp P ρ (.unOp op t x) σ = keep σ (aUn op (ρ x)))
    ∧ (∀ (P : Program) (ρ : Operand → Value) (s d : TypeId) (x : Operand) (σ : AH), aOp P ρ (.convert s d x) σ = keep σ (aConv P s d (ρ x)))
    ∧ (∀ (P : Program) (ρ : Operand → Value) (t : TypeId) (a : Operand) (σ : AH), aOp P ρ (.load t a) σ = keep σ (aLoad P t (ρ a) σ))
    ∧ (∀ (P : Program) (ρ : Operand → Value) (t : TypeId) (a x : Operand) (σ : AH), aOp P ρ (.store t a x) σ = quietly (aStore P t (ρ a) (ρ x) σ))
    ∧ (∀ (P : Program) (ρ : Operand → Value) (t : TypeId) (l c : Operand) (σ : AH), aOp P ρ (.makeSlice t l c) σ = aMakeSlice P t (ρ l) (ρ c) σ)
    ∧ (∀ (P : Program) (ρ : Operand → Value) (t : TypeId) (x : Operand) (a b c : Option Operand) (σ : AH), aOp P ρ (.slice t x a b c) σ = keep σ (aSlice P t (ρ x) (a.map ρ) (b.map ρ) (c.map ρ) σ))
    ∧ (∀ (P : Program) (ρ : Operand → Value) (t : TypeId) (a : Operand) (f : Nat) (σ : AH), aOp P ρ (.fieldAddr t a f) σ = keep σ (aFieldAddr P t (ρ a) f))
    ∧ (∀ (P : Program) (ρ : Operand → Value) (t : TypeId) (a : Operand) (f : Nat) (σ : AH), aOp P ρ (.field t a f) σ = keep σ (aField P t (ρ a) f))
    ∧ (∀ (P : Program) (ρ : Operand → Value) (t : TypeId) (a i : Operand) (σ : AH), aOp P ρ (.indexAddr t a i) σ = keep σ (aIndexAddr P t (ρ a) (ρ i)))
    ∧ (∀ (P : Program) (ρ : Operand → Value) (t : TypeId) (a i : Operand) (σ : AH), aOp P ρ (.index t a i) σ = keep σ (aIndex P t (ρ a) (ρ i)))
    ∧ (∀ (P : Program) (ρ : Operand → Value) (t : TypeId) (a : Operand) (σ : AH), aOp P ρ (.buildSlice t 1 #[(0, a)]) σ = aBuildSlice P t 1 [(0, ρ a)] σ)
    ∧ (∀ (P : Program) (ρ : Operand → Value) (t : TypeId) (a : Operand) (σ : AH), aOp P ρ (.call { callee := .builtin .len, args := #[a], argTypes := #[t] }) σ = keep σ (aLen P t (ρ a) σ))
    ∧ (∀ (P : Program) (ρ : Operand → Value) (t t' : TypeId) (a b : Operand) (σ : AH), aOp P ρ (.call { callee := .builtin .min, args := #[a, b], argTypes := #[t, t'] }) σ = keep σ (aMin [ρ a, ρ b]))
    ∧ (∀ (P : Program) (ρ : Operand → Value) (t t' : TypeId) (a b : Operand) (σ : AH), aOp P ρ (.call { callee := .builtin .max, args := #[a, b], argTypes := #[t, t'] }) σ = keep σ (aMax [ρ a, ρ b]))
    ∧ (∀ (P : Program) (ρ : Operand → Value) (t t' : TypeId) (a b : Operand) (σ : AH), aOp P ρ (.call { callee := .builtin .append, args := #[a, b], argTypes := #[t, t'] }) σ = aAppend P t t' (ρ a) (ρ b) σ)
    ∧ (∀ (σ : AH) (v : Value), keep σ (some v) = some (v, σ)) ∧ (∀ σ : AH, quietly (some σ) = some (undef, σ)) ∧ (∀ ρ : Operand → Value, (none : Option Operand).map ρ = none) ∧ (∀ (ρ : Operand → Value) (a : Operand), (some a).map ρ = some (ρ a)) :=
  ⟨fun _ _ _ _ _ _ => rfl, fun _ _ _ => rfl, fun _ _ _ => rfl, fun _ _ _ _ => rfl, fun _ _ _ _ => rfl, fun _ _ _ _ _ _ _ _ => rfl, fun _ _ _ _ _ _ => rfl, fun _ _ _ _ _ _ => rfl, fun _ _ _ _ _ => rfl, fun _ _ _ _ _ _ => rfl, fun _ _ _ _ _ _ => rfl, fun _ _ _ _ _ _ _ _ => rfl, fun _ _ _ _ _ _ => rfl, fun _ _ _ _ _ _ => rfl, fun _ _ _ _ _ _ => rfl, fun _ _ _ _ _ _ => rfl, fun _ _ _ _ _ => rfl, fun _ _ _ _ _ => rfl, fun _ _ _ _ _ _ _ => rfl, fun _ _ _ _ _ _ _ => rfl, fun _ _ _ _ _ _ _ => rfl, fun _ _ => rfl, fun _ => rfl, fun _ => rfl, fun _ _ => rfl⟩
/-- Sums. -/
theorem AR : (∀ (P : Program) (t : TypeId) (k : IntKind) (a b : Int), aBin P .add t (.int k a) (.int k b) = some (.int k (k.wrap (a + b)))) ∧ (∀ (P : Program) (t : TypeId) (k : IntKind) (a b : Int), aBin P .sub t (.int k a) (.int k b) = some (.int k (k.wrap (a - b))))
    ∧ (∀ (P : Program) (t : TypeId) (k : IntKind) (a b : Int), aBin P .mul t (.int k a) (.int k b) = some (.int k (k.wrap (a * b)))) ∧ (∀ (P : Program) (t : TypeId) (k : IntKind) (a b : Int), b ≠ 0 → aBin P .quo t (.int k a) (.int k b) = some (.int k (k.wrap (a.tdiv b))))
    ∧ (∀ (P : Program) (t : TypeId) (k : IntKind) (a b : Int), b ≠ 0 → aBin P .rem t (.int k a) (.int k b) = some (.int k (a.tmod b))) ∧ (∀ (P : Program) (t : TypeId) (k : IntKind) (a b : Int), aBin P .eql t (.int k a) (.int k b) = some (.bool (decide (a = b))))
    ∧ (∀ (P : Program) (t : TypeId) (k : IntKind) (a b : Int), aBin P .neq t (.int k a) (.int k b) = some (.bool (decide (a ≠ b)))) ∧ (∀ (P : Program) (t : TypeId) (k : IntKind) (a b : Int), aBin P .lss t (.int k a) (.int k b) = some (.bool (decide (a < b))))
    ∧ (∀ (P : Program) (t : TypeId) (k : IntKind) (a b : Int), aBin P .leq t (.int k a) (.int k b) = some (.bool (decide (a ≤ b)))) ∧ (∀ (P : Program) (t : TypeId) (k : IntKind) (a b : Int), aBin P .gtr t (.int k a) (.int k b) = some (.bool (decide (b < a))))
    ∧ (∀ (P : Program) (t : TypeId) (k : IntKind) (a b : Int), aBin P .geq t (.int k a) (.int k b) = some (.bool (decide (b ≤ a)))) ∧ (∀ (k : IntKind) (a : Int), aUn .neg (.int k a) = some (.int k (k.wrap (0 - a)))) ∧ (∀ q : Bool, aUn .not (.bool q) = some (.bool !q))
    ∧ (∀ (k k' : IntKind) (a b : Int), aMin [.int k a, .int k' b] = some (.int k (min a b))) ∧ (∀ (k k' : IntKind) (a b : Int), aMax [.int k a, .int k' b] = some (.int k (max a b))) :=
  ⟨fun _ _ _ _ _ => int_add, fun _ _ _ _ _ => int_sub, fun _ _ _ _ _ => int_mul, fun _ _ _ _ _ h => int_quo h, fun _ _ _ _ _ h => int_rem h, fun _ _ _ _ _ => int_eql, fun _ _ _ _ _ => int_neq, fun _ _ _ _ _ => int_lss, fun _ _ _ _ _ => int_leq, fun _ _ _ _ _ => int_gtr, fun _ _ _ _ _ => int_geq, fun _ _ => rfl, fun _ => rfl, fun _ _ _ _ => min_two, fun _ _ _ _ => max_two⟩
/-- Words. -/
theorem WR : (∀ (P : Program) (t : TypeId) (x y : BitVec 64), aBin P .and t (w64 x) (w64 y) = some (w64 (x &&& y))) ∧ (∀ (P : Program) (t : TypeId) (x y : BitVec 64), aBin P .or t (w64 x) (w64 y) = some (w64 (x ||| y)))
    ∧ (∀ (P : Program) (t : TypeId) (x y : BitVec 64), aBin P .xor t (w64 x) (w64 y) = some (w64 (x ^^^ y))) ∧ (∀ (P : Program) (t : TypeId) (x y : BitVec 64), aBin P .andNot t (w64 x) (w64 y) = some (w64 (x &&& ~~~y)))
    ∧ (∀ (P : Program) (t : TypeId) (x : BitVec 64) (b : Int), aBin P .and t (w64 x) (.int .u64 b) = some (w64 (x &&& BitVec.ofInt 64 b))) ∧ (∀ (P : Program) (t : TypeId) (x y : BitVec 64), aBin P .add t (w64 x) (w64 y) = some (w64 (x + y)))
    ∧ (∀ (P : Program) (t : TypeId) (x : BitVec 64) (b : Int), aBin P .add t (w64 x) (.int .u64 b) = some (w64 (x + BitVec.ofInt 64 b))) ∧ (∀ (P : Program) (t : TypeId) (x y : BitVec 64), aBin P .mul t (w64 x) (w64 y) = some (w64 (x * y)))
    ∧ (∀ (P : Program) (t : TypeId) (x : BitVec 64) (b : Int), aBin P .mul t (w64 x) (.int .u64 b) = some (w64 (x * BitVec.ofInt 64 b))) ∧ (∀ (P : Program) (t : TypeId) (x y : BitVec 64), aBin P .eql t (w64 x) (w64 y) = some (.bool (decide (x = y))))
    ∧ (∀ (P : Program) (t : TypeId) (x y : BitVec 64), aBin P .neq t (w64 x) (w64 y) = some (.bool (decide (x ≠ y)))) ∧ (∀ (P : Program) (t : TypeId) (x : BitVec 64), aBin P .eql t (w64 x) (.int .u64 0) = some (.bool (decide (x = 0#64))))
    ∧ (∀ (P : Program) (t : TypeId) (x : BitVec 64), aBin P .neq t (w64 x) (.int .u64 0) = some (.bool (decide (x ≠ 0#64)))) ∧ (∀ (P : Program) (t : TypeId) (k : IntKind) (x : BitVec 64) (b : Int), 0 ≤ b → aBin P .shr t (w64 x) (.int k b) = some (w64 (x >>> b.toNat)))
    ∧ (∀ (P : Program) (t : TypeId) (k : IntKind) (a b : Int), 0 ≤ b → aBin P .shl t (.int .u64 a) (.int k b) = some (w64 (BitVec.ofInt 64 a <<< b.toNat))) ∧ (∀ (P : Program) (t : TypeId) (k : IntKind) (x : BitVec 64) (b : Int), 0 ≤ b → aBin P .shl t (w64 x) (.int k b) = some (w64 (x <<< b.toNat))) :=
  ⟨fun _ _ _ _ => word_and, fun _ _ _ _ => word_or, fun _ _ _ _ => word_xor, fun _ _ _ _ => word_andNot, fun _ _ _ _ => word_andc, fun _ _ _ _ => word_add, fun _ _ _ _ => word_addc, fun _ _ _ _ => word_mul, fun _ _ _ _ => word_mulc, fun _ _ _ _ => word_eql, fun _ _ _ _ => word_neq, fun _ _ _ => word_eql0, fun _ _ _ => word_neq0, fun _ _ _ _ _ h => word_shr h, fun _ _ _ _ _ h => word_shl h, fun _ _ _ _ _ h => word_shlw h⟩
/-- A guard. -/
theorem want_guard {ops : Array Oper} {o : Oper} {t : Tmps} {j d : Nat} {want b : Bool} (hg : o.guard = some (j, want)) (hj : (ops[j]?).bind (·.dst) = some d) (ht : t d = .bool b) : wantA ops o t = some (b == want) := by
  simp only [wantA, hg, hj, ht]

theorem want_in {ops : Array Oper} {o : Oper} {t : Tmps} {j d : Nat} {b : Bool} (hg : o.guard = some (j, b)) (hj : (ops[j]?).bind (·.dst) = some d) (ht : t d = .bool b) : wantA ops o t = some true := by
  rw [want_guard hg hj ht]; simp
theorem out_t {ops : Array Oper} {o : Oper} {t : Tmps} {j d : Nat} (hg : o.guard = some (j, true)) (hj : (ops[j]?).bind (·.dst) = some d) (ht : t d = .bool false) : wantA ops o t = some false := want_guard hg hj ht
theorem out_f {ops : Array Oper} {o : Oper} {t : Tmps} {j d : Nat} (hg : o.guard = some (j, false)) (hj : (ops[j]?).bind (·.dst) = some d) (ht : t d = .bool true) : wantA ops o t = some false := want_guard hg hj ht
theorem withBase_twice (σ : AH) (n m : Nat) : (σ.withBase n).withBase m = σ.withBase m := rfl
/-- In a region whose order is open: what only looks. -/
theorem WD.same {P : Program} {S : Caller} {nt : Nat} {ops : Array Oper} {l : List Oper} {o : Oper} {t t1 : Tmps} {σ : AH} {v : Value} {Q : Tmps → AH → Prop} {fr : List Bool} {b : Bool}
    (hw : wantA ops o t = some true) (ho : ∀ n, aOp P (opv t) o.op (σ.withBase n) = some (v, σ.withBase n)) (hp : putA nt t o.dst v = some t1) (h : WD P S nt ops l fr t1 σ Q) : WD P S nt ops (o :: l) (b :: fr) t σ Q := by
  by_cases hb : (b || pureOp o.op) = true
  · refine WD.op (σ1 := σ) hw ?_ hp ?_
    · rw [if_pos hb]
      have := ho σ.base
      rwa [AH.withBase_self rfl] at this
    · rwa [AH.withBase_self rfl]
  · refine WD.op (σ1 := σ.withBase σ.size) hw ?_ hp ?_
    · rw [if_neg hb]; exact ho σ.size
    · rwa [withBase_twice, AH.withBase_self rfl]
/-- What stands in a fixed place. -/
theorem WD.own {P : Program} {S : Caller} {nt : Nat} {ops : Array Oper} {l : List Oper} {o : Oper} {t t1 : Tmps} {σ σ1 : AH} {v : Value} {Q : Tmps → AH → Prop} {fr : List Bool}
    (hw : wantA ops o t = some true) (hb : σ1.base = σ.base) (ho : aOp P (opv t) o.op σ = some (v, σ1)) (hp : putA nt t o.dst v = some t1) (h : WD P S nt ops l fr t1 σ1 Q) : WD P S nt ops (o :: l) (true :: fr) t σ Q := by
  refine WD.op (σ1 := σ1) hw (by simpa using ho) hp ?_
  rwa [AH.withBase_self hb]
/-! Walking on from a fact. -/
section
variable {P : Program} {S : Caller} {nt : Nat} {t : Tmps} {σ : AH} {Q : AExit → Tmps → AH → Prop}
theorem WC.mid {a b : Code} (R : Tmps → AH → Prop) (h : WC P S nt a t σ (Then R Q)) (k : ∀ t σ, R t σ → WC P S nt b t σ Q) : WC P S nt (.seq a b) t σ Q :=
  WC.seq (h.mono fun e t σ he => by cases e with
    | normal => exact k t σ he
    | exit j => exact he
    | ret => exact he)
theorem WC.to {a : Code} (R : Tmps → AH → Prop) (h : WC P S nt a t σ (Then R Q)) (k : ∀ t σ, R t σ → Q .normal t σ) : WC P S nt a t σ Q :=
  h.mono fun e t σ he => by cases e with
    | normal => exact k t σ he
    | exit j => exact he
    | ret => exact he
/-- What a round may come to: the next, the loop's end, or out. -/
def Exits (id : Nat) (k E : Tmps → AH → Prop) (Q : AExit → Tmps → AH → Prop) : AExit → Tmps → AH → Prop
  | .normal, t, σ => k t σ
  | .exit j, t, σ => if j = id then E t σ else Q (.exit j) t σ
  | .ret, t, σ => Q .ret t σ
theorem WC.while' {id : Nat} {c : Code} (I : Nat → Tmps → AH → Prop) (m : Nat) (h0 : I m t σ)
    (round : ∀ m t σ, I m t σ → WC P S nt c t σ (Exits id (fun t σ => ∃ m', m' < m ∧ I m' t σ) (fun t σ => Q .normal t σ) Q)) : WC P S nt (.block id (.loop c)) t σ Q := by
  refine WC.block (WC.loop I m h0 fun m t σ hI => (round m t σ hI).mono fun e t σ he => ?_)
  cases e with
  | normal => exact he
  | ret => exact he
  | exit j => exact he
theorem WC.loops {id : Nat} {c : Code} (I : Nat → Tmps → AH → Prop) (E : Tmps → AH → Prop) (m : Nat) (h0 : I m t σ)
    (round : ∀ m t σ, I m t σ → WC P S nt c t σ (Exits id (fun t σ => ∃ m', m' < m ∧ I m' t σ) E Q)) (after : ∀ t σ, E t σ → Q .normal t σ) : WC P S nt (.block id (.loop c)) t σ Q := by
  refine WC.while' I m h0 fun m t σ hI => (round m t σ hI).mono fun e t σ he => ?_
  cases e with
  | normal => exact he
  | ret => exact he
  | exit j =>
    simp only [Exits] at he ⊢
    split
    · next h => rw [if_pos h] at he; exact after _ _ he
    · next h => rw [if_neg h] at he; exact he
theorem WC.while {id : Nat} {c rest : Code} (I : Nat → Tmps → AH → Prop) (E : Tmps → AH → Prop) (m : Nat) (h0 : I m t σ)
    (round : ∀ m t σ, I m t σ → WC P S nt c t σ (Exits id (fun t σ => ∃ m', m' < m ∧ I m' t σ) E Q)) (after : ∀ t σ, E t σ → WC P S nt rest t σ Q) : WC P S nt (.seq (.block id (.loop c)) rest) t σ Q := by
  refine WC.seq (WC.while' I m h0 fun m t σ hI => (round m t σ hI).mono fun e t σ he => ?_)
  cases e with
  | normal => exact he
  | ret => exact he
  | exit j =>
    simp only [Exits] at he ⊢
    split
    · next h => rw [if_pos h] at he; exact after _ _ he
    · next h => rw [if_neg h] at he; exact he
/-- A block's end, by a fact. -/
theorem WC.blockMid {id : Nat} {a b : Code} (R : Tmps → AH → Prop) (h : WC P S nt a t σ (Exits id R R Q)) (k : ∀ t σ, R t σ → WC P S nt b t σ Q) : WC P S nt (.seq (.block id a) b) t σ Q := by
  refine WC.mid R (WC.block (h.mono fun e t σ he => ?_)) k
  cases e with
  | normal => exact he
  | ret => exact he
  | exit j =>
    simp only [Exits, Block] at he ⊢
    split
    · next h => rw [if_pos h] at he; exact he
    · next h => rw [if_neg h] at he; exact he
end
end Go.Ab
