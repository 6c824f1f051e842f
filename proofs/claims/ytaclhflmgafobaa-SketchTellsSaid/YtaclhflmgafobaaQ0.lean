/- Plain laws of words, sets of bits and sketches: no program in sight. -/
import Derived.Test.YtaclhflmgafobaaFzT
import Derived.Test.YtaclhflmgafobaaProg
namespace Go.Ab
open Go
set_option linter.unusedSimpArgs false
set_option linter.unusedVariables false
set_option maxRecDepth 20000

/-- A number by its bytes, the lowest first. -/
def val : List Nat → Nat
  | [] => 0
  | b :: r => b + 256 * val r
theorem land_split {a b : Nat} (p q : Nat) (ha : a < 256) (hb : b < 256) : (a + 256 * p) &&& (b + 256 * q) = (a &&& b) + 256 * (p &&& q) := by
  have hab : a &&& b < 2 ^ 8 := Nat.lt_of_le_of_lt Nat.and_le_left ha
  apply Nat.eq_of_testBit_eq
  intro j
  rw [show a + 256 * p = 2 ^ 8 * p + a by omega, show b + 256 * q = 2 ^ 8 * q + b by omega, show (a &&& b) + 256 * (p &&& q) = 2 ^ 8 * (p &&& q) + (a &&& b) by omega]
  rw [Nat.testBit_and, Nat.testBit_two_pow_mul_add _ ha, Nat.testBit_two_pow_mul_add _ hb, Nat.testBit_two_pow_mul_add _ hab]
  split <;> simp [Nat.testBit_and]
def by1 (a : Nat) : Nat := (a / 2 &&& 85) + (a &&& 85)
def by2 (a : Nat) : Nat := (a / 4 &&& 51) + (a &&& 51)
def by3 (a : Nat) : Nat := (a / 16 + a) &&& 15
theorem by1_all : ∀ a < 256, by1 a < 256 ∧ ∀ c < 2, (a / 2 + 128 * c) &&& 85 = a / 2 &&& 85 := by decide +kernel
theorem by2_all : ∀ a < 256, by2 a < 256 ∧ ∀ c < 4, (a / 4 + 64 * c) &&& 51 = a / 4 &&& 51 := by decide +kernel
theorem by21_all : ∀ a < 256, by2 (by1 a) / 16 ≤ 4 ∧ by2 (by1 a) % 16 ≤ 4 := by decide +kernel
theorem by3_all : ∀ a < 256, a / 16 ≤ 4 → a % 16 ≤ 4 → by3 a < 256 ∧ ∀ c < 5, (a / 16 + 16 * c + a) < 256 ∧ (a / 16 + 16 * c + a) &&& 15 = (a / 16 + a) &&& 15 := by decide +kernel
theorem step1 (l : List Nat) (h : ∀ a ∈ l, a < 256) : (val l / 2 &&& val (List.replicate l.length 85)) + (val l &&& val (List.replicate l.length 85)) = val (l.map by1) := by
  induction l with
  | nil => rfl
  | cons a r ih =>
    have ha := h a (by simp)
    obtain ⟨_, h2⟩ := by1_all a ha
    have := ih fun b hb => h b (by simp [hb])
    simp only [val, List.length_cons, List.replicate_succ, List.map_cons]
    rw [show (a + 256 * val r) / 2 = (a / 2 + 128 * (val r % 2)) + 256 * (val r / 2) by omega, land_split _ _ (by omega) (by decide), land_split _ _ ha (by decide), h2 _ (Nat.mod_lt _ (by decide)), ← this, by1]
    omega
theorem step2 (l : List Nat) (h : ∀ a ∈ l, a < 256) : (val l / 4 &&& val (List.replicate l.length 51)) + (val l &&& val (List.replicate l.length 51)) = val (l.map by2) := by
  induction l with
  | nil => rfl
  | cons a r ih =>
    have ha := h a (by simp)
    obtain ⟨_, h2⟩ := by2_all a ha
    have := ih fun b hb => h b (by simp [hb])
    simp only [val, List.length_cons, List.replicate_succ, List.map_cons]
    rw [show (a + 256 * val r) / 4 = (a / 4 + 64 * (val r % 4)) + 256 * (val r / 4) by omega, land_split _ _ (by omega) (by decide), land_split _ _ ha (by decide), h2 _ (Nat.mod_lt _ (by decide)), ← this, by2]
    omega
theorem step3 (l : List Nat) (h : ∀ a ∈ l, a < 256 ∧ a / 16 ≤ 4 ∧ a % 16 ≤ 4) : (val l / 16 + val l) &&& val (List.replicate l.length 15) = val (l.map by3) := by
  induction l with
  | nil => rfl
  | cons a r ih =>
    obtain ⟨ha, h0, h1⟩ := h a (by simp)
    obtain ⟨_, h2⟩ := by3_all a ha h0 h1
    have := ih fun b hb => h b (by simp [hb])
    have hc : val r % 16 < 5 := by
      cases r with
      | nil => decide
      | cons b r =>
        have := (h b (by simp)).2.2
        simp only [val]; omega
    obtain ⟨h3, h4⟩ := h2 _ hc
    simp only [val, List.length_cons, List.replicate_succ, List.map_cons]
    rw [show (a + 256 * val r) / 16 + (a + 256 * val r) = (a / 16 + 16 * (val r % 16) + a) + 256 * (val r / 16 + val r) by omega, land_split _ _ h3 (by decide), h4, ← this, by3]
/-- How many bits. -/
def popN (n : Nat) : Nat → Nat
  | 0 => 0
  | k + 1 => popN n k + (n.testBit k).toNat
theorem by_pop : ∀ a < 256, by3 (by2 (by1 a)) = popN a 8 := by decide +kernel
theorem popN_le (n k : Nat) : popN n k ≤ k := by
  induction k with
  | zero => exact Nat.le_refl _
  | succ k ih => simp only [popN]; have := Bool.toNat_le (n.testBit k); omega
theorem popN_mod (n j : Nat) {k : Nat} (h : k ≤ j) : popN (n % 2 ^ j) k = popN n k := by
  induction k with
  | zero => rfl
  | succ k ih => simp only [popN]; rw [ih (by omega), Nat.testBit_mod_two_pow, decide_eq_true (show k < j by omega), Bool.true_and]
theorem popN_add (n j k : Nat) : popN n (j + k) = popN n j + popN (n / 2 ^ j) k := by
  induction k with
  | zero => rfl
  | succ k ih => rw [← Nat.add_assoc, popN, ih, popN, Nat.testBit_div_two_pow, Nat.add_assoc, Nat.add_comm k j]
def bytesOf (n : Nat) : Nat → List Nat
  | 0 => []
  | k + 1 => n % 256 :: bytesOf (n / 256) k
theorem bytesOf_lt (n k : Nat) : ∀ a ∈ bytesOf n k, a < 256 := by
  induction k generalizing n with
  | zero => intro a h; cases h
  | succ k ih =>
    intro a h
    simp only [bytesOf, List.mem_cons] at h
    rcases h with rfl | h
    · exact Nat.mod_lt _ (by decide)
    · exact ih _ a h
theorem bytesOf_len (n k : Nat) : (bytesOf n k).length = k := by
  induction k generalizing n with
  | zero => rfl
  | succ k ih => simp [bytesOf, ih]
theorem val_bytesOf (n k : Nat) (h : n < 256 ^ k) : val (bytesOf n k) = n := by
  induction k generalizing n with
  | zero => simp at h; simp [bytesOf, val, h]
  | succ k ih =>
    rw [bytesOf, val, ih (n / 256) (by rw [Nat.pow_succ] at h; exact Nat.div_lt_of_lt_mul (by omega))]
    omega
theorem sum_bytes (n k : Nat) : ((bytesOf n k).map fun a => by3 (by2 (by1 a))).sum = popN n (8 * k) := by
  induction k generalizing n with
  | zero => rfl
  | succ k ih =>
    rw [bytesOf, List.map_cons, List.sum_cons, ih, by_pop _ (Nat.mod_lt _ (by decide)), show 8 * (k + 1) = 8 + 8 * k by omega, popN_add, show (256 : Nat) = 2 ^ 8 by decide, popN_mod _ _ (Nat.le_refl _)]
theorem val_lt {c : Nat} (hc : c < 256) (l : List Nat) (h : ∀ a ∈ l, a ≤ c) : 255 * val l + c ≤ c * 256 ^ l.length := by
  induction l with
  | nil => simp [val]
  | cons a r ih =>
    have h1 := h a (by simp)
    have h2 := ih fun b hb => h b (by simp [hb])
    have h3 : c * 256 ^ (a :: r).length = 256 * (c * 256 ^ r.length) := by rw [List.length_cons, Nat.pow_succ]; simp only [Nat.mul_comm, Nat.mul_left_comm]
    rw [h3, val]
    omega
theorem val_lt8 {l : List Nat} (hl : l.length = 8) (h : ∀ a ∈ l, a ≤ 255) : val l < 18446744073709551616 := by
  have := val_lt (c := 255) (by decide) l h
  rw [hl] at this
  have e : 255 * 256 ^ 8 = 4703919738795935662080 := by decide
  omega
theorem val_lt8' {l : List Nat} (hl : l.length = 8) (h : ∀ a ∈ l, a ≤ 68) : val l < 9223372036854775808 := by
  have := val_lt (c := 68) (by decide) l h
  rw [hl] at this
  have e : 68 * 256 ^ 8 = 1254378597012249509888 := by decide
  omega
def m1 : Nat := 6148914691236517205
def m2 : Nat := 3689348814741910323
def m3 : Nat := 1085102592571150095
theorem m1_eq : val (List.replicate 8 85) = m1 := by decide
theorem m2_eq : val (List.replicate 8 51) = m2 := by decide
theorem m3_eq : val (List.replicate 8 15) = m3 := by decide
theorem three (n : Nat) (h : n < 256 ^ 8) : ∃ L : List Nat, L.length = 8 ∧ (∀ a ∈ L, a ≤ 8) ∧ L.sum = popN n (8 * 8)
    ∧ ∃ m k, m = (n / 2 &&& m1) + (n &&& m1) ∧ m < 18446744073709551616 ∧ k = (m / 4 &&& m2) + (m &&& m2) ∧ k < 9223372036854775808 ∧ (k / 16 + k) &&& m3 = val L := by
  have hl := bytesOf_lt n 8
  have hv : val (bytesOf n 8) = n := val_bytesOf n 8 h
  have hs := sum_bytes n 8
  have h1 := step1 _ hl
  rw [hv, bytesOf_len, m1_eq] at h1
  have hl1 : ∀ a ∈ (bytesOf n 8).map by1, a < 256 := by
    intro a ha
    obtain ⟨b, hb, rfl⟩ := List.mem_map.1 ha
    exact (by1_all b (hl b hb)).1
  have h2 := step2 _ hl1
  rw [List.length_map, bytesOf_len, m2_eq] at h2
  have hl2 : ∀ a ∈ ((bytesOf n 8).map by1).map by2, a < 256 ∧ a / 16 ≤ 4 ∧ a % 16 ≤ 4 := by
    intro a ha
    obtain ⟨b, hb, rfl⟩ := List.mem_map.1 ha
    obtain ⟨c, hc, rfl⟩ := List.mem_map.1 hb
    exact ⟨(by2_all _ (by1_all c (hl c hc)).1).1, by21_all c (hl c hc)⟩
  have h3 := step3 _ hl2
  rw [List.length_map, List.length_map, bytesOf_len, m3_eq] at h3
  have hp : ∀ a ∈ (((bytesOf n 8).map by1).map by2).map by3, a ≤ 8 := by
    intro a ha
    rw [List.map_map, List.map_map] at ha
    obtain ⟨b, hb, rfl⟩ := List.mem_map.1 ha
    show by3 (by2 (by1 b)) ≤ 8
    rw [by_pop b (hl b hb)]; exact popN_le b 8
  refine ⟨(((bytesOf n 8).map by1).map by2).map by3, by simp [bytesOf_len], hp, by rw [← hs, List.map_map, List.map_map]; rfl, _, _, rfl, ?_, rfl, ?_, ?_⟩
  · rw [h1]
    exact val_lt8 (by simp [bytesOf_len]) fun a ha => by have := hl1 a ha; omega
  · rw [h1, h2]
    exact val_lt8' (by simp [bytesOf_len]) fun a ha => by have := hl2 a ha; omega
  · rw [h1, h2, h3]
theorem div_head {c d y Y : Nat} (h : y = c + d * Y) (hc : c < d) : y / d = Y := by
  rw [h, Nat.add_mul_div_left _ _ (by omega), Nat.div_eq_of_lt hc, Nat.zero_add]
theorem spread {L : List Nat} (hL : L.length = 8) (h8 : ∀ a ∈ L, a ≤ 8) : ∃ a b c, a = val L + val L / 256 ∧ a < 18446744073709551616 ∧ b = a + a / 65536 ∧ b < 18446744073709551616 ∧ c = b + b / 4294967296 ∧ c < 18446744073709551616 ∧ c % 128 = L.sum := by
  match L, hL with
  | [c0, c1, c2, c3, c4, c5, c6, c7], _ =>
    have q0 := h8 c0 (by simp); have q1 := h8 c1 (by simp); have q2 := h8 c2 (by simp); have q3 := h8 c3 (by simp)
    have q4 := h8 c4 (by simp); have q5 := h8 c5 (by simp); have q6 := h8 c6 (by simp); have q7 := h8 c7 (by simp)
    clear h8
    have hsum : [c0, c1, c2, c3, c4, c5, c6, c7].sum = c0 + (c1 + (c2 + (c3 + (c4 + (c5 + (c6 + c7)))))) := by simp
    rw [hsum]; clear hsum
    simp only [val, Nat.mul_zero, Nat.add_zero]
    generalize hy : c0 + 256 * (c1 + 256 * (c2 + 256 * (c3 + 256 * (c4 + 256 * (c5 + 256 * (c6 + 256 * c7)))))) = y
    have e1 := div_head hy.symm (by omega)
    obtain ⟨a, ha⟩ : ∃ a, a = y + y / 256 := ⟨_, rfl⟩
    rw [e1] at ha
    have e2 : a / 65536 = (c2 + c3) + 256 * ((c3 + c4) + 256 * ((c4 + c5) + 256 * ((c5 + c6) + 256 * ((c6 + c7) + 256 * c7)))) := div_head (c := (c0 + c1) + 256 * (c1 + c2)) (by rw [ha, ← hy]; simp only [Nat.mul_add, ← Nat.mul_assoc, Nat.reduceMul]; omega) (by omega)
    obtain ⟨b, hb⟩ : ∃ b, b = a + a / 65536 := ⟨_, rfl⟩
    rw [e2] at hb
    have e3 : b / 4294967296 = (c4 + c5 + c6 + c7) + 256 * ((c5 + c6 + c7) + 256 * ((c6 + c7) + 256 * c7)) := div_head (c := (c0 + c1 + c2 + c3) + 256 * ((c1 + c2 + c3 + c4) + 256 * ((c2 + c3 + c4 + c5) + 256 * (c3 + c4 + c5 + c6)))) (by rw [hb, ha, ← hy]; simp only [Nat.mul_add, ← Nat.mul_assoc, Nat.reduceMul]; omega) (by omega)
    obtain ⟨c, hc⟩ : ∃ c, c = b + b / 4294967296 := ⟨_, rfl⟩
    rw [e3] at hc
    have b1 : a < 18446744073709551616 := by rw [ha, ← hy]; clear hc e3 hb e2 ha e1 hy; omega
    have b2 : b < 18446744073709551616 := by rw [hb, ha, ← hy]; clear b1 hc e3 hb e2 ha e1 hy; omega
    have b3 : c < 18446744073709551616 := by rw [hc, hb, ha, ← hy]; clear b1 b2 hc e3 hb e2 ha e1 hy; omega
    refine ⟨a, b, c, by rw [ha, e1], b1, by rw [hb, e2], b2, by rw [hc, e3], b3, ?_⟩
    clear b1 b2 b3
    have : c = (c0 + (c1 + (c2 + (c3 + (c4 + (c5 + (c6 + c7))))))) + 256 * ((c1 + c2 + c3 + c4 + c5 + c6 + c7) + 256 * ((c2 + c3 + c4 + c5 + c6 + c7) + 256 * ((c3 + c4 + c5 + c6 + c7) + 256 * ((c4 + c5 + c6 + c7) + 256 * ((c5 + c6 + c7) + 256 * ((c6 + c7) + 256 * c7)))))) := by
      rw [hc, hb, ha, ← hy]; simp only [Nat.mul_add, ← Nat.mul_assoc, Nat.reduceMul]; omega
    rw [this]
    clear this hc e3 hb e2 ha e1 hy
    omega
end Go.Ab
namespace Go.Proofs.Ytaclhflmgafobaa
open Go Go.Ab Go.Proofs
set_option linter.unusedSimpArgs false
set_option linter.unusedVariables false
set_option maxRecDepth 20000
abbrev W := List (BitVec 64)
theorem getD_some {β : Type} {l : List β} {i : Nat} (h : i < l.length) (d : β) : l[i]? = some (l.getD i d) := by rw [List.getElem?_eq_getElem h]; simp [List.getD, h]
theorem getD_none {β : Type} {l : List β} {i : Nat} (h : l.length ≤ i) (d : β) : l.getD i d = d := by simp [List.getD, List.getElem?_eq_none h]
def mix1 (x : BitVec 64) : BitVec 64 := x + BitVec.ofInt 64 11400714819323198485
def mix2 (x : BitVec 64) : BitVec 64 := (x ^^^ (x >>> 30)) * BitVec.ofInt 64 13787848793156543929
def mix3 (x : BitVec 64) : BitVec 64 := (x ^^^ (x >>> 27)) * BitVec.ofInt 64 10723151780598845931
def mix (x : BitVec 64) : BitVec 64 := mix3 (mix2 (mix1 x)) ^^^ (mix3 (mix2 (mix1 x)) >>> 31)
def atRng (s n : BitVec 64) : BitVec 64 := mix (s + n * BitVec.ofInt 64 11400714819323198485)
def ones1 (x : BitVec 64) : BitVec 64 := ((x >>> 1) &&& BitVec.ofInt 64 6148914691236517205) + (x &&& BitVec.ofInt 64 6148914691236517205)
def ones2 (x : BitVec 64) : BitVec 64 := ((x >>> 2) &&& BitVec.ofInt 64 3689348814741910323) + (x &&& BitVec.ofInt 64 3689348814741910323)
def ones3 (x : BitVec 64) : BitVec 64 := ((x >>> 4) + x) &&& BitVec.ofInt 64 1085102592571150095
def onesUp (k : Nat) (x : BitVec 64) : BitVec 64 := x + (x >>> k)
def signOf (s : BitVec 64) (p c : Int) : Int := if min p c < 0 then 0 else IntKind.i64.wrap (((atRng (atRng s (BitVec.ofInt 64 p)) (BitVec.ofInt 64 c) &&& BitVec.ofInt 64 1) <<< 1).toInt - 1)
def trimN (xs : List (BitVec 64)) : Nat → Nat
  | 0 => 0
  | n + 1 => if xs[n]? = some 0#64 then trimN xs n else n + 1
def trim (xs : List (BitVec 64)) : List (BitVec 64) := xs.take (trimN xs xs.length)
theorem trimN_le (xs : List (BitVec 64)) (n : Nat) : trimN xs n ≤ n := by
  induction n with
  | zero => exact Nat.le_refl _
  | succ n ih => simp only [trimN]; split <;> omega
def lay (F : BitVec 64 → BitVec 64 → BitVec 64) (xs ys : List (BitVec 64)) (n : Nat) : List (BitVec 64) := (List.range n).map fun i => F (xs.getD i 0#64) (ys.getD i 0#64)
def both (F : BitVec 64 → BitVec 64 → BitVec 64) (xs ys : List (BitVec 64)) : List (BitVec 64) :=
  trim (lay F (xs.take 64) (ys.take 64) (max (xs.take 64).length (ys.take 64).length))
def part (F : BitVec 64 → BitVec 64 → BitVec 64) (xs ys : List (BitVec 64)) (n i : Nat) : List (BitVec 64) := lay F xs ys i ++ List.replicate (n - i) 0#64
theorem part_len (F : BitVec 64 → BitVec 64 → BitVec 64) (xs ys : List (BitVec 64)) {n i : Nat} (h : i ≤ n) : (part F xs ys n i).length = n := by simp [part, lay]; omega
theorem part_set (F : BitVec 64 → BitVec 64 → BitVec 64) (xs ys : List (BitVec 64)) {n i : Nat} (h : i < n) : (part F xs ys n i).set i (F (xs.getD i 0#64) (ys.getD i 0#64)) = part F xs ys n (i + 1) := by
  have e : (lay F xs ys i).length = i := by simp [lay]
  obtain ⟨k, hk⟩ : ∃ k, n - i = k + 1 := ⟨n - i - 1, by omega⟩
  simp only [part]
  rw [List.set_append_right _ _ (by omega), e, Nat.sub_self, hk, List.replicate_succ, List.set_cons_zero, show n - (i + 1) = k by omega]
  simp [lay, List.range_succ]
def pop (x : BitVec 64) : Nat := popN x.toNat 64
theorem pop_le (x : BitVec 64) : pop x ≤ 64 := popN_le _ _
theorem ofm1 : (BitVec.ofInt 64 6148914691236517205).toNat = m1 := by decide
theorem ofm2 : (BitVec.ofInt 64 3689348814741910323).toNat = m2 := by decide
theorem ofm3 : (BitVec.ofInt 64 1085102592571150095).toNat = m3 := by decide
def cntN (xs : List (BitVec 64)) : Nat → Nat
  | 0 => 0
  | n + 1 => cntN xs n + pop (xs.getD n 0#64)
def cnt (xs : List (BitVec 64)) : Nat := cntN xs (min xs.length 64)
theorem cntN_le (xs : List (BitVec 64)) (n : Nat) : cntN xs n ≤ 64 * n := by
  induction n with
  | zero => exact Nat.le_refl _
  | succ n ih => simp only [cntN]; have := pop_le (xs.getD n 0#64); omega
theorem cntN_take (xs : List (BitVec 64)) (m n : Nat) (h : n ≤ m) : cntN (xs.take m) n = cntN xs n := by
  induction n with
  | zero => rfl
  | succ n ih => simp only [cntN]; rw [ih (by omega)]; simp [List.getD, List.getElem?_take, show n < m by omega]
def diff (xs ys : List (BitVec 64)) : List (BitVec 64) := both (fun x y => x &&& ~~~y) xs ys
def apart (xs ys : List (BitVec 64)) : Nat := cnt (both (· ||| ·) (diff xs ys) (diff ys xs))
def mostN (l : List Int) : Nat → Int
  | 0 => 0
  | i + 1 => if l.getD i 0 < 4096 then max (mostN l i) (l.getD i 0 + 1) else mostN l i
theorem mostN_rng (l : List Int) (i : Nat) : 0 ≤ mostN l i ∧ mostN l i ≤ 4096 := by
  induction i with
  | zero => exact ⟨Int.le_refl _, show (0 : Int) ≤ 4096 by decide⟩
  | succ i ih => simp only [mostN]; split <;> omega
theorem mostN_mono (l : List Int) (i j : Nat) (h : i ≤ j) : mostN l i ≤ mostN l j := by
  induction j with
  | zero => obtain rfl : i = 0 := by omega
            exact Int.le_refl _
  | succ j ih =>
    rcases Nat.lt_or_ge j i with hj | hj
    · obtain rfl : i = j + 1 := by omega
      exact Int.le_refl _
    · have := ih hj
      simp only [mostN]; split <;> omega
theorem mostN_ge (l : List Int) (i j : Nat) (h : i < j) (h1 : l.getD i 0 < 4096) : l.getD i 0 + 1 ≤ mostN l j := by
  refine Int.le_trans ?_ (mostN_mono l (i + 1) j h)
  rw [mostN, if_pos h1]; omega
def wordsN (l : List Int) : Nat := ((mostN l l.length + 63) / 64).toNat
def setBit (xs : List (BitVec 64)) (n : Nat) : List (BitVec 64) := xs.set (n / 64) (xs.getD (n / 64) 0#64 ||| (BitVec.ofInt 64 1 <<< (n % 64)))
def outN (l : List Int) : Nat → List (BitVec 64)
  | 0 => List.replicate (wordsN l) 0#64
  | i + 1 => if 0 ≤ l.getD i 0 ∧ l.getD i 0 < 4096 then setBit (outN l i) (l.getD i 0).toNat else outN l i
theorem outN_len (l : List Int) (i : Nat) : (outN l i).length = wordsN l := by
  induction i with
  | zero => simp [outN]
  | succ i ih => simp only [outN]; split <;> simp [setBit, ih]
def setOf (l : List Int) : List (BitVec 64) := trim (outN l l.length)
theorem wordsN_le (l : List Int) : wordsN l ≤ 64 := by have := mostN_rng l l.length; unfold wordsN; omega
def bit (xs : List (BitVec 64)) (p : Nat) : Bool := (xs.getD (p / 64) 0#64).getLsbD (p % 64)
def hasOf (xs : List (BitVec 64)) (n : Int) : Bool := decide (0 ≤ n) && bit (xs.take 64) n.toNat
theorem word_bit (x : BitVec 64) (k : Nat) : decide ((x >>> k) &&& BitVec.ofInt 64 1 ≠ 0#64) = x.getLsbD k := by
  have e : BitVec.ofInt 64 1 = 1#64 := by decide
  rw [e]
  cases hb : x.getLsbD k with
  | true =>
    apply decide_eq_true
    intro hz
    have := congrArg (fun y => BitVec.getLsbD y 0) hz
    simp [hb] at this
  | false =>
    apply decide_eq_false
    intro hz
    apply hz
    apply BitVec.eq_of_getLsbD_eq
    intro i hi
    rw [BitVec.getLsbD_and, BitVec.getLsbD_ushiftRight, BitVec.getLsbD_one]
    by_cases h0 : i = 0
    · subst h0; simp [hb]
    · simp [h0]
def bitAt (s : BitVec 64) (p i : Int) : BitVec 64 := atRng (atRng s (BitVec.ofInt 64 p)) (BitVec.ofInt 64 i) &&& BitVec.ofInt 64 1
def sumN (s : BitVec 64) (p : Int) (l : List Int) : Nat → Int
  | 0 => 0
  | i + 1 => if bitAt s p (i : Int) = 0#64 then sumN s p l i - l.getD i 0 else sumN s p l i + l.getD i 0
def aboveOf (s : BitVec 64) (p : Int) (l : List Int) : Bool := decide (0 ≤ sumN s p l l.length)
def Small (l : List Int) : Prop := l.length ≤ 1000 ∧ ∀ x ∈ l, -2147483648 ≤ x ∧ x ≤ 2147483647
theorem Small.getD {l : List Int} (h : Small l) (i : Nat) : -2147483648 ≤ l.getD i 0 ∧ l.getD i 0 ≤ 2147483647 := by
  by_cases hi : i < l.length
  · exact h.2 _ (List.mem_of_getElem? (getD_some hi 0))
  · rw [getD_none (by omega)]; omega
theorem sumN_bd {l : List Int} (h : Small l) (s : BitVec 64) (p : Int) (i : Nat) : -2147483648 * (i : Int) ≤ sumN s p l i ∧ sumN s p l i ≤ 2147483648 * (i : Int) := by
  induction i with
  | zero => exact ⟨by simp [sumN], by simp [sumN]⟩
  | succ i ih =>
    have := h.getD i
    simp only [sumN]; split <;> omega
def planes (s : BitVec 64) (l : List Int) : Nat → List Int
  | 0 => []
  | n + 1 => planes s l n ++ (if aboveOf s (n : Int) l then [(n : Int)] else [])
theorem planes_len (s : BitVec 64) (l : List Int) (n : Nat) : (planes s l n).length ≤ n := by
  induction n with
  | zero => exact Nat.le_refl _
  | succ n ih => simp only [planes]; split <;> simp <;> omega
theorem planes_mem {s : BitVec 64} {l : List Int} {n : Nat} {x : Int} : x ∈ planes s l n ↔ 0 ≤ x ∧ x < (n : Int) ∧ aboveOf s x l = true := by
  induction n with
  | zero => simp [planes]; omega
  | succ n ih =>
    simp only [planes, List.mem_append, ih]
    by_cases h : aboveOf s (n : Int) l = true
    · simp only [h, if_true, List.mem_singleton]
      constructor
      · rintro (h1 | rfl)
        · exact ⟨h1.1, by omega, h1.2.2⟩
        · exact ⟨by omega, by omega, h⟩
      · rintro ⟨h1, h2, h3⟩
        rcases Int.lt_or_eq_of_le (Int.le_of_lt_add_one (by omega : x < (n : Int) + 1)) with h4 | h4
        · exact .inl ⟨h1, h4, h3⟩
        · exact .inr h4
    · simp only [Bool.not_eq_true] at h
      simp only [h, Bool.false_eq_true, if_false, List.not_mem_nil, or_false]
      constructor
      · rintro ⟨h1, h2, h3⟩
        exact ⟨h1, by omega, h3⟩
      · rintro ⟨h1, h2, h3⟩
        refine ⟨h1, ?_, h3⟩
        rcases Int.lt_or_eq_of_le (Int.le_of_lt_add_one (by omega : x < (n : Int) + 1)) with h4 | h4
        · exact h4
        · rw [h4, h] at h3; cases h3
def howMany (n : Int) : Nat := (min (max n 0) 4096).toNat
def sketchOf (s : BitVec 64) (l : List Int) (n : Int) : List (BitVec 64) := setOf (planes s l (howMany n))
def wd (xs : W) (j : Nat) : BitVec 64 := xs.getD j 0#64
theorem trimN_zero (xs : W) (n : Nat) (hn : n ≤ xs.length) : ∀ j, trimN xs n ≤ j → j < n → wd xs j = 0#64 := by
  induction n with
  | zero => intro j _ h; omega
  | succ n ih =>
    intro j h1 h2
    simp only [trimN] at h1
    split at h1
    · next hz =>
      rcases Nat.lt_or_ge j n with h | h
      · exact ih (by omega) j h1 h
      · obtain rfl : j = n := by omega
        simp [wd, List.getD, hz]
    · omega
theorem wd_trim (xs : W) (j : Nat) : wd (trim xs) j = wd xs j := by
  unfold trim
  by_cases h : j < trimN xs xs.length
  · simp [wd, List.getD, List.getElem?_take, h]
  · have e : wd (xs.take (trimN xs xs.length)) j = 0#64 := getD_none (by simp; omega) _
    rw [e]
    rcases Nat.lt_or_ge j xs.length with h1 | h1
    · exact (trimN_zero xs _ (Nat.le_refl _) j (by omega) h1).symm
    · exact (getD_none h1 _).symm
theorem wd_take (xs : W) (j : Nat) : wd (xs.take 64) j = if j < 64 then wd xs j else 0#64 := by
  by_cases h : j < 64
  · simp [wd, List.getD, List.getElem?_take, h]
  · rw [if_neg h]; exact getD_none (by simp; omega) _
theorem wd_lay (F : BitVec 64 → BitVec 64 → BitVec 64) (xs ys : W) (n j : Nat) : wd (lay F xs ys n) j = if j < n then F (wd xs j) (wd ys j) else 0#64 := by
  by_cases h : j < n
  · rw [if_pos h]; simp [wd, lay, List.getD, h]
  · rw [if_neg h]; exact getD_none (by simp [lay]; omega) _
theorem wd_both {F : BitVec 64 → BitVec 64 → BitVec 64} (hF : F 0#64 0#64 = 0#64) (xs ys : W) (j : Nat) : wd (both F xs ys) j = if j < 64 then F (wd xs j) (wd ys j) else 0#64 := by
  rw [both, wd_trim, wd_lay, wd_take, wd_take]
  by_cases h : j < 64
  · simp only [if_pos h]
    by_cases h2 : j < max (xs.take 64).length (ys.take 64).length
    · rw [if_pos h2]
    · rw [if_neg h2]
      have h3 : xs.length ≤ j := by simp at h2; omega
      have h4 : ys.length ≤ j := by simp at h2; omega
      rw [show wd xs j = 0#64 from getD_none h3 _, show wd ys j = 0#64 from getD_none h4 _, hF]
  · simp only [if_neg h]; split <;> simp [hF]
theorem pop_zero : pop 0#64 = 0 := by decide +kernel
theorem cntN_more (xs : W) (n : Nat) (h : min xs.length 64 ≤ n) (h' : xs.length ≤ 64 ∨ n = 64) : cntN xs n = cnt xs ∨ n > 64 := by
  unfold cnt
  induction n with
  | zero => left; rw [show min xs.length 64 = 0 by omega]
  | succ n ih =>
    by_cases h1 : min xs.length 64 = n + 1
    · left; rw [h1]
    · rcases Nat.lt_or_ge n 64 with h2 | h2
      · have h3 : xs.length ≤ n := by omega
        rcases ih (by omega) (.inl (by omega)) with h4 | h4
        · left; rw [cntN, h4, getD_none h3, pop_zero]; rfl
        · omega
      · omega
theorem cnt_all (xs : W) : cnt xs = cntN xs 64 := by
  rcases cntN_more xs 64 (by omega) (.inr rfl) with h | h
  · exact h.symm
  · omega
theorem cntN_congr {xs ys : W} (n : Nat) (h : ∀ j, j < n → pop (wd xs j) = pop (wd ys j)) : cntN xs n = cntN ys n := by
  induction n with
  | zero => rfl
  | succ n ih => rw [cntN, cntN, ih fun j hj => h j (by omega)]; have := h n (by omega); unfold wd at this; omega
theorem cntN_le_add {xs ys zs : W} (n : Nat) (h : ∀ j, j < n → pop (wd xs j) ≤ pop (wd ys j) + pop (wd zs j)) : cntN xs n ≤ cntN ys n + cntN zs n := by
  induction n with
  | zero => exact Nat.zero_le _
  | succ n ih => have h1 := ih fun j hj => h j (by omega); have := h n (by omega); unfold wd at this; simp only [cntN]; omega
theorem popN_le_add (x y z k : Nat) (h : ∀ j, j < k → x.testBit j = true → y.testBit j = true ∨ z.testBit j = true) : popN x k ≤ popN y k + popN z k := by
  induction k with
  | zero => exact Nat.zero_le _
  | succ k ih =>
    have h1 := ih fun j hj => h j (by omega)
    have h2 := h k (by omega)
    simp only [popN]
    cases hx : x.testBit k <;> cases hy : y.testBit k <;> cases hz : z.testBit k <;> simp_all <;> omega
def xor' (x y : BitVec 64) : BitVec 64 := (x &&& ~~~y) ||| (y &&& ~~~x)
theorem wd_apart (xs ys : W) (j : Nat) : wd (both (· ||| ·) (diff xs ys) (diff ys xs)) j = if j < 64 then xor' (wd xs j) (wd ys j) else 0#64 := by
  rw [wd_both (by decide), diff, diff, wd_both (by decide), wd_both (by decide)]
  by_cases h : j < 64
  · simp only [if_pos h, xor']
  · simp only [if_neg h]
theorem apart_comm (xs ys : W) : apart xs ys = apart ys xs := by
  rw [apart, apart, cnt_all, cnt_all]
  refine cntN_congr 64 fun j hj => ?_
  rw [wd_apart, wd_apart, xor', xor', BitVec.or_comm]
theorem apart_tri (xs ys zs : W) : apart xs zs ≤ apart xs ys + apart ys zs := by
  rw [apart, apart, apart, cnt_all, cnt_all, cnt_all]
  refine cntN_le_add 64 fun j hj => ?_
  rw [wd_apart, wd_apart, wd_apart, if_pos hj, if_pos hj, if_pos hj]
  generalize wd xs j = x
  generalize wd ys j = y
  generalize wd zs j = z
  refine popN_le_add _ _ _ 64 fun i hi => ?_
  simp only [BitVec.testBit_toNat, xor', BitVec.getLsbD_or, BitVec.getLsbD_and, BitVec.getLsbD_not, hi, decide_true, Bool.true_and]
  cases x.getLsbD i <;> cases y.getLsbD i <;> cases z.getLsbD i <;> simp
theorem cntN_zero {xs : W} (n : Nat) (h : ∀ j, j < n → wd xs j = 0#64) : cntN xs n = 0 := by
  induction n with
  | zero => rfl
  | succ n ih => rw [cntN, ih fun j hj => h j (by omega), show xs.getD n 0#64 = 0#64 from h n (by omega), pop_zero]
theorem apart_self (xs : W) : apart xs xs = 0 := by
  rw [apart, cnt_all]
  refine cntN_zero 64 fun j hj => ?_
  rw [wd_apart, if_pos hj, xor']
  apply BitVec.eq_of_getLsbD_eq
  intro i hi
  simp only [BitVec.getLsbD_or, BitVec.getLsbD_and, BitVec.getLsbD_not, hi, decide_true, Bool.true_and]
  cases (wd xs j).getLsbD i <;> simp
theorem bit_wd (xs : W) (p : Nat) : bit xs p = (wd xs (p / 64)).getLsbD (p % 64) := rfl
theorem bit_trim (xs : W) (p : Nat) : bit (trim xs) p = bit xs p := by rw [bit_wd, wd_trim]; rfl
theorem bit_setBit (xs : W) (n p : Nat) (h : n / 64 < xs.length) : bit (setBit xs n) p = (bit xs p || decide (p = n)) := by
  have e : BitVec.ofInt 64 1 = 1#64 := by decide
  rw [bit_wd, bit_wd]
  have hm : p % 64 < 64 := Nat.mod_lt _ (by decide)
  by_cases hj : p / 64 = n / 64
  · have : wd (setBit xs n) (p / 64) = wd xs (p / 64) ||| (1#64 <<< (n % 64)) := by
      rw [hj]; simp [wd, setBit, List.getD, h, e]
    rw [this, BitVec.getLsbD_or, BitVec.getLsbD_shiftLeft, BitVec.getLsbD_one]
    congr 1
    by_cases hp : p = n
    · subst hp; simp [hm]
    · rw [decide_eq_false hp]
      have : p % 64 ≠ n % 64 := fun h' => hp (by omega)
      by_cases hlt : p % 64 < n % 64
      · simp [hlt]
      · have : p % 64 - n % 64 ≠ 0 := by omega
        simp [this]
  · have : wd (setBit xs n) (p / 64) = wd xs (p / 64) := by
      simp only [wd, setBit, List.getD, List.getElem?_set, if_neg (Ne.symm hj)]
    have hp : p ≠ n := fun h' => hj (by rw [h'])
    rw [this, decide_eq_false hp, Bool.or_false]
theorem bit_outN (l : List Int) (i : Nat) (hi : i ≤ l.length) (p : Nat) : bit (outN l i) p = true ↔ p < 4096 ∧ ∃ j, j < i ∧ l.getD j 0 = (p : Int) := by
  induction i with
  | zero =>
    have : bit (outN l 0) p = false := by
      rw [bit_wd, outN, wd]
      rcases Nat.lt_or_ge (p / 64) (wordsN l) with h | h
      · simp [List.getD, h]
      · rw [getD_none (by simpa using h)]; simp
    simp [this]
  | succ i ih =>
    have ih := ih (by omega)
    simp only [outN]
    split
    · next h =>
      have hge := mostN_ge l i l.length (by omega) h.2
      rw [bit_setBit _ _ _ (by rw [outN_len, wordsN]; omega)]
      simp only [Bool.or_eq_true, ih, decide_eq_true_eq]
      constructor
      · rintro (⟨h1, j, h2, h3⟩ | h1)
        · exact ⟨h1, j, by omega, h3⟩
        · exact ⟨by omega, i, by omega, by omega⟩
      · rintro ⟨h1, j, h2, h3⟩
        rcases Nat.lt_or_ge j i with h4 | h4
        · exact .inl ⟨h1, j, h4, h3⟩
        · obtain rfl : j = i := by omega
          exact .inr (by omega)
    · next h =>
      rw [ih]
      constructor
      · rintro ⟨h1, j, h2, h3⟩; exact ⟨h1, j, by omega, h3⟩
      · rintro ⟨h1, j, h2, h3⟩
        rcases Nat.lt_or_ge j i with h4 | h4
        · exact ⟨h1, j, h4, h3⟩
        · obtain rfl : j = i := by omega
          exact absurd ⟨by omega, by omega⟩ h
theorem bit_setOf (l : List Int) (p : Nat) : bit (setOf l) p = true ↔ p < 4096 ∧ (p : Int) ∈ l := by
  rw [setOf, bit_trim, bit_outN l _ (Nat.le_refl _)]
  constructor
  · rintro ⟨h1, j, h2, h3⟩
    exact ⟨h1, by rw [← h3]; exact List.mem_of_getElem? (getD_some h2 0)⟩
  · rintro ⟨h1, h2⟩
    obtain ⟨j, hj, h3⟩ := List.getElem_of_mem h2
    exact ⟨h1, j, hj, by simp [List.getD, hj, h3]⟩
theorem wd_ext {xs ys : W} (h : ∀ p, bit xs p = bit ys p) (j : Nat) : wd xs j = wd ys j := by
  apply BitVec.eq_of_getLsbD_eq
  intro i hi
  have := h (64 * j + i)
  rw [bit_wd, bit_wd, show (64 * j + i) / 64 = j by omega, show (64 * j + i) % 64 = i by omega] at this
  exact this
def Trimmed (xs : W) : Prop := xs.length = 0 ∨ wd xs (xs.length - 1) ≠ 0#64
theorem trim_trimmed (xs : W) : Trimmed (trim xs) := by
  have key : ∀ n, n ≤ xs.length → trimN xs n = 0 ∨ wd xs (trimN xs n - 1) ≠ 0#64 := by
    intro n
    induction n with
    | zero => intro _; exact .inl rfl
    | succ n ih =>
      intro hn
      simp only [trimN]
      split
      · exact ih (by omega)
      · next h =>
        right
        intro h'
        apply h
        rw [List.getElem?_eq_getElem (by omega)]
        simpa [wd, List.getD, show n < xs.length by omega] using h'
  have hl : (trim xs).length = trimN xs xs.length := by have := trimN_le xs xs.length; simp [trim]; omega
  rcases key xs.length (Nat.le_refl _) with h | h
  · exact .inl (by rw [hl, h])
  · right; rw [hl, wd_trim]; exact h
theorem trimmed_ext {xs ys : W} (hx : Trimmed xs) (hy : Trimmed ys) (h : ∀ j, wd xs j = wd ys j) : xs = ys := by
  have len : ∀ {xs ys : W}, Trimmed xs → (∀ j, wd xs j = wd ys j) → xs.length ≤ ys.length := by
    intro xs ys hx h
    rcases hx with h0 | h0
    · omega
    · rcases Nat.lt_or_ge ys.length xs.length with h1 | h1
      · exact absurd (by rw [h, wd, getD_none (by omega)]) h0
      · exact h1
  have hlen : xs.length = ys.length := Nat.le_antisymm (len hx h) (len hy fun j => (h j).symm)
  apply List.ext_getElem hlen
  intro i h1 h2
  have := h i
  simpa [wd, List.getD, h1, h2] using this
theorem bit_or (xs ys : W) (p : Nat) : bit (both (· ||| ·) xs ys) p = (decide (p < 4096) && (bit xs p || bit ys p)) := by
  rw [bit_wd, wd_both (by decide)]
  by_cases h : p < 4096
  · rw [if_pos (by omega), BitVec.getLsbD_or, decide_eq_true h, Bool.true_and]; rfl
  · rw [if_neg (by omega), decide_eq_false h, Bool.false_and]; simp
theorem bit_less (xs ys : W) (p : Nat) : bit (both (fun x y => x &&& ~~~y) xs ys) p = (decide (p < 4096) && (bit xs p && !bit ys p)) := by
  have hm : p % 64 < 64 := Nat.mod_lt _ (by decide)
  rw [bit_wd, wd_both (by decide)]
  by_cases h : p < 4096
  · rw [if_pos (by omega), BitVec.getLsbD_and, BitVec.getLsbD_not, decide_eq_true h, decide_eq_true hm, Bool.true_and, Bool.true_and]; rfl
  · rw [if_neg (by omega), decide_eq_false h, Bool.false_and]; simp
def cB (xs : W) : Nat → Nat
  | 0 => 0
  | k + 1 => cB xs k + (bit xs k).toNat
theorem cB_pop (xs : W) (n k : Nat) (hk : k ≤ 64) : cB xs (64 * n + k) = cB xs (64 * n) + popN (wd xs n).toNat k := by
  induction k with
  | zero => rfl
  | succ k ih =>
    rw [← Nat.add_assoc, cB, ih (by omega), popN, bit_wd, show (64 * n + k) / 64 = n by omega, show (64 * n + k) % 64 = k by omega, BitVec.testBit_toNat, Nat.add_assoc]
theorem cntN_cB (xs : W) (n : Nat) : cntN xs n = cB xs (64 * n) := by
  induction n with
  | zero => rfl
  | succ n ih => rw [cntN, ih, show 64 * (n + 1) = 64 * n + 64 by omega, cB_pop _ _ _ (Nat.le_refl _)]; rfl
theorem cB_below (xs : W) (m k : Nat) (h : ∀ p, p < k → bit xs p = decide (p < m)) : cB xs k = min k m := by
  induction k with
  | zero => simp [cB]
  | succ k ih =>
    rw [cB, ih fun p hp => h p (by omega), h k (by omega)]
    by_cases hk : k < m
    · rw [decide_eq_true hk]; simp; omega
    · rw [decide_eq_false hk]; simp; omega
theorem cnt_below (xs : W) (m : Nat) (hm : m ≤ 4096) (h : ∀ p, p < 4096 → bit xs p = decide (p < m)) : cnt xs = m := by
  rw [cnt_all, cntN_cB, cB_below xs m _ h]; omega
theorem bit_high (l : List Int) (p : Nat) (h : 4096 ≤ p) : bit (setOf l) p = false := by
  cases hb : bit (setOf l) p with
  | false => rfl
  | true => have := (bit_setOf l p).1 hb; omega
theorem bit_sketch (s : BitVec 64) (l : List Int) (n : Int) (p : Nat) : bit (sketchOf s l n) p = (decide (p < howMany n) && aboveOf s (p : Int) l) := by
  have hN : howMany n ≤ 4096 := by unfold howMany; omega
  rw [Bool.eq_iff_iff, sketchOf, bit_setOf, planes_mem]
  simp only [Bool.and_eq_true, decide_eq_true_eq]
  constructor
  · rintro ⟨h1, h2, h3, h4⟩; exact ⟨by omega, h4⟩
  · rintro ⟨h1, h2⟩; exact ⟨by omega, by omega, by omega, h2⟩
theorem getD_map {f : Int → Int} (hf : f 0 = 0) (l : List Int) (i : Nat) : (l.map f).getD i 0 = f (l.getD i 0) := by
  simp only [List.getD, List.getElem?_map]
  cases l[i]? with
  | none => simp [hf]
  | some x => rfl
def twice (l : List Int) : List Int := l.map (2 * ·)
def back (l : List Int) : List Int := l.map (0 - ·)
theorem sumN_twice (s : BitVec 64) (p : Int) (l : List Int) (i : Nat) : sumN s p (twice l) i = 2 * sumN s p l i := by
  induction i with
  | zero => rfl
  | succ i ih =>
    simp only [sumN, ih]
    rw [twice, getD_map (by decide)]
    split <;> omega
theorem sumN_back (s : BitVec 64) (p : Int) (l : List Int) (i : Nat) : sumN s p (back l) i = 0 - sumN s p l i := by
  induction i with
  | zero => rfl
  | succ i ih =>
    simp only [sumN, ih]
    rw [back, getD_map (by decide)]
    split <;> omega
theorem above_twice (s : BitVec 64) (p : Int) (l : List Int) : aboveOf s p (twice l) = aboveOf s p l := by
  rw [aboveOf, aboveOf, show (twice l).length = l.length by simp [twice], sumN_twice]
  exact decide_eq_decide.2 (by omega)
theorem planes_congr (s : BitVec 64) {l l' : List Int} (h : ∀ p, aboveOf s p l = aboveOf s p l') (n : Nat) : planes s l n = planes s l' n := by
  induction n with
  | zero => rfl
  | succ n ih => rw [planes, planes, ih, h]
theorem sketch_twice (s : BitVec 64) (l : List Int) (n : Int) : apart (sketchOf s l n) (sketchOf s (twice l) n) = 0 := by
  rw [sketchOf, sketchOf, planes_congr s (fun p => above_twice s p l), apart_self]
theorem sketch_back (s : BitVec 64) (l : List Int) (n : Int) : cnt (both (· ||| ·) (sketchOf s l n) (sketchOf s (back l) n)) = howMany n := by
  refine cnt_below _ _ (by unfold howMany; omega) fun p hp => ?_
  rw [bit_or, bit_sketch, bit_sketch, decide_eq_true hp, Bool.true_and, ← Bool.and_or_distrib_left]
  have : (aboveOf s (p : Int) l || aboveOf s (p : Int) (back l)) = true := by
    rw [aboveOf, aboveOf, show (back l).length = l.length by simp [back], sumN_back]
    simp only [Bool.or_eq_true, decide_eq_true_eq]
    omega
  rw [this, Bool.and_true]
theorem howMany_eq (n : Int) : ((howMany n : Nat) : Int) = min (max n 0) 4096 := by unfold howMany; omega
theorem bitAt_or (s : BitVec 64) (p i : Int) : bitAt s p i = 0#64 ∨ bitAt s p i = 1#64 := by
  unfold bitAt
  generalize atRng (atRng s (BitVec.ofInt 64 p)) (BitVec.ofInt 64 i) = x
  have e : BitVec.ofInt 64 1 = 1#64 := by decide
  rw [e]
  cases hb : x.getLsbD 0 with
  | false =>
    left
    apply BitVec.eq_of_getLsbD_eq
    intro j hj
    rw [BitVec.getLsbD_and, BitVec.getLsbD_one]
    by_cases h0 : j = 0
    · subst h0; simp only [hb, Bool.false_and]; simp
    · simp [h0]
  | true =>
    right
    apply BitVec.eq_of_getLsbD_eq
    intro j hj
    rw [BitVec.getLsbD_and, BitVec.getLsbD_one]
    by_cases h0 : j = 0
    · subst h0; rw [hb]; decide
    · simp [h0]
theorem signOf_eq (s : BitVec 64) (p i : Int) (hp : 0 ≤ p) (hi : 0 ≤ i) : signOf s p i = if bitAt s p i = 0#64 then -1 else 1 := by
  rw [signOf, if_neg (by omega)]
  show IntKind.i64.wrap ((bitAt s p i <<< 1).toInt - 1) = _
  rcases bitAt_or s p i with h | h
  · rw [h, if_pos rfl]; decide
  · rw [h, if_neg (by decide)]; decide
theorem has_sketch (s : BitVec 64) (l : List Int) (n : Int) (p : Nat) (hp : (p : Int) < n) (hn : n ≤ 300) : hasOf (sketchOf s l n) (p : Int) = aboveOf s (p : Int) l := by
  have hb : bit ((sketchOf s l n).take 64) p = bit (sketchOf s l n) p := by
    rw [bit_wd, wd_take, if_pos (by omega)]; rfl
  rw [hasOf, decide_eq_true (show (0 : Int) ≤ (p : Int) by omega), Bool.true_and, Int.toNat_natCast, hb, bit_sketch]
  have hm : p < howMany n := by unfold howMany; omega
  rw [decide_eq_true hm, Bool.true_and]
theorem sketch_next (s : BitVec 64) (l : List Int) (n : Int) (hn : n ≤ 300) : sketchOf s l n = both (fun x y => x &&& ~~~y) (sketchOf s l (n + 1)) (setOf [n]) := by
  refine trimmed_ext (trim_trimmed _) (trim_trimmed _) fun j => wd_ext (fun p => ?_) j
  rw [bit_less, bit_sketch, bit_sketch]
  by_cases hp : p < 4096
  · rw [decide_eq_true hp, Bool.true_and]
    have hs : bit (setOf [n]) p = decide ((p : Int) = n) := by
      rw [Bool.eq_iff_iff, bit_setOf]; simp [hp]
    rw [hs]
    unfold howMany
    by_cases h1 : (p : Int) = n
    · rw [decide_eq_true h1, decide_eq_false (by omega)]; simp
    · rw [decide_eq_false h1, Bool.not_false, Bool.and_true]
      congr 1
      exact decide_eq_decide.2 (by omega)
  · rw [decide_eq_false hp, Bool.false_and, decide_eq_false (by unfold howMany; omega), Bool.false_and]
theorem hasOf_eq (xs : W) (n : Int) : hasOf xs n = (decide (0 ≤ n) && (decide (n < 4096) && bit xs n.toNat)) := by
  unfold hasOf
  by_cases h0 : 0 ≤ n
  · rw [decide_eq_true h0, Bool.true_and, Bool.true_and, bit_wd, wd_take]
    by_cases h : n < 4096
    · rw [if_pos (by omega), decide_eq_true h, Bool.true_and]; rfl
    · rw [if_neg (by omega), decide_eq_false h, Bool.false_and]; simp
  · rw [decide_eq_false h0, Bool.false_and, Bool.false_and]
theorem word_bit1 (x : BitVec 64) (k : Nat) : decide ((x >>> k) &&& BitVec.ofInt 64 1 = 1#64) = x.getLsbD k := by
  have h := word_bit x k
  have e : BitVec.ofInt 64 1 = 1#64 := by decide
  rw [← h]
  apply decide_eq_decide.2
  constructor
  · intro h1 h2; rw [h1] at h2; revert h2; decide
  · intro h1
    have h2 : decide ((x >>> k) &&& BitVec.ofInt 64 1 ≠ 0#64) = true := decide_eq_true h1
    rw [h] at h2
    rw [e]
    apply BitVec.eq_of_getLsbD_eq
    intro j hj
    rw [BitVec.getLsbD_and, BitVec.getLsbD_ushiftRight, BitVec.getLsbD_one]
    by_cases h0 : j = 0
    · subst h0; simp only [Nat.add_zero]; rw [h2]; decide
    · simp [h0]
def listN (xs : W) : Nat → List Int
  | 0 => []
  | n + 1 => listN xs n ++ (if bit xs n then [(n : Int)] else [])
def top (xs : W) : Nat := min 4096 (64 * xs.length)
def listOf (xs : W) : List Int := listN xs (top xs)
theorem listN_len (xs : W) (n : Nat) : (listN xs n).length ≤ n := by
  induction n with
  | zero => exact Nat.le_refl _
  | succ n ih => simp only [listN]; split <;> simp <;> omega
def pad (xs : W) (n : Nat) : W := xs ++ List.replicate (n / 64 + 1 - xs.length) 0#64
def rofN (l : List Int) : Nat → W
  | 0 => []
  | i + 1 => if 0 ≤ l.getD i 0 ∧ l.getD i 0 < 4096 then setBit (pad (rofN l i) (l.getD i 0).toNat) (l.getD i 0).toNat else rofN l i
def rof (l : List Int) : W := rofN l l.length
theorem pad_len (xs : W) (n : Nat) : (pad xs n).length = max xs.length (n / 64 + 1) := by simp [pad]; omega
theorem rofN_len (l : List Int) (i : Nat) : (rofN l i).length ≤ 64 := by
  induction i with
  | zero => exact Nat.zero_le _
  | succ i ih =>
    simp only [rofN]
    split
    · rw [setBit, List.length_set, pad_len]; omega
    · exact ih
theorem bit_pad (xs : W) (n p : Nat) : bit (pad xs n) p = bit xs p := by
  rw [bit_wd, bit_wd]
  congr 1
  unfold wd pad
  rcases Nat.lt_or_ge (p / 64) xs.length with h | h
  · simp [List.getD, List.getElem?_append_left h]
  · rw [getD_none h]
    simp only [List.getD, List.getElem?_append_right h, List.getElem?_replicate]
    split <;> rfl
theorem setBit_has {xs : W} {n : Nat} (h : n / 64 < xs.length) (hb : bit xs n = true) : setBit xs n = xs := by
  apply List.ext_getElem
  · simp [setBit]
  · intro i h1 h2
    simp only [setBit, List.getElem_set]
    split
    · next hi =>
      subst hi
      have e : BitVec.ofInt 64 1 = 1#64 := by decide
      rw [e]
      apply BitVec.eq_of_getLsbD_eq
      intro j hj
      have hw : xs.getD (n / 64) 0#64 = xs[n / 64] := by simp [List.getD, h]
      rw [hw, BitVec.getLsbD_or, BitVec.getLsbD_shiftLeft, BitVec.getLsbD_one]
      by_cases hjn : j = n % 64
      · have : xs[n / 64].getLsbD j = true := by rw [hjn, ← hw]; exact hb
        rw [this, Bool.true_or]
      · by_cases hlt : j < n % 64
        · simp [hlt]
        · have : j - n % 64 ≠ 0 := by omega
          simp [this]
    · rfl
theorem add_bit {x : BitVec 64} {k : Nat} (h : x.getLsbD k = false) : x + (BitVec.ofInt 64 1 <<< k) = x ||| (BitVec.ofInt 64 1 <<< k) := by
  apply BitVec.add_eq_or_of_and_eq_zero
  have e : BitVec.ofInt 64 1 = 1#64 := by decide
  rw [e]
  apply BitVec.eq_of_getLsbD_eq
  intro j hj
  rw [BitVec.getLsbD_and, BitVec.getLsbD_shiftLeft, BitVec.getLsbD_one]
  by_cases hjn : j = k
  · subst hjn; rw [h, Bool.false_and]; simp
  · by_cases hlt : j < k
    · simp [hlt]
    · have : j - k ≠ 0 := by omega
      simp [this]
theorem take_nextD {l : List Int} {i : Nat} (h : i < l.length) : l.take (i + 1) = l.take i ++ [l.getD i 0] := by
  rw [List.take_add_one, getD_some h 0]; rfl
def rlessL (xs ys : W) : List Int := (listOf xs).filter fun n => !hasOf ys n
def rless (xs ys : W) : W := rof (rlessL xs ys)
theorem listOf_len (xs : W) : (listOf xs).length ≤ 4096 := Nat.le_trans (listN_len xs _) (Nat.min_le_left _ _)
def rapart (xs ys : W) : Nat := (listOf (rless xs ys)).length + (listOf (rless ys xs)).length
def sumR (s : BitVec 64) (p : Int) (l : List Int) : Nat → Int
  | 0 => 0
  | i + 1 => sumR s p l i + l.getD i 0 * signOf s p (i : Int)
theorem sumR_eq (s : BitVec 64) (p : Int) (hp : 0 ≤ p) (l : List Int) (i : Nat) : sumR s p l i = sumN s p l i := by
  induction i with
  | zero => rfl
  | succ i ih =>
    rw [sumR, sumN, ih, signOf_eq s p i hp (by omega)]
    split <;> omega
def rsketch (s : BitVec 64) (l : List Int) (n : Int) : W := rof (planes s l (howMany n))
theorem bit_rofN (l : List Int) (i : Nat) (hi : i ≤ l.length) (p : Nat) : bit (rofN l i) p = true ↔ p < 4096 ∧ ∃ j, j < i ∧ l.getD j 0 = (p : Int) := by
  induction i with
  | zero => simp [rofN, bit]
  | succ i ih =>
    have ih := ih (by omega)
    simp only [rofN]
    split
    · next h =>
      rw [bit_setBit _ _ _ (by rw [pad_len]; omega), bit_pad]
      simp only [Bool.or_eq_true, ih, decide_eq_true_eq]
      constructor
      · rintro (⟨h1, j, h2, h3⟩ | h1)
        · exact ⟨h1, j, by omega, h3⟩
        · exact ⟨by omega, i, by omega, by omega⟩
      · rintro ⟨h1, j, h2, h3⟩
        rcases Nat.lt_or_ge j i with h4 | h4
        · exact .inl ⟨h1, j, h4, h3⟩
        · obtain rfl : j = i := by omega
          exact .inr (by omega)
    · next h =>
      rw [ih]
      constructor
      · rintro ⟨h1, j, h2, h3⟩; exact ⟨h1, j, by omega, h3⟩
      · rintro ⟨h1, j, h2, h3⟩
        rcases Nat.lt_or_ge j i with h4 | h4
        · exact ⟨h1, j, h4, h3⟩
        · obtain rfl : j = i := by omega
          exact absurd ⟨by omega, by omega⟩ h
theorem bit_rof (l : List Int) (p : Nat) : bit (rof l) p = true ↔ p < 4096 ∧ (p : Int) ∈ l := by
  rw [rof, bit_rofN l _ (Nat.le_refl _)]
  constructor
  · rintro ⟨h1, j, h2, h3⟩
    exact ⟨h1, by rw [← h3]; exact List.mem_of_getElem? (getD_some h2 0)⟩
  · rintro ⟨h1, h2⟩
    obtain ⟨j, hj, h3⟩ := List.getElem_of_mem h2
    exact ⟨h1, j, hj, by simp [List.getD, hj, h3]⟩
theorem wd_pad (xs : W) (n j : Nat) : wd (pad xs n) j = wd xs j := by
  unfold wd pad
  rcases Nat.lt_or_ge j xs.length with h | h
  · simp [List.getD, List.getElem?_append_left h]
  · rw [getD_none h]
    simp only [List.getD, List.getElem?_append_right h, List.getElem?_replicate]
    split <;> rfl
theorem trimmed_set {xs : W} (h : Trimmed xs) (n : Nat) : Trimmed (setBit (pad xs n) n) := by
  right
  have hl : (setBit (pad xs n) n).length = max xs.length (n / 64 + 1) := by rw [setBit, List.length_set, pad_len]
  rw [hl]
  by_cases hj : max xs.length (n / 64 + 1) - 1 = n / 64
  · intro hz
    have hb : bit (setBit (pad xs n) n) n = true := by rw [bit_setBit _ _ _ (by rw [pad_len]; omega)]; simp
    rw [bit_wd, ← hj, hz] at hb
    simp at hb
  · have e : wd (setBit (pad xs n) n) (max xs.length (n / 64 + 1) - 1) = wd (pad xs n) (max xs.length (n / 64 + 1) - 1) := by
      simp only [wd, setBit, List.getD, List.getElem?_set, if_neg (Ne.symm hj)]
    rw [e, wd_pad, show max xs.length (n / 64 + 1) - 1 = xs.length - 1 by omega]
    rcases h with h | h
    · omega
    · exact h
theorem trimmed_rofN (l : List Int) (i : Nat) : Trimmed (rofN l i) := by
  induction i with
  | zero => exact .inl rfl
  | succ i ih =>
    simp only [rofN]
    split
    · exact trimmed_set ih _
    · exact ih
theorem rof_eq (l : List Int) : rof l = setOf l :=
  trimmed_ext (trimmed_rofN l _) (trim_trimmed _) fun j => wd_ext (fun p => by rw [Bool.eq_iff_iff, bit_rof, bit_setOf]) j
theorem rsketch_eq (s : BitVec 64) (l : List Int) (n : Int) : rsketch s l n = sketchOf s l n := rof_eq _
theorem listN_cB (xs : W) (n : Nat) : (listN xs n).length = cB xs n := by
  induction n with
  | zero => rfl
  | succ n ih => simp only [listN, cB, List.length_append, ih]; cases bit xs n <;> rfl
theorem bit_beyond (xs : W) (p : Nat) (h : 64 * xs.length ≤ p) : bit xs p = false := by
  rw [bit_wd, wd, getD_none (by omega)]; simp
theorem cB_stop (xs : W) (a b : Nat) (h : 64 * xs.length ≤ a) (hab : a ≤ b) : cB xs b = cB xs a := by
  induction b with
  | zero => rw [show a = 0 by omega]
  | succ b ih =>
    rcases Nat.lt_or_ge b a with h1 | h1
    · rw [show a = b + 1 by omega]
    · rw [cB, ih h1, bit_beyond xs b (by omega)]; rfl
theorem listOf_cnt (xs : W) : (listOf xs).length = cnt xs := by
  rw [listOf, listN_cB, cnt_all, cntN_cB]
  unfold top
  by_cases h : 64 * xs.length ≤ 4096
  · rw [Nat.min_eq_right h]; exact (cB_stop xs _ _ (Nat.le_refl _) h).symm
  · rw [Nat.min_eq_left (by omega)]
theorem listN_mem (xs : W) (n : Nat) (x : Int) : x ∈ listN xs n ↔ 0 ≤ x ∧ x < (n : Int) ∧ bit xs x.toNat = true := by
  induction n with
  | zero => simp [listN]; omega
  | succ n ih =>
    simp only [listN, List.mem_append, ih]
    by_cases h : bit xs n = true
    · simp only [h, if_true, List.mem_singleton]
      constructor
      · rintro (h1 | rfl)
        · exact ⟨h1.1, by omega, h1.2.2⟩
        · exact ⟨by omega, by omega, by rw [Int.toNat_natCast]; exact h⟩
      · rintro ⟨h1, h2, h3⟩
        rcases Int.lt_or_eq_of_le (Int.le_of_lt_add_one (by omega : x < (n : Int) + 1)) with h4 | h4
        · exact .inl ⟨h1, h4, h3⟩
        · exact .inr h4
    · simp only [Bool.not_eq_true] at h
      simp only [h, Bool.false_eq_true, if_false, List.not_mem_nil, or_false]
      constructor
      · rintro ⟨h1, h2, h3⟩; exact ⟨h1, by omega, h3⟩
      · rintro ⟨h1, h2, h3⟩
        refine ⟨h1, ?_, h3⟩
        rcases Int.lt_or_eq_of_le (Int.le_of_lt_add_one (by omega : x < (n : Int) + 1)) with h4 | h4
        · exact h4
        · rw [h4, Int.toNat_natCast, h] at h3; cases h3
theorem bit_rless (xs ys : W) (p : Nat) : bit (rless xs ys) p = bit (diff xs ys) p := by
  rw [diff, bit_less, Bool.eq_iff_iff, rless, bit_rof, rlessL, List.mem_filter, listOf, listN_mem, hasOf_eq]
  simp only [Int.toNat_natCast, Bool.and_eq_true, decide_eq_true_eq, Bool.not_eq_true']
  constructor
  · rintro ⟨h1, ⟨h2, h3, h4⟩, h5⟩
    refine ⟨h1, h4, ?_⟩
    rw [decide_eq_true h2, decide_eq_true (by omega : (p : Int) < 4096), Bool.true_and, Bool.true_and] at h5
    exact h5
  · rintro ⟨h1, h4, h5⟩
    refine ⟨h1, ⟨by omega, ?_, h4⟩, by rw [h5]; simp⟩
    rcases Nat.lt_or_ge p (top xs) with h | h
    · omega
    · unfold top at h
      rw [bit_beyond xs p (by omega)] at h4; cases h4
theorem cB_congr {xs ys : W} (k : Nat) (h : ∀ p, p < k → bit xs p = bit ys p) : cB xs k = cB ys k := by
  induction k with
  | zero => rfl
  | succ k ih => rw [cB, cB, ih fun p hp => h p (by omega), h k (by omega)]
theorem cB_add {xs ys zs : W} (k : Nat) (h : ∀ p, p < k → bit zs p = (bit xs p || bit ys p) ∧ (bit xs p && bit ys p) = false) : cB zs k = cB xs k + cB ys k := by
  induction k with
  | zero => rfl
  | succ k ih =>
    obtain ⟨h1, h2⟩ := h k (by omega)
    rw [cB, cB, cB, ih fun p hp => h p (by omega), h1]
    cases hx : bit xs k <;> cases hy : bit ys k <;> simp_all <;> omega
theorem rapart_eq (xs ys : W) : rapart xs ys = apart xs ys := by
  rw [rapart, listOf_cnt, listOf_cnt, apart, cnt_all, cnt_all, cnt_all, cntN_cB, cntN_cB, cntN_cB]
  rw [cB_congr _ fun p _ => bit_rless xs ys p, cB_congr _ fun p _ => bit_rless ys xs p]
  symm
  refine cB_add _ fun p hp => ⟨?_, ?_⟩
  · rw [bit_or, decide_eq_true (by omega), Bool.true_and]
  · rw [diff, diff, bit_less, bit_less]
    cases bit xs p <;> cases bit ys p <;> simp

end Go.Proofs.Ytaclhflmgafobaa
