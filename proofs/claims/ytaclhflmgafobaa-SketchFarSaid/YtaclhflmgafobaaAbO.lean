/- How many bits a word has: the program's way of counting them counts them. -/
import Derived.Test.YtaclhflmgafobaaAbN
namespace Go.Ab
open Go
set_option linter.unusedSimpArgs false
set_option linter.unusedVariables false
set_option maxRecDepth 20000

/-- A number by its bytes, the lowest first. -/
def val : List Nat → Nat
  | [] => 0
  | b :: r => b + 256 * val r
theorem land_split {a b : Nat} (p q : Nat) (ha : a < 256) (hb : b < 256) : (a + 256 * p) &&& (b + 256 * q) = (a &&& b) + 256 * (p &&& q) := by
  have hab : a &&& b < 2 ^ 8 := Nat.lt_of_le_of_lt Nat.and_le_left ha
  apply Nat.eq_of_testBit_eq
  intro j
  rw [show a + 256 * p = 2 ^ 8 * p + a by omega, show b + 256 * q = 2 ^ 8 * q + b by omega, show (a &&& b) + 256 * (p &&& q) = 2 ^ 8 * (p &&& q) + (a &&& b) by omega]
  rw [Nat.testBit_and, Nat.testBit_two_pow_mul_add _ ha, Nat.testBit_two_pow_mul_add _ hb, Nat.testBit_two_pow_mul_add _ hab]
  split <;> simp [Nat.testBit_and]
def by1 (a : Nat) : Nat := (a / 2 &&& 85) + (a &&& 85)
def by2 (a : Nat) : Nat := (a / 4 &&& 51) + (a &&& 51)
def by3 (a : Nat) : Nat := (a / 16 + a) &&& 15
theorem by1_all : ∀ a < 256, by1 a < 256 ∧ ∀ c < 2, (a / 2 + 128 * c) &&& 85 = a / 2 &&& 85 := by decide +kernel
theorem by2_all : ∀ a < 256, by2 a < 256 ∧ ∀ c < 4, (a / 4 + 64 * c) &&& 51 = a / 4 &&& 51 := by decide +kernel
theorem by21_all : ∀ a < 256, by2 (by1 a) / 16 ≤ 4 ∧ by2 (by1 a) % 16 ≤ 4 := by decide +kernel
theorem by3_all : ∀ a < 256, a / 16 ≤ 4 → a % 16 ≤ 4 → by3 a < 256 ∧ ∀ c < 5, (a / 16 + 16 * c + a) < 256 ∧ (a / 16 + 16 * c + a) &&& 15 = (a / 16 + a) &&& 15 := by decide +kernel
theorem step1 (l : List Nat) (h : ∀ a ∈ l, a < 256) : (val l / 2 &&& val (List.replicate l.length 85)) + (val l &&& val (List.replicate l.length 85)) = val (l.map by1) := by
  induction l with
  | nil => rfl
  | cons a r ih =>
    have ha := h a (by simp)
    obtain ⟨_, h2⟩ := by1_all a ha
    have := ih fun b hb => h b (by simp [hb])
    simp only [val, List.length_cons, List.replicate_succ, List.map_cons]
    rw [show (a + 256 * val r) / 2 = (a / 2 + 128 * (val r % 2)) + 256 * (val r / 2) by omega, land_split _ _ (by omega) (by decide), land_split _ _ ha (by decide), h2 _ (Nat.mod_lt _ (by decide)), ← this, by1]
    omega
theorem step2 (l : List Nat) (h : ∀ a ∈ l, a < 256) : (val l / 4 &&& val (List.replicate l.length 51)) + (val l &&& val (List.replicate l.length 51)) = val (l.map by2) := by
  induction l with
  | nil => rfl
  | cons a r ih =>
    have ha := h a (by simp)
    obtain ⟨_, h2⟩ := by2_all a ha
    have := ih fun b hb => h b (by simp [hb])
    simp only [val, List.length_cons, List.replicate_succ, List.map_cons]
    rw [show (a + 256 * val r) / 4 = (a / 4 + 64 * (val r % 4)) + 256 * (val r / 4) by omega, land_split _ _ (by omega) (by decide), land_split _ _ ha (by decide), h2 _ (Nat.mod_lt _ (by decide)), ← this, by2]
    omega
theorem step3 (l : List Nat) (h : ∀ a ∈ l, a < 256 ∧ a / 16 ≤ 4 ∧ a % 16 ≤ 4) : (val l / 16 + val l) &&& val (List.replicate l.length 15) = val (l.map by3) := by
  induction l with
  | nil => rfl
  | cons a r ih =>
    obtain ⟨ha, h0, h1⟩ := h a (by simp)
    obtain ⟨_, h2⟩ := by3_all a ha h0 h1
    have := ih fun b hb => h b (by simp [hb])
    have hc : val r % 16 < 5 := by
      cases r with
      | nil => decide
      | cons b r =>
        have := (h b (by simp)).2.2
        simp only [val]; omega
    obtain ⟨h3, h4⟩ := h2 _ hc
    simp only [val, List.length_cons, List.replicate_succ, List.map_cons]
    rw [show (a + 256 * val r) / 16 + (a + 256 * val r) = (a / 16 + 16 * (val r % 16) + a) + 256 * (val r / 16 + val r) by omega, land_split _ _ h3 (by decide), h4, ← this, by3]
/-- How many bits. -/
def popN (n : Nat) : Nat → Nat
  | 0 => 0
  | k + 1 => popN n k + (n.testBit k).toNat
theorem by_pop : ∀ a < 256, by3 (by2 (by1 a)) = popN a 8 := by decide +kernel
theorem popN_le (n k : Nat) : popN n k ≤ k := by
  induction k with
  | zero => exact Nat.le_refl _
  | succ k ih => simp only [popN]; have := Bool.toNat_le (n.testBit k); omega
theorem popN_mod (n j : Nat) {k : Nat} (h : k ≤ j) : popN (n % 2 ^ j) k = popN n k := by
  induction k with
  | zero => rfl
  | succ k ih => simp only [popN]; rw [ih (by omega), Nat.testBit_mod_two_pow, decide_eq_true (show k < j by omega), Bool.true_and]
theorem popN_add (n j k : Nat) : popN n (j + k) = popN n j + popN (n / 2 ^ j) k := by
  induction k with
  | zero => rfl
  | succ k ih => rw [← Nat.add_assoc, popN, ih, popN, Nat.testBit_div_two_pow, Nat.add_assoc, Nat.add_comm k j]
def bytesOf (n : Nat) : Nat → List Nat
  | 0 => []
  | k + 1 => n % 256 :: bytesOf (n / 256) k
theorem bytesOf_lt (n k : Nat) : ∀ a ∈ bytesOf n k, a < 256 := by
  induction k generalizing n with
  | zero => intro a h; cases h
  | succ k ih =>
    intro a h
    simp only [bytesOf, List.mem_cons] at h
    rcases h with rfl | h
    · exact Nat.mod_lt _ (by decide)
    · exact ih _ a h
theorem bytesOf_len (n k : Nat) : (bytesOf n k).length = k := by
  induction k generalizing n with
  | zero => rfl
  | succ k ih => simp [bytesOf, ih]
theorem val_bytesOf (n k : Nat) (h : n < 256 ^ k) : val (bytesOf n k) = n := by
  induction k generalizing n with
  | zero => simp at h; simp [bytesOf, val, h]
  | succ k ih =>
    rw [bytesOf, val, ih (n / 256) (by rw [Nat.pow_succ] at h; exact Nat.div_lt_of_lt_mul (by omega))]
    omega
theorem sum_bytes (n k : Nat) : ((bytesOf n k).map fun a => by3 (by2 (by1 a))).sum = popN n (8 * k) := by
  induction k generalizing n with
  | zero => rfl
  | succ k ih =>
    rw [bytesOf, List.map_cons, List.sum_cons, ih, by_pop _ (Nat.mod_lt _ (by decide)), show 8 * (k + 1) = 8 + 8 * k by omega, popN_add, show (256 : Nat) = 2 ^ 8 by decide, popN_mod _ _ (Nat.le_refl _)]
theorem val_lt {c : Nat} (hc : c < 256) (l : List Nat) (h : ∀ a ∈ l, a ≤ c) : 255 * val l + c ≤ c * 256 ^ l.length := by
  induction l with
  | nil => simp [val]
  | cons a r ih =>
    have h1 := h a (by simp)
    have h2 := ih fun b hb => h b (by simp [hb])
    have h3 : c * 256 ^ (a :: r).length = 256 * (c * 256 ^ r.length) := by rw [List.length_cons, Nat.pow_succ]; simp only [Nat.mul_comm, Nat.mul_left_comm]
    rw [h3, val]
    omega
theorem val_lt8 {l : List Nat} (hl : l.length = 8) (h : ∀ a ∈ l, a ≤ 255) : val l < 18446744073709551616 := by
  have := val_lt (c := 255) (by decide) l h
  rw [hl] at this
  have e : 255 * 256 ^ 8 = 4703919738795935662080 := by decide
  omega
theorem val_lt8' {l : List Nat} (hl : l.length = 8) (h : ∀ a ∈ l, a ≤ 68) : val l < 9223372036854775808 := by
  have := val_lt (c := 68) (by decide) l h
  rw [hl] at this
  have e : 68 * 256 ^ 8 = 1254378597012249509888 := by decide
  omega
def m1 : Nat := 6148914691236517205
def m2 : Nat := 3689348814741910323
def m3 : Nat := 1085102592571150095
theorem m1_eq : val (List.replicate 8 85) = m1 := by decide
theorem m2_eq : val (List.replicate 8 51) = m2 := by decide
theorem m3_eq : val (List.replicate 8 15) = m3 := by decide
theorem three (n : Nat) (h : n < 256 ^ 8) : ∃ L : List Nat, L.length = 8 ∧ (∀ a ∈ L, a ≤ 8) ∧ L.sum = popN n (8 * 8)
    ∧ ∃ m k, m = (n / 2 &&& m1) + (n &&& m1) ∧ m < 18446744073709551616 ∧ k = (m / 4 &&& m2) + (m &&& m2) ∧ k < 9223372036854775808 ∧ (k / 16 + k) &&& m3 = val L := by
  have hl := bytesOf_lt n 8
  have hv : val (bytesOf n 8) = n := val_bytesOf n 8 h
  have hs := sum_bytes n 8
  have h1 := step1 _ hl
  rw [hv, bytesOf_len, m1_eq] at h1
  have hl1 : ∀ a ∈ (bytesOf n 8).map by1, a < 256 := by
    intro a ha
    obtain ⟨b, hb, rfl⟩ := List.mem_map.1 ha
    exact (by1_all b (hl b hb)).1
  have h2 := step2 _ hl1
  rw [List.length_map, bytesOf_len, m2_eq] at h2
  have hl2 : ∀ a ∈ ((bytesOf n 8).map by1).map by2, a < 256 ∧ a / 16 ≤ 4 ∧ a % 16 ≤ 4 := by
    intro a ha
    obtain ⟨b, hb, rfl⟩ := List.mem_map.1 ha
    obtain ⟨c, hc, rfl⟩ := List.mem_map.1 hb
    exact ⟨(by2_all _ (by1_all c (hl c hc)).1).1, by21_all c (hl c hc)⟩
  have h3 := step3 _ hl2
  rw [List.length_map, List.length_map, bytesOf_len, m3_eq] at h3
  have hp : ∀ a ∈ (((bytesOf n 8).map by1).map by2).map by3, a ≤ 8 := by
    intro a ha
    rw [List.map_map, List.map_map] at ha
    obtain ⟨b, hb, rfl⟩ := List.mem_map.1 ha
    show by3 (by2 (by1 b)) ≤ 8
    rw [by_pop b (hl b hb)]; exact popN_le b 8
  refine ⟨(((bytesOf n 8).map by1).map by2).map by3, by simp [bytesOf_len], hp, by rw [← hs, List.map_map, List.map_map]; rfl, _, _, rfl, ?_, rfl, ?_, ?_⟩
  · rw [h1]
    exact val_lt8 (by simp [bytesOf_len]) fun a ha => by have := hl1 a ha; omega
  · rw [h1, h2]
    exact val_lt8' (by simp [bytesOf_len]) fun a ha => by have := hl2 a ha; omega
  · rw [h1, h2, h3]
theorem div_head {c d y Y : Nat} (h : y = c + d * Y) (hc : c < d) : y / d = Y := by
  rw [h, Nat.add_mul_div_left _ _ (by omega), Nat.div_eq_of_lt hc, Nat.zero_add]
theorem spread {L : List Nat} (hL : L.length = 8) (h8 : ∀ a ∈ L, a ≤ 8) : ∃ a b c, a = val L + val L / 256 ∧ a < 18446744073709551616 ∧ b = a + a / 65536 ∧ b < 18446744073709551616 ∧ c = b + b / 4294967296 ∧ c < 18446744073709551616 ∧ c % 128 = L.sum := by
  match L, hL with
  | [c0, c1, c2, c3, c4, c5, c6, c7], _ =>
    have q0 := h8 c0 (by simp); have q1 := h8 c1 (by simp); have q2 := h8 c2 (by simp); have q3 := h8 c3 (by simp)
    have q4 := h8 c4 (by simp); have q5 := h8 c5 (by simp); have q6 := h8 c6 (by simp); have q7 := h8 c7 (by simp)
    clear h8
    have hsum : [c0, c1, c2, c3, c4, c5, c6, c7].sum = c0 + (c1 + (c2 + (c3 + (c4 + (c5 + (c6 + c7)))))) := by simp
    rw [hsum]; clear hsum
    simp only [val, Nat.mul_zero, Nat.add_zero]
    generalize hy : c0 + 256 * (c1 + 256 * (c2 + 256 * (c3 + 256 * (c4 + 256 * (c5 + 256 * (c6 + 256 * c7)))))) = y
    have e1 := div_head hy.symm (by omega)
    obtain ⟨a, ha⟩ : ∃ a, a = y + y / 256 := ⟨_, rfl⟩
    rw [e1] at ha
    have e2 : a / 65536 = (c2 + c3) + 256 * ((c3 + c4) + 256 * ((c4 + c5) + 256 * ((c5 + c6) + 256 * ((c6 + c7) + 256 * c7)))) := div_head (c := (c0 + c1) + 256 * (c1 + c2)) (by rw [ha, ← hy]; simp only [Nat.mul_add, ← Nat.mul_assoc, Nat.reduceMul]; omega) (by omega)
    obtain ⟨b, hb⟩ : ∃ b, b = a + a / 65536 := ⟨_, rfl⟩
    rw [e2] at hb
    have e3 : b / 4294967296 = (c4 + c5 + c6 + c7) + 256 * ((c5 + c6 + c7) + 256 * ((c6 + c7) + 256 * c7)) := div_head (c := (c0 + c1 + c2 + c3) + 256 * ((c1 + c2 + c3 + c4) + 256 * ((c2 + c3 + c4 + c5) + 256 * (c3 + c4 + c5 + c6)))) (by rw [hb, ha, ← hy]; simp only [Nat.mul_add, ← Nat.mul_assoc, Nat.reduceMul]; omega) (by omega)
    obtain ⟨c, hc⟩ : ∃ c, c = b + b / 4294967296 := ⟨_, rfl⟩
    rw [e3] at hc
    have b1 : a < 18446744073709551616 := by rw [ha, ← hy]; clear hc e3 hb e2 ha e1 hy; omega
    have b2 : b < 18446744073709551616 := by rw [hb, ha, ← hy]; clear b1 hc e3 hb e2 ha e1 hy; omega
    have b3 : c < 18446744073709551616 := by rw [hc, hb, ha, ← hy]; clear b1 b2 hc e3 hb e2 ha e1 hy; omega
    refine ⟨a, b, c, by rw [ha, e1], b1, by rw [hb, e2], b2, by rw [hc, e3], b3, ?_⟩
    clear b1 b2 b3
    have : c = (c0 + (c1 + (c2 + (c3 + (c4 + (c5 + (c6 + c7))))))) + 256 * ((c1 + c2 + c3 + c4 + c5 + c6 + c7) + 256 * ((c2 + c3 + c4 + c5 + c6 + c7) + 256 * ((c3 + c4 + c5 + c6 + c7) + 256 * ((c4 + c5 + c6 + c7) + 256 * ((c5 + c6 + c7) + 256 * ((c6 + c7) + 256 * c7)))))) := by
      rw [hc, hb, ha, ← hy]; simp only [Nat.mul_add, ← Nat.mul_assoc, Nat.reduceMul]; omega
    rw [this]
    clear this hc e3 hb e2 ha e1 hy
    omega
end Go.Ab
