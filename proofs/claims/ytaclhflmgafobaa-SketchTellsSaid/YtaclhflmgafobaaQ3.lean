/- What the models of the document's sets and sketches compute. -/
import Derived.Test.YtaclhflmgafobaaQ2
namespace Go.Proofs.Ytaclhflmgafobaa
open Go Go.Ab Go.Proofs
set_option linter.unusedSimpArgs false
set_option linter.unusedVariables false
set_option maxRecDepth 20000

theorem ofNat_small {k : Nat} (h : k < 64) : (BitVec.ofInt 64 (k : Int)).toNat = k := by rw [BitVec.toNat_ofInt]; omega
theorem rhas_eq {xs : W} (hx : xs.length ≤ 1000000) (n : Int) : F_R01_Has xs n = some (hasOf xs n) := by
  rw [hasOf_eq]
  unfold F_R01_Has
  by_cases h0 : 0 ≤ n
  · rw [if_pos h0]
    by_cases h1 : n < 4096
    · rw [if_pos h1]
      obtain ⟨m, rfl⟩ : ∃ m : Nat, n = (m : Int) := ⟨n.toNat, by omega⟩
      rw [quo64, rem64, wr_nat (by omega), ofNat_small (by omega)]
      simp only [h0, h1, decide_true, Bool.true_and, Int.toNat_natCast]
      by_cases h2 : ((m / 64 : Nat) : Int) < (xs.length : Int)
      · have hw := word_bit1 (xs.getD (m / 64) 0#64) (m % 64)
        rw [k4] at hw
        rw [if_pos h2, gx_at (by omega) 0#64, Option.bind_some, hw]
        rfl
      · rw [if_neg h2]
        unfold bit
        rw [getD_none (by omega)]
        simp
    · rw [if_neg h1]; simp [h1]
  · rw [if_neg h0]; simp [h0]
theorem hasOf_bit {xs : W} {n : Nat} (h : n < 4096) : hasOf xs (n : Int) = bit xs n := by
  rw [hasOf_eq]
  have h1 : (n : Int) < 4096 := by omega
  simp [h1]
theorem list_eq {xs : W} (hx : xs.length ≤ 1000000) : F_R01_List xs = some (listOf xs) := by
  unfold F_R01_List
  have ht : top xs ≤ 4096 := Nat.min_le_left _ _
  refine loop_at (fun i : Nat => ((i : Int), listN xs i)) (top xs) _ (by omega) (fun i hi next => ?_) (fun next => ?_)
  · unfold F_R01_List_b1
    dsimp only
    have hl := listN_len xs i
    have hi2 : i < 4096 ∧ i < 64 * xs.length := by unfold top at hi; omega
    rw [if_pos (by omega), quo64, wr_nat (by omega), if_pos (by omega), rhas_eq hx, Option.bind_some, hasOf_bit hi2.1, listN]
    by_cases h : bit xs i = true
    · rw [if_pos h, if_pos h, app_at (by omega), Option.bind_some, wr_succ (by omega)]
    · rw [if_neg h, if_neg h, wr_succ (by omega), List.append_nil]
  · unfold F_R01_List_b1
    dsimp only
    by_cases h : (top xs : Int) < 4096
    · rw [if_pos h, quo64, wr_nat (by omega), if_neg (by unfold top at h ⊢; omega)]
      rfl
    · rw [if_neg h]
      rfl
theorem rof_step {l : List Int} {i : Nat} (hi : i < l.length) (h0 : 0 ≤ l.getD i 0) (h1 : l.getD i 0 < 4096) (next : Int × W → Option W) :
    loopK (F_R01_Of_b2 (i : Int) next (l.getD i 0)) fuel (rofN l i) = next (((i + 1 : Nat) : Int), rofN l (i + 1)) ∨ 100000 < l.length := by
  by_cases hlen : l.length ≤ 100000
  case neg => exact .inr (by omega)
  refine .inl ?_
  rw [rofN, if_pos ⟨h0, h1⟩]
  obtain ⟨n, hn⟩ : ∃ n : Nat, l.getD i 0 = (n : Int) := ⟨(l.getD i 0).toNat, by omega⟩
  rw [hn] at h0 h1 ⊢
  have hr := rofN_len l i
  generalize rofN l i = xs at hr ⊢
  rw [Int.toNat_natCast]
  have hz : xs = xs ++ List.replicate 0 0#64 := by simp
  have key := loop_at (body := F_R01_Of_b2 (i : Int) next (n : Int)) (fun j : Nat => xs ++ List.replicate j 0#64) (n / 64 + 1 - xs.length) (next (((i + 1 : Nat) : Int), setBit (pad xs n) n)) (by omega) (fun j hj nx => ?_) (fun nx => ?_)
  · simpa using key
  · unfold F_R01_Of_b2
    dsimp only
    rw [quo64, wr_nat (by omega), if_pos (by simp; omega), app_at (by simp; omega), Option.bind_some]
    rw [List.append_assoc, List.replicate_succ']
  · unfold F_R01_Of_b2
    dsimp only
    rw [show xs ++ List.replicate (n / 64 + 1 - xs.length) 0#64 = pad xs n from rfl]
    have hp := pad_len xs n
    rw [quo64, rem64, wr_nat (by omega), if_neg (by omega), rhas_eq (by omega), Option.bind_some, hasOf_bit (by omega), wr_succ (by omega), ofNat_small (by omega)]
    have hlt : n / 64 < (pad xs n).length := by omega
    by_cases hb : bit (pad xs n) n = true
    · rw [hb, if_neg (by simp), setBit_has hlt hb]
    · have hb' : bit (pad xs n) n = false := by simpa using hb
      rw [hb', if_pos (by simp), gx_at hlt 0#64, Option.bind_some, Option.bind_some]
      have ha := add_bit (x := (pad xs n).getD (n / 64) 0#64) (k := n % 64) hb'
      rw [k4] at ha
      unfold setBit
      rw [k4, ha, Int.toNat_natCast]
theorem rof_eq' {l : List Int} (hlen : l.length ≤ 100000) : F_R01_Of l = some (rof l) := by
  unfold F_R01_Of
  refine loop_at (fun i : Nat => ((i : Int), rofN l i)) l.length _ (by omega) (fun i hi next => ?_) (fun next => ?_)
  · unfold F_R01_Of_b1
    dsimp only
    rw [if_pos (by omega), gx_at hi 0, Option.bind_some]
    by_cases h0 : l.getD i 0 < 0
    · rw [if_pos h0, wr_succ (by omega), rofN, if_neg (by omega)]
    · rw [if_neg h0]
      by_cases h1 : 4096 ≤ l.getD i 0
      · rw [if_pos h1, wr_succ (by omega), rofN, if_neg (by omega)]
      · rw [if_neg h1]
        rcases rof_step hi (by omega) (by omega) next with h | h
        · exact h
        · omega
  · unfold F_R01_Of_b1
    dsimp only
    rw [if_neg (by omega)]
    rfl
theorem rless_eq {xs ys : W} (hx : xs.length ≤ 1000000) (hy : ys.length ≤ 1000000) : F_R01_Less xs ys = some (rless xs ys) := by
  unfold F_R01_Less
  rw [list_eq hx, Option.bind_some]
  have hl := listOf_len xs
  have hf : rless xs ys = rof (((listOf xs).take (listOf xs).length).filter fun n => !hasOf ys n) := by rw [List.take_length]; rfl
  rw [hf]
  generalize listOf xs = L at hl ⊢
  refine loop_at (fun i : Nat => ((i : Int), (L.take i).filter fun n => !hasOf ys n)) L.length _ (by omega) (fun i hi next => ?_) (fun next => ?_)
  · unfold F_R01_Less_b1
    dsimp only
    have hk : ((L.take i).filter fun n => !hasOf ys n).length ≤ i := Nat.le_trans (List.length_filter_le _ _) (by simp; omega)
    rw [if_pos (by omega), gx_at hi 0, Option.bind_some, rhas_eq hy, Option.bind_some, wr_succ (by omega), take_nextD hi, List.filter_append]
    by_cases h : (!hasOf ys (L.getD i 0)) = true
    · rw [if_pos h, app_at (by omega), Option.bind_some, List.filter_cons, if_pos h, List.filter_nil]
    · rw [if_neg h, List.filter_cons, if_neg h, List.filter_nil, List.append_nil]
  · unfold F_R01_Less_b1
    dsimp only
    have hk : ((L.take L.length).filter fun n => !hasOf ys n).length ≤ L.length := Nat.le_trans (List.length_filter_le _ _) (by simp)
    rw [if_neg (by omega), rof_eq' (by omega), Option.bind_some]
theorem rapart_eq' {xs ys : W} (hx : xs.length ≤ 1000000) (hy : ys.length ≤ 1000000) : F_R44_Apart xs ys = some (apart xs ys : Int) := by
  have h1 := rofN_len (rlessL xs ys) (rlessL xs ys).length
  have h2 := rofN_len (rlessL ys xs) (rlessL ys xs).length
  have h3 : (rless xs ys).length ≤ 64 := h1
  have h4 : (rless ys xs).length ≤ 64 := h2
  have h5 := apart_le xs ys
  unfold F_R44_Apart
  rw [rless_eq hx hy, Option.bind_some, list_eq (by omega), Option.bind_some, rless_eq hy hx, Option.bind_some, list_eq (by omega), Option.bind_some]
  have h := rapart_eq xs ys
  unfold rapart at h
  rw [← Int.natCast_add, h, wr_nat (by omega)]
theorem sumR_bd {l : List Int} (hs : Small l) (s : BitVec 64) (p : Int) (hp : 0 ≤ p) (i : Nat) : -2147483648 * (i : Int) ≤ sumR s p l i ∧ sumR s p l i ≤ 2147483648 * (i : Int) := by
  rw [sumR_eq s p hp]; exact sumN_bd hs s p i
theorem rsketch_eq' {l : List Int} (hs : Small l) (s : BitVec 64) (n : Int) : F_R44_Of l s n = some (sketchOf s l n) := by
  unfold F_R44_Of
  have hm := howMany_eq n
  have hm2 : howMany n ≤ 4096 := by omega
  have hl := hs.1
  rw [← rsketch_eq]
  refine loop_at (fun i : Nat => ((i : Int), planes s l i)) (howMany n) _ (by omega) (fun i hi next => ?_) (fun next => ?_)
  · unfold F_R44_Of_b1
    dsimp only
    have hp := planes_len s l i
    rw [if_pos (by omega)]
    refine loop_at (fun j : Nat => (sumR s (i : Int) l j, (j : Int))) l.length _ (by omega) (fun j hj nx => ?_) (fun nx => ?_)
    · unfold F_R44_Of_b2
      dsimp only
      have h1 := sumR_bd hs s (i : Int) (by omega) j
      have h1' := sumR_bd hs s (i : Int) (by omega) (j + 1)
      have h2 := hs.getD j
      have h3 : -2147483648 ≤ l.getD j 0 * signOf s (i : Int) (j : Int) ∧ l.getD j 0 * signOf s (i : Int) (j : Int) ≤ 2147483648 := by
        rw [signOf_eq s _ _ (by omega) (by omega)]; split <;> omega
      rw [sumR] at h1'
      rw [if_pos (by omega), gx_at hj 0, Option.bind_some, rsign_eq, Option.bind_some, wr_succ (by omega), sumR, wr_of (n := l.getD j 0) (by omega) (by omega), wr_of (n := l.getD j 0 * _) (by omega) (by omega), wr_of (by omega) (by omega)]
    · unfold F_R44_Of_b2
      dsimp only
      rw [if_neg (by omega), planes]
      have ha : (0 ≤ sumR s (i : Int) l l.length) ↔ aboveOf s (i : Int) l = true := by
        rw [sumR_eq s _ (by omega), aboveOf]; simp
      by_cases h : aboveOf s (i : Int) l = true
      · rw [if_pos (ha.2 h), if_pos h, app_at (by omega), Option.bind_some, wr_succ (by omega)]
      · rw [if_neg (fun hh => h (ha.1 hh)), if_neg h, wr_succ (by omega), List.append_nil]
  · unfold F_R44_Of_b1
    dsimp only
    have hp := planes_len s l (howMany n)
    rw [if_neg (by omega), rof_eq' (by omega), Option.bind_some]
    rfl
theorem same_eq {xs : W} (hx : xs.length ≤ 1000000) : F_R01_Same xs xs = some true := by
  unfold F_R01_Same
  rw [if_neg (by simp)]
  refine loop_at (fun i : Nat => (i : Int)) xs.length _ (by omega) (fun i hi next => ?_) (fun next => ?_)
  · unfold F_R01_Same_b1
    rw [if_pos (by omega), gx_at hi 0#64, Option.bind_some, Option.bind_some, if_neg (by simp), wr_succ (by omega)]
  · unfold F_R01_Same_b1
    rw [if_neg (by omega)]
theorem same_ints {xs : List Int} (hx : xs.length ≤ 1000000) : F_R01_SameInts xs xs = some true := by
  unfold F_R01_SameInts
  rw [if_neg (by simp)]
  refine loop_at (fun i : Nat => (i : Int)) xs.length _ (by omega) (fun i hi next => ?_) (fun next => ?_)
  · unfold F_R01_SameInts_b1
    rw [if_pos (by omega), gx_at hi 0, Option.bind_some, Option.bind_some, if_neg (by simp), wr_succ (by omega)]
  · unfold F_R01_SameInts_b1
    rw [if_neg (by omega)]
end Go.Proofs.Ytaclhflmgafobaa
