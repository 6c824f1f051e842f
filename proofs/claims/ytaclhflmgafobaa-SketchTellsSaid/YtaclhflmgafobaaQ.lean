/- The plain law: the model of SketchTells answers true. -/
import Derived.Test.YtaclhflmgafobaaQ4
namespace Go.Proofs.Ytaclhflmgafobaa
open Go Go.Ab Go.Proofs
set_option linter.unusedSimpArgs false
set_option linter.unusedVariables false
set_option maxRecDepth 20000

theorem wf_i32 {n : Int} (h : (Lit.int .i32 n).wf = true) : -2147483648 ≤ n ∧ n ≤ 2147483647 := by
  simpa [Lit.wf, IntKind.min, IntKind.max, IntKind.signed, IntKind.bits] using h
theorem tells_true (v : List Int) (seed : BitVec 64) (n plane component : Int) (l : List (List (BitVec 64))) (q : List (BitVec 64)) (most : Int)
    (w0 : v.length ≤ maxLen ∧ ∀ x ∈ v, (Lit.int .i32 x).wf = true) (w1 : True) (w2 : (Lit.int .i64 n).wf = true) (w3 : (Lit.int .i64 plane).wf = true) (w4 : (Lit.int .i64 component).wf = true)
    (w5 : l.length ≤ maxLen ∧ ∀ y ∈ l, (y.length ≤ maxLen ∧ ∀ y1 ∈ y, True)) (w6 : q.length ≤ maxLen ∧ ∀ x ∈ q, True) (w7 : (Lit.int .i64 most).wf = true) : F_L44_SketchTells v seed n plane component l q most = some true := by
  have hlive : F_lives = some true := rfl
  unfold F_L44_SketchTells
  rw [hlive]
  by_cases c1 : (60 : Int) < (v.length : Int)
  · rw [if_pos c1]; rfl
  rw [if_neg c1]
  by_cases c2 : (200 : Int) < n
  · rw [if_pos c2]; rfl
  rw [if_neg c2]
  by_cases c3 : (20 : Int) < (l.length : Int)
  · rw [if_pos c3]; rfl
  rw [if_neg c3]
  by_cases c4 : (80 : Int) < (q.length : Int)
  · rw [if_pos c4]; rfl
  rw [if_neg c4]
  have hs : Small v := ⟨by omega, fun x hx => wf_i32 (w0.2 x hx)⟩
  have key : ∀ r i m, i + r = l.length → (∀ j, j < i → (l.getD j []).length ≤ 80) → r < m → loopK (F_L44_SketchTells_b1 v seed n plane component l q most) m (i : Int) = some true := by
    intro r
    induction r with
    | zero =>
      intro i m h1 h2 h3
      obtain ⟨m, rfl⟩ : ∃ k, m = k + 1 := ⟨m - 1, by omega⟩
      have hall : ∀ s ∈ l, s.length ≤ 80 := fun s hsl => by
        obtain ⟨j, hj, rfl⟩ := List.getElem_of_mem hsl
        have := h2 j (by omega)
        simpa [List.getD, hj] using this
      have hf : Fits l q := ⟨by omega, hall, by omega⟩
      obtain ⟨r, hr, hr1, hr2⟩ := both_near hf most
      rw [loopK, F_L44_SketchTells_b1, if_neg (by omega), hlive, Option.bind_some, if_pos rfl, sign_eq, Option.bind_some, rsign_eq, Option.bind_some, if_pos rfl, sketch_eq hs, Option.bind_some, rsketch_eq' hs, Option.bind_some, same_eq, Option.bind_some, if_pos rfl, hr1, Option.bind_some, hr2, Option.bind_some, same_ints (by omega), Option.bind_some]
      refine Nat.le_trans (trim_len _) ?_
      rw [outN_len]
      have := wordsN_le (planes seed v (howMany n))
      omega
    | succ r ih =>
      intro i m h1 h2 h3
      obtain ⟨m, rfl⟩ : ∃ k, m = k + 1 := ⟨m - 1, by omega⟩
      have ih' := ih (i + 1) m (by omega)
      rw [loopK]
      generalize loopK (F_L44_SketchTells_b1 v seed n plane component l q most) m = nx at ih' ⊢
      rw [F_L44_SketchTells_b1, if_pos (by omega), gx_list (by omega), Option.bind_some]
      by_cases h : (80 : Int) < ((l.getD i []).length : Int)
      · rw [if_pos h, if_pos h, hlive]; rfl
      · rw [if_neg h, apart_eq (by omega) (by omega), Option.bind_some, rapart_eq' (by omega) (by omega), Option.bind_some, if_neg (by simp), wr_succ (by omega)]
        exact ih' (fun j hj => by
          by_cases hji : j = i
          · rw [hji]; omega
          · exact h2 j (by omega)) (by omega)
  exact key l.length 0 fuel (by omega) (fun j hj => by omega) (fuel_gt (by omega))
end Go.Proofs.Ytaclhflmgafobaa
