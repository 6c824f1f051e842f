/- What is near: both ways of sorting lead to one list. -/
import Derived.Test.YtaclhflmgafobaaQ3
namespace Go.Proofs.Ytaclhflmgafobaa
open Go Go.Ab Go.Proofs
set_option linter.unusedSimpArgs false
set_option linter.unusedVariables false
set_option maxRecDepth 20000

section
variable (l : List W) (q : W)
/-- How far the sketch at a place is. -/
def far (i : Nat) : Nat := apart (l.getD i []) q
/-- One place comes ahead of another. -/
def Ahead (a b : Nat) : Prop := far l q a < far l q b ∨ (far l q a = far l q b ∧ a < b)
def gFar (i : Nat) : S_sketch_far := ⟨(far l q i : Int), (i : Int)⟩
/-- Sizes that the statement allows. -/
def Fits : Prop := l.length ≤ 1000 ∧ (∀ s ∈ l, s.length ≤ 80) ∧ q.length ≤ 80
def leF (x y : S_sketch_far) : Bool := decide (x.apart < y.apart ∨ (x.apart = y.apart ∧ x.place ≤ y.place))
end
theorem gx_list {l : List W} {i : Nat} (h : i < l.length) : gx l (i : Int) = some (l.getD i []) := gx_at h []
theorem fits_get {l : List W} {q : W} (h : Fits l q) (i : Nat) : (l.getD i []).length ≤ 80 := by
  by_cases hi : i < l.length
  · exact h.2.1 _ (List.mem_of_getElem? (getD_some hi []))
  · rw [getD_none (by omega)]; simp
theorem near_apart {l : List W} {q : W} (h : Fits l q) (i : Nat) : F_sketch_Apart (l.getD i []) q = some (far l q i : Int) := by
  have h1 := fits_get h i
  have h2 := h.2.2
  exact apart_eq (by omega) (by omega)
theorem rnear_apart {l : List W} {q : W} (h : Fits l q) (i : Nat) : F_R44_Apart (l.getD i []) q = some (far l q i : Int) := by
  have h1 := fits_get h i
  have h2 := h.2.2
  exact rapart_eq' (by omega) (by omega)
theorem or_eq (a b : Int) : F_cmp_Or [a, b] = some (if a ≠ 0 then a else b) := by
  unfold F_cmp_Or
  obtain ⟨m, hm⟩ : ∃ m, fuel = m + 1 + 1 + 1 := ⟨fuel - 3, by have := fuel_ge; omega⟩
  have g0 : gx [a, b] (0 : Int) = some a := rfl
  have g1 : gx [a, b] (1 : Int) = some b := rfl
  have w0 : wr ((0 : Int) + 1) = 1 := by decide
  have w1 : wr ((1 : Int) + 1) = 2 := by decide
  rw [hm, loopK, F_cmp_Or_b1, if_pos (by simp), g0, Option.bind_some]
  by_cases ha : a ≠ 0
  · rw [if_pos ha, if_pos ha]
  · rw [if_neg ha, if_neg ha, w0, loopK, F_cmp_Or_b1, if_pos (by simp), g1, Option.bind_some]
    by_cases hb : b ≠ 0
    · rw [if_pos hb]
    · rw [if_neg hb, w1, loopK, F_cmp_Or_b1, if_neg (by simp)]
      have : b = 0 := by omega
      rw [this]
def InF (x : S_sketch_far) : Prop := 0 ≤ x.apart ∧ x.apart ≤ 1000000 ∧ 0 ≤ x.place ∧ x.place ≤ 1000000
theorem cmp_eq {x y : S_sketch_far} (hx : InF x) (hy : InF y) : F_sketch_Near_1 x y = some (if x.apart - y.apart ≠ 0 then x.apart - y.apart else x.place - y.place) := by
  obtain ⟨a1, a2, a3, a4⟩ := hx
  obtain ⟨b1, b2, b3, b4⟩ := hy
  unfold F_sketch_Near_1
  rw [wr_of (by omega) (by omega), wr_of (by omega) (by omega), or_eq, Option.bind_some]
theorem cmp_lt {x y : S_sketch_far} (hx : InF x) (hy : InF y) : (F_sketch_Near_1 x y).getD 0 < 0 ↔ x.apart < y.apart ∨ (x.apart = y.apart ∧ x.place < y.place) := by
  rw [cmp_eq hx hy, Option.getD_some]
  split <;> omega
theorem far_ext {x y : S_sketch_far} (h1 : x.apart = y.apart) (h2 : x.place = y.place) : x = y := by cases x; cases y; simp_all
theorem sort_eq {xs : List S_sketch_far} (hl : xs.length ≤ 1000000) (h : ∀ x ∈ xs, InF x) : sortF F_sketch_Near_1 xs = some (xs.mergeSort leF) := by
  have hs : Sorts F_sketch_Near_1 xs := by
    refine ⟨by omega, InF, h, fun x y hx hy => ⟨_, cmp_eq hx hy⟩, fun x hx => ?_, fun x y z hx hy hz => ?_, fun x y hx hy => ?_⟩
    · rw [cmp_lt hx hx]; omega
    · rw [cmp_lt hx hy, cmp_lt hy hz, cmp_lt hx hz]; omega
    · rw [cmp_lt hx hy, cmp_lt hy hx]; intro h1 h2; exact far_ext (by omega) (by omega)
  unfold sortF
  rw [if_pos hs]
  congr 1
  have := List.map_mergeSort (r := fun x y => !decide ((F_sketch_Near_1 y x).getD 0 < 0)) (s := leF) (f := id) (l := xs) fun a ha b hb => by
    simp only [id, leF]
    by_cases h1 : (F_sketch_Near_1 b a).getD 0 < 0
    · have h2 := (cmp_lt (h b hb) (h a ha)).1 h1
      rw [decide_eq_true h1, Bool.not_true, eq_comm, decide_eq_false_iff_not]; omega
    · have h2 : ¬ (b.apart < a.apart ∨ (b.apart = a.apart ∧ b.place < a.place)) := fun hh => h1 ((cmp_lt (h b hb) (h a ha)).2 hh)
      rw [decide_eq_false h1, Bool.not_false, eq_comm, decide_eq_true_eq]; omega
  simpa using this
theorem leF_sorted (xs : List S_sketch_far) : (xs.mergeSort leF).Pairwise fun a b => leF a b = true :=
  List.pairwise_mergeSort (fun a b c h1 h2 => by simp only [leF, decide_eq_true_eq] at *; omega) (fun a b => by simp only [leF, Bool.or_eq_true, decide_eq_true_eq]; omega) xs
/-- A list of places in order is what the sort gives. -/
theorem places {l : List W} {q : W} {o : List Nat} {n : Nat} (hp : o.Perm (List.range n)) (ho : o.Pairwise (Ahead l q)) : o.map (gFar l q) = ((List.range n).map (gFar l q)).mergeSort leF := by
  refine List.Perm.eq_of_pairwise (le := fun a b => leF a b = true) (fun a b _ _ h1 h2 => ?_) ?_ (leF_sorted _) ?_
  · simp only [leF, decide_eq_true_eq] at h1 h2; exact far_ext (by omega) (by omega)
  · rw [List.pairwise_map]
    refine ho.imp fun {a b} h => ?_
    show decide (((far l q a : Nat) : Int) < ((far l q b : Nat) : Int) ∨ (((far l q a : Nat) : Int) = ((far l q b : Nat) : Int) ∧ ((a : Nat) : Int) ≤ ((b : Nat) : Int))) = true
    rw [decide_eq_true_eq]
    rcases h with h | h <;> omega
  · exact (hp.map _).trans (List.mergeSort_perm _ _).symm

/-! ### the document's way -/
theorem gx_nats {o : List Nat} {k : Nat} (h : k < o.length) : gx (o.map fun n : Nat => (n : Int)) (k : Int) = some ((o.getD k 0 : Nat) : Int) := by
  rw [gx_nat, List.getElem?_map, getD_some h 0]; rfl
theorem set_mid (A B : List Nat) (X i : Nat) : ((A ++ X :: B).map fun n : Nat => (n : Int)).set A.length (i : Int) = (A ++ i :: B).map fun n : Nat => (n : Int) := by
  simp
theorem take_snoc {o : List Nat} {k : Nat} (h : k < o.length) : o.take (k + 1) = o.take k ++ [o.getD k 0] := by
  rw [List.take_add_one, getD_some h 0]; rfl
theorem drop_head {o : List Nat} {k : Nat} (h : k < o.length) : o.drop k = o.getD k 0 :: o.drop (k + 1) := by
  rw [List.drop_eq_getElem_cons h]; simp [List.getD, h]
theorem insert_eq {l : List W} {q : W} (hf : Fits l q) {i : Nat} (hi : i < l.length) {o : List Nat} (ho : o.length ≤ 1000) (hlt : ∀ y ∈ o, y < l.length) (next : Int × List Int → Option (List Int)) :
    ∀ k m X, k ≤ o.length → k < m → (∀ y ∈ o.drop k, far l q i < far l q y) → ∃ k', k' ≤ k ∧ loopK (F_R44_Near_b2 l q (i : Int) next) m ((k : Int), (o.take k ++ X :: o.drop k).map fun n : Nat => (n : Int)) = next (((i + 1 : Nat) : Int), (o.take k' ++ i :: o.drop k').map fun n : Nat => (n : Int)) ∧
      (∀ y ∈ o.drop k', far l q i < far l q y) ∧ (k' = 0 ∨ far l q (o.getD (k' - 1) 0) ≤ far l q i) := by
  have hil := hf.1
  intro k
  induction k with
  | zero =>
    intro m X h1 h2 h3
    obtain ⟨m, rfl⟩ : ∃ k, m = k + 1 := ⟨m - 1, by omega⟩
    refine ⟨0, Nat.le_refl _, ?_, h3, .inl rfl⟩
    rw [loopK]
    generalize loopK (F_R44_Near_b2 l q (i : Int) next) m = nx
    unfold F_R44_Near_b2
    dsimp only
    have hg := gx_nats (o := o.take 0 ++ X :: o.drop 0) (k := 0) (by simp)
    have hs := set_mid (o.take 0) (o.drop 0) X i
    rw [if_neg (by simp), hg, Option.bind_some, wr_succ (by omega)]
    simp only [Int.toNat_natCast]
    rw [show (o.take 0).length = 0 by simp] at hs
    rw [hs]
  | succ k ih =>
    intro m X h1 h2 h3
    obtain ⟨m, rfl⟩ : ∃ k, m = k + 1 := ⟨m - 1, by omega⟩
    have hlen : (o.take (k + 1) ++ X :: o.drop (k + 1)).length = o.length + 1 := by simp; omega
    have hlk : (o.take (k + 1)).length = k + 1 := by simp; omega
    have hgk : (o.take (k + 1) ++ X :: o.drop (k + 1)).getD k 0 = o.getD k 0 := by
      simp only [List.getD]
      rw [List.getElem?_append_left (by omega), List.getElem?_take, if_pos (by omega)]
    have hy : o.getD k 0 < l.length := hlt _ (List.mem_of_getElem? (getD_some (by omega) 0))
    have e : wr (((k + 1 : Nat) : Int) - 1) = (k : Int) := by rw [wr_of (by omega) (by omega)]; omega
    by_cases hd : far l q i < far l q (o.getD k 0)
    · have ih' := ih m (o.getD k 0) (by omega) (by omega) (fun y hy => by
        rw [drop_head (by omega)] at hy
        rcases List.mem_cons.1 hy with rfl | hy
        · exact hd
        · exact h3 y hy)
      obtain ⟨k', g1, g2, g3, g4⟩ := ih'
      refine ⟨k', by omega, ?_, g3, g4⟩
      rw [loopK]
      rw [← g2]
      generalize loopK (F_R44_Near_b2 l q (i : Int) next) m = nx
      unfold F_R44_Near_b2
      dsimp only
      have hs := set_mid (o.take (k + 1)) (o.drop (k + 1)) X (o.getD k 0)
      rw [hlk] at hs
      have hd' : (far l q i : Int) < (far l q (o.getD k 0) : Int) := by omega
      rw [if_pos (by omega), gx_list hi, Option.bind_some, rnear_apart hf, Option.bind_some, e, gx_nats (by omega), Option.bind_some, hgk, gx_list hy, Option.bind_some, rnear_apart hf, Option.bind_some, if_pos hd', Option.bind_some, gx_nats (by omega), Option.bind_some]
      simp only [Int.toNat_natCast]
      rw [hs, take_snoc (by omega), List.append_assoc, List.singleton_append, ← drop_head (by omega)]
    · refine ⟨k + 1, Nat.le_refl _, ?_, h3, .inr (by rw [Nat.add_sub_cancel]; omega)⟩
      rw [loopK]
      generalize loopK (F_R44_Near_b2 l q (i : Int) next) m = nx
      unfold F_R44_Near_b2
      dsimp only
      have hs := set_mid (o.take (k + 1)) (o.drop (k + 1)) X i
      rw [hlk] at hs
      have hd' : ¬ (far l q i : Int) < (far l q (o.getD k 0) : Int) := by omega
      rw [if_pos (by omega), gx_list hi, Option.bind_some, rnear_apart hf, Option.bind_some, e, gx_nats (by omega), Option.bind_some, hgk, gx_list hy, Option.bind_some, rnear_apart hf, Option.bind_some, if_neg hd', gx_nats (by omega), Option.bind_some, wr_succ (by omega)]
      simp only [Int.toNat_natCast]
      rw [hs]
/-- The places so far, in order. -/
def Inv (l : List W) (q : W) (i : Nat) (o : List Nat) : Prop := o.Perm (List.range i) ∧ o.Pairwise (Ahead l q)
theorem Inv.len {l : List W} {q : W} {i : Nat} {o : List Nat} (h : Inv l q i o) : o.length = i := by have := h.1.length_eq; simpa using this
theorem Inv.lt {l : List W} {q : W} {i : Nat} {o : List Nat} (h : Inv l q i o) : ∀ y ∈ o, y < i := fun y hy => by have := h.1.mem_iff.1 hy; simpa using this
theorem inv_next {l : List W} {q : W} {i k : Nat} {o : List Nat} (h : Inv l q i o) (hk : k ≤ o.length) (h1 : ∀ y ∈ o.drop k, far l q i < far l q y) (h2 : k = 0 ∨ far l q (o.getD (k - 1) 0) ≤ far l q i) : Inv l q (i + 1) (o.take k ++ i :: o.drop k) := by
  refine ⟨?_, ?_⟩
  · refine List.perm_middle.trans ?_
    rw [List.take_append_drop, List.range_succ]
    exact (List.Perm.cons i h.1).trans (List.perm_append_comm (l₁ := [i]) (l₂ := List.range i))
  · have ho := h.2
    have hsplit := List.take_append_drop k o
    rw [← hsplit, List.pairwise_append] at ho
    obtain ⟨p1, p2, p3⟩ := ho
    have hta : ∀ y ∈ o.take k, Ahead l q y i := fun y hy => by
      have hyi := h.lt y (List.mem_of_mem_take hy)
      rcases h2 with rfl | h2
      · simp at hy
      · by_cases hk0 : k = 0
        · subst hk0; simp at hy
        · obtain ⟨j, rfl⟩ : ∃ j, k = j + 1 := ⟨k - 1, by omega⟩
          rw [Nat.add_sub_cancel] at h2
          rw [take_snoc (by omega), List.pairwise_append] at p1
          rw [take_snoc (by omega)] at hy
          have hle : far l q y ≤ far l q (o.getD j 0) := by
            rcases List.mem_append.1 hy with hy | hy
            · rcases p1.2.2 y hy (o.getD j 0) (List.mem_singleton.2 rfl) with g | g <;> omega
            · have : y = o.getD j 0 := by simpa using hy
              rw [this]; exact Nat.le_refl _
          unfold Ahead; omega
    rw [List.pairwise_append, List.pairwise_cons]
    refine ⟨p1, ⟨fun y hy => .inl (h1 y hy), p2⟩, fun a ha b hb => ?_⟩
    rcases List.mem_cons.1 hb with rfl | hb
    · exact hta a ha
    · exact p3 a ha b hb
theorem rnear_eq {l : List W} {q : W} (hf : Fits l q) (most : Int) : ∃ o, Inv l q l.length o ∧ F_R44_Near l q most = some ((o.map fun n : Nat => (n : Int)).take (max 0 (min most (l.length : Int))).toNat) := by
  have hil := hf.1
  have key : ∀ r i o m, i + r = l.length → Inv l q i o → r < m → ∃ o', Inv l q l.length o' ∧ loopK (F_R44_Near_b1 l q most) m ((i : Int), o.map fun n : Nat => (n : Int)) = some ((o'.map fun n : Nat => (n : Int)).take (max 0 (min most (l.length : Int))).toNat) := by
    intro r
    induction r with
    | zero =>
      intro i o m h1 h2 h3
      obtain ⟨m, rfl⟩ : ∃ k, m = k + 1 := ⟨m - 1, by omega⟩
      obtain rfl : i = l.length := by omega
      refine ⟨o, h2, ?_⟩
      have hl := h2.len
      rw [loopK, F_R44_Near_b1]
      rw [if_neg (by omega)]
      have hmo : max 0 (min most (((o.map fun n : Nat => (n : Int)).length : Nat) : Int)) = (((max 0 (min most (l.length : Int))).toNat : Nat) : Int) := by simp only [List.length_map]; omega
      rw [hmo, cut_take (by simp only [List.length_map]; omega), Option.bind_some]
    | succ r ih =>
      intro i o m h1 h2 h3
      obtain ⟨m, rfl⟩ : ∃ k, m = k + 1 := ⟨m - 1, by omega⟩
      have hl := h2.len
      obtain ⟨k', g1, g2, g3, g4⟩ := insert_eq hf (i := i) (by omega) (o := o) (by omega) (fun y hy => by have := h2.lt y hy; omega) (loopK (F_R44_Near_b1 l q most) m) o.length fuel i (Nat.le_refl _) (fuel_gt (by omega)) (by simp)
      have h4 := inv_next h2 g1 g3 g4
      obtain ⟨o', p1, p2⟩ := ih (i + 1) _ m (by omega) h4 (by omega)
      refine ⟨o', p1, ?_⟩
      rw [← p2, ← g2, loopK]
      generalize loopK (F_R44_Near_b1 l q most) m = nx
      rw [F_R44_Near_b1]
      rw [if_pos (by omega), app_at (by simp; omega), Option.bind_some]
      simp
  exact key l.length 0 [] fuel (by omega) ⟨by simp, .nil⟩ (fuel_gt (by omega))

/-! ### the program's way -/
theorem near_eq {l : List W} {q : W} (hf : Fits l q) (most : Int) : F_sketch_Near l q most = some (((((List.range l.length).map (gFar l q)).mergeSort leF).map fun x => x.place).take (max 0 (min most (l.length : Int))).toNat) := by
  have hil := hf.1
  unfold F_sketch_Near
  have hm : mkn (l.length : Int) zS_sketch_far = some (List.replicate l.length zS_sketch_far) := by unfold mkn; rw [if_pos (by omega)]; rfl
  rw [hm, Option.bind_some]
  generalize hn : l.length = n at hil ⊢
  have h0 : List.replicate n zS_sketch_far = (List.range 0).map (gFar l q) ++ List.replicate (n - 0) zS_sketch_far := by simp
  rw [h0]
  refine loop_at (fun i : Nat => ((i : Int), (List.range i).map (gFar l q) ++ List.replicate (n - i) zS_sketch_far)) n _ (by omega) (fun i hi next => ?_) (fun next => ?_)
  · unfold F_sketch_Near_b1
    dsimp only
    have hg : gx ((List.range i).map (gFar l q) ++ List.replicate (n - i) zS_sketch_far) (i : Int) = some zS_sketch_far := by
      rw [gx_nat, List.getElem?_append_right (by simp), List.length_map, List.length_range, Nat.sub_self, List.getElem?_replicate, if_pos (by omega)]
    rw [if_pos (by omega), gx_list (by omega), Option.bind_some, near_apart hf, Option.bind_some, hg, Option.bind_some, wr_succ (by omega), Int.toNat_natCast]
    congr 2
    obtain ⟨k, hk⟩ : ∃ k, n - i = k + 1 := ⟨n - i - 1, by omega⟩
    rw [List.set_append_right _ _ (by simp), hk, List.replicate_succ, show n - (i + 1) = k by omega, List.range_succ]
    simp [gFar]
  · unfold F_sketch_Near_b1
    dsimp only
    have hin : ∀ x ∈ (List.range n).map (gFar l q), InF x := fun x hx => by
      obtain ⟨i, hi, rfl⟩ := List.mem_map.1 hx
      have := apart_le (l.getD i []) q
      have hi' : i < n := by simpa using hi
      unfold InF gFar far
      dsimp only
      omega
    have hla : (((List.range n).map (gFar l q)).mergeSort leF).length = n := by simp
    rw [if_neg (by omega), Nat.sub_self, List.replicate_zero, List.append_nil, sort_eq (by simp; omega) hin, Option.bind_some]
    generalize ((List.range n).map (gFar l q)).mergeSort leF = L at hla ⊢
    have hmo : min (max most 0) ((L.length : Nat) : Int) = (((max 0 (min most (n : Int))).toNat : Nat) : Int) := by omega
    generalize hK : (max 0 (min most (n : Int))).toNat = K at hmo ⊢
    have hKn : K ≤ n := by omega
    rw [hmo, cut_take (by omega), Option.bind_some]
    have hlt : (L.take K).length = K := by simp; omega
    rw [← List.map_take]
    have hfin : (L.take K).map (fun x => x.place) = ((L.take K).take K).map fun x => x.place := by rw [List.take_take, Nat.min_self]
    rw [hfin]
    generalize L.take K = M at hlt ⊢
    refine loop_at (fun i : Nat => ((i : Int), (M.take i).map fun x => x.place)) K _ (by omega) (fun i hi next2 => ?_) (fun next2 => ?_)
    · unfold F_sketch_Near_b2
      dsimp only
      have hM : i < M.length := by omega
      have hgM : gx M (i : Int) = some M[i] := by rw [gx_nat]; simp [hM]
      rw [if_pos (by omega), hgM, Option.bind_some, app_at (by simp; omega), Option.bind_some, wr_succ (by omega), List.take_add_one, List.getElem?_eq_getElem hM, List.map_append]
      rfl
    · unfold F_sketch_Near_b2
      dsimp only
      rw [if_neg (by omega)]
theorem both_near {l : List W} {q : W} (hf : Fits l q) (most : Int) : ∃ r, r.length ≤ 1000 ∧ F_sketch_Near l q most = some r ∧ F_R44_Near l q most = some r := by
  obtain ⟨o, ho, hr⟩ := rnear_eq hf most
  have hil := hf.1
  refine ⟨_, ?_, near_eq hf most, ?_⟩
  · simp; omega
  · rw [hr, ← places ho.1 ho.2, List.map_map]; rfl
end Go.Proofs.Ytaclhflmgafobaa
