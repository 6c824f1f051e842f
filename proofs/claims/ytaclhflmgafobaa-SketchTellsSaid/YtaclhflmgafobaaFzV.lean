/- slices.SortFunc over a slice of one's own: the kit's contract, told in the logic. -/
import Derived.Test.YtaclhflmgafobaaFzU
import Derived.Shelf.SlSortCmp.NoneTotal
namespace Go.Ab
open Go Go.Proofs Go.RowKit Go.Lib Go.Sort
set_option linter.unusedSimpArgs false
set_option linter.unusedVariables false

/-- The machine has written into one block of cells that the heap may write, and has laid new blocks. -/
theorem row_turned {φ : Ren} {σ : AH} {w w' : World} {b c d z : Nat} {C C' : List Value} {CC CC' : Array Value} {ee : TypeId} (hS : StRel φ σ w) (hE : Ends φ σ) (hb : σ.base ≤ b) (hg : σ.get b = some (.cells false z C)) (hφ : φ b = some (c, d))
    (hc : w.heap[c]? = some (.cells CC ee (0, 0))) (h1 : w'.os = w.os) (h2 : w'.tape = w.tape) (h3 : w'.output = w.output) (h4 : w.drawn ≤ w'.drawn) (h5 : w.heap.size ≤ w'.heap.size)
    (h6 : ∀ c', c' < w.heap.size → c' ≠ c → w'.heap[c']? = w.heap[c']?) (h7 : w'.heap[c]? = some (.cells CC' ee (0, 0))) (h8 : CC'.size = CC.size) (h9 : ∀ (i : Nat) (v : Value), C'[i]? = some v → ∃ v', CC'[d + i]? = some v' ∧ VRel φ v v') :
    StRel φ (σ.put b (.cells false z C')) w' ∧ Ends φ (σ.put b (.cells false z C')) ∧ Fr σ.size φ σ w φ (σ.put b (.cells false z C')) w' := by
  have hbl := AH.get_lt hg
  have hwr : σ.wr b := ⟨hb, _, hg, rfl⟩
  have hcs := hS.inr b c d hφ
  have alone : ∀ b' d' o, φ b' = some (c, d') → σ.get b' = some o → o.live = true → b' = b := fun b' d' o e1 e2 hl => by
    by_cases hne : b' = b
    · exact hne
    · have := (hS.inj b' b c d' d o _ e1 hφ e2 hg hl rfl hne).2
      simp [AObj.isRo] at this
  refine ⟨⟨fun b' c' d' e => Nat.lt_of_lt_of_le (hS.inr b' c' d' e) h5, fun b' c' d' o e ho => ?_, fun b1 b2 c' d1 d2 o1 o2 e1 e2 g1 g2 l1 l2 hne => ?_, fun c' i u e => ?_, fun b' c' d' o e ho hw i => ?_⟩, fun b' hb' => hE b' (by rw [AH.size_put] at hb'; exact hb'), ⟨h1, h2, h3, h4, h5, fun _ _ _ e => e, fun _ _ _ e => .inl e, fun c' hc' hn => h6 c' hc' fun e => hn b d (by rw [e]; exact hφ) hwr, fun b' c' d' e hw => ?_, fun b' _ => ⟨rfl, fun _ _ _ => rfl⟩⟩⟩
  · rw [AH.get_put hbl] at ho
    split at ho
    · rename_i hbb; subst hbb
      obtain rfl := Option.some.inj ho
      rw [hφ] at e; obtain ⟨rfl, rfl⟩ := Prod.mk.inj (Option.some.inj e)
      obtain ⟨C0, e0, fr0, k1, k2, k3, _⟩ := hS.obj _ c d _ hφ hg
      rw [hc] at k1; cases k1
      exact ⟨CC', ee, (0, 0), h7, fun _ => rfl, ⟨k3.1, fun hz => by rw [h8]; exact k3.2 hz⟩, h9⟩
    · by_cases hl : o.live = true
      · have hne : c' ≠ c := fun hcc => by subst hcc; rename_i hbb; exact hbb (alone b' d' o e ho hl)
        have hcl := hS.inr b' c' d' e
        have := hS.obj b' c' d' o e ho
        cases o with
        | cells ro z0 cs0 => obtain ⟨C0, e0, fr0, k1, k2⟩ := this; exact ⟨C0, e0, fr0, by rw [h6 c' hcl hne]; exact k1, k2⟩
        | map es k => obtain ⟨E0, k1, k2, k3⟩ := this; exact ⟨E0, k1, by rw [h6 c' hcl hne]; exact k2, k3⟩
        | dead => trivial
      · cases o <;> simp_all [AObj.live, ORel]
  · have back : ∀ b' o', (σ.put b (.cells false z C')).get b' = some o' → ∃ o0, σ.get b' = some o0 ∧ o0.live = o'.live ∧ o0.isRo = o'.isRo := fun b' o' h => by
      rw [AH.get_put hbl] at h
      split at h
      · rename_i hbb; subst hbb; obtain rfl := Option.some.inj h; exact ⟨_, hg, rfl, rfl⟩
      · exact ⟨o', h, rfl, rfl⟩
    obtain ⟨p1, q1, r1, s1⟩ := back b1 o1 g1
    obtain ⟨p2, q2, r2, s2⟩ := back b2 o2 g2
    have := hS.inj b1 b2 c' d1 d2 p1 p2 e1 e2 q1 q2 (by rw [r1]; exact l1) (by rw [r2]; exact l2) hne
    rw [s1, s2] at this; exact this
  · obtain ⟨C0, e0, fr0, k1, k2⟩ := hS.still c' i u e
    have hcl : c' < w.heap.size := (Array.getElem?_eq_some_iff.1 k1).1
    by_cases hne : c' = c
    · subst hne; have := hS.apart b _ d _ hφ hg rfl i; rw [this] at e; cases e
    · exact ⟨C0, e0, fr0, by rw [h6 c' hcl hne]; exact k1, k2⟩
  · rw [AH.get_put hbl] at ho
    split at ho
    · rename_i hbb; subst hbb; exact hS.apart _ c' d' _ e hg rfl i
    · exact hS.apart b' c' d' o e ho hw i
  · refine .inr ⟨b', d', e, ?_⟩
    obtain ⟨k1, o, k2, k3⟩ := hw
    refine ⟨k1, ?_⟩
    rw [AH.get_put hbl] at k2
    split at k2
    · rename_i hbb; subst hbb; exact ⟨_, hg, rfl⟩
    · exact ⟨o, k2, k3⟩

theorem grown_of {w w' : World} (h1 : w'.os = w.os) (h2 : w'.tape = w.tape) (h3 : w'.output = w.output) (h4 : w.drawn ≤ w'.drawn) (h5 : w.heap.size ≤ w'.heap.size) (h6 : ∀ c, c < w.heap.size → w'.heap[c]? = w.heap[c]?) :
    w' = grow (w.drewN (w'.drawn - w.drawn)) (w'.heap.extract w.heap.size w'.heap.size) := by
  have hh : w'.heap = w.heap ++ w'.heap.extract w.heap.size w'.heap.size := by
    apply Array.ext_getElem?
    intro c
    by_cases hc : c < w.heap.size
    · rw [Array.getElem?_append_left hc]; exact h6 c hc
    · rw [Array.getElem?_append_right (by omega), Array.getElem?_extract]
      by_cases hc2 : c < w'.heap.size
      · rw [if_pos (by omega)]; congr 1; omega
      · rw [if_neg (by omega), Array.getElem?_eq_none (by omega)]
  have hd : w'.drawn = w.drawn + (w'.drawn - w.drawn) := by omega
  cases w'; cases w
  simp only [grow, World.drewN] at *
  subst h1 h2 h3
  rw [← hh, ← hd]
theorem fn_enters {P : Program} {g : Nat} (h : ∃ fn, P.funcs[g]? = some fn ∧ fn.body.isNone = false ∧ (fn.name == "runtime.NumGoroutine") = false) : ∀ args w, (callFunc g args).run P w = .ok (.enter g args) w := by
  obtain ⟨fn, h1, h2, h3⟩ := h
  cases hb : fn.body with
  | none => rw [hb] at h2; cases h2
  | some c => exact enters_of h1 h3 hb

/-- What the comparison answers parts any two of these, and is an order. -/
def Sorts {α : Type} (f : α → α → Option Int) (xs : List α) : Prop :=
  xs.length < 4611686018427387904 ∧ ∃ Pr : α → Prop, (∀ x ∈ xs, Pr x) ∧ (∀ x y, Pr x → Pr y → ∃ r, f x y = some r) ∧ (∀ x, Pr x → ¬ (f x x).getD 0 < 0) ∧
    (∀ x y z, Pr x → Pr y → Pr z → (f x y).getD 0 < 0 → (f y z).getD 0 < 0 → (f x z).getD 0 < 0) ∧ (∀ x y, Pr x → Pr y → ¬ (f x y).getD 0 < 0 → ¬ (f y x).getD 0 < 0 → x = y)
/-- A list, sorted. -/
noncomputable def sortF {α : Type} (f : α → α → Option Int) (xs : List α) : Option (List α) := open Classical in if Sorts f xs then some (xs.mergeSort fun x y => !decide ((f y x).getD 0 < 0)) else none

theorem lift_pr {α : Type} {Pr : α → Prop} : ∀ {xs : List α}, (∀ x ∈ xs, Pr x) → ∃ d : List { x // Pr x }, d.map (·.1) = xs
  | [], _ => ⟨[], rfl⟩
  | x :: xs, h => by
    obtain ⟨d, hd⟩ := lift_pr (xs := xs) fun y hy => h y (by simp [hy])
    exact ⟨⟨x, h x (by simp)⟩ :: d, by simp [hd]⟩
theorem flat_all {α β : Type} [Inhabited β] (e : En α) (g : β → α) (d : List β) (j : Nat) (hj : j < d.length * e.sz) : (flatK (fun x : β => e.cells (g x)) e.sz d.toArray)[j]! = ((e.all (d.map g))[j]?).getD Go.undef := by
  have hz : 0 < e.sz := by rcases Nat.eq_zero_or_pos e.sz with h | h; (· rw [h] at hj; omega); exact h
  rw [get_flatK _ _ _ j (by simpa using hj)]
  have hq : j / e.sz < d.length := Nat.div_lt_of_lt_mul (by rw [Nat.mul_comm]; exact hj)
  have hx : (d.map g)[j / e.sz]? = some (g d[j / e.sz]) := by simp [hq]
  have hat := all_at (e := e) hx
  have hm := Nat.mod_lt j hz
  have hdm := Nat.div_add_mod j e.sz
  have h1 : (e.all (d.map g))[j]? = (e.cells (g d[j / e.sz]))[j % e.sz]? := by
    rw [← hat, List.getElem?_take, if_pos hm, List.getElem?_drop, Nat.mul_comm, hdm]
  have hml : j % e.sz < (e.cells (g d[j / e.sz])).length := by rw [e.len]; exact hm
  have h2 : d.toArray[j / e.sz]! = d[j / e.sz] := by simp [hq]
  rw [h1, h2]
  simp [hml]

section
variable {α : Type} {P : Program} {ρ : Go.Shelf.Ren} {σ : AH} {l : List It} {i g : Nat} {e : En α} {v : Value} {xs ys : List α} {f : α → α → Option Int}
set_option maxHeartbeats 1000000 in
/-- slices.SortFunc over a slice of one's own. -/
theorem sort_fn (L : SlLaysF0.n6 P ρ) (aE : ∀ w, (isAgg (ρ.t 24)).run P w = .ok true w) (zE : ∀ w, (Go.sizeOf (ρ.t 24)).run P w = .ok e.sz w) (h1 : e.one = false) (hprim : ∀ x, ∀ v ∈ e.cells x, prim v = true)
    (hp : ∀ x y r, f x y = some r → Pure P g [e.val x, e.val y] (.int .i64 r)) (hs : sortF f xs = some ys) (hH : Hp σ l) (hi : l[i]? = some (It.sl e v xs)) :
    Fn P (ρ.f 6) [v, .func (.func g) #[] #[]] σ fun u σ' => u = .tuple #[] ∧ σ.size ≤ σ'.size ∧ Hp σ' (l.set i (It.sl e v ys)) := by
  have hfn : ∃ fn, P.funcs[ρ.f 6]? = some fn ∧ fn.body.isNone = false ∧ (fn.name == "runtime.NumGoroutine") = false := by
    obtain ⟨nm, h2, h3⟩ := L.f6
    exact ⟨_, h3, rfl, h2⟩
  unfold sortF at hs
  split at hs
  case isFalse => cases hs
  rename_i hS0
  obtain ⟨hlen, Pr, hPr, hsome, hirr, htr, htot⟩ := hS0
  obtain rfl := Option.some.inj hs
  refine ⟨hfn, fun φ w args' hS hl hE => ?_⟩
  obtain ⟨hal, har⟩ := hl
  match args', hal, har with
  | [a1, a2], _, har =>
  have ha1 : VRel φ v a1 := har 0 _ _ rfl rfl
  have ha2 : VRel φ (.func (.func g) #[] #[]) a2 := har 1 _ _ rfl rfl
  obtain ⟨q1, q2, rfl, q3, q4⟩ := ha2.of_func
  have hq1 : q1 = #[] := by have := q3.1; simpa using this.symm
  have hq2 : q2 = #[] := by have := q4.1; simpa using this.symm
  subst hq1 hq2
  have hok : (It.sl e v xs).ok σ := hH.at hi
  by_cases hn : xs = []
  · subst hn
    have hnone : ∃ p cap, a1 = .slice p 0 cap := by
      obtain ⟨_, ⟨hv, _⟩ | ⟨b, o, cap, C, hv, _⟩⟩ := hok
      · rcases hv with rfl | rfl
        · obtain ⟨rfl, _, _⟩ := ha1.of_nilSlice; exact ⟨_, _, rfl⟩
        · obtain ⟨c, o, rfl⟩ := ha1.of_emp rfl; exact ⟨_, _, rfl⟩
      · rw [hv] at ha1
        cases ha1 with
        | prim h => simp [Ab.prim] at h
        | slice => exact ⟨_, _, rfl⟩
        | slice0 => exact ⟨_, _, rfl⟩
    obtain ⟨p, cap, rfl⟩ := hnone
    refine (AnyF.slices_SortFunc_none L p cap _ w).mono ?_
    rintro e' w' ⟨rfl, rfl⟩
    refine ⟨.tuple #[], σ, φ, .tuple #[], ⟨rfl, Nat.le_refl _, ?_⟩, rfl, hS, hE, .undef _, .refl _ _ _ _⟩
    rw [show (([] : List α).mergeSort fun x y => !decide ((f y x).getD 0 < 0)) = [] by simp, set_same hi]; exact hH
  · obtain ⟨h0, ⟨hv, hz⟩ | ⟨b, o, cap, C, rfl, k1, k2, k3, k4, k5⟩⟩ := hok
    · exact absurd (List.eq_nil_of_length_eq_zero hz) hn
    have hlp : 0 < xs.length := List.length_pos_iff.2 hn
    have hreal : ∃ c d k', φ b = some (c, d) ∧ a1 = .slice (some ⟨c, d + o, none⟩) xs.length k' := by
      obtain ⟨c, d, o', k', _, h2, rfl, _, h3, _⟩ := ha1.of_slice
      rcases h3 with ⟨h3, _⟩ | rfl
      · omega
      · exact ⟨c, d, k', h2, rfl⟩
    obtain ⟨c, d, k', hφ, rfl⟩ := hreal
    obtain ⟨CC, ee, fr, m1, m2, m3, m4⟩ := hS.obj b c d _ hφ k3
    obtain rfl := m2 rfl
    obtain ⟨dl, hdl⟩ := lift_pr hPr
    have hdlen : dl.length = xs.length := by rw [← hdl]; simp
    haveI : Inhabited { x // Pr x } := ⟨dl[0]⟩
    let enc : { x // Pr x } → List Value := fun x => e.cells x.1
    let cf : { x // Pr x } → { x // Pr x } → Int := fun x y => (f x.1 y.1).getD 0
    have hall : ∀ j, j < xs.length * e.sz → ∀ u, (e.all xs)[j]? = some u → CC[d + o + j]? = some u := fun j hj u hu => by
      rw [k5, List.getElem?_take, if_pos hj, List.getElem?_drop] at hu
      obtain ⟨v', n1, n2⟩ := m4 _ _ hu
      rw [← Nat.add_assoc] at n1
      have hpu : prim u = true := by
        have hmem : u ∈ e.all xs := by
          rw [k5]; exact List.mem_of_getElem? (i := j) (by rw [List.getElem?_take, if_pos hj, List.getElem?_drop]; exact hu)
        obtain ⟨x, _, hx⟩ := List.mem_flatMap.1 hmem
        exact hprim x u hx
      rw [prim_eq n2 hpu] at n1; exact n1
    have hHolds : HoldsK enc e.sz w c (d + o) dl.toArray := fun j hj => by
      have hj' : j < dl.length * e.sz := by simpa using hj
      have hj2 : j < xs.length * e.sz := by rw [← hdlen]; exact hj'
      have hval := flat_all e (fun x : { x // Pr x } => x.1) dl j hj'
      have hjl : j < (e.all xs).length := by rw [all_len]; exact hj2
      have hget := hall j hj2 _ (List.getElem?_eq_getElem hjl)
      refine ⟨?_, by simp [World.frozen?, m1]⟩
      show w.cell? ⟨c, d + o + j, none⟩ = some (id (flatK (fun x : { x // Pr x } => e.cells x.1) e.sz dl.toArray)[j]!)
      rw [hval, hdl, List.getElem?_eq_getElem hjl]
      simp only [World.cell?, m1, hget]
      rfl
    have hswo : SWO (ltOf cf) := by
      have lt_iff : ∀ x y, ltOf cf x y = true ↔ (f x.1 y.1).getD 0 < 0 := fun x y => by simp [ltOf, cf]
      have nlt_iff : ∀ x y, ltOf cf x y = false ↔ ¬ (f x.1 y.1).getD 0 < 0 := fun x y => by simp [ltOf, cf]
      refine ⟨fun x => (nlt_iff x x).2 (hirr x.1 x.2), fun x y z p q => (lt_iff x z).2 (htr _ _ _ x.2 y.2 z.2 ((lt_iff x y).1 p) ((lt_iff y z).1 q)), fun x y z p q => (nlt_iff x z).2 fun hxz => ?_⟩
      have p' := (nlt_iff x y).1 p
      have q' := (nlt_iff y z).1 q
      by_cases hyx : (f y.1 x.1).getD 0 < 0
      · exact q' (htr _ _ _ y.2 x.2 z.2 hyx hxz)
      · have := htot x.1 y.1 x.2 y.2 p' hyx
        rw [this] at hxz; exact q' hxz
    have hT : ∀ x y, ltOf cf x y = false → ltOf cf y x = false → x = y := fun x y p q => Subtype.ext (htot x.1 y.1 x.2 y.2 (by simpa [ltOf, cf] using p) (by simpa [ltOf, cf] using q))
    have hcmp : CmpLays P g #[] enc e.sz cf c (d + o) dl.toArray.size w := fun m os dk hsz x y => by
      obtain ⟨r, hr⟩ := hsome x.1 y.1 x.2 y.2
      have hpure := hp x.1 y.1 r hr
      have hv1 : e.val x.1 = .agg (enc x).toArray := by unfold En.val; rw [if_neg (by simp [h1])]
      have hv2 : e.val y.1 = .agg (enc y).toArray := by unfold En.val; rw [if_neg (by simp [h1])]
      have hlr : LRel (stood (sortWorldK enc e.sz w c (d + o) m dk os)) [e.val x.1, e.val y.1] [.agg (enc x).toArray, .agg (enc y).toArray] := by
        have one : ∀ z : { x // Pr x }, VRel (stood (sortWorldK enc e.sz w c (d + o) m dk os)) (e.val z.1) (.agg (enc z).toArray) := fun z => by
          have hz : e.val z.1 = .agg (enc z).toArray := by unfold En.val; rw [if_neg (by simp [h1])]
          rw [hz]
          exact VRel.agg_of' ⟨rfl, fun j u u' e1 e2 => by
            rw [e1] at e2; obtain rfl := Option.some.inj e2
            exact .prim (hprim z.1 u (List.mem_of_getElem? (by simpa using e1)))⟩
        exact .cons (one x) (.cons (one y) (LRel.nil _))
      refine (hpure.run (stood_st _) hlr).mono ?_
      rintro e' w' ⟨φ', v', rfl, _, _, n4, n5, n6⟩
      obtain rfl := n4.of_int
      have hcf : cf x y = r := by show (f x.1 y.1).getD 0 = r; rw [hr]; rfl
      refine ⟨by rw [hcf], w'.drawn - (sortWorldK enc e.sz w c (d + o) m dk os).drawn, w'.heap.extract (sortWorldK enc e.sz w c (d + o) m dk os).heap.size w'.heap.size, ?_⟩
      exact grown_of n5.os n5.tape n5.output n5.drawn n5.hsize n6
    have hrun := AnyQ.slices_SortFunc_total L e.sz aE zE enc (fun x => e.len x.1) (fun x u hu => by have := hprim x.1 u hu; cases u <;> simp_all [Ab.prim, Value.oneCell']) cf hswo g #[] c (d + o) k' dl.toArray w
      (by obtain ⟨r, hr⟩ := hsome dl[0].1 dl[0].1 dl[0].2 dl[0].2; exact fn_enters (hp _ _ _ hr).2.2.1) hcmp hHolds (hS.inr b c d hφ) (by simp [hdlen]; exact hlen) hT
    rw [show dl.toArray.size = xs.length by simp [hdlen]] at hrun
    refine hrun.mono ?_
    rintro e' w' ⟨rfl, n, os, rfl⟩
    generalize hd' : (dl.toArray.toList.mergeSort fun x y => !ltOf cf y x) = dl'
    have hys : dl'.map (·.1) = xs.mergeSort fun x y => !decide ((f y x).getD 0 < 0) := by
      rw [← hd', ← hdl]
      exact List.map_mergeSort fun a _ b _ => rfl
    have hl' : dl'.length = xs.length := by have := congrArg List.length hys; simpa using this
    have hcl := hS.inr b c d hφ
    have key := row_turned (C' := spliceAt C o (e.all (xs.mergeSort fun x y => !decide ((f y x).getD 0 < 0)))) (CC' := putCells id (d + o) (flatK enc e.sz dl'.toArray) CC) (w' := sortWorldK enc e.sz w c (d + o) n dl'.toArray os) hS hE k2 k3 hφ m1 rfl rfl rfl (Nat.le_add_right _ _)
      (size_sortWorldK_c enc e.sz w c (d + o) n dl'.toArray os) (fun c' hc' hne => ?_) ?_ (by simp [putCells]) (fun j u hu => ?_)
    · obtain ⟨r1, r2, r3⟩ := key
      refine ⟨.tuple #[], _, φ, .tuple #[], ⟨rfl, by rw [AH.size_put]; exact Nat.le_refl _, ?_⟩, rfl, r1, r2, .undef _, r3⟩
      have hyl : (xs.mergeSort fun x y => !decide ((f y x).getD 0 < 0)).length = xs.length := by simp
      have hcap : xs.length * e.sz ≤ cap * e.sz := Nat.mul_le_mul_right _ k1
      have hal : (e.all (xs.mergeSort fun x y => !decide ((f y x).getD 0 < 0))).length = xs.length * e.sz := by rw [all_len, hyl]
      refine hH.set hi rfl (by rw [AH.size_put]; exact Nat.le_refl _) (fun b' hb' hne => by rw [AH.get_put (AH.get_lt k3), if_neg (fun h => hne (by rw [h]; rfl))]) ⟨by rw [all_len], .inr ⟨b, o, cap, _, by rw [hyl], by rw [hyl]; exact k1, k2, by rw [AH.get_put (AH.get_lt k3), if_pos rfl], ?_, ?_⟩⟩ (fun b' hb' => .inl hb')
      · simp only [spliceAt, List.length_append, List.length_take, List.length_drop, hal]; omega
      · rw [hyl]; unfold spliceAt
        have hto : (C.take o).length = o := by rw [List.length_take]; omega
        rw [List.append_assoc, List.drop_left' hto, ← hal, List.take_left]
    · show ((putRow id (Sort.ahead w n) c (d + o) (flatK enc e.sz dl'.toArray)).heap ++ os)[c']? = w.heap[c']?
      rw [Array.getElem?_append_left (by simp [putRow, mapBlock, Sort.ahead]; exact hc')]
      simp [putRow, mapBlock, Sort.ahead, Array.getElem?_modify, Ne.symm hne]
    · show ((putRow id (Sort.ahead w n) c (d + o) (flatK enc e.sz dl'.toArray)).heap ++ os)[c]? = _
      rw [Array.getElem?_append_left (by simp [putRow, mapBlock, Sort.ahead]; exact hcl)]
      simp [putRow, mapBlock, Sort.ahead, Array.getElem?_modify, m1, onCells]
    · have hal : (e.all (xs.mergeSort fun x y => !decide ((f y x).getD 0 < 0))).length = xs.length * e.sz := by rw [all_len]; simp
      have hfs : (flatK enc e.sz dl'.toArray).size = xs.length * e.sz := by simp [hl']
      have hcap : xs.length * e.sz ≤ cap * e.sz := Nat.mul_le_mul_right _ k1
      by_cases hin : o ≤ j ∧ j < o + xs.length * e.sz
      · obtain ⟨t, rfl⟩ : ∃ t, j = o + t := ⟨j - o, by omega⟩
        have ht : t < xs.length * e.sz := by omega
        have hu' : (e.all (xs.mergeSort fun x y => !decide ((f y x).getD 0 < 0)))[t]? = some u := by
          unfold spliceAt at hu
          rw [List.append_assoc, List.getElem?_append_right (by simp; omega), List.getElem?_append_left (by simp; omega)] at hu
          rw [show o + t - (C.take o).length = t by simp; omega] at hu
          exact hu
        have hf := flat_all e (fun x : { x // Pr x } => x.1) dl' t (by rw [hl']; exact ht)
        rw [hys, hu'] at hf
        have hCC : d + (o + t) < CC.size := by
          have : o + t < C.length := by omega
          obtain ⟨v', n1, _⟩ := m4 (o + t) _ (List.getElem?_eq_getElem this)
          exact (Array.getElem?_eq_some_iff.1 n1).1
        refine ⟨u, ?_, .prim ?_⟩
        · simp only [putCells, Array.getElem?_mapIdx, Array.getElem?_eq_getElem hCC, Option.map_some]
          rw [if_pos (by rw [hfs]; omega), show d + (o + t) - (d + o) = t by omega]
          simp only [id]
          exact congrArg some hf
        · obtain ⟨x, _, hx⟩ := List.mem_flatMap.1 (List.mem_of_getElem? hu')
          exact hprim x u hx
      · have hu' : C[j]? = some u := by
          unfold spliceAt at hu
          by_cases hlt : j < o
          · rw [List.append_assoc, List.getElem?_append_left (by simp; omega), List.getElem?_take, if_pos hlt] at hu; exact hu
          · rw [List.getElem?_append_right (by simp [hal]; omega), List.getElem?_drop] at hu
            rw [← hu]; congr 1; simp only [List.length_append, List.length_take, hal]; omega
        obtain ⟨v', n1, n2⟩ := m4 j u hu'
        refine ⟨v', ?_, n2⟩
        simp only [putCells, Array.getElem?_mapIdx, n1, Option.map_some]
        rw [if_neg (by rw [hfs]; omega)]
end
section
variable {α : Type} {P : Program} {ρ : Go.Shelf.Ren} {nt n0 : Nat} {ops : Array Oper} {ol : List Oper} {o : Oper} {t t1 : Tmps} {σ : AH} {Q : Tmps → AH → Prop} {l : List It} {i g : Nat} {e : En α} {v : Value} {xs ys : List α} {f : α → α → Option Int}
theorem MO.sort {F : Operand} {ag : Array Operand} {ts : Array TypeId} (hn : n0 ≤ σ.size) (hw : wantA ops o t = some true) (ho : o.op = .call { callee := .value F, args := ag, argTypes := ts })
    (hc : callee (opv t F) (ag.toList.map (opv t)) = some (ρ.f 6, [v, .func (.func g) #[] #[]])) (L : SlLaysF0.n6 P ρ) (aE : ∀ w, (isAgg (ρ.t 24)).run P w = .ok true w) (zE : ∀ w, (Go.sizeOf (ρ.t 24)).run P w = .ok e.sz w) (h1 : e.one = false) (hprim : ∀ x, (e.cells x).all prim = true)
    (hp : ∀ x y r, f x y = some r → Pure P g [e.val x, e.val y] (.int .i64 r)) (hs : sortF f xs = some ys) (hH : Hp σ l) (hi : l[i]? = some (It.sl e v xs)) (hd : putA nt t o.dst (.tuple #[]) = some t1)
    (k : ∀ σ', Hp σ' (l.set i (It.sl e v ys)) → MO P nt n0 ops ol t1 σ' Q) : MO P nt n0 ops (o :: ol) t σ Q :=
  MO.call hn hw ho hc ((sort_fn L aE zE h1 (fun x => List.all_eq_true.1 (hprim x)) hp hs hH hi).mono fun u σ' ⟨h2, h3, h4⟩ => ⟨Nat.le_trans hn h3, t1, by rw [h2]; exact hd, k σ' h4⟩)
end
/-- A function without arguments that was run once. -/
theorem pure_run {P : Program} {f : FuncId} {n : Nat} {v : Value} (hm : P.follows .mixedOrders = true) (hn : ∀ (f : FuncId) (fn : Func), P.funcs[f]? = some fn → (fn.name == "runtime.NumGoroutine") = false)
    (hrun : (evCall P noSum n f [] ⟨0, []⟩).map (·.1) = some v) (hv : prim v = true) : Pure P f [] v := by
  obtain ⟨⟨v1, σ1⟩, h1, rfl⟩ := Option.map_eq_some_iff.1 hrun
  have hok := evCall_ok (S := noSum) (fun f args σ v σ' h => by cases h) (fun f args σ v σ' h => by cases h) hm hn n f [] ⟨0, []⟩ v1 σ1 h1
  refine ⟨.nil, .prim hv, hok.1, fun φ w args' hS hl hE => (hok.2 φ w args' hS hl fun b hb _ => hE b hb).mono ?_⟩
  rintro e w' ⟨φ', v', rfl, h2, h3, h4⟩
  exact ⟨v1, σ1, φ', v', rfl, rfl, h2, h4.ends hE, h3, h4.fr hE (Nat.le_refl _)⟩
end Go.Ab
