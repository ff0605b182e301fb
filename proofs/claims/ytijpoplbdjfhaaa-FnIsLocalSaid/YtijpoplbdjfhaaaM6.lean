/-
  Lemmas that the proofs of the given statements of this seat use. Conditions: none.
-/
import Derived.Test.YtijpoplbdjfhaaaM5
import Derived.Test.YtijpoplbdjfhaaaM4
/-
  Lists without some numbers; proper filters; the greatest of them; simple and local algebras.
-/
namespace Go.AL
open Go.Proofs
set_option linter.unusedSimpArgs false
set_option linter.unusedVariables false
variable {w0 : World} {H : Hp}

/-! ### clearing -/

def ClrD (zs : List AV) (x : AV) (H : Hp) (K : AV → Hp → Prop) (_ : Dep K) : Prop :=
  match x with
  | .nils => K (.tup []) H
  | .emp => K (.tup []) H
  | .sl r o n => QB (H r) fun row => row.own = true ∧ o + n * zs.length ≤ row.cells.length ∧ K (.tup []) (H.set r ⟨row.ty, true, splice row.cells o (zerosA zs n)⟩)
  | _ => False
theorem W_clr {P : Program} {d : Option Nat} {zs : List AV} {x : Opd} {k : CC} {Q : Ex → Env → Hp → Prop} {e : Env} :
    W P w0 (.op d none (.e (.clr zs x)) k) Q e H = ClrD zs (ev e x) H (fun v H' => W P w0 k Q (updo e d v) H') (dep _) := by
  simp only [W, Wg, Wop, Weff, ClrD]
  cases ev e x <;> rfl
theorem clr_li {r o n : Nat} {l : List Int} (h : H r = some (LI l)) (hn : l.length = o + n) {K : AV → Hp → Prop} {d : Dep K} (hK : K (.tup []) (H.set r (LI (l.take o ++ List.replicate n 0)))) :
    ClrD [.int .i64 0] (.sl r o n) H K d := by
  simp only [ClrD, h, QB_some, LI, List.length_map, List.length_cons, List.length_nil]
  refine ⟨True.intro, by omega, ?_⟩
  have e : splice (l.map (AV.int .i64)) o (zerosA [AV.int .i64 0] n) = (l.take o ++ List.replicate n 0).map (AV.int .i64) := by
    have hz : zerosA [AV.int .i64 0] n = (List.replicate n 0).map (AV.int .i64) := by
      unfold zerosA
      induction n with
      | zero => rfl
      | succ n ih => simp [List.replicate_succ]
    rw [hz, splice, List.map_append, List.map_take, List.length_map, List.length_replicate]
    rw [List.drop_of_length_le (by simp; omega), List.append_nil]
  rw [e]; exact hK

/-! ### lists without some numbers -/

noncomputable def flt (p : Int → Prop) (l : List Int) : List Int := open Classical in l.filter fun x => decide (p x)
theorem flt_mem {p : Int → Prop} {l : List Int} {x : Int} : x ∈ flt p l ↔ x ∈ l ∧ p x := by simp [flt]
theorem flt_len (p : Int → Prop) (l : List Int) : (flt p l).length ≤ l.length := List.length_filter_le _ _
theorem flt_sorted {p : Int → Prop} {l : List Int} (h : l.Pairwise (· < ·)) : (flt p l).Pairwise (· < ·) := List.Pairwise.filter _ h
theorem flt_flt {p q : Int → Prop} {l : List Int} : flt p (flt q l) = flt (fun x => q x ∧ p x) l := by
  unfold flt
  rw [List.filter_filter]
  congr 1
  funext x
  by_cases h1 : p x <;> by_cases h2 : q x <;> simp [h1, h2]
theorem flt_congr {p q : Int → Prop} {l : List Int} (h : ∀ x ∈ l, (p x ↔ q x)) : flt p l = flt q l := by
  unfold flt
  refine List.filter_congr fun x hx => ?_
  have := h x hx
  by_cases hp : p x
  · simp [hp, this.1 hp]
  · have hq : ¬ q x := fun hq => hp (this.2 hq)
    simp [hp, hq]
theorem flt_all {p : Int → Prop} {l : List Int} (h : ∀ x ∈ l, p x) : flt p l = l := by
  unfold flt
  refine List.filter_eq_self.2 fun x hx => ?_
  simp [h x hx]
theorem flt_app {p : Int → Prop} (a b : List Int) : flt p (a ++ b) = flt p a ++ flt p b := List.filter_append ..
theorem flt_one {p : Int → Prop} {x : Int} (h : p x) : flt p [x] = [x] := by simp [flt, h]
theorem flt_one' {p : Int → Prop} {x : Int} (h : ¬ p x) : flt p [x] = [] := by simp [flt, h]
theorem take_next {l : List Int} {z : Int} (h0 : 0 ≤ z) (h1 : z < l.length) : l.take (z + 1).toNat = l.take z.toNat ++ [l.getD z.toNat 0] := by
  have hz : z.toNat < l.length := by omega
  rw [show (z + 1).toNat = z.toNat + 1 by omega, List.take_succ_eq_append_getElem hz, List.getD_eq_getElem?_getD, List.getElem?_eq_getElem hz, Option.getD_some]
theorem flt_yes {p : Int → Prop} {l : List Int} {z : Int} (h0 : 0 ≤ z) (h1 : z < l.length) (h : p (l.getD z.toNat 0)) : flt p (l.take (z + 1).toNat) = flt p (l.take z.toNat) ++ [l.getD z.toNat 0] := by
  rw [take_next h0 h1, flt_app, flt_one h]
theorem flt_no {p : Int → Prop} {l : List Int} {z : Int} (h0 : 0 ≤ z) (h1 : z < l.length) (h : ¬ p (l.getD z.toNat 0)) : flt p (l.take (z + 1).toNat) = flt p (l.take z.toNat) := by
  rw [take_next h0 h1, flt_app, flt_one' h, List.append_nil]
theorem flt_pre {p : Int → Prop} {l : List Int} : ∀ {z : Nat}, z ≤ l.length → (∀ k : Int, 0 ≤ k → k < z → p (l.getD k.toNat 0)) → flt p (l.take z) = l.take z
  | z, hz, h => flt_all fun x hx => by
    obtain ⟨i, hi, rfl⟩ := List.mem_iff_getElem.1 hx
    have hi' : i < z := by rw [List.length_take] at hi; omega
    have := h i (by omega) (by omega)
    rw [Int.toNat_natCast, List.getD_eq_getElem?_getD, List.getElem?_eq_getElem (by omega), Option.getD_some] at this
    rw [List.getElem_take]; exact this

theorem pre_ints {q : Nat} {l l' : List Int} (h : H q = some (LI (l ++ l'))) : Ints H (.sl q 0 l.length) l := by
  refine ⟨rfl, ?_⟩
  simp only [Hp.row, h, LI, Nat.mul_one, Nat.zero_add, List.length_map, List.length_append, List.drop_zero]
  rw [if_pos (by omega), List.map_append, List.take_left' (by simp)]
theorem emp_ints : Ints H .emp [] := ⟨rfl, rfl⟩

/-- Deleting what fulfils a condition, from a list that nobody else holds. -/
theorem DeleteFunc_c {q g : Nat} {l : List Int} {p : Int → Prop} (h : H q = some (LI l)) (hn : l.length < 4611686018427387904) (hp : ∀ H, Pred w0 g [] H p) {Q : AV → Hp → Prop}
    (hq : ∀ v H', Ints H' v (flt (fun x => ¬ p x) l) → (H' q ≠ none) → (∀ r, r ≠ q → H r ≠ none → H' r = H r) → Q v H') :
    ACalls Try.prog w0 132 [.sl q 0 l.length, .fn g []] H Q := by
  refine in132 ?_
  simp only [c132, ↓WP, WQ, if_true, if_false, eq_self, implies_true, ne_eq, List.nil_append, List.cons_append, ↓reduceIte, Nat.reduceEqDiff, Nat.reduceBEq, reduceCtorEq, Nat.reduceAdd, resA, ret1, qv, lv, ev, boolA, binA, intA, shiftA, cmpA, beqA, lres]
  have hl := li_ints h
  refine IndexFunc_c hl hn (hp H) ?_
  rcases firstI_spec (n := l.length) (p := fun i => p (l.getD i.toNat 0)) with ⟨h0, h1, h2, h3⟩ | ⟨h0, h1⟩
  rotate_left
  · rw [h0]
    simp only [↓WP, WQ, if_true, if_false, eq_self, implies_true, ne_eq, List.nil_append, List.cons_append, ↓reduceIte, Nat.reduceEqDiff, Nat.reduceBEq, reduceCtorEq, Nat.reduceAdd, resA, ret1, qv, lv, ev, boolA, binA, intA, shiftA, cmpA, beqA, lres]
    refine hq _ _ ?_ (some_ne h) fun _ _ _ => rfl
    rw [flt_all]; exact hl
    intro x hx
    obtain ⟨i, i0, i1, rfl⟩ := mem_getD hx
    exact h1 i i0 i1
  generalize firstI l.length (fun i => p (l.getD i.toNat 0)) = f at *
  have hf1 : ¬ f = -1 := by omega
  have hwf : IntKind.i64.wrap (f + 1) = f + 1 := wrap_id (by omega) (by omega)
  simp only [↓WP, WQ, if_true, if_false, eq_self, implies_true, ne_eq, List.nil_append, List.cons_append, ↓reduceIte, Nat.reduceEqDiff, Nat.reduceBEq, reduceCtorEq, Nat.reduceAdd, resA, ret1, qv, lv, ev, boolA, binA, intA, shiftA, cmpA, beqA, lres, decide_eq_false hf1, hwf]
  refine W_for (f + 1) l.length (fun z e H' => ∃ (i : Nat) (M : List Int), Sl e [(0, .sl q 0 l.length), (1, .fn g []), (5, .int .i64 i), (6, .int .i64 z)] ∧ (i : Int) < z ∧ M.length = l.length ∧ M.take i = flt (fun x => ¬ p x) (l.take z.toNat) ∧ i ≤ l.length ∧ (∀ k : Int, z ≤ k → k < l.length → M.getD k.toNat 0 = l.getD k.toNat 0) ∧ H' q = some (LI M) ∧ (∀ r, r ≠ q → H r ≠ none → H' r = H r)) (by omega)
    ⟨f.toNat, l, by simp only [↓WP, WQ, if_true, if_false, eq_self, implies_true, ne_eq, List.nil_append, List.cons_append, ↓reduceIte, Nat.reduceEqDiff, Nat.reduceBEq, reduceCtorEq, Nat.reduceAdd, resA, ret1, qv, lv, ev, boolA, binA, intA, shiftA, cmpA, beqA, lres, Int.toNat_of_nonneg h0], by omega, rfl, ?_, by omega, fun _ _ _ => rfl, h, fun _ _ _ => rfl⟩ ?_
  · rw [flt_no h0 h1 (fun hh => hh h2), flt_pre (by omega) fun k k0 k1 => h3 k k0 (by omega)]
  rintro z e H' hz0 hz1 ⟨i, M, hs, hiz, hM, hT, hi, hrest, hH, hfr⟩
  simp only [Sl_cons, Sl_nil, and_true] at hs
  have hw : IntKind.i64.wrap (z + 1) = z + 1 := wrap_id (by omega) (by omega)
  have hwi : IntKind.i64.wrap ((i : Int) + 1) = i + 1 := wrap_id (by omega) (by omega)
  have hI := li_ints hH
  rw [hM] at hI
  refine (Classical.em (z < l.length)).elim (fun hz => ?_) (fun hz => ?_)
  · have hat := hI.at (show z.toNat < M.length by omega)
    rw [hrest z (by omega) hz] at hat
    simp only [↓WP, WQ, if_true, if_false, eq_self, implies_true, ne_eq, List.nil_append, List.cons_append, ↓reduceIte, Nat.reduceEqDiff, Nat.reduceBEq, reduceCtorEq, Nat.reduceAdd, resA, ret1, qv, lv, ev, boolA, binA, intA, shiftA, cmpA, beqA, lres, hs, hz, hI.idx (show 0 ≤ z by omega) (by omega : z < M.length), hat]
    refine hp H' _ _ (fun ha => ?_) (fun ha => ?_) <;> simp only [↓WP, WQ, if_true, if_false, eq_self, implies_true, ne_eq, List.nil_append, List.cons_append, ↓reduceIte, Nat.reduceEqDiff, Nat.reduceBEq, reduceCtorEq, Nat.reduceAdd, resA, ret1, qv, lv, ev, boolA, binA, intA, shiftA, cmpA, beqA, lres, hs, hw, hz]
    · refine ⟨i, M, by simp, by omega, hM, ?_, hi, fun k k0 k1 => hrest k (by omega) k1, hH, hfr⟩
      rw [flt_no (by omega) hz (fun hh => hh ha)]; exact hT
    · have hi2 : i < M.length := by omega
      have hst := stA_li (z := l.getD z.toNat 0) hH hi2
      have hix := hI.idx (k := .i64) (show (0 : Int) ≤ (i : Int) by omega) (by omega : (i : Int) < M.length)
      rw [Int.toNat_natCast] at hix
      have hel : elt 1 (.sl q 0 l.length) i = .ptr q i := by simp [elt]
      rw [hel] at hix
      simp only [↓WP, WQ, if_true, if_false, eq_self, implies_true, ne_eq, List.nil_append, List.cons_append, ↓reduceIte, Nat.reduceEqDiff, Nat.reduceBEq, reduceCtorEq, Nat.reduceAdd, resA, ret1, qv, lv, ev, boolA, binA, intA, shiftA, cmpA, beqA, lres, hs, hix, hst, hwi, hw, hz]
      refine ⟨i + 1, M.set i (l.getD z.toNat 0), by simp, by omega, by simpa using hM, ?_, by omega, fun k k0 k1 => ?_, Hp.set_same _ _ _, fun r hr h0 => by simp only [Hp.set, hr, if_false]; exact hfr r hr h0⟩
      · rw [flt_yes (by omega) hz ha, ← hT, List.take_succ_eq_append_getElem (by simpa using hi2), List.take_set_of_le (Nat.le_refl _), List.getElem_set_self]
      · rw [← hrest k (by omega) k1]; simp only [List.getD_eq_getElem?_getD]; rw [List.getElem?_set_ne (by omega)]
  · have hze : z = l.length := by omega
    subst hze
    rw [Int.toNat_natCast, List.take_of_length_le (Nat.le_refl _)] at hT
    have e1 : slA 1 (.sl q 0 l.length) (some (.int .i64 i)) none = some (.sl q i (l.length - i)) := by
      have a1 : (0 : Int) ≤ i ∧ (i : Int) ≤ l.length ∧ (l.length : Int) ≤ l.length := ⟨by omega, by omega, by omega⟩
      have a2 : ¬ (l.length : Int) = i := by omega
      simp only [slA, intOfA, lenA_sl, a1, and_self, if_true, a2, if_false, Int.toNat_natCast, Nat.mul_one, Nat.zero_add]
      congr 2; omega
    have hFL : (flt (fun x => ¬ p x) l).length = i := by rw [← hT, List.length_take]; omega
    have e2 : ∃ v, slA 1 (.sl q 0 l.length) none (some (.int .i64 i)) = some v ∧ ∀ {G : Hp} {l' : List Int}, G q = some (LI (M.take i ++ l')) → Ints G v (M.take i) := by
      have a1 : (0 : Int) ≤ 0 ∧ (0 : Int) ≤ (i : Int) ∧ (i : Int) ≤ l.length := ⟨by omega, by omega, by omega⟩
      by_cases h0 : i = 0
      · subst h0
        refine ⟨.emp, ?_, fun _ => by simpa using emp_ints⟩
        simp [slA, intOfA, lenA_sl]
      · refine ⟨.sl q 0 i, ?_, fun hG => ?_⟩
        · have a2 : ¬ (i : Int) = 0 := by omega
          simp only [slA, intOfA, lenA_sl, a1, and_self, if_true, a2, if_false, Int.sub_zero, Int.toNat_zero, Nat.zero_mul, Nat.zero_add, Int.toNat_natCast]
        · have := pre_ints hG
          rwa [show (M.take i).length = i by rw [List.length_take]; omega] at this
    obtain ⟨v, e2, e3⟩ := e2
    simp only [↓WP, WQ, if_true, if_false, eq_self, implies_true, ne_eq, List.nil_append, List.cons_append, ↓reduceIte, Nat.reduceEqDiff, Nat.reduceBEq, reduceCtorEq, Nat.reduceAdd, resA, ret1, qv, lv, ev, boolA, binA, intA, shiftA, cmpA, beqA, lres, hs, Int.lt_irrefl, Option.map_none, e1, W_clr]
    refine clr_li hH (by omega) ?_
    simp only [↓WP, WQ, if_true, if_false, eq_self, implies_true, ne_eq, List.nil_append, List.cons_append, ↓reduceIte, Nat.reduceEqDiff, Nat.reduceBEq, reduceCtorEq, Nat.reduceAdd, resA, ret1, qv, lv, ev, boolA, binA, intA, shiftA, cmpA, beqA, lres, hs, Option.map_none, e2]
    refine hq _ _ ?_ (by rw [Hp.set_same]; simp) (fun r hr h0 => by simp only [Hp.set, hr, if_false]; exact hfr r hr h0)
    rw [← hT]
    exact e3 (l' := List.replicate (l.length - i) 0) (Hp.set_same _ _ _)

/-! ### proper filters and the greatest of them -/

noncomputable def prL (A : Alg) : List Int := flt (fun f => ¬ tb f 0 = true) (filL A)
/-- f is below no other number of the list. -/
def MaxIn (l : List Int) (f : Int) : Prop := ∀ g ∈ l, ¬ (g ≠ f ∧ an f g = 0)
noncomputable def grL (A : Alg) : List Int := flt (MaxIn (prL A)) (prL A)

theorem proper1_c (H : Hp) : Pred w0 133 [] H fun f => tb f 0 = true := by
  intro x Q ht hf
  refine in133 ?_
  simp only [c133, ↓WP, WQ, if_true, if_false, eq_self, implies_true, ne_eq, List.nil_append, List.cons_append, ↓reduceIte, Nat.reduceEqDiff, Nat.reduceBEq, reduceCtorEq, Nat.reduceAdd, resA, ret1, qv, lv, ev, boolA, binA, intA, shiftA, cmpA, beqA, lres]
  refine has_c (by omega) (fun h => ?_) (fun h => ?_) <;> simp only [↓WP, WQ, if_true, if_false, eq_self, implies_true, ne_eq, List.nil_append, List.cons_append, ↓reduceIte, Nat.reduceEqDiff, Nat.reduceBEq, reduceCtorEq, Nat.reduceAdd, resA, ret1, qv, lv, ev, boolA, binA, intA, shiftA, cmpA, beqA, lres]
  · exact ht h
  · exact hf fun h' => by simp only [h, Bool.false_eq_true] at h'

theorem proper_c {uv tv : AV} {A : Alg} (h : Ints H uv A.up) (hm : Mat H tv A.times) (hA : IsAlg A) {Q : AV → Hp → Prop} (hq : ∀ v H', Ext H H' → Ints H' v (prL A) → Q v H') :
    ACalls Try.prog w0 127 [.agg [uv, tv]] H Q := by
  refine in127 ?_
  simp only [c127, ↓WP, WQ, if_true, if_false, eq_self, implies_true, ne_eq, List.nil_append, List.cons_append, ↓reduceIte, Nat.reduceEqDiff, Nat.reduceBEq, reduceCtorEq, Nat.reduceAdd, resA, ret1, qv, lv, ev, boolA, binA, intA, shiftA, cmpA, beqA, lres, cells_alg h.len hm.len]
  refine NewRowd_in fun b hb => ?_
  obtain ⟨hE, hu, hu1, hu2⟩ := box_facts (ty := 26) (uv := uv) (tv := tv) hb
  generalize H.set b ⟨26, true, [uv, tv]⟩ = G at *
  have h := h.ext hE
  have hm := hm.ext hE
  simp only [↓WP, WQ, if_true, if_false, eq_self, implies_true, ne_eq, List.nil_append, List.cons_append, ↓reduceIte, Nat.reduceEqDiff, Nat.reduceBEq, reduceCtorEq, Nat.reduceAdd, resA, ret1, qv, lv, ev, boolA, binA, intA, shiftA, cmpA, beqA, lres, hu]
  refine filters_c h hm hA fun q G1 o => ?_
  have hll := filL_len hA
  have hq0 := o.new _ (List.mem_singleton.2 rfl)
  simp only [↓WP, WQ, if_true, if_false, eq_self, implies_true, ne_eq, List.nil_append, List.cons_append, ↓reduceIte, Nat.reduceEqDiff, Nat.reduceBEq, reduceCtorEq, Nat.reduceAdd, resA, ret1, qv, lv, ev, boolA, binA, intA, shiftA, cmpA, beqA, lres]
  refine DeleteFunc_c (o.get (i := 0) rfl) (by omega) proper1_c fun v G2 hv hn hfr => ?_
  simp only [↓WP, WQ, if_true, if_false, eq_self, implies_true, ne_eq, List.nil_append, List.cons_append, ↓reduceIte, Nat.reduceEqDiff, Nat.reduceBEq, reduceCtorEq, Nat.reduceAdd, resA, ret1, qv, lv, ev, boolA, binA, intA, shiftA, cmpA, beqA, lres]
  exact hq _ _ (hE.trans (o.ext'.step hq0 hfr)) hv

theorem greatest1_c {q f : Int → Int} {r : Nat} {H : Hp} {x : Int} (hx : H.at (.ptr r 0) = some (.int .i64 x)) : Pred w0 128 [.ptr r 0] H fun g => g ≠ x ∧ an x g = 0 := by
  intro y Q ht hf
  refine in128 ?_
  simp only [c128, ↓WP, WQ, if_true, if_false, eq_self, implies_true, ne_eq, List.nil_append, List.cons_append, ↓reduceIte, Nat.reduceEqDiff, Nat.reduceBEq, reduceCtorEq, Nat.reduceAdd, resA, ret1, qv, lv, ev, boolA, binA, intA, shiftA, cmpA, beqA, lres, hx]
  have e2 : bitA (fun x x_1 y => x_1 &&& ~~~y) .i64 x y = an x y := rfl
  refine (Classical.em (y = x)).elim (fun h1 => ?_) (fun h1 => ?_)
  · simp only [↓WP, WQ, if_true, if_false, eq_self, implies_true, ne_eq, List.nil_append, List.cons_append, ↓reduceIte, Nat.reduceEqDiff, Nat.reduceBEq, reduceCtorEq, Nat.reduceAdd, resA, ret1, qv, lv, ev, boolA, binA, intA, shiftA, cmpA, beqA, lres, decide_eq_true h1]
    exact hf fun h => h.1 h1
  · refine (Classical.em (an x y = 0)).elim (fun h2 => ?_) (fun h2 => ?_)
    · simp only [↓WP, WQ, if_true, if_false, eq_self, implies_true, ne_eq, List.nil_append, List.cons_append, ↓reduceIte, Nat.reduceEqDiff, Nat.reduceBEq, reduceCtorEq, Nat.reduceAdd, resA, ret1, qv, lv, ev, boolA, binA, intA, shiftA, cmpA, beqA, lres, decide_eq_false h1, hx, e2, decide_eq_true h2]
      exact ht ⟨h1, h2⟩
    · simp only [↓WP, WQ, if_true, if_false, eq_self, implies_true, ne_eq, List.nil_append, List.cons_append, ↓reduceIte, Nat.reduceEqDiff, Nat.reduceBEq, reduceCtorEq, Nat.reduceAdd, resA, ret1, qv, lv, ev, boolA, binA, intA, shiftA, cmpA, beqA, lres, decide_eq_false h1, hx, e2, decide_eq_false h2]
      exact hf fun h => h2 h.2

theorem greatest_c {uv tv : AV} {A : Alg} (h : Ints H uv A.up) (hm : Mat H tv A.times) (hA : IsAlg A) {Q : AV → Hp → Prop} (hq : ∀ v H', Ext H H' → Ints H' v (grL A) → Q v H') :
    ACalls Try.prog w0 117 [.agg [uv, tv]] H Q := by
  refine in117 ?_
  simp only [c117, ↓WP, WQ, if_true, if_false, eq_self, implies_true, ne_eq, List.nil_append, List.cons_append, ↓reduceIte, Nat.reduceEqDiff, Nat.reduceBEq, reduceCtorEq, Nat.reduceAdd, resA, ret1, qv, lv, ev, boolA, binA, intA, shiftA, cmpA, beqA, lres, cells_alg h.len hm.len]
  refine NewRowd_in fun b hb => ?_
  obtain ⟨hE, hu, hu1, hu2⟩ := box_facts (ty := 26) (uv := uv) (tv := tv) hb
  generalize H.set b ⟨26, true, [uv, tv]⟩ = G at *
  have h := h.ext hE
  have hm := hm.ext hE
  simp only [↓WP, WQ, if_true, if_false, eq_self, implies_true, ne_eq, List.nil_append, List.cons_append, ↓reduceIte, Nat.reduceEqDiff, Nat.reduceBEq, reduceCtorEq, Nat.reduceAdd, resA, ret1, qv, lv, ev, boolA, binA, intA, shiftA, cmpA, beqA, lres, hu]
  refine proper_c h hm hA fun pv G1 hE1 hp => ?_
  have hll := filL_len hA
  have hpl : (prL A).length ≤ 64 := Nat.le_trans (flt_len _ _) hll
  have hE := hE.trans hE1
  simp only [↓WP, WQ, if_true, if_false, eq_self, implies_true, ne_eq, List.nil_append, List.cons_append, ↓reduceIte, Nat.reduceEqDiff, Nat.reduceBEq, reduceCtorEq, Nat.reduceAdd, resA, ret1, qv, lv, ev, boolA, binA, intA, shiftA, cmpA, beqA, lres, bsl0]
  refine NewRowd_in fun r0 hr0 => ?_
  have o := (Own.nil0 (H := G1)).push (x := LI []) hr0
  simp only [↓WP, WQ, if_true, if_false, eq_self, implies_true, ne_eq, List.nil_append, List.cons_append, ↓reduceIte, Nat.reduceEqDiff, Nat.reduceBEq, reduceCtorEq, Nat.reduceAdd, resA, ret1, qv, lv, ev, boolA, binA, intA, shiftA, cmpA, beqA, lres, hp.len]
  refine W_for 0 (prL A).length (fun z e H' => ∃ r, Sl e [(3, pv), (4, .sl r 0 (flt (MaxIn (prL A)) ((prL A).take z.toNat)).length), (10, pv), (11, .int .i64 (prL A).length), (12, .int .i64 z)] ∧ Own no G1 H' [(r, LI (flt (MaxIn (prL A)) ((prL A).take z.toNat)))]) (by omega) ⟨r0, by simp only [↓WP, WQ, if_true, if_false, eq_self, implies_true, ne_eq, List.nil_append, List.cons_append, ↓reduceIte, Nat.reduceEqDiff, Nat.reduceBEq, reduceCtorEq, Nat.reduceAdd, resA, ret1, qv, lv, ev, boolA, binA, intA, shiftA, cmpA, beqA, lres]; rfl, o⟩ ?_
  rintro z e H' hz0 hz1 ⟨r, hs, o⟩
  simp only [Sl_cons, Sl_nil, and_true] at hs
  have hw : IntKind.i64.wrap (z + 1) = z + 1 := wrap_id (by omega) (by omega)
  have hpo := hp.ext o.ext'
  refine (Classical.em (z < (prL A).length)).elim (fun hz => ?_) (fun hz => ?_)
  · have hzn : z.toNat < (prL A).length := by omega
    have hfl := flt_len (MaxIn (prL A)) ((prL A).take z.toNat)
    rw [List.length_take] at hfl
    simp only [↓WP, WQ, if_true, if_false, eq_self, implies_true, ne_eq, List.nil_append, List.cons_append, ↓reduceIte, Nat.reduceEqDiff, Nat.reduceBEq, reduceCtorEq, Nat.reduceAdd, resA, ret1, qv, lv, ev, boolA, binA, intA, shiftA, cmpA, beqA, lres, hs, hz, hpo.idx hz0 hz, hpo.at hzn]
    refine NewRowd_in fun c hc => ?_
    have o := o.push (x := ⟨3, true, [.int .i64 0]⟩) hc
    have hst : stA (H'.set c ⟨3, true, [.int .i64 0]⟩) 1 (.ptr c 0) (.int .i64 ((prL A).getD z.toNat 0)) = some ((H'.set c ⟨3, true, [.int .i64 0]⟩).set c ⟨3, true, [.int .i64 ((prL A).getD z.toNat 0)]⟩) := stA_li (l := [0]) (Hp.set_same _ _ _) (by simp)
    have o := o.upd (i := 0) (y := ⟨3, true, [.int .i64 ((prL A).getD z.toNat 0)]⟩) rfl
    simp only [List.set_cons_zero] at o
    have gc := o.get (i := 0) rfl
    have hat : ((H'.set c ⟨3, true, [.int .i64 0]⟩).set c ⟨3, true, [.int .i64 ((prL A).getD z.toNat 0)]⟩).at (.ptr c 0) = some (.int .i64 ((prL A).getD z.toNat 0)) := by simp only [Hp.at, gc]; rfl
    simp only [↓WP, WQ, if_true, if_false, eq_self, implies_true, ne_eq, List.nil_append, List.cons_append, ↓reduceIte, Nat.reduceEqDiff, Nat.reduceBEq, reduceCtorEq, Nat.reduceAdd, resA, ret1, qv, lv, ev, boolA, binA, intA, shiftA, cmpA, beqA, lres, hs, hz, hst]
    generalize (H'.set c ⟨3, true, [.int .i64 0]⟩).set c ⟨3, true, [.int .i64 ((prL A).getD z.toNat 0)]⟩ = H2 at *
    refine ContainsFunc_c (hp.ext o.ext') (by omega) (greatest1_c (q := id) (f := id) hat) (fun i i0 i1 hi => ?_) (fun hi => ?_) <;> simp only [↓WP, WQ, if_true, if_false, eq_self, implies_true, ne_eq, List.nil_append, List.cons_append, ↓reduceIte, Nat.reduceEqDiff, Nat.reduceBEq, reduceCtorEq, Nat.reduceAdd, resA, ret1, qv, lv, ev, boolA, binA, intA, shiftA, cmpA, beqA, lres, hs, hw, hz]
    · rw [flt_no hz0 hz (fun hM => hM _ (getD_mem i0 i1) hi)]
      exact ⟨r, by simp, o.tail⟩
    · have hM : MaxIn (prL A) ((prL A).getD z.toNat 0) := by
        intro g hg
        obtain ⟨i, i0, i1, rfl⟩ := mem_getD hg
        exact hi i i0 i1
      simp only [↓WP, WQ, if_true, if_false, eq_self, implies_true, ne_eq, List.nil_append, List.cons_append, ↓reduceIte, Nat.reduceEqDiff, Nat.reduceBEq, reduceCtorEq, Nat.reduceAdd, resA, ret1, qv, lv, ev, boolA, binA, intA, shiftA, cmpA, beqA, lres, hs, hat, bsl1]
      refine NewRowd_in fun r2 hr2 => ?_
      simp only [↓WP, WQ, if_true, if_false, eq_self, implies_true, ne_eq, List.nil_append, List.cons_append, ↓reduceIte, Nat.reduceEqDiff, Nat.reduceBEq, reduceCtorEq, Nat.reduceAdd, resA, ret1, qv, lv, ev, boolA, binA, intA, shiftA, cmpA, beqA, lres, hs]
      refine o.app_num (i := 1) rfl hr2 rfl (by omega) fun r' G' o => ?_
      simp only [↓WP, WQ, if_true, if_false, eq_self, implies_true, ne_eq, List.nil_append, List.cons_append, ↓reduceIte, Nat.reduceEqDiff, Nat.reduceBEq, reduceCtorEq, Nat.reduceAdd, resA, ret1, qv, lv, ev, boolA, binA, intA, shiftA, cmpA, beqA, lres, hs, hw, hz]
      rw [flt_yes hz0 hz hM]
      exact ⟨r', by simp, o.tail⟩
  · have hze : z.toNat = (prL A).length := by omega
    simp only [↓WP, WQ, if_true, if_false, eq_self, implies_true, ne_eq, List.nil_append, List.cons_append, ↓reduceIte, Nat.reduceEqDiff, Nat.reduceBEq, reduceCtorEq, Nat.reduceAdd, resA, ret1, qv, lv, ev, boolA, binA, intA, shiftA, cmpA, beqA, lres, hs, hz]
    rw [hze, List.take_of_length_le (Nat.le_refl _)] at o ⊢
    exact hq _ H' (hE.trans o.ext') (li_ints (o.get (i := 0) rfl))

/-- What the reference asks of the greatest. -/
def MaxS (l : List Int) (f : Int) : Prop := tb f 0 = false ∧ ∀ g ∈ l, tb g 0 = true ∨ g = f ∨ ¬ bitA (fun _ x y => x &&& y) .i64 g f = f
theorem gr_eq {A : Alg} (hA : IsAlg A) : flt (MaxS (filL A)) (filL A) = grL A := by
  unfold grL
  rw [prL, flt_flt]
  refine flt_congr fun f hf => ?_
  have sf := filL_mem.1 hf
  have key : ∀ g ∈ filL A, (bitA (fun _ x y => x &&& y) .i64 g f = f ↔ an f g = 0) := fun g hg => by
    have sg := filL_mem.1 hg
    rw [and_eq hA sg.1 sf.1, sub_an hA sg.1 sf.1]
  constructor
  · rintro ⟨h1, h2⟩
    refine ⟨by rw [h1]; simp, fun g hg => ?_⟩
    rw [flt_mem] at hg
    rintro ⟨h3, h4⟩
    rcases h2 g hg.1 with h | h | h
    · exact hg.2 h
    · exact h3 h
    · exact h ((key g hg.1).2 h4)
  · rintro ⟨h1, h2⟩
    refine ⟨by simpa using h1, fun g hg => ?_⟩
    by_cases h3 : tb g 0 = true
    · exact Or.inl h3
    · by_cases h4 : g = f
      · exact Or.inr (Or.inl h4)
      · exact Or.inr (Or.inr fun h5 => h2 g (flt_mem.2 ⟨hg, h3⟩) ⟨h4, (key g hg).1 h5⟩)

def MaxC (f g : Int) : Prop := tb g 0 = true ∨ g = f ∨ ¬ bitA (fun _ x y => x &&& y) .i64 g f = f
def bI (f : Int) : Int := if tb f 0 then 1 else 0
theorem bI_zero {f : Int} : bI f = 0 ↔ tb f 0 = false := by unfold bI; cases tb f 0 <;> simp
theorem bI_one {f : Int} : bI f = 1 ↔ tb f 0 = true := by unfold bI; cases tb f 0 <;> simp

theorem sgreatest_c {uv tv : AV} {A : Alg} (h : Ints H uv A.up) (hm : Mat H tv A.times) (hA : IsAlg A) {Q : AV → Hp → Prop} (hq : ∀ v H', Ext H H' → Ints H' v (grL A) → Q v H') :
    ACalls Try.prog w0 100 [.agg [uv, tv]] H Q := by
  refine in100 ?_
  simp only [c100, ↓WP, WQ, if_true, if_false, eq_self, implies_true, ne_eq, List.nil_append, List.cons_append, ↓reduceIte, Nat.reduceEqDiff, Nat.reduceBEq, reduceCtorEq, Nat.reduceAdd, resA, ret1, qv, lv, ev, boolA, binA, intA, shiftA, cmpA, beqA, lres, cells_alg h.len hm.len]
  refine NewRowd_in fun b hb => ?_
  have o := Own.nil0.push (x := ⟨26, true, [uv, tv]⟩) hb
  generalize H.set b ⟨26, true, [uv, tv]⟩ = G at *
  simp only [↓WP, WQ, if_true, if_false, eq_self, implies_true, ne_eq, List.nil_append, List.cons_append, ↓reduceIte, Nat.reduceEqDiff, Nat.reduceBEq, reduceCtorEq, Nat.reduceAdd, resA, ret1, qv, lv, ev, boolA, binA, intA, shiftA, cmpA, beqA, lres, bsl0]
  refine NewRowd_in fun r0 hr0 => ?_
  have o := o.push (x := ⟨3, true, []⟩) hr0
  generalize G.set r0 ⟨3, true, []⟩ = G at *
  have gb := o.get (i := 1) rfl
  simp only [↓WP, WQ, if_true, if_false, eq_self, implies_true, ne_eq, List.nil_append, List.cons_append, ↓reduceIte, Nat.reduceEqDiff, Nat.reduceBEq, reduceCtorEq, Nat.reduceAdd, resA, ret1, qv, lv, ev, boolA, binA, intA, shiftA, cmpA, beqA, lres, atN_two gb]
  refine sfilters_c (h.ext o.ext') (hm.ext o.ext') hA fun q G1 o' => ?_
  have o := o.call o' (fun _ e => e)
  simp only [List.cons_append, List.nil_append] at o
  have hll := filL_len hA
  simp only [↓WP, WQ, if_true, if_false, eq_self, implies_true, ne_eq, List.nil_append, List.cons_append, ↓reduceIte, Nat.reduceEqDiff, Nat.reduceBEq, reduceCtorEq, Nat.reduceAdd, resA, ret1, qv, lv, ev, boolA, binA, intA, shiftA, cmpA, beqA, lres]
  refine W_for 0 (filL A).length (fun z e H' => ∃ r, Sl e [(3, .sl r 0 (flt (MaxS (filL A)) ((filL A).take z.toNat)).length), (4, .sl q 0 (filL A).length), (5, .int .i64 z)] ∧ Own no H H' [(q, LI (filL A)), (r, LI (flt (MaxS (filL A)) ((filL A).take z.toNat))), (b, ⟨26, true, [uv, tv]⟩)]) (by omega) ⟨r0, by simp only [↓WP, WQ, if_true, if_false, eq_self, implies_true, ne_eq, List.nil_append, List.cons_append, ↓reduceIte, Nat.reduceEqDiff, Nat.reduceBEq, reduceCtorEq, Nat.reduceAdd, resA, ret1, qv, lv, ev, boolA, binA, intA, shiftA, cmpA, beqA, lres]; rfl, o⟩ ?_
  rintro z e H' hz0 hz1 ⟨r, hs, o⟩
  simp only [Sl_cons, Sl_nil, and_true] at hs
  have hw : IntKind.i64.wrap (z + 1) = z + 1 := wrap_id (by omega) (by omega)
  have hl := li_ints (o.get (i := 0) rfl)
  refine (Classical.em (z < (filL A).length)).elim (fun hz => ?_) (fun hz => ?_) <;> simp only [↓WP, WQ, if_true, if_false, eq_self, implies_true, ne_eq, List.nil_append, List.cons_append, ↓reduceIte, Nat.reduceEqDiff, Nat.reduceBEq, reduceCtorEq, Nat.reduceAdd, resA, ret1, qv, lv, ev, boolA, binA, intA, shiftA, cmpA, beqA, lres, hs, lenA_sl, hz]
  rotate_left
  · have hze : z.toNat = (filL A).length := by omega
    rw [hze, List.take_of_length_le (Nat.le_refl _), gr_eq hA] at o ⊢
    exact hq _ H' o.ext' (li_ints (o.get (i := 1) rfl))
  have hzn : z.toNat < (filL A).length := by omega
  have hn6 := hA.hi
  have sf := (filL_mem.1 (getD_mem hz0 hz)).1
  have hfl := flt_len (MaxS (filL A)) ((filL A).take z.toNat)
  rw [List.length_take] at hfl
  have first : ∀ {Q : AV → Hp → Prop} (f : Int), Set6 A f → Q (.int .i64 (bI f)) H' → ACalls Try.prog w0 112 [.int .i64 f, .int .i64 0] H' Q := fun f s h1 =>
    bit_c f 0 s.1 (s.lt hA) (by omega) (by omega) (fun hb => by rw [bI, hb] at h1; exact h1) (fun hb => by rw [bI, hb] at h1; exact h1)
  simp only [↓WP, WQ, if_true, if_false, eq_self, implies_true, ne_eq, List.nil_append, List.cons_append, ↓reduceIte, Nat.reduceEqDiff, Nat.reduceBEq, reduceCtorEq, Nat.reduceAdd, resA, ret1, qv, lv, ev, boolA, binA, intA, shiftA, cmpA, beqA, lres, hs, hl.idx hz0 hz, hl.at hzn]
  refine first _ sf ?_
  simp only [↓WP, WQ, if_true, if_false, eq_self, implies_true, ne_eq, List.nil_append, List.cons_append, ↓reduceIte, Nat.reduceEqDiff, Nat.reduceBEq, reduceCtorEq, Nat.reduceAdd, resA, ret1, qv, lv, ev, boolA, binA, intA, shiftA, cmpA, beqA, lres, hs]
  refine W_for 0 (filL A).length (fun k e H'' => H'' = H' ∧ ∃ ok : Bool, Sl e [(3, .sl r 0 (flt (MaxS (filL A)) ((filL A).take z.toNat)).length), (4, .sl q 0 (filL A).length), (5, .int .i64 z), (6, .bool ok), (7, .int .i64 k)] ∧ (ok = true ↔ tb ((filL A).getD z.toNat 0) 0 = false ∧ allI k fun j => MaxC ((filL A).getD z.toNat 0) ((filL A).getD j.toNat 0))) (by omega) ⟨rfl, decide (bI ((filL A).getD z.toNat 0) = 0), by simp only [↓WP, WQ, if_true, if_false, eq_self, implies_true, ne_eq, List.nil_append, List.cons_append, ↓reduceIte, Nat.reduceEqDiff, Nat.reduceBEq, reduceCtorEq, Nat.reduceAdd, resA, ret1, qv, lv, ev, boolA, binA, intA, shiftA, cmpA, beqA, lres, hs], by rw [decide_eq_true_iff, bI_zero]; exact ⟨fun h => ⟨h, allI_zero⟩, fun h => h.1⟩⟩ ?_
  rintro k e H'' hk0 hk1 ⟨rfl, ok, hs, hok⟩
  simp only [Sl_cons, Sl_nil, and_true] at hs
  have hwk : IntKind.i64.wrap (k + 1) = k + 1 := wrap_id (by omega) (by omega)
  have hsub : MaxS (filL A) ((filL A).getD z.toNat 0) → allI k fun j => MaxC ((filL A).getD z.toNat 0) ((filL A).getD j.toNat 0) := fun h j j0 j1 => h.2 _ (getD_mem j0 (by omega))
  refine (Classical.em (k < (filL A).length)).elim (fun hk => ?_) (fun hk => ?_)
  · cases ok
    · simp only [↓WP, WQ, if_true, if_false, eq_self, implies_true, ne_eq, List.nil_append, List.cons_append, ↓reduceIte, Nat.reduceEqDiff, Nat.reduceBEq, reduceCtorEq, Nat.reduceAdd, resA, ret1, qv, lv, ev, boolA, binA, intA, shiftA, cmpA, beqA, lres, hs, lenA_sl, hk, hw, hz]
      rw [flt_no hz0 hz (fun h => by have := hok.2 ⟨h.1, hsub h⟩; cases this)]
      exact ⟨r, by simp, o⟩
    · simp only [↓WP, WQ, if_true, if_false, eq_self, implies_true, ne_eq, List.nil_append, List.cons_append, ↓reduceIte, Nat.reduceEqDiff, Nat.reduceBEq, reduceCtorEq, Nat.reduceAdd, resA, ret1, qv, lv, ev, boolA, binA, intA, shiftA, cmpA, beqA, lres, hs, lenA_sl, hk]
      obtain ⟨hf0, hall⟩ := hok.1 rfl
      have hkn : k.toNat < (filL A).length := by omega
      have sg := (filL_mem.1 (getD_mem hk0 hk)).1
      refine DR_in (fun _ => True) rfl ?_
      simp only [↓WP, WQ, if_true, if_false, eq_self, implies_true, ne_eq, List.nil_append, List.cons_append, ↓reduceIte, Nat.reduceEqDiff, Nat.reduceBEq, reduceCtorEq, Nat.reduceAdd, resA, ret1, qv, lv, ev, boolA, binA, intA, shiftA, cmpA, beqA, lres, hs, hl.idx hk0 hk, hl.at hkn]
      refine first _ sg ?_
      have fin : ∀ b : Bool, (b = true ↔ MaxC ((filL A).getD z.toNat 0) ((filL A).getD k.toNat 0)) → (b = true ↔ tb ((filL A).getD z.toNat 0) 0 = false ∧ allI (k + 1) fun j => MaxC ((filL A).getD z.toNat 0) ((filL A).getD j.toNat 0)) := fun b hb => by
        rw [hb, allI_succ hk0]; exact ⟨fun h => ⟨hf0, hall, h⟩, fun h => h.2.2⟩
      have eb := bI_one (f := (filL A).getD k.toNat 0)
      refine (Classical.em (tb ((filL A).getD k.toNat 0) 0 = true)).elim (fun c1 => ?_) (fun c1 => ?_)
      · simp only [↓WP, WQ, if_true, if_false, eq_self, implies_true, ne_eq, List.nil_append, List.cons_append, ↓reduceIte, Nat.reduceEqDiff, Nat.reduceBEq, reduceCtorEq, Nat.reduceAdd, resA, ret1, qv, lv, ev, boolA, binA, intA, shiftA, cmpA, beqA, lres, hs, decide_eq_true (eb.2 c1), hwk, hk]
        exact ⟨true, by simp, fin _ ⟨fun _ => Or.inl c1, fun _ => rfl⟩⟩
      · simp only [↓WP, WQ, if_true, if_false, eq_self, implies_true, ne_eq, List.nil_append, List.cons_append, ↓reduceIte, Nat.reduceEqDiff, Nat.reduceBEq, reduceCtorEq, Nat.reduceAdd, resA, ret1, qv, lv, ev, boolA, binA, intA, shiftA, cmpA, beqA, lres, hs, decide_eq_false (fun h => c1 (eb.1 h)), hl.idx hk0 hk, hl.at hkn, hl.idx hz0 hz, hl.at hzn]
        refine (Classical.em ((filL A).getD k.toNat 0 = (filL A).getD z.toNat 0)).elim (fun c2 => ?_) (fun c2 => ?_)
        · simp only [↓WP, WQ, if_true, if_false, eq_self, implies_true, ne_eq, List.nil_append, List.cons_append, ↓reduceIte, Nat.reduceEqDiff, Nat.reduceBEq, reduceCtorEq, Nat.reduceAdd, resA, ret1, qv, lv, ev, boolA, binA, intA, shiftA, cmpA, beqA, lres, hs, decide_eq_true c2, hwk, hk]
          exact ⟨true, by simp, fin _ ⟨fun _ => Or.inr (Or.inl c2), fun _ => rfl⟩⟩
        · simp only [↓WP, WQ, if_true, if_false, eq_self, implies_true, ne_eq, List.nil_append, List.cons_append, ↓reduceIte, Nat.reduceEqDiff, Nat.reduceBEq, reduceCtorEq, Nat.reduceAdd, resA, ret1, qv, lv, ev, boolA, binA, intA, shiftA, cmpA, beqA, lres, hs, decide_eq_false c2, hwk, hk, hl.idx hk0 hk, hl.at hkn, hl.idx hz0 hz, hl.at hzn]
          refine ⟨_, rfl, fin _ ?_⟩
          simp only [MaxC, c1, c2, Bool.false_eq_true, false_or, Bool.not_eq_true', decide_eq_false_iff_not]
  · have hke : k = (filL A).length := by omega
    subst hke
    have hM : ok = true ↔ MaxS (filL A) ((filL A).getD z.toNat 0) := by
      rw [hok]
      refine ⟨fun h => ⟨h.1, fun g hg => ?_⟩, fun h => ⟨h.1, hsub h⟩⟩
      obtain ⟨j, j0, j1, rfl⟩ := mem_getD hg
      exact h.2 j j0 j1
    cases ok
    · simp only [↓WP, WQ, if_true, if_false, eq_self, implies_true, ne_eq, List.nil_append, List.cons_append, ↓reduceIte, Nat.reduceEqDiff, Nat.reduceBEq, reduceCtorEq, Nat.reduceAdd, resA, ret1, qv, lv, ev, boolA, binA, intA, shiftA, cmpA, beqA, lres, hs, lenA_sl, hk, hw, hz]
      rw [flt_no hz0 hz (fun h => by have := hM.2 h; cases this)]
      exact ⟨r, by simp, o⟩
    · simp only [↓WP, WQ, if_true, if_false, eq_self, implies_true, ne_eq, List.nil_append, List.cons_append, ↓reduceIte, Nat.reduceEqDiff, Nat.reduceBEq, reduceCtorEq, Nat.reduceAdd, resA, ret1, qv, lv, ev, boolA, binA, intA, shiftA, cmpA, beqA, lres, hs, lenA_sl, hk, hl.idx hz0 hz, hl.at hzn, bsl1]
      refine NewRowd_in fun r2 hr2 => ?_
      simp only [↓WP, WQ, if_true, if_false, eq_self, implies_true, ne_eq, List.nil_append, List.cons_append, ↓reduceIte, Nat.reduceEqDiff, Nat.reduceBEq, reduceCtorEq, Nat.reduceAdd, resA, ret1, qv, lv, ev, boolA, binA, intA, shiftA, cmpA, beqA, lres, hs]
      refine o.app_num (i := 1) rfl hr2 rfl (by omega) fun r' G' o => ?_
      simp only [↓WP, WQ, if_true, if_false, eq_self, implies_true, ne_eq, List.nil_append, List.cons_append, ↓reduceIte, Nat.reduceEqDiff, Nat.reduceBEq, reduceCtorEq, Nat.reduceAdd, resA, ret1, qv, lv, ev, boolA, binA, intA, shiftA, cmpA, beqA, lres, hs, hw, hz]
      rw [flt_yes hz0 hz (hM.1 rfl)]
      exact ⟨r', by simp, o⟩

/-! ### simple and local algebras -/

theorem IsSimple_c {uv tv : AV} {A : Alg} (h : Ints H uv A.up) (hm : Mat H tv A.times) (hS : Small A) {Q : AV → Hp → Prop} (ht : IsAlg A ∧ (filL A).length = 2 → Q (.bool true) H) (hf : ¬ (IsAlg A ∧ (filL A).length = 2) → Q (.bool false) H) :
    ACalls Try.prog w0 46 [.agg [uv, tv]] H Q := by
  refine quietB (fun b hb => ?_) ht hf
  refine in46 ?_
  simp only [c46, ↓WP, WQ, if_true, if_false, eq_self, implies_true, ne_eq, List.nil_append, List.cons_append, ↓reduceIte, Nat.reduceEqDiff, Nat.reduceBEq, reduceCtorEq, Nat.reduceAdd, resA, ret1, qv, lv, ev, boolA, binA, intA, shiftA, cmpA, beqA, lres, cells_alg h.len hm.len]
  refine NewRowd_in fun r hr => ?_
  obtain ⟨hE, hu, hu1, hu2⟩ := box_facts (ty := 26) (uv := uv) (tv := tv) hr
  generalize H.set r ⟨26, true, [uv, tv]⟩ = G at *
  simp only [↓WP, WQ, if_true, if_false, eq_self, implies_true, ne_eq, List.nil_append, List.cons_append, ↓reduceIte, Nat.reduceEqDiff, Nat.reduceBEq, reduceCtorEq, Nat.reduceAdd, resA, ret1, qv, lv, ev, boolA, binA, intA, shiftA, cmpA, beqA, lres, hu]
  refine FiltersOf_c (h.ext hE) (hm.ext hE) hS fun v G1 hv => ?_
  obtain ⟨hE1, l, e1, e2, hl⟩ := hv.ints
  simp only [↓WP, WQ, if_true, if_false, eq_self, implies_true, ne_eq, List.nil_append, List.cons_append, ↓reduceIte, Nat.reduceEqDiff, Nat.reduceBEq, reduceCtorEq, Nat.reduceAdd, resA, ret1, qv, lv, ev, boolA, binA, intA, shiftA, cmpA, beqA, lres, hl.len]
  refine ⟨?_, hE.trans hE1⟩
  by_cases hA : IsAlg A
  · rw [e1 hA]
    congr 1
    rw [Bool.eq_iff_iff, decide_eq_true_iff, hb]
    exact ⟨fun h => ⟨hA, by omega⟩, fun h => by omega⟩
  · rw [e2 hA]
    have : b = false := Bool.eq_false_iff.2 fun h => hA (hb.1 h).1
    rw [this]; rfl
theorem sIsSimple_c {uv tv : AV} {A : Alg} (h : Ints H uv A.up) (hm : Mat H tv A.times) (hS : Small A) {Q : AV → Hp → Prop} (ht : IsAlg A ∧ (filL A).length = 2 → Q (.bool true) H) (hf : ¬ (IsAlg A ∧ (filL A).length = 2) → Q (.bool false) H) :
    ACalls Try.prog w0 47 [.agg [uv, tv]] H Q := by
  refine quietB (fun b hb => ?_) ht hf
  refine in47 ?_
  simp only [c47, ↓WP, WQ, if_true, if_false, eq_self, implies_true, ne_eq, List.nil_append, List.cons_append, ↓reduceIte, Nat.reduceEqDiff, Nat.reduceBEq, reduceCtorEq, Nat.reduceAdd, resA, ret1, qv, lv, ev, boolA, binA, intA, shiftA, cmpA, beqA, lres, cells_alg h.len hm.len]
  refine NewRowd_in fun r hr => ?_
  obtain ⟨hE, hu, hu1, hu2⟩ := box_facts (ty := 26) (uv := uv) (tv := tv) hr
  generalize H.set r ⟨26, true, [uv, tv]⟩ = G at *
  have h := h.ext hE
  have hm := hm.ext hE
  simp only [↓WP, WQ, if_true, if_false, eq_self, implies_true, ne_eq, List.nil_append, List.cons_append, ↓reduceIte, Nat.reduceEqDiff, Nat.reduceBEq, reduceCtorEq, Nat.reduceAdd, resA, ret1, qv, lv, ev, boolA, binA, intA, shiftA, cmpA, beqA, lres, hu]
  refine svalidAlgebra_c h hm hS (fun hA => ?_) (fun hA => ?_) <;> simp only [↓WP, WQ, if_true, if_false, eq_self, implies_true, ne_eq, List.nil_append, List.cons_append, ↓reduceIte, Nat.reduceEqDiff, Nat.reduceBEq, reduceCtorEq, Nat.reduceAdd, resA, ret1, qv, lv, ev, boolA, binA, intA, shiftA, cmpA, beqA, lres, hu]
  · refine sfilters_c h hm hA fun q G1 o => ?_
    simp only [↓WP, WQ, if_true, if_false, eq_self, implies_true, ne_eq, List.nil_append, List.cons_append, ↓reduceIte, Nat.reduceEqDiff, Nat.reduceBEq, reduceCtorEq, Nat.reduceAdd, resA, ret1, qv, lv, ev, boolA, binA, intA, shiftA, cmpA, beqA, lres]
    refine ⟨?_, hE.trans o.ext'⟩
    congr 1
    rw [Bool.eq_iff_iff, decide_eq_true_iff, hb]
    exact ⟨fun h => ⟨hA, by omega⟩, fun h => by omega⟩
  · have : b = false := Bool.eq_false_iff.2 fun h => hA (hb.1 h).1
    rw [this]
    exact ⟨rfl, hE⟩

theorem IsLocal_c {uv tv : AV} {A : Alg} (h : Ints H uv A.up) (hm : Mat H tv A.times) (hS : Small A) {Q : AV → Hp → Prop} (ht : IsAlg A ∧ (grL A).length = 1 → Q (.bool true) H) (hf : ¬ (IsAlg A ∧ (grL A).length = 1) → Q (.bool false) H) :
    ACalls Try.prog w0 49 [.agg [uv, tv]] H Q := by
  refine quietB (fun b hb => ?_) ht hf
  refine in49 ?_
  simp only [c49, ↓WP, WQ, if_true, if_false, eq_self, implies_true, ne_eq, List.nil_append, List.cons_append, ↓reduceIte, Nat.reduceEqDiff, Nat.reduceBEq, reduceCtorEq, Nat.reduceAdd, resA, ret1, qv, lv, ev, boolA, binA, intA, shiftA, cmpA, beqA, lres, cells_alg h.len hm.len]
  refine NewRowd_in fun r hr => ?_
  obtain ⟨hE, hu, hu1, hu2⟩ := box_facts (ty := 26) (uv := uv) (tv := tv) hr
  generalize H.set r ⟨26, true, [uv, tv]⟩ = G at *
  have h := h.ext hE
  have hm := hm.ext hE
  simp only [↓WP, WQ, if_true, if_false, eq_self, implies_true, ne_eq, List.nil_append, List.cons_append, ↓reduceIte, Nat.reduceEqDiff, Nat.reduceBEq, reduceCtorEq, Nat.reduceAdd, resA, ret1, qv, lv, ev, boolA, binA, intA, shiftA, cmpA, beqA, lres, hu]
  refine in95 ?_
  simp only [c95, ↓WP, WQ, if_true, if_false, eq_self, implies_true, ne_eq, List.nil_append, List.cons_append, ↓reduceIte, Nat.reduceEqDiff, Nat.reduceBEq, reduceCtorEq, Nat.reduceAdd, resA, ret1, qv, lv, ev, boolA, binA, intA, shiftA, cmpA, beqA, lres, cells_alg h.len hm.len]
  refine NewRowd_in fun r2 hr2 => ?_
  obtain ⟨hE2, hu, hu1, hu2⟩ := box_facts (ty := 26) (uv := uv) (tv := tv) hr2
  have hE := hE.trans hE2
  generalize G.set r2 ⟨26, true, [uv, tv]⟩ = G2 at *
  have h := h.ext hE2
  have hm := hm.ext hE2
  simp only [↓WP, WQ, if_true, if_false, eq_self, implies_true, ne_eq, List.nil_append, List.cons_append, ↓reduceIte, Nat.reduceEqDiff, Nat.reduceBEq, reduceCtorEq, Nat.reduceAdd, resA, ret1, qv, lv, ev, boolA, binA, intA, shiftA, cmpA, beqA, lres, hu]
  refine ValidAlgebra_c h hm hS (fun hA => ?_) (fun hA => ?_) <;> simp only [↓WP, WQ, if_true, if_false, eq_self, implies_true, ne_eq, List.nil_append, List.cons_append, ↓reduceIte, Nat.reduceEqDiff, Nat.reduceBEq, reduceCtorEq, Nat.reduceAdd, resA, ret1, qv, lv, ev, boolA, binA, intA, shiftA, cmpA, beqA, lres, hu]
  · refine greatest_c h hm hA fun v G1 hE1 hl => ?_
    simp only [↓WP, WQ, if_true, if_false, eq_self, implies_true, ne_eq, List.nil_append, List.cons_append, ↓reduceIte, Nat.reduceEqDiff, Nat.reduceBEq, reduceCtorEq, Nat.reduceAdd, resA, ret1, qv, lv, ev, boolA, binA, intA, shiftA, cmpA, beqA, lres, hl.len]
    refine ⟨?_, hE.trans hE1⟩
    congr 1
    rw [Bool.eq_iff_iff, decide_eq_true_iff, hb]
    exact ⟨fun h => ⟨hA, by omega⟩, fun h => by omega⟩
  · have : b = false := Bool.eq_false_iff.2 fun h => hA (hb.1 h).1
    rw [this]
    exact ⟨rfl, hE⟩
theorem sIsLocal_c {uv tv : AV} {A : Alg} (h : Ints H uv A.up) (hm : Mat H tv A.times) (hS : Small A) {Q : AV → Hp → Prop} (ht : IsAlg A ∧ (grL A).length = 1 → Q (.bool true) H) (hf : ¬ (IsAlg A ∧ (grL A).length = 1) → Q (.bool false) H) :
    ACalls Try.prog w0 58 [.agg [uv, tv]] H Q := by
  refine quietB (fun b hb => ?_) ht hf
  refine in58 ?_
  simp only [c58, ↓WP, WQ, if_true, if_false, eq_self, implies_true, ne_eq, List.nil_append, List.cons_append, ↓reduceIte, Nat.reduceEqDiff, Nat.reduceBEq, reduceCtorEq, Nat.reduceAdd, resA, ret1, qv, lv, ev, boolA, binA, intA, shiftA, cmpA, beqA, lres, cells_alg h.len hm.len]
  refine NewRowd_in fun r hr => ?_
  obtain ⟨hE, hu, hu1, hu2⟩ := box_facts (ty := 26) (uv := uv) (tv := tv) hr
  generalize H.set r ⟨26, true, [uv, tv]⟩ = G at *
  have h := h.ext hE
  have hm := hm.ext hE
  simp only [↓WP, WQ, if_true, if_false, eq_self, implies_true, ne_eq, List.nil_append, List.cons_append, ↓reduceIte, Nat.reduceEqDiff, Nat.reduceBEq, reduceCtorEq, Nat.reduceAdd, resA, ret1, qv, lv, ev, boolA, binA, intA, shiftA, cmpA, beqA, lres, hu]
  refine svalidAlgebra_c h hm hS (fun hA => ?_) (fun hA => ?_) <;> simp only [↓WP, WQ, if_true, if_false, eq_self, implies_true, ne_eq, List.nil_append, List.cons_append, ↓reduceIte, Nat.reduceEqDiff, Nat.reduceBEq, reduceCtorEq, Nat.reduceAdd, resA, ret1, qv, lv, ev, boolA, binA, intA, shiftA, cmpA, beqA, lres, hu]
  · refine sgreatest_c h hm hA fun v G1 hE1 hl => ?_
    simp only [↓WP, WQ, if_true, if_false, eq_self, implies_true, ne_eq, List.nil_append, List.cons_append, ↓reduceIte, Nat.reduceEqDiff, Nat.reduceBEq, reduceCtorEq, Nat.reduceAdd, resA, ret1, qv, lv, ev, boolA, binA, intA, shiftA, cmpA, beqA, lres, hl.len]
    refine ⟨?_, hE.trans hE1⟩
    congr 1
    rw [Bool.eq_iff_iff, decide_eq_true_iff, hb]
    exact ⟨fun h => ⟨hA, by omega⟩, fun h => by omega⟩
  · have : b = false := Bool.eq_false_iff.2 fun h => hA (hb.1 h).1
    rw [this]
    exact ⟨rfl, hE⟩
end Go.AL

/-
  Plain laws: when an algebra is simple, and when it is local.
-/
namespace Go.AL
open Go.Proofs
set_option linter.unusedSimpArgs false
set_option linter.unusedVariables false
set_option linter.unusedSectionVars false

theorem two_len {l : List Int} (hs : l.Pairwise (· < ·)) {a b : Int} (ha : a ∈ l) (hb : b ∈ l) (hab : a ≠ b) (hall : ∀ x ∈ l, x = a ∨ x = b) : l.length = 2 := by
  match l, hs, ha, hb, hall with
  | [], _, ha, _, _ => cases ha
  | [x], _, ha, hb, _ => simp only [List.mem_singleton] at ha hb; omega
  | [x, y], _, _, _, _ => rfl
  | x :: y :: z :: r, hs, _, _, hall =>
    have h1 := hall x (by simp)
    have h2 := hall y (by simp)
    have h3 := hall z (by simp)
    simp only [List.pairwise_cons, List.mem_cons] at hs
    have h4 := hs.1 y (by simp)
    have h5 := hs.2.1 z (by simp)
    omega
theorem two_mem {l : List Int} (h : l.length = 2) {a b c : Int} (ha : a ∈ l) (hb : b ∈ l) (hc : c ∈ l) (h1 : a ≠ b) (h2 : a ≠ c) (h3 : b ≠ c) : False := by
  match l, h, ha, hb, hc with
  | [x, y], _, ha, hb, hc =>
    simp only [List.mem_cons, List.not_mem_nil, or_false] at ha hb hc
    omega
theorem one_len {l : List Int} (hs : l.Pairwise (· < ·)) {a : Int} (ha : a ∈ l) (hall : ∀ x ∈ l, x = a) : l.length = 1 := by
  match l, hs, ha, hall with
  | [], _, ha, _ => cases ha
  | [x], _, _, _ => rfl
  | x :: y :: r, hs, _, hall =>
    have h1 := hall x (by simp)
    have h2 := hall y (by simp)
    simp only [List.pairwise_cons, List.mem_cons] at hs
    have h4 := hs.1 y (by simp)
    omega

section
variable {A : Alg} (hA : IsAlg A)
include hA
theorem fil_all {f : Int} (hs : Set6 A f) (hf : IsFil A f) (h0 : tb f 0 = true) : f = 2 ^ A.up.length - 1 := by
  have hn := hA.hi
  refine bits_ext (n := A.up.length) (by omega) hs (top_set hA) fun w w0 w1 => ?_
  rw [tb_ones (by omega) w0 w1]
  exact fil_up hA hf hA.e0 ⟨w0, w1⟩ h0 (hA.b ⟨w0, w1⟩)
theorem nil_in {f x : Int} (hf : IsFil A f) (hx : El A x) (h : tb f x = true) (hp : powF A x A.up.length = 0) : tb f 0 = true := by
  have := pow_in hA hx hf h A.up.length
  rwa [hp] at this
theorem pow_top : ∀ k, powF A (A.up.length - 1) k = A.up.length - 1
  | 0 => rfl
  | k + 1 => by rw [pow_s hA hA.e1, pow_top k, hA.t1 hA.e1]
theorem pow_bot : powF A 0 A.up.length = 0 := by
  have : powF A 0 A.up.length = A.tm (powF A 0 (A.up.length - 1)) 0 := by
    rw [← pow_s hA hA.e0, show A.up.length - 1 + 1 = A.up.length by have := hA.lo; omega]
  rw [this, hA.t0 (pow_e hA hA.e0 _)]
theorem pow_mono {x y : Int} (hx : El A x) (hy : El A y) (h : bl A.up x y) : ∀ k, bl A.up (powF A x k) (powF A y k)
  | 0 => hA.r hA.e1
  | k + 1 => by
    rw [pow_s hA hx, pow_s hA hy]
    exact hA.mono2 (pow_e hA hx k) (pow_e hA hy k) hx hy (pow_mono hx hy h k) h
theorem pow_mul {x y : Int} (hx : El A x) (hy : El A y) : ∀ k, powF A (A.tm x y) k = A.tm (powF A x k) (powF A y k)
  | 0 => (hA.t1 hA.e1).symm
  | k + 1 => by
    rw [pow_s hA hx, pow_s hA hy, pow_s hA (hA.te hx hy), pow_mul hx hy k, hA.t4 (pow_e hA hx k) (pow_e hA hy k) hx hy]
theorem pow_pow {x : Int} (hx : El A x) (j : Nat) : ∀ k, powF A (powF A x j) k = powF A x (j * k)
  | 0 => rfl
  | k + 1 => by rw [pow_s hA (pow_e hA hx j), pow_pow hx j k, Nat.mul_succ, pow_add hA hx]
theorem pow_nil {x : Int} (hx : El A x) {j k : Nat} (h : powF A (powF A x j) k = 0) : powF A x A.up.length = 0 := by
  rw [pow_pow hA hx] at h; exact pow_zero_any hA hx h
theorem gen_has {x : Int} (hx : El A x) : tb (genF A (2 ^ x.toNat)) x = true := gen_sub hA _ x hx.1 hx.2 ((pow_bit hA hx hx).2 rfl)
theorem gen_no0 {x : Int} (hx : El A x) (h : ¬ powF A x A.up.length = 0) : ¬ tb (genF A (2 ^ x.toNat)) 0 = true := fun h0 => by
  rw [gen_one hA hx hA.e0] at h0
  exact h (hA.bot_eq (pow_e hA hx _) h0)
theorem fil_ne1 {f : Int} (hs : Set6 A f) (hf : IsFil A f) (h : ¬ 1 < A.up.length) : tb f 0 = true := by
  have := hf.1
  rwa [show (A.up.length : Int) - 1 = 0 by have := hA.lo; omega] at this

/-- Simple: more than one element, and all but the last end. -/
theorem simple_iff : (filL A).length = 2 ↔ 1 < A.up.length ∧ ∀ x : Int, 0 ≤ x → x < A.up.length - 1 → powF A x A.up.length = 0 := by
  have hn := hA.hi
  have hsort : (filL A).Pairwise (· < ·) := sel_sorted _ _
  have mT : (2 : Int) ^ ((A.up.length : Int) - 1).toNat ∈ filL A := filL_mem.2 ⟨pow_set hA hA.e1, top_fil hA⟩
  have mW : (2 : Int) ^ A.up.length - 1 ∈ filL A := filL_mem.2 ⟨top_set hA, all_fil hA⟩
  have bT : ∀ {w : Int}, El A w → (tb (2 ^ ((A.up.length : Int) - 1).toNat) w = true ↔ w = A.up.length - 1) := fun hw => pow_bit hA hA.e1 hw
  have bW : ∀ {w : Int}, El A w → tb (2 ^ A.up.length - 1) w = true := fun hw => tb_ones (by omega) hw.1 hw.2
  have hTW : 1 < A.up.length → (2 : Int) ^ ((A.up.length : Int) - 1).toNat ≠ 2 ^ A.up.length - 1 := fun h e => by
    have h1 := bW hA.e0
    rw [← e, bT hA.e0] at h1
    omega
  constructor
  · intro h
    have h1 : 1 < A.up.length := by
      refine Classical.byContradiction fun h1 => ?_
      have h2 := one_len hsort mW fun f hf => fil_all hA (filL_mem.1 hf).1 (filL_mem.1 hf).2 (fil_ne1 hA (filL_mem.1 hf).1 (filL_mem.1 hf).2 h1)
      omega
    refine ⟨h1, fun x x0 x1 => Classical.byContradiction fun hp => ?_⟩
    have hx : El A x := ⟨x0, by omega⟩
    have mG : genF A (2 ^ x.toNat) ∈ filL A := filL_mem.2 ⟨genF_set A _, gen_fil hA _⟩
    refine two_mem h mT mW mG (hTW h1) (fun e => ?_) (fun e => ?_)
    · have h2 := gen_has hA hx
      rw [← e, bT hx] at h2
      omega
    · have h2 := gen_no0 hA hx hp
      rw [← e] at h2
      exact h2 (bW hA.e0)
  · rintro ⟨h1, h2⟩
    refine two_len hsort mT mW (hTW h1) fun f hf => ?_
    have sf := filL_mem.1 hf
    by_cases h0 : tb f 0 = true
    · exact Or.inr (fil_all hA sf.1 sf.2 h0)
    · refine Or.inl (bits_ext (n := A.up.length) (by omega) sf.1 (pow_set hA hA.e1) fun w w0 w1 => ?_)
      rw [Bool.eq_iff_iff, bT ⟨w0, w1⟩]
      constructor
      · intro hw
        refine Classical.byContradiction fun hne => h0 (nil_in hA sf.2 ⟨w0, w1⟩ hw (h2 w w0 (by omega)))
      · rintro rfl; exact sf.2.1

theorem sub_le {f g : Int} (sf : Set6 A f) (sg : Set6 A g) (h : SubS A f g) : f ≤ g := by
  have h1 := (and_eq hA sg sf).2 h
  rw [bitA_and sg.1 (sg.lt hA) sf.1 (sf.lt hA)] at h1
  have h2 : g.toNat &&& f.toNat ≤ g.toNat := Nat.and_le_left
  have := sg.1
  omega
theorem prL_mem {f : Int} : f ∈ prL A ↔ (Set6 A f ∧ IsFil A f) ∧ ¬ tb f 0 = true := by rw [prL, flt_mem, filL_mem]
theorem an_sub {f g : Int} (sf : Set6 A f) (sg : Set6 A g) : an f g = 0 ↔ SubS A f g := sub_an hA sg sf
/-- Every proper filter is in a greatest one. -/
theorem gr_above : ∀ (m : Nat) {f : Int}, f ∈ prL A → (2 ^ A.up.length - f).toNat ≤ m → ∃ g ∈ grL A, SubS A f g
  | 0, f, hf, hm => by
    have := ((prL_mem hA).1 hf).1.1.2
    omega
  | m + 1, f, hf, hm => by
    have hf' := (prL_mem hA).1 hf
    by_cases hM : MaxIn (prL A) f
    · exact ⟨f, flt_mem.2 ⟨hf, hM⟩, fun _ _ _ h => h⟩
    · obtain ⟨g, hg, hne, han⟩ : ∃ g ∈ prL A, g ≠ f ∧ an f g = 0 := Classical.byContradiction fun hc => hM fun g hg h => hc ⟨g, hg, h⟩
      have hg' := (prL_mem hA).1 hg
      have hsub := (an_sub hA hf'.1.1 hg'.1.1).1 han
      have hle := sub_le hA hf'.1.1 hg'.1.1 hsub
      have := hg'.1.1.2
      obtain ⟨k, hk, hgk⟩ := gr_above m hg (by omega)
      exact ⟨k, hk, fun w w0 w1 h => hgk w w0 w1 (hsub w w0 w1 h)⟩

/-- Local: more than one element, and of each element, it or its opposite ends. -/
theorem local_iff : (grL A).length = 1 ↔ 1 < A.up.length ∧ ∀ x : Int, 0 ≤ x → x < A.up.length → powF A x A.up.length = 0 ∨ powF A (impF A x 0) A.up.length = 0 := by
  have hn := hA.hi
  constructor
  · intro h
    obtain ⟨F, hF⟩ := List.length_eq_one_iff.1 h
    have hFm : F ∈ grL A := by rw [hF]; simp
    have hFp := (prL_mem hA).1 (flt_mem.1 hFm).1
    refine ⟨Classical.byContradiction fun h1 => hFp.2 (fil_ne1 hA hFp.1.1 hFp.1.2 h1), fun x x0 x1 => Classical.byContradiction fun hc => ?_⟩
    have hx : El A x := ⟨x0, x1⟩
    have key : ∀ y, El A y → ¬ powF A y A.up.length = 0 → tb F y = true := fun y hy hp => by
      obtain ⟨g, hg, hsub⟩ := gr_above hA _ ((prL_mem hA).2 ⟨⟨genF_set A _, gen_fil hA _⟩, gen_no0 hA hy hp⟩) (Nat.le_refl _)
      rw [hF, List.mem_singleton] at hg
      rw [← hg]
      exact hsub y hy.1 hy.2 (gen_has hA hy)
    have h1 := key x hx fun h => hc (Or.inl h)
    have h2 := key _ (hA.ie x 0) fun h => hc (Or.inr h)
    have h3 := fil_mul hA hFp.1.2 hx (hA.ie x 0) h1 h2
    rw [hA.not_mul hx] at h3
    exact hFp.2 h3
  · rintro ⟨h1, h2⟩
    have bM : ∀ {w : Int}, El A w → (tb (sumP (fun x => ¬ powF A x A.up.length = 0) A.up.length) w = true ↔ ¬ powF A w A.up.length = 0) := fun hw => tb_sumP (by omega) hw.1 hw.2
    have sM : Set6 A (sumP (fun x => ¬ powF A x A.up.length = 0) A.up.length) := sumP_rng _ _
    generalize sumP (fun x => ¬ powF A x A.up.length = 0) A.up.length = M at *
    have fM : IsFil A M := by
      refine fil_mk hA ((bM hA.e1).2 ?_) ?_ ?_
      · rw [pow_top hA]; omega
      · intro x y hx hy hM hxy
        refine (bM hy).2 fun h => (bM hx).1 hM ?_
        have := pow_mono hA hx hy hxy A.up.length
        rw [h] at this
        exact hA.bot_eq (pow_e hA hx _) this
      · intro x y hx hy hMx hMy
        refine (bM (hA.te hx hy)).2 fun h => ?_
        have ex := pow_e hA hx A.up.length
        have ey := pow_e hA hy A.up.length
        rw [pow_mul hA hx hy] at h
        have hle : bl A.up (powF A y A.up.length) (impF A (powF A x A.up.length) 0) := hA.le_imp ex hA.e0 ey (by rw [h]; exact hA.r hA.e0)
        rcases h2 _ ex.1 ex.2 with h3 | h3
        · exact (bM hx).1 hMx (pow_nil hA hx h3)
        · have := pow_mono hA ey (hA.ie _ 0) hle A.up.length
          rw [h3] at this
          exact (bM hy).1 hMy (pow_nil hA hy (hA.bot_eq (pow_e hA ey _) this))
    have pM : M ∈ prL A := (prL_mem hA).2 ⟨⟨sM, fM⟩, fun h => (bM hA.e0).1 h (pow_bot hA)⟩
    have hsub : ∀ f ∈ prL A, SubS A f M := fun f hf w w0 w1 hw => by
      have hf' := (prL_mem hA).1 hf
      exact (bM ⟨w0, w1⟩).2 fun hp => hf'.2 (nil_in hA hf'.1.2 ⟨w0, w1⟩ hw hp)
    refine one_len (a := M) (flt_sorted (flt_sorted (sel_sorted _ _))) (flt_mem.2 ⟨pM, fun g hg h => ?_⟩) fun f hf => ?_
    · have hg' := (prL_mem hA).1 hg
      have h3 := (an_sub hA sM hg'.1.1).1 h.2
      refine h.1 (bits_ext (n := A.up.length) (by omega) hg'.1.1 sM fun w w0 w1 => ?_)
      rw [Bool.eq_iff_iff]
      exact ⟨hsub g hg w w0 w1, h3 w w0 w1⟩
    · obtain ⟨hf1, hf2⟩ := flt_mem.1 hf
      have hf' := (prL_mem hA).1 hf1
      refine Classical.byContradiction fun hne => hf2 M pM ⟨fun e => hne e.symm, ?_⟩
      exact (an_sub hA hf'.1.1 sM).2 (hsub f hf1)
theorem simple_local (h : (filL A).length = 2) : (grL A).length = 1 := by
  obtain ⟨h1, h2⟩ := (simple_iff hA).1 h
  refine (local_iff hA).2 ⟨h1, fun x x0 x1 => ?_⟩
  by_cases hx : x < A.up.length - 1
  · exact Or.inl (h2 x x0 hx)
  · right
    have : x = A.up.length - 1 := by omega
    subst this
    have h3 := hA.not_mul hA.e1
    rw [hA.t1' (hA.ie _ 0)] at h3
    rw [h3]; exact pow_bot hA
end
end Go.AL
