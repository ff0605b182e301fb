/-
  The given statement FnClassesOfSaid is proved: for every input the law FnClassesOf returns true, and each argument reads as it did before the call. Conditions: none beyond the given row.
-/
import Derived.Test.YtijpoplbdjfhaaaM3
import Derived.Test.YtijpoplbdjfhaaaM4
import Derived.Test.YtijpoplbdjfhaaaRows
/-
  The law of ImplyOf.
-/
namespace Go.AL
open Go.Proofs
set_option linter.unusedSimpArgs false
set_option linter.unusedVariables false
variable {w0 : World} {H : Hp}

theorem Has.el {A : Alg} {x y : Int} (h : Has A x y) : IsAlg A ∧ El A x ∧ El A y := h

theorem FnImplyOf_l {bv : AV} {m : Nat} (hb : Byt H bv m) (hm : m ≤ 9223372036854775807) : ACalls Try.prog w0 3 [bv] H fun v _ => v = .bool true := by
  refine in3 ?_
  simp only [c3, ↓WP, WQ, if_true, if_false, eq_self, implies_true, ne_eq, List.nil_append, List.cons_append, ↓reduceIte, Nat.reduceEqDiff, Nat.reduceBEq, reduceCtorEq, Nat.reduceAdd, resA, ret1, qv, lv, ev, boolA, binA, intA, shiftA, cmpA, beqA, lres, hb.1]
  refine Br_dec (fun h1 => ?_) (fun h1 => ?_) <;> simp only [↓WP, WQ, if_true, if_false, eq_self, implies_true, ne_eq, List.nil_append, List.cons_append, ↓reduceIte, Nat.reduceEqDiff, Nat.reduceBEq, reduceCtorEq, Nat.reduceAdd, resA, ret1, qv, lv, ev, boolA, binA, intA, shiftA, cmpA, beqA, lres]
  refine DrawImplyOf_c hb (by omega) fun v A x y H1 hE hA => ?_
  obtain ⟨uv, tv, rfl, hu, ht⟩ := hA.open
  have hS := hA.small
  have hu7 := hA.up
  simp only [↓WP, WQ, if_true, if_false, eq_self, implies_true, ne_eq, List.nil_append, List.cons_append, ↓reduceIte, Nat.reduceEqDiff, Nat.reduceBEq, reduceCtorEq, Nat.reduceAdd, resA, ret1, qv, lv, ev, boolA, binA, intA, shiftA, cmpA, beqA, lres]
  refine NewRowd_in fun b3 hb3 => ?_
  have h0 : (H1.set b3 ⟨26, true, [.nils, .nils]⟩) b3 = some ⟨26, true, [.nils, .nils]⟩ := Hp.set_same _ _ _
  have hE3 := Ext.set (x := ⟨26, true, [uv, tv]⟩) hb3
  have g3 : (H1.set b3 ⟨26, true, [uv, tv]⟩) b3 = some ⟨26, true, [uv, tv]⟩ := Hp.set_same _ _ _
  simp only [↓WP, WQ, if_true, if_false, eq_self, implies_true, ne_eq, List.nil_append, List.cons_append, ↓reduceIte, Nat.reduceEqDiff, Nat.reduceBEq, reduceCtorEq, Nat.reduceAdd, resA, ret1, qv, lv, ev, boolA, binA, intA, shiftA, cmpA, beqA, lres, stA_two (x := uv) (y := tv) h0 (lenA_scal hu.len) (lenA_scal ht.len), Hp.set_set, atN_two g3]
  generalize H1.set b3 ⟨26, true, [uv, tv]⟩ = G at *
  have hu := hu.ext hE3
  have ht := ht.ext hE3
  refine (Classical.em (Has A x y)).elim (fun hh => ?_) (fun hh => ?_)
  rotate_left
  · refine ImplyOf_c hu ht hS (fun h => absurd h hh) (fun _ => ?_)
    simp only [↓WP, WQ, if_true, if_false, eq_self, implies_true, ne_eq, List.nil_append, List.cons_append, ↓reduceIte, Nat.reduceEqDiff, Nat.reduceBEq, reduceCtorEq, Nat.reduceAdd, resA, ret1, qv, lv, ev, boolA, binA, intA, shiftA, cmpA, beqA, lres, atN_two g3]
    refine sImplyOf_c hu ht hS (fun h => absurd h hh) (fun _ => ?_)
    simp only [↓WP, WQ, if_true, if_false, eq_self, implies_true, ne_eq, List.nil_append, List.cons_append, ↓reduceIte, Nat.reduceEqDiff, Nat.reduceBEq, reduceCtorEq, Nat.reduceAdd, resA, ret1, qv, lv, ev, boolA, binA, intA, shiftA, cmpA, beqA, lres, atN_two g3, Int.reduceNeg, Int.reduceLT]
    refine sImplyOf_c hu ht hS (fun h => absurd h hh) (fun _ => ?_)
    simp only [↓WP, WQ, if_true, if_false, eq_self, implies_true, ne_eq, List.nil_append, List.cons_append, ↓reduceIte, Nat.reduceEqDiff, Nat.reduceBEq, reduceCtorEq, Nat.reduceAdd, resA, ret1, qv, lv, ev, boolA, binA, intA, shiftA, cmpA, beqA, lres]
  obtain ⟨hI, hx, hy⟩ := hh.el
  have hie := hI.ie x y
  have hneg : ¬ impF A x y < 0 := by have := hie.1; omega
  have hT : Tab G tv A := ⟨ht, hI.toSquare⟩
  refine ImplyOf_c hu ht hS (fun _ => ?_) (fun h => absurd hh h)
  simp only [↓WP, WQ, if_true, if_false, eq_self, implies_true, ne_eq, List.nil_append, List.cons_append, ↓reduceIte, Nat.reduceEqDiff, Nat.reduceBEq, reduceCtorEq, Nat.reduceAdd, resA, ret1, qv, lv, ev, boolA, binA, intA, shiftA, cmpA, beqA, lres, atN_two g3]
  refine sImplyOf_c hu ht hS (fun _ => ?_) (fun h => absurd hh h)
  simp only [↓WP, WQ, if_true, if_false, eq_self, implies_true, ne_eq, List.nil_append, List.cons_append, ↓reduceIte, Nat.reduceEqDiff, Nat.reduceBEq, reduceCtorEq, Nat.reduceAdd, resA, ret1, qv, lv, ev, boolA, binA, intA, shiftA, cmpA, beqA, lres, hneg]
  refine W_for 0 A.up.length (fun z e H' => H' = G ∧ Sl e [(3, .ptr b3 0), (4, .int .i64 x), (5, .int .i64 y), (6, .int .i64 (impF A x y)), (7, .int .i64 z)]) (by omega) ⟨rfl, by simp only [↓WP, WQ, if_true, if_false, eq_self, implies_true, ne_eq, List.nil_append, List.cons_append, ↓reduceIte, Nat.reduceEqDiff, Nat.reduceBEq, reduceCtorEq, Nat.reduceAdd, resA, ret1, qv, lv, ev, boolA, binA, intA, shiftA, cmpA, beqA, lres]⟩ ?_
  rintro z e H' hz0 hz1 ⟨rfl, hs⟩
  simp only [Sl_cons, Sl_nil, and_true] at hs
  have hw : IntKind.i64.wrap (z + 1) = z + 1 := wrap_id (by omega) (by omega)
  have hwl : IntKind.i64.wrap ((A.up.length : Int) - 1) = A.up.length - 1 := wrap_id (by omega) (by omega)
  refine (Classical.em (z < A.up.length)).elim (fun hz => ?_) (fun hz => ?_) <;> simp only [↓WP, WQ, if_true, if_false, eq_self, implies_true, ne_eq, List.nil_append, List.cons_append, ↓reduceIte, Nat.reduceEqDiff, Nat.reduceBEq, reduceCtorEq, Nat.reduceAdd, resA, ret1, qv, lv, ev, boolA, binA, intA, shiftA, cmpA, beqA, lres, hs, at_fst g3, hu.len, hz]
  · have hze : El A z := ⟨hz0, hz⟩
    refine DR_in (fun _ => True) rfl ?_
    simp only [↓WP, WQ, if_true, if_false, eq_self, implies_true, ne_eq, List.nil_append, List.cons_append, ↓reduceIte, Nat.reduceEqDiff, Nat.reduceBEq, reduceCtorEq, Nat.reduceAdd, resA, ret1, qv, lv, ev, boolA, binA, intA, shiftA, cmpA, beqA, lres, hs, at_fst g3, at_snd g3, hT.idx hx.1 hx.2, hT.at hx.1 hx.2, hT.idx2 hx.1 hx.2 hz0 hz, hT.at2 hx.1 hx.2 hz0 hz]
    refine IsBelow_c hu hS.up (fun _ c1 => ?_) (fun c1 => ?_) <;> simp only [↓WP, WQ, if_true, if_false, eq_self, implies_true, ne_eq, List.nil_append, List.cons_append, ↓reduceIte, Nat.reduceEqDiff, Nat.reduceBEq, reduceCtorEq, Nat.reduceAdd, resA, ret1, qv, lv, ev, boolA, binA, intA, shiftA, cmpA, beqA, lres, hs]
    · refine IsBelow_c hu hS.up (fun _ c2 => ?_) (fun c2 => ?_) <;> simp only [↓WP, WQ, if_true, if_false, eq_self, implies_true, ne_eq, List.nil_append, List.cons_append, ↓reduceIte, Nat.reduceEqDiff, Nat.reduceBEq, reduceCtorEq, Nat.reduceAdd, resA, ret1, qv, lv, ev, boolA, binA, intA, shiftA, cmpA, beqA, lres, hs, bne_self_eq_false, hw, hz]
      exact absurd ⟨⟨hI.toIsLat, hze, hie⟩, (hI.adj hx hy hze).1 c1⟩ c2
    · refine IsBelow_c hu hS.up (fun _ c2 => ?_) (fun c2 => ?_) <;> simp only [↓WP, WQ, if_true, if_false, eq_self, implies_true, ne_eq, List.nil_append, List.cons_append, ↓reduceIte, Nat.reduceEqDiff, Nat.reduceBEq, reduceCtorEq, Nat.reduceAdd, resA, ret1, qv, lv, ev, boolA, binA, intA, shiftA, cmpA, beqA, lres, hs, bne_self_eq_false, hw, hz]
      exact absurd ⟨⟨hI.toIsLat, hI.te hx hze, hy⟩, (hI.adj hx hy hze).2 c2⟩ c1
  · refine DR_in (fun _ => True) rfl ?_
    simp only [↓WP, WQ, if_true, if_false, eq_self, implies_true, ne_eq, List.nil_append, List.cons_append, ↓reduceIte, Nat.reduceEqDiff, Nat.reduceBEq, reduceCtorEq, Nat.reduceAdd, resA, ret1, qv, lv, ev, boolA, binA, intA, shiftA, cmpA, beqA, lres, hs, at_fst g3, hu.len, hwl]
    refine IsBelow_c hu hS.up (fun _ c1 => ?_) (fun c1 => ?_) <;> simp only [↓WP, WQ, if_true, if_false, eq_self, implies_true, ne_eq, List.nil_append, List.cons_append, ↓reduceIte, Nat.reduceEqDiff, Nat.reduceBEq, reduceCtorEq, Nat.reduceAdd, resA, ret1, qv, lv, ev, boolA, binA, intA, shiftA, cmpA, beqA, lres, hs]
    · rw [decide_eq_true ((hI.imp_top hx hy).2 c1)]; rfl
    · rw [decide_eq_false (fun e => c1 ⟨⟨hI.toIsLat, hx, hy⟩, (hI.imp_top hx hy).1 e⟩)]; rfl
end Go.AL

/-
  Classes of a filter: the first element that is near.
-/
namespace Go.AL
open Go.Proofs
set_option linter.unusedSimpArgs false
set_option linter.unusedVariables false
set_option linter.unusedSectionVars false
variable {w0 : World} {H : Hp}

/-- x and y are near, as a filter sees it. -/
def PC (A : Alg) (f x y : Int) : Prop := tb f (nearF A x y) = true
noncomputable def clsF (A : Alg) (f x : Int) : Int := firstI (x + 1) fun k => PC A f x k
noncomputable def clsL (A : Alg) (f : Int) (z : Nat) : List Int := (List.range z).map fun i : Nat => clsF A f i
theorem clsL_len (A : Alg) (f : Int) (z : Nat) : (clsL A f z).length = z := by simp [clsL]
theorem clsL_next (A : Alg) (f : Int) {z : Int} (h0 : 0 ≤ z) : clsL A f (z + 1).toNat = clsL A f z.toNat ++ [clsF A f z] := by
  rw [show (z + 1).toNat = z.toNat + 1 by omega, clsL, List.range_succ, List.map_append]
  simp only [List.map_cons, List.map_nil, Int.toNat_of_nonneg h0]; rfl
theorem clsL_get (A : Alg) (f : Int) {z : Nat} {i : Int} (h0 : 0 ≤ i) (h1 : i < z) : (clsL A f z).getD i.toNat 0 = clsF A f i := by
  rw [clsL, List.getD_eq_getElem?_getD, List.getElem?_map, List.getElem?_range (by omega)]
  simp only [Option.map_some, Option.getD_some, Int.toNat_of_nonneg h0]

section
variable {A : Alg} (hA : IsAlg A) {f : Int} (hf : IsFil A f)
include hA hf
theorem pc_refl {x : Int} (hx : El A x) : PC A f x x := by rw [PC, (hA.near_top hx hx).2 rfl]; exact hf.1
theorem pc_sym {x y : Int} (h : PC A f x y) : PC A f y x := by rw [PC, hA.near_sym]; exact h
theorem pc_trans {x y z : Int} (hx : El A x) (hy : El A y) (hz : El A z) (h : PC A f x y) (k : PC A f y z) : PC A f x z :=
  fil_up hA hf (hA.te hA.near_e hA.near_e) hA.near_e (fil_mul hA hf hA.near_e hA.near_e h k) (hA.near_comp hx hy hz)
theorem pc_top {x : Int} (hx : El A x) : PC A f x (A.up.length - 1) ↔ tb f x = true := by
  have h1 : impF A x (A.up.length - 1) = A.up.length - 1 := (hA.imp_top hx hA.e1).2 (hA.t hx)
  have h2 : impF A (A.up.length - 1) x = x := by
    refine hA.as (hA.ie _ _) hx ?_ (hA.le_imp hA.e1 hx hx (by rw [hA.t1' hx]; exact hA.r hx))
    have := hA.imp_le hA.e1 hx
    rwa [hA.t1' (hA.ie _ _)] at this
  rw [PC, nearF, h1, h2, hA.t1' hx]
theorem cls_spec {x : Int} (hx : El A x) : 0 ≤ clsF A f x ∧ clsF A f x ≤ x ∧ PC A f x (clsF A f x) ∧ ∀ k, 0 ≤ k → k < clsF A f x → ¬ PC A f x k := by
  rcases firstI_spec (n := x + 1) (p := fun k => PC A f x k) with ⟨h0, h1, h2, h3⟩ | ⟨_, h1⟩
  · exact ⟨h0, by unfold clsF; omega, h2, h3⟩
  · exact absurd (pc_refl hA hf hx) (h1 x hx.1 (by omega))
theorem cls_eq {x y : Int} (hx : El A x) (hy : El A y) : clsF A f x = clsF A f y ↔ PC A f x y := by
  obtain ⟨a0, a1, a2, a3⟩ := cls_spec hA hf hx
  obtain ⟨b0, b1, b2, b3⟩ := cls_spec hA hf hy
  have ha : El A (clsF A f x) := ⟨a0, by have := hx.2; omega⟩
  have hb : El A (clsF A f y) := ⟨b0, by have := hy.2; omega⟩
  constructor
  · intro h
    rw [← h] at b2 hb
    exact pc_trans hA hf hx hb hy a2 (pc_sym hA hf b2)
  · intro h
    rcases Int.lt_trichotomy (clsF A f x) (clsF A f y) with h1 | h1 | h1
    · exact absurd (pc_trans hA hf hy hx ha (pc_sym hA hf h) a2) (b3 _ a0 h1)
    · exact h1
    · exact absurd (pc_trans hA hf hx hy hb h b2) (a3 _ b0 h1)
end

theorem classes_c {uv tv : AV} {A : Alg} {f : Int} (h : Ints H uv A.up) (hm : Mat H tv A.times) (hA : IsAlg A) (hs6 : Set6 A f) (hf : IsFil A f) {Q : AV → Hp → Prop} (hq : ∀ r H', Own no H H' [(r, LI (clsL A f A.up.length))] → Q (.sl r 0 A.up.length) H') :
    ACalls Try.prog w0 101 [.agg [uv, tv], .int .i64 f] H Q := by
  refine in101 ?_
  simp only [c101, ↓WP, WQ, if_true, if_false, eq_self, implies_true, ne_eq, List.nil_append, List.cons_append, ↓reduceIte, Nat.reduceEqDiff, Nat.reduceBEq, reduceCtorEq, Nat.reduceAdd, resA, ret1, qv, lv, ev, boolA, binA, intA, shiftA, cmpA, beqA, lres, cells_alg h.len hm.len]
  refine NewRowd_in fun b hb => ?_
  have o := Own.nil0.push (x := ⟨26, true, [uv, tv]⟩) hb
  generalize H.set b ⟨26, true, [uv, tv]⟩ = G at *
  simp only [↓WP, WQ, if_true, if_false, eq_self, implies_true, ne_eq, List.nil_append, List.cons_append, ↓reduceIte, Nat.reduceEqDiff, Nat.reduceBEq, reduceCtorEq, Nat.reduceAdd, resA, ret1, qv, lv, ev, boolA, binA, intA, shiftA, cmpA, beqA, lres, bsl0]
  refine NewRowd_in fun r0 hr0 => ?_
  have o := o.push (x := ⟨3, true, []⟩) hr0
  generalize G.set r0 ⟨3, true, []⟩ = G at *
  have gb := o.get (i := 1) rfl
  have hn6 := hA.hi
  simp only [↓WP, WQ, if_true, if_false, eq_self, implies_true, ne_eq, List.nil_append, List.cons_append, ↓reduceIte, Nat.reduceEqDiff, Nat.reduceBEq, reduceCtorEq, Nat.reduceAdd, resA, ret1, qv, lv, ev, boolA, binA, intA, shiftA, cmpA, beqA, lres, at_fst gb, h.len]
  refine W_for 0 A.up.length (fun z e H' => ∃ r, Sl e [(1, .int .i64 f), (2, .ptr b 0), (5, .sl r 0 (clsL A f z.toNat).length), (11, .int .i64 A.up.length), (12, .int .i64 z)] ∧ Own no H H' [(r, LI (clsL A f z.toNat)), (b, ⟨26, true, [uv, tv]⟩)]) (by omega) ⟨r0, by simp only [↓WP, WQ, if_true, if_false, eq_self, implies_true, ne_eq, List.nil_append, List.cons_append, ↓reduceIte, Nat.reduceEqDiff, Nat.reduceBEq, reduceCtorEq, Nat.reduceAdd, resA, ret1, qv, lv, ev, boolA, binA, intA, shiftA, cmpA, beqA, lres]; rfl, o⟩ ?_
  rintro z e H' hz0 hz1 ⟨r, hs, o⟩
  simp only [Sl_cons, Sl_nil, and_true] at hs
  have hw : IntKind.i64.wrap (z + 1) = z + 1 := wrap_id (by omega) (by omega)
  have gb := o.get (i := 1) rfl
  refine (Classical.em (z < A.up.length)).elim (fun hz => ?_) (fun hz => ?_) <;> simp only [↓WP, WQ, if_true, if_false, eq_self, implies_true, ne_eq, List.nil_append, List.cons_append, ↓reduceIte, Nat.reduceEqDiff, Nat.reduceBEq, reduceCtorEq, Nat.reduceAdd, resA, ret1, qv, lv, ev, boolA, binA, intA, shiftA, cmpA, beqA, lres, hs, hz]
  · refine W_for 0 z (fun k e H'' => H'' = H' ∧ Sl e [(1, .int .i64 f), (2, .ptr b 0), (5, .sl r 0 (clsL A f z.toNat).length), (6, .int .i64 z), (7, .int .i64 k), (11, .int .i64 A.up.length), (12, .int .i64 z)] ∧ allI k fun j => ¬ PC A f z j) hz0 ⟨rfl, by simp only [↓WP, WQ, if_true, if_false, eq_self, implies_true, ne_eq, List.nil_append, List.cons_append, ↓reduceIte, Nat.reduceEqDiff, Nat.reduceBEq, reduceCtorEq, Nat.reduceAdd, resA, ret1, qv, lv, ev, boolA, binA, intA, shiftA, cmpA, beqA, lres, hs], allI_zero⟩ ?_
    rintro k e H'' hk0 hk1 ⟨rfl, hs, hall⟩
    simp only [Sl_cons, Sl_nil, and_true] at hs
    have hwk : IntKind.i64.wrap (k + 1) = k + 1 := wrap_id (by omega) (by omega)
    simp only [↓WP, WQ, if_true, if_false, eq_self, implies_true, ne_eq, List.nil_append, List.cons_append, ↓reduceIte, Nat.reduceEqDiff, Nat.reduceBEq, reduceCtorEq, Nat.reduceAdd, resA, ret1, qv, lv, ev, boolA, binA, intA, shiftA, cmpA, beqA, lres, hs, atN_two gb]
    refine near_c (h.ext o.ext') (hm.ext o.ext') hA hz0 hz hk0 (by omega) ?_
    simp only [↓WP, WQ, if_true, if_false, eq_self, implies_true, ne_eq, List.nil_append, List.cons_append, ↓reduceIte, Nat.reduceEqDiff, Nat.reduceBEq, reduceCtorEq, Nat.reduceAdd, resA, ret1, qv, lv, ev, boolA, binA, intA, shiftA, cmpA, beqA, lres, hs]
    refine has_c hA.near_e.1 (fun hp => ?_) (fun hp => ?_) <;> simp only [↓WP, WQ, if_true, if_false, eq_self, implies_true, ne_eq, List.nil_append, List.cons_append, ↓reduceIte, Nat.reduceEqDiff, Nat.reduceBEq, reduceCtorEq, Nat.reduceAdd, resA, ret1, qv, lv, ev, boolA, binA, intA, shiftA, cmpA, beqA, lres, hs, hwk]
    · simp only [↓WP, WQ, if_true, if_false, eq_self, implies_true, ne_eq, List.nil_append, List.cons_append, ↓reduceIte, Nat.reduceEqDiff, Nat.reduceBEq, reduceCtorEq, Nat.reduceAdd, resA, ret1, qv, lv, ev, boolA, binA, intA, shiftA, cmpA, beqA, lres, hs, bsl1]
      refine NewRowd_in fun r2 hr2 => ?_
      simp only [↓WP, WQ, if_true, if_false, eq_self, implies_true, ne_eq, List.nil_append, List.cons_append, ↓reduceIte, Nat.reduceEqDiff, Nat.reduceBEq, reduceCtorEq, Nat.reduceAdd, resA, ret1, qv, lv, ev, boolA, binA, intA, shiftA, cmpA, beqA, lres, hs]
      refine o.app_num (i := 0) rfl hr2 rfl (by rw [clsL_len]; omega) fun r' G' o => ?_
      have hc : clsF A f z = k := firstI_eq hk0 (by omega) hp fun j j0 j1 => hall j j0 j1
      simp only [↓WP, WQ, if_true, if_false, eq_self, implies_true, ne_eq, List.nil_append, List.cons_append, ↓reduceIte, Nat.reduceEqDiff, Nat.reduceBEq, reduceCtorEq, Nat.reduceAdd, resA, ret1, qv, lv, ev, boolA, binA, intA, shiftA, cmpA, beqA, lres, hs, hw, hz]
      rw [clsL_next A f hz0, hc]
      exact ⟨r', by simp, o⟩
    · have hnp : ¬ PC A f z k := by rw [PC, hp]; simp
      have hkz : k < z := by
        have : k ≠ z := by rintro rfl; exact hnp (pc_refl hA hf ⟨hk0, hz⟩)
        omega
      simp only [hkz, true_and]
      exact (allI_succ hk0).2 ⟨hall, hnp⟩
  · have hze : z.toNat = A.up.length := by omega
    rw [hze] at o ⊢
    rw [clsL_len]
    exact hq r H' (o.sub (.cons_cons _ (List.nil_sublist _)))

theorem sclasses_c {uv tv : AV} {A : Alg} {f : Int} (h : Ints H uv A.up) (hm : Mat H tv A.times) (hA : IsAlg A) (hs6 : Set6 A f) (hf : IsFil A f) {Q : AV → Hp → Prop} (hq : ∀ r H', Own no H H' [(r, LI (clsL A f A.up.length))] → Q (.sl r 0 A.up.length) H') :
    ACalls Try.prog w0 102 [.agg [uv, tv], .int .i64 f] H Q := by
  refine in102 ?_
  simp only [c102, ↓WP, WQ, if_true, if_false, eq_self, implies_true, ne_eq, List.nil_append, List.cons_append, ↓reduceIte, Nat.reduceEqDiff, Nat.reduceBEq, reduceCtorEq, Nat.reduceAdd, resA, ret1, qv, lv, ev, boolA, binA, intA, shiftA, cmpA, beqA, lres, cells_alg h.len hm.len]
  refine NewRowd_in fun b hb => ?_
  have o := Own.nil0.push (x := ⟨26, true, [uv, tv]⟩) hb
  generalize H.set b ⟨26, true, [uv, tv]⟩ = G at *
  simp only [↓WP, WQ, if_true, if_false, eq_self, implies_true, ne_eq, List.nil_append, List.cons_append, ↓reduceIte, Nat.reduceEqDiff, Nat.reduceBEq, reduceCtorEq, Nat.reduceAdd, resA, ret1, qv, lv, ev, boolA, binA, intA, shiftA, cmpA, beqA, lres, bsl0]
  refine NewRowd_in fun r0 hr0 => ?_
  have o := o.push (x := ⟨3, true, []⟩) hr0
  generalize G.set r0 ⟨3, true, []⟩ = G at *
  have gb := o.get (i := 1) rfl
  have hn6 := hA.hi
  simp only [↓WP, WQ, if_true, if_false, eq_self, implies_true, ne_eq, List.nil_append, List.cons_append, ↓reduceIte, Nat.reduceEqDiff, Nat.reduceBEq, reduceCtorEq, Nat.reduceAdd, resA, ret1, qv, lv, ev, boolA, binA, intA, shiftA, cmpA, beqA, lres]
  refine W_for 0 A.up.length (fun z e H' => ∃ r, Sl e [(1, .int .i64 f), (2, .ptr b 0), (5, .sl r 0 (clsL A f z.toNat).length), (6, .int .i64 z)] ∧ Own no H H' [(r, LI (clsL A f z.toNat)), (b, ⟨26, true, [uv, tv]⟩)]) (by omega) ⟨r0, by simp only [↓WP, WQ, if_true, if_false, eq_self, implies_true, ne_eq, List.nil_append, List.cons_append, ↓reduceIte, Nat.reduceEqDiff, Nat.reduceBEq, reduceCtorEq, Nat.reduceAdd, resA, ret1, qv, lv, ev, boolA, binA, intA, shiftA, cmpA, beqA, lres]; rfl, o⟩ ?_
  rintro z e H' hz0 hz1 ⟨r, hs, o⟩
  simp only [Sl_cons, Sl_nil, and_true] at hs
  have hw : IntKind.i64.wrap (z + 1) = z + 1 := wrap_id (by omega) (by omega)
  have hw' : IntKind.i64.wrap (z - 1) = z - 1 := wrap_id (by omega) (by omega)
  have gb := o.get (i := 1) rfl
  refine (Classical.em (z < A.up.length)).elim (fun hz => ?_) (fun hz => ?_) <;> simp only [↓WP, WQ, if_true, if_false, eq_self, implies_true, ne_eq, List.nil_append, List.cons_append, ↓reduceIte, Nat.reduceEqDiff, Nat.reduceBEq, reduceCtorEq, Nat.reduceAdd, resA, ret1, qv, lv, ev, boolA, binA, intA, shiftA, cmpA, beqA, lres, hs, at_fst gb, h.len, hz, hw']
  · refine W_for 0 z (fun t e H'' => H'' = H' ∧ ∃ c : Int, Sl e [(1, .int .i64 f), (2, .ptr b 0), (5, .sl r 0 (clsL A f z.toNat).length), (6, .int .i64 z), (7, .int .i64 c), (8, .int .i64 (z - 1 - t))] ∧ z - t ≤ c ∧ c ≤ z ∧ PC A f z c ∧ ∀ j : Int, z - t ≤ j → j < c → ¬ PC A f z j) hz0 ⟨rfl, z, by simp only [↓WP, WQ, if_true, if_false, eq_self, implies_true, ne_eq, List.nil_append, List.cons_append, ↓reduceIte, Nat.reduceEqDiff, Nat.reduceBEq, reduceCtorEq, Nat.reduceAdd, resA, ret1, qv, lv, ev, boolA, binA, intA, shiftA, cmpA, beqA, lres, hs, Int.sub_zero], by omega, by omega, pc_refl hA hf ⟨hz0, hz⟩, fun j _ _ => by omega⟩ ?_
    rintro t e H'' ht0 ht1 ⟨rfl, c, hs, hc0, hc1, hc, hall⟩
    simp only [Sl_cons, Sl_nil, and_true] at hs
    have hwt : IntKind.i64.wrap (z - 1 - t - 1) = z - 1 - (t + 1) := by rw [wrap_id (by omega) (by omega)]; omega
    refine (Classical.em (0 ≤ z - 1 - t)).elim (fun ht => ?_) (fun ht => ?_) <;> simp only [↓WP, WQ, if_true, if_false, eq_self, implies_true, ne_eq, List.nil_append, List.cons_append, ↓reduceIte, Nat.reduceEqDiff, Nat.reduceBEq, reduceCtorEq, Nat.reduceAdd, resA, ret1, qv, lv, ev, boolA, binA, intA, shiftA, cmpA, beqA, lres, hs, ht, atN_two gb]
    · refine snear_c (h.ext o.ext') (hm.ext o.ext') hA hz0 hz ht (by omega) ?_
      simp only [↓WP, WQ, if_true, if_false, eq_self, implies_true, ne_eq, List.nil_append, List.cons_append, ↓reduceIte, Nat.reduceEqDiff, Nat.reduceBEq, reduceCtorEq, Nat.reduceAdd, resA, ret1, qv, lv, ev, boolA, binA, intA, shiftA, cmpA, beqA, lres, hs]
      have hbit : (0 : Int) ≤ nearF A z (z - 1 - t) ∧ nearF A z (z - 1 - t) ≤ 62 := by have := (hA.near_e (x := z) (y := z - 1 - t)).1; have := (hA.near_e (x := z) (y := z - 1 - t)).2; omega
      refine bit_c _ _ hs6.1 (hs6.lt hA) hbit.1 hbit.2 (fun hp => ?_) (fun hp => ?_) <;> simp only [↓WP, WQ, if_true, if_false, eq_self, implies_true, ne_eq, List.nil_append, List.cons_append, ↓reduceIte, Nat.reduceEqDiff, Nat.reduceBEq, reduceCtorEq, Nat.reduceAdd, resA, ret1, qv, lv, ev, boolA, binA, intA, shiftA, cmpA, beqA, lres, hs, hwt, Int.reduceEq]
      · exact ⟨by omega, _, rfl, by omega, by omega, hp, fun j _ _ => by omega⟩
      · refine ⟨by omega, c, rfl, by omega, by omega, hc, fun j j0 j1 => ?_⟩
        by_cases hj : j = z - 1 - t
        · rw [hj, PC, hp]; simp
        · exact hall j (by omega) j1
    · simp only [↓WP, WQ, if_true, if_false, eq_self, implies_true, ne_eq, List.nil_append, List.cons_append, ↓reduceIte, Nat.reduceEqDiff, Nat.reduceBEq, reduceCtorEq, Nat.reduceAdd, resA, ret1, qv, lv, ev, boolA, binA, intA, shiftA, cmpA, beqA, lres, hs, bsl1]
      refine NewRowd_in fun r2 hr2 => ?_
      simp only [↓WP, WQ, if_true, if_false, eq_self, implies_true, ne_eq, List.nil_append, List.cons_append, ↓reduceIte, Nat.reduceEqDiff, Nat.reduceBEq, reduceCtorEq, Nat.reduceAdd, resA, ret1, qv, lv, ev, boolA, binA, intA, shiftA, cmpA, beqA, lres, hs]
      refine o.app_num (i := 0) rfl hr2 rfl (by rw [clsL_len]; omega) fun r' G' o => ?_
      have hc : clsF A f z = c := firstI_eq (by omega) (by omega) hc fun j j0 j1 => hall j (by omega) j1
      simp only [↓WP, WQ, if_true, if_false, eq_self, implies_true, ne_eq, List.nil_append, List.cons_append, ↓reduceIte, Nat.reduceEqDiff, Nat.reduceBEq, reduceCtorEq, Nat.reduceAdd, resA, ret1, qv, lv, ev, boolA, binA, intA, shiftA, cmpA, beqA, lres, hs, hw, hz]
      rw [clsL_next A f hz0, hc]
      exact ⟨r', by simp, o⟩
  · have hze : z.toNat = A.up.length := by omega
    rw [hze] at o ⊢
    rw [clsL_len]
    exact hq r H' (o.sub (.cons_cons _ (List.nil_sublist _)))

theorem ClassesOf_c {uv tv : AV} {A : Alg} {f : Int} (h : Ints H uv A.up) (hm : Mat H tv A.times) (hS : Small A) {Q : AV → Hp → Prop} (hq : ∀ v H', ListV H H' (IsAlg A ∧ Set6 A f ∧ IsFil A f) (clsL A f A.up.length) v → Q v H') :
    ACalls Try.prog w0 60 [.agg [uv, tv], .int .i64 f] H Q := by
  refine in60 ?_
  simp only [c60, ↓WP, WQ, if_true, if_false, eq_self, implies_true, ne_eq, List.nil_append, List.cons_append, ↓reduceIte, Nat.reduceEqDiff, Nat.reduceBEq, reduceCtorEq, Nat.reduceAdd, resA, ret1, qv, lv, ev, boolA, binA, intA, shiftA, cmpA, beqA, lres, cells_alg h.len hm.len]
  refine NewRowd_in fun b hb => ?_
  have o := Own.nil0.push (x := ⟨26, true, [uv, tv]⟩) hb
  generalize H.set b ⟨26, true, [uv, tv]⟩ = G at *
  have gb := o.get (i := 0) rfl
  have h := h.ext o.ext'
  have hm := hm.ext o.ext'
  simp only [↓WP, WQ, if_true, if_false, eq_self, implies_true, ne_eq, List.nil_append, List.cons_append, ↓reduceIte, Nat.reduceEqDiff, Nat.reduceBEq, reduceCtorEq, Nat.reduceAdd, resA, ret1, qv, lv, ev, boolA, binA, intA, shiftA, cmpA, beqA, lres, atN_two gb]
  refine IsFilter_c h hm hS (fun hc => ?_) (fun hc => ?_) <;> simp only [↓WP, WQ, if_true, if_false, eq_self, implies_true, ne_eq, List.nil_append, List.cons_append, ↓reduceIte, Nat.reduceEqDiff, Nat.reduceBEq, reduceCtorEq, Nat.reduceAdd, resA, ret1, qv, lv, ev, boolA, binA, intA, shiftA, cmpA, beqA, lres, atN_two gb]
  · refine classes_c h hm hc.1 hc.2.1 hc.2.2 fun r H' o' => ?_
    simp only [↓WP, WQ, if_true, if_false, eq_self, implies_true, ne_eq, List.nil_append, List.cons_append, ↓reduceIte, Nat.reduceEqDiff, Nat.reduceBEq, reduceCtorEq, Nat.reduceAdd, resA, ret1, qv, lv, ev, boolA, binA, intA, shiftA, cmpA, beqA, lres]
    exact hq _ _ (Or.inr ⟨hc, r, by rw [clsL_len], (o.call o' (fun _ e => e)).sub (.cons_cons _ (List.nil_sublist _))⟩)
  · exact hq _ _ (Or.inl ⟨hc, rfl, o.ext'⟩)
theorem sClassesOf_c {uv tv : AV} {A : Alg} {f : Int} (h : Ints H uv A.up) (hm : Mat H tv A.times) (hS : Small A) {Q : AV → Hp → Prop} (hq : ∀ v H', ListV H H' (IsAlg A ∧ Set6 A f ∧ IsFil A f) (clsL A f A.up.length) v → Q v H') :
    ACalls Try.prog w0 61 [.agg [uv, tv], .int .i64 f] H Q := by
  refine in61 ?_
  simp only [c61, ↓WP, WQ, if_true, if_false, eq_self, implies_true, ne_eq, List.nil_append, List.cons_append, ↓reduceIte, Nat.reduceEqDiff, Nat.reduceBEq, reduceCtorEq, Nat.reduceAdd, resA, ret1, qv, lv, ev, boolA, binA, intA, shiftA, cmpA, beqA, lres, cells_alg h.len hm.len]
  refine NewRowd_in fun b hb => ?_
  have o := Own.nil0.push (x := ⟨26, true, [uv, tv]⟩) hb
  generalize H.set b ⟨26, true, [uv, tv]⟩ = G at *
  have gb := o.get (i := 0) rfl
  have h := h.ext o.ext'
  have hm := hm.ext o.ext'
  simp only [↓WP, WQ, if_true, if_false, eq_self, implies_true, ne_eq, List.nil_append, List.cons_append, ↓reduceIte, Nat.reduceEqDiff, Nat.reduceBEq, reduceCtorEq, Nat.reduceAdd, resA, ret1, qv, lv, ev, boolA, binA, intA, shiftA, cmpA, beqA, lres, atN_two gb]
  refine svalidAlgebra_c h hm hS (fun hA => ?_) (fun hA => ?_) <;> simp only [↓WP, WQ, if_true, if_false, eq_self, implies_true, ne_eq, List.nil_append, List.cons_append, ↓reduceIte, Nat.reduceEqDiff, Nat.reduceBEq, reduceCtorEq, Nat.reduceAdd, resA, ret1, qv, lv, ev, boolA, binA, intA, shiftA, cmpA, beqA, lres, atN_two gb]
  · refine sisFilter_c h hm hA (fun hc => ?_) (fun hc => ?_) <;> simp only [↓WP, WQ, if_true, if_false, eq_self, implies_true, ne_eq, List.nil_append, List.cons_append, ↓reduceIte, Nat.reduceEqDiff, Nat.reduceBEq, reduceCtorEq, Nat.reduceAdd, resA, ret1, qv, lv, ev, boolA, binA, intA, shiftA, cmpA, beqA, lres, atN_two gb]
    · refine sclasses_c h hm hA hc.1 hc.2 fun r H' o' => ?_
      simp only [↓WP, WQ, if_true, if_false, eq_self, implies_true, ne_eq, List.nil_append, List.cons_append, ↓reduceIte, Nat.reduceEqDiff, Nat.reduceBEq, reduceCtorEq, Nat.reduceAdd, resA, ret1, qv, lv, ev, boolA, binA, intA, shiftA, cmpA, beqA, lres]
      exact hq _ _ (Or.inr ⟨⟨hA, hc⟩, r, by rw [clsL_len], (o.call o' (fun _ e => e)).sub (.cons_cons _ (List.nil_sublist _))⟩)
    · exact hq _ _ (Or.inl ⟨fun h => hc h.2, rfl, o.ext'⟩)
  · exact hq _ _ (Or.inl ⟨fun h => hA h.1, rfl, o.ext'⟩)
end Go.AL

/-
  The law of ClassesOf.
-/
namespace Go.AL
open Go.Proofs
set_option linter.unusedSimpArgs false
set_option linter.unusedVariables false
variable {w0 : World} {H : Hp}

theorem FnClassesOf_l {bv : AV} {m : Nat} (hb : Byt H bv m) (hm : m ≤ 9223372036854775807) : ACalls Try.prog w0 14 [bv] H fun v _ => v = .bool true := by
  refine in14 ?_
  simp only [c14, ↓WP, WQ, if_true, if_false, eq_self, implies_true, ne_eq, List.nil_append, List.cons_append, ↓reduceIte, Nat.reduceEqDiff, Nat.reduceBEq, reduceCtorEq, Nat.reduceAdd, resA, ret1, qv, lv, ev, boolA, binA, intA, shiftA, cmpA, beqA, lres, hb.1]
  refine Br_dec (fun h1 => ?_) (fun h1 => ?_) <;> simp only [↓WP, WQ, if_true, if_false, eq_self, implies_true, ne_eq, List.nil_append, List.cons_append, ↓reduceIte, Nat.reduceEqDiff, Nat.reduceBEq, reduceCtorEq, Nat.reduceAdd, resA, ret1, qv, lv, ev, boolA, binA, intA, shiftA, cmpA, beqA, lres]
  refine DrawClassesOf_c hb (by omega) fun v A f H1 hE hA => ?_
  obtain ⟨uv, tv, rfl, hu, ht⟩ := hA.open
  have hS := hA.small
  have hu7 := hA.up
  simp only [↓WP, WQ, if_true, if_false, eq_self, implies_true, ne_eq, List.nil_append, List.cons_append, ↓reduceIte, Nat.reduceEqDiff, Nat.reduceBEq, reduceCtorEq, Nat.reduceAdd, resA, ret1, qv, lv, ev, boolA, binA, intA, shiftA, cmpA, beqA, lres]
  refine NewRowd_in fun b3 hb3 => ?_
  have h0 : (H1.set b3 ⟨26, true, [.nils, .nils]⟩) b3 = some ⟨26, true, [.nils, .nils]⟩ := Hp.set_same _ _ _
  have hE3 := Ext.set (x := ⟨26, true, [uv, tv]⟩) hb3
  have g3 : (H1.set b3 ⟨26, true, [uv, tv]⟩) b3 = some ⟨26, true, [uv, tv]⟩ := Hp.set_same _ _ _
  simp only [↓WP, WQ, if_true, if_false, eq_self, implies_true, ne_eq, List.nil_append, List.cons_append, ↓reduceIte, Nat.reduceEqDiff, Nat.reduceBEq, reduceCtorEq, Nat.reduceAdd, resA, ret1, qv, lv, ev, boolA, binA, intA, shiftA, cmpA, beqA, lres, stA_two (x := uv) (y := tv) h0 (lenA_scal hu.len) (lenA_scal ht.len), Hp.set_set, atN_two g3]
  generalize H1.set b3 ⟨26, true, [uv, tv]⟩ = G at *
  have hu := hu.ext hE3
  have ht := ht.ext hE3
  have hwl : IntKind.i64.wrap ((A.up.length : Int) - 1) = A.up.length - 1 := wrap_id (by omega) (by omega)
  have hcl : (clsL A f A.up.length).length = A.up.length := clsL_len _ _ _
  refine ClassesOf_c hu ht hS fun v1 G1 hv1 => ?_
  obtain ⟨hE1, l1, e1, e1', hl1⟩ := hv1.ints
  have g3 := hE1.get g3
  have hu := hu.ext hE1
  have ht := ht.ext hE1
  simp only [↓WP, WQ, if_true, if_false, eq_self, implies_true, ne_eq, List.nil_append, List.cons_append, ↓reduceIte, Nat.reduceEqDiff, Nat.reduceBEq, reduceCtorEq, Nat.reduceAdd, resA, ret1, qv, lv, ev, boolA, binA, intA, shiftA, cmpA, beqA, lres, atN_two g3]
  refine sClassesOf_c hu ht hS fun v2 G2 hv2 => ?_
  obtain ⟨hE2, l2, e2, e2', hl2⟩ := hv2.ints
  have g3 := hE2.get g3
  have hu := hu.ext hE2
  have ht := ht.ext hE2
  have hl1 := hl1.ext hE2
  refine (Classical.em (IsAlg A ∧ Set6 A f ∧ IsFil A f)).elim (fun hI => ?_) (fun hI => ?_)
  rotate_left
  · have k1 := e1' hI
    have k2 := e2' hI
    subst k1
    subst k2
    simp only [↓WP, WQ, if_true, if_false, eq_self, implies_true, ne_eq, List.nil_append, List.cons_append, ↓reduceIte, Nat.reduceEqDiff, Nat.reduceBEq, reduceCtorEq, Nat.reduceAdd, resA, ret1, qv, lv, ev, boolA, binA, intA, shiftA, cmpA, beqA, lres]
    refine equalInts_c hl1 hl2 (by simp) (by simp) (fun _ => ?_) (fun h => absurd rfl h)
    have hz : ((([] : List Int).length : Nat) : Int) = 0 := rfl
    simp only [↓WP, WQ, if_true, if_false, eq_self, implies_true, ne_eq, List.nil_append, List.cons_append, ↓reduceIte, Nat.reduceEqDiff, Nat.reduceBEq, reduceCtorEq, Nat.reduceAdd, resA, ret1, qv, lv, ev, boolA, binA, intA, shiftA, cmpA, beqA, lres, hl1.len, hz, atN_two g3]
    refine sClassesOf_c hu ht hS fun v3 G3 hv3 => ?_
    obtain ⟨hE3, l3, e3, e3', hl3⟩ := hv3.ints
    have k3 := e3' hI
    subst k3
    simp only [↓WP, WQ, if_true, if_false, eq_self, implies_true, ne_eq, List.nil_append, List.cons_append, ↓reduceIte, Nat.reduceEqDiff, Nat.reduceBEq, reduceCtorEq, Nat.reduceAdd, resA, ret1, qv, lv, ev, boolA, binA, intA, shiftA, cmpA, beqA, lres]
    refine equalInts_c (hl1.ext hE3) hl3 (by simp) (by simp) (fun _ => ?_) (fun h => absurd rfl h)
    simp only [↓WP, WQ, if_true, if_false, eq_self, implies_true, ne_eq, List.nil_append, List.cons_append, ↓reduceIte, Nat.reduceEqDiff, Nat.reduceBEq, reduceCtorEq, Nat.reduceAdd, resA, ret1, qv, lv, ev, boolA, binA, intA, shiftA, cmpA, beqA, lres]
  have k1 := e1 hI
  have k2 := e2 hI
  subst k1
  subst k2
  obtain ⟨hA', hs6, hf⟩ := hI
  have hn6 := hA'.hi
  have hn1 := hA'.lo
  have hf62 := hs6.lt hA'
  simp only [↓WP, WQ, if_true, if_false, eq_self, implies_true, ne_eq, List.nil_append, List.cons_append, ↓reduceIte, Nat.reduceEqDiff, Nat.reduceBEq, reduceCtorEq, Nat.reduceAdd, resA, ret1, qv, lv, ev, boolA, binA, intA, shiftA, cmpA, beqA, lres]
  refine equalInts_c hl1 hl2 (by omega) (by omega) (fun _ => ?_) (fun h => absurd rfl h)
  have hne : ¬ ((A.up.length : Int) = 0) := by omega
  have hl1l := hl1.len
  rw [hcl] at hl1l
  have hix : ∀ {i : Int}, El A i → idxA 1 v1 (.int .i64 i) = some (elt 1 v1 i.toNat) := fun hi => hl1.idx hi.1 (by rw [hcl]; exact hi.2)
  have hat : ∀ {i : Int}, El A i → G2.at (elt 1 v1 i.toNat) = some (.int .i64 (clsF A f i)) := fun hi => by
    rw [hl1.at (by rw [hcl]; have := hi.1; have := hi.2; omega), clsL_get A f hi.1 hi.2]
  simp only [↓WP, WQ, if_true, if_false, eq_self, implies_true, ne_eq, List.nil_append, List.cons_append, ↓reduceIte, Nat.reduceEqDiff, Nat.reduceBEq, reduceCtorEq, Nat.reduceAdd, resA, ret1, qv, lv, ev, boolA, binA, intA, shiftA, cmpA, beqA, lres, hl1l, decide_eq_false hne, at_fst g3, hu.len]
  refine W_for 0 A.up.length (fun x e H' => H' = G2 ∧ Sl e [(3, .ptr b3 0), (4, .int .i64 f), (5, v1), (6, .int .i64 A.up.length), (7, .int .i64 x)]) (by omega) ⟨rfl, by simp only [↓WP, WQ, if_true, if_false, eq_self, implies_true, ne_eq, List.nil_append, List.cons_append, ↓reduceIte, Nat.reduceEqDiff, Nat.reduceBEq, reduceCtorEq, Nat.reduceAdd, resA, ret1, qv, lv, ev, boolA, binA, intA, shiftA, cmpA, beqA, lres]⟩ ?_
  rintro x e H' hx0 hx1 ⟨rfl, hs⟩
  simp only [Sl_cons, Sl_nil, and_true] at hs
  have hw : IntKind.i64.wrap (x + 1) = x + 1 := wrap_id (by omega) (by omega)
  refine (Classical.em (x < A.up.length)).elim (fun hx => ?_) (fun hx => ?_) <;> simp only [↓WP, WQ, if_true, if_false, eq_self, implies_true, ne_eq, List.nil_append, List.cons_append, ↓reduceIte, Nat.reduceEqDiff, Nat.reduceBEq, reduceCtorEq, Nat.reduceAdd, resA, ret1, qv, lv, ev, boolA, binA, intA, shiftA, cmpA, beqA, lres, hs, hx]
  have ex : El A x := ⟨hx0, hx⟩
  refine W_for 0 A.up.length (fun y e H'' => H'' = H' ∧ Sl e [(3, .ptr b3 0), (4, .int .i64 f), (5, v1), (6, .int .i64 A.up.length), (7, .int .i64 x), (8, .int .i64 y)]) (by omega) ⟨rfl, by simp only [↓WP, WQ, if_true, if_false, eq_self, implies_true, ne_eq, List.nil_append, List.cons_append, ↓reduceIte, Nat.reduceEqDiff, Nat.reduceBEq, reduceCtorEq, Nat.reduceAdd, resA, ret1, qv, lv, ev, boolA, binA, intA, shiftA, cmpA, beqA, lres, hs]⟩ ?_
  rintro y e H'' hy0 hy1 ⟨rfl, hs⟩
  simp only [Sl_cons, Sl_nil, and_true] at hs
  have hwy : IntKind.i64.wrap (y + 1) = y + 1 := wrap_id (by omega) (by omega)
  refine (Classical.em (y < A.up.length)).elim (fun hy => ?_) (fun hy => ?_) <;> simp only [↓WP, WQ, if_true, if_false, eq_self, implies_true, ne_eq, List.nil_append, List.cons_append, ↓reduceIte, Nat.reduceEqDiff, Nat.reduceBEq, reduceCtorEq, Nat.reduceAdd, resA, ret1, qv, lv, ev, boolA, binA, intA, shiftA, cmpA, beqA, lres, hs, hy]
  · have ey : El A y := ⟨hy0, hy⟩
    refine DR_in (fun _ => True) rfl ?_
    simp only [↓WP, WQ, if_true, if_false, eq_self, implies_true, ne_eq, List.nil_append, List.cons_append, ↓reduceIte, Nat.reduceEqDiff, Nat.reduceBEq, reduceCtorEq, Nat.reduceAdd, resA, ret1, qv, lv, ev, boolA, binA, intA, shiftA, cmpA, beqA, lres, hs, hix ex, hat ex, hix ey, hat ey, atN_two g3]
    refine NearOf_c hu ht hS (fun _ => ?_) (fun h => absurd ⟨hA', ⟨hx0, hx⟩, ⟨hy0, hy⟩⟩ h)
    simp only [↓WP, WQ, if_true, if_false, eq_self, implies_true, ne_eq, List.nil_append, List.cons_append, ↓reduceIte, Nat.reduceEqDiff, Nat.reduceBEq, reduceCtorEq, Nat.reduceAdd, resA, ret1, qv, lv, ev, boolA, binA, intA, shiftA, cmpA, beqA, lres, hs]
    have hne := hA'.near_e (x := x) (y := y)
    have hce := cls_eq hA' hf ex ey
    refine lbit_c _ _ hs6.1 hf62 hne.1 (by have := hne.2; omega) (fun hb => ?_) (fun hb => ?_)
    · have h3 : clsF A f x = clsF A f y := hce.2 hb
      simp only [↓WP, WQ, if_true, if_false, eq_self, implies_true, ne_eq, List.nil_append, List.cons_append, ↓reduceIte, Nat.reduceEqDiff, Nat.reduceBEq, reduceCtorEq, Nat.reduceAdd, resA, ret1, qv, lv, ev, boolA, binA, intA, shiftA, cmpA, beqA, lres, hs, decide_eq_true h3, beq_self_eq_true, bne_self_eq_false, hwy, hy]
    · have h3 : ¬ clsF A f x = clsF A f y := fun h => by have := hce.1 h; rw [PC, hb] at this; cases this
      simp only [↓WP, WQ, if_true, if_false, eq_self, implies_true, ne_eq, List.nil_append, List.cons_append, ↓reduceIte, Nat.reduceEqDiff, Nat.reduceBEq, reduceCtorEq, Nat.reduceAdd, resA, ret1, qv, lv, ev, boolA, binA, intA, shiftA, cmpA, beqA, lres, hs, decide_eq_false h3, beq_self_eq_true, bne_self_eq_false, Int.reduceEq, hwy, hy]
  · refine DR_in (fun _ => True) rfl ?_
    have e1 := hA'.e1
    have hce := (cls_eq hA' hf ex e1).trans (pc_top hA' hf ex)
    have hle := (cls_spec hA' hf ex).2.1
    have hle' : ¬ x < clsF A f x := by omega
    simp only [↓WP, WQ, if_true, if_false, eq_self, implies_true, ne_eq, List.nil_append, List.cons_append, ↓reduceIte, Nat.reduceEqDiff, Nat.reduceBEq, reduceCtorEq, Nat.reduceAdd, resA, ret1, qv, lv, ev, boolA, binA, intA, shiftA, cmpA, beqA, lres, hs, hix ex, hat ex, hwl, hix e1, hat e1]
    refine lbit_c _ _ hs6.1 hf62 hx0 (by omega) (fun hb => ?_) (fun hb => ?_)
    · have h3 : clsF A f x = clsF A f (A.up.length - 1) := hce.2 hb
      simp only [↓WP, WQ, if_true, if_false, eq_self, implies_true, ne_eq, List.nil_append, List.cons_append, ↓reduceIte, Nat.reduceEqDiff, Nat.reduceBEq, reduceCtorEq, Nat.reduceAdd, resA, ret1, qv, lv, ev, boolA, binA, intA, shiftA, cmpA, beqA, lres, hs, decide_eq_true h3, beq_self_eq_true, bne_self_eq_false, hix ex, hat ex, decide_eq_false hle', hw, hx]
    · have h3 : ¬ clsF A f x = clsF A f (A.up.length - 1) := fun h => by rw [hce.1 h] at hb; cases hb
      simp only [↓WP, WQ, if_true, if_false, eq_self, implies_true, ne_eq, List.nil_append, List.cons_append, ↓reduceIte, Nat.reduceEqDiff, Nat.reduceBEq, reduceCtorEq, Nat.reduceAdd, resA, ret1, qv, lv, ev, boolA, binA, intA, shiftA, cmpA, beqA, lres, hs, decide_eq_false h3, beq_self_eq_true, bne_self_eq_false, Int.reduceEq, hix ex, hat ex, decide_eq_false hle', hw, hx]
end Go.AL

/-
  The given statement FnClassesOfSaid is proved: for every input the law FnClassesOf returns true, and its argument reads as before. Conditions: none beyond the given row's own.
-/
namespace Go.Proofs.Ytijpoplbdjfhaaa
open Go.AL Go.ChangeShapes Go.WideShapes
set_option maxRecDepth 100000

theorem try_own : ownKnob Try.prog.godebug = Option.none := by kernel_rfl
theorem try_kids : Kids Try.prog (· < Try.prog.types.size) := kids_rows (by kernel_rfl) (by kernel_rfl)
theorem try_full : ∀ t e, t < Try.prog.types.size → Try.prog.underlying t = some (.slice e) → 0 < Try.prog.cellsOf e := slices_full_of Try.prog (by kernel_rfl)
theorem try_byte : Try.prog.cellsOf 5 = 1 := by kernel_rfl

theorem lifted (os : Os) (started : os.Started) (H : Type) (enc : TypeId × Value → H) :
    ReturnsInHanded {} Try.checked os 14 .any (Rows.fnClassesOfSpec.pre6 enc Try.prog Try.f14 Rows.fnClassesOfRow.domain false) (Rows.fnClassesOfSpec.post enc Try.prog Try.f14 false true false false) :=
  handed_bytes (C := Try.checked) (t := 22) (e := 5) (tb := 4) try_own started (by kernel_rfl) Try.func14
    (ChangeSpec.witness6 (enc := enc) (C := Try.checked) false ⟨#[], #[.slice Option.none 0 0], []⟩ 8 (by kernel_rfl) (by kernel_rfl) (by kernel_rfl) (by kernel_rfl))
    try_kids try_full Try.params14 (of_decide_eq_true (by kernel_rfl)) Try.underlying22 Try.underlying5 try_byte rfl (by kernel_rfl) Try.underlying4 (fun _ => rfl)
    (fun w0 bv n H hb hn => FnClassesOf_l hb hn)

theorem fnClassesOf_holds : Rows.FnClassesOfSaid :=
  OpenClaim.holds_of_wide 14 Try.f14 rfl rfl rfl rfl rfl rfl rfl ⟨rfl, rfl, rfl, rfl, rfl⟩ rfl rfl rfl rfl rfl (by kernel_rfl) Try.func14 (by kernel_rfl)
    (of_decide_eq_true (by kernel_rfl)) (by unfold Func.isWrapper; first | (rw [if_pos (by decide +kernel)]; kernel_rfl) | (rw [if_neg (by decide +kernel)]; exact ⟨rfl, rfl⟩))
    (fun os started H enc _ => lifted os started H enc)

#print axioms fnClassesOf_holds
end Go.Proofs.Ytijpoplbdjfhaaa
