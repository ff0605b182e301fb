/-
  The given statement FnDepthOfSaid is proved: for every input the law FnDepthOf returns true, and each argument reads as it did before the call. Conditions: none beyond the given row.
-/
import Derived.Test.YtijpoplbdjfhaaaM3
import Derived.Test.YtijpoplbdjfhaaaM4
import Derived.Test.YtijpoplbdjfhaaaRows
/-
  The law of ImplyOf.
-/
namespace Go.AL
open Go.Proofs
set_option linter.unusedSimpArgs false
set_option linter.unusedVariables false
variable {w0 : World} {H : Hp}

theorem Has.el {A : Alg} {x y : Int} (h : Has A x y) : IsAlg A ∧ El A x ∧ El A y := h

theorem FnImplyOf_l {bv : AV} {m : Nat} (hb : Byt H bv m) (hm : m ≤ 9223372036854775807) : ACalls Try.prog w0 3 [bv] H fun v _ => v = .bool true := by
  refine in3 ?_
  simp only [c3, ↓WP, WQ, if_true, if_false, eq_self, implies_true, ne_eq, List.nil_append, List.cons_append, ↓reduceIte, Nat.reduceEqDiff, Nat.reduceBEq, reduceCtorEq, Nat.reduceAdd, resA, ret1, qv, lv, ev, boolA, binA, intA, shiftA, cmpA, beqA, lres, hb.1]
  refine Br_dec (fun h1 => ?_) (fun h1 => ?_) <;> simp only [↓WP, WQ, if_true, if_false, eq_self, implies_true, ne_eq, List.nil_append, List.cons_append, ↓reduceIte, Nat.reduceEqDiff, Nat.reduceBEq, reduceCtorEq, Nat.reduceAdd, resA, ret1, qv, lv, ev, boolA, binA, intA, shiftA, cmpA, beqA, lres]
  refine DrawImplyOf_c hb (by omega) fun v A x y H1 hE hA => ?_
  obtain ⟨uv, tv, rfl, hu, ht⟩ := hA.open
  have hS := hA.small
  have hu7 := hA.up
  simp only [↓WP, WQ, if_true, if_false, eq_self, implies_true, ne_eq, List.nil_append, List.cons_append, ↓reduceIte, Nat.reduceEqDiff, Nat.reduceBEq, reduceCtorEq, Nat.reduceAdd, resA, ret1, qv, lv, ev, boolA, binA, intA, shiftA, cmpA, beqA, lres]
  refine NewRowd_in fun b3 hb3 => ?_
  have h0 : (H1.set b3 ⟨26, true, [.nils, .nils]⟩) b3 = some ⟨26, true, [.nils, .nils]⟩ := Hp.set_same _ _ _
  have hE3 := Ext.set (x := ⟨26, true, [uv, tv]⟩) hb3
  have g3 : (H1.set b3 ⟨26, true, [uv, tv]⟩) b3 = some ⟨26, true, [uv, tv]⟩ := Hp.set_same _ _ _
  simp only [↓WP, WQ, if_true, if_false, eq_self, implies_true, ne_eq, List.nil_append, List.cons_append, ↓reduceIte, Nat.reduceEqDiff, Nat.reduceBEq, reduceCtorEq, Nat.reduceAdd, resA, ret1, qv, lv, ev, boolA, binA, intA, shiftA, cmpA, beqA, lres, stA_two (x := uv) (y := tv) h0 (lenA_scal hu.len) (lenA_scal ht.len), Hp.set_set, atN_two g3]
  generalize H1.set b3 ⟨26, true, [uv, tv]⟩ = G at *
  have hu := hu.ext hE3
  have ht := ht.ext hE3
  refine (Classical.em (Has A x y)).elim (fun hh => ?_) (fun hh => ?_)
  rotate_left
  · refine ImplyOf_c hu ht hS (fun h => absurd h hh) (fun _ => ?_)
    simp only [↓WP, WQ, if_true, if_false, eq_self, implies_true, ne_eq, List.nil_append, List.cons_append, ↓reduceIte, Nat.reduceEqDiff, Nat.reduceBEq, reduceCtorEq, Nat.reduceAdd, resA, ret1, qv, lv, ev, boolA, binA, intA, shiftA, cmpA, beqA, lres, atN_two g3]
    refine sImplyOf_c hu ht hS (fun h => absurd h hh) (fun _ => ?_)
    simp only [↓WP, WQ, if_true, if_false, eq_self, implies_true, ne_eq, List.nil_append, List.cons_append, ↓reduceIte, Nat.reduceEqDiff, Nat.reduceBEq, reduceCtorEq, Nat.reduceAdd, resA, ret1, qv, lv, ev, boolA, binA, intA, shiftA, cmpA, beqA, lres, atN_two g3, Int.reduceNeg, Int.reduceLT]
    refine sImplyOf_c hu ht hS (fun h => absurd h hh) (fun _ => ?_)
    simp only [↓WP, WQ, if_true, if_false, eq_self, implies_true, ne_eq, List.nil_append, List.cons_append, ↓reduceIte, Nat.reduceEqDiff, Nat.reduceBEq, reduceCtorEq, Nat.reduceAdd, resA, ret1, qv, lv, ev, boolA, binA, intA, shiftA, cmpA, beqA, lres]
  obtain ⟨hI, hx, hy⟩ := hh.el
  have hie := hI.ie x y
  have hneg : ¬ impF A x y < 0 := by have := hie.1; omega
  have hT : Tab G tv A := ⟨ht, hI.toSquare⟩
  refine ImplyOf_c hu ht hS (fun _ => ?_) (fun h => absurd hh h)
  simp only [↓WP, WQ, if_true, if_false, eq_self, implies_true, ne_eq, List.nil_append, List.cons_append, ↓reduceIte, Nat.reduceEqDiff, Nat.reduceBEq, reduceCtorEq, Nat.reduceAdd, resA, ret1, qv, lv, ev, boolA, binA, intA, shiftA, cmpA, beqA, lres, atN_two g3]
  refine sImplyOf_c hu ht hS (fun _ => ?_) (fun h => absurd hh h)
  simp only [↓WP, WQ, if_true, if_false, eq_self, implies_true, ne_eq, List.nil_append, List.cons_append, ↓reduceIte, Nat.reduceEqDiff, Nat.reduceBEq, reduceCtorEq, Nat.reduceAdd, resA, ret1, qv, lv, ev, boolA, binA, intA, shiftA, cmpA, beqA, lres, hneg]
  refine W_for 0 A.up.length (fun z e H' => H' = G ∧ Sl e [(3, .ptr b3 0), (4, .int .i64 x), (5, .int .i64 y), (6, .int .i64 (impF A x y)), (7, .int .i64 z)]) (by omega) ⟨rfl, by simp only [↓WP, WQ, if_true, if_false, eq_self, implies_true, ne_eq, List.nil_append, List.cons_append, ↓reduceIte, Nat.reduceEqDiff, Nat.reduceBEq, reduceCtorEq, Nat.reduceAdd, resA, ret1, qv, lv, ev, boolA, binA, intA, shiftA, cmpA, beqA, lres]⟩ ?_
  rintro z e H' hz0 hz1 ⟨rfl, hs⟩
  simp only [Sl_cons, Sl_nil, and_true] at hs
  have hw : IntKind.i64.wrap (z + 1) = z + 1 := wrap_id (by omega) (by omega)
  have hwl : IntKind.i64.wrap ((A.up.length : Int) - 1) = A.up.length - 1 := wrap_id (by omega) (by omega)
  refine (Classical.em (z < A.up.length)).elim (fun hz => ?_) (fun hz => ?_) <;> simp only [↓WP, WQ, if_true, if_false, eq_self, implies_true, ne_eq, List.nil_append, List.cons_append, ↓reduceIte, Nat.reduceEqDiff, Nat.reduceBEq, reduceCtorEq, Nat.reduceAdd, resA, ret1, qv, lv, ev, boolA, binA, intA, shiftA, cmpA, beqA, lres, hs, at_fst g3, hu.len, hz]
  · have hze : El A z := ⟨hz0, hz⟩
    refine DR_in (fun _ => True) rfl ?_
    simp only [↓WP, WQ, if_true, if_false, eq_self, implies_true, ne_eq, List.nil_append, List.cons_append, ↓reduceIte, Nat.reduceEqDiff, Nat.reduceBEq, reduceCtorEq, Nat.reduceAdd, resA, ret1, qv, lv, ev, boolA, binA, intA, shiftA, cmpA, beqA, lres, hs, at_fst g3, at_snd g3, hT.idx hx.1 hx.2, hT.at hx.1 hx.2, hT.idx2 hx.1 hx.2 hz0 hz, hT.at2 hx.1 hx.2 hz0 hz]
    refine IsBelow_c hu hS.up (fun _ c1 => ?_) (fun c1 => ?_) <;> simp only [↓WP, WQ, if_true, if_false, eq_self, implies_true, ne_eq, List.nil_append, List.cons_append, ↓reduceIte, Nat.reduceEqDiff, Nat.reduceBEq, reduceCtorEq, Nat.reduceAdd, resA, ret1, qv, lv, ev, boolA, binA, intA, shiftA, cmpA, beqA, lres, hs]
    · refine IsBelow_c hu hS.up (fun _ c2 => ?_) (fun c2 => ?_) <;> simp only [↓WP, WQ, if_true, if_false, eq_self, implies_true, ne_eq, List.nil_append, List.cons_append, ↓reduceIte, Nat.reduceEqDiff, Nat.reduceBEq, reduceCtorEq, Nat.reduceAdd, resA, ret1, qv, lv, ev, boolA, binA, intA, shiftA, cmpA, beqA, lres, hs, bne_self_eq_false, hw, hz]
      exact absurd ⟨⟨hI.toIsLat, hze, hie⟩, (hI.adj hx hy hze).1 c1⟩ c2
    · refine IsBelow_c hu hS.up (fun _ c2 => ?_) (fun c2 => ?_) <;> simp only [↓WP, WQ, if_true, if_false, eq_self, implies_true, ne_eq, List.nil_append, List.cons_append, ↓reduceIte, Nat.reduceEqDiff, Nat.reduceBEq, reduceCtorEq, Nat.reduceAdd, resA, ret1, qv, lv, ev, boolA, binA, intA, shiftA, cmpA, beqA, lres, hs, bne_self_eq_false, hw, hz]
      exact absurd ⟨⟨hI.toIsLat, hI.te hx hze, hy⟩, (hI.adj hx hy hze).2 c2⟩ c1
  · refine DR_in (fun _ => True) rfl ?_
    simp only [↓WP, WQ, if_true, if_false, eq_self, implies_true, ne_eq, List.nil_append, List.cons_append, ↓reduceIte, Nat.reduceEqDiff, Nat.reduceBEq, reduceCtorEq, Nat.reduceAdd, resA, ret1, qv, lv, ev, boolA, binA, intA, shiftA, cmpA, beqA, lres, hs, at_fst g3, hu.len, hwl]
    refine IsBelow_c hu hS.up (fun _ c1 => ?_) (fun c1 => ?_) <;> simp only [↓WP, WQ, if_true, if_false, eq_self, implies_true, ne_eq, List.nil_append, List.cons_append, ↓reduceIte, Nat.reduceEqDiff, Nat.reduceBEq, reduceCtorEq, Nat.reduceAdd, resA, ret1, qv, lv, ev, boolA, binA, intA, shiftA, cmpA, beqA, lres, hs]
    · rw [decide_eq_true ((hI.imp_top hx hy).2 c1)]; rfl
    · rw [decide_eq_false (fun e => c1 ⟨⟨hI.toIsLat, hx, hy⟩, (hI.imp_top hx hy).1 e⟩)]; rfl
end Go.AL

/-
  Plain laws of depths.
-/
namespace Go.AL
open Go.Proofs
set_option linter.unusedSimpArgs false
set_option linter.unusedVariables false
set_option linter.unusedSectionVars false

section
variable {A : Alg} (hA : IsAlg A) {x : Int} (hx : El A x)
include hA hx
theorem pow_zero_le {j k : Nat} (h : j ≤ k) (hj : powF A x j = 0) : powF A x k = 0 := by
  have := pow_le hA hx (j := j) (k - j)
  rw [show j + (k - j) = k by omega, hj] at this
  exact hA.bot_eq (pow_e hA hx k) this
theorem pow_zero_any {k : Nat} (hk : powF A x k = 0) : powF A x A.up.length = 0 := by
  by_cases h : k ≤ A.up.length
  · exact pow_zero_le hA hx h hk
  · rw [← pow_fix hA hx (k - A.up.length), show A.up.length + (k - A.up.length) = k by omega]; exact hk
/-- The depth, as both tell it. -/
theorem dep_cases : (∃ z : Int, 0 ≤ z ∧ z ≤ A.up.length ∧ powF A x z.toNat = 0 ∧ (allI z fun k => ¬ powF A x k.toNat = 0) ∧ depV A x 21 = .tup [.int .i64 z, .bool true] ∧ depV A x (A.up.length + 1) = .tup [.int .i64 z, .bool true] ∧ powF A x A.up.length = 0) ∨
    (¬ powF A x A.up.length = 0 ∧ depV A x 21 = .tup [.int .i64 0, .bool false] ∧ depV A x (A.up.length + 1) = .tup [.int .i64 0, .bool false]) := by
  have hn := hA.hi
  by_cases h : powF A x A.up.length = 0
  · left
    rcases firstI_spec (n := (A.up.length : Int) + 1) (p := fun k => powF A x k.toNat = 0) with ⟨h0, h1, h2, h3⟩ | ⟨_, h1⟩
    · refine ⟨_, h0, by omega, h2, fun k k0 k1 => h3 k k0 k1, depV_yes hA hx h0 (by omega) h2 fun k k0 k1 => h3 k k0 k1, depV_yes hA hx h0 h1 h2 fun k k0 k1 => h3 k k0 k1, h⟩
    · exact absurd (by rw [Int.toNat_natCast]; exact h) (h1 A.up.length (by omega) (by omega))
  · right
    have hno : ∀ k, ¬ powF A x k = 0 := fun k hk => h (pow_zero_any hA hx hk)
    exact ⟨h, depV_none hA hx fun k _ _ => hno _, depV_none hA hx fun k _ _ => hno _⟩
end
end Go.AL

/-
  The law of DepthOf.
-/
namespace Go.AL
open Go.Proofs
set_option linter.unusedSimpArgs false
set_option linter.unusedVariables false
variable {w0 : World} {H : Hp}

theorem FnDepthOf_l {bv : AV} {m : Nat} (hb : Byt H bv m) (hm : m ≤ 9223372036854775807) : ACalls Try.prog w0 11 [bv] H fun v _ => v = .bool true := by
  refine in11 ?_
  simp only [c11, ↓WP, WQ, if_true, if_false, eq_self, implies_true, ne_eq, List.nil_append, List.cons_append, ↓reduceIte, Nat.reduceEqDiff, Nat.reduceBEq, reduceCtorEq, Nat.reduceAdd, resA, ret1, qv, lv, ev, boolA, binA, intA, shiftA, cmpA, beqA, lres, hb.1]
  refine Br_dec (fun h1 => ?_) (fun h1 => ?_) <;> simp only [↓WP, WQ, if_true, if_false, eq_self, implies_true, ne_eq, List.nil_append, List.cons_append, ↓reduceIte, Nat.reduceEqDiff, Nat.reduceBEq, reduceCtorEq, Nat.reduceAdd, resA, ret1, qv, lv, ev, boolA, binA, intA, shiftA, cmpA, beqA, lres]
  refine DrawDepthOf_c hb (by omega) fun v A x H1 hE hA => ?_
  obtain ⟨uv, tv, rfl, hu, ht⟩ := hA.open
  have hS := hA.small
  have hu7 := hA.up
  simp only [↓WP, WQ, if_true, if_false, eq_self, implies_true, ne_eq, List.nil_append, List.cons_append, ↓reduceIte, Nat.reduceEqDiff, Nat.reduceBEq, reduceCtorEq, Nat.reduceAdd, resA, ret1, qv, lv, ev, boolA, binA, intA, shiftA, cmpA, beqA, lres]
  refine NewRowd_in fun b3 hb3 => ?_
  have h0 : (H1.set b3 ⟨26, true, [.nils, .nils]⟩) b3 = some ⟨26, true, [.nils, .nils]⟩ := Hp.set_same _ _ _
  have hE3 := Ext.set (x := ⟨26, true, [uv, tv]⟩) hb3
  have g3 : (H1.set b3 ⟨26, true, [uv, tv]⟩) b3 = some ⟨26, true, [uv, tv]⟩ := Hp.set_same _ _ _
  simp only [↓WP, WQ, if_true, if_false, eq_self, implies_true, ne_eq, List.nil_append, List.cons_append, ↓reduceIte, Nat.reduceEqDiff, Nat.reduceBEq, reduceCtorEq, Nat.reduceAdd, resA, ret1, qv, lv, ev, boolA, binA, intA, shiftA, cmpA, beqA, lres, stA_two (x := uv) (y := tv) h0 (lenA_scal hu.len) (lenA_scal ht.len), Hp.set_set, atN_two g3]
  generalize H1.set b3 ⟨26, true, [uv, tv]⟩ = G at *
  have hu := hu.ext hE3
  have ht := ht.ext hE3
  have hwl : IntKind.i64.wrap ((A.up.length : Int) - 1) = A.up.length - 1 := wrap_id (by omega) (by omega)
  refine (Classical.em (Has A x x)).elim (fun hh => ?_) (fun hh => ?_)
  rotate_left
  · have hn : ¬ (IsAlg A ∧ (0 ≤ x ∧ x < A.up.length)) := fun h => hh ⟨h.1, h.2, h.2⟩
    refine DepthOf_c hu ht hS ?_
    rw [depV_not hn]
    simp only [↓WP, WQ, if_true, if_false, eq_self, implies_true, ne_eq, List.nil_append, List.cons_append, ↓reduceIte, Nat.reduceEqDiff, Nat.reduceBEq, reduceCtorEq, Nat.reduceAdd, resA, ret1, qv, lv, ev, boolA, binA, intA, shiftA, cmpA, beqA, lres, atN_two g3]
    refine sDepthOf_c hu ht hS ?_
    rw [depV_not hn]
    simp only [↓WP, WQ, if_true, if_false, eq_self, implies_true, ne_eq, List.nil_append, List.cons_append, ↓reduceIte, Nat.reduceEqDiff, Nat.reduceBEq, reduceCtorEq, Nat.reduceAdd, resA, ret1, qv, lv, ev, boolA, binA, intA, shiftA, cmpA, beqA, lres, atN_two g3, bne_self_eq_false]
    refine NotOf_c hu ht hS (fun h => absurd h hh) (fun _ => ?_)
    simp only [↓WP, WQ, if_true, if_false, eq_self, implies_true, ne_eq, List.nil_append, List.cons_append, ↓reduceIte, Nat.reduceEqDiff, Nat.reduceBEq, reduceCtorEq, Nat.reduceAdd, resA, ret1, qv, lv, ev, boolA, binA, intA, shiftA, cmpA, beqA, lres, Int.reduceNeg, Int.reduceLT, beq_self_eq_true]
  obtain ⟨hI, hx, _⟩ := hh.el
  have hn6 := hI.hi
  have hneg : ¬ impF A x 0 < 0 := by have := (hI.ie x 0).1; omega
  have hps := pow_set hI hx
  have hgs := genF_set A (2 ^ x.toNat)
  have hg := gen_one hI hx hI.e0
  have hpe := pow_e hI hx A.up.length
  rcases dep_cases hI hx with ⟨z, z0, z1, hz, hno, d1, d2, hp⟩ | ⟨hp, d1, d2⟩
  · refine DepthOf_c hu ht hS ?_
    rw [d1]
    simp only [↓WP, WQ, if_true, if_false, eq_self, implies_true, ne_eq, List.nil_append, List.cons_append, ↓reduceIte, Nat.reduceEqDiff, Nat.reduceBEq, reduceCtorEq, Nat.reduceAdd, resA, ret1, qv, lv, ev, boolA, binA, intA, shiftA, cmpA, beqA, lres, atN_two g3]
    refine sDepthOf_c hu ht hS ?_
    rw [d2]
    simp only [↓WP, WQ, if_true, if_false, eq_self, implies_true, ne_eq, List.nil_append, List.cons_append, ↓reduceIte, Nat.reduceEqDiff, Nat.reduceBEq, reduceCtorEq, Nat.reduceAdd, resA, ret1, qv, lv, ev, boolA, binA, intA, shiftA, cmpA, beqA, lres, atN_two g3, bne_self_eq_false]
    refine NotOf_c hu ht hS (fun _ => ?_) (fun h => absurd hh h)
    simp only [↓WP, WQ, if_true, if_false, eq_self, implies_true, ne_eq, List.nil_append, List.cons_append, ↓reduceIte, Nat.reduceEqDiff, Nat.reduceBEq, reduceCtorEq, Nat.reduceAdd, resA, ret1, qv, lv, ev, boolA, binA, intA, shiftA, cmpA, beqA, lres, hneg]
    refine DR_in (fun _ => True) rfl ?_
    simp only [↓WP, WQ, if_true, if_false, eq_self, implies_true, ne_eq, List.nil_append, List.cons_append, ↓reduceIte, Nat.reduceEqDiff, Nat.reduceBEq, reduceCtorEq, Nat.reduceAdd, resA, ret1, qv, lv, ev, boolA, binA, intA, shiftA, cmpA, beqA, lres, atN_two g3]
    refine lpower_c _ (by have := hx.2; omega) ?_
    simp only [↓WP, WQ, if_true, if_false, eq_self, implies_true, ne_eq, List.nil_append, List.cons_append, ↓reduceIte, Nat.reduceEqDiff, Nat.reduceBEq, reduceCtorEq, Nat.reduceAdd, resA, ret1, qv, lv, ev, boolA, binA, intA, shiftA, cmpA, beqA, lres]
    refine FilterBy_c hu ht hS (fun _ => ?_) (fun h => absurd ⟨hI, hps⟩ h)
    simp only [↓WP, WQ, if_true, if_false, eq_self, implies_true, ne_eq, List.nil_append, List.cons_append, ↓reduceIte, Nat.reduceEqDiff, Nat.reduceBEq, reduceCtorEq, Nat.reduceAdd, resA, ret1, qv, lv, ev, boolA, binA, intA, shiftA, cmpA, beqA, lres]
    have hb1 : tb (genF A (2 ^ x.toNat)) 0 = true := hg.2 (by rw [hp]; exact hI.r hI.e0)
    refine lbit_c _ _ hgs.1 (hgs.lt hI) (by omega) (by omega) (fun _ => ?_) (fun hb2 => absurd hb1 (by rw [hb2]; simp))
    simp only [↓WP, WQ, if_true, if_false, eq_self, implies_true, ne_eq, List.nil_append, List.cons_append, ↓reduceIte, Nat.reduceEqDiff, Nat.reduceBEq, reduceCtorEq, Nat.reduceAdd, resA, ret1, qv, lv, ev, boolA, binA, intA, shiftA, cmpA, beqA, lres, beq_self_eq_true, atN_two g3]
    refine PowerOf_c hu ht hS (fun _ => ?_) (fun h => absurd ⟨hI, hx, z0, by omega⟩ h)
    refine (Classical.em (z = 0)).elim (fun hz0 => ?_) (fun hz0 => ?_)
    · simp only [↓WP, WQ, if_true, if_false, eq_self, implies_true, ne_eq, List.nil_append, List.cons_append, ↓reduceIte, Nat.reduceEqDiff, Nat.reduceBEq, reduceCtorEq, Nat.reduceAdd, resA, ret1, qv, lv, ev, boolA, binA, intA, shiftA, cmpA, beqA, lres, hz, decide_eq_true hz0]
    · have hw1 : IntKind.i64.wrap (z - 1) = z - 1 := wrap_id (by omega) (by omega)
      simp only [↓WP, WQ, if_true, if_false, eq_self, implies_true, ne_eq, List.nil_append, List.cons_append, ↓reduceIte, Nat.reduceEqDiff, Nat.reduceBEq, reduceCtorEq, Nat.reduceAdd, resA, ret1, qv, lv, ev, boolA, binA, intA, shiftA, cmpA, beqA, lres, hz, decide_eq_false hz0, atN_two g3, hw1]
      refine PowerOf_c hu ht hS (fun _ => ?_) (fun h => absurd ⟨hI, hx, by omega, by omega⟩ h)
      have := hno (z - 1) (by omega) (by omega)
      simp only [↓WP, WQ, if_true, if_false, eq_self, implies_true, ne_eq, List.nil_append, List.cons_append, ↓reduceIte, Nat.reduceEqDiff, Nat.reduceBEq, reduceCtorEq, Nat.reduceAdd, resA, ret1, qv, lv, ev, boolA, binA, intA, shiftA, cmpA, beqA, lres, this]
  · refine DepthOf_c hu ht hS ?_
    rw [d1]
    simp only [↓WP, WQ, if_true, if_false, eq_self, implies_true, ne_eq, List.nil_append, List.cons_append, ↓reduceIte, Nat.reduceEqDiff, Nat.reduceBEq, reduceCtorEq, Nat.reduceAdd, resA, ret1, qv, lv, ev, boolA, binA, intA, shiftA, cmpA, beqA, lres, atN_two g3]
    refine sDepthOf_c hu ht hS ?_
    rw [d2]
    simp only [↓WP, WQ, if_true, if_false, eq_self, implies_true, ne_eq, List.nil_append, List.cons_append, ↓reduceIte, Nat.reduceEqDiff, Nat.reduceBEq, reduceCtorEq, Nat.reduceAdd, resA, ret1, qv, lv, ev, boolA, binA, intA, shiftA, cmpA, beqA, lres, atN_two g3, bne_self_eq_false]
    refine NotOf_c hu ht hS (fun _ => ?_) (fun h => absurd hh h)
    simp only [↓WP, WQ, if_true, if_false, eq_self, implies_true, ne_eq, List.nil_append, List.cons_append, ↓reduceIte, Nat.reduceEqDiff, Nat.reduceBEq, reduceCtorEq, Nat.reduceAdd, resA, ret1, qv, lv, ev, boolA, binA, intA, shiftA, cmpA, beqA, lres, hneg]
    refine DR_in (fun _ => True) rfl ?_
    simp only [↓WP, WQ, if_true, if_false, eq_self, implies_true, ne_eq, List.nil_append, List.cons_append, ↓reduceIte, Nat.reduceEqDiff, Nat.reduceBEq, reduceCtorEq, Nat.reduceAdd, resA, ret1, qv, lv, ev, boolA, binA, intA, shiftA, cmpA, beqA, lres, atN_two g3]
    refine lpower_c _ (by have := hx.2; omega) ?_
    simp only [↓WP, WQ, if_true, if_false, eq_self, implies_true, ne_eq, List.nil_append, List.cons_append, ↓reduceIte, Nat.reduceEqDiff, Nat.reduceBEq, reduceCtorEq, Nat.reduceAdd, resA, ret1, qv, lv, ev, boolA, binA, intA, shiftA, cmpA, beqA, lres]
    refine FilterBy_c hu ht hS (fun _ => ?_) (fun h => absurd ⟨hI, hps⟩ h)
    simp only [↓WP, WQ, if_true, if_false, eq_self, implies_true, ne_eq, List.nil_append, List.cons_append, ↓reduceIte, Nat.reduceEqDiff, Nat.reduceBEq, reduceCtorEq, Nat.reduceAdd, resA, ret1, qv, lv, ev, boolA, binA, intA, shiftA, cmpA, beqA, lres]
    refine lbit_c _ _ hgs.1 (hgs.lt hI) (by omega) (by omega) (fun hb1 => absurd (hI.bot_eq hpe (hg.1 hb1)) hp) (fun hb2 => ?_)
    simp only [↓WP, WQ, if_true, if_false, eq_self, implies_true, ne_eq, List.nil_append, List.cons_append, ↓reduceIte, Nat.reduceEqDiff, Nat.reduceBEq, reduceCtorEq, Nat.reduceAdd, resA, ret1, qv, lv, ev, boolA, binA, intA, shiftA, cmpA, beqA, lres, Int.reduceEq, beq_self_eq_true]
end Go.AL

/-
  The given statement FnDepthOfSaid is proved: for every input the law FnDepthOf returns true, and its argument reads as before. Conditions: none beyond the given row's own.
-/
namespace Go.Proofs.Ytijpoplbdjfhaaa
open Go.AL Go.ChangeShapes Go.WideShapes
set_option maxRecDepth 100000

theorem try_own : ownKnob Try.prog.godebug = Option.none := by kernel_rfl
theorem try_kids : Kids Try.prog (· < Try.prog.types.size) := kids_rows (by kernel_rfl) (by kernel_rfl)
theorem try_full : ∀ t e, t < Try.prog.types.size → Try.prog.underlying t = some (.slice e) → 0 < Try.prog.cellsOf e := slices_full_of Try.prog (by kernel_rfl)
theorem try_byte : Try.prog.cellsOf 5 = 1 := by kernel_rfl

theorem lifted (os : Os) (started : os.Started) (H : Type) (enc : TypeId × Value → H) :
    ReturnsInHanded {} Try.checked os 11 .any (Rows.fnDepthOfSpec.pre6 enc Try.prog Try.f11 Rows.fnDepthOfRow.domain false) (Rows.fnDepthOfSpec.post enc Try.prog Try.f11 false true false false) :=
  handed_bytes (C := Try.checked) (t := 22) (e := 5) (tb := 4) try_own started (by kernel_rfl) Try.func11
    (ChangeSpec.witness6 (enc := enc) (C := Try.checked) false ⟨#[], #[.slice Option.none 0 0], []⟩ 8 (by kernel_rfl) (by kernel_rfl) (by kernel_rfl) (by kernel_rfl))
    try_kids try_full Try.params11 (of_decide_eq_true (by kernel_rfl)) Try.underlying22 Try.underlying5 try_byte rfl (by kernel_rfl) Try.underlying4 (fun _ => rfl)
    (fun w0 bv n H hb hn => FnDepthOf_l hb hn)

theorem fnDepthOf_holds : Rows.FnDepthOfSaid :=
  OpenClaim.holds_of_wide 11 Try.f11 rfl rfl rfl rfl rfl rfl rfl ⟨rfl, rfl, rfl, rfl, rfl⟩ rfl rfl rfl rfl rfl (by kernel_rfl) Try.func11 (by kernel_rfl)
    (of_decide_eq_true (by kernel_rfl)) (by unfold Func.isWrapper; first | (rw [if_pos (by decide +kernel)]; kernel_rfl) | (rw [if_neg (by decide +kernel)]; exact ⟨rfl, rfl⟩))
    (fun os started H enc _ => lifted os started H enc)

#print axioms fnDepthOf_holds
end Go.Proofs.Ytijpoplbdjfhaaa
