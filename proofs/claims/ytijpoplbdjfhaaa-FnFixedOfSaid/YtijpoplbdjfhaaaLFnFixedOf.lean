/-
  The given statement FnFixedOfSaid is proved: for every input the law FnFixedOf returns true, and each argument reads as it did before the call. Conditions: none beyond the given row.
-/
import Derived.Test.YtijpoplbdjfhaaaM3
import Derived.Test.YtijpoplbdjfhaaaM5
import Derived.Test.YtijpoplbdjfhaaaRows
/-
  The law of ImplyOf.
-/
namespace Go.AL
open Go.Proofs
set_option linter.unusedSimpArgs false
set_option linter.unusedVariables false
variable {w0 : World} {H : Hp}

theorem Has.el {A : Alg} {x y : Int} (h : Has A x y) : IsAlg A ∧ El A x ∧ El A y := h

theorem FnImplyOf_l {bv : AV} {m : Nat} (hb : Byt H bv m) (hm : m ≤ 9223372036854775807) : ACalls Try.prog w0 3 [bv] H fun v _ => v = .bool true := by
  refine in3 ?_
  simp only [c3, ↓WP, WQ, if_true, if_false, eq_self, implies_true, ne_eq, List.nil_append, List.cons_append, ↓reduceIte, Nat.reduceEqDiff, Nat.reduceBEq, reduceCtorEq, Nat.reduceAdd, resA, ret1, qv, lv, ev, boolA, binA, intA, shiftA, cmpA, beqA, lres, hb.1]
  refine Br_dec (fun h1 => ?_) (fun h1 => ?_) <;> simp only [↓WP, WQ, if_true, if_false, eq_self, implies_true, ne_eq, List.nil_append, List.cons_append, ↓reduceIte, Nat.reduceEqDiff, Nat.reduceBEq, reduceCtorEq, Nat.reduceAdd, resA, ret1, qv, lv, ev, boolA, binA, intA, shiftA, cmpA, beqA, lres]
  refine DrawImplyOf_c hb (by omega) fun v A x y H1 hE hA => ?_
  obtain ⟨uv, tv, rfl, hu, ht⟩ := hA.open
  have hS := hA.small
  have hu7 := hA.up
  simp only [↓WP, WQ, if_true, if_false, eq_self, implies_true, ne_eq, List.nil_append, List.cons_append, ↓reduceIte, Nat.reduceEqDiff, Nat.reduceBEq, reduceCtorEq, Nat.reduceAdd, resA, ret1, qv, lv, ev, boolA, binA, intA, shiftA, cmpA, beqA, lres]
  refine NewRowd_in fun b3 hb3 => ?_
  have h0 : (H1.set b3 ⟨26, true, [.nils, .nils]⟩) b3 = some ⟨26, true, [.nils, .nils]⟩ := Hp.set_same _ _ _
  have hE3 := Ext.set (x := ⟨26, true, [uv, tv]⟩) hb3
  have g3 : (H1.set b3 ⟨26, true, [uv, tv]⟩) b3 = some ⟨26, true, [uv, tv]⟩ := Hp.set_same _ _ _
  simp only [↓WP, WQ, if_true, if_false, eq_self, implies_true, ne_eq, List.nil_append, List.cons_append, ↓reduceIte, Nat.reduceEqDiff, Nat.reduceBEq, reduceCtorEq, Nat.reduceAdd, resA, ret1, qv, lv, ev, boolA, binA, intA, shiftA, cmpA, beqA, lres, stA_two (x := uv) (y := tv) h0 (lenA_scal hu.len) (lenA_scal ht.len), Hp.set_set, atN_two g3]
  generalize H1.set b3 ⟨26, true, [uv, tv]⟩ = G at *
  have hu := hu.ext hE3
  have ht := ht.ext hE3
  refine (Classical.em (Has A x y)).elim (fun hh => ?_) (fun hh => ?_)
  rotate_left
  · refine ImplyOf_c hu ht hS (fun h => absurd h hh) (fun _ => ?_)
    simp only [↓WP, WQ, if_true, if_false, eq_self, implies_true, ne_eq, List.nil_append, List.cons_append, ↓reduceIte, Nat.reduceEqDiff, Nat.reduceBEq, reduceCtorEq, Nat.reduceAdd, resA, ret1, qv, lv, ev, boolA, binA, intA, shiftA, cmpA, beqA, lres, atN_two g3]
    refine sImplyOf_c hu ht hS (fun h => absurd h hh) (fun _ => ?_)
    simp only [↓WP, WQ, if_true, if_false, eq_self, implies_true, ne_eq, List.nil_append, List.cons_append, ↓reduceIte, Nat.reduceEqDiff, Nat.reduceBEq, reduceCtorEq, Nat.reduceAdd, resA, ret1, qv, lv, ev, boolA, binA, intA, shiftA, cmpA, beqA, lres, atN_two g3, Int.reduceNeg, Int.reduceLT]
    refine sImplyOf_c hu ht hS (fun h => absurd h hh) (fun _ => ?_)
    simp only [↓WP, WQ, if_true, if_false, eq_self, implies_true, ne_eq, List.nil_append, List.cons_append, ↓reduceIte, Nat.reduceEqDiff, Nat.reduceBEq, reduceCtorEq, Nat.reduceAdd, resA, ret1, qv, lv, ev, boolA, binA, intA, shiftA, cmpA, beqA, lres]
  obtain ⟨hI, hx, hy⟩ := hh.el
  have hie := hI.ie x y
  have hneg : ¬ impF A x y < 0 := by have := hie.1; omega
  have hT : Tab G tv A := ⟨ht, hI.toSquare⟩
  refine ImplyOf_c hu ht hS (fun _ => ?_) (fun h => absurd hh h)
  simp only [↓WP, WQ, if_true, if_false, eq_self, implies_true, ne_eq, List.nil_append, List.cons_append, ↓reduceIte, Nat.reduceEqDiff, Nat.reduceBEq, reduceCtorEq, Nat.reduceAdd, resA, ret1, qv, lv, ev, boolA, binA, intA, shiftA, cmpA, beqA, lres, atN_two g3]
  refine sImplyOf_c hu ht hS (fun _ => ?_) (fun h => absurd hh h)
  simp only [↓WP, WQ, if_true, if_false, eq_self, implies_true, ne_eq, List.nil_append, List.cons_append, ↓reduceIte, Nat.reduceEqDiff, Nat.reduceBEq, reduceCtorEq, Nat.reduceAdd, resA, ret1, qv, lv, ev, boolA, binA, intA, shiftA, cmpA, beqA, lres, hneg]
  refine W_for 0 A.up.length (fun z e H' => H' = G ∧ Sl e [(3, .ptr b3 0), (4, .int .i64 x), (5, .int .i64 y), (6, .int .i64 (impF A x y)), (7, .int .i64 z)]) (by omega) ⟨rfl, by simp only [↓WP, WQ, if_true, if_false, eq_self, implies_true, ne_eq, List.nil_append, List.cons_append, ↓reduceIte, Nat.reduceEqDiff, Nat.reduceBEq, reduceCtorEq, Nat.reduceAdd, resA, ret1, qv, lv, ev, boolA, binA, intA, shiftA, cmpA, beqA, lres]⟩ ?_
  rintro z e H' hz0 hz1 ⟨rfl, hs⟩
  simp only [Sl_cons, Sl_nil, and_true] at hs
  have hw : IntKind.i64.wrap (z + 1) = z + 1 := wrap_id (by omega) (by omega)
  have hwl : IntKind.i64.wrap ((A.up.length : Int) - 1) = A.up.length - 1 := wrap_id (by omega) (by omega)
  refine (Classical.em (z < A.up.length)).elim (fun hz => ?_) (fun hz => ?_) <;> simp only [↓WP, WQ, if_true, if_false, eq_self, implies_true, ne_eq, List.nil_append, List.cons_append, ↓reduceIte, Nat.reduceEqDiff, Nat.reduceBEq, reduceCtorEq, Nat.reduceAdd, resA, ret1, qv, lv, ev, boolA, binA, intA, shiftA, cmpA, beqA, lres, hs, at_fst g3, hu.len, hz]
  · have hze : El A z := ⟨hz0, hz⟩
    refine DR_in (fun _ => True) rfl ?_
    simp only [↓WP, WQ, if_true, if_false, eq_self, implies_true, ne_eq, List.nil_append, List.cons_append, ↓reduceIte, Nat.reduceEqDiff, Nat.reduceBEq, reduceCtorEq, Nat.reduceAdd, resA, ret1, qv, lv, ev, boolA, binA, intA, shiftA, cmpA, beqA, lres, hs, at_fst g3, at_snd g3, hT.idx hx.1 hx.2, hT.at hx.1 hx.2, hT.idx2 hx.1 hx.2 hz0 hz, hT.at2 hx.1 hx.2 hz0 hz]
    refine IsBelow_c hu hS.up (fun _ c1 => ?_) (fun c1 => ?_) <;> simp only [↓WP, WQ, if_true, if_false, eq_self, implies_true, ne_eq, List.nil_append, List.cons_append, ↓reduceIte, Nat.reduceEqDiff, Nat.reduceBEq, reduceCtorEq, Nat.reduceAdd, resA, ret1, qv, lv, ev, boolA, binA, intA, shiftA, cmpA, beqA, lres, hs]
    · refine IsBelow_c hu hS.up (fun _ c2 => ?_) (fun c2 => ?_) <;> simp only [↓WP, WQ, if_true, if_false, eq_self, implies_true, ne_eq, List.nil_append, List.cons_append, ↓reduceIte, Nat.reduceEqDiff, Nat.reduceBEq, reduceCtorEq, Nat.reduceAdd, resA, ret1, qv, lv, ev, boolA, binA, intA, shiftA, cmpA, beqA, lres, hs, bne_self_eq_false, hw, hz]
      exact absurd ⟨⟨hI.toIsLat, hze, hie⟩, (hI.adj hx hy hze).1 c1⟩ c2
    · refine IsBelow_c hu hS.up (fun _ c2 => ?_) (fun c2 => ?_) <;> simp only [↓WP, WQ, if_true, if_false, eq_self, implies_true, ne_eq, List.nil_append, List.cons_append, ↓reduceIte, Nat.reduceEqDiff, Nat.reduceBEq, reduceCtorEq, Nat.reduceAdd, resA, ret1, qv, lv, ev, boolA, binA, intA, shiftA, cmpA, beqA, lres, hs, bne_self_eq_false, hw, hz]
      exact absurd ⟨⟨hI.toIsLat, hI.te hx hze, hy⟩, (hI.adj hx hy hze).2 c2⟩ c1
  · refine DR_in (fun _ => True) rfl ?_
    simp only [↓WP, WQ, if_true, if_false, eq_self, implies_true, ne_eq, List.nil_append, List.cons_append, ↓reduceIte, Nat.reduceEqDiff, Nat.reduceBEq, reduceCtorEq, Nat.reduceAdd, resA, ret1, qv, lv, ev, boolA, binA, intA, shiftA, cmpA, beqA, lres, hs, at_fst g3, hu.len, hwl]
    refine IsBelow_c hu hS.up (fun _ c1 => ?_) (fun c1 => ?_) <;> simp only [↓WP, WQ, if_true, if_false, eq_self, implies_true, ne_eq, List.nil_append, List.cons_append, ↓reduceIte, Nat.reduceEqDiff, Nat.reduceBEq, reduceCtorEq, Nat.reduceAdd, resA, ret1, qv, lv, ev, boolA, binA, intA, shiftA, cmpA, beqA, lres, hs]
    · rw [decide_eq_true ((hI.imp_top hx hy).2 c1)]; rfl
    · rw [decide_eq_false (fun e => c1 ⟨⟨hI.toIsLat, hx, hy⟩, (hI.imp_top hx hy).1 e⟩)]; rfl
end Go.AL

/-
  The law of FixedOf.
-/
namespace Go.AL
open Go.Proofs
set_option linter.unusedSimpArgs false
set_option linter.unusedVariables false
variable {w0 : World} {H : Hp}

theorem FnFixedOf_l {bv : AV} {m : Nat} (hb : Byt H bv m) (hm : m ≤ 9223372036854775807) : ACalls Try.prog w0 8 [bv] H fun v _ => v = .bool true := by
  refine in8 ?_
  simp only [c8, ↓WP, WQ, if_true, if_false, eq_self, implies_true, ne_eq, List.nil_append, List.cons_append, ↓reduceIte, Nat.reduceEqDiff, Nat.reduceBEq, reduceCtorEq, Nat.reduceAdd, resA, ret1, qv, lv, ev, boolA, binA, intA, shiftA, cmpA, beqA, lres, hb.1]
  refine Br_dec (fun h1 => ?_) (fun h1 => ?_) <;> simp only [↓WP, WQ, if_true, if_false, eq_self, implies_true, ne_eq, List.nil_append, List.cons_append, ↓reduceIte, Nat.reduceEqDiff, Nat.reduceBEq, reduceCtorEq, Nat.reduceAdd, resA, ret1, qv, lv, ev, boolA, binA, intA, shiftA, cmpA, beqA, lres]
  refine DrawFixedOf_c hb (by omega) fun v A H1 hE hA => ?_
  obtain ⟨uv, tv, rfl, hu, ht⟩ := hA.open
  have hS := hA.small
  have hu7 := hA.up
  simp only [↓WP, WQ, if_true, if_false, eq_self, implies_true, ne_eq, List.nil_append, List.cons_append, ↓reduceIte, Nat.reduceEqDiff, Nat.reduceBEq, reduceCtorEq, Nat.reduceAdd, resA, ret1, qv, lv, ev, boolA, binA, intA, shiftA, cmpA, beqA, lres]
  refine NewRowd_in fun b3 hb3 => ?_
  have h0 : (H1.set b3 ⟨26, true, [.nils, .nils]⟩) b3 = some ⟨26, true, [.nils, .nils]⟩ := Hp.set_same _ _ _
  have hE3 := Ext.set (x := ⟨26, true, [uv, tv]⟩) hb3
  have g3 : (H1.set b3 ⟨26, true, [uv, tv]⟩) b3 = some ⟨26, true, [uv, tv]⟩ := Hp.set_same _ _ _
  simp only [↓WP, WQ, if_true, if_false, eq_self, implies_true, ne_eq, List.nil_append, List.cons_append, ↓reduceIte, Nat.reduceEqDiff, Nat.reduceBEq, reduceCtorEq, Nat.reduceAdd, resA, ret1, qv, lv, ev, boolA, binA, intA, shiftA, cmpA, beqA, lres, stA_two (x := uv) (y := tv) h0 (lenA_scal hu.len) (lenA_scal ht.len), Hp.set_set, atN_two g3]
  generalize H1.set b3 ⟨26, true, [uv, tv]⟩ = G at *
  have hu := hu.ext hE3
  have ht := ht.ext hE3
  have hwl : IntKind.i64.wrap ((A.up.length : Int) - 1) = A.up.length - 1 := wrap_id (by omega) (by omega)
  refine FixedOf_c hu ht hS fun v1 G1 hv1 => ?_
  obtain ⟨hE1, l1, e1, e1', hl1⟩ := hv1.ints
  have g3 := hE1.get g3
  have hu := hu.ext hE1
  have ht := ht.ext hE1
  simp only [↓WP, WQ, if_true, if_false, eq_self, implies_true, ne_eq, List.nil_append, List.cons_append, ↓reduceIte, Nat.reduceEqDiff, Nat.reduceBEq, reduceCtorEq, Nat.reduceAdd, resA, ret1, qv, lv, ev, boolA, binA, intA, shiftA, cmpA, beqA, lres, atN_two g3]
  refine sFixedOf_c hu ht hS fun v2 G2 hv2 => ?_
  obtain ⟨hE2, l2, e2, e2', hl2⟩ := hv2.ints
  have g3 := hE2.get g3
  have hu := hu.ext hE2
  have ht := ht.ext hE2
  have hl1 := hl1.ext hE2
  refine (Classical.em (IsAlg A)).elim (fun hI => ?_) (fun hI => ?_)
  rotate_left
  · have k1 := e1' hI
    have k2 := e2' hI
    subst k1
    subst k2
    simp only [↓WP, WQ, if_true, if_false, eq_self, implies_true, ne_eq, List.nil_append, List.cons_append, ↓reduceIte, Nat.reduceEqDiff, Nat.reduceBEq, reduceCtorEq, Nat.reduceAdd, resA, ret1, qv, lv, ev, boolA, binA, intA, shiftA, cmpA, beqA, lres]
    refine equalInts_c hl1 hl2 (by simp) (by simp) (fun _ => ?_) (fun h => absurd rfl h)
    simp only [↓WP, WQ, if_true, if_false, eq_self, implies_true, ne_eq, List.nil_append, List.cons_append, ↓reduceIte, Nat.reduceEqDiff, Nat.reduceBEq, reduceCtorEq, Nat.reduceAdd, resA, ret1, qv, lv, ev, boolA, binA, intA, shiftA, cmpA, beqA, lres, atN_two g3]
    refine ValidAlgebra_c hu ht hS (fun h => absurd h hI) (fun _ => ?_)
    simp only [↓WP, WQ, if_true, if_false, eq_self, implies_true, ne_eq, List.nil_append, List.cons_append, ↓reduceIte, Nat.reduceEqDiff, Nat.reduceBEq, reduceCtorEq, Nat.reduceAdd, resA, ret1, qv, lv, ev, boolA, binA, intA, shiftA, cmpA, beqA, lres, atN_two g3]
    refine sFixedOf_c hu ht hS fun v3 G3 hv3 => ?_
    obtain ⟨hE3, l3, e3, e3', hl3⟩ := hv3.ints
    have k3 := e3' hI
    subst k3
    simp only [↓WP, WQ, if_true, if_false, eq_self, implies_true, ne_eq, List.nil_append, List.cons_append, ↓reduceIte, Nat.reduceEqDiff, Nat.reduceBEq, reduceCtorEq, Nat.reduceAdd, resA, ret1, qv, lv, ev, boolA, binA, intA, shiftA, cmpA, beqA, lres]
    refine equalInts_c (hl1.ext hE3) hl3 (by simp) (by simp) (fun _ => ?_) (fun h => absurd rfl h)
    simp only [↓WP, WQ, if_true, if_false, eq_self, implies_true, ne_eq, List.nil_append, List.cons_append, ↓reduceIte, Nat.reduceEqDiff, Nat.reduceBEq, reduceCtorEq, Nat.reduceAdd, resA, ret1, qv, lv, ev, boolA, binA, intA, shiftA, cmpA, beqA, lres]
  have k1 := e1 hI
  have k2 := e2 hI
  subst k1
  subst k2
  have hll := sel_len (fun x => A.tm x x = x) A.up.length
  have hn6 := hI.hi
  have hn1 := hI.lo
  have hT : Tab G2 tv A := ⟨ht, hI.toSquare⟩
  have hll : (fixL A).length ≤ 6 := by unfold fixL; omega
  simp only [↓WP, WQ, if_true, if_false, eq_self, implies_true, ne_eq, List.nil_append, List.cons_append, ↓reduceIte, Nat.reduceEqDiff, Nat.reduceBEq, reduceCtorEq, Nat.reduceAdd, resA, ret1, qv, lv, ev, boolA, binA, intA, shiftA, cmpA, beqA, lres]
  refine equalInts_c hl1 hl2 (by omega) (by omega) (fun _ => ?_) (fun h => absurd rfl h)
  simp only [↓WP, WQ, if_true, if_false, eq_self, implies_true, ne_eq, List.nil_append, List.cons_append, ↓reduceIte, Nat.reduceEqDiff, Nat.reduceBEq, reduceCtorEq, Nat.reduceAdd, resA, ret1, qv, lv, ev, boolA, binA, intA, shiftA, cmpA, beqA, lres, atN_two g3]
  refine ValidAlgebra_c hu ht hS (fun _ => ?_) (fun h => absurd hI h)
  simp only [↓WP, WQ, if_true, if_false, eq_self, implies_true, ne_eq, List.nil_append, List.cons_append, ↓reduceIte, Nat.reduceEqDiff, Nat.reduceBEq, reduceCtorEq, Nat.reduceAdd, resA, ret1, qv, lv, ev, boolA, binA, intA, shiftA, cmpA, beqA, lres]
  have hmem : ∀ {x : Int}, x ∈ fixL A ↔ El A x ∧ A.tm x x = x := fun {x} => sel_mem
  have hin : ∀ f : Int, El A f → A.tm f f = f → ∀ {Q : AV → Hp → Prop}, Q (.bool true) G2 → ACalls Try.prog w0 34 [v1, .int .i64 f] G2 Q := by
    intro f h1 h2 Q hq
    obtain ⟨j, j0, j1, rfl⟩ := mem_getD (hmem.2 ⟨h1, h2⟩)
    exact isIn_c hl1 (by omega) (fun _ _ _ _ => hq) (fun h => absurd rfl (h j j0 j1))
  refine W_for 0 (fixL A).length (fun i e H' => H' = G2 ∧ Sl e [(3, .ptr b3 0), (4, v1), (5, .int .i64 i)]) (by omega) ⟨rfl, by simp only [↓WP, WQ, if_true, if_false, eq_self, implies_true, ne_eq, List.nil_append, List.cons_append, ↓reduceIte, Nat.reduceEqDiff, Nat.reduceBEq, reduceCtorEq, Nat.reduceAdd, resA, ret1, qv, lv, ev, boolA, binA, intA, shiftA, cmpA, beqA, lres]⟩ ?_
  rintro i e H' hi0 hi1 ⟨rfl, hs⟩
  simp only [Sl_cons, Sl_nil, and_true] at hs
  have hw : IntKind.i64.wrap (i + 1) = i + 1 := wrap_id (by omega) (by omega)
  refine (Classical.em (i < (fixL A).length)).elim (fun hi => ?_) (fun hi => ?_) <;> simp only [↓WP, WQ, if_true, if_false, eq_self, implies_true, ne_eq, List.nil_append, List.cons_append, ↓reduceIte, Nat.reduceEqDiff, Nat.reduceBEq, reduceCtorEq, Nat.reduceAdd, resA, ret1, qv, lv, ev, boolA, binA, intA, shiftA, cmpA, beqA, lres, hs, hl1.len, hi]
  · refine W_for 0 (fixL A).length (fun k e H'' => H'' = H' ∧ Sl e [(3, .ptr b3 0), (4, v1), (5, .int .i64 i), (6, .int .i64 k)]) (by omega) ⟨rfl, by simp only [↓WP, WQ, if_true, if_false, eq_self, implies_true, ne_eq, List.nil_append, List.cons_append, ↓reduceIte, Nat.reduceEqDiff, Nat.reduceBEq, reduceCtorEq, Nat.reduceAdd, resA, ret1, qv, lv, ev, boolA, binA, intA, shiftA, cmpA, beqA, lres, hs]⟩ ?_
    rintro k e H'' hk0 hk1 ⟨rfl, hs⟩
    simp only [Sl_cons, Sl_nil, and_true] at hs
    have hwk : IntKind.i64.wrap (k + 1) = k + 1 := wrap_id (by omega) (by omega)
    refine (Classical.em (k < (fixL A).length)).elim (fun hk => ?_) (fun hk => ?_) <;> simp only [↓WP, WQ, if_true, if_false, eq_self, implies_true, ne_eq, List.nil_append, List.cons_append, ↓reduceIte, Nat.reduceEqDiff, Nat.reduceBEq, reduceCtorEq, Nat.reduceAdd, resA, ret1, qv, lv, ev, boolA, binA, intA, shiftA, cmpA, beqA, lres, hs, hl1.len, hk]
    · obtain ⟨hx, fx⟩ := hmem.1 (getD_mem hi0 hi)
      obtain ⟨hy, fy⟩ := hmem.1 (getD_mem hk0 hk)
      refine DR_in (fun _ => True) rfl ?_
      simp only [↓WP, WQ, if_true, if_false, eq_self, implies_true, ne_eq, List.nil_append, List.cons_append, ↓reduceIte, Nat.reduceEqDiff, Nat.reduceBEq, reduceCtorEq, Nat.reduceAdd, resA, ret1, qv, lv, ev, boolA, binA, intA, shiftA, cmpA, beqA, lres, hs, at_fst g3, at_snd g3, hl1.idx hi0 hi, hl1.at (show i.toNat < (fixL A).length by omega), hl1.idx hk0 hk, hl1.at (show k.toNat < (fixL A).length by omega), hT.idx hx.1 hx.2, hT.at hx.1 hx.2, hT.idx2 hx.1 hx.2 hy.1 hy.2, hT.at2 hx.1 hx.2 hy.1 hy.2]
      refine hin _ (hI.te hx hy) (fix_mul hI hx hy fx fy) ?_
      simp only [↓WP, WQ, if_true, if_false, eq_self, implies_true, ne_eq, List.nil_append, List.cons_append, ↓reduceIte, Nat.reduceEqDiff, Nat.reduceBEq, reduceCtorEq, Nat.reduceAdd, resA, ret1, qv, lv, ev, boolA, binA, intA, shiftA, cmpA, beqA, lres, hs, at_fst g3, hl1.idx hi0 hi, hl1.at (show i.toNat < (fixL A).length by omega), hl1.idx hk0 hk, hl1.at (show k.toNat < (fixL A).length by omega)]
      refine JoinOf_c hu hS.up (fun _ => ?_) (fun h => absurd ⟨hI.toIsLat, hx, hy⟩ h)
      simp only [↓WP, WQ, if_true, if_false, eq_self, implies_true, ne_eq, List.nil_append, List.cons_append, ↓reduceIte, Nat.reduceEqDiff, Nat.reduceBEq, reduceCtorEq, Nat.reduceAdd, resA, ret1, qv, lv, ev, boolA, binA, intA, shiftA, cmpA, beqA, lres, hs]
      refine hin _ (hI.je hx hy) (fix_join hI hx hy fx fy) ?_
      simp only [↓WP, WQ, if_true, if_false, eq_self, implies_true, ne_eq, List.nil_append, List.cons_append, ↓reduceIte, Nat.reduceEqDiff, Nat.reduceBEq, reduceCtorEq, Nat.reduceAdd, resA, ret1, qv, lv, ev, boolA, binA, intA, shiftA, cmpA, beqA, lres, hs, hwk, hk]
    · simp only [↓WP, WQ, if_true, if_false, eq_self, implies_true, ne_eq, List.nil_append, List.cons_append, ↓reduceIte, Nat.reduceEqDiff, Nat.reduceBEq, reduceCtorEq, Nat.reduceAdd, resA, ret1, qv, lv, ev, boolA, binA, intA, shiftA, cmpA, beqA, lres, hs, hw, hi]
  · refine DR_in (fun _ => True) rfl ?_
    have hc : ((((fixL A).length : Nat) : Int) = A.up.length) ↔ allI A.up.length fun x => A.tm x x = x := by
      have : ((((fixL A).length : Nat) : Int) = A.up.length) ↔ (fixL A).length = A.up.length := by omega
      rw [this]; exact sel_full
    have hp : HasP (prop (⟨#[105, 100, 101, 109, 112, 111, 116, 101, 110, 116]⟩ : ByteArray)) A ↔ allI A.up.length fun x => A.tm x x = x := by
      rw [prop_idempotent]
      exact ⟨fun h x x0 x1 => h.2 x x0 x1 0 (by omega) (by omega), fun h => ⟨by omega, fun x x0 x1 y _ _ => h x x0 x1⟩⟩
    by_cases hall : allI A.up.length fun x => A.tm x x = x
    · simp only [↓WP, WQ, if_true, if_false, eq_self, implies_true, ne_eq, List.nil_append, List.cons_append, ↓reduceIte, Nat.reduceEqDiff, Nat.reduceBEq, reduceCtorEq, Nat.reduceAdd, resA, ret1, qv, lv, ev, boolA, binA, intA, shiftA, cmpA, beqA, lres, hs, at_fst g3, hu.len, hl1.len, atN_two g3, decide_eq_true (hc.2 hall)]
      refine HasProperty_c hu ht hS (fun _ => ?_) (fun h => absurd ⟨hI, hp.2 hall⟩ h)
      simp only [↓WP, WQ, if_true, if_false, eq_self, implies_true, ne_eq, List.nil_append, List.cons_append, ↓reduceIte, Nat.reduceEqDiff, Nat.reduceBEq, reduceCtorEq, Nat.reduceAdd, resA, ret1, qv, lv, ev, boolA, binA, intA, shiftA, cmpA, beqA, lres, beq_self_eq_true]
    · simp only [↓WP, WQ, if_true, if_false, eq_self, implies_true, ne_eq, List.nil_append, List.cons_append, ↓reduceIte, Nat.reduceEqDiff, Nat.reduceBEq, reduceCtorEq, Nat.reduceAdd, resA, ret1, qv, lv, ev, boolA, binA, intA, shiftA, cmpA, beqA, lres, hs, at_fst g3, hu.len, hl1.len, atN_two g3, decide_eq_false (fun h => hall (hc.1 h))]
      refine HasProperty_c hu ht hS (fun h => absurd (hp.1 h.2) hall) (fun _ => ?_)
      simp only [↓WP, WQ, if_true, if_false, eq_self, implies_true, ne_eq, List.nil_append, List.cons_append, ↓reduceIte, Nat.reduceEqDiff, Nat.reduceBEq, reduceCtorEq, Nat.reduceAdd, resA, ret1, qv, lv, ev, boolA, binA, intA, shiftA, cmpA, beqA, lres, beq_self_eq_true]
end Go.AL

/-
  The given statement FnFixedOfSaid is proved: for every input the law FnFixedOf returns true, and its argument reads as before. Conditions: none beyond the given row's own.
-/
namespace Go.Proofs.Ytijpoplbdjfhaaa
open Go.AL Go.ChangeShapes Go.WideShapes
set_option maxRecDepth 100000

theorem try_own : ownKnob Try.prog.godebug = Option.none := by kernel_rfl
theorem try_kids : Kids Try.prog (· < Try.prog.types.size) := kids_rows (by kernel_rfl) (by kernel_rfl)
theorem try_full : ∀ t e, t < Try.prog.types.size → Try.prog.underlying t = some (.slice e) → 0 < Try.prog.cellsOf e := slices_full_of Try.prog (by kernel_rfl)
theorem try_byte : Try.prog.cellsOf 5 = 1 := by kernel_rfl

theorem lifted (os : Os) (started : os.Started) (H : Type) (enc : TypeId × Value → H) :
    ReturnsInHanded {} Try.checked os 8 .any (Rows.fnFixedOfSpec.pre6 enc Try.prog Try.f8 Rows.fnFixedOfRow.domain false) (Rows.fnFixedOfSpec.post enc Try.prog Try.f8 false true false false) :=
  handed_bytes (C := Try.checked) (t := 22) (e := 5) (tb := 4) try_own started (by kernel_rfl) Try.func8
    (ChangeSpec.witness6 (enc := enc) (C := Try.checked) false ⟨#[], #[.slice Option.none 0 0], []⟩ 8 (by kernel_rfl) (by kernel_rfl) (by kernel_rfl) (by kernel_rfl))
    try_kids try_full Try.params8 (of_decide_eq_true (by kernel_rfl)) Try.underlying22 Try.underlying5 try_byte rfl (by kernel_rfl) Try.underlying4 (fun _ => rfl)
    (fun w0 bv n H hb hn => FnFixedOf_l hb hn)

theorem fnFixedOf_holds : Rows.FnFixedOfSaid :=
  OpenClaim.holds_of_wide 8 Try.f8 rfl rfl rfl rfl rfl rfl rfl ⟨rfl, rfl, rfl, rfl, rfl⟩ rfl rfl rfl rfl rfl (by kernel_rfl) Try.func8 (by kernel_rfl)
    (of_decide_eq_true (by kernel_rfl)) (by unfold Func.isWrapper; first | (rw [if_pos (by decide +kernel)]; kernel_rfl) | (rw [if_neg (by decide +kernel)]; exact ⟨rfl, rfl⟩))
    (fun os started H enc _ => lifted os started H enc)

#print axioms fnFixedOf_holds
end Go.Proofs.Ytijpoplbdjfhaaa
