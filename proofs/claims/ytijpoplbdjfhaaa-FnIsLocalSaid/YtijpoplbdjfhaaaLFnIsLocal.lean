/-
  The given statement FnIsLocalSaid is proved: for every input the law FnIsLocal returns true, and each argument reads as it did before the call. Conditions: none beyond the given row.
-/
import Derived.Test.YtijpoplbdjfhaaaM3
import Derived.Test.YtijpoplbdjfhaaaM6
import Derived.Test.YtijpoplbdjfhaaaRows
/-
  The law of ImplyOf.
-/
namespace Go.AL
open Go.Proofs
set_option linter.unusedSimpArgs false
set_option linter.unusedVariables false
variable {w0 : World} {H : Hp}

theorem Has.el {A : Alg} {x y : Int} (h : Has A x y) : IsAlg A ∧ El A x ∧ El A y := h

theorem FnImplyOf_l {bv : AV} {m : Nat} (hb : Byt H bv m) (hm : m ≤ 9223372036854775807) : ACalls Try.prog w0 3 [bv] H fun v _ => v = .bool true := by
  refine in3 ?_
  simp only [c3, ↓WP, WQ, if_true, if_false, eq_self, implies_true, ne_eq, List.nil_append, List.cons_append, ↓reduceIte, Nat.reduceEqDiff, Nat.reduceBEq, reduceCtorEq, Nat.reduceAdd, resA, ret1, qv, lv, ev, boolA, binA, intA, shiftA, cmpA, beqA, lres, hb.1]
  refine Br_dec (fun h1 => ?_) (fun h1 => ?_) <;> simp only [↓WP, WQ, if_true, if_false, eq_self, implies_true, ne_eq, List.nil_append, List.cons_append, ↓reduceIte, Nat.reduceEqDiff, Nat.reduceBEq, reduceCtorEq, Nat.reduceAdd, resA, ret1, qv, lv, ev, boolA, binA, intA, shiftA, cmpA, beqA, lres]
  refine DrawImplyOf_c hb (by omega) fun v A x y H1 hE hA => ?_
  obtain ⟨uv, tv, rfl, hu, ht⟩ := hA.open
  have hS := hA.small
  have hu7 := hA.up
  simp only [↓WP, WQ, if_true, if_false, eq_self, implies_true, ne_eq, List.nil_append, List.cons_append, ↓reduceIte, Nat.reduceEqDiff, Nat.reduceBEq, reduceCtorEq, Nat.reduceAdd, resA, ret1, qv, lv, ev, boolA, binA, intA, shiftA, cmpA, beqA, lres]
  refine NewRowd_in fun b3 hb3 => ?_
  have h0 : (H1.set b3 ⟨26, true, [.nils, .nils]⟩) b3 = some ⟨26, true, [.nils, .nils]⟩ := Hp.set_same _ _ _
  have hE3 := Ext.set (x := ⟨26, true, [uv, tv]⟩) hb3
  have g3 : (H1.set b3 ⟨26, true, [uv, tv]⟩) b3 = some ⟨26, true, [uv, tv]⟩ := Hp.set_same _ _ _
  simp only [↓WP, WQ, if_true, if_false, eq_self, implies_true, ne_eq, List.nil_append, List.cons_append, ↓reduceIte, Nat.reduceEqDiff, Nat.reduceBEq, reduceCtorEq, Nat.reduceAdd, resA, ret1, qv, lv, ev, boolA, binA, intA, shiftA, cmpA, beqA, lres, stA_two (x := uv) (y := tv) h0 (lenA_scal hu.len) (lenA_scal ht.len), Hp.set_set, atN_two g3]
  generalize H1.set b3 ⟨26, true, [uv, tv]⟩ = G at *
  have hu := hu.ext hE3
  have ht := ht.ext hE3
  refine (Classical.em (Has A x y)).elim (fun hh => ?_) (fun hh => ?_)
  rotate_left
  · refine ImplyOf_c hu ht hS (fun h => absurd h hh) (fun _ => ?_)
    simp only [↓WP, WQ, if_true, if_false, eq_self, implies_true, ne_eq, List.nil_append, List.cons_append, ↓reduceIte, Nat.reduceEqDiff, Nat.reduceBEq, reduceCtorEq, Nat.reduceAdd, resA, ret1, qv, lv, ev, boolA, binA, intA, shiftA, cmpA, beqA, lres, atN_two g3]
    refine sImplyOf_c hu ht hS (fun h => absurd h hh) (fun _ => ?_)
    simp only [↓WP, WQ, if_true, if_false, eq_self, implies_true, ne_eq, List.nil_append, List.cons_append, ↓reduceIte, Nat.reduceEqDiff, Nat.reduceBEq, reduceCtorEq, Nat.reduceAdd, resA, ret1, qv, lv, ev, boolA, binA, intA, shiftA, cmpA, beqA, lres, atN_two g3, Int.reduceNeg, Int.reduceLT]
    refine sImplyOf_c hu ht hS (fun h => absurd h hh) (fun _ => ?_)
    simp only [↓WP, WQ, if_true, if_false, eq_self, implies_true, ne_eq, List.nil_append, List.cons_append, ↓reduceIte, Nat.reduceEqDiff, Nat.reduceBEq, reduceCtorEq, Nat.reduceAdd, resA, ret1, qv, lv, ev, boolA, binA, intA, shiftA, cmpA, beqA, lres]
  obtain ⟨hI, hx, hy⟩ := hh.el
  have hie := hI.ie x y
  have hneg : ¬ impF A x y < 0 := by have := hie.1; omega
  have hT : Tab G tv A := ⟨ht, hI.toSquare⟩
  refine ImplyOf_c hu ht hS (fun _ => ?_) (fun h => absurd hh h)
  simp only [↓WP, WQ, if_true, if_false, eq_self, implies_true, ne_eq, List.nil_append, List.cons_append, ↓reduceIte, Nat.reduceEqDiff, Nat.reduceBEq, reduceCtorEq, Nat.reduceAdd, resA, ret1, qv, lv, ev, boolA, binA, intA, shiftA, cmpA, beqA, lres, atN_two g3]
  refine sImplyOf_c hu ht hS (fun _ => ?_) (fun h => absurd hh h)
  simp only [↓WP, WQ, if_true, if_false, eq_self, implies_true, ne_eq, List.nil_append, List.cons_append, ↓reduceIte, Nat.reduceEqDiff, Nat.reduceBEq, reduceCtorEq, Nat.reduceAdd, resA, ret1, qv, lv, ev, boolA, binA, intA, shiftA, cmpA, beqA, lres, hneg]
  refine W_for 0 A.up.length (fun z e H' => H' = G ∧ Sl e [(3, .ptr b3 0), (4, .int .i64 x), (5, .int .i64 y), (6, .int .i64 (impF A x y)), (7, .int .i64 z)]) (by omega) ⟨rfl, by simp only [↓WP, WQ, if_true, if_false, eq_self, implies_true, ne_eq, List.nil_append, List.cons_append, ↓reduceIte, Nat.reduceEqDiff, Nat.reduceBEq, reduceCtorEq, Nat.reduceAdd, resA, ret1, qv, lv, ev, boolA, binA, intA, shiftA, cmpA, beqA, lres]⟩ ?_
  rintro z e H' hz0 hz1 ⟨rfl, hs⟩
  simp only [Sl_cons, Sl_nil, and_true] at hs
  have hw : IntKind.i64.wrap (z + 1) = z + 1 := wrap_id (by omega) (by omega)
  have hwl : IntKind.i64.wrap ((A.up.length : Int) - 1) = A.up.length - 1 := wrap_id (by omega) (by omega)
  refine (Classical.em (z < A.up.length)).elim (fun hz => ?_) (fun hz => ?_) <;> simp only [↓WP, WQ, if_true, if_false, eq_self, implies_true, ne_eq, List.nil_append, List.cons_append, ↓reduceIte, Nat.reduceEqDiff, Nat.reduceBEq, reduceCtorEq, Nat.reduceAdd, resA, ret1, qv, lv, ev, boolA, binA, intA, shiftA, cmpA, beqA, lres, hs, at_fst g3, hu.len, hz]
  · have hze : El A z := ⟨hz0, hz⟩
    refine DR_in (fun _ => True) rfl ?_
    simp only [↓WP, WQ, if_true, if_false, eq_self, implies_true, ne_eq, List.nil_append, List.cons_append, ↓reduceIte, Nat.reduceEqDiff, Nat.reduceBEq, reduceCtorEq, Nat.reduceAdd, resA, ret1, qv, lv, ev, boolA, binA, intA, shiftA, cmpA, beqA, lres, hs, at_fst g3, at_snd g3, hT.idx hx.1 hx.2, hT.at hx.1 hx.2, hT.idx2 hx.1 hx.2 hz0 hz, hT.at2 hx.1 hx.2 hz0 hz]
    refine IsBelow_c hu hS.up (fun _ c1 => ?_) (fun c1 => ?_) <;> simp only [↓WP, WQ, if_true, if_false, eq_self, implies_true, ne_eq, List.nil_append, List.cons_append, ↓reduceIte, Nat.reduceEqDiff, Nat.reduceBEq, reduceCtorEq, Nat.reduceAdd, resA, ret1, qv, lv, ev, boolA, binA, intA, shiftA, cmpA, beqA, lres, hs]
    · refine IsBelow_c hu hS.up (fun _ c2 => ?_) (fun c2 => ?_) <;> simp only [↓WP, WQ, if_true, if_false, eq_self, implies_true, ne_eq, List.nil_append, List.cons_append, ↓reduceIte, Nat.reduceEqDiff, Nat.reduceBEq, reduceCtorEq, Nat.reduceAdd, resA, ret1, qv, lv, ev, boolA, binA, intA, shiftA, cmpA, beqA, lres, hs, bne_self_eq_false, hw, hz]
      exact absurd ⟨⟨hI.toIsLat, hze, hie⟩, (hI.adj hx hy hze).1 c1⟩ c2
    · refine IsBelow_c hu hS.up (fun _ c2 => ?_) (fun c2 => ?_) <;> simp only [↓WP, WQ, if_true, if_false, eq_self, implies_true, ne_eq, List.nil_append, List.cons_append, ↓reduceIte, Nat.reduceEqDiff, Nat.reduceBEq, reduceCtorEq, Nat.reduceAdd, resA, ret1, qv, lv, ev, boolA, binA, intA, shiftA, cmpA, beqA, lres, hs, bne_self_eq_false, hw, hz]
      exact absurd ⟨⟨hI.toIsLat, hI.te hx hze, hy⟩, (hI.adj hx hy hze).2 c2⟩ c1
  · refine DR_in (fun _ => True) rfl ?_
    simp only [↓WP, WQ, if_true, if_false, eq_self, implies_true, ne_eq, List.nil_append, List.cons_append, ↓reduceIte, Nat.reduceEqDiff, Nat.reduceBEq, reduceCtorEq, Nat.reduceAdd, resA, ret1, qv, lv, ev, boolA, binA, intA, shiftA, cmpA, beqA, lres, hs, at_fst g3, hu.len, hwl]
    refine IsBelow_c hu hS.up (fun _ c1 => ?_) (fun c1 => ?_) <;> simp only [↓WP, WQ, if_true, if_false, eq_self, implies_true, ne_eq, List.nil_append, List.cons_append, ↓reduceIte, Nat.reduceEqDiff, Nat.reduceBEq, reduceCtorEq, Nat.reduceAdd, resA, ret1, qv, lv, ev, boolA, binA, intA, shiftA, cmpA, beqA, lres, hs]
    · rw [decide_eq_true ((hI.imp_top hx hy).2 c1)]; rfl
    · rw [decide_eq_false (fun e => c1 ⟨⟨hI.toIsLat, hx, hy⟩, (hI.imp_top hx hy).1 e⟩)]; rfl
end Go.AL

/-
  The law of IsLocal.
-/
namespace Go.AL
open Go.Proofs
set_option linter.unusedSimpArgs false
set_option linter.unusedVariables false
variable {w0 : World} {H : Hp}

theorem FnIsLocal_l {bv : AV} {m : Nat} (hb : Byt H bv m) (hm : m ≤ 9223372036854775807) : ACalls Try.prog w0 13 [bv] H fun v _ => v = .bool true := by
  refine in13 ?_
  simp only [c13, ↓WP, WQ, if_true, if_false, eq_self, implies_true, ne_eq, List.nil_append, List.cons_append, ↓reduceIte, Nat.reduceEqDiff, Nat.reduceBEq, reduceCtorEq, Nat.reduceAdd, resA, ret1, qv, lv, ev, boolA, binA, intA, shiftA, cmpA, beqA, lres, hb.1]
  refine Br_dec (fun h1 => ?_) (fun h1 => ?_) <;> simp only [↓WP, WQ, if_true, if_false, eq_self, implies_true, ne_eq, List.nil_append, List.cons_append, ↓reduceIte, Nat.reduceEqDiff, Nat.reduceBEq, reduceCtorEq, Nat.reduceAdd, resA, ret1, qv, lv, ev, boolA, binA, intA, shiftA, cmpA, beqA, lres]
  refine DrawIsLocal_c hb (by omega) fun v A H1 hE hA => ?_
  obtain ⟨uv, tv, rfl, hu, ht⟩ := hA.open
  have hS := hA.small
  have hu7 := hA.up
  simp only [↓WP, WQ, if_true, if_false, eq_self, implies_true, ne_eq, List.nil_append, List.cons_append, ↓reduceIte, Nat.reduceEqDiff, Nat.reduceBEq, reduceCtorEq, Nat.reduceAdd, resA, ret1, qv, lv, ev, boolA, binA, intA, shiftA, cmpA, beqA, lres]
  refine NewRowd_in fun b3 hb3 => ?_
  have h0 : (H1.set b3 ⟨26, true, [.nils, .nils]⟩) b3 = some ⟨26, true, [.nils, .nils]⟩ := Hp.set_same _ _ _
  have hE3 := Ext.set (x := ⟨26, true, [uv, tv]⟩) hb3
  have g3 : (H1.set b3 ⟨26, true, [uv, tv]⟩) b3 = some ⟨26, true, [uv, tv]⟩ := Hp.set_same _ _ _
  simp only [↓WP, WQ, if_true, if_false, eq_self, implies_true, ne_eq, List.nil_append, List.cons_append, ↓reduceIte, Nat.reduceEqDiff, Nat.reduceBEq, reduceCtorEq, Nat.reduceAdd, resA, ret1, qv, lv, ev, boolA, binA, intA, shiftA, cmpA, beqA, lres, stA_two (x := uv) (y := tv) h0 (lenA_scal hu.len) (lenA_scal ht.len), Hp.set_set, atN_two g3]
  generalize H1.set b3 ⟨26, true, [uv, tv]⟩ = G at *
  have hu := hu.ext hE3
  have ht := ht.ext hE3
  have hwl : IntKind.i64.wrap ((A.up.length : Int) - 1) = A.up.length - 1 := wrap_id (by omega) (by omega)
  obtain ⟨out, ho⟩ : ∃ b : Bool, b = true ↔ IsAlg A ∧ (grL A).length = 1 := by
    by_cases h : IsAlg A ∧ (grL A).length = 1
    · exact ⟨true, by simp only [h, and_self]⟩
    · exact ⟨false, by simp only [h, reduceCtorEq]⟩
  have IP : ∀ {Q : AV → Hp → Prop}, Q (.bool out) G → ACalls Try.prog w0 49 [.agg [uv, tv]] G Q := by
    intro Q hq
    refine IsLocal_c hu ht hS (fun h => ?_) (fun h => ?_)
    · rw [ho.2 h] at hq; exact hq
    · rw [Bool.eq_false_iff.2 fun e => h (ho.1 e)] at hq; exact hq
  have SP : ∀ {Q : AV → Hp → Prop}, Q (.bool out) G → ACalls Try.prog w0 58 [.agg [uv, tv]] G Q := by
    intro Q hq
    refine sIsLocal_c hu ht hS (fun h => ?_) (fun h => ?_)
    · rw [ho.2 h] at hq; exact hq
    · rw [Bool.eq_false_iff.2 fun e => h (ho.1 e)] at hq; exact hq
  refine IP ?_
  simp only [↓WP, WQ, if_true, if_false, eq_self, implies_true, ne_eq, List.nil_append, List.cons_append, ↓reduceIte, Nat.reduceEqDiff, Nat.reduceBEq, reduceCtorEq, Nat.reduceAdd, resA, ret1, qv, lv, ev, boolA, binA, intA, shiftA, cmpA, beqA, lres, atN_two g3]
  refine SP ?_
  simp only [↓WP, WQ, if_true, if_false, eq_self, implies_true, ne_eq, List.nil_append, List.cons_append, ↓reduceIte, Nat.reduceEqDiff, Nat.reduceBEq, reduceCtorEq, Nat.reduceAdd, resA, ret1, qv, lv, ev, boolA, binA, intA, shiftA, cmpA, beqA, lres, atN_two g3, bne_self_eq_false]
  refine ValidAlgebra_c hu ht hS (fun hI => ?_) (fun hI => ?_)
  rotate_left
  · simp only [↓WP, WQ, if_true, if_false, eq_self, implies_true, ne_eq, List.nil_append, List.cons_append, ↓reduceIte, Nat.reduceEqDiff, Nat.reduceBEq, reduceCtorEq, Nat.reduceAdd, resA, ret1, qv, lv, ev, boolA, binA, intA, shiftA, cmpA, beqA, lres, atN_two g3]
    refine SP ?_
    simp only [↓WP, WQ, if_true, if_false, eq_self, implies_true, ne_eq, List.nil_append, List.cons_append, ↓reduceIte, Nat.reduceEqDiff, Nat.reduceBEq, reduceCtorEq, Nat.reduceAdd, resA, ret1, qv, lv, ev, boolA, binA, intA, shiftA, cmpA, beqA, lres, beq_self_eq_true]
  have hn1 := hI.lo
  simp only [↓WP, WQ, if_true, if_false, eq_self, implies_true, ne_eq, List.nil_append, List.cons_append, ↓reduceIte, Nat.reduceEqDiff, Nat.reduceBEq, reduceCtorEq, Nat.reduceAdd, resA, ret1, qv, lv, ev, boolA, binA, intA, shiftA, cmpA, beqA, lres, atN_two g3]
  have ho : out = true ↔ 1 < A.up.length ∧ ∀ x : Int, 0 ≤ x → x < A.up.length → powF A x A.up.length = 0 ∨ powF A (impF A x 0) A.up.length = 0 := by
    rw [ho, ← local_iff hI]; exact ⟨fun h => h.2, fun h => ⟨hI, h⟩⟩
  have dep : ∀ {x : Int}, El A x → ∃ (d : Int) (b : Bool), depV A x 21 = .tup [.int .i64 d, .bool b] ∧ (b = true ↔ powF A x A.up.length = 0) := by
    intro x hx
    rcases dep_cases hI hx with ⟨d, _, _, _, _, e1, _, hp⟩ | ⟨hp, e1, _⟩
    · exact ⟨d, true, e1, by simp [hp]⟩
    · exact ⟨0, false, e1, by simp [hp]⟩
  refine W_for 0 A.up.length (fun z e H' => H' = G ∧ ∃ acc : Bool, Sl e [(3, .ptr b3 0), (4, .bool out), (5, .bool acc), (6, .int .i64 z)] ∧ (acc = true ↔ allI z fun x => powF A x A.up.length = 0 ∨ powF A (impF A x 0) A.up.length = 0)) (by omega) ⟨rfl, true, by simp only [↓WP, WQ, if_true, if_false, eq_self, implies_true, ne_eq, List.nil_append, List.cons_append, ↓reduceIte, Nat.reduceEqDiff, Nat.reduceBEq, reduceCtorEq, Nat.reduceAdd, resA, ret1, qv, lv, ev, boolA, binA, intA, shiftA, cmpA, beqA, lres], ⟨fun _ => allI_zero, fun _ => rfl⟩⟩ ?_
  rintro z e H' hz0 hz1 ⟨rfl, acc, hs, hacc⟩
  simp only [Sl_cons, Sl_nil, and_true] at hs
  have hw : IntKind.i64.wrap (z + 1) = z + 1 := wrap_id (by omega) (by omega)
  refine (Classical.em (z < A.up.length)).elim (fun hz => ?_) (fun hz => ?_) <;> simp only [↓WP, WQ, if_true, if_false, eq_self, implies_true, ne_eq, List.nil_append, List.cons_append, ↓reduceIte, Nat.reduceEqDiff, Nat.reduceBEq, reduceCtorEq, Nat.reduceAdd, resA, ret1, qv, lv, ev, boolA, binA, intA, shiftA, cmpA, beqA, lres, hs, hw, at_fst g3, hu.len, hz, atN_two g3]
  · refine DepthOf_c hu ht hS ?_
    obtain ⟨d1, b1, e1, k1⟩ := dep (x := z) ⟨hz0, hz⟩
    obtain ⟨d2, b2, e2, k2⟩ := dep (hI.ie z 0)
    rw [e1]
    simp only [↓WP, WQ, if_true, if_false, eq_self, implies_true, ne_eq, List.nil_append, List.cons_append, ↓reduceIte, Nat.reduceEqDiff, Nat.reduceBEq, reduceCtorEq, Nat.reduceAdd, resA, ret1, qv, lv, ev, boolA, binA, intA, shiftA, cmpA, beqA, lres, hs]
    refine DR_in (fun _ => True) rfl ?_
    simp only [↓WP, WQ, if_true, if_false, eq_self, implies_true, ne_eq, List.nil_append, List.cons_append, ↓reduceIte, Nat.reduceEqDiff, Nat.reduceBEq, reduceCtorEq, Nat.reduceAdd, resA, ret1, qv, lv, ev, boolA, binA, intA, shiftA, cmpA, beqA, lres, hs, atN_two g3]
    refine NotOf_c hu ht hS (fun _ => ?_) (fun h => absurd ⟨hI, ⟨hz0, hz⟩, ⟨hz0, hz⟩⟩ h)
    simp only [↓WP, WQ, if_true, if_false, eq_self, implies_true, ne_eq, List.nil_append, List.cons_append, ↓reduceIte, Nat.reduceEqDiff, Nat.reduceBEq, reduceCtorEq, Nat.reduceAdd, resA, ret1, qv, lv, ev, boolA, binA, intA, shiftA, cmpA, beqA, lres, hs]
    refine DepthOf_c hu ht hS ?_
    rw [e2]
    have e3 : ∀ b : Bool, (b = true ↔ acc = true ∧ (b1 = true ∨ b2 = true)) → (b = true ↔ allI (z + 1) fun x => powF A x A.up.length = 0 ∨ powF A (impF A x 0) A.up.length = 0) := fun b hb => by
      rw [allI_succ hz0, ← hacc, ← k1, ← k2]; exact hb
    cases acc <;> cases b1 <;> simp only [↓WP, WQ, if_true, if_false, eq_self, implies_true, ne_eq, List.nil_append, List.cons_append, ↓reduceIte, Nat.reduceEqDiff, Nat.reduceBEq, reduceCtorEq, Nat.reduceAdd, resA, ret1, qv, lv, ev, boolA, binA, intA, shiftA, cmpA, beqA, lres, hs, hw, hz]
    · exact ⟨_, rfl, e3 _ (by simp)⟩
    · exact ⟨_, rfl, e3 _ (by simp)⟩
    · exact ⟨_, rfl, e3 _ (by simp)⟩
    · exact ⟨_, rfl, e3 _ (by simp)⟩
  · have hze : z = A.up.length := by omega
    rw [hze] at hacc
    have ho' : out = true ↔ 1 < A.up.length ∧ acc = true := by rw [ho, hacc]; exact Iff.rfl
    cases acc
    · have : out = false := Bool.eq_false_iff.2 fun h => by have := (ho'.1 h).2; cases this
      subst this
      simp only [↓WP, WQ, if_true, if_false, eq_self, implies_true, ne_eq, List.nil_append, List.cons_append, ↓reduceIte, Nat.reduceEqDiff, Nat.reduceBEq, reduceCtorEq, Nat.reduceAdd, resA, ret1, qv, lv, ev, boolA, binA, intA, shiftA, cmpA, beqA, lres, hs, beq_self_eq_true]
    · by_cases h1 : 1 < A.up.length
      · have h1' : (1 : Int) < A.up.length := by omega
        have : out = true := ho'.2 ⟨h1, rfl⟩
        subst this
        simp only [↓WP, WQ, if_true, if_false, eq_self, implies_true, ne_eq, List.nil_append, List.cons_append, ↓reduceIte, Nat.reduceEqDiff, Nat.reduceBEq, reduceCtorEq, Nat.reduceAdd, resA, ret1, qv, lv, ev, boolA, binA, intA, shiftA, cmpA, beqA, lres, hs, at_fst g3, hu.len, atN_two g3, decide_eq_true h1', beq_self_eq_true]
      · have h1' : ¬ (1 : Int) < A.up.length := by omega
        have : out = false := Bool.eq_false_iff.2 fun h => h1 (ho'.1 h).1
        subst this
        simp only [↓WP, WQ, if_true, if_false, eq_self, implies_true, ne_eq, List.nil_append, List.cons_append, ↓reduceIte, Nat.reduceEqDiff, Nat.reduceBEq, reduceCtorEq, Nat.reduceAdd, resA, ret1, qv, lv, ev, boolA, binA, intA, shiftA, cmpA, beqA, lres, hs, at_fst g3, hu.len, atN_two g3, decide_eq_false h1', beq_self_eq_true]
end Go.AL

/-
  The given statement FnIsLocalSaid is proved: for every input the law FnIsLocal returns true, and its argument reads as before. Conditions: none beyond the given row's own.
-/
namespace Go.Proofs.Ytijpoplbdjfhaaa
open Go.AL Go.ChangeShapes Go.WideShapes
set_option maxRecDepth 100000

theorem try_own : ownKnob Try.prog.godebug = Option.none := by kernel_rfl
theorem try_kids : Kids Try.prog (· < Try.prog.types.size) := kids_rows (by kernel_rfl) (by kernel_rfl)
theorem try_full : ∀ t e, t < Try.prog.types.size → Try.prog.underlying t = some (.slice e) → 0 < Try.prog.cellsOf e := slices_full_of Try.prog (by kernel_rfl)
theorem try_byte : Try.prog.cellsOf 5 = 1 := by kernel_rfl

theorem lifted (os : Os) (started : os.Started) (H : Type) (enc : TypeId × Value → H) :
    ReturnsInHanded {} Try.checked os 13 .any (Rows.fnIsLocalSpec.pre6 enc Try.prog Try.f13 Rows.fnIsLocalRow.domain false) (Rows.fnIsLocalSpec.post enc Try.prog Try.f13 false true false false) :=
  handed_bytes (C := Try.checked) (t := 22) (e := 5) (tb := 4) try_own started (by kernel_rfl) Try.func13
    (ChangeSpec.witness6 (enc := enc) (C := Try.checked) false ⟨#[], #[.slice Option.none 0 0], []⟩ 8 (by kernel_rfl) (by kernel_rfl) (by kernel_rfl) (by kernel_rfl))
    try_kids try_full Try.params13 (of_decide_eq_true (by kernel_rfl)) Try.underlying22 Try.underlying5 try_byte rfl (by kernel_rfl) Try.underlying4 (fun _ => rfl)
    (fun w0 bv n H hb hn => FnIsLocal_l hb hn)

theorem fnIsLocal_holds : Rows.FnIsLocalSaid :=
  OpenClaim.holds_of_wide 13 Try.f13 rfl rfl rfl rfl rfl rfl rfl ⟨rfl, rfl, rfl, rfl, rfl⟩ rfl rfl rfl rfl rfl (by kernel_rfl) Try.func13 (by kernel_rfl)
    (of_decide_eq_true (by kernel_rfl)) (by unfold Func.isWrapper; first | (rw [if_pos (by decide +kernel)]; kernel_rfl) | (rw [if_neg (by decide +kernel)]; exact ⟨rfl, rfl⟩))
    (fun os started H enc _ => lifted os started H enc)

#print axioms fnIsLocal_holds
end Go.Proofs.Ytijpoplbdjfhaaa
