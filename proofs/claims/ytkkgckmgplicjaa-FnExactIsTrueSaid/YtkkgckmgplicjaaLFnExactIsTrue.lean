/-
  The given statement FnExactIsTrueSaid is proved: for every input the law FnExactIsTrue returns true, and each argument reads as it did before the call. Conditions: none beyond the given row.
-/
import Derived.Test.YtkkgckmgplicjaaM6
import Derived.Test.YtkkgckmgplicjaaM7
import Derived.Test.YtkkgckmgplicjaaRows
/-
  The law of Follows.
-/
namespace Go.AL
open Go.Proofs
set_option linter.unusedSimpArgs false
set_option linter.unusedVariables false
variable {w0 : World} {H : Hp}

theorem alg_of {H0 H : Hp} {A : Alg} {u q : Nat} {t : List (Nat × List Int)} (ht : t.map Prod.snd = A.times) (o : Own no H0 H ((u, LI A.up) :: (q, TR t) :: tl t)) : Ints H (.sl u 0 A.up.length) A.up ∧ Mat H (.sl q 0 t.length) A.times := by
  refine ⟨li_ints (o.get (i := 0) rfl), ?_⟩
  have := tr_mat (o.get (i := 1) rfl) (tl_tb o (fun p hp => by simp [hp]))
  rwa [ht] at this
theorem Lim.small {A : Alg} (h : A.up.length ≤ 1048576) (hT : Lim 1048576 A.times) : Small A :=
  ⟨by omega, by have := hT.1; omega, fun x x0 x1 => by have := hT.2 x x0 x1; omega⟩

theorem FnExactFollows_l {uv tv pv zv : AV} {A : Alg} {p t : List Int} (h : Ints H uv A.up) (hm : Mat H tv A.times) (hn : A.up.length ≤ 9223372036854775807) (hT : Lim 9223372036854775807 A.times) (hp : Ints H pv p) (_ : p.length ≤ 9223372036854775807) (hz : Ints H zv t) (_ : t.length ≤ 9223372036854775807) :
    ACalls Try.prog w0 5 [.agg [uv, tv], pv, zv] H fun v _ => v = .bool true := by
  refine in5 ?_
  simp only [c5, ↓WP, WQ, if_true, if_false, eq_self, implies_true, ne_eq, List.nil_append, List.cons_append, ↓reduceIte, Nat.reduceEqDiff, Nat.reduceBEq, reduceCtorEq, Nat.reduceAdd, resA, ret1, qv, lv, ev, boolA, binA, intA, shiftA, cmpA, beqA, lres, cells_alg h.len hm.len]
  refine NewRowd_in fun b3 hb3 => ?_
  have hE := Ext.set (x := ⟨33, true, [uv, tv]⟩) hb3
  have g3 : (H.set b3 ⟨33, true, [uv, tv]⟩) b3 = some ⟨33, true, [uv, tv]⟩ := Hp.set_same _ _ _
  have h := h.ext hE
  have hm := hm.ext hE
  have hp := hp.ext hE
  have hz := hz.ext hE
  generalize H.set b3 ⟨33, true, [uv, tv]⟩ = G at *
  simp only [↓WP, WQ, if_true, if_false, eq_self, implies_true, ne_eq, List.nil_append, List.cons_append, ↓reduceIte, Nat.reduceEqDiff, Nat.reduceBEq, reduceCtorEq, Nat.reduceAdd, resA, ret1, qv, lv, ev, boolA, binA, intA, shiftA, cmpA, beqA, lres, hp.len]
  refine Br_dec (fun l1 => ?_) (fun l1 => ?_) <;> simp only [↓WP, WQ, if_true, if_false, eq_self, implies_true, ne_eq, List.nil_append, List.cons_append, ↓reduceIte, Nat.reduceEqDiff, Nat.reduceBEq, reduceCtorEq, Nat.reduceAdd, resA, ret1, qv, lv, ev, boolA, binA, intA, shiftA, cmpA, beqA, lres, hz.len]
  refine Br_dec (fun l2 => ?_) (fun l2 => ?_) <;> simp only [↓WP, WQ, if_true, if_false, eq_self, implies_true, ne_eq, List.nil_append, List.cons_append, ↓reduceIte, Nat.reduceEqDiff, Nat.reduceBEq, reduceCtorEq, Nat.reduceAdd, resA, ret1, qv, lv, ev, boolA, binA, intA, shiftA, cmpA, beqA, lres, atN_two g3]
  have lp : p.length ≤ 1048576 := by omega
  have lt : t.length ≤ 1048576 := by omega
  refine szAlgebra_c h hm hn hT (by omega) (by omega) fun k k0 k1 k2 => ?_
  refine (Classical.em (k < 0)).elim (fun hk => ?_) (fun hk => ?_) <;> simp only [↓WP, WQ, if_true, if_false, eq_self, implies_true, ne_eq, List.nil_append, List.cons_append, ↓reduceIte, Nat.reduceEqDiff, Nat.reduceBEq, reduceCtorEq, Nat.reduceAdd, resA, ret1, qv, lv, ev, boolA, binA, intA, shiftA, cmpA, beqA, lres, hk, atN_two g3]
  obtain ⟨lu, lT⟩ := k2 (by omega)
  have hS := Lim.small lu lT
  refine toAlgebra_c h hm lu lT fun u1 q1 t1 G1 ht1 o1 => ?_
  obtain ⟨a1, a2⟩ := alg_of ht1 o1
  have hE := o1.ext'
  have g3 := hE.get g3
  have h := h.ext hE
  have hm := hm.ext hE
  have hp := hp.ext hE
  have hz := hz.ext hE
  simp only [↓WP, WQ, if_true, if_false, eq_self, implies_true, ne_eq, List.nil_append, List.cons_append, ↓reduceIte, Nat.reduceEqDiff, Nat.reduceBEq, reduceCtorEq, Nat.reduceAdd, resA, ret1, qv, lv, ev, boolA, binA, intA, shiftA, cmpA, beqA, lres]
  refine toIntS_c hp lp fun u2 G2 o2 => ?_
  have a3 := li_ints (o2.get (i := 0) rfl)
  have hE := o2.ext'
  have g3 := hE.get g3
  have h := h.ext hE
  have hm := hm.ext hE
  have hp := hp.ext hE
  have hz := hz.ext hE
  have a1 := a1.ext hE
  have a2 := a2.ext hE
  simp only [↓WP, WQ, if_true, if_false, eq_self, implies_true, ne_eq, List.nil_append, List.cons_append, ↓reduceIte, Nat.reduceEqDiff, Nat.reduceBEq, reduceCtorEq, Nat.reduceAdd, resA, ret1, qv, lv, ev, boolA, binA, intA, shiftA, cmpA, beqA, lres]
  refine toIntS_c hz lt fun u3 G3 o3 => ?_
  have a4 := li_ints (o3.get (i := 0) rfl)
  have hE := o3.ext'
  have g3 := hE.get g3
  have h := h.ext hE
  have hm := hm.ext hE
  have hp := hp.ext hE
  have hz := hz.ext hE
  have a1 := a1.ext hE
  have a2 := a2.ext hE
  have a3 := a3.ext hE
  obtain ⟨out, ho⟩ : ∃ b : Bool, b = true ↔ IsAlg A ∧ IsTerm p ∧ IsTerm t ∧ FolA A p t := by
    by_cases hc : IsAlg A ∧ IsTerm p ∧ IsTerm t ∧ FolA A p t
    · exact ⟨true, by simp only [hc, and_self]⟩
    · exact ⟨false, by simp only [hc, reduceCtorEq]⟩
  have sp : ∀ {G : Hp} {uv tv pv zv : AV} {Q : AV → Hp → Prop}, Ints G uv A.up → Mat G tv A.times → Ints G pv p → Ints G zv t → Q (.bool out) G → ACalls Try.prog w0 28 [.agg [uv, tv], pv, zv] G Q := fun h1 h2 h3 h4 hq =>
    sFollows_c h1 h2 hS h3 h4 lp lt (fun hc => by rw [ho.2 hc] at hq; exact hq) (fun hc => by rw [Bool.eq_false_iff.2 fun e => hc (ho.1 e)] at hq; exact hq)
  have ip : ∀ {G : Hp} {uv tv pv zv : AV} {Q : AV → Hp → Prop}, Ints G uv A.up → Mat G tv A.times → Ints G pv p → Ints G zv t → Q (.bool out) G → ACalls Try.prog w0 30 [.agg [uv, tv], pv, zv] G Q := fun h1 h2 h3 h4 hq =>
    Follows_c h1 h2 hS h3 h4 lp lt (fun hc => by rw [ho.2 hc] at hq; exact hq) (fun hc => by rw [Bool.eq_false_iff.2 fun e => hc (ho.1 e)] at hq; exact hq)
  simp only [↓WP, WQ, if_true, if_false, eq_self, implies_true, ne_eq, List.nil_append, List.cons_append, ↓reduceIte, Nat.reduceEqDiff, Nat.reduceBEq, reduceCtorEq, Nat.reduceAdd, resA, ret1, qv, lv, ev, boolA, binA, intA, shiftA, cmpA, beqA, lres]
  refine sp a1 a2 a3 a4 ?_
  clear a1 a2 a3 a4
  simp only [↓WP, WQ, if_true, if_false, eq_self, implies_true, ne_eq, List.nil_append, List.cons_append, ↓reduceIte, Nat.reduceEqDiff, Nat.reduceBEq, reduceCtorEq, Nat.reduceAdd, resA, ret1, qv, lv, ev, boolA, binA, intA, shiftA, cmpA, beqA, lres, atN_two g3]
  refine toAlgebra_c h hm lu lT fun x1 y1 s1 G4 hs1 o4 => ?_
  obtain ⟨a1, a2⟩ := alg_of hs1 o4
  have hE := o4.ext'
  have g3 := hE.get g3
  have h := h.ext hE
  have hm := hm.ext hE
  have hp := hp.ext hE
  have hz := hz.ext hE
  simp only [↓WP, WQ, if_true, if_false, eq_self, implies_true, ne_eq, List.nil_append, List.cons_append, ↓reduceIte, Nat.reduceEqDiff, Nat.reduceBEq, reduceCtorEq, Nat.reduceAdd, resA, ret1, qv, lv, ev, boolA, binA, intA, shiftA, cmpA, beqA, lres]
  refine NewRowd_in fun b9 hb9 => ?_
  have hE := Ext.set (x := ⟨36, true, [.sl x1 0 A.up.length, .sl y1 0 s1.length]⟩) hb9
  have g9 : (G4.set b9 ⟨36, true, [.sl x1 0 A.up.length, .sl y1 0 s1.length]⟩) b9 = some ⟨36, true, [.sl x1 0 A.up.length, .sl y1 0 s1.length]⟩ := Hp.set_same _ _ _
  have st9 := stA_two (x := .sl x1 0 A.up.length) (y := .sl y1 0 s1.length) (Hp.set_same G4 b9 ⟨36, true, [.nils, .nils]⟩) rfl rfl
  rw [Hp.set_set] at st9
  have g3 := hE.get g3
  have h := h.ext hE
  have hm := hm.ext hE
  have hp := hp.ext hE
  have hz := hz.ext hE
  have a1 := a1.ext hE
  have a2 := a2.ext hE
  simp only [↓WP, WQ, if_true, if_false, eq_self, implies_true, ne_eq, List.nil_append, List.cons_append, ↓reduceIte, Nat.reduceEqDiff, Nat.reduceBEq, reduceCtorEq, Nat.reduceAdd, resA, ret1, qv, lv, ev, boolA, binA, intA, shiftA, cmpA, beqA, lres, st9]
  generalize G4.set b9 ⟨36, true, [.sl x1 0 A.up.length, .sl y1 0 s1.length]⟩ = G5 at *
  refine toIntS_c hp lp fun u2 G6 o6 => ?_
  have a3 := li_ints (o6.get (i := 0) rfl)
  have hE := o6.ext'
  have g3 := hE.get g3
  have g9 := hE.get g9
  have h := h.ext hE
  have hm := hm.ext hE
  have hp := hp.ext hE
  have hz := hz.ext hE
  have a1 := a1.ext hE
  have a2 := a2.ext hE
  simp only [↓WP, WQ, if_true, if_false, eq_self, implies_true, ne_eq, List.nil_append, List.cons_append, ↓reduceIte, Nat.reduceEqDiff, Nat.reduceBEq, reduceCtorEq, Nat.reduceAdd, resA, ret1, qv, lv, ev, boolA, binA, intA, shiftA, cmpA, beqA, lres]
  refine toIntS_c hz lt fun u3 G7 o7 => ?_
  have a4 := li_ints (o7.get (i := 0) rfl)
  have hE := o7.ext'
  have g3 := hE.get g3
  have g9 := hE.get g9
  have h := h.ext hE
  have hm := hm.ext hE
  have hp := hp.ext hE
  have hz := hz.ext hE
  have a1 := a1.ext hE
  have a2 := a2.ext hE
  have a3 := a3.ext hE
  simp only [↓WP, WQ, if_true, if_false, eq_self, implies_true, ne_eq, List.nil_append, List.cons_append, ↓reduceIte, Nat.reduceEqDiff, Nat.reduceBEq, reduceCtorEq, Nat.reduceAdd, resA, ret1, qv, lv, ev, boolA, binA, intA, shiftA, cmpA, beqA, lres, atN_two g9]
  refine ip a1 a2 a3 a4 ?_
  simp only [↓WP, WQ, if_true, if_false, eq_self, implies_true, ne_eq, List.nil_append, List.cons_append, ↓reduceIte, Nat.reduceEqDiff, Nat.reduceBEq, reduceCtorEq, Nat.reduceAdd, resA, ret1, qv, lv, ev, boolA, binA, intA, shiftA, cmpA, beqA, lres, bne_self_eq_false]
  refine DR_in (fun r => r = b9) rfl ?_
  simp only [↓WP, WQ, if_true, if_false, eq_self, implies_true, ne_eq, List.nil_append, List.cons_append, ↓reduceIte, Nat.reduceEqDiff, Nat.reduceBEq, reduceCtorEq, Nat.reduceAdd, resA, ret1, qv, lv, ev, boolA, binA, intA, shiftA, cmpA, beqA, lres, loadS, ev, atN_two g9, atN_two g3]
  refine toAlgebra_c h hm lu lT fun x2 y2 s2 G8 hs2 o8 => ?_
  obtain ⟨c1, c2⟩ := alg_of hs2 o8
  have hE := o8.ext'
  refine ⟨fun r hr => by rw [hr, hE b9 (some_ne g9)], ?_⟩
  have hp := hp.ext hE
  have hz := hz.ext hE
  have a1 := a1.ext hE
  have a2 := a2.ext hE
  have a3 := a3.ext hE
  have a4 := a4.ext hE
  simp only [↓WP, WQ, if_true, if_false, eq_self, implies_true, ne_eq, List.nil_append, List.cons_append, ↓reduceIte, Nat.reduceEqDiff, Nat.reduceBEq, reduceCtorEq, Nat.reduceAdd, resA, ret1, qv, lv, ev, boolA, binA, intA, shiftA, cmpA, beqA, lres]
  refine eqAlgebra_c (A := A) (B := A) (n := 1048576) a1 a2 c1 c2 lu lT lu lT (by omega) (fun _ => ?_) (fun hc => absurd rfl hc)
  refine ⟨fun _ _ => rfl, ?_⟩
  simp only [↓WP, WQ, if_true, if_false, eq_self, implies_true, ne_eq, List.nil_append, List.cons_append, ↓reduceIte, Nat.reduceEqDiff, Nat.reduceBEq, reduceCtorEq, Nat.reduceAdd, resA, ret1, qv, lv, ev, boolA, binA, intA, shiftA, cmpA, beqA, lres]
  refine toIntS_c hp lp fun u4 G9 o9 => ?_
  have hE := o9.ext'
  have hz := hz.ext hE
  have a4 := a4.ext hE
  simp only [↓WP, WQ, if_true, if_false, eq_self, implies_true, ne_eq, List.nil_append, List.cons_append, ↓reduceIte, Nat.reduceEqDiff, Nat.reduceBEq, reduceCtorEq, Nat.reduceAdd, resA, ret1, qv, lv, ev, boolA, binA, intA, shiftA, cmpA, beqA, lres]
  refine eqIntS_c (a3.ext hE) (li_ints (o9.get (i := 0) rfl)) (by omega) (by omega) (fun _ => ?_) (fun hc => absurd rfl hc)
  simp only [↓WP, WQ, if_true, if_false, eq_self, implies_true, ne_eq, List.nil_append, List.cons_append, ↓reduceIte, Nat.reduceEqDiff, Nat.reduceBEq, reduceCtorEq, Nat.reduceAdd, resA, ret1, qv, lv, ev, boolA, binA, intA, shiftA, cmpA, beqA, lres]
  refine toIntS_c hz lt fun u5 G10 o10 => ?_
  simp only [↓WP, WQ, if_true, if_false, eq_self, implies_true, ne_eq, List.nil_append, List.cons_append, ↓reduceIte, Nat.reduceEqDiff, Nat.reduceBEq, reduceCtorEq, Nat.reduceAdd, resA, ret1, qv, lv, ev, boolA, binA, intA, shiftA, cmpA, beqA, lres]
  refine eqIntS_c (a4.ext o10.ext') (li_ints (o10.get (i := 0) rfl)) (by omega) (by omega) (fun _ => ?_) (fun hc => absurd rfl hc)
  simp only [↓WP, WQ, if_true, if_false, eq_self, implies_true, ne_eq, List.nil_append, List.cons_append, ↓reduceIte, Nat.reduceEqDiff, Nat.reduceBEq, reduceCtorEq, Nat.reduceAdd, resA, ret1, qv, lv, ev, boolA, binA, intA, shiftA, cmpA, beqA, lres]
end Go.AL

/-
  The law of IsTrue.
-/
namespace Go.AL
open Go.Proofs
set_option linter.unusedSimpArgs false
set_option linter.unusedVariables false
variable {w0 : World} {H : Hp}

theorem FnExactIsTrue_l {uv tv zv : AV} {A : Alg} {t : List Int} (h : Ints H uv A.up) (hm : Mat H tv A.times) (hn : A.up.length ≤ 9223372036854775807) (hT : Lim 9223372036854775807 A.times) (hz : Ints H zv t) (_ : t.length ≤ 9223372036854775807) :
    ACalls Try.prog w0 9 [.agg [uv, tv], zv] H fun v _ => v = .bool true := by
  refine in9 ?_
  simp only [c9, ↓WP, WQ, if_true, if_false, eq_self, implies_true, ne_eq, List.nil_append, List.cons_append, ↓reduceIte, Nat.reduceEqDiff, Nat.reduceBEq, reduceCtorEq, Nat.reduceAdd, resA, ret1, qv, lv, ev, boolA, binA, intA, shiftA, cmpA, beqA, lres, cells_alg h.len hm.len]
  refine NewRowd_in fun b3 hb3 => ?_
  have hE := Ext.set (x := ⟨33, true, [uv, tv]⟩) hb3
  have g3 : (H.set b3 ⟨33, true, [uv, tv]⟩) b3 = some ⟨33, true, [uv, tv]⟩ := Hp.set_same _ _ _
  have h := h.ext hE
  have hm := hm.ext hE
  have hz := hz.ext hE
  generalize H.set b3 ⟨33, true, [uv, tv]⟩ = G at *
  simp only [↓WP, WQ, if_true, if_false, eq_self, implies_true, ne_eq, List.nil_append, List.cons_append, ↓reduceIte, Nat.reduceEqDiff, Nat.reduceBEq, reduceCtorEq, Nat.reduceAdd, resA, ret1, qv, lv, ev, boolA, binA, intA, shiftA, cmpA, beqA, lres, hz.len]
  refine Br_dec (fun l2 => ?_) (fun l2 => ?_) <;> simp only [↓WP, WQ, if_true, if_false, eq_self, implies_true, ne_eq, List.nil_append, List.cons_append, ↓reduceIte, Nat.reduceEqDiff, Nat.reduceBEq, reduceCtorEq, Nat.reduceAdd, resA, ret1, qv, lv, ev, boolA, binA, intA, shiftA, cmpA, beqA, lres, atN_two g3]
  have lt : t.length ≤ 1048576 := by omega
  refine szAlgebra_c h hm hn hT (by omega) (by omega) fun k k0 k1 k2 => ?_
  refine (Classical.em (k < 0)).elim (fun hk => ?_) (fun hk => ?_) <;> simp only [↓WP, WQ, if_true, if_false, eq_self, implies_true, ne_eq, List.nil_append, List.cons_append, ↓reduceIte, Nat.reduceEqDiff, Nat.reduceBEq, reduceCtorEq, Nat.reduceAdd, resA, ret1, qv, lv, ev, boolA, binA, intA, shiftA, cmpA, beqA, lres, hk, atN_two g3]
  obtain ⟨lu, lT⟩ := k2 (by omega)
  have hS := Lim.small lu lT
  refine toAlgebra_c h hm lu lT fun u1 q1 t1 G1 ht1 o1 => ?_
  obtain ⟨a1, a2⟩ := alg_of ht1 o1
  have hE := o1.ext'
  have g3 := hE.get g3
  have h := h.ext hE
  have hm := hm.ext hE
  have hz := hz.ext hE
  simp only [↓WP, WQ, if_true, if_false, eq_self, implies_true, ne_eq, List.nil_append, List.cons_append, ↓reduceIte, Nat.reduceEqDiff, Nat.reduceBEq, reduceCtorEq, Nat.reduceAdd, resA, ret1, qv, lv, ev, boolA, binA, intA, shiftA, cmpA, beqA, lres]
  refine toIntS_c hz lt fun u3 G3 o3 => ?_
  have a4 := li_ints (o3.get (i := 0) rfl)
  have hE := o3.ext'
  have g3 := hE.get g3
  have h := h.ext hE
  have hm := hm.ext hE
  have hz := hz.ext hE
  have a1 := a1.ext hE
  have a2 := a2.ext hE
  obtain ⟨out, ho⟩ : ∃ b : Bool, b = true ↔ (IsAlg A ∧ IsTerm t) ∧ refF A t = none := by
    by_cases hc : (IsAlg A ∧ IsTerm t) ∧ refF A t = none
    · exact ⟨true, by simp only [hc, and_self]⟩
    · exact ⟨false, by simp only [hc, reduceCtorEq]⟩
  have sp : ∀ {G : Hp} {uv tv zv : AV} {Q : AV → Hp → Prop}, Ints G uv A.up → Mat G tv A.times → Ints G zv t → Q (.bool out) G → ACalls Try.prog w0 41 [.agg [uv, tv], zv] G Q := fun h1 h2 h4 hq =>
    sIsTrue_c h1 h2 hS h4 lt (fun hc => by rw [ho.2 hc] at hq; exact hq) (fun hc => by rw [Bool.eq_false_iff.2 fun e => hc (ho.1 e)] at hq; exact hq)
  have ip : ∀ {G : Hp} {uv tv zv : AV} {Q : AV → Hp → Prop}, Ints G uv A.up → Mat G tv A.times → Ints G zv t → Q (.bool out) G → ACalls Try.prog w0 42 [.agg [uv, tv], zv] G Q := fun h1 h2 h4 hq =>
    IsTrue_c h1 h2 hS h4 lt (fun hc => by rw [ho.2 hc] at hq; exact hq) (fun hc => by rw [Bool.eq_false_iff.2 fun e => hc (ho.1 e)] at hq; exact hq)
  simp only [↓WP, WQ, if_true, if_false, eq_self, implies_true, ne_eq, List.nil_append, List.cons_append, ↓reduceIte, Nat.reduceEqDiff, Nat.reduceBEq, reduceCtorEq, Nat.reduceAdd, resA, ret1, qv, lv, ev, boolA, binA, intA, shiftA, cmpA, beqA, lres]
  refine sp a1 a2 a4 ?_
  clear a1 a2 a4
  simp only [↓WP, WQ, if_true, if_false, eq_self, implies_true, ne_eq, List.nil_append, List.cons_append, ↓reduceIte, Nat.reduceEqDiff, Nat.reduceBEq, reduceCtorEq, Nat.reduceAdd, resA, ret1, qv, lv, ev, boolA, binA, intA, shiftA, cmpA, beqA, lres, atN_two g3]
  refine toAlgebra_c h hm lu lT fun x1 y1 s1 G4 hs1 o4 => ?_
  obtain ⟨a1, a2⟩ := alg_of hs1 o4
  have hE := o4.ext'
  have g3 := hE.get g3
  have h := h.ext hE
  have hm := hm.ext hE
  have hz := hz.ext hE
  simp only [↓WP, WQ, if_true, if_false, eq_self, implies_true, ne_eq, List.nil_append, List.cons_append, ↓reduceIte, Nat.reduceEqDiff, Nat.reduceBEq, reduceCtorEq, Nat.reduceAdd, resA, ret1, qv, lv, ev, boolA, binA, intA, shiftA, cmpA, beqA, lres]
  refine NewRowd_in fun b9 hb9 => ?_
  have hE := Ext.set (x := ⟨36, true, [.sl x1 0 A.up.length, .sl y1 0 s1.length]⟩) hb9
  have g9 : (G4.set b9 ⟨36, true, [.sl x1 0 A.up.length, .sl y1 0 s1.length]⟩) b9 = some ⟨36, true, [.sl x1 0 A.up.length, .sl y1 0 s1.length]⟩ := Hp.set_same _ _ _
  have st9 := stA_two (x := .sl x1 0 A.up.length) (y := .sl y1 0 s1.length) (Hp.set_same G4 b9 ⟨36, true, [.nils, .nils]⟩) rfl rfl
  rw [Hp.set_set] at st9
  have g3 := hE.get g3
  have h := h.ext hE
  have hm := hm.ext hE
  have hz := hz.ext hE
  have a1 := a1.ext hE
  have a2 := a2.ext hE
  simp only [↓WP, WQ, if_true, if_false, eq_self, implies_true, ne_eq, List.nil_append, List.cons_append, ↓reduceIte, Nat.reduceEqDiff, Nat.reduceBEq, reduceCtorEq, Nat.reduceAdd, resA, ret1, qv, lv, ev, boolA, binA, intA, shiftA, cmpA, beqA, lres, st9]
  generalize G4.set b9 ⟨36, true, [.sl x1 0 A.up.length, .sl y1 0 s1.length]⟩ = G5 at *
  refine toIntS_c hz lt fun u3 G7 o7 => ?_
  have a4 := li_ints (o7.get (i := 0) rfl)
  have hE := o7.ext'
  have g3 := hE.get g3
  have g9 := hE.get g9
  have h := h.ext hE
  have hm := hm.ext hE
  have hz := hz.ext hE
  have a1 := a1.ext hE
  have a2 := a2.ext hE
  simp only [↓WP, WQ, if_true, if_false, eq_self, implies_true, ne_eq, List.nil_append, List.cons_append, ↓reduceIte, Nat.reduceEqDiff, Nat.reduceBEq, reduceCtorEq, Nat.reduceAdd, resA, ret1, qv, lv, ev, boolA, binA, intA, shiftA, cmpA, beqA, lres, atN_two g9]
  refine ip a1 a2 a4 ?_
  simp only [↓WP, WQ, if_true, if_false, eq_self, implies_true, ne_eq, List.nil_append, List.cons_append, ↓reduceIte, Nat.reduceEqDiff, Nat.reduceBEq, reduceCtorEq, Nat.reduceAdd, resA, ret1, qv, lv, ev, boolA, binA, intA, shiftA, cmpA, beqA, lres, bne_self_eq_false]
  refine DR_in (fun r => r = b9) rfl ?_
  simp only [↓WP, WQ, if_true, if_false, eq_self, implies_true, ne_eq, List.nil_append, List.cons_append, ↓reduceIte, Nat.reduceEqDiff, Nat.reduceBEq, reduceCtorEq, Nat.reduceAdd, resA, ret1, qv, lv, ev, boolA, binA, intA, shiftA, cmpA, beqA, lres, loadS, ev, atN_two g9, atN_two g3]
  refine toAlgebra_c h hm lu lT fun x2 y2 s2 G8 hs2 o8 => ?_
  obtain ⟨c1, c2⟩ := alg_of hs2 o8
  have hE := o8.ext'
  refine ⟨fun r hr => by rw [hr, hE b9 (some_ne g9)], ?_⟩
  have hz := hz.ext hE
  have a1 := a1.ext hE
  have a2 := a2.ext hE
  have a4 := a4.ext hE
  simp only [↓WP, WQ, if_true, if_false, eq_self, implies_true, ne_eq, List.nil_append, List.cons_append, ↓reduceIte, Nat.reduceEqDiff, Nat.reduceBEq, reduceCtorEq, Nat.reduceAdd, resA, ret1, qv, lv, ev, boolA, binA, intA, shiftA, cmpA, beqA, lres]
  refine eqAlgebra_c (A := A) (B := A) (n := 1048576) a1 a2 c1 c2 lu lT lu lT (by omega) (fun _ => ?_) (fun hc => absurd rfl hc)
  refine ⟨fun _ _ => rfl, ?_⟩
  simp only [↓WP, WQ, if_true, if_false, eq_self, implies_true, ne_eq, List.nil_append, List.cons_append, ↓reduceIte, Nat.reduceEqDiff, Nat.reduceBEq, reduceCtorEq, Nat.reduceAdd, resA, ret1, qv, lv, ev, boolA, binA, intA, shiftA, cmpA, beqA, lres]
  refine toIntS_c hz lt fun u5 G10 o10 => ?_
  simp only [↓WP, WQ, if_true, if_false, eq_self, implies_true, ne_eq, List.nil_append, List.cons_append, ↓reduceIte, Nat.reduceEqDiff, Nat.reduceBEq, reduceCtorEq, Nat.reduceAdd, resA, ret1, qv, lv, ev, boolA, binA, intA, shiftA, cmpA, beqA, lres]
  refine eqIntS_c (a4.ext o10.ext') (li_ints (o10.get (i := 0) rfl)) (by omega) (by omega) (fun _ => ?_) (fun hc => absurd rfl hc)
  simp only [↓WP, WQ, if_true, if_false, eq_self, implies_true, ne_eq, List.nil_append, List.cons_append, ↓reduceIte, Nat.reduceEqDiff, Nat.reduceBEq, reduceCtorEq, Nat.reduceAdd, resA, ret1, qv, lv, ev, boolA, binA, intA, shiftA, cmpA, beqA, lres]
end Go.AL

/-
  The given statement FnExactIsTrueSaid is proved: for every input the law FnExactIsTrue returns true, and each argument reads as before. Conditions: none beyond the given row's own.
-/
namespace Go.Proofs.Ytkkgckmgplicjaa
open Go.AL Go.ChangeShapes Go.WideShapes
set_option maxRecDepth 100000

theorem try_own : ownKnob Try.prog.godebug = Option.none := by kernel_rfl
theorem try_kids : Kids Try.prog (· < Try.prog.types.size) := kids_rows (by kernel_rfl) (by kernel_rfl)
theorem try_full : ∀ t e, t < Try.prog.types.size → Try.prog.underlying t = some (.slice e) → 0 < Try.prog.cellsOf e := slices_full_of Try.prog (by kernel_rfl)
theorem try_alg (W : World) (base : Nat) : Adds Try.prog W base 33 PAlg :=
  adds_alg (tu := 30) (tt := 31) (te := 30) (tq := 3) Try.underlying33 rfl rfl rfl rfl (by kernel_rfl) (by kernel_rfl) (by kernel_rfl) Try.underlying30 Try.underlying3 (by kernel_rfl) Try.underlying31 Try.underlying30 (by kernel_rfl)
theorem try_ints (W : World) (base : Nat) : Adds Try.prog W base 30 PInts := adds_ints Try.underlying30 Try.underlying3 (by kernel_rfl)
theorem try_int (W : World) (base : Nat) : Adds Try.prog W base 3 PInt := adds_int Try.underlying3
theorem len63 {n : Nat} (h : n ≤ maxLen) : n ≤ 9223372036854775807 := by unfold maxLen at h; omega
theorem lim63 {T : List (List Int)} (h : T.length ≤ maxLen) (k : ∀ x : Int, 0 ≤ x → x < T.length → (T.getD x.toNat []).length ≤ maxLen) : Lim 9223372036854775807 T := ⟨len63 h, fun x x0 x1 => len63 (k x x0 x1)⟩

theorem lifted (os : Os) (started : os.Started) (H : Type) (enc : TypeId × Value → H) :
    ReturnsInHanded {} Try.checked os 9 .any (Rows.fnExactIsTrueSpec.pre6 enc Try.prog Try.f9 Rows.fnExactIsTrueRow.domain false) (Rows.fnExactIsTrueSpec.post enc Try.prog Try.f9 false true false false) :=
  handed_args (C := Try.checked) (tb := 4) [PAlg, PInts] try_own started (by kernel_rfl) Try.func9
    (ChangeSpec.witness6 (enc := enc) (C := Try.checked) false ⟨#[], #[.agg #[.slice Option.none 0 0, .slice Option.none 0 0], .slice Option.none 0 0], []⟩ 8 (by kernel_rfl) (by kernel_rfl) (by kernel_rfl) (by kernel_rfl))
    try_kids try_full (by rw [Try.params9]; exact of_decide_eq_true (by kernel_rfl)) (fun W base => by rw [Try.params9]; exact ⟨try_alg W base, try_ints W base, trivial⟩) rfl (by kernel_rfl) Try.underlying4
    (fun ds hl => by
      rw [Try.params9] at hl
      match ds, hl with
      | [d0, d1], _ => rfl)
    (fun w0 H bs hb => by
      match bs, hb with
      | [b0, b1], hb =>
        obtain ⟨⟨_, _, A0, rfl, hu0, hm0, hn0, hl0, hr0⟩, ⟨l1, hl1, hn1⟩, _⟩ := hb
        exact FnExactIsTrue_l hu0 hm0 (len63 hn0) (lim63 hl0 hr0) hl1 (len63 hn1))

theorem fnExactIsTrue_holds : Rows.FnExactIsTrueSaid :=
  OpenClaim.holds_of_wide 9 Try.f9 rfl rfl rfl rfl rfl rfl rfl ⟨rfl, rfl, rfl, rfl, rfl⟩ rfl rfl rfl rfl rfl (by kernel_rfl) Try.func9 (by kernel_rfl)
    (of_decide_eq_true (by kernel_rfl)) (by unfold Func.isWrapper; first | (rw [if_pos (by decide +kernel)]; kernel_rfl) | (rw [if_neg (by decide +kernel)]; exact ⟨rfl, rfl⟩))
    (fun os started H enc _ => lifted os started H enc)

#print axioms fnExactIsTrue_holds
end Go.Proofs.Ytkkgckmgplicjaa
