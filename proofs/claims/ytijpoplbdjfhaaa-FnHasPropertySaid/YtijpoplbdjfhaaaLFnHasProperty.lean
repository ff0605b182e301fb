/-
  The given statement FnHasPropertySaid is proved: for every input the law FnHasProperty returns true, and each argument reads as it did before the call. Conditions: none beyond the given row.
-/
import Derived.Test.YtijpoplbdjfhaaaM3
import Derived.Test.YtijpoplbdjfhaaaM5
import Derived.Test.YtijpoplbdjfhaaaRows
/-
  The law of ImplyOf.
-/
namespace Go.AL
open Go.Proofs
set_option linter.unusedSimpArgs false
set_option linter.unusedVariables false
variable {w0 : World} {H : Hp}

theorem Has.el {A : Alg} {x y : Int} (h : Has A x y) : IsAlg A ∧ El A x ∧ El A y := h

theorem FnImplyOf_l {bv : AV} {m : Nat} (hb : Byt H bv m) (hm : m ≤ 9223372036854775807) : ACalls Try.prog w0 3 [bv] H fun v _ => v = .bool true := by
  refine in3 ?_
  simp only [c3, ↓WP, WQ, if_true, if_false, eq_self, implies_true, ne_eq, List.nil_append, List.cons_append, ↓reduceIte, Nat.reduceEqDiff, Nat.reduceBEq, reduceCtorEq, Nat.reduceAdd, resA, ret1, qv, lv, ev, boolA, binA, intA, shiftA, cmpA, beqA, lres, hb.1]
  refine Br_dec (fun h1 => ?_) (fun h1 => ?_) <;> simp only [↓WP, WQ, if_true, if_false, eq_self, implies_true, ne_eq, List.nil_append, List.cons_append, ↓reduceIte, Nat.reduceEqDiff, Nat.reduceBEq, reduceCtorEq, Nat.reduceAdd, resA, ret1, qv, lv, ev, boolA, binA, intA, shiftA, cmpA, beqA, lres]
  refine DrawImplyOf_c hb (by omega) fun v A x y H1 hE hA => ?_
  obtain ⟨uv, tv, rfl, hu, ht⟩ := hA.open
  have hS := hA.small
  have hu7 := hA.up
  simp only [↓WP, WQ, if_true, if_false, eq_self, implies_true, ne_eq, List.nil_append, List.cons_append, ↓reduceIte, Nat.reduceEqDiff, Nat.reduceBEq, reduceCtorEq, Nat.reduceAdd, resA, ret1, qv, lv, ev, boolA, binA, intA, shiftA, cmpA, beqA, lres]
  refine NewRowd_in fun b3 hb3 => ?_
  have h0 : (H1.set b3 ⟨26, true, [.nils, .nils]⟩) b3 = some ⟨26, true, [.nils, .nils]⟩ := Hp.set_same _ _ _
  have hE3 := Ext.set (x := ⟨26, true, [uv, tv]⟩) hb3
  have g3 : (H1.set b3 ⟨26, true, [uv, tv]⟩) b3 = some ⟨26, true, [uv, tv]⟩ := Hp.set_same _ _ _
  simp only [↓WP, WQ, if_true, if_false, eq_self, implies_true, ne_eq, List.nil_append, List.cons_append, ↓reduceIte, Nat.reduceEqDiff, Nat.reduceBEq, reduceCtorEq, Nat.reduceAdd, resA, ret1, qv, lv, ev, boolA, binA, intA, shiftA, cmpA, beqA, lres, stA_two (x := uv) (y := tv) h0 (lenA_scal hu.len) (lenA_scal ht.len), Hp.set_set, atN_two g3]
  generalize H1.set b3 ⟨26, true, [uv, tv]⟩ = G at *
  have hu := hu.ext hE3
  have ht := ht.ext hE3
  refine (Classical.em (Has A x y)).elim (fun hh => ?_) (fun hh => ?_)
  rotate_left
  · refine ImplyOf_c hu ht hS (fun h => absurd h hh) (fun _ => ?_)
    simp only [↓WP, WQ, if_true, if_false, eq_self, implies_true, ne_eq, List.nil_append, List.cons_append, ↓reduceIte, Nat.reduceEqDiff, Nat.reduceBEq, reduceCtorEq, Nat.reduceAdd, resA, ret1, qv, lv, ev, boolA, binA, intA, shiftA, cmpA, beqA, lres, atN_two g3]
    refine sImplyOf_c hu ht hS (fun h => absurd h hh) (fun _ => ?_)
    simp only [↓WP, WQ, if_true, if_false, eq_self, implies_true, ne_eq, List.nil_append, List.cons_append, ↓reduceIte, Nat.reduceEqDiff, Nat.reduceBEq, reduceCtorEq, Nat.reduceAdd, resA, ret1, qv, lv, ev, boolA, binA, intA, shiftA, cmpA, beqA, lres, atN_two g3, Int.reduceNeg, Int.reduceLT]
    refine sImplyOf_c hu ht hS (fun h => absurd h hh) (fun _ => ?_)
    simp only [↓WP, WQ, if_true, if_false, eq_self, implies_true, ne_eq, List.nil_append, List.cons_append, ↓reduceIte, Nat.reduceEqDiff, Nat.reduceBEq, reduceCtorEq, Nat.reduceAdd, resA, ret1, qv, lv, ev, boolA, binA, intA, shiftA, cmpA, beqA, lres]
  obtain ⟨hI, hx, hy⟩ := hh.el
  have hie := hI.ie x y
  have hneg : ¬ impF A x y < 0 := by have := hie.1; omega
  have hT : Tab G tv A := ⟨ht, hI.toSquare⟩
  refine ImplyOf_c hu ht hS (fun _ => ?_) (fun h => absurd hh h)
  simp only [↓WP, WQ, if_true, if_false, eq_self, implies_true, ne_eq, List.nil_append, List.cons_append, ↓reduceIte, Nat.reduceEqDiff, Nat.reduceBEq, reduceCtorEq, Nat.reduceAdd, resA, ret1, qv, lv, ev, boolA, binA, intA, shiftA, cmpA, beqA, lres, atN_two g3]
  refine sImplyOf_c hu ht hS (fun _ => ?_) (fun h => absurd hh h)
  simp only [↓WP, WQ, if_true, if_false, eq_self, implies_true, ne_eq, List.nil_append, List.cons_append, ↓reduceIte, Nat.reduceEqDiff, Nat.reduceBEq, reduceCtorEq, Nat.reduceAdd, resA, ret1, qv, lv, ev, boolA, binA, intA, shiftA, cmpA, beqA, lres, hneg]
  refine W_for 0 A.up.length (fun z e H' => H' = G ∧ Sl e [(3, .ptr b3 0), (4, .int .i64 x), (5, .int .i64 y), (6, .int .i64 (impF A x y)), (7, .int .i64 z)]) (by omega) ⟨rfl, by simp only [↓WP, WQ, if_true, if_false, eq_self, implies_true, ne_eq, List.nil_append, List.cons_append, ↓reduceIte, Nat.reduceEqDiff, Nat.reduceBEq, reduceCtorEq, Nat.reduceAdd, resA, ret1, qv, lv, ev, boolA, binA, intA, shiftA, cmpA, beqA, lres]⟩ ?_
  rintro z e H' hz0 hz1 ⟨rfl, hs⟩
  simp only [Sl_cons, Sl_nil, and_true] at hs
  have hw : IntKind.i64.wrap (z + 1) = z + 1 := wrap_id (by omega) (by omega)
  have hwl : IntKind.i64.wrap ((A.up.length : Int) - 1) = A.up.length - 1 := wrap_id (by omega) (by omega)
  refine (Classical.em (z < A.up.length)).elim (fun hz => ?_) (fun hz => ?_) <;> simp only [↓WP, WQ, if_true, if_false, eq_self, implies_true, ne_eq, List.nil_append, List.cons_append, ↓reduceIte, Nat.reduceEqDiff, Nat.reduceBEq, reduceCtorEq, Nat.reduceAdd, resA, ret1, qv, lv, ev, boolA, binA, intA, shiftA, cmpA, beqA, lres, hs, at_fst g3, hu.len, hz]
  · have hze : El A z := ⟨hz0, hz⟩
    refine DR_in (fun _ => True) rfl ?_
    simp only [↓WP, WQ, if_true, if_false, eq_self, implies_true, ne_eq, List.nil_append, List.cons_append, ↓reduceIte, Nat.reduceEqDiff, Nat.reduceBEq, reduceCtorEq, Nat.reduceAdd, resA, ret1, qv, lv, ev, boolA, binA, intA, shiftA, cmpA, beqA, lres, hs, at_fst g3, at_snd g3, hT.idx hx.1 hx.2, hT.at hx.1 hx.2, hT.idx2 hx.1 hx.2 hz0 hz, hT.at2 hx.1 hx.2 hz0 hz]
    refine IsBelow_c hu hS.up (fun _ c1 => ?_) (fun c1 => ?_) <;> simp only [↓WP, WQ, if_true, if_false, eq_self, implies_true, ne_eq, List.nil_append, List.cons_append, ↓reduceIte, Nat.reduceEqDiff, Nat.reduceBEq, reduceCtorEq, Nat.reduceAdd, resA, ret1, qv, lv, ev, boolA, binA, intA, shiftA, cmpA, beqA, lres, hs]
    · refine IsBelow_c hu hS.up (fun _ c2 => ?_) (fun c2 => ?_) <;> simp only [↓WP, WQ, if_true, if_false, eq_self, implies_true, ne_eq, List.nil_append, List.cons_append, ↓reduceIte, Nat.reduceEqDiff, Nat.reduceBEq, reduceCtorEq, Nat.reduceAdd, resA, ret1, qv, lv, ev, boolA, binA, intA, shiftA, cmpA, beqA, lres, hs, bne_self_eq_false, hw, hz]
      exact absurd ⟨⟨hI.toIsLat, hze, hie⟩, (hI.adj hx hy hze).1 c1⟩ c2
    · refine IsBelow_c hu hS.up (fun _ c2 => ?_) (fun c2 => ?_) <;> simp only [↓WP, WQ, if_true, if_false, eq_self, implies_true, ne_eq, List.nil_append, List.cons_append, ↓reduceIte, Nat.reduceEqDiff, Nat.reduceBEq, reduceCtorEq, Nat.reduceAdd, resA, ret1, qv, lv, ev, boolA, binA, intA, shiftA, cmpA, beqA, lres, hs, bne_self_eq_false, hw, hz]
      exact absurd ⟨⟨hI.toIsLat, hI.te hx hze, hy⟩, (hI.adj hx hy hze).2 c2⟩ c1
  · refine DR_in (fun _ => True) rfl ?_
    simp only [↓WP, WQ, if_true, if_false, eq_self, implies_true, ne_eq, List.nil_append, List.cons_append, ↓reduceIte, Nat.reduceEqDiff, Nat.reduceBEq, reduceCtorEq, Nat.reduceAdd, resA, ret1, qv, lv, ev, boolA, binA, intA, shiftA, cmpA, beqA, lres, hs, at_fst g3, hu.len, hwl]
    refine IsBelow_c hu hS.up (fun _ c1 => ?_) (fun c1 => ?_) <;> simp only [↓WP, WQ, if_true, if_false, eq_self, implies_true, ne_eq, List.nil_append, List.cons_append, ↓reduceIte, Nat.reduceEqDiff, Nat.reduceBEq, reduceCtorEq, Nat.reduceAdd, resA, ret1, qv, lv, ev, boolA, binA, intA, shiftA, cmpA, beqA, lres, hs]
    · rw [decide_eq_true ((hI.imp_top hx hy).2 c1)]; rfl
    · rw [decide_eq_false (fun e => c1 ⟨⟨hI.toIsLat, hx, hy⟩, (hI.imp_top hx hy).1 e⟩)]; rfl
end Go.AL

/-
  The law of HasProperty.
-/
namespace Go.AL
open Go.Proofs
set_option linter.unusedSimpArgs false
set_option linter.unusedVariables false
variable {w0 : World} {H : Hp}

theorem of_d {B : Hp} {r q ty : Nat} {K : Int} {l : List ByteArray} (hR : Rd B H r K) (hK : K ≤ 1000000000) (hv : H q = some ⟨ty, true, l.map AV.str⟩) (hqr : q ≠ r) (h1 : 1 ≤ l.length) {Q : AV → Hp → Prop}
    (hq : ∀ (s : ByteArray) H', s ∈ l → Rd B H' r (K + 1) → FX (is r) H H' → Q (.str s) H') :
    ACalls Try.prog w0 115 [.ptr r 0, .sl q 0 l.length] H Q := by
  refine in115 ?_
  simp only [c115, ↓WP, WQ, if_true, if_false, eq_self, implies_true, ne_eq, List.nil_append, List.cons_append, ↓reduceIte, Nat.reduceEqDiff, Nat.reduceBEq, reduceCtorEq, Nat.reduceAdd, resA, ret1, qv, lv, ev, boolA, binA, intA, shiftA, cmpA, beqA, lres]
  refine pick_d hR hK fun i H' i0 i1 _ hR' hF => ?_
  have hi := i1 (by omega)
  have hS := strs_new (hF.get (q := q) (fun e => hqr e) hv)
  have hat := hS.2 i.toNat (by omega)
  simp only [↓WP, WQ, if_true, if_false, eq_self, implies_true, ne_eq, List.nil_append, List.cons_append, ↓reduceIte, Nat.reduceEqDiff, Nat.reduceBEq, reduceCtorEq, Nat.reduceAdd, resA, ret1, qv, lv, ev, boolA, binA, intA, shiftA, cmpA, beqA, lres, idxA_elt hS.1 i0 hi, hat]
  exact hq _ H' (List.getElem_mem _) hR' hF

theorem aProperty_c {B : Hp} {r : Nat} {K : Int} (hR : Rd B H r K) (hK : K ≤ 1000000000) {Q : AV → Hp → Prop}
    (hq : ∀ (s : ByteArray) H', Rd B H' r (K + 1) → FX (is r) H H' → Q (.str s) H') :
    ACalls Try.prog w0 91 [.ptr r 0] H Q := by
  refine in91 ?_
  have e8 : fillA 1 (zerosA [.str ⟨#[]⟩] 8) [(0, .str (⟨#[112, 114, 101, 108, 105, 110, 101, 97, 114]⟩ : ByteArray)), (1, .str (⟨#[100, 105, 118, 105, 115, 105, 98, 108, 101]⟩ : ByteArray)), (2, .str (⟨#[105, 110, 118, 111, 108, 117, 116, 105, 118, 101]⟩ : ByteArray)), (3, .str (⟨#[105, 100, 101, 109, 112, 111, 116, 101, 110, 116]⟩ : ByteArray)), (4, .str (⟨#[98, 111, 111, 108, 101, 97, 110]⟩ : ByteArray)), (5, .str (⟨#[100, 105, 118, 105, 115, 105, 98, 108, 101]⟩ : ByteArray)), (6, .str (⟨#[105, 110, 118, 111, 108, 117, 116, 105, 118, 101]⟩ : ByteArray)), (7, .str (⟨#[]⟩ : ByteArray))] = some ([(⟨#[112, 114, 101, 108, 105, 110, 101, 97, 114]⟩ : ByteArray), (⟨#[100, 105, 118, 105, 115, 105, 98, 108, 101]⟩ : ByteArray), (⟨#[105, 110, 118, 111, 108, 117, 116, 105, 118, 101]⟩ : ByteArray), (⟨#[105, 100, 101, 109, 112, 111, 116, 101, 110, 116]⟩ : ByteArray), (⟨#[98, 111, 111, 108, 101, 97, 110]⟩ : ByteArray), (⟨#[100, 105, 118, 105, 115, 105, 98, 108, 101]⟩ : ByteArray), (⟨#[105, 110, 118, 111, 108, 117, 116, 105, 118, 101]⟩ : ByteArray), (⟨#[]⟩ : ByteArray)].map AV.str) := rfl
  simp only [c91, ↓WP, WQ, if_true, if_false, eq_self, implies_true, ne_eq, List.nil_append, List.cons_append, ↓reduceIte, Nat.reduceEqDiff, Nat.reduceBEq, reduceCtorEq, Nat.reduceAdd, resA, ret1, qv, lv, ev, boolA, binA, intA, shiftA, cmpA, beqA, lres, e8]
  refine NewRowd_in fun q hq0 => ?_
  have hE := Ext.set (x := ⟨9, true, [(⟨#[112, 114, 101, 108, 105, 110, 101, 97, 114]⟩ : ByteArray), (⟨#[100, 105, 118, 105, 115, 105, 98, 108, 101]⟩ : ByteArray), (⟨#[105, 110, 118, 111, 108, 117, 116, 105, 118, 101]⟩ : ByteArray), (⟨#[105, 100, 101, 109, 112, 111, 116, 101, 110, 116]⟩ : ByteArray), (⟨#[98, 111, 111, 108, 101, 97, 110]⟩ : ByteArray), (⟨#[100, 105, 118, 105, 115, 105, 98, 108, 101]⟩ : ByteArray), (⟨#[105, 110, 118, 111, 108, 117, 116, 105, 118, 101]⟩ : ByteArray), (⟨#[]⟩ : ByteArray)].map AV.str⟩) hq0
  simp only [↓WP, WQ, if_true, if_false, eq_self, implies_true, ne_eq, List.nil_append, List.cons_append, ↓reduceIte, Nat.reduceEqDiff, Nat.reduceBEq, reduceCtorEq, Nat.reduceAdd, resA, ret1, qv, lv, ev, boolA, binA, intA, shiftA, cmpA, beqA, lres]
  refine of_d (l := [(⟨#[112, 114, 101, 108, 105, 110, 101, 97, 114]⟩ : ByteArray), (⟨#[100, 105, 118, 105, 115, 105, 98, 108, 101]⟩ : ByteArray), (⟨#[105, 110, 118, 111, 108, 117, 116, 105, 118, 101]⟩ : ByteArray), (⟨#[105, 100, 101, 109, 112, 111, 116, 101, 110, 116]⟩ : ByteArray), (⟨#[98, 111, 111, 108, 101, 97, 110]⟩ : ByteArray), (⟨#[100, 105, 118, 105, 115, 105, 98, 108, 101]⟩ : ByteArray), (⟨#[105, 110, 118, 111, 108, 117, 116, 105, 118, 101]⟩ : ByteArray), (⟨#[]⟩ : ByteArray)]) (hR.Ext hE) hK (Hp.set_same _ _ _) (hR.ne hq0) (by simp) fun s H' _ hR' hF => ?_
  simp only [↓WP, WQ, if_true, if_false, eq_self, implies_true, ne_eq, List.nil_append, List.cons_append, ↓reduceIte, Nat.reduceEqDiff, Nat.reduceBEq, reduceCtorEq, Nat.reduceAdd, resA, ret1, qv, lv, ev, boolA, binA, intA, shiftA, cmpA, beqA, lres]
  exact hq s H' hR' (hE.fx.trans hF (fun _ e => e))

theorem DrawHasProperty_c {bv : AV} {m : Nat} (hb : Byt H bv m) (hm : m ≤ 4611686018427387904) {Q : AV → Hp → Prop}
    (hq : ∀ (s : ByteArray) v A H', Ext H H' → RA H H' v A → Q (.tup [.str s, v]) H') :
    ACalls Try.prog w0 42 [bv] H Q := by
  refine in42 ?_
  simp only [c42, ↓WP, WQ, if_true, if_false, eq_self, implies_true, ne_eq, List.nil_append, List.cons_append, ↓reduceIte, Nat.reduceEqDiff, Nat.reduceBEq, reduceCtorEq, Nat.reduceAdd, resA, ret1, qv, lv, ev, boolA, binA, intA, shiftA, cmpA, beqA, lres]
  refine NewRowd_in fun b2 hb2 => ?_
  have hE := Ext.set (x := ⟨26, true, [.nils, .nils]⟩) hb2
  have g2 : (H.set b2 ⟨26, true, [.nils, .nils]⟩) b2 = some ⟨26, true, [.nils, .nils]⟩ := Hp.set_same _ _ _
  have hb := byt_ext hb hE
  generalize H.set b2 ⟨26, true, [.nils, .nils]⟩ = B at *
  simp only [↓WP, WQ, if_true, if_false, eq_self, implies_true, ne_eq, List.nil_append, List.cons_append, ↓reduceIte, Nat.reduceEqDiff, Nat.reduceBEq, reduceCtorEq, Nat.reduceAdd, resA, ret1, qv, lv, ev, boolA, binA, intA, shiftA, cmpA, beqA, lres]
  refine newReader_c hb hm fun r H0 hR0 => ?_
  simp only [↓WP, WQ, if_true, if_false, eq_self, implies_true, ne_eq, List.nil_append, List.cons_append, ↓reduceIte, Nat.reduceEqDiff, Nat.reduceBEq, reduceCtorEq, Nat.reduceAdd, resA, ret1, qv, lv, ev, boolA, binA, intA, shiftA, cmpA, beqA, lres]
  refine aProperty_c hR0 (by omega) fun s H1 hR1 hF1 => ?_
  simp only [↓WP, WQ, if_true, if_false, eq_self, implies_true, ne_eq, List.nil_append, List.cons_append, ↓reduceIte, Nat.reduceEqDiff, Nat.reduceBEq, reduceCtorEq, Nat.reduceAdd, resA, ret1, qv, lv, ev, boolA, binA, intA, shiftA, cmpA, beqA, lres]
  refine someAlgebra_c hR1 (by omega) fun v A H2 hR hF hA => ?_
  obtain ⟨uv, tv, rfl, s1, s2⟩ := hA.scal
  have h2 := hR.ext.get g2
  simp only [↓WP, WQ, if_true, if_false, eq_self, implies_true, ne_eq, List.nil_append, List.cons_append, ↓reduceIte, Nat.reduceEqDiff, Nat.reduceBEq, reduceCtorEq, Nat.reduceAdd, resA, ret1, qv, lv, ev, boolA, binA, intA, shiftA, cmpA, beqA, lres, stA_two (x := uv) (y := tv) h2 s1 s2, atN_two (Hp.set_same H2 b2 ⟨26, true, [uv, tv]⟩)]
  refine hq s _ A _ ((hE.trans hR.ext).step hb2 fun q hq _ => by simp [Hp.set, hq]) ?_
  exact (hA.fxs (X := fun q => q = b2) ⟨fun q hq h0 => by simp [Hp.set, hq], fun q hq => (set_none hq).2⟩ (fun q e => by rw [e, hR1.ext.get g2]; simp)).back fun q hq => (hE.trans hR1.ext).nn hq

theorem FnHasProperty_l {bv : AV} {m : Nat} (hb : Byt H bv m) (hm : m ≤ 9223372036854775807) : ACalls Try.prog w0 9 [bv] H fun v _ => v = .bool true := by
  refine in9 ?_
  simp only [c9, ↓WP, WQ, if_true, if_false, eq_self, implies_true, ne_eq, List.nil_append, List.cons_append, ↓reduceIte, Nat.reduceEqDiff, Nat.reduceBEq, reduceCtorEq, Nat.reduceAdd, resA, ret1, qv, lv, ev, boolA, binA, intA, shiftA, cmpA, beqA, lres, hb.1]
  refine Br_dec (fun h1 => ?_) (fun h1 => ?_) <;> simp only [↓WP, WQ, if_true, if_false, eq_self, implies_true, ne_eq, List.nil_append, List.cons_append, ↓reduceIte, Nat.reduceEqDiff, Nat.reduceBEq, reduceCtorEq, Nat.reduceAdd, resA, ret1, qv, lv, ev, boolA, binA, intA, shiftA, cmpA, beqA, lres]
  refine DrawHasProperty_c hb (by omega) fun s v A H1 hE hA => ?_
  obtain ⟨uv, tv, rfl, hu, ht⟩ := hA.open
  have hS := hA.small
  have hu7 := hA.up
  simp only [↓WP, WQ, if_true, if_false, eq_self, implies_true, ne_eq, List.nil_append, List.cons_append, ↓reduceIte, Nat.reduceEqDiff, Nat.reduceBEq, reduceCtorEq, Nat.reduceAdd, resA, ret1, qv, lv, ev, boolA, binA, intA, shiftA, cmpA, beqA, lres]
  refine NewRowd_in fun b3 hb3 => ?_
  have h0 : (H1.set b3 ⟨26, true, [.nils, .nils]⟩) b3 = some ⟨26, true, [.nils, .nils]⟩ := Hp.set_same _ _ _
  have hE3 := Ext.set (x := ⟨26, true, [uv, tv]⟩) hb3
  have g3 : (H1.set b3 ⟨26, true, [uv, tv]⟩) b3 = some ⟨26, true, [uv, tv]⟩ := Hp.set_same _ _ _
  simp only [↓WP, WQ, if_true, if_false, eq_self, implies_true, ne_eq, List.nil_append, List.cons_append, ↓reduceIte, Nat.reduceEqDiff, Nat.reduceBEq, reduceCtorEq, Nat.reduceAdd, resA, ret1, qv, lv, ev, boolA, binA, intA, shiftA, cmpA, beqA, lres, stA_two (x := uv) (y := tv) h0 (lenA_scal hu.len) (lenA_scal ht.len), Hp.set_set, atN_two g3]
  generalize H1.set b3 ⟨26, true, [uv, tv]⟩ = G at *
  have hu := hu.ext hE3
  have ht := ht.ext hE3
  have hwl : IntKind.i64.wrap ((A.up.length : Int) - 1) = A.up.length - 1 := wrap_id (by omega) (by omega)
  have hidem : HasP (prop (⟨#[105, 100, 101, 109, 112, 111, 116, 101, 110, 116]⟩ : ByteArray)) A ↔ HasP 3 A := by rw [prop_idempotent]
  have hinv : HasP (prop (⟨#[105, 110, 118, 111, 108, 117, 116, 105, 118, 101]⟩ : ByteArray)) A ↔ HasP 2 A := by rw [prop_involutive]
  have hboo : HasP (prop (⟨#[98, 111, 111, 108, 101, 97, 110]⟩ : ByteArray)) A ↔ HasP 4 A := by rw [prop_boolean]
  have HP : ∀ {s' : ByteArray} {b : Bool}, (b = true ↔ IsAlg A ∧ HasP (prop s') A) → ∀ {Q : AV → Hp → Prop}, Q (.bool b) G → ACalls Try.prog w0 41 [.str s', .agg [uv, tv]] G Q := by
    intro s' b hb Q hq
    refine HasProperty_c hu ht hS (fun h => ?_) (fun h => ?_)
    · rw [hb.2 h] at hq; exact hq
    · rw [Bool.eq_false_iff.2 fun e => h (hb.1 e)] at hq; exact hq
  obtain ⟨out, ho⟩ : ∃ b : Bool, b = true ↔ IsAlg A ∧ HasP (prop s) A := by
    by_cases h : IsAlg A ∧ HasP (prop s) A
    · exact ⟨true, by simp [h]⟩
    · exact ⟨false, by simp only [h, reduceCtorEq]⟩
  have SP : ∀ {Q : AV → Hp → Prop}, Q (.bool out) G → ACalls Try.prog w0 43 [.str s, .agg [uv, tv]] G Q := by
    intro Q hq
    refine sHasProperty_c hu ht hS (fun h => ?_) (fun h => ?_)
    · rw [ho.2 h] at hq; exact hq
    · rw [Bool.eq_false_iff.2 fun e => h (ho.1 e)] at hq; exact hq
  refine HP ho ?_
  simp only [↓WP, WQ, if_true, if_false, eq_self, implies_true, ne_eq, List.nil_append, List.cons_append, ↓reduceIte, Nat.reduceEqDiff, Nat.reduceBEq, reduceCtorEq, Nat.reduceAdd, resA, ret1, qv, lv, ev, boolA, binA, intA, shiftA, cmpA, beqA, lres, atN_two g3]
  refine SP ?_
  simp only [↓WP, WQ, if_true, if_false, eq_self, implies_true, ne_eq, List.nil_append, List.cons_append, ↓reduceIte, Nat.reduceEqDiff, Nat.reduceBEq, reduceCtorEq, Nat.reduceAdd, resA, ret1, qv, lv, ev, boolA, binA, intA, shiftA, cmpA, beqA, lres, atN_two g3, bne_self_eq_false]
  refine ValidAlgebra_c hu ht hS (fun hI => ?_) (fun hI => ?_)
  rotate_left
  · simp only [↓WP, WQ, if_true, if_false, eq_self, implies_true, ne_eq, List.nil_append, List.cons_append, ↓reduceIte, Nat.reduceEqDiff, Nat.reduceBEq, reduceCtorEq, Nat.reduceAdd, resA, ret1, qv, lv, ev, boolA, binA, intA, shiftA, cmpA, beqA, lres, atN_two g3]
    refine SP ?_
    simp only [↓WP, WQ, if_true, if_false, eq_self, implies_true, ne_eq, List.nil_append, List.cons_append, ↓reduceIte, Nat.reduceEqDiff, Nat.reduceBEq, reduceCtorEq, Nat.reduceAdd, resA, ret1, qv, lv, ev, boolA, binA, intA, shiftA, cmpA, beqA, lres, beq_self_eq_true]
  obtain ⟨bi, hi⟩ : ∃ b : Bool, b = true ↔ HasP 3 A := by
    by_cases h : HasP 3 A
    · exact ⟨true, by simp only [h]⟩
    · exact ⟨false, by simp only [h, reduceCtorEq]⟩
  obtain ⟨bn, hn⟩ : ∃ b : Bool, b = true ↔ HasP 2 A := by
    by_cases h : HasP 2 A
    · exact ⟨true, by simp only [h]⟩
    · exact ⟨false, by simp only [h, reduceCtorEq]⟩
  have hbb : (bi && bn) = true ↔ IsAlg A ∧ HasP (prop (⟨#[98, 111, 111, 108, 101, 97, 110]⟩ : ByteArray)) A := by
    rw [hboo, hasP_bool hI, ← hi, ← hn, Bool.and_eq_true]; exact ⟨fun h => ⟨hI, h⟩, fun h => h.2⟩
  have dist : ∀ {Q : AV → Hp → Prop}, (prop s = 0 ∨ prop s = 1) → out = true → Q (.bool true) G → ACalls Try.prog w0 44 [uv] G Q := by
    intro Q hp e hq
    refine IsDistributive_c hu hS.up hI.toIsLat ?_ hq
    have := (ho.1 e).2
    rcases hp with hp | hp
    · rw [hp] at this; exact distr_pre hI this
    · rw [hp] at this; exact distr_div hI this
  simp only [↓WP, WQ, if_true, if_false, eq_self, implies_true, ne_eq, List.nil_append, List.cons_append, ↓reduceIte, Nat.reduceEqDiff, Nat.reduceBEq, reduceCtorEq, Nat.reduceAdd, resA, ret1, qv, lv, ev, boolA, binA, intA, shiftA, cmpA, beqA, lres, atN_two g3]
  refine HP (by rw [hidem]; exact hi.trans ⟨fun h => ⟨hI, h⟩, fun h => h.2⟩) ?_
  have tail : ∀ {b : Bool} {Q : AV → Hp → Prop}, b = (bi && bn) → Q (.bool (bi && bn)) G → ACalls Try.prog w0 41 [.str (⟨#[98, 111, 111, 108, 101, 97, 110]⟩ : ByteArray), .agg [uv, tv]] G Q := by
    intro b Q e hq
    exact HP hbb hq
  have hP3 : bi = true ↔ IsAlg A ∧ HasP (prop (⟨#[105, 100, 101, 109, 112, 111, 116, 101, 110, 116]⟩ : ByteArray)) A := by rw [hidem]; exact hi.trans ⟨fun h => ⟨hI, h⟩, fun h => h.2⟩
  have hP2 : bn = true ↔ IsAlg A ∧ HasP (prop (⟨#[105, 110, 118, 111, 108, 117, 116, 105, 118, 101]⟩ : ByteArray)) A := by rw [hinv]; exact hn.trans ⟨fun h => ⟨hI, h⟩, fun h => h.2⟩
  clear hE3 hA
  cases bi
  · simp only [↓WP, WQ, if_true, if_false, eq_self, implies_true, ne_eq, List.nil_append, List.cons_append, ↓reduceIte, Nat.reduceEqDiff, Nat.reduceBEq, reduceCtorEq, Nat.reduceAdd, resA, ret1, qv, lv, ev, boolA, binA, intA, shiftA, cmpA, beqA, lres, atN_two g3]
    refine HP hbb ?_
    simp only [↓WP, WQ, if_true, if_false, eq_self, implies_true, ne_eq, List.nil_append, List.cons_append, ↓reduceIte, Nat.reduceEqDiff, Nat.reduceBEq, reduceCtorEq, Nat.reduceAdd, resA, ret1, qv, lv, ev, boolA, binA, intA, shiftA, cmpA, beqA, lres, atN_two g3, Bool.false_and, bne_self_eq_false]
    cases out
    · simp only [↓WP, WQ, if_true, if_false, eq_self, implies_true, ne_eq, List.nil_append, List.cons_append, ↓reduceIte, Nat.reduceEqDiff, Nat.reduceBEq, reduceCtorEq, Nat.reduceAdd, resA, ret1, qv, lv, ev, boolA, binA, intA, shiftA, cmpA, beqA, lres, Bool.not_false]
    · rcases prop_cases s with ⟨c1, k⟩ | ⟨c1, c2, k⟩ | ⟨c1, c2, c3, k⟩ | ⟨c1, c2, c3, c4, k⟩ | ⟨c1, c2, c3, c4, c5, k⟩ | ⟨c1, c2, c3, c4, c5, k⟩
      · simp only [↓WP, WQ, if_true, if_false, eq_self, implies_true, ne_eq, List.nil_append, List.cons_append, ↓reduceIte, Nat.reduceEqDiff, Nat.reduceBEq, reduceCtorEq, Nat.reduceAdd, resA, ret1, qv, lv, ev, boolA, binA, intA, shiftA, cmpA, beqA, lres, c1, at_fst g3]
        refine dist (.inl k) rfl ?_
        simp only [↓WP, WQ, if_true, if_false, eq_self, implies_true, ne_eq, List.nil_append, List.cons_append, ↓reduceIte, Nat.reduceEqDiff, Nat.reduceBEq, reduceCtorEq, Nat.reduceAdd, resA, ret1, qv, lv, ev, boolA, binA, intA, shiftA, cmpA, beqA, lres]
      · simp only [↓WP, WQ, if_true, if_false, eq_self, implies_true, ne_eq, List.nil_append, List.cons_append, ↓reduceIte, Nat.reduceEqDiff, Nat.reduceBEq, reduceCtorEq, Nat.reduceAdd, resA, ret1, qv, lv, ev, boolA, binA, intA, shiftA, cmpA, beqA, lres, c1, c2, at_fst g3]
        refine dist (.inr k) rfl ?_
        simp only [↓WP, WQ, if_true, if_false, eq_self, implies_true, ne_eq, List.nil_append, List.cons_append, ↓reduceIte, Nat.reduceEqDiff, Nat.reduceBEq, reduceCtorEq, Nat.reduceAdd, resA, ret1, qv, lv, ev, boolA, binA, intA, shiftA, cmpA, beqA, lres]
      all_goals simp only [↓WP, WQ, if_true, if_false, eq_self, implies_true, ne_eq, List.nil_append, List.cons_append, ↓reduceIte, Nat.reduceEqDiff, Nat.reduceBEq, reduceCtorEq, Nat.reduceAdd, resA, ret1, qv, lv, ev, boolA, binA, intA, shiftA, cmpA, beqA, lres, c1, c2, at_fst g3]
  · simp only [↓WP, WQ, if_true, if_false, eq_self, implies_true, ne_eq, List.nil_append, List.cons_append, ↓reduceIte, Nat.reduceEqDiff, Nat.reduceBEq, reduceCtorEq, Nat.reduceAdd, resA, ret1, qv, lv, ev, boolA, binA, intA, shiftA, cmpA, beqA, lres, atN_two g3]
    refine HP hP2 ?_
    simp only [↓WP, WQ, if_true, if_false, eq_self, implies_true, ne_eq, List.nil_append, List.cons_append, ↓reduceIte, Nat.reduceEqDiff, Nat.reduceBEq, reduceCtorEq, Nat.reduceAdd, resA, ret1, qv, lv, ev, boolA, binA, intA, shiftA, cmpA, beqA, lres, atN_two g3]
    refine HP hbb ?_
    simp only [↓WP, WQ, if_true, if_false, eq_self, implies_true, ne_eq, List.nil_append, List.cons_append, ↓reduceIte, Nat.reduceEqDiff, Nat.reduceBEq, reduceCtorEq, Nat.reduceAdd, resA, ret1, qv, lv, ev, boolA, binA, intA, shiftA, cmpA, beqA, lres, atN_two g3, Bool.true_and, bne_self_eq_false]
    cases out
    · simp only [↓WP, WQ, if_true, if_false, eq_self, implies_true, ne_eq, List.nil_append, List.cons_append, ↓reduceIte, Nat.reduceEqDiff, Nat.reduceBEq, reduceCtorEq, Nat.reduceAdd, resA, ret1, qv, lv, ev, boolA, binA, intA, shiftA, cmpA, beqA, lres, Bool.not_false]
    · rcases prop_cases s with ⟨c1, k⟩ | ⟨c1, c2, k⟩ | ⟨c1, c2, c3, k⟩ | ⟨c1, c2, c3, c4, k⟩ | ⟨c1, c2, c3, c4, c5, k⟩ | ⟨c1, c2, c3, c4, c5, k⟩
      · simp only [↓WP, WQ, if_true, if_false, eq_self, implies_true, ne_eq, List.nil_append, List.cons_append, ↓reduceIte, Nat.reduceEqDiff, Nat.reduceBEq, reduceCtorEq, Nat.reduceAdd, resA, ret1, qv, lv, ev, boolA, binA, intA, shiftA, cmpA, beqA, lres, c1, at_fst g3]
        refine dist (.inl k) rfl ?_
        simp only [↓WP, WQ, if_true, if_false, eq_self, implies_true, ne_eq, List.nil_append, List.cons_append, ↓reduceIte, Nat.reduceEqDiff, Nat.reduceBEq, reduceCtorEq, Nat.reduceAdd, resA, ret1, qv, lv, ev, boolA, binA, intA, shiftA, cmpA, beqA, lres]
      · simp only [↓WP, WQ, if_true, if_false, eq_self, implies_true, ne_eq, List.nil_append, List.cons_append, ↓reduceIte, Nat.reduceEqDiff, Nat.reduceBEq, reduceCtorEq, Nat.reduceAdd, resA, ret1, qv, lv, ev, boolA, binA, intA, shiftA, cmpA, beqA, lres, c1, c2, at_fst g3]
        refine dist (.inr k) rfl ?_
        simp only [↓WP, WQ, if_true, if_false, eq_self, implies_true, ne_eq, List.nil_append, List.cons_append, ↓reduceIte, Nat.reduceEqDiff, Nat.reduceBEq, reduceCtorEq, Nat.reduceAdd, resA, ret1, qv, lv, ev, boolA, binA, intA, shiftA, cmpA, beqA, lres]
      all_goals simp only [↓WP, WQ, if_true, if_false, eq_self, implies_true, ne_eq, List.nil_append, List.cons_append, ↓reduceIte, Nat.reduceEqDiff, Nat.reduceBEq, reduceCtorEq, Nat.reduceAdd, resA, ret1, qv, lv, ev, boolA, binA, intA, shiftA, cmpA, beqA, lres, c1, c2, at_fst g3]
end Go.AL

/-
  The given statement FnHasPropertySaid is proved: for every input the law FnHasProperty returns true, and its argument reads as before. Conditions: none beyond the given row's own.
-/
namespace Go.Proofs.Ytijpoplbdjfhaaa
open Go.AL Go.ChangeShapes Go.WideShapes
set_option maxRecDepth 100000

theorem try_own : ownKnob Try.prog.godebug = Option.none := by kernel_rfl
theorem try_kids : Kids Try.prog (· < Try.prog.types.size) := kids_rows (by kernel_rfl) (by kernel_rfl)
theorem try_full : ∀ t e, t < Try.prog.types.size → Try.prog.underlying t = some (.slice e) → 0 < Try.prog.cellsOf e := slices_full_of Try.prog (by kernel_rfl)
theorem try_byte : Try.prog.cellsOf 5 = 1 := by kernel_rfl

theorem lifted (os : Os) (started : os.Started) (H : Type) (enc : TypeId × Value → H) :
    ReturnsInHanded {} Try.checked os 9 .any (Rows.fnHasPropertySpec.pre6 enc Try.prog Try.f9 Rows.fnHasPropertyRow.domain false) (Rows.fnHasPropertySpec.post enc Try.prog Try.f9 false true false false) :=
  handed_bytes (C := Try.checked) (t := 22) (e := 5) (tb := 4) try_own started (by kernel_rfl) Try.func9
    (ChangeSpec.witness6 (enc := enc) (C := Try.checked) false ⟨#[], #[.slice Option.none 0 0], []⟩ 8 (by kernel_rfl) (by kernel_rfl) (by kernel_rfl) (by kernel_rfl))
    try_kids try_full Try.params9 (of_decide_eq_true (by kernel_rfl)) Try.underlying22 Try.underlying5 try_byte rfl (by kernel_rfl) Try.underlying4 (fun _ => rfl)
    (fun w0 bv n H hb hn => FnHasProperty_l hb hn)

theorem fnHasProperty_holds : Rows.FnHasPropertySaid :=
  OpenClaim.holds_of_wide 9 Try.f9 rfl rfl rfl rfl rfl rfl rfl ⟨rfl, rfl, rfl, rfl, rfl⟩ rfl rfl rfl rfl rfl (by kernel_rfl) Try.func9 (by kernel_rfl)
    (of_decide_eq_true (by kernel_rfl)) (by unfold Func.isWrapper; first | (rw [if_pos (by decide +kernel)]; kernel_rfl) | (rw [if_neg (by decide +kernel)]; exact ⟨rfl, rfl⟩))
    (fun os started H enc _ => lifted os started H enc)

#print axioms fnHasProperty_holds
end Go.Proofs.Ytijpoplbdjfhaaa
