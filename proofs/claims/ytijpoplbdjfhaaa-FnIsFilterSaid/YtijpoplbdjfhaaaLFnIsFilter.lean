/-
  The given statement FnIsFilterSaid is proved: for every input the law FnIsFilter returns true, and each argument reads as it did before the call. Conditions: none beyond the given row.
-/
import Derived.Test.YtijpoplbdjfhaaaM3
import Derived.Test.YtijpoplbdjfhaaaM4
import Derived.Test.YtijpoplbdjfhaaaRows
/-
  The law of ImplyOf.
-/
namespace Go.AL
open Go.Proofs
set_option linter.unusedSimpArgs false
set_option linter.unusedVariables false
variable {w0 : World} {H : Hp}

theorem Has.el {A : Alg} {x y : Int} (h : Has A x y) : IsAlg A ∧ El A x ∧ El A y := h

theorem FnImplyOf_l {bv : AV} {m : Nat} (hb : Byt H bv m) (hm : m ≤ 9223372036854775807) : ACalls Try.prog w0 3 [bv] H fun v _ => v = .bool true := by
  refine in3 ?_
  simp only [c3, ↓WP, WQ, if_true, if_false, eq_self, implies_true, ne_eq, List.nil_append, List.cons_append, ↓reduceIte, Nat.reduceEqDiff, Nat.reduceBEq, reduceCtorEq, Nat.reduceAdd, resA, ret1, qv, lv, ev, boolA, binA, intA, shiftA, cmpA, beqA, lres, hb.1]
  refine Br_dec (fun h1 => ?_) (fun h1 => ?_) <;> simp only [↓WP, WQ, if_true, if_false, eq_self, implies_true, ne_eq, List.nil_append, List.cons_append, ↓reduceIte, Nat.reduceEqDiff, Nat.reduceBEq, reduceCtorEq, Nat.reduceAdd, resA, ret1, qv, lv, ev, boolA, binA, intA, shiftA, cmpA, beqA, lres]
  refine DrawImplyOf_c hb (by omega) fun v A x y H1 hE hA => ?_
  obtain ⟨uv, tv, rfl, hu, ht⟩ := hA.open
  have hS := hA.small
  have hu7 := hA.up
  simp only [↓WP, WQ, if_true, if_false, eq_self, implies_true, ne_eq, List.nil_append, List.cons_append, ↓reduceIte, Nat.reduceEqDiff, Nat.reduceBEq, reduceCtorEq, Nat.reduceAdd, resA, ret1, qv, lv, ev, boolA, binA, intA, shiftA, cmpA, beqA, lres]
  refine NewRowd_in fun b3 hb3 => ?_
  have h0 : (H1.set b3 ⟨26, true, [.nils, .nils]⟩) b3 = some ⟨26, true, [.nils, .nils]⟩ := Hp.set_same _ _ _
  have hE3 := Ext.set (x := ⟨26, true, [uv, tv]⟩) hb3
  have g3 : (H1.set b3 ⟨26, true, [uv, tv]⟩) b3 = some ⟨26, true, [uv, tv]⟩ := Hp.set_same _ _ _
  simp only [↓WP, WQ, if_true, if_false, eq_self, implies_true, ne_eq, List.nil_append, List.cons_append, ↓reduceIte, Nat.reduceEqDiff, Nat.reduceBEq, reduceCtorEq, Nat.reduceAdd, resA, ret1, qv, lv, ev, boolA, binA, intA, shiftA, cmpA, beqA, lres, stA_two (x := uv) (y := tv) h0 (lenA_scal hu.len) (lenA_scal ht.len), Hp.set_set, atN_two g3]
  generalize H1.set b3 ⟨26, true, [uv, tv]⟩ = G at *
  have hu := hu.ext hE3
  have ht := ht.ext hE3
  refine (Classical.em (Has A x y)).elim (fun hh => ?_) (fun hh => ?_)
  rotate_left
  · refine ImplyOf_c hu ht hS (fun h => absurd h hh) (fun _ => ?_)
    simp only [↓WP, WQ, if_true, if_false, eq_self, implies_true, ne_eq, List.nil_append, List.cons_append, ↓reduceIte, Nat.reduceEqDiff, Nat.reduceBEq, reduceCtorEq, Nat.reduceAdd, resA, ret1, qv, lv, ev, boolA, binA, intA, shiftA, cmpA, beqA, lres, atN_two g3]
    refine sImplyOf_c hu ht hS (fun h => absurd h hh) (fun _ => ?_)
    simp only [↓WP, WQ, if_true, if_false, eq_self, implies_true, ne_eq, List.nil_append, List.cons_append, ↓reduceIte, Nat.reduceEqDiff, Nat.reduceBEq, reduceCtorEq, Nat.reduceAdd, resA, ret1, qv, lv, ev, boolA, binA, intA, shiftA, cmpA, beqA, lres, atN_two g3, Int.reduceNeg, Int.reduceLT]
    refine sImplyOf_c hu ht hS (fun h => absurd h hh) (fun _ => ?_)
    simp only [↓WP, WQ, if_true, if_false, eq_self, implies_true, ne_eq, List.nil_append, List.cons_append, ↓reduceIte, Nat.reduceEqDiff, Nat.reduceBEq, reduceCtorEq, Nat.reduceAdd, resA, ret1, qv, lv, ev, boolA, binA, intA, shiftA, cmpA, beqA, lres]
  obtain ⟨hI, hx, hy⟩ := hh.el
  have hie := hI.ie x y
  have hneg : ¬ impF A x y < 0 := by have := hie.1; omega
  have hT : Tab G tv A := ⟨ht, hI.toSquare⟩
  refine ImplyOf_c hu ht hS (fun _ => ?_) (fun h => absurd hh h)
  simp only [↓WP, WQ, if_true, if_false, eq_self, implies_true, ne_eq, List.nil_append, List.cons_append, ↓reduceIte, Nat.reduceEqDiff, Nat.reduceBEq, reduceCtorEq, Nat.reduceAdd, resA, ret1, qv, lv, ev, boolA, binA, intA, shiftA, cmpA, beqA, lres, atN_two g3]
  refine sImplyOf_c hu ht hS (fun _ => ?_) (fun h => absurd hh h)
  simp only [↓WP, WQ, if_true, if_false, eq_self, implies_true, ne_eq, List.nil_append, List.cons_append, ↓reduceIte, Nat.reduceEqDiff, Nat.reduceBEq, reduceCtorEq, Nat.reduceAdd, resA, ret1, qv, lv, ev, boolA, binA, intA, shiftA, cmpA, beqA, lres, hneg]
  refine W_for 0 A.up.length (fun z e H' => H' = G ∧ Sl e [(3, .ptr b3 0), (4, .int .i64 x), (5, .int .i64 y), (6, .int .i64 (impF A x y)), (7, .int .i64 z)]) (by omega) ⟨rfl, by simp only [↓WP, WQ, if_true, if_false, eq_self, implies_true, ne_eq, List.nil_append, List.cons_append, ↓reduceIte, Nat.reduceEqDiff, Nat.reduceBEq, reduceCtorEq, Nat.reduceAdd, resA, ret1, qv, lv, ev, boolA, binA, intA, shiftA, cmpA, beqA, lres]⟩ ?_
  rintro z e H' hz0 hz1 ⟨rfl, hs⟩
  simp only [Sl_cons, Sl_nil, and_true] at hs
  have hw : IntKind.i64.wrap (z + 1) = z + 1 := wrap_id (by omega) (by omega)
  have hwl : IntKind.i64.wrap ((A.up.length : Int) - 1) = A.up.length - 1 := wrap_id (by omega) (by omega)
  refine (Classical.em (z < A.up.length)).elim (fun hz => ?_) (fun hz => ?_) <;> simp only [↓WP, WQ, if_true, if_false, eq_self, implies_true, ne_eq, List.nil_append, List.cons_append, ↓reduceIte, Nat.reduceEqDiff, Nat.reduceBEq, reduceCtorEq, Nat.reduceAdd, resA, ret1, qv, lv, ev, boolA, binA, intA, shiftA, cmpA, beqA, lres, hs, at_fst g3, hu.len, hz]
  · have hze : El A z := ⟨hz0, hz⟩
    refine DR_in (fun _ => True) rfl ?_
    simp only [↓WP, WQ, if_true, if_false, eq_self, implies_true, ne_eq, List.nil_append, List.cons_append, ↓reduceIte, Nat.reduceEqDiff, Nat.reduceBEq, reduceCtorEq, Nat.reduceAdd, resA, ret1, qv, lv, ev, boolA, binA, intA, shiftA, cmpA, beqA, lres, hs, at_fst g3, at_snd g3, hT.idx hx.1 hx.2, hT.at hx.1 hx.2, hT.idx2 hx.1 hx.2 hz0 hz, hT.at2 hx.1 hx.2 hz0 hz]
    refine IsBelow_c hu hS.up (fun _ c1 => ?_) (fun c1 => ?_) <;> simp only [↓WP, WQ, if_true, if_false, eq_self, implies_true, ne_eq, List.nil_append, List.cons_append, ↓reduceIte, Nat.reduceEqDiff, Nat.reduceBEq, reduceCtorEq, Nat.reduceAdd, resA, ret1, qv, lv, ev, boolA, binA, intA, shiftA, cmpA, beqA, lres, hs]
    · refine IsBelow_c hu hS.up (fun _ c2 => ?_) (fun c2 => ?_) <;> simp only [↓WP, WQ, if_true, if_false, eq_self, implies_true, ne_eq, List.nil_append, List.cons_append, ↓reduceIte, Nat.reduceEqDiff, Nat.reduceBEq, reduceCtorEq, Nat.reduceAdd, resA, ret1, qv, lv, ev, boolA, binA, intA, shiftA, cmpA, beqA, lres, hs, bne_self_eq_false, hw, hz]
      exact absurd ⟨⟨hI.toIsLat, hze, hie⟩, (hI.adj hx hy hze).1 c1⟩ c2
    · refine IsBelow_c hu hS.up (fun _ c2 => ?_) (fun c2 => ?_) <;> simp only [↓WP, WQ, if_true, if_false, eq_self, implies_true, ne_eq, List.nil_append, List.cons_append, ↓reduceIte, Nat.reduceEqDiff, Nat.reduceBEq, reduceCtorEq, Nat.reduceAdd, resA, ret1, qv, lv, ev, boolA, binA, intA, shiftA, cmpA, beqA, lres, hs, bne_self_eq_false, hw, hz]
      exact absurd ⟨⟨hI.toIsLat, hI.te hx hze, hy⟩, (hI.adj hx hy hze).2 c2⟩ c1
  · refine DR_in (fun _ => True) rfl ?_
    simp only [↓WP, WQ, if_true, if_false, eq_self, implies_true, ne_eq, List.nil_append, List.cons_append, ↓reduceIte, Nat.reduceEqDiff, Nat.reduceBEq, reduceCtorEq, Nat.reduceAdd, resA, ret1, qv, lv, ev, boolA, binA, intA, shiftA, cmpA, beqA, lres, hs, at_fst g3, hu.len, hwl]
    refine IsBelow_c hu hS.up (fun _ c1 => ?_) (fun c1 => ?_) <;> simp only [↓WP, WQ, if_true, if_false, eq_self, implies_true, ne_eq, List.nil_append, List.cons_append, ↓reduceIte, Nat.reduceEqDiff, Nat.reduceBEq, reduceCtorEq, Nat.reduceAdd, resA, ret1, qv, lv, ev, boolA, binA, intA, shiftA, cmpA, beqA, lres, hs]
    · rw [decide_eq_true ((hI.imp_top hx hy).2 c1)]; rfl
    · rw [decide_eq_false (fun e => c1 ⟨⟨hI.toIsLat, hx, hy⟩, (hI.imp_top hx hy).1 e⟩)]; rfl
end Go.AL

/-
  The law of IsFilter.
-/
namespace Go.AL
open Go.Proofs
set_option linter.unusedSimpArgs false
set_option linter.unusedVariables false
variable {w0 : World} {H : Hp}

theorem FnIsFilter_l {bv : AV} {m : Nat} (hb : Byt H bv m) (hm : m ≤ 9223372036854775807) : ACalls Try.prog w0 6 [bv] H fun v _ => v = .bool true := by
  refine in6 ?_
  simp only [c6, ↓WP, WQ, if_true, if_false, eq_self, implies_true, ne_eq, List.nil_append, List.cons_append, ↓reduceIte, Nat.reduceEqDiff, Nat.reduceBEq, reduceCtorEq, Nat.reduceAdd, resA, ret1, qv, lv, ev, boolA, binA, intA, shiftA, cmpA, beqA, lres, hb.1]
  refine Br_dec (fun h1 => ?_) (fun h1 => ?_) <;> simp only [↓WP, WQ, if_true, if_false, eq_self, implies_true, ne_eq, List.nil_append, List.cons_append, ↓reduceIte, Nat.reduceEqDiff, Nat.reduceBEq, reduceCtorEq, Nat.reduceAdd, resA, ret1, qv, lv, ev, boolA, binA, intA, shiftA, cmpA, beqA, lres]
  refine DrawIsFilter_c hb (by omega) fun v A f H1 hE hA => ?_
  obtain ⟨uv, tv, rfl, hu, ht⟩ := hA.open
  have hS := hA.small
  have hu7 := hA.up
  simp only [↓WP, WQ, if_true, if_false, eq_self, implies_true, ne_eq, List.nil_append, List.cons_append, ↓reduceIte, Nat.reduceEqDiff, Nat.reduceBEq, reduceCtorEq, Nat.reduceAdd, resA, ret1, qv, lv, ev, boolA, binA, intA, shiftA, cmpA, beqA, lres]
  refine NewRowd_in fun b3 hb3 => ?_
  have h0 : (H1.set b3 ⟨26, true, [.nils, .nils]⟩) b3 = some ⟨26, true, [.nils, .nils]⟩ := Hp.set_same _ _ _
  have hE3 := Ext.set (x := ⟨26, true, [uv, tv]⟩) hb3
  have g3 : (H1.set b3 ⟨26, true, [uv, tv]⟩) b3 = some ⟨26, true, [uv, tv]⟩ := Hp.set_same _ _ _
  simp only [↓WP, WQ, if_true, if_false, eq_self, implies_true, ne_eq, List.nil_append, List.cons_append, ↓reduceIte, Nat.reduceEqDiff, Nat.reduceBEq, reduceCtorEq, Nat.reduceAdd, resA, ret1, qv, lv, ev, boolA, binA, intA, shiftA, cmpA, beqA, lres, stA_two (x := uv) (y := tv) h0 (lenA_scal hu.len) (lenA_scal ht.len), Hp.set_set, atN_two g3]
  generalize H1.set b3 ⟨26, true, [uv, tv]⟩ = G at *
  have hu := hu.ext hE3
  have ht := ht.ext hE3
  have hwl : IntKind.i64.wrap ((A.up.length : Int) - 1) = A.up.length - 1 := wrap_id (by omega) (by omega)
  refine (Classical.em (IsAlg A ∧ Set6 A f)).elim (fun hh => ?_) (fun hh => ?_)
  rotate_left
  · have hn : ¬ (IsAlg A ∧ Set6 A f ∧ IsFil A f) := fun h => hh ⟨h.1, h.2.1⟩
    refine IsFilter_c hu ht hS (fun h => absurd h hn) (fun _ => ?_)
    simp only [↓WP, WQ, if_true, if_false, eq_self, implies_true, ne_eq, List.nil_append, List.cons_append, ↓reduceIte, Nat.reduceEqDiff, Nat.reduceBEq, reduceCtorEq, Nat.reduceAdd, resA, ret1, qv, lv, ev, boolA, binA, intA, shiftA, cmpA, beqA, lres, atN_two g3]
    refine sIsFilter_c hu ht hS (fun h => absurd h hn) (fun _ => ?_)
    simp only [↓WP, WQ, if_true, if_false, eq_self, implies_true, ne_eq, List.nil_append, List.cons_append, ↓reduceIte, Nat.reduceEqDiff, Nat.reduceBEq, reduceCtorEq, Nat.reduceAdd, resA, ret1, qv, lv, ev, boolA, binA, intA, shiftA, cmpA, beqA, lres, atN_two g3, bne_self_eq_false]
    refine FilterBy_c hu ht hS (fun h => absurd h hh) (fun _ => ?_)
    simp only [↓WP, WQ, if_true, if_false, eq_self, implies_true, ne_eq, List.nil_append, List.cons_append, ↓reduceIte, Nat.reduceEqDiff, Nat.reduceBEq, reduceCtorEq, Nat.reduceAdd, resA, ret1, qv, lv, ev, boolA, binA, intA, shiftA, cmpA, beqA, lres, atN_two g3, Int.reduceNeg, Int.reduceLT]
    refine sIsFilter_c hu ht hS (fun h => absurd h hn) (fun _ => ?_)
    simp only [↓WP, WQ, if_true, if_false, eq_self, implies_true, ne_eq, List.nil_append, List.cons_append, ↓reduceIte, Nat.reduceEqDiff, Nat.reduceBEq, reduceCtorEq, Nat.reduceAdd, resA, ret1, qv, lv, ev, boolA, binA, intA, shiftA, cmpA, beqA, lres, beq_self_eq_true]
  obtain ⟨hI, hs⟩ := hh
  have hneg : ¬ genF A f < 0 := by have := (genF_set A f).1; omega
  refine (Classical.em (IsFil A f)).elim (fun hf => ?_) (fun hf => ?_)
  · have hy : IsAlg A ∧ Set6 A f ∧ IsFil A f := ⟨hI, hs, hf⟩
    refine IsFilter_c hu ht hS (fun _ => ?_) (fun h => absurd hy h)
    simp only [↓WP, WQ, if_true, if_false, eq_self, implies_true, ne_eq, List.nil_append, List.cons_append, ↓reduceIte, Nat.reduceEqDiff, Nat.reduceBEq, reduceCtorEq, Nat.reduceAdd, resA, ret1, qv, lv, ev, boolA, binA, intA, shiftA, cmpA, beqA, lres, atN_two g3]
    refine sIsFilter_c hu ht hS (fun _ => ?_) (fun h => absurd hy h)
    simp only [↓WP, WQ, if_true, if_false, eq_self, implies_true, ne_eq, List.nil_append, List.cons_append, ↓reduceIte, Nat.reduceEqDiff, Nat.reduceBEq, reduceCtorEq, Nat.reduceAdd, resA, ret1, qv, lv, ev, boolA, binA, intA, shiftA, cmpA, beqA, lres, atN_two g3, bne_self_eq_false]
    refine FilterBy_c hu ht hS (fun _ => ?_) (fun h => absurd ⟨hI, hs⟩ h)
    simp only [↓WP, WQ, if_true, if_false, eq_self, implies_true, ne_eq, List.nil_append, List.cons_append, ↓reduceIte, Nat.reduceEqDiff, Nat.reduceBEq, reduceCtorEq, Nat.reduceAdd, resA, ret1, qv, lv, ev, boolA, binA, intA, shiftA, cmpA, beqA, lres, atN_two g3, hneg]
    refine FilterBy_c hu ht hS (fun _ => ?_) (fun h => absurd ⟨hI, hs⟩ h)
    simp only [↓WP, WQ, if_true, if_false, eq_self, implies_true, ne_eq, List.nil_append, List.cons_append, ↓reduceIte, Nat.reduceEqDiff, Nat.reduceBEq, reduceCtorEq, Nat.reduceAdd, resA, ret1, qv, lv, ev, boolA, binA, intA, shiftA, cmpA, beqA, lres, gen_self hI hs hf, beq_self_eq_true]
  · have hy : ¬ (IsAlg A ∧ Set6 A f ∧ IsFil A f) := fun h => hf h.2.2
    have hne : ¬ genF A f = f := fun e => hf (by rw [← e]; exact gen_fil hI f)
    refine IsFilter_c hu ht hS (fun h => absurd h hy) (fun _ => ?_)
    simp only [↓WP, WQ, if_true, if_false, eq_self, implies_true, ne_eq, List.nil_append, List.cons_append, ↓reduceIte, Nat.reduceEqDiff, Nat.reduceBEq, reduceCtorEq, Nat.reduceAdd, resA, ret1, qv, lv, ev, boolA, binA, intA, shiftA, cmpA, beqA, lres, atN_two g3]
    refine sIsFilter_c hu ht hS (fun h => absurd h hy) (fun _ => ?_)
    simp only [↓WP, WQ, if_true, if_false, eq_self, implies_true, ne_eq, List.nil_append, List.cons_append, ↓reduceIte, Nat.reduceEqDiff, Nat.reduceBEq, reduceCtorEq, Nat.reduceAdd, resA, ret1, qv, lv, ev, boolA, binA, intA, shiftA, cmpA, beqA, lres, atN_two g3, bne_self_eq_false]
    refine FilterBy_c hu ht hS (fun _ => ?_) (fun h => absurd ⟨hI, hs⟩ h)
    simp only [↓WP, WQ, if_true, if_false, eq_self, implies_true, ne_eq, List.nil_append, List.cons_append, ↓reduceIte, Nat.reduceEqDiff, Nat.reduceBEq, reduceCtorEq, Nat.reduceAdd, resA, ret1, qv, lv, ev, boolA, binA, intA, shiftA, cmpA, beqA, lres, atN_two g3, hneg]
    refine FilterBy_c hu ht hS (fun _ => ?_) (fun h => absurd ⟨hI, hs⟩ h)
    simp only [↓WP, WQ, if_true, if_false, eq_self, implies_true, ne_eq, List.nil_append, List.cons_append, ↓reduceIte, Nat.reduceEqDiff, Nat.reduceBEq, reduceCtorEq, Nat.reduceAdd, resA, ret1, qv, lv, ev, boolA, binA, intA, shiftA, cmpA, beqA, lres, hne, beq_self_eq_true]
end Go.AL

/-
  The given statement FnIsFilterSaid is proved: for every input the law FnIsFilter returns true, and its argument reads as before. Conditions: none beyond the given row's own.
-/
namespace Go.Proofs.Ytijpoplbdjfhaaa
open Go.AL Go.ChangeShapes Go.WideShapes
set_option maxRecDepth 100000

theorem try_own : ownKnob Try.prog.godebug = Option.none := by kernel_rfl
theorem try_kids : Kids Try.prog (· < Try.prog.types.size) := kids_rows (by kernel_rfl) (by kernel_rfl)
theorem try_full : ∀ t e, t < Try.prog.types.size → Try.prog.underlying t = some (.slice e) → 0 < Try.prog.cellsOf e := slices_full_of Try.prog (by kernel_rfl)
theorem try_byte : Try.prog.cellsOf 5 = 1 := by kernel_rfl

theorem lifted (os : Os) (started : os.Started) (H : Type) (enc : TypeId × Value → H) :
    ReturnsInHanded {} Try.checked os 6 .any (Rows.fnIsFilterSpec.pre6 enc Try.prog Try.f6 Rows.fnIsFilterRow.domain false) (Rows.fnIsFilterSpec.post enc Try.prog Try.f6 false true false false) :=
  handed_bytes (C := Try.checked) (t := 22) (e := 5) (tb := 4) try_own started (by kernel_rfl) Try.func6
    (ChangeSpec.witness6 (enc := enc) (C := Try.checked) false ⟨#[], #[.slice Option.none 0 0], []⟩ 8 (by kernel_rfl) (by kernel_rfl) (by kernel_rfl) (by kernel_rfl))
    try_kids try_full Try.params6 (of_decide_eq_true (by kernel_rfl)) Try.underlying22 Try.underlying5 try_byte rfl (by kernel_rfl) Try.underlying4 (fun _ => rfl)
    (fun w0 bv n H hb hn => FnIsFilter_l hb hn)

theorem fnIsFilter_holds : Rows.FnIsFilterSaid :=
  OpenClaim.holds_of_wide 6 Try.f6 rfl rfl rfl rfl rfl rfl rfl ⟨rfl, rfl, rfl, rfl, rfl⟩ rfl rfl rfl rfl rfl (by kernel_rfl) Try.func6 (by kernel_rfl)
    (of_decide_eq_true (by kernel_rfl)) (by unfold Func.isWrapper; first | (rw [if_pos (by decide +kernel)]; kernel_rfl) | (rw [if_neg (by decide +kernel)]; exact ⟨rfl, rfl⟩))
    (fun os started H enc _ => lifted os started H enc)

#print axioms fnIsFilter_holds
end Go.Proofs.Ytijpoplbdjfhaaa
