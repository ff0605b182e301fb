/-
  The given statement FnIsNucleusSaid is proved: for every input the law FnIsNucleus returns true, and each argument reads as it did before the call. Conditions: none beyond the given row.
-/
import Derived.Test.YtkkgckmgplicjaaM4
import Derived.Test.YtkkgckmgplicjaaM3
import Derived.Test.YtkkgckmgplicjaaM1
import Derived.Test.YtkkgckmgplicjaaRows
/-
  Nuclei of an algebra.
-/
namespace Go.AL
open Go.Proofs
set_option linter.unusedSimpArgs false
set_option linter.unusedVariables false
set_option linter.unusedSectionVars false
variable {w0 : World} {H : Hp}

def gj (j : List Int) (x : Int) : Int := j.getD x.toNat 0
def NX (A : Alg) (j : List Int) (x : Int) : Prop := bl A.up x (gj j x) ∧ gj j (gj j x) = gj j x
def NXY (A : Alg) (j : List Int) (x y : Int) : Prop := (bl A.up x y → bl A.up (gj j x) (gj j y)) ∧ bl A.up (A.tm (gj j x) (gj j y)) (gj j (A.tm x y))
def IsNuc (A : Alg) (j : List Int) : Prop := j.length = A.up.length ∧ (allI A.up.length fun x => El A (gj j x)) ∧ allI A.up.length fun x => NX A j x ∧ allI A.up.length fun y => NXY A j x y

theorem isNucleus1_c {r3 : Nat} {v : AV} {n : Nat} (hn : (n : Int) < 4611686018427387904) (hl : lenA v = some n) (hj : H.at (.ptr r3 0) = some v) : Pred w0 146 [.ptr r3 0] H (fun x => ¬ (0 ≤ x ∧ x ≤ (n : Int) - 1)) := by
  intro x Q ht hf
  have hw : IntKind.i64.wrap ((n : Int) - 1) = n - 1 := wrap_id (by omega) (by omega)
  refine in146 ?_
  simp only [c146, ↓WP, WQ, if_true, if_false, eq_self, implies_true, ne_eq, List.nil_append, List.cons_append, ↓reduceIte, Nat.reduceEqDiff, Nat.reduceBEq, reduceCtorEq, Nat.reduceAdd, resA, ret1, qv, lv, ev, boolA, binA, intA, shiftA, cmpA, beqA, lres, hj, hl, hw]
  refine within_c _ _ _ (fun h => ?_) (fun h => ?_) <;> simp only [↓WP, WQ, if_true, if_false, eq_self, implies_true, ne_eq, List.nil_append, List.cons_append, ↓reduceIte, Nat.reduceEqDiff, Nat.reduceBEq, reduceCtorEq, Nat.reduceAdd, resA, ret1, qv, lv, ev, boolA, binA, intA, shiftA, cmpA, beqA, lres]
  · exact hf fun h' => h' h
  · exact ht h

theorem isNucleus_c {uv tv v : AV} {A : Alg} {j : List Int} (h : Ints H uv A.up) (hm : Mat H tv A.times) (hA : IsAlg A) (hv : Ints H v j) (hj62 : j.length < 4611686018427387904) {Q : AV → Hp → Prop} (ht : IsNuc A j → Q (.bool true) H) (hf : ¬ IsNuc A j → Q (.bool false) H) :
    ACalls Try.prog w0 100 [.agg [uv, tv], v] H Q := by
  refine quietB (fun b hb => ?_) ht hf
  refine in100 ?_
  simp only [c100, ↓WP, WQ, if_true, if_false, eq_self, implies_true, ne_eq, List.nil_append, List.cons_append, ↓reduceIte, Nat.reduceEqDiff, Nat.reduceBEq, reduceCtorEq, Nat.reduceAdd, resA, ret1, qv, lv, ev, boolA, binA, intA, shiftA, cmpA, beqA, lres, cells_alg h.len hm.len]
  refine NewRowd_in fun r hr => ?_
  obtain ⟨hE, hu, hu1, hu2⟩ := box_facts (ty := 36) (uv := uv) (tv := tv) hr
  generalize H.set r ⟨36, true, [uv, tv]⟩ = G at *
  have h := h.ext hE
  have hm := hm.ext hE
  have hv := hv.ext hE
  simp only [↓WP, WQ, if_true, if_false, eq_self, implies_true, ne_eq, List.nil_append, List.cons_append, ↓reduceIte, Nat.reduceEqDiff, Nat.reduceBEq, reduceCtorEq, Nat.reduceAdd, resA, ret1, qv, lv, ev, boolA, binA, intA, shiftA, cmpA, beqA, lres, cells_scal (lenA_scal hv.len)]
  refine NewRowd_in fun r3 hr3 => ?_
  have hE2 := Ext.set (x := ⟨30, true, [v]⟩) hr3
  have hj : (G.set r3 ⟨30, true, [v]⟩).at (.ptr r3 0) = some v := by rw [at_put]; rfl
  have hu := hE2.atN hu
  have hu1 := hE2.at hu1
  have hu2 := hE2.at hu2
  have hE := hE.trans hE2
  generalize G.set r3 ⟨30, true, [v]⟩ = G2 at *
  have h := h.ext hE2
  have hm := hm.ext hE2
  have hv := hv.ext hE2
  simp only [↓WP, WQ, if_true, if_false, eq_self, implies_true, ne_eq, List.nil_append, List.cons_append, ↓reduceIte, Nat.reduceEqDiff, Nat.reduceBEq, reduceCtorEq, Nat.reduceAdd, resA, ret1, qv, lv, ev, boolA, binA, intA, shiftA, cmpA, beqA, lres, hu1, hj, h.len, hv.len]
  have hT : Tab G2 tv A := ⟨hm, hA.toSquare⟩
  have hn6 := hA.hi
  have hn1 := hA.lo
  refine (Classical.em ((j.length : Int) = A.up.length)).elim (fun hl => ?_) (fun hl => ?_)
  rotate_left
  · simp only [↓WP, WQ, if_true, if_false, eq_self, implies_true, ne_eq, List.nil_append, List.cons_append, ↓reduceIte, Nat.reduceEqDiff, Nat.reduceBEq, reduceCtorEq, Nat.reduceAdd, resA, ret1, qv, lv, ev, boolA, binA, intA, shiftA, cmpA, beqA, lres, decide_eq_false hl]
    exact ⟨boolF hb (fun hc => hl (by rw [hc.1])), hE⟩
  have hl' : j.length = A.up.length := by omega
  have hjl := hv.len
  rw [hl'] at hjl
  have hwl : IntKind.i64.wrap ((A.up.length : Int) - 1) = A.up.length - 1 := wrap_id (by omega) (by omega)
  simp only [↓WP, WQ, if_true, if_false, eq_self, implies_true, ne_eq, List.nil_append, List.cons_append, ↓reduceIte, Nat.reduceEqDiff, Nat.reduceBEq, reduceCtorEq, Nat.reduceAdd, resA, ret1, qv, lv, ev, boolA, binA, intA, shiftA, cmpA, beqA, lres, decide_eq_true hl, hj]
  refine ContainsFunc_c hv hj62 (isNucleus1_c (n := A.up.length) (by omega) hjl hj) (fun i i0 i1 hi => ?_) (fun hi => ?_)
  · simp only [↓WP, WQ, if_true, if_false, eq_self, implies_true, ne_eq, List.nil_append, List.cons_append, ↓reduceIte, Nat.reduceEqDiff, Nat.reduceBEq, reduceCtorEq, Nat.reduceAdd, resA, ret1, qv, lv, ev, boolA, binA, intA, shiftA, cmpA, beqA, lres, decide_eq_true hl]
    exact ⟨boolF hb (fun hc => hi (by have := hc.2.1 i i0 (by omega); simp only [gj] at this; exact ⟨this.1, by have := this.2; omega⟩)), hE⟩
  have hrng : allI A.up.length fun x => El A (gj j x) := fun i i0 i1 => by
    have := Classical.not_not.1 (hi i i0 (by omega))
    simp only [gj]
    exact ⟨this.1, by have := this.2; omega⟩
  have ej : ∀ {x : Int}, El A x → El A (gj j x) := fun hx => hrng _ hx.1 hx.2
  have jx : ∀ {x : Int}, El A x → idxA 1 v (.int .i64 x) = some (elt 1 v x.toNat) := fun hx => hv.idx hx.1 (by rw [hl']; exact hx.2)
  have ja : ∀ {x : Int}, El A x → G2.at (elt 1 v x.toNat) = some (.int .i64 (gj j x)) := fun hx => hv.at (by rw [hl']; have := hx.1; have := hx.2; omega)
  simp only [↓WP, WQ, if_true, if_false, eq_self, implies_true, ne_eq, List.nil_append, List.cons_append, ↓reduceIte, Nat.reduceEqDiff, Nat.reduceBEq, reduceCtorEq, Nat.reduceAdd, resA, ret1, qv, lv, ev, boolA, binA, intA, shiftA, cmpA, beqA, lres, hj, hjl, decide_eq_true hl]
  refine W_for 0 A.up.length (fun x e K => K = G2 ∧ Sl e [(2, .ptr r 0), (3, .ptr r3 0), (19, .int .i64 A.up.length), (20, .int .i64 x)] ∧ allI x fun x => NX A j x ∧ allI A.up.length fun y => NXY A j x y) (by omega) ⟨rfl, by simp only [↓WP, WQ, if_true, if_false, eq_self, implies_true, ne_eq, List.nil_append, List.cons_append, ↓reduceIte, Nat.reduceEqDiff, Nat.reduceBEq, reduceCtorEq, Nat.reduceAdd, resA, ret1, qv, lv, ev, boolA, binA, intA, shiftA, cmpA, beqA, lres], allI_zero⟩ ?_
  rintro x e K hx0 hx1 ⟨rfl, hs, hall⟩
  simp only [Sl_cons, Sl_nil, and_true] at hs
  have hw : IntKind.i64.wrap (x + 1) = x + 1 := wrap_id (by omega) (by omega)
  refine (Classical.em (x < A.up.length)).elim (fun hx => ?_) (fun hx => ?_) <;> simp only [↓WP, WQ, if_true, if_false, eq_self, implies_true, ne_eq, List.nil_append, List.cons_append, ↓reduceIte, Nat.reduceEqDiff, Nat.reduceBEq, reduceCtorEq, Nat.reduceAdd, resA, ret1, qv, lv, ev, boolA, binA, intA, shiftA, cmpA, beqA, lres, hs, hx]
  rotate_left
  · have hxe : x = A.up.length := by omega
    rw [hxe] at hall
    exact ⟨boolT hb ⟨hl', hrng, hall⟩, hE⟩
  have ex : El A x := ⟨hx0, hx⟩
  have egx := ej ex
  refine DR_in (fun _ => True) rfl ?_
  simp only [↓WP, WQ, if_true, if_false, eq_self, implies_true, ne_eq, List.nil_append, List.cons_append, ↓reduceIte, Nat.reduceEqDiff, Nat.reduceBEq, reduceCtorEq, Nat.reduceAdd, resA, ret1, qv, lv, ev, boolA, binA, intA, shiftA, cmpA, beqA, lres, hs, hu1, hj, jx ex, ja ex]
  refine below_c h ex.1 ex.2 egx.1 (fun c1 => ?_) (fun c1 => ?_)
  rotate_left
  · simp only [↓WP, WQ, if_true, if_false, eq_self, implies_true, ne_eq, List.nil_append, List.cons_append, ↓reduceIte, Nat.reduceEqDiff, Nat.reduceBEq, reduceCtorEq, Nat.reduceAdd, resA, ret1, qv, lv, ev, boolA, binA, intA, shiftA, cmpA, beqA, lres, hs]
    exact ⟨boolF hb (fun hc => c1 (hc.2.2 x hx0 hx).1.1), hE⟩
  simp only [↓WP, WQ, if_true, if_false, eq_self, implies_true, ne_eq, List.nil_append, List.cons_append, ↓reduceIte, Nat.reduceEqDiff, Nat.reduceBEq, reduceCtorEq, Nat.reduceAdd, resA, ret1, qv, lv, ev, boolA, binA, intA, shiftA, cmpA, beqA, lres, hs, hj, jx ex, ja ex, jx egx, ja egx]
  refine (Classical.em (gj j (gj j x) = gj j x)).elim (fun c2 => ?_) (fun c2 => ?_)
  rotate_left
  · simp only [↓WP, WQ, if_true, if_false, eq_self, implies_true, ne_eq, List.nil_append, List.cons_append, ↓reduceIte, Nat.reduceEqDiff, Nat.reduceBEq, reduceCtorEq, Nat.reduceAdd, resA, ret1, qv, lv, ev, boolA, binA, intA, shiftA, cmpA, beqA, lres, hs, decide_eq_false c2]
    exact ⟨boolF hb (fun hc => c2 (hc.2.2 x hx0 hx).1.2), hE⟩
  simp only [↓WP, WQ, if_true, if_false, eq_self, implies_true, ne_eq, List.nil_append, List.cons_append, ↓reduceIte, Nat.reduceEqDiff, Nat.reduceBEq, reduceCtorEq, Nat.reduceAdd, resA, ret1, qv, lv, ev, boolA, binA, intA, shiftA, cmpA, beqA, lres, hs, decide_eq_true c2, hj, hjl]
  refine W_for 0 A.up.length (fun y e K' => K' = K ∧ Sl e [(2, .ptr r 0), (3, .ptr r3 0), (19, .int .i64 A.up.length), (20, .int .i64 x), (5, .int .i64 x), (47, .int .i64 A.up.length), (48, .int .i64 y)] ∧ allI y fun y => NXY A j x y) (by omega) ⟨rfl, by simp only [↓WP, WQ, if_true, if_false, eq_self, implies_true, ne_eq, List.nil_append, List.cons_append, ↓reduceIte, Nat.reduceEqDiff, Nat.reduceBEq, reduceCtorEq, Nat.reduceAdd, resA, ret1, qv, lv, ev, boolA, binA, intA, shiftA, cmpA, beqA, lres, hs], allI_zero⟩ ?_
  rintro y e K' hy0 hy1 ⟨rfl, hs, hin⟩
  simp only [Sl_cons, Sl_nil, and_true] at hs
  have hwy : IntKind.i64.wrap (y + 1) = y + 1 := wrap_id (by omega) (by omega)
  refine (Classical.em (y < A.up.length)).elim (fun hy => ?_) (fun hy => ?_) <;> simp only [↓WP, WQ, if_true, if_false, eq_self, implies_true, ne_eq, List.nil_append, List.cons_append, ↓reduceIte, Nat.reduceEqDiff, Nat.reduceBEq, reduceCtorEq, Nat.reduceAdd, resA, ret1, qv, lv, ev, boolA, binA, intA, shiftA, cmpA, beqA, lres, hs, hy]
  rotate_left
  · have hye : y = A.up.length := by omega
    rw [hye] at hin
    simp only [↓WP, WQ, if_true, if_false, eq_self, implies_true, ne_eq, List.nil_append, List.cons_append, ↓reduceIte, Nat.reduceEqDiff, Nat.reduceBEq, reduceCtorEq, Nat.reduceAdd, resA, ret1, qv, lv, ev, boolA, binA, intA, shiftA, cmpA, beqA, lres, hs, hw, hx]
    exact (allI_succ hx0).2 ⟨hall, ⟨c1, c2⟩, hin⟩
  have ey : El A y := ⟨hy0, hy⟩
  have egy := ej ey
  have et := hA.te ex ey
  have eg := hA.te egx egy
  have no : ¬ NXY A j x y → AV.bool false = AV.bool b ∧ Ext H K' := fun hc => ⟨boolF hb (fun hh => hc ((hh.2.2 x hx0 hx).2 y hy0 hy)), hE⟩
  have rest : ∀ {Q : AV → Hp → Prop}, (bl A.up (A.tm (gj j x) (gj j y)) (gj j (A.tm x y)) → Q (.bool true) K') → (¬ bl A.up (A.tm (gj j x) (gj j y)) (gj j (A.tm x y)) → Q (.bool false) K') → ACalls Try.prog w0 96 [uv, .int .i64 (A.tm (gj j x) (gj j y)), .int .i64 (gj j (A.tm x y))] K' Q := fun h1 h2 => below_c h eg.1 eg.2 (ej et).1 h1 h2
  refine DR_in (fun _ => True) rfl ?_
  simp only [↓WP, WQ, if_true, if_false, eq_self, implies_true, ne_eq, List.nil_append, List.cons_append, ↓reduceIte, Nat.reduceEqDiff, Nat.reduceBEq, reduceCtorEq, Nat.reduceAdd, resA, ret1, qv, lv, ev, boolA, binA, intA, shiftA, cmpA, beqA, lres, hs, hu1]
  refine below_c h ex.1 ex.2 ey.1 (fun c3 => ?_) (fun c3 => ?_)
  · simp only [↓WP, WQ, if_true, if_false, eq_self, implies_true, ne_eq, List.nil_append, List.cons_append, ↓reduceIte, Nat.reduceEqDiff, Nat.reduceBEq, reduceCtorEq, Nat.reduceAdd, resA, ret1, qv, lv, ev, boolA, binA, intA, shiftA, cmpA, beqA, lres, hs, hu1, hj, jx ex, ja ex, jx ey, ja ey]
    refine below_c h egx.1 egx.2 egy.1 (fun c4 => ?_) (fun c4 => ?_)
    rotate_left
    · simp only [↓WP, WQ, if_true, if_false, eq_self, implies_true, ne_eq, List.nil_append, List.cons_append, ↓reduceIte, Nat.reduceEqDiff, Nat.reduceBEq, reduceCtorEq, Nat.reduceAdd, resA, ret1, qv, lv, ev, boolA, binA, intA, shiftA, cmpA, beqA, lres, hs]
      exact no (fun hc => c4 (hc.1 c3))
    simp only [↓WP, WQ, if_true, if_false, eq_self, implies_true, ne_eq, List.nil_append, List.cons_append, ↓reduceIte, Nat.reduceEqDiff, Nat.reduceBEq, reduceCtorEq, Nat.reduceAdd, resA, ret1, qv, lv, ev, boolA, binA, intA, shiftA, cmpA, beqA, lres, hs, hu1, hu2, hj, jx ex, ja ex, jx ey, ja ey, hT.idx egx.1 egx.2, hT.at egx.1 egx.2, hT.idx2 egx.1 egx.2 egy.1 egy.2, hT.at2 egx.1 egx.2 egy.1 egy.2, hT.idx hx0 hx, hT.at hx0 hx, hT.idx2 hx0 hx hy0 hy, hT.at2 hx0 hx hy0 hy, jx et, ja et]
    refine rest (fun c5 => ?_) (fun c5 => ?_)
    · simp only [↓WP, WQ, if_true, if_false, eq_self, implies_true, ne_eq, List.nil_append, List.cons_append, ↓reduceIte, Nat.reduceEqDiff, Nat.reduceBEq, reduceCtorEq, Nat.reduceAdd, resA, ret1, qv, lv, ev, boolA, binA, intA, shiftA, cmpA, beqA, lres, hs, hwy, hy]
      exact (allI_succ hy0).2 ⟨hin, fun _ => c4, c5⟩
    · simp only [↓WP, WQ, if_true, if_false, eq_self, implies_true, ne_eq, List.nil_append, List.cons_append, ↓reduceIte, Nat.reduceEqDiff, Nat.reduceBEq, reduceCtorEq, Nat.reduceAdd, resA, ret1, qv, lv, ev, boolA, binA, intA, shiftA, cmpA, beqA, lres, hs]
      exact no (fun hc => c5 hc.2)
  · simp only [↓WP, WQ, if_true, if_false, eq_self, implies_true, ne_eq, List.nil_append, List.cons_append, ↓reduceIte, Nat.reduceEqDiff, Nat.reduceBEq, reduceCtorEq, Nat.reduceAdd, resA, ret1, qv, lv, ev, boolA, binA, intA, shiftA, cmpA, beqA, lres, hs, hu1, hu2, hj, jx ex, ja ex, jx ey, ja ey, hT.idx egx.1 egx.2, hT.at egx.1 egx.2, hT.idx2 egx.1 egx.2 egy.1 egy.2, hT.at2 egx.1 egx.2 egy.1 egy.2, hT.idx hx0 hx, hT.at hx0 hx, hT.idx2 hx0 hx hy0 hy, hT.at2 hx0 hx hy0 hy, jx et, ja et]
    refine rest (fun c5 => ?_) (fun c5 => ?_)
    · simp only [↓WP, WQ, if_true, if_false, eq_self, implies_true, ne_eq, List.nil_append, List.cons_append, ↓reduceIte, Nat.reduceEqDiff, Nat.reduceBEq, reduceCtorEq, Nat.reduceAdd, resA, ret1, qv, lv, ev, boolA, binA, intA, shiftA, cmpA, beqA, lres, hs, hwy, hy]
      exact (allI_succ hy0).2 ⟨hin, fun hc => absurd hc c3, c5⟩
    · simp only [↓WP, WQ, if_true, if_false, eq_self, implies_true, ne_eq, List.nil_append, List.cons_append, ↓reduceIte, Nat.reduceEqDiff, Nat.reduceBEq, reduceCtorEq, Nat.reduceAdd, resA, ret1, qv, lv, ev, boolA, binA, intA, shiftA, cmpA, beqA, lres, hs]
      exact no (fun hc => c5 hc.2)

theorem sisNucleus_c {uv tv v : AV} {A : Alg} {j : List Int} (h : Ints H uv A.up) (hm : Mat H tv A.times) (hA : IsAlg A) (hv : Ints H v j) (hj62 : j.length < 4611686018427387904) {Q : AV → Hp → Prop} (ht : IsNuc A j → Q (.bool true) H) (hf : ¬ IsNuc A j → Q (.bool false) H) :
    ACalls Try.prog w0 101 [.agg [uv, tv], v] H Q := by
  refine quietB (fun b hb => ?_) ht hf
  refine in101 ?_
  simp only [c101, ↓WP, WQ, if_true, if_false, eq_self, implies_true, ne_eq, List.nil_append, List.cons_append, ↓reduceIte, Nat.reduceEqDiff, Nat.reduceBEq, reduceCtorEq, Nat.reduceAdd, resA, ret1, qv, lv, ev, boolA, binA, intA, shiftA, cmpA, beqA, lres, cells_alg h.len hm.len]
  refine NewRowd_in fun r hr => ?_
  obtain ⟨hE, hu, hu1, hu2⟩ := box_facts (ty := 36) (uv := uv) (tv := tv) hr
  generalize H.set r ⟨36, true, [uv, tv]⟩ = G at *
  have h := h.ext hE
  have hm := hm.ext hE
  have hv := hv.ext hE
  simp only [↓WP, WQ, if_true, if_false, eq_self, implies_true, ne_eq, List.nil_append, List.cons_append, ↓reduceIte, Nat.reduceEqDiff, Nat.reduceBEq, reduceCtorEq, Nat.reduceAdd, resA, ret1, qv, lv, ev, boolA, binA, intA, shiftA, cmpA, beqA, lres, hu1, h.len, hv.len]
  have hT : Tab G tv A := ⟨hm, hA.toSquare⟩
  have hn6 := hA.hi
  have hn1 := hA.lo
  refine (Classical.em ((j.length : Int) = A.up.length)).elim (fun hl => ?_) (fun hl => ?_)
  rotate_left
  · simp only [↓WP, WQ, if_true, if_false, eq_self, implies_true, ne_eq, List.nil_append, List.cons_append, ↓reduceIte, Nat.reduceEqDiff, Nat.reduceBEq, reduceCtorEq, Nat.reduceAdd, resA, ret1, qv, lv, ev, boolA, binA, intA, shiftA, cmpA, beqA, lres, decide_eq_false hl]
    exact ⟨boolF hb (fun hc => hl (by rw [hc.1])), hE⟩
  have hl' : j.length = A.up.length := by omega
  have hjl := hv.len
  rw [hl'] at hjl
  have hwl : IntKind.i64.wrap ((A.up.length : Int) - 1) = A.up.length - 1 := wrap_id (by omega) (by omega)
  simp only [↓WP, WQ, if_true, if_false, eq_self, implies_true, ne_eq, List.nil_append, List.cons_append, ↓reduceIte, Nat.reduceEqDiff, Nat.reduceBEq, reduceCtorEq, Nat.reduceAdd, resA, ret1, qv, lv, ev, boolA, binA, intA, shiftA, cmpA, beqA, lres, decide_eq_true hl]
  refine W_for 0 A.up.length (fun x e H' => H' = G ∧ Sl e [(1, v), (2, .ptr r 0), (5, .int .i64 A.up.length), (6, .int .i64 x)] ∧ allI x fun x => El A (gj j x)) (by omega) ⟨rfl, by simp only [↓WP, WQ, if_true, if_false, eq_self, implies_true, ne_eq, List.nil_append, List.cons_append, ↓reduceIte, Nat.reduceEqDiff, Nat.reduceBEq, reduceCtorEq, Nat.reduceAdd, resA, ret1, qv, lv, ev, boolA, binA, intA, shiftA, cmpA, beqA, lres], allI_zero⟩ ?_
  rintro x e H' hx0 hx1 ⟨rfl, hs, hall⟩
  simp only [Sl_cons, Sl_nil, and_true] at hs
  have hw : IntKind.i64.wrap (x + 1) = x + 1 := wrap_id (by omega) (by omega)
  refine (Classical.em (x < A.up.length)).elim (fun hx => ?_) (fun hx => ?_) <;> simp only [↓WP, WQ, if_true, if_false, eq_self, implies_true, ne_eq, List.nil_append, List.cons_append, ↓reduceIte, Nat.reduceEqDiff, Nat.reduceBEq, reduceCtorEq, Nat.reduceAdd, resA, ret1, qv, lv, ev, boolA, binA, intA, shiftA, cmpA, beqA, lres, hs, hx, hwl]
  · simp only [↓WP, WQ, if_true, if_false, eq_self, implies_true, ne_eq, List.nil_append, List.cons_append, ↓reduceIte, Nat.reduceEqDiff, Nat.reduceBEq, reduceCtorEq, Nat.reduceAdd, resA, ret1, qv, lv, ev, boolA, binA, intA, shiftA, cmpA, beqA, lres, hs, hv.idx hx0 (by omega : x < j.length), hv.at (by omega : x.toNat < j.length), hwl]
    refine inRange_c _ _ _ (fun hc => ?_) (fun hc => ?_) <;> simp only [↓WP, WQ, if_true, if_false, eq_self, implies_true, ne_eq, List.nil_append, List.cons_append, ↓reduceIte, Nat.reduceEqDiff, Nat.reduceBEq, reduceCtorEq, Nat.reduceAdd, resA, ret1, qv, lv, ev, boolA, binA, intA, shiftA, cmpA, beqA, lres, hs, hw, hx]
    · exact (allI_succ hx0).2 ⟨hall, hc.1, by have := hc.2; simp only [gj]; omega⟩
    · exact ⟨boolF hb (fun hh => hc (by have := hh.2.1 x hx0 hx; simp only [gj] at this; exact ⟨this.1, by have := this.2; omega⟩)), hE⟩
  have hxe : x = A.up.length := by omega
  rw [hxe] at hall
  have hrng := hall
  clear hall hxe hx hw hx0 hx1
  have ej : ∀ {x : Int}, El A x → El A (gj j x) := fun hx => hrng _ hx.1 hx.2
  have jx : ∀ {x : Int}, El A x → idxA 1 v (.int .i64 x) = some (elt 1 v x.toNat) := fun hx => hv.idx hx.1 (by rw [hl']; exact hx.2)
  have ja : ∀ {x : Int}, El A x → H'.at (elt 1 v x.toNat) = some (.int .i64 (gj j x)) := fun hx => hv.at (by rw [hl']; have := hx.1; have := hx.2; omega)
  have hs0 := hs
  refine W_for 0 A.up.length (fun x e K => K = H' ∧ Sl e [(1, v), (2, .ptr r 0), (5, .int .i64 A.up.length), (7, .int .i64 x)] ∧ allI x fun x => NX A j x ∧ allI A.up.length fun y => NXY A j x y) (by omega) ⟨rfl, by simp only [↓WP, WQ, if_true, if_false, eq_self, implies_true, ne_eq, List.nil_append, List.cons_append, ↓reduceIte, Nat.reduceEqDiff, Nat.reduceBEq, reduceCtorEq, Nat.reduceAdd, resA, ret1, qv, lv, ev, boolA, binA, intA, shiftA, cmpA, beqA, lres, hs0], allI_zero⟩ ?_
  rintro x e K hx0 hx1 ⟨rfl, hs, hall⟩
  simp only [Sl_cons, Sl_nil, and_true] at hs
  have hw : IntKind.i64.wrap (x + 1) = x + 1 := wrap_id (by omega) (by omega)
  refine (Classical.em (x < A.up.length)).elim (fun hx => ?_) (fun hx => ?_) <;> simp only [↓WP, WQ, if_true, if_false, eq_self, implies_true, ne_eq, List.nil_append, List.cons_append, ↓reduceIte, Nat.reduceEqDiff, Nat.reduceBEq, reduceCtorEq, Nat.reduceAdd, resA, ret1, qv, lv, ev, boolA, binA, intA, shiftA, cmpA, beqA, lres, hs, hx]
  rotate_left
  · have hxe : x = A.up.length := by omega
    rw [hxe] at hall
    exact ⟨boolT hb ⟨hl', hrng, hall⟩, hE⟩
  have ex : El A x := ⟨hx0, hx⟩
  have egx := ej ex
  refine DR_in (fun _ => True) rfl ?_
  simp only [↓WP, WQ, if_true, if_false, eq_self, implies_true, ne_eq, List.nil_append, List.cons_append, ↓reduceIte, Nat.reduceEqDiff, Nat.reduceBEq, reduceCtorEq, Nat.reduceAdd, resA, ret1, qv, lv, ev, boolA, binA, intA, shiftA, cmpA, beqA, lres, hs, hu1, jx ex, ja ex]
  refine sbelow_c h hA.rows62 ex.1 ex.2 egx.1 (by have := egx.2; omega) (fun c1 => ?_) (fun c1 => ?_)
  rotate_left
  · simp only [↓WP, WQ, if_true, if_false, eq_self, implies_true, ne_eq, List.nil_append, List.cons_append, ↓reduceIte, Nat.reduceEqDiff, Nat.reduceBEq, reduceCtorEq, Nat.reduceAdd, resA, ret1, qv, lv, ev, boolA, binA, intA, shiftA, cmpA, beqA, lres, hs]
    exact ⟨boolF hb (fun hc => c1 (hc.2.2 x hx0 hx).1.1), hE⟩
  simp only [↓WP, WQ, if_true, if_false, eq_self, implies_true, ne_eq, List.nil_append, List.cons_append, ↓reduceIte, Nat.reduceEqDiff, Nat.reduceBEq, reduceCtorEq, Nat.reduceAdd, resA, ret1, qv, lv, ev, boolA, binA, intA, shiftA, cmpA, beqA, lres, hs, jx ex, ja ex, jx egx, ja egx]
  refine (Classical.em (gj j (gj j x) = gj j x)).elim (fun c2 => ?_) (fun c2 => ?_)
  rotate_left
  · simp only [↓WP, WQ, if_true, if_false, eq_self, implies_true, ne_eq, List.nil_append, List.cons_append, ↓reduceIte, Nat.reduceEqDiff, Nat.reduceBEq, reduceCtorEq, Nat.reduceAdd, resA, ret1, qv, lv, ev, boolA, binA, intA, shiftA, cmpA, beqA, lres, hs, decide_eq_false c2]
    exact ⟨boolF hb (fun hc => c2 (hc.2.2 x hx0 hx).1.2), hE⟩
  simp only [↓WP, WQ, if_true, if_false, eq_self, implies_true, ne_eq, List.nil_append, List.cons_append, ↓reduceIte, Nat.reduceEqDiff, Nat.reduceBEq, reduceCtorEq, Nat.reduceAdd, resA, ret1, qv, lv, ev, boolA, binA, intA, shiftA, cmpA, beqA, lres, hs, decide_eq_true c2, hjl]
  refine W_for 0 A.up.length (fun y e K' => K' = K ∧ Sl e [(1, v), (2, .ptr r 0), (5, .int .i64 A.up.length), (7, .int .i64 x), (8, .int .i64 y)] ∧ allI y fun y => NXY A j x y) (by omega) ⟨rfl, by simp only [↓WP, WQ, if_true, if_false, eq_self, implies_true, ne_eq, List.nil_append, List.cons_append, ↓reduceIte, Nat.reduceEqDiff, Nat.reduceBEq, reduceCtorEq, Nat.reduceAdd, resA, ret1, qv, lv, ev, boolA, binA, intA, shiftA, cmpA, beqA, lres, hs], allI_zero⟩ ?_
  rintro y e K' hy0 hy1 ⟨rfl, hs, hin⟩
  simp only [Sl_cons, Sl_nil, and_true] at hs
  have hwy : IntKind.i64.wrap (y + 1) = y + 1 := wrap_id (by omega) (by omega)
  refine (Classical.em (y < A.up.length)).elim (fun hy => ?_) (fun hy => ?_) <;> simp only [↓WP, WQ, if_true, if_false, eq_self, implies_true, ne_eq, List.nil_append, List.cons_append, ↓reduceIte, Nat.reduceEqDiff, Nat.reduceBEq, reduceCtorEq, Nat.reduceAdd, resA, ret1, qv, lv, ev, boolA, binA, intA, shiftA, cmpA, beqA, lres, hs, hy]
  rotate_left
  · have hye : y = A.up.length := by omega
    rw [hye] at hin
    simp only [↓WP, WQ, if_true, if_false, eq_self, implies_true, ne_eq, List.nil_append, List.cons_append, ↓reduceIte, Nat.reduceEqDiff, Nat.reduceBEq, reduceCtorEq, Nat.reduceAdd, resA, ret1, qv, lv, ev, boolA, binA, intA, shiftA, cmpA, beqA, lres, hs, hw, hx]
    exact (allI_succ hx0).2 ⟨hall, ⟨c1, c2⟩, hin⟩
  have ey : El A y := ⟨hy0, hy⟩
  have egy := ej ey
  have et := hA.te ex ey
  have eg := hA.te egx egy
  have no : ¬ NXY A j x y → AV.bool false = AV.bool b ∧ Ext H K' := fun hc => ⟨boolF hb (fun hh => hc ((hh.2.2 x hx0 hx).2 y hy0 hy)), hE⟩
  have rest : ∀ {Q : AV → Hp → Prop}, (bl A.up (A.tm (gj j x) (gj j y)) (gj j (A.tm x y)) → Q (.bool true) K') → (¬ bl A.up (A.tm (gj j x) (gj j y)) (gj j (A.tm x y)) → Q (.bool false) K') → ACalls Try.prog w0 93 [uv, .int .i64 (A.tm (gj j x) (gj j y)), .int .i64 (gj j (A.tm x y))] K' Q := fun h1 h2 => sbelow_c h hA.rows62 eg.1 eg.2 (ej et).1 (by have := (ej et).2; omega) h1 h2
  refine DR_in (fun _ => True) rfl ?_
  simp only [↓WP, WQ, if_true, if_false, eq_self, implies_true, ne_eq, List.nil_append, List.cons_append, ↓reduceIte, Nat.reduceEqDiff, Nat.reduceBEq, reduceCtorEq, Nat.reduceAdd, resA, ret1, qv, lv, ev, boolA, binA, intA, shiftA, cmpA, beqA, lres, hs, hu1]
  refine sbelow_c h hA.rows62 ex.1 ex.2 ey.1 (by have := ey.2; omega) (fun c3 => ?_) (fun c3 => ?_)
  · simp only [↓WP, WQ, if_true, if_false, eq_self, implies_true, ne_eq, List.nil_append, List.cons_append, ↓reduceIte, Nat.reduceEqDiff, Nat.reduceBEq, reduceCtorEq, Nat.reduceAdd, resA, ret1, qv, lv, ev, boolA, binA, intA, shiftA, cmpA, beqA, lres, hs, hu1, jx ex, ja ex, jx ey, ja ey]
    refine sbelow_c h hA.rows62 egx.1 egx.2 egy.1 (by have := egy.2; omega) (fun c4 => ?_) (fun c4 => ?_)
    rotate_left
    · simp only [↓WP, WQ, if_true, if_false, eq_self, implies_true, ne_eq, List.nil_append, List.cons_append, ↓reduceIte, Nat.reduceEqDiff, Nat.reduceBEq, reduceCtorEq, Nat.reduceAdd, resA, ret1, qv, lv, ev, boolA, binA, intA, shiftA, cmpA, beqA, lres, hs]
      exact no (fun hc => c4 (hc.1 c3))
    simp only [↓WP, WQ, if_true, if_false, eq_self, implies_true, ne_eq, List.nil_append, List.cons_append, ↓reduceIte, Nat.reduceEqDiff, Nat.reduceBEq, reduceCtorEq, Nat.reduceAdd, resA, ret1, qv, lv, ev, boolA, binA, intA, shiftA, cmpA, beqA, lres, hs, hu1, hu2, jx ex, ja ex, jx ey, ja ey, hT.idx egx.1 egx.2, hT.at egx.1 egx.2, hT.idx2 egx.1 egx.2 egy.1 egy.2, hT.at2 egx.1 egx.2 egy.1 egy.2, hT.idx hx0 hx, hT.at hx0 hx, hT.idx2 hx0 hx hy0 hy, hT.at2 hx0 hx hy0 hy, jx et, ja et]
    refine rest (fun c5 => ?_) (fun c5 => ?_)
    · simp only [↓WP, WQ, if_true, if_false, eq_self, implies_true, ne_eq, List.nil_append, List.cons_append, ↓reduceIte, Nat.reduceEqDiff, Nat.reduceBEq, reduceCtorEq, Nat.reduceAdd, resA, ret1, qv, lv, ev, boolA, binA, intA, shiftA, cmpA, beqA, lres, hs, hwy, hy]
      exact (allI_succ hy0).2 ⟨hin, fun _ => c4, c5⟩
    · simp only [↓WP, WQ, if_true, if_false, eq_self, implies_true, ne_eq, List.nil_append, List.cons_append, ↓reduceIte, Nat.reduceEqDiff, Nat.reduceBEq, reduceCtorEq, Nat.reduceAdd, resA, ret1, qv, lv, ev, boolA, binA, intA, shiftA, cmpA, beqA, lres, hs]
      exact no (fun hc => c5 hc.2)
  · simp only [↓WP, WQ, if_true, if_false, eq_self, implies_true, ne_eq, List.nil_append, List.cons_append, ↓reduceIte, Nat.reduceEqDiff, Nat.reduceBEq, reduceCtorEq, Nat.reduceAdd, resA, ret1, qv, lv, ev, boolA, binA, intA, shiftA, cmpA, beqA, lres, hs, hu1, hu2, jx ex, ja ex, jx ey, ja ey, hT.idx egx.1 egx.2, hT.at egx.1 egx.2, hT.idx2 egx.1 egx.2 egy.1 egy.2, hT.at2 egx.1 egx.2 egy.1 egy.2, hT.idx hx0 hx, hT.at hx0 hx, hT.idx2 hx0 hx hy0 hy, hT.at2 hx0 hx hy0 hy, jx et, ja et]
    refine rest (fun c5 => ?_) (fun c5 => ?_)
    · simp only [↓WP, WQ, if_true, if_false, eq_self, implies_true, ne_eq, List.nil_append, List.cons_append, ↓reduceIte, Nat.reduceEqDiff, Nat.reduceBEq, reduceCtorEq, Nat.reduceAdd, resA, ret1, qv, lv, ev, boolA, binA, intA, shiftA, cmpA, beqA, lres, hs, hwy, hy]
      exact (allI_succ hy0).2 ⟨hin, fun hc => absurd hc c3, c5⟩
    · simp only [↓WP, WQ, if_true, if_false, eq_self, implies_true, ne_eq, List.nil_append, List.cons_append, ↓reduceIte, Nat.reduceEqDiff, Nat.reduceBEq, reduceCtorEq, Nat.reduceAdd, resA, ret1, qv, lv, ev, boolA, binA, intA, shiftA, cmpA, beqA, lres, hs]
      exact no (fun hc => c5 hc.2)

end Go.AL

/-
  Lists of nuclei.
-/
namespace Go.AL
open Go.Proofs
set_option linter.unusedSimpArgs false
set_option linter.unusedVariables false
set_option linter.unusedSectionVars false
variable {w0 : World} {H : Hp}

section
variable {P : Program} {S : Nat → Prop}
theorem WD_app {n id : Nat} {fl : Bool} {dd : Option Nat} {ty sz bytes : Nat} {s x : Opd} {l : List DOp} {K : Env → Hp → Prop} {e : Env} {H : Hp} :
    WD P w0 S (n + 1) (⟨id, fl, [], dd, none, .e (.app ty sz bytes s x)⟩ :: l) K e H = AppD ty sz bytes (ev e s) (ev e x) H (fun v H' => (∀ r, S r → H' r = H r) ∧ WD P w0 S n l K (updo e dd v) H') (dep _) := by
  rw [WD_one rfl, TD_app]
end

theorem gj_last {hd : List Int} {y : Int} : gj (hd ++ [y]) hd.length = y := by
  simp [gj]
theorem gj_pre {hd : List Int} {y i : Int} (h0 : 0 ≤ i) (h1 : i < hd.length) : gj (hd ++ [y]) i = gj hd i := by
  have : i.toNat < hd.length := by omega
  simp only [gj, List.getD_eq_getElem?_getD, List.getElem?_append_left this]
theorem keepb {b : Nat} {x : Row} {G G' : Hp} (h : G b = some x) (h' : G' b = some x) : ∀ q, q = b → G' q = G q := fun q hq => by rw [hq, h, h']
theorem id_nuc {A : Alg} (hA : IsAlg A) {hd : List Int} (hl : hd.length = A.up.length) (hi : ∀ i : Int, 0 ≤ i → i < hd.length → gj hd i = i) : IsNuc A hd := by
  have g : ∀ {x : Int}, El A x → gj hd x = x := fun hx => hi _ hx.1 (by rw [hl]; exact hx.2)
  refine ⟨hl, fun x x0 x1 => by show El A (gj hd x); rw [g ⟨x0, x1⟩]; exact ⟨x0, x1⟩, fun x x0 x1 => ⟨⟨?_, ?_⟩, fun y y0 y1 => ⟨?_, ?_⟩⟩⟩
  · rw [g ⟨x0, x1⟩]; exact hA.r ⟨x0, x1⟩
  · rw [g ⟨x0, x1⟩, g ⟨x0, x1⟩]
  · rw [g ⟨x0, x1⟩, g ⟨y0, y1⟩]; exact id
  · rw [g ⟨x0, x1⟩, g ⟨y0, y1⟩, g (hA.te ⟨x0, x1⟩ ⟨y0, y1⟩)]; exact hA.r (hA.te ⟨x0, x1⟩ ⟨y0, y1⟩)

theorem nucleiFrom_c : ∀ (k : Nat) {H : Hp} {uv tv v : AV} {A : Alg} {hd : List Int} {Q : AV → Hp → Prop}, Ints H uv A.up → Mat H tv A.times → IsAlg A → Ints H v hd → hd.length + k = A.up.length → (∀ i : Int, 0 ≤ i → i < hd.length → El A (gj hd i)) →
    (∀ r t H', (∀ p ∈ t, p.2.length = A.up.length) → t.length ≤ 6 ^ k → ((∀ i : Int, 0 ≤ i → i < hd.length → gj hd i = i) → 1 ≤ t.length) → Own no H H' ((r, TR t) :: tl t) → Q (.sl r 0 t.length) H') →
    ACalls Try.prog w0 145 [.agg [uv, tv], v] H Q := by
  intro k
  induction k with
  | zero =>
    intro H uv tv v A hd Q h hm hA hv hk hel hq
    have hn6 := hA.hi
    refine in145 ?_
    simp only [c145, ↓WP, WQ, if_true, if_false, eq_self, implies_true, ne_eq, List.nil_append, List.cons_append, ↓reduceIte, Nat.reduceEqDiff, Nat.reduceBEq, reduceCtorEq, Nat.reduceAdd, resA, ret1, qv, lv, ev, boolA, binA, intA, shiftA, cmpA, beqA, lres, cells_alg h.len hm.len]
    refine NewRowd_in fun b hb => ?_
    have o := Own.nil0.push (x := ⟨36, true, [uv, tv]⟩) hb
    generalize H.set b ⟨36, true, [uv, tv]⟩ = G at *
    have gb := o.get (i := 0) rfl
    have hl : (hd.length : Int) = A.up.length := by omega
    have hv' := hv.ext o.ext'
    simp only [↓WP, WQ, if_true, if_false, eq_self, implies_true, ne_eq, List.nil_append, List.cons_append, ↓reduceIte, Nat.reduceEqDiff, Nat.reduceBEq, reduceCtorEq, Nat.reduceAdd, resA, ret1, qv, lv, ev, boolA, binA, intA, shiftA, cmpA, beqA, lres, at_fst gb, h.len, hv.len, decide_eq_true hl, atN_two gb]
    refine sisNucleus_c (h.ext o.ext') (hm.ext o.ext') hA hv' (by omega) (fun hc => ?_) (fun hc => ?_)
    · simp only [↓WP, WQ, if_true, if_false, eq_self, implies_true, ne_eq, List.nil_append, List.cons_append, ↓reduceIte, Nat.reduceEqDiff, Nat.reduceBEq, reduceCtorEq, Nat.reduceAdd, resA, ret1, qv, lv, ev, boolA, binA, intA, shiftA, cmpA, beqA, lres, bsl0]
      refine NewRowd_in fun u0 hu0 => ?_
      have o := o.push (x := LI []) hu0
      have e0 : (⟨3, true, []⟩ : Row) = LI [] := rfl
      simp only [e0]
      generalize G.set u0 (LI []) = G0 at *
      simp only [↓WP, WQ, if_true, if_false, eq_self, implies_true, ne_eq, List.nil_append, List.cons_append, ↓reduceIte, Nat.reduceEqDiff, Nat.reduceBEq, reduceCtorEq, Nat.reduceAdd, resA, ret1, qv, lv, ev, boolA, binA, intA, shiftA, cmpA, beqA, lres]
      refine o.app_copy (i := 0) rfl (hv.ext o.ext') (by omega) fun u G1 o => ?_
      simp only [List.set_cons_zero] at o
      simp only [↓WP, WQ, if_true, if_false, eq_self, implies_true, ne_eq, List.nil_append, List.cons_append, ↓reduceIte, Nat.reduceEqDiff, Nat.reduceBEq, reduceCtorEq, Nat.reduceAdd, resA, ret1, qv, lv, ev, boolA, binA, intA, shiftA, cmpA, beqA, lres, bslv (z := .nils) (x := .sl u 0 hd.length) rfl]
      refine NewRowd_in fun r hr => ?_
      have o := o.push (x := TR [(u, hd)]) hr
      simp only [↓WP, WQ, if_true, if_false, eq_self, implies_true, ne_eq, List.nil_append, List.cons_append, ↓reduceIte, Nat.reduceEqDiff, Nat.reduceBEq, reduceCtorEq, Nat.reduceAdd, resA, ret1, qv, lv, ev, boolA, binA, intA, shiftA, cmpA, beqA, lres]
      refine hq r [(u, hd)] _ (fun p hp => ?_) (by simp) (fun _ => by simp) ?_
      · simp only [List.mem_singleton] at hp; subst hp; simp only; omega
      · exact o.sub (.cons_cons _ (.cons_cons _ (List.nil_sublist _)))
    · simp only [↓WP, WQ, if_true, if_false, eq_self, implies_true, ne_eq, List.nil_append, List.cons_append, ↓reduceIte, Nat.reduceEqDiff, Nat.reduceBEq, reduceCtorEq, Nat.reduceAdd, resA, ret1, qv, lv, ev, boolA, binA, intA, shiftA, cmpA, beqA, lres, bsl0]
      refine NewRowd_in fun r hr => ?_
      have o := o.push (x := TR []) hr
      simp only [↓WP, WQ, if_true, if_false, eq_self, implies_true, ne_eq, List.nil_append, List.cons_append, ↓reduceIte, Nat.reduceEqDiff, Nat.reduceBEq, reduceCtorEq, Nat.reduceAdd, resA, ret1, qv, lv, ev, boolA, binA, intA, shiftA, cmpA, beqA, lres]
      refine hq r [] _ (fun p hp => by cases hp) (by simp) (fun hi => absurd (id_nuc hA (by omega) hi) hc) ?_
      exact o.sub (.cons_cons _ (List.nil_sublist _))
  | succ k ih =>
    intro H uv tv v A hd Q h hm hA hv hk hel hq
    have hn6 := hA.hi
    have h6 : 6 ^ k ≤ 6 ^ 6 := Nat.pow_le_pow_right (by omega) (by omega)
    have e66 : 6 ^ 6 = 46656 := by decide
    refine in145 ?_
    simp only [c145, ↓WP, WQ, if_true, if_false, eq_self, implies_true, ne_eq, List.nil_append, List.cons_append, ↓reduceIte, Nat.reduceEqDiff, Nat.reduceBEq, reduceCtorEq, Nat.reduceAdd, resA, ret1, qv, lv, ev, boolA, binA, intA, shiftA, cmpA, beqA, lres, cells_alg h.len hm.len]
    refine NewRowd_in fun b hb => ?_
    have o := Own.nil0.push (x := ⟨36, true, [uv, tv]⟩) hb
    generalize H.set b ⟨36, true, [uv, tv]⟩ = G at *
    have gb := o.get (i := 0) rfl
    have hl : ¬ (hd.length : Int) = A.up.length := by omega
    have hxl : El A hd.length := ⟨by omega, by omega⟩
    simp only [↓WP, WQ, if_true, if_false, eq_self, implies_true, ne_eq, List.nil_append, List.cons_append, ↓reduceIte, Nat.reduceEqDiff, Nat.reduceBEq, reduceCtorEq, Nat.reduceAdd, resA, ret1, qv, lv, ev, boolA, binA, intA, shiftA, cmpA, beqA, lres, at_fst gb, h.len, hv.len, decide_eq_false hl, bsl0]
    refine NewRowd_in fun r0 hr0 => ?_
    have o := o.push (x := TR []) hr0
    simp only [↓WP, WQ, if_true, if_false, eq_self, implies_true, ne_eq, List.nil_append, List.cons_append, ↓reduceIte, Nat.reduceEqDiff, Nat.reduceBEq, reduceCtorEq, Nat.reduceAdd, resA, ret1, qv, lv, ev, boolA, binA, intA, shiftA, cmpA, beqA, lres]
    refine W_for 0 A.up.length (fun y e G => ∃ r t, Sl e [(1, v), (2, .ptr b 0), (5, .int .i64 hd.length), (6, .sl r 0 t.length), (7, .int .i64 y)] ∧ (∀ p ∈ t, p.2.length = A.up.length) ∧ t.length ≤ y.toNat * 6 ^ k ∧
      ((∀ i : Int, 0 ≤ i → i < hd.length → gj hd i = i) → hd.length < y → 1 ≤ t.length) ∧ Own no H G ((r, TR t) :: (b, ⟨36, true, [uv, tv]⟩) :: tl t)) (by omega) ⟨r0, [], by simp only [↓WP, WQ, if_true, if_false, eq_self, implies_true, ne_eq, List.nil_append, List.cons_append, ↓reduceIte, Nat.reduceEqDiff, Nat.reduceBEq, reduceCtorEq, Nat.reduceAdd, resA, ret1, qv, lv, ev, boolA, binA, intA, shiftA, cmpA, beqA, lres]; rfl, (fun p hp => by cases hp), by simp, (fun _ hc => by omega), o⟩ ?_
    rintro y e G hy0 hy1 ⟨r, t, hs, hrow, htl, hid, o⟩
    simp only [Sl_cons, Sl_nil, and_true] at hs
    have gb := o.get (i := 1) rfl
    have hw : IntKind.i64.wrap (y + 1) = y + 1 := wrap_id (by omega) (by omega)
    have hG := h.ext o.ext'
    have hmG := hm.ext o.ext'
    have hvG := hv.ext o.ext'
    refine (Classical.em (y < A.up.length)).elim (fun hy => ?_) (fun hy => ?_) <;> simp only [↓WP, WQ, if_true, if_false, eq_self, implies_true, ne_eq, List.nil_append, List.cons_append, ↓reduceIte, Nat.reduceEqDiff, Nat.reduceBEq, reduceCtorEq, Nat.reduceAdd, resA, ret1, qv, lv, ev, boolA, binA, intA, shiftA, cmpA, beqA, lres, hs, at_fst gb, h.len, hy]
    rotate_left
    · have hye : y = A.up.length := by omega
      subst hye
      refine hq r t G hrow ?_ (fun hi => hid hi (by omega)) ?_
      · refine Nat.le_trans htl ?_
        rw [Nat.pow_succ, Nat.mul_comm]
        exact Nat.mul_le_mul_left _ (by omega)
      · exact o.sub (.cons_cons _ (List.sublist_cons_self _ _))
    have ey : El A y := ⟨hy0, hy⟩
    have next0 : (¬ ((∀ i : Int, 0 ≤ i → i < hd.length → gj hd i = i) ∧ y = hd.length)) → t.length ≤ (y + 1).toNat * 6 ^ k ∧ ((∀ i : Int, 0 ≤ i → i < hd.length → gj hd i = i) → hd.length < y + 1 → 1 ≤ t.length) := fun hc =>
      ⟨Nat.le_trans htl (Nat.mul_le_mul_right _ (by omega)), fun hi hlt => hid hi (by
        have : ¬ y = hd.length := fun e => hc ⟨hi, e⟩
        omega)⟩
    have body : ∀ (ok : Bool), (((∀ i : Int, 0 ≤ i → i < hd.length → gj hd i = i) ∧ y = hd.length) → ok = true) → ok = ok := fun _ _ => rfl
    have start : ∀ {Q : AV → Hp → Prop}, (∀ ok : Bool, (((∀ i : Int, 0 ≤ i → i < hd.length → gj hd i = i) ∧ y = hd.length) → ok = true) → Q (.bool ok) G) → ACalls Try.prog w0 93 [uv, .int .i64 hd.length, .int .i64 y] G Q := fun hQ => by
      refine sbelow_c hG hA.rows62 hxl.1 hxl.2 ey.1 (by omega) (fun c => hQ true fun _ => rfl) (fun c => hQ false fun hc => ?_)
      rw [hc.2] at c
      exact absurd (hA.r hxl) c
    refine start fun ok hok => ?_
    simp only [↓WP, WQ, if_true, if_false, eq_self, implies_true, ne_eq, List.nil_append, List.cons_append, ↓reduceIte, Nat.reduceEqDiff, Nat.reduceBEq, reduceCtorEq, Nat.reduceAdd, resA, ret1, qv, lv, ev, boolA, binA, intA, shiftA, cmpA, beqA, lres, hs]
    refine W_for 0 hd.length (fun z e G' => G' = G ∧ ∃ ok : Bool, Sl e [(1, v), (2, .ptr b 0), (5, .int .i64 hd.length), (6, .sl r 0 t.length), (7, .int .i64 y), (8, .bool ok), (9, .int .i64 z)] ∧ (((∀ i : Int, 0 ≤ i → i < hd.length → gj hd i = i) ∧ y = hd.length) → ok = true)) (by omega) ⟨rfl, ok, by simp only [↓WP, WQ, if_true, if_false, eq_self, implies_true, ne_eq, List.nil_append, List.cons_append, ↓reduceIte, Nat.reduceEqDiff, Nat.reduceBEq, reduceCtorEq, Nat.reduceAdd, resA, ret1, qv, lv, ev, boolA, binA, intA, shiftA, cmpA, beqA, lres, hs], hok⟩ ?_
    rintro z e G' hz0 hz1 ⟨rfl, ok, hs, hok⟩
    simp only [Sl_cons, Sl_nil, and_true] at hs
    have hwz : IntKind.i64.wrap (z + 1) = z + 1 := wrap_id (by omega) (by omega)
    cases ok
    · have hne : ¬ ((∀ i : Int, 0 ≤ i → i < hd.length → gj hd i = i) ∧ y = hd.length) := fun hc => by have := hok hc; cases this
      refine (Classical.em (z < hd.length)).elim (fun hz => ?_) (fun hz => ?_) <;> simp only [↓WP, WQ, if_true, if_false, eq_self, implies_true, ne_eq, List.nil_append, List.cons_append, ↓reduceIte, Nat.reduceEqDiff, Nat.reduceBEq, reduceCtorEq, Nat.reduceAdd, resA, ret1, qv, lv, ev, boolA, binA, intA, shiftA, cmpA, beqA, lres, hs, hz, hw, hy]
      · exact ⟨r, t, rfl, hrow, (next0 hne).1, (next0 hne).2, o⟩
      · exact ⟨r, t, rfl, hrow, (next0 hne).1, (next0 hne).2, o⟩
    refine (Classical.em (z < hd.length)).elim (fun hz => ?_) (fun hz => ?_) <;> simp only [↓WP, WQ, if_true, if_false, eq_self, implies_true, ne_eq, List.nil_append, List.cons_append, ↓reduceIte, Nat.reduceEqDiff, Nat.reduceBEq, reduceCtorEq, Nat.reduceAdd, resA, ret1, qv, lv, ev, boolA, binA, intA, shiftA, cmpA, beqA, lres, hs, hz]
    · have ez : El A z := ⟨hz0, by omega⟩
      have ehz := hel z hz0 hz
      have hat : G'.at (elt 1 v z.toNat) = some (.int .i64 (gj hd z)) := hvG.at (by omega)
      refine DR_in (fun _ => True) rfl ?_
      simp only [↓WP, WQ, if_true, if_false, eq_self, implies_true, ne_eq, List.nil_append, List.cons_append, ↓reduceIte, Nat.reduceEqDiff, Nat.reduceBEq, reduceCtorEq, Nat.reduceAdd, resA, ret1, qv, lv, ev, boolA, binA, intA, shiftA, cmpA, beqA, lres, hs, at_fst gb]
      refine sbelow_c hG hA.rows62 ez.1 ez.2 hxl.1 (by omega) (fun c1 => ?_) (fun c1 => ?_)
      · simp only [↓WP, WQ, if_true, if_false, eq_self, implies_true, ne_eq, List.nil_append, List.cons_append, ↓reduceIte, Nat.reduceEqDiff, Nat.reduceBEq, reduceCtorEq, Nat.reduceAdd, resA, ret1, qv, lv, ev, boolA, binA, intA, shiftA, cmpA, beqA, lres, hs, at_fst gb, hvG.idx hz0 hz, hat]
        refine sbelow_c hG hA.rows62 ehz.1 ehz.2 ey.1 (by omega) (fun c2 => ?_) (fun c2 => ?_) <;> simp only [↓WP, WQ, if_true, if_false, eq_self, implies_true, ne_eq, List.nil_append, List.cons_append, ↓reduceIte, Nat.reduceEqDiff, Nat.reduceBEq, reduceCtorEq, Nat.reduceAdd, resA, ret1, qv, lv, ev, boolA, binA, intA, shiftA, cmpA, beqA, lres, hs, hwz, hz]
        · exact ⟨true, by simp, fun _ => rfl⟩
        · refine ⟨false, by simp, fun hc => ?_⟩
          rw [hc.1 z hz0 hz, hc.2] at c2
          exact absurd c1 c2
      · simp only [↓WP, WQ, if_true, if_false, eq_self, implies_true, ne_eq, List.nil_append, List.cons_append, ↓reduceIte, Nat.reduceEqDiff, Nat.reduceBEq, reduceCtorEq, Nat.reduceAdd, resA, ret1, qv, lv, ev, boolA, binA, intA, shiftA, cmpA, beqA, lres, hs, hwz, hz]
        exact ⟨true, by simp, fun _ => rfl⟩
    have hlen6 : hd.length ≤ 6 := by omega
    have ht3 : t.length ≤ 6 * 6 ^ 6 := Nat.le_trans htl (Nat.mul_le_mul (by omega) h6)
    have hzz : (y + 1).toNat = y.toNat + 1 := by omega
    refine DR_to (fun q => q = b) (fun e' G2 => ∃ r' t', Sl e' [(1, v), (2, .ptr b 0), (5, .int .i64 hd.length), (6, .sl r' 0 t'.length), (7, .int .i64 y)] ∧ (∀ p ∈ t', p.2.length = A.up.length) ∧ t'.length ≤ (y + 1).toNat * 6 ^ k ∧
      ((∀ i : Int, 0 ≤ i → i < hd.length → gj hd i = i) → hd.length < y + 1 → 1 ≤ t'.length) ∧ Own no H G2 ((r', TR t') :: (b, ⟨36, true, [uv, tv]⟩) :: tl t')) ?_ ?_
    rotate_left
    · rintro e' G2 ⟨r', t', hs', h1, h2, h3, h4⟩
      simp only [Sl_cons, Sl_nil, and_true] at hs'
      simp only [↓WP, WQ, if_true, if_false, eq_self, implies_true, ne_eq, List.nil_append, List.cons_append, ↓reduceIte, Nat.reduceEqDiff, Nat.reduceBEq, reduceCtorEq, Nat.reduceAdd, resA, ret1, qv, lv, ev, boolA, binA, intA, shiftA, cmpA, beqA, lres, hs', hw, hy]
      exact ⟨r', t', rfl, h1, h2, h3, h4⟩
    have eLI : (⟨3, true, (LI hd).cells ++ [.int .i64 y]⟩ : Row) = LI (hd ++ [y]) := by simp [LI]
    have hnx : ∀ i : Int, 0 ≤ i → i < (hd ++ [y]).length → El A (gj (hd ++ [y]) i) := fun i i0 i1 => by
      by_cases hi : i < hd.length
      · rw [gj_pre i0 hi]; exact hel i i0 hi
      · have : i = hd.length := by simp only [List.length_append, List.length_cons, List.length_nil] at i1; omega
        rw [this, gj_last]; exact ey
    have hnid : ((∀ i : Int, 0 ≤ i → i < hd.length → gj hd i = i) ∧ y = hd.length) → ∀ i : Int, 0 ≤ i → i < (hd ++ [y]).length → gj (hd ++ [y]) i = i := fun hc i i0 i1 => by
      by_cases hi : i < hd.length
      · rw [gj_pre i0 hi]; exact hc.1 i i0 hi
      · have : i = hd.length := by simp only [List.length_append, List.length_cons, List.length_nil] at i1; omega
        rw [this, gj_last, hc.2]
    simp only [↓WP, WQ, if_true, if_false, eq_self, implies_true, ne_eq, List.nil_append, List.cons_append, ↓reduceIte, Nat.reduceEqDiff, Nat.reduceBEq, reduceCtorEq, Nat.reduceAdd, resA, ret1, qv, lv, ev, boolA, binA, intA, shiftA, cmpA, beqA, lres, ↓WD_q, ↓WD_ql, ↓WD_l, List.length_cons, List.length_nil, hs, loadS, ev, atN_two gb, bsl0]
    refine NewRowd_in fun u0 hu0 => ?_
    have o := o.push (x := LI []) hu0
    have e0 : (⟨3, true, []⟩ : Row) = LI [] := rfl
    rw [e0]
    generalize G'.set u0 (LI []) = G0 at *
    simp only [↓WP, WQ, if_true, if_false, eq_self, implies_true, ne_eq, List.nil_append, List.cons_append, ↓reduceIte, Nat.reduceEqDiff, Nat.reduceBEq, reduceCtorEq, Nat.reduceAdd, resA, ret1, qv, lv, ev, boolA, binA, intA, shiftA, cmpA, beqA, lres, hs]
    refine WD_alt ?_ ?_
    · rw [TD_app]
      simp only [↓WP, WQ, if_true, if_false, eq_self, implies_true, ne_eq, List.nil_append, List.cons_append, ↓reduceIte, Nat.reduceEqDiff, Nat.reduceBEq, reduceCtorEq, Nat.reduceAdd, resA, ret1, qv, lv, ev, boolA, binA, intA, shiftA, cmpA, beqA, lres, hs]
      have gb0 := o.get (i := 2) rfl
      refine o.app_copy (i := 0) rfl (hv.ext o.ext') (by omega) fun u G1 o => ⟨keepb gb0 (o.get (i := 2) rfl), ?_⟩
      simp only [List.set_cons_zero] at o
      simp only [↓WP, WQ, if_true, if_false, eq_self, implies_true, ne_eq, List.nil_append, List.cons_append, ↓reduceIte, Nat.reduceEqDiff, Nat.reduceBEq, reduceCtorEq, Nat.reduceAdd, resA, ret1, qv, lv, ev, boolA, binA, intA, shiftA, cmpA, beqA, lres, ↓WD_q, ↓WD_ql, ↓WD_l, hs, bsl1]
      refine NewRowd_in fun w hw' => ?_
      have o := o.push (x := ⟨3, true, [.int .i64 y]⟩) hw'
      generalize G1.set w ⟨3, true, [.int .i64 y]⟩ = G2 at *
      have o : Own no H G2 ([] ++ (u, LI hd) :: ((w, ⟨3, true, [.int .i64 y]⟩) :: (r, TR t) :: (b, ⟨36, true, [uv, tv]⟩) :: tl t)) := o.perm (.swap _ _ _)
      have gb1 := o.has (b, ⟨36, true, [uv, tv]⟩) (by simp)
      simp only [↓WP, WQ, if_true, if_false, eq_self, implies_true, ne_eq, List.nil_append, List.cons_append, ↓reduceIte, Nat.reduceEqDiff, Nat.reduceBEq, reduceCtorEq, Nat.reduceAdd, resA, ret1, qv, lv, ev, boolA, binA, intA, shiftA, cmpA, beqA, lres, ↓WD_q, ↓WD_ql, ↓WD_l, ↓WD_app, hs]
      refine o.app_all (row_own (o.has (w, ⟨3, true, [.int .i64 y]⟩) (by simp)) rfl) (lenA_sl _ _ _) (by simp [LI]) (by omega) (by simp only [maxLen]; omega) fun u' G3 o => ⟨keepb gb1 (o.has (b, ⟨36, true, [uv, tv]⟩) (by simp)), ?_⟩
      have o : Own no H G3 ((u', LI (hd ++ [y])) :: (w, ⟨3, true, [.int .i64 y]⟩) :: (r, TR t) :: (b, ⟨36, true, [uv, tv]⟩) :: tl t) := by rw [← eLI]; exact o
      have gb2 := o.has (b, ⟨36, true, [uv, tv]⟩) (by simp)
      have hvn := li_ints (o.has (u', LI (hd ++ [y])) (by simp))
      rw [List.length_append, List.length_cons, List.length_nil] at hvn
      simp only [↓WP, WQ, if_true, if_false, eq_self, implies_true, ne_eq, List.nil_append, List.cons_append, ↓reduceIte, Nat.reduceEqDiff, Nat.reduceBEq, reduceCtorEq, Nat.reduceAdd, resA, ret1, qv, lv, ev, boolA, binA, intA, shiftA, cmpA, beqA, lres, ↓WD_q, ↓WD_ql, ↓WD_l, ↓WD_app, ↓WD_callf, hs]
      refine ih (h.ext o.ext') (hm.ext o.ext') hA hvn (by simp; omega) hnx fun r2 t2 G4 hrow2 htl2 hid2 o2 => ?_
      have o := o.call o2 (fun _ e => e)
      refine ⟨keepb gb2 (o.has (b, ⟨36, true, [uv, tv]⟩) (by simp)), ?_⟩
      have gb3 := o.has (b, ⟨36, true, [uv, tv]⟩) (by simp)
      have o : Own no H G4 (((r2, TR t2) :: (tl t2 ++ [(u', LI (hd ++ [y])), (w, ⟨3, true, [.int .i64 y]⟩)])) ++ (r, TR t) :: (b, ⟨36, true, [uv, tv]⟩) :: tl t) := by
        simpa only [List.cons_append, List.append_assoc, List.nil_append] using o
      simp only [↓WP, WQ, if_true, if_false, eq_self, implies_true, ne_eq, List.nil_append, List.cons_append, ↓reduceIte, Nat.reduceEqDiff, Nat.reduceBEq, reduceCtorEq, Nat.reduceAdd, resA, ret1, qv, lv, ev, boolA, binA, intA, shiftA, cmpA, beqA, lres, ↓WD_q, ↓WD_ql, ↓WD_l, ↓WD_app, hs]
      refine o.app_all (row_own (o.has (r2, TR t2) (by simp)) (by simp [TR])) (lenA_sl _ _ _) (by simp) (by omega) (by simp only [maxLen]; omega) fun r' G5 o => ⟨keepb gb3 (o.has (b, ⟨36, true, [uv, tv]⟩) (by simp)), ?_⟩
      simp only [↓WP, WQ, if_true, if_false, eq_self, implies_true, ne_eq, List.nil_append, List.cons_append, ↓reduceIte, Nat.reduceEqDiff, Nat.reduceBEq, reduceCtorEq, Nat.reduceAdd, resA, ret1, qv, lv, ev, boolA, binA, intA, shiftA, cmpA, beqA, lres, ↓WD_q, WD_nil, hs]
      refine ⟨r', t ++ t2, by simp, fun p hp => ?_, ?_, fun hi hlt => ?_, ?_⟩
      · rcases List.mem_append.1 hp with hp | hp
        · exact hrow p hp
        · exact hrow2 p hp
      · rw [List.length_append, hzz, Nat.succ_mul]; omega
      · rw [List.length_append]
        by_cases hy' : y = hd.length
        · have := hid2 (hnid ⟨hi, hy'⟩); omega
        · have := hid hi (by omega); omega
      · have o := o.perm List.perm_middle
        have e : (⟨30, true, (TR t).cells ++ (TR t2).cells⟩ : Row) = TR (t ++ t2) := by simp [TR]
        have o := o.sub (M := (r', TR (t ++ t2)) :: (tl t2 ++ ((b, ⟨36, true, [uv, tv]⟩) :: tl t))) (by
          rw [← e]
          refine .cons_cons _ (List.Sublist.append ?_ (.refl _))
          exact .cons _ (List.sublist_append_left _ _))
        refine o.perm (.cons _ (List.perm_middle.trans (.cons _ ?_)))
        rw [show tl (t ++ t2) = tl t ++ tl t2 by simp [tl]]
        exact List.perm_append_comm
    · refine alts_yes rfl ?_ (alts_no rfl (alts_no rfl (alts_no rfl (alts_no rfl alts_end))))
      rw [TD_l]
      simp only [↓WP, WQ, if_true, if_false, eq_self, implies_true, ne_eq, List.nil_append, List.cons_append, ↓reduceIte, Nat.reduceEqDiff, Nat.reduceBEq, reduceCtorEq, Nat.reduceAdd, resA, ret1, qv, lv, ev, boolA, binA, intA, shiftA, cmpA, beqA, lres, hs, bsl1]
      refine NewRowd_in fun w hw' => ?_
      have o := o.push (x := ⟨3, true, [.int .i64 y]⟩) hw'
      generalize G0.set w ⟨3, true, [.int .i64 y]⟩ = G1 at *
      have gb0 := o.get (i := 3) rfl
      refine WD_alt ?_ (alts_no rfl (alts_no rfl (alts_no rfl (alts_no rfl alts_end))))
      rw [TD_app]
      simp only [↓WP, WQ, if_true, if_false, eq_self, implies_true, ne_eq, List.nil_append, List.cons_append, ↓reduceIte, Nat.reduceEqDiff, Nat.reduceBEq, reduceCtorEq, Nat.reduceAdd, resA, ret1, qv, lv, ev, boolA, binA, intA, shiftA, cmpA, beqA, lres, hs]
      refine o.app_copy (i := 1) rfl (hv.ext o.ext') (by omega) fun u G2 o => ⟨keepb gb0 (o.get (i := 3) rfl), ?_⟩
      have o : Own no H G2 ([] ++ (u, LI hd) :: ((w, ⟨3, true, [.int .i64 y]⟩) :: (r, TR t) :: (b, ⟨36, true, [uv, tv]⟩) :: tl t)) := o.perm (.swap _ _ _)
      have gb1 := o.has (b, ⟨36, true, [uv, tv]⟩) (by simp)
      simp only [↓WP, WQ, if_true, if_false, eq_self, implies_true, ne_eq, List.nil_append, List.cons_append, ↓reduceIte, Nat.reduceEqDiff, Nat.reduceBEq, reduceCtorEq, Nat.reduceAdd, resA, ret1, qv, lv, ev, boolA, binA, intA, shiftA, cmpA, beqA, lres, ↓WD_q, ↓WD_ql, ↓WD_l, ↓WD_app, hs]
      refine o.app_all (row_own (o.has (w, ⟨3, true, [.int .i64 y]⟩) (by simp)) rfl) (lenA_sl _ _ _) (by simp [LI]) (by omega) (by simp only [maxLen]; omega) fun u' G3 o => ⟨keepb gb1 (o.has (b, ⟨36, true, [uv, tv]⟩) (by simp)), ?_⟩
      have o : Own no H G3 ((u', LI (hd ++ [y])) :: (w, ⟨3, true, [.int .i64 y]⟩) :: (r, TR t) :: (b, ⟨36, true, [uv, tv]⟩) :: tl t) := by rw [← eLI]; exact o
      have gb2 := o.has (b, ⟨36, true, [uv, tv]⟩) (by simp)
      have hvn := li_ints (o.has (u', LI (hd ++ [y])) (by simp))
      rw [List.length_append, List.length_cons, List.length_nil] at hvn
      simp only [↓WP, WQ, if_true, if_false, eq_self, implies_true, ne_eq, List.nil_append, List.cons_append, ↓reduceIte, Nat.reduceEqDiff, Nat.reduceBEq, reduceCtorEq, Nat.reduceAdd, resA, ret1, qv, lv, ev, boolA, binA, intA, shiftA, cmpA, beqA, lres, ↓WD_q, ↓WD_ql, ↓WD_l, ↓WD_app, ↓WD_callf, hs]
      refine ih (h.ext o.ext') (hm.ext o.ext') hA hvn (by simp; omega) hnx fun r2 t2 G4 hrow2 htl2 hid2 o2 => ?_
      have o := o.call o2 (fun _ e => e)
      refine ⟨keepb gb2 (o.has (b, ⟨36, true, [uv, tv]⟩) (by simp)), ?_⟩
      have gb3 := o.has (b, ⟨36, true, [uv, tv]⟩) (by simp)
      have o : Own no H G4 (((r2, TR t2) :: (tl t2 ++ [(u', LI (hd ++ [y])), (w, ⟨3, true, [.int .i64 y]⟩)])) ++ (r, TR t) :: (b, ⟨36, true, [uv, tv]⟩) :: tl t) := by
        simpa only [List.cons_append, List.append_assoc, List.nil_append] using o
      simp only [↓WP, WQ, if_true, if_false, eq_self, implies_true, ne_eq, List.nil_append, List.cons_append, ↓reduceIte, Nat.reduceEqDiff, Nat.reduceBEq, reduceCtorEq, Nat.reduceAdd, resA, ret1, qv, lv, ev, boolA, binA, intA, shiftA, cmpA, beqA, lres, ↓WD_q, ↓WD_ql, ↓WD_l, ↓WD_app, hs]
      refine o.app_all (row_own (o.has (r2, TR t2) (by simp)) (by simp [TR])) (lenA_sl _ _ _) (by simp) (by omega) (by simp only [maxLen]; omega) fun r' G5 o => ⟨keepb gb3 (o.has (b, ⟨36, true, [uv, tv]⟩) (by simp)), ?_⟩
      simp only [↓WP, WQ, if_true, if_false, eq_self, implies_true, ne_eq, List.nil_append, List.cons_append, ↓reduceIte, Nat.reduceEqDiff, Nat.reduceBEq, reduceCtorEq, Nat.reduceAdd, resA, ret1, qv, lv, ev, boolA, binA, intA, shiftA, cmpA, beqA, lres, ↓WD_q, WD_nil, hs]
      refine ⟨r', t ++ t2, by simp, fun p hp => ?_, ?_, fun hi hlt => ?_, ?_⟩
      · rcases List.mem_append.1 hp with hp | hp
        · exact hrow p hp
        · exact hrow2 p hp
      · rw [List.length_append, hzz, Nat.succ_mul]; omega
      · rw [List.length_append]
        by_cases hy' : y = hd.length
        · have := hid2 (hnid ⟨hi, hy'⟩); omega
        · have := hid hi (by omega); omega
      · have o := o.perm List.perm_middle
        have e : (⟨30, true, (TR t).cells ++ (TR t2).cells⟩ : Row) = TR (t ++ t2) := by simp [TR]
        have o := o.sub (M := (r', TR (t ++ t2)) :: (tl t2 ++ ((b, ⟨36, true, [uv, tv]⟩) :: tl t))) (by
          rw [← e]
          refine .cons_cons _ (List.Sublist.append ?_ (.refl _))
          exact .cons _ (List.sublist_append_left _ _))
        refine o.perm (.cons _ (List.perm_middle.trans (.cons _ ?_)))
        rw [show tl (t ++ t2) = tl t ++ tl t2 by simp [tl]]
        exact List.perm_append_comm
end Go.AL

/-
  The nucleus that is drawn.
-/
namespace Go.AL
open Go.Proofs
set_option linter.unusedSimpArgs false
set_option linter.unusedVariables false
variable {w0 : World} {H : Hp}

theorem Own.app_copy2 {X : Nat → Prop} {H0 : Hp} {L : List (Nat × Row)} {i : Nat} {x : AV} {l : List Int} {r : Nat} {K : AV → Hp → Prop} {d : Dep K} (h : Own X H0 H L) (hi : L[i]? = some (r, LI [])) (hx : Ints H x l) (hl : l.length ≤ 1000000000)
    (hK : ∀ r' H', Own X H0 H' (L.set i (r', LI l)) → (∀ p, p ≠ r → H p ≠ none → H' p = H p) → K (.sl r' 0 l.length) H') :
    AppD 3 1 8 (.sl r 0 0) x H K d := by
  rw [← Nat.zero_add l.length] at hK
  have hr := h.get hi
  refine app_own (n := 0) (m := l.length) (cells := []) (cs := l.map (AV.int .i64)) hr rfl hx.2 hx.1 (by omega) (by simp only [maxLen]; omega) fun r' hr' => ?_
  have fr : ∀ q, q ≠ r → H q ≠ none → ((H.set r dead).set r' ⟨3, true, [] ++ l.map (AV.int .i64)⟩) q = H q := fun q hq h0 => by
    have h2 : q ≠ r' := by rintro rfl; exact h0 hr'
    simp [Hp.set, h2, hq]
  exact hK r' _ (h.chg hi (by simp [Hp.set, LI]) (Or.inr hr') fr) fr
theorem bsl4' (a b c d : Int) : fillA 1 (zerosA [.int .i64 0] 4) [(0, .int .i64 a), (1, .int .i64 b), (2, .int .i64 c), (3, .int .i64 d)] = some [.int .i64 a, .int .i64 b, .int .i64 c, .int .i64 d] := rfl

theorem nucleusOf_c {B : Hp} {r : Nat} {K : Int} {uv tv : AV} {A : Alg} (hR : Rd B H r K) (hK : K ≤ 800000000) {H0 : Hp} (hra : RA H0 H (.agg [uv, tv]) A) {Q : AV → Hp → Prop}
    (hq : ∀ q (j : List Int) H', Own (is r) H H' [(q, LI j)] → j.length ≤ 7 → Rd B H' r (K + 5) → Q (.sl q 0 j.length) H') :
    ACalls Try.prog w0 99 [.ptr r 0, .agg [uv, tv]] H Q := by
  have R0 := hR
  have hS := hra.small
  obtain ⟨h, hm⟩ := hra.cases
  refine in99 ?_
  simp only [c99, ↓WP, WQ, if_true, if_false, eq_self, implies_true, ne_eq, List.nil_append, List.cons_append, ↓reduceIte, Nat.reduceEqDiff, Nat.reduceBEq, reduceCtorEq, Nat.reduceAdd, resA, ret1, qv, lv, ev, boolA, binA, intA, shiftA, cmpA, beqA, lres, cells_alg h.len hm.len]
  refine NewRowd_in fun b hb => ?_
  have o := (Own.nil hR.ex).push (x := ⟨36, true, [uv, tv]⟩) hb
  have hE := Ext.set (x := ⟨36, true, [uv, tv]⟩) hb
  have hR := hR.Ext hE
  have h := h.ext hE
  have hm := hm.ext hE
  generalize H.set b ⟨36, true, [uv, tv]⟩ = G at *
  have gb := o.get (i := 0) rfl
  simp only [↓WP, WQ, if_true, if_false, eq_self, implies_true, ne_eq, List.nil_append, List.cons_append, ↓reduceIte, Nat.reduceEqDiff, Nat.reduceBEq, reduceCtorEq, Nat.reduceAdd, resA, ret1, qv, lv, ev, boolA, binA, intA, shiftA, cmpA, beqA, lres, atN_two gb]
  refine svalidAlgebra_c h hm hS (fun hA => ?_) (fun hA => ?_)
  rotate_left
  · simp only [↓WP, WQ, if_true, if_false, eq_self, implies_true, ne_eq, List.nil_append, List.cons_append, ↓reduceIte, Nat.reduceEqDiff, Nat.reduceBEq, reduceCtorEq, Nat.reduceAdd, resA, ret1, qv, lv, ev, boolA, binA, intA, shiftA, cmpA, beqA, lres, bsl2]
    refine NewRowd_in fun q hq0 => ?_
    simp only [↓WP, WQ, if_true, if_false, eq_self, implies_true, ne_eq, List.nil_append, List.cons_append, ↓reduceIte, Nat.reduceEqDiff, Nat.reduceBEq, reduceCtorEq, Nat.reduceAdd, resA, ret1, qv, lv, ev, boolA, binA, intA, shiftA, cmpA, beqA, lres]
    have o := o.push (x := LI [0, 1]) hq0
    exact hq q [0, 1] _ (o.sub (.cons_cons _ (List.nil_sublist _))) (by simp) ((hR.Ext (Ext.set hq0)).mono (by omega))
  have hn6 := hA.hi
  have hn1 := hA.lo
  have e0 : (⟨3, true, []⟩ : Row) = LI [] := rfl
  simp only [↓WP, WQ, if_true, if_false, eq_self, implies_true, ne_eq, List.nil_append, List.cons_append, ↓reduceIte, Nat.reduceEqDiff, Nat.reduceBEq, reduceCtorEq, Nat.reduceAdd, resA, ret1, qv, lv, ev, boolA, binA, intA, shiftA, cmpA, beqA, lres, atN_two gb, bsl0, e0]
  refine NewRowd_in fun u0 hu0 => ?_
  have o := o.push (x := LI []) hu0
  have hE := Ext.set (x := LI []) hu0
  have hR := hR.Ext hE
  have h := h.ext hE
  have hm := hm.ext hE
  generalize G.set u0 (LI []) = G1 at *
  simp only [↓WP, WQ, if_true, if_false, eq_self, implies_true, ne_eq, List.nil_append, List.cons_append, ↓reduceIte, Nat.reduceEqDiff, Nat.reduceBEq, reduceCtorEq, Nat.reduceAdd, resA, ret1, qv, lv, ev, boolA, binA, intA, shiftA, cmpA, beqA, lres]
  refine nucleiFrom_c A.up.length h hm hA (li_ints (o.get (i := 0) rfl)) (by simp) (fun i _ i1 => by simp at i1; omega) fun q t G2 hrow htl hid o2 => ?_
  have ht1 : 1 ≤ t.length := hid fun i _ i1 => by simp at i1; omega
  have ht6 : t.length ≤ 46656 := Nat.le_trans htl (Nat.le_trans (Nat.pow_le_pow_right (by omega) hn6) (by decide))
  have o := o.call o2 (fun _ e => e.elim)
  have hR := hR.Ext o2.ext'
  simp only [↓WP, WQ, if_true, if_false, eq_self, implies_true, ne_eq, List.nil_append, List.cons_append, ↓reduceIte, Nat.reduceEqDiff, Nat.reduceBEq, reduceCtorEq, Nat.reduceAdd, resA, ret1, qv, lv, ev, boolA, binA, intA, shiftA, cmpA, beqA, lres, bsl0, e0]
  refine NewRowd_in fun u1 hu1 => ?_
  have o := o.push (x := LI []) hu1
  have hR := hR.Ext (Ext.set (x := LI []) hu1)
  generalize G2.set u1 (LI []) = G3 at *
  simp only [↓WP, WQ, if_true, if_false, eq_self, implies_true, ne_eq, List.nil_append, List.cons_append, ↓reduceIte, Nat.reduceEqDiff, Nat.reduceBEq, reduceCtorEq, Nat.reduceAdd, resA, ret1, qv, lv, ev, boolA, binA, intA, shiftA, cmpA, beqA, lres]
  refine pick_d hR (by omega) fun i G4 i0 i1 _ hR hF => ?_
  have o := o.fxs hF (fun _ e => e)
  have hi : i < t.length := i1 (by omega)
  have hin : i.toNat < t.length := by omega
  have gq := o.has (q, TR t) (by simp)
  have gt := o.has ((t[i.toNat]).1, LI (t[i.toNat]).2) (by
    refine List.mem_cons_of_mem _ (List.mem_append_left _ (List.mem_cons_of_mem _ ?_))
    exact List.mem_map.2 ⟨t[i.toNat], List.getElem_mem hin, rfl⟩)
  have hl := hrow _ (List.getElem_mem hin)
  have hrowI := li_ints gt
  have hat := tr_cell gq hin
  have hix := sl_idx (r := q) (n := t.length) (k := .i64) i0 hi
  generalize t[i.toNat] = p at *
  have hun := o.new (u1, LI []) (by simp)
  simp only [↓WP, WQ, if_true, if_false, eq_self, implies_true, ne_eq, List.nil_append, List.cons_append, ↓reduceIte, Nat.reduceEqDiff, Nat.reduceBEq, reduceCtorEq, Nat.reduceAdd, resA, ret1, qv, lv, ev, boolA, binA, intA, shiftA, cmpA, beqA, lres, hix, hat]
  refine o.app_copy2 (i := 0) rfl hrowI (by omega) fun u G5 o fr => ?_
  simp only [List.set_cons_zero] at o
  have hR := hR.step R0 hun fr
  have hun := o.new (u, LI p.2) (by simp)
  simp only [↓WP, WQ, if_true, if_false, eq_self, implies_true, ne_eq, List.nil_append, List.cons_append, ↓reduceIte, Nat.reduceEqDiff, Nat.reduceBEq, reduceCtorEq, Nat.reduceAdd, resA, ret1, qv, lv, ev, boolA, binA, intA, shiftA, cmpA, beqA, lres]
  refine pick_d hR (by omega) fun v G6 v0 v1 _ hR hF => ?_
  have o := o.fxs hF (fun _ e => e)
  refine (Classical.em (v = 0)).elim (fun c0 => ?_) (fun c0 => ?_)
  · simp only [↓WP, WQ, if_true, if_false, eq_self, implies_true, ne_eq, List.nil_append, List.cons_append, ↓reduceIte, Nat.reduceEqDiff, Nat.reduceBEq, reduceCtorEq, Nat.reduceAdd, resA, ret1, qv, lv, ev, boolA, binA, intA, shiftA, cmpA, beqA, lres, decide_eq_true c0]
    refine pick_d hR (by omega) fun k G7 k0 k1 _ hR hF => ?_
    have o := o.fxs hF (fun _ e => e)
    have hk : k < p.2.length := k1 (by omega)
    simp only [↓WP, WQ, if_true, if_false, eq_self, implies_true, ne_eq, List.nil_append, List.cons_append, ↓reduceIte, Nat.reduceEqDiff, Nat.reduceBEq, reduceCtorEq, Nat.reduceAdd, resA, ret1, qv, lv, ev, boolA, binA, intA, shiftA, cmpA, beqA, lres, bsl4']
    refine NewRowd_in fun w hw => ?_
    have o := o.push (x := LI [0, 1, -1, 6]) hw
    have hwr := hR.ne hw
    have hR := hR.Ext (Ext.set (x := LI [0, 1, -1, 6]) hw)
    simp only [↓WP, WQ, if_true, if_false, eq_self, implies_true, ne_eq, List.nil_append, List.cons_append, ↓reduceIte, Nat.reduceEqDiff, Nat.reduceBEq, reduceCtorEq, Nat.reduceAdd, resA, ret1, qv, lv, ev, boolA, binA, intA, shiftA, cmpA, beqA, lres]
    refine one_d hR (by omega) (l := [0, 1, -1, 6]) ⟨w, rfl, Hp.set_same _ _ _, hwr⟩ (by simp) fun m G8 m0 m1 hR hF => ?_
    have o := o.fxs hF (fun _ e => e)
    have gu := o.get (i := 1) rfl
    have hkx := sl_idx (r := u) (n := p.2.length) (k := .i64) k0 hk
    simp only [↓WP, WQ, if_true, if_false, eq_self, implies_true, ne_eq, List.nil_append, List.cons_append, ↓reduceIte, Nat.reduceEqDiff, Nat.reduceBEq, reduceCtorEq, Nat.reduceAdd, resA, ret1, qv, lv, ev, boolA, binA, intA, shiftA, cmpA, beqA, lres, hkx, stA_li gu (show k.toNat < p.2.length by omega)]
    have hR := hR.step (H' := G8.set u (LI (p.2.set k.toNat (([0, 1, -1, 6] : List Int).getD m.toNat 0)))) R0 hun fun x hx _ => by simp [Hp.set, hx]
    have o := o.upd (i := 1) (y := LI (p.2.set k.toNat (([0, 1, -1, 6] : List Int).getD m.toNat 0))) rfl
    have hq := hq u (p.2.set k.toNat (([0, 1, -1, 6] : List Int).getD m.toNat 0)) _ (o.sub (.cons _ (.cons_cons _ (List.nil_sublist _)))) (by rw [List.length_set]; omega) (hR.mono (by omega))
    rw [List.length_set] at hq
    exact hq
  simp only [↓WP, WQ, if_true, if_false, eq_self, implies_true, ne_eq, List.nil_append, List.cons_append, ↓reduceIte, Nat.reduceEqDiff, Nat.reduceBEq, reduceCtorEq, Nat.reduceAdd, resA, ret1, qv, lv, ev, boolA, binA, intA, shiftA, cmpA, beqA, lres, decide_eq_false c0]
  refine (Classical.em (v = 1)).elim (fun c1 => ?_) (fun c1 => ?_)
  · simp only [↓WP, WQ, if_true, if_false, eq_self, implies_true, ne_eq, List.nil_append, List.cons_append, ↓reduceIte, Nat.reduceEqDiff, Nat.reduceBEq, reduceCtorEq, Nat.reduceAdd, resA, ret1, qv, lv, ev, boolA, binA, intA, shiftA, cmpA, beqA, lres, decide_eq_true c1, bsl1]
    refine NewRowd_in fun w hw => ?_
    simp only [↓WP, WQ, if_true, if_false, eq_self, implies_true, ne_eq, List.nil_append, List.cons_append, ↓reduceIte, Nat.reduceEqDiff, Nat.reduceBEq, reduceCtorEq, Nat.reduceAdd, resA, ret1, qv, lv, ev, boolA, binA, intA, shiftA, cmpA, beqA, lres]
    refine o.app_num2 (i := 0) rfl hw rfl (by omega) fun r' G7 o fr => ?_
    simp only [↓WP, WQ, if_true, if_false, eq_self, implies_true, ne_eq, List.nil_append, List.cons_append, ↓reduceIte, Nat.reduceEqDiff, Nat.reduceBEq, reduceCtorEq, Nat.reduceAdd, resA, ret1, qv, lv, ev, boolA, binA, intA, shiftA, cmpA, beqA, lres]
    have hq := hq r' (p.2 ++ [0]) _ (o.sub (.cons_cons _ (List.nil_sublist _))) (by simp; omega) ((hR.step R0 hun fr).mono (by omega))
    rw [List.length_append, List.length_cons, List.length_nil] at hq
    exact hq
  · simp only [↓WP, WQ, if_true, if_false, eq_self, implies_true, ne_eq, List.nil_append, List.cons_append, ↓reduceIte, Nat.reduceEqDiff, Nat.reduceBEq, reduceCtorEq, Nat.reduceAdd, resA, ret1, qv, lv, ev, boolA, binA, intA, shiftA, cmpA, beqA, lres, decide_eq_false c1]
    exact hq u p.2 _ (o.sub (.cons_cons _ (List.nil_sublist _))) (by omega) (hR.mono (by omega))

theorem DrawIsNucleus_c {bv : AV} {m : Nat} (hb : Byt H bv m) (hm : m ≤ 4611686018427387904) {Q : AV → Hp → Prop}
    (hq : ∀ v A jv (j : List Int) H', Ext H H' → RA H H' v A → Ints H' jv j → j.length ≤ 7 → jv.scal = true → Q (.tup [v, jv]) H') :
    ACalls Try.prog w0 43 [bv] H Q := by
  refine in43 ?_
  simp only [c43, ↓WP, WQ, if_true, if_false, eq_self, implies_true, ne_eq, List.nil_append, List.cons_append, ↓reduceIte, Nat.reduceEqDiff, Nat.reduceBEq, reduceCtorEq, Nat.reduceAdd, resA, ret1, qv, lv, ev, boolA, binA, intA, shiftA, cmpA, beqA, lres]
  refine NewRowd_in fun b2 hb2 => ?_
  have hE := Ext.set (x := ⟨36, true, [.nils, .nils]⟩) hb2
  have g2 : (H.set b2 ⟨36, true, [.nils, .nils]⟩) b2 = some ⟨36, true, [.nils, .nils]⟩ := Hp.set_same _ _ _
  have hb := byt_ext hb hE
  generalize H.set b2 ⟨36, true, [.nils, .nils]⟩ = B at *
  simp only [↓WP, WQ, if_true, if_false, eq_self, implies_true, ne_eq, List.nil_append, List.cons_append, ↓reduceIte, Nat.reduceEqDiff, Nat.reduceBEq, reduceCtorEq, Nat.reduceAdd, resA, ret1, qv, lv, ev, boolA, binA, intA, shiftA, cmpA, beqA, lres]
  refine newReader_c hb hm fun r H1 hR1 => ?_
  simp only [↓WP, WQ, if_true, if_false, eq_self, implies_true, ne_eq, List.nil_append, List.cons_append, ↓reduceIte, Nat.reduceEqDiff, Nat.reduceBEq, reduceCtorEq, Nat.reduceAdd, resA, ret1, qv, lv, ev, boolA, binA, intA, shiftA, cmpA, beqA, lres]
  refine someAlgebra_c hR1 (by omega) fun v A H2 hR hF hA => ?_
  simp only [↓WP, WQ, if_true, if_false, eq_self, implies_true, ne_eq, List.nil_append, List.cons_append, ↓reduceIte, Nat.reduceEqDiff, Nat.reduceBEq, reduceCtorEq, Nat.reduceAdd, resA, ret1, qv, lv, ev, boolA, binA, intA, shiftA, cmpA, beqA, lres]
  refine NewRowd_in fun b5 hb5 => ?_
  obtain ⟨uv, tv, rfl, st, D⟩ := DS.mk0 hb2 hE g2 hR1 hR hF hA hb5
  have D0 := D
  simp only [↓WP, WQ, if_true, if_false, eq_self, implies_true, ne_eq, List.nil_append, List.cons_append, ↓reduceIte, Nat.reduceEqDiff, Nat.reduceBEq, reduceCtorEq, Nat.reduceAdd, resA, ret1, qv, lv, ev, boolA, binA, intA, shiftA, cmpA, beqA, lres, st]
  refine DR_in (fun x => x = b5) rfl ?_
  obtain ⟨B', hR, hB'⟩ := D.rd
  simp only [↓WP, WQ, if_true, if_false, eq_self, implies_true, ne_eq, List.nil_append, List.cons_append, ↓reduceIte, Nat.reduceEqDiff, Nat.reduceBEq, reduceCtorEq, Nat.reduceAdd, resA, ret1, qv, lv, ev, boolA, binA, intA, shiftA, cmpA, beqA, lres, loadS, ev, atN_two D.g5, at_fst D.g5, D.up.len]
  refine nucleusOf_c hR (by omega) D.ra fun q j H5 o hj hR => ?_
  have g2' := D.g2
  obtain ⟨D, k1⟩ := D.step hB' hR o.fx
  refine ⟨k1, ?_⟩
  have hq2 : q ≠ b2 := by
    rintro rfl
    have := o.new (q, LI j) (by simp)
    rw [g2'] at this; cases this
  have hj' : Ints (H5.set b2 ⟨36, true, [uv, tv]⟩) (.sl q 0 j.length) j := li_ints (by
    have := o.get (i := 0) rfl
    simp only [Hp.set, hq2, if_false]; exact this)
  have st2 := stA_two D.g2 D.s1 D.s2
  obtain ⟨G, f1, f2, f3, f4, f5⟩ := D.fin
  rw [st2] at f1
  cases f1
  simp only [↓WP, WQ, if_true, if_false, eq_self, implies_true, ne_eq, List.nil_append, List.cons_append, ↓reduceIte, Nat.reduceEqDiff, Nat.reduceBEq, reduceCtorEq, Nat.reduceAdd, resA, ret1, qv, lv, ev, boolA, binA, intA, shiftA, cmpA, beqA, lres, st2]
  refine ⟨f2, ?_⟩
  simp only [↓WP, WQ, if_true, if_false, eq_self, implies_true, ne_eq, List.nil_append, List.cons_append, ↓reduceIte, Nat.reduceEqDiff, Nat.reduceBEq, reduceCtorEq, Nat.reduceAdd, resA, ret1, qv, lv, ev, boolA, binA, intA, shiftA, cmpA, beqA, lres, f3]
  exact hq _ A _ j _ f4 f5 hj' hj rfl

theorem IsNucleus_c {uv tv v : AV} {A : Alg} {j : List Int} (h : Ints H uv A.up) (hm : Mat H tv A.times) (hS : Small A) (hv : Ints H v j) (hj62 : j.length < 4611686018427387904) {Q : AV → Hp → Prop} (ht : IsAlg A ∧ IsNuc A j → Q (.bool true) H) (hf : ¬ (IsAlg A ∧ IsNuc A j) → Q (.bool false) H) :
    ACalls Try.prog w0 44 [.agg [uv, tv], v] H Q := by
  refine quietB (fun b hb => ?_) ht hf
  refine in44 ?_
  simp only [c44, ↓WP, WQ, if_true, if_false, eq_self, implies_true, ne_eq, List.nil_append, List.cons_append, ↓reduceIte, Nat.reduceEqDiff, Nat.reduceBEq, reduceCtorEq, Nat.reduceAdd, resA, ret1, qv, lv, ev, boolA, binA, intA, shiftA, cmpA, beqA, lres, cells_alg h.len hm.len]
  refine NewRowd_in fun r hr => ?_
  obtain ⟨hE, hu, hu1, hu2⟩ := box_facts (ty := 36) (uv := uv) (tv := tv) hr
  generalize H.set r ⟨36, true, [uv, tv]⟩ = G at *
  have h := h.ext hE
  have hm := hm.ext hE
  simp only [↓WP, WQ, if_true, if_false, eq_self, implies_true, ne_eq, List.nil_append, List.cons_append, ↓reduceIte, Nat.reduceEqDiff, Nat.reduceBEq, reduceCtorEq, Nat.reduceAdd, resA, ret1, qv, lv, ev, boolA, binA, intA, shiftA, cmpA, beqA, lres, hu]
  refine ValidAlgebra_c h hm hS (fun hA => ?_) (fun hA => ?_) <;> simp only [↓WP, WQ, if_true, if_false, eq_self, implies_true, ne_eq, List.nil_append, List.cons_append, ↓reduceIte, Nat.reduceEqDiff, Nat.reduceBEq, reduceCtorEq, Nat.reduceAdd, resA, ret1, qv, lv, ev, boolA, binA, intA, shiftA, cmpA, beqA, lres, hu]
  · refine isNucleus_c h hm hA (hv.ext hE) hj62 (fun hc => ?_) (fun hc => ?_) <;> simp only [↓WP, WQ, if_true, if_false, eq_self, implies_true, ne_eq, List.nil_append, List.cons_append, ↓reduceIte, Nat.reduceEqDiff, Nat.reduceBEq, reduceCtorEq, Nat.reduceAdd, resA, ret1, qv, lv, ev, boolA, binA, intA, shiftA, cmpA, beqA, lres]
    · exact ⟨boolT hb ⟨hA, hc⟩, hE⟩
    · exact ⟨boolF hb (fun hh => hc hh.2), hE⟩
  · exact ⟨boolF hb (fun hh => hA hh.1), hE⟩
theorem sIsNucleus_c {uv tv v : AV} {A : Alg} {j : List Int} (h : Ints H uv A.up) (hm : Mat H tv A.times) (hS : Small A) (hv : Ints H v j) (hj62 : j.length < 4611686018427387904) {Q : AV → Hp → Prop} (ht : IsAlg A ∧ IsNuc A j → Q (.bool true) H) (hf : ¬ (IsAlg A ∧ IsNuc A j) → Q (.bool false) H) :
    ACalls Try.prog w0 45 [.agg [uv, tv], v] H Q := by
  refine quietB (fun b hb => ?_) ht hf
  refine in45 ?_
  simp only [c45, ↓WP, WQ, if_true, if_false, eq_self, implies_true, ne_eq, List.nil_append, List.cons_append, ↓reduceIte, Nat.reduceEqDiff, Nat.reduceBEq, reduceCtorEq, Nat.reduceAdd, resA, ret1, qv, lv, ev, boolA, binA, intA, shiftA, cmpA, beqA, lres, cells_alg h.len hm.len]
  refine NewRowd_in fun r hr => ?_
  obtain ⟨hE, hu, hu1, hu2⟩ := box_facts (ty := 36) (uv := uv) (tv := tv) hr
  generalize H.set r ⟨36, true, [uv, tv]⟩ = G at *
  have h := h.ext hE
  have hm := hm.ext hE
  simp only [↓WP, WQ, if_true, if_false, eq_self, implies_true, ne_eq, List.nil_append, List.cons_append, ↓reduceIte, Nat.reduceEqDiff, Nat.reduceBEq, reduceCtorEq, Nat.reduceAdd, resA, ret1, qv, lv, ev, boolA, binA, intA, shiftA, cmpA, beqA, lres, hu]
  refine svalidAlgebra_c h hm hS (fun hA => ?_) (fun hA => ?_) <;> simp only [↓WP, WQ, if_true, if_false, eq_self, implies_true, ne_eq, List.nil_append, List.cons_append, ↓reduceIte, Nat.reduceEqDiff, Nat.reduceBEq, reduceCtorEq, Nat.reduceAdd, resA, ret1, qv, lv, ev, boolA, binA, intA, shiftA, cmpA, beqA, lres, hu]
  · refine sisNucleus_c h hm hA (hv.ext hE) hj62 (fun hc => ?_) (fun hc => ?_) <;> simp only [↓WP, WQ, if_true, if_false, eq_self, implies_true, ne_eq, List.nil_append, List.cons_append, ↓reduceIte, Nat.reduceEqDiff, Nat.reduceBEq, reduceCtorEq, Nat.reduceAdd, resA, ret1, qv, lv, ev, boolA, binA, intA, shiftA, cmpA, beqA, lres]
    · exact ⟨boolT hb ⟨hA, hc⟩, hE⟩
    · exact ⟨boolF hb (fun hh => hc hh.2), hE⟩
  · exact ⟨boolF hb (fun hh => hA hh.1), hE⟩

theorem nuc_imp {A : Alg} (hA : IsAlg A) {j : List Int} (hj : IsNuc A j) {x y : Int} (hx : El A x) (hy : El A y) (h : gj j y = y) : gj j (impF A x y) = impF A x y := by
  have hz := hA.ie x y
  have ej : ∀ {x : Int}, El A x → El A (gj j x) := fun hx => hj.2.1 _ hx.1 hx.2
  have n1 : ∀ {x : Int}, El A x → NX A j x := fun hx => (hj.2.2 _ hx.1 hx.2).1
  have n2 : ∀ {x y : Int}, El A x → El A y → NXY A j x y := fun hx hy => (hj.2.2 _ hx.1 hx.2).2 _ hy.1 hy.2
  have xz := hA.te hx hz
  refine hA.as (ej hz) hz (hA.le_imp hx hy (ej hz) ?_) (n1 hz).1
  have h1 : bl A.up (A.tm x (gj j (impF A x y))) (A.tm (gj j x) (gj j (impF A x y))) := hA.mono' hx (ej hx) (ej hz) (n1 hx).1
  have h2 := (n2 hx hz).2
  have h3 := (n2 xz hy).1 (hA.imp_le hx hy)
  rw [h] at h3
  exact hA.tr (hA.te hx (ej hz)) (hA.te (ej hx) (ej hz)) hy h1 (hA.tr (hA.te (ej hx) (ej hz)) (ej xz) hy h2 h3)
end Go.AL

/-
  The law of IsNucleus.
-/
namespace Go.AL
open Go.Proofs
set_option linter.unusedSimpArgs false
set_option linter.unusedVariables false
variable {w0 : World} {H : Hp}

theorem FnIsNucleus_l {bv : AV} {m : Nat} (hb : Byt H bv m) (hm : m ≤ 9223372036854775807) : ACalls Try.prog w0 10 [bv] H fun v _ => v = .bool true := by
  refine in10 ?_
  simp only [c10, ↓WP, WQ, if_true, if_false, eq_self, implies_true, ne_eq, List.nil_append, List.cons_append, ↓reduceIte, Nat.reduceEqDiff, Nat.reduceBEq, reduceCtorEq, Nat.reduceAdd, resA, ret1, qv, lv, ev, boolA, binA, intA, shiftA, cmpA, beqA, lres, hb.1]
  refine Br_dec (fun h1 => ?_) (fun h1 => ?_) <;> simp only [↓WP, WQ, if_true, if_false, eq_self, implies_true, ne_eq, List.nil_append, List.cons_append, ↓reduceIte, Nat.reduceEqDiff, Nat.reduceBEq, reduceCtorEq, Nat.reduceAdd, resA, ret1, qv, lv, ev, boolA, binA, intA, shiftA, cmpA, beqA, lres]
  refine DrawIsNucleus_c hb (by omega) fun v A jv j H1 hE hA hj hjl hjs => ?_
  obtain ⟨uv, tv, rfl, hu, ht⟩ := hA.open
  have hS := hA.small
  have hu7 := hA.up
  simp only [↓WP, WQ, if_true, if_false, eq_self, implies_true, ne_eq, List.nil_append, List.cons_append, ↓reduceIte, Nat.reduceEqDiff, Nat.reduceBEq, reduceCtorEq, Nat.reduceAdd, resA, ret1, qv, lv, ev, boolA, binA, intA, shiftA, cmpA, beqA, lres]
  refine NewRowd_in fun b3 hb3 => ?_
  have h0 : (H1.set b3 ⟨36, true, [.nils, .nils]⟩) b3 = some ⟨36, true, [.nils, .nils]⟩ := Hp.set_same _ _ _
  have hE3 := Ext.set (x := ⟨36, true, [uv, tv]⟩) hb3
  have g3 : (H1.set b3 ⟨36, true, [uv, tv]⟩) b3 = some ⟨36, true, [uv, tv]⟩ := Hp.set_same _ _ _
  simp only [↓WP, WQ, if_true, if_false, eq_self, implies_true, ne_eq, List.nil_append, List.cons_append, ↓reduceIte, Nat.reduceEqDiff, Nat.reduceBEq, reduceCtorEq, Nat.reduceAdd, resA, ret1, qv, lv, ev, boolA, binA, intA, shiftA, cmpA, beqA, lres, stA_two (x := uv) (y := tv) h0 (lenA_scal hu.len) (lenA_scal ht.len), Hp.set_set, atN_two g3]
  generalize H1.set b3 ⟨36, true, [uv, tv]⟩ = G at *
  have hu := hu.ext hE3
  have ht := ht.ext hE3
  have hwl : IntKind.i64.wrap ((A.up.length : Int) - 1) = A.up.length - 1 := wrap_id (by omega) (by omega)
  have hj := hj.ext hE3
  have hj62 : j.length < 4611686018427387904 := by omega
  obtain ⟨out, ho⟩ : ∃ b : Bool, b = true ↔ IsAlg A ∧ IsNuc A j := by
    by_cases h : IsAlg A ∧ IsNuc A j
    · exact ⟨true, by simp only [h, and_self]⟩
    · exact ⟨false, by simp only [h, reduceCtorEq]⟩
  have IP : ∀ {Q : AV → Hp → Prop}, Q (.bool out) G → ACalls Try.prog w0 44 [.agg [uv, tv], jv] G Q := by
    intro Q hq
    refine IsNucleus_c hu ht hS hj hj62 (fun h => ?_) (fun h => ?_)
    · rw [ho.2 h] at hq; exact hq
    · rw [Bool.eq_false_iff.2 fun e => h (ho.1 e)] at hq; exact hq
  have SP : ∀ {Q : AV → Hp → Prop}, Q (.bool out) G → ACalls Try.prog w0 45 [.agg [uv, tv], jv] G Q := by
    intro Q hq
    refine sIsNucleus_c hu ht hS hj hj62 (fun h => ?_) (fun h => ?_)
    · rw [ho.2 h] at hq; exact hq
    · rw [Bool.eq_false_iff.2 fun e => h (ho.1 e)] at hq; exact hq
  refine IP ?_
  simp only [↓WP, WQ, if_true, if_false, eq_self, implies_true, ne_eq, List.nil_append, List.cons_append, ↓reduceIte, Nat.reduceEqDiff, Nat.reduceBEq, reduceCtorEq, Nat.reduceAdd, resA, ret1, qv, lv, ev, boolA, binA, intA, shiftA, cmpA, beqA, lres, atN_two g3]
  refine SP ?_
  cases out
  · simp only [↓WP, WQ, if_true, if_false, eq_self, implies_true, ne_eq, List.nil_append, List.cons_append, ↓reduceIte, Nat.reduceEqDiff, Nat.reduceBEq, reduceCtorEq, Nat.reduceAdd, resA, ret1, qv, lv, ev, boolA, binA, intA, shiftA, cmpA, beqA, lres, atN_two g3, bne_self_eq_false]
    refine SP ?_
    simp only [↓WP, WQ, if_true, if_false, eq_self, implies_true, ne_eq, List.nil_append, List.cons_append, ↓reduceIte, Nat.reduceEqDiff, Nat.reduceBEq, reduceCtorEq, Nat.reduceAdd, resA, ret1, qv, lv, ev, boolA, binA, intA, shiftA, cmpA, beqA, lres, beq_self_eq_true]
  obtain ⟨hI, hN⟩ := ho.1 rfl
  have hjn := hj.len
  rw [hN.1] at hjn
  have jx : ∀ {x : Int}, El A x → idxA 1 jv (.int .i64 x) = some (elt 1 jv x.toNat) := fun hx => hj.idx hx.1 (by rw [hN.1]; exact hx.2)
  have ja : ∀ {x : Int}, El A x → G.at (elt 1 jv x.toNat) = some (.int .i64 (gj j x)) := fun hx => hj.at (by rw [hN.1]; have := hx.1; have := hx.2; omega)
  simp only [↓WP, WQ, if_true, if_false, eq_self, implies_true, ne_eq, List.nil_append, List.cons_append, ↓reduceIte, Nat.reduceEqDiff, Nat.reduceBEq, reduceCtorEq, Nat.reduceAdd, resA, ret1, qv, lv, ev, boolA, binA, intA, shiftA, cmpA, beqA, lres, atN_two g3, bne_self_eq_false]
  refine W_for 0 A.up.length (fun x e H' => H' = G ∧ Sl e [(3, .ptr b3 0), (4, jv), (6, .int .i64 x)]) (by omega) ⟨rfl, by simp only [↓WP, WQ, if_true, if_false, eq_self, implies_true, ne_eq, List.nil_append, List.cons_append, ↓reduceIte, Nat.reduceEqDiff, Nat.reduceBEq, reduceCtorEq, Nat.reduceAdd, resA, ret1, qv, lv, ev, boolA, binA, intA, shiftA, cmpA, beqA, lres]⟩ ?_
  rintro x e H' hx0 hx1 ⟨rfl, hs⟩
  simp only [Sl_cons, Sl_nil, and_true] at hs
  have hw : IntKind.i64.wrap (x + 1) = x + 1 := wrap_id (by omega) (by omega)
  refine (Classical.em (x < A.up.length)).elim (fun hx => ?_) (fun hx => ?_) <;> simp only [↓WP, WQ, if_true, if_false, eq_self, implies_true, ne_eq, List.nil_append, List.cons_append, ↓reduceIte, Nat.reduceEqDiff, Nat.reduceBEq, reduceCtorEq, Nat.reduceAdd, resA, ret1, qv, lv, ev, boolA, binA, intA, shiftA, cmpA, beqA, lres, hs, hjn, hx]
  have ex : El A x := ⟨hx0, hx⟩
  refine W_for 0 A.up.length (fun y e H'' => H'' = H' ∧ Sl e [(3, .ptr b3 0), (4, jv), (6, .int .i64 x), (7, .int .i64 y)]) (by omega) ⟨rfl, by simp only [↓WP, WQ, if_true, if_false, eq_self, implies_true, ne_eq, List.nil_append, List.cons_append, ↓reduceIte, Nat.reduceEqDiff, Nat.reduceBEq, reduceCtorEq, Nat.reduceAdd, resA, ret1, qv, lv, ev, boolA, binA, intA, shiftA, cmpA, beqA, lres, hs]⟩ ?_
  rintro y e H'' hy0 hy1 ⟨rfl, hs⟩
  simp only [Sl_cons, Sl_nil, and_true] at hs
  have hwy : IntKind.i64.wrap (y + 1) = y + 1 := wrap_id (by omega) (by omega)
  refine (Classical.em (y < A.up.length)).elim (fun hy => ?_) (fun hy => ?_) <;> simp only [↓WP, WQ, if_true, if_false, eq_self, implies_true, ne_eq, List.nil_append, List.cons_append, ↓reduceIte, Nat.reduceEqDiff, Nat.reduceBEq, reduceCtorEq, Nat.reduceAdd, resA, ret1, qv, lv, ev, boolA, binA, intA, shiftA, cmpA, beqA, lres, hs, hjn, hy, hw, hx, atN_two g3]
  have ey : El A y := ⟨hy0, hy⟩
  refine ImplyOf_c hu ht hS (fun _ => ?_) (fun h => absurd ⟨hI, ⟨hx0, hx⟩, ⟨hy0, hy⟩⟩ h)
  have ez := hI.ie x y
  simp only [↓WP, WQ, if_true, if_false, eq_self, implies_true, ne_eq, List.nil_append, List.cons_append, ↓reduceIte, Nat.reduceEqDiff, Nat.reduceBEq, reduceCtorEq, Nat.reduceAdd, resA, ret1, qv, lv, ev, boolA, binA, intA, shiftA, cmpA, beqA, lres, hs, jx ey, ja ey]
  refine (Classical.em (gj j y = y)).elim (fun c => ?_) (fun c => ?_)
  · have c2 := nuc_imp hI hN ex ey c
    simp only [↓WP, WQ, if_true, if_false, eq_self, implies_true, ne_eq, List.nil_append, List.cons_append, ↓reduceIte, Nat.reduceEqDiff, Nat.reduceBEq, reduceCtorEq, Nat.reduceAdd, resA, ret1, qv, lv, ev, boolA, binA, intA, shiftA, cmpA, beqA, lres, hs, decide_eq_true c, jx ez, ja ez, decide_eq_true c2, hwy, hy]
  · simp only [↓WP, WQ, if_true, if_false, eq_self, implies_true, ne_eq, List.nil_append, List.cons_append, ↓reduceIte, Nat.reduceEqDiff, Nat.reduceBEq, reduceCtorEq, Nat.reduceAdd, resA, ret1, qv, lv, ev, boolA, binA, intA, shiftA, cmpA, beqA, lres, hs, decide_eq_false c, hwy, hy]
end Go.AL

/-
  The given statement FnIsNucleusSaid is proved: for every input the law FnIsNucleus returns true, and its argument reads as before. Conditions: none beyond the given row's own.
-/
namespace Go.Proofs.Ytkkgckmgplicjaa
open Go.AL Go.ChangeShapes Go.WideShapes
set_option maxRecDepth 100000

theorem try_own : ownKnob Try.prog.godebug = Option.none := by kernel_rfl
theorem try_kids : Kids Try.prog (· < Try.prog.types.size) := kids_rows (by kernel_rfl) (by kernel_rfl)
theorem try_full : ∀ t e, t < Try.prog.types.size → Try.prog.underlying t = some (.slice e) → 0 < Try.prog.cellsOf e := slices_full_of Try.prog (by kernel_rfl)
theorem try_byte : Try.prog.cellsOf 5 = 1 := by kernel_rfl

theorem lifted (os : Os) (started : os.Started) (H : Type) (enc : TypeId × Value → H) :
    ReturnsInHanded {} Try.checked os 10 .any (Rows.fnIsNucleusSpec.pre6 enc Try.prog Try.f10 Rows.fnIsNucleusRow.domain false) (Rows.fnIsNucleusSpec.post enc Try.prog Try.f10 false true false false) :=
  handed_bytes (C := Try.checked) (t := 22) (e := 5) (tb := 4) try_own started (by kernel_rfl) Try.func10
    (ChangeSpec.witness6 (enc := enc) (C := Try.checked) false ⟨#[], #[.slice Option.none 0 0], []⟩ 8 (by kernel_rfl) (by kernel_rfl) (by kernel_rfl) (by kernel_rfl))
    try_kids try_full Try.params10 (of_decide_eq_true (by kernel_rfl)) Try.underlying22 Try.underlying5 try_byte rfl (by kernel_rfl) Try.underlying4 (fun _ => rfl)
    (fun w0 bv n H hb hn => FnIsNucleus_l hb hn)

theorem fnIsNucleus_holds : Rows.FnIsNucleusSaid :=
  OpenClaim.holds_of_wide 10 Try.f10 rfl rfl rfl rfl rfl rfl rfl ⟨rfl, rfl, rfl, rfl, rfl⟩ rfl rfl rfl rfl rfl (by kernel_rfl) Try.func10 (by kernel_rfl)
    (of_decide_eq_true (by kernel_rfl)) (by unfold Func.isWrapper; first | (rw [if_pos (by decide +kernel)]; kernel_rfl) | (rw [if_neg (by decide +kernel)]; exact ⟨rfl, rfl⟩))
    (fun os started H enc _ => lifted os started H enc)

#print axioms fnIsNucleus_holds
end Go.Proofs.Ytkkgckmgplicjaa
