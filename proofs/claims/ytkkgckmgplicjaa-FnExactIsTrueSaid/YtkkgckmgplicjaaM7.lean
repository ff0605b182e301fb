/-
  Lemmas that the proofs of the given statements of this seat use. Conditions: none.
-/
import Derived.Test.YtkkgckmgplicjaaM6
/-
  Names with which a term is not the greatest element.
-/
namespace Go.AL
open Go.Proofs
set_option linter.unusedSimpArgs false
set_option linter.unusedVariables false
variable {w0 : World} {H : Hp}

def Good (A : Alg) (t nm : List Int) : Prop := vT A nm t = A.up.length - 1
noncomputable def refS (A : Alg) (t : List Int) (s : Option (List Int)) (nm : List Int) : Option (List Int) := open Classical in match s with
  | some l => some l
  | none => if Good A t nm then none else some nm
noncomputable def refF (A : Alg) (t : List Int) : Option (List Int) := (en A.up.length 3).foldl (refS A t) none
theorem refS_keep {A : Alg} {t l : List Int} : ∀ L : List (List Int), L.foldl (refS A t) (some l) = some l
  | [] => rfl
  | a :: L => by rw [List.foldl_cons]; exact refS_keep L
theorem refS_good {A : Alg} {t : List Int} : ∀ {L : List (List Int)}, (∀ nm ∈ L, Good A t nm) → L.foldl (refS A t) none = none
  | [], _ => rfl
  | a :: L, h => by
    have h1 : refS A t none a = none := by simp only [refS]; rw [if_pos (h a List.mem_cons_self)]
    rw [List.foldl_cons, h1]; exact refS_good fun nm hnm => h nm (List.mem_cons_of_mem _ hnm)
theorem refS_first {A : Alg} {t nm : List Int} {L1 L2 : List (List Int)} (h : ∀ x ∈ L1, Good A t x) (hb : ¬ Good A t nm) : (L1 ++ nm :: L2).foldl (refS A t) none = some nm := by
  have h1 : refS A t none nm = some nm := by simp only [refS]; rw [if_neg hb]
  rw [List.foldl_append, refS_good h, List.foldl_cons, h1, refS_keep]
theorem refF_none {A : Alg} {t : List Int} : refF A t = none ↔ ∀ nm ∈ en A.up.length 3, Good A t nm := by
  constructor
  · intro h nm hnm
    refine Classical.byContradiction fun hb => ?_
    obtain ⟨L1, L2, hL⟩ := List.append_of_mem hnm
    unfold refF at h
    rw [hL, List.foldl_append] at h
    cases h1 : L1.foldl (refS A t) none with
    | some l => rw [h1, refS_keep] at h; cases h
    | none =>
      have h2 : refS A t none nm = some nm := by simp only [refS]; rw [if_neg hb]
      rw [h1, List.foldl_cons, h2, refS_keep] at h; cases h
  · exact fun h => refS_good h

/-- A copy of a list that is not nil. -/
theorem Clone_c {r o n : Nat} {l : List Int} (h : Ints H (.sl r o n) l) (hn : l.length ≤ 1000000000) {Q : AV → Hp → Prop} (hq : ∀ q H', Own no H H' [(q, LI l)] → Q (.sl q 0 l.length) H') :
    ACalls Try.prog w0 108 [.sl r o n] H Q := by
  have hs : snilA false (.sl r o n) .nils = some (.bool false) := rfl
  have e0 : (⟨3, true, []⟩ : Row) = LI [] := rfl
  refine in108 ?_
  simp only [c108, ↓WP, WQ, if_true, if_false, eq_self, implies_true, ne_eq, List.nil_append, List.cons_append, ↓reduceIte, Nat.reduceEqDiff, Nat.reduceBEq, reduceCtorEq, Nat.reduceAdd, resA, ret1, qv, lv, ev, boolA, binA, intA, shiftA, cmpA, beqA, lres, hs, bsl0, e0]
  refine NewRowd_in fun u hu => ?_
  have o' := (Own.nil0 (H := H)).push (x := LI []) hu
  have h := h.ext o'.ext'
  simp only [↓WP, WQ, if_true, if_false, eq_self, implies_true, ne_eq, List.nil_append, List.cons_append, ↓reduceIte, Nat.reduceEqDiff, Nat.reduceBEq, reduceCtorEq, Nat.reduceAdd, resA, ret1, qv, lv, ev, boolA, binA, intA, shiftA, cmpA, beqA, lres]
  refine o'.app_copy (i := 0) rfl h hn fun q H' o => ?_
  simp only [↓WP, WQ, if_true, if_false, eq_self, implies_true, ne_eq, List.nil_append, List.cons_append, ↓reduceIte, Nat.reduceEqDiff, Nat.reduceBEq, reduceCtorEq, Nat.reduceAdd, resA, ret1, qv, lv, ev, boolA, binA, intA, shiftA, cmpA, beqA, lres]
  exact hq q H' o

def refSt (b7 b6 b2 b3 : Nat) (uv tv zv : AV) (s : Option (List Int)) (M : List (Nat × Row)) : Prop :=
  ∃ r, M = [(b7, (⟨4, true, [.bool s.isSome]⟩ : Row)), (b6, ⟨30, true, [.sl r 0 (s.getD []).length]⟩), (b2, ⟨36, true, [uv, tv]⟩), (b3, ⟨30, true, [zv]⟩), (r, LI (s.getD []))]

theorem RefuteTerm1_c {H0 : Hp} {uv tv zv : AV} {A : Alg} {t : List Int} (h : Ints H0 uv A.up) (hm : Mat H0 tv A.times) (hA : IsAlg A) (hz : Ints H0 zv t) (tt : IsTerm t) (b7 b6 b2 b3 : Nat) :
    DoC w0 115 [.ptr b7 0, .ptr b2 0, .ptr b3 0, .ptr b6 0] H0 (fun l => l ∈ en A.up.length 3) (refSt b7 b6 b2 b3 uv tv zv) (refS A t) := by
  intro s M H L v nm Q hM o hv hnm hQ
  obtain ⟨r, rfl⟩ := hM
  have g7 := o.get (i := 0) rfl
  have g2 := o.get (i := 2) rfl
  have g3 := o.get (i := 3) rfl
  have at1 : ∀ {H : Hp} {b ty : Nat} {c : AV}, H b = some ⟨ty, true, [c]⟩ → H.at (.ptr b 0) = some c := fun hb => by simp [Hp.at, hb]
  have hn := en_nm hnm
  have h := h.ext o.ext'
  have hm := hm.ext o.ext'
  have hz := hz.ext o.ext'
  have hn6 := hA.hi
  have hwl : IntKind.i64.wrap ((A.up.length : Int) - 1) = A.up.length - 1 := wrap_id (by omega) (by omega)
  refine in115 ?_
  simp only [c115, ↓WP, WQ, if_true, if_false, eq_self, implies_true, ne_eq, List.nil_append, List.cons_append, ↓reduceIte, Nat.reduceEqDiff, Nat.reduceBEq, reduceCtorEq, Nat.reduceAdd, resA, ret1, qv, lv, ev, boolA, binA, intA, shiftA, cmpA, beqA, lres]
  refine DR_in (fun r => r = b2) rfl ?_
  cases s with
  | some l =>
    simp only [Option.isSome_some] at g7
    simp only [↓WP, WQ, if_true, if_false, eq_self, implies_true, ne_eq, List.nil_append, List.cons_append, ↓reduceIte, Nat.reduceEqDiff, Nat.reduceBEq, reduceCtorEq, Nat.reduceAdd, resA, ret1, qv, lv, ev, boolA, binA, intA, shiftA, cmpA, beqA, lres, at1 g7]
    exact hQ H _ ⟨r, rfl⟩ o
  | none =>
    simp only [Option.isSome_none] at g7
    simp only [↓WP, WQ, if_true, if_false, eq_self, implies_true, ne_eq, List.nil_append, List.cons_append, ↓reduceIte, Nat.reduceEqDiff, Nat.reduceBEq, reduceCtorEq, Nat.reduceAdd, resA, ret1, qv, lv, ev, boolA, binA, intA, shiftA, cmpA, beqA, lres, at1 g7, loadS, ev, atN_two g2, at_fst g2, at1 g3, h.len, hwl]
    refine valueOf_c h hm hA hn hz hv (vT_val tt) ?_
    refine ⟨fun _ _ => rfl, ?_⟩
    refine (Classical.em (vT A nm t = A.up.length - 1)).elim (fun c1 => ?_) (fun c1 => ?_)
    · simp only [↓WP, WQ, if_true, if_false, eq_self, implies_true, ne_eq, List.nil_append, List.cons_append, ↓reduceIte, Nat.reduceEqDiff, Nat.reduceBEq, reduceCtorEq, Nat.reduceAdd, resA, ret1, qv, lv, ev, boolA, binA, intA, shiftA, cmpA, beqA, lres, decide_eq_true c1]
      have e : refS A t none nm = none := by simp only [refS]; rw [if_pos (show Good A t nm from c1)]
      rw [e] at hQ
      exact hQ H _ ⟨r, rfl⟩ o
    · have e : refS A t none nm = some nm := by simp only [refS]; rw [if_neg (show ¬ Good A t nm from c1)]
      rw [e] at hQ
      have hl := hv.len
      rw [hn.1] at hl
      cases v <;> simp only [lenA, Option.some.injEq, reduceCtorEq] at hl
      all_goals try omega
      rename_i q off n
      simp only [↓WP, WQ, if_true, if_false, eq_self, implies_true, ne_eq, List.nil_append, List.cons_append, ↓reduceIte, Nat.reduceEqDiff, Nat.reduceBEq, reduceCtorEq, Nat.reduceAdd, resA, ret1, qv, lv, ev, boolA, binA, intA, shiftA, cmpA, beqA, lres, decide_eq_false c1]
      refine Clone_c hv (by have := hn.1; omega) fun u H2 o2 => ?_
      have o := o.call o2 (fun _ e => e)
      simp only [List.cons_append, List.nil_append] at o
      have st6 := stA_cell' (i := 0) (x := .sl u 0 nm.length) (o.get (i := 2) rfl) (by simp) rfl
      have o := o.upd (i := 2) (y := ⟨30, true, [.sl u 0 nm.length]⟩) rfl
      simp only [List.set_cons_succ, List.set_cons_zero] at o st6
      simp only [↓WP, WQ, if_true, if_false, eq_self, implies_true, ne_eq, List.nil_append, List.cons_append, ↓reduceIte, Nat.reduceEqDiff, Nat.reduceBEq, reduceCtorEq, Nat.reduceAdd, resA, ret1, qv, lv, ev, boolA, binA, intA, shiftA, cmpA, beqA, lres, st6]
      generalize H2.set b6 ⟨30, true, [.sl u 0 nm.length]⟩ = H3 at *
      have st7 := stA_cell' (i := 0) (x := .bool true) (o.get (i := 1) rfl) (by simp) rfl
      have o := o.upd (i := 1) (y := ⟨4, true, [.bool true]⟩) rfl
      simp only [List.set_cons_succ, List.set_cons_zero] at o st7
      simp only [↓WP, WQ, if_true, if_false, eq_self, implies_true, ne_eq, List.nil_append, List.cons_append, ↓reduceIte, Nat.reduceEqDiff, Nat.reduceBEq, reduceCtorEq, Nat.reduceAdd, resA, ret1, qv, lv, ev, boolA, binA, intA, shiftA, cmpA, beqA, lres, st7]
      refine hQ _ [(b7, (⟨4, true, [.bool true]⟩ : Row)), (b6, ⟨30, true, [.sl u 0 nm.length]⟩), (b2, ⟨36, true, [uv, tv]⟩), (b3, ⟨30, true, [zv]⟩), (u, LI nm)] ⟨u, rfl⟩ ?_
      have o := o.perm (M := (b7, (⟨4, true, [.bool true]⟩ : Row)) :: (b6, ⟨30, true, [.sl u 0 nm.length]⟩) :: (b2, ⟨36, true, [uv, tv]⟩) :: (b3, ⟨30, true, [zv]⟩) :: (u, LI nm) :: ((r, LI []) :: L)) (by
        refine (List.Perm.swap _ _ _).trans (.cons _ ?_)
        refine (List.Perm.swap _ _ _).trans (.cons _ ?_)
        refine (List.Perm.swap _ _ _).trans (.cons _ ?_)
        exact (List.Perm.swap _ _ _))
      exact o.sub (.cons_cons _ (.cons_cons _ (.cons_cons _ (.cons_cons _ (.cons_cons _ (.cons _ (.refl _)))))))

/-- What both RefuteTerm answer. -/
def Refd (H : Hp) (A : Alg) (t : List Int) (v : AV) (H' : Hp) : Prop :=
  (∃ l r, (IsAlg A ∧ IsTerm t) ∧ refF A t = some l ∧ v = .tup [.sl r 0 l.length, .bool true] ∧ Own no H H' [(r, LI l)]) ∨ (¬ ((IsAlg A ∧ IsTerm t) ∧ refF A t ≠ none) ∧ v = .tup [.nils, .bool false] ∧ Ext H H')

theorem RefuteTerm_c {uv tv zv : AV} {A : Alg} {t : List Int} (h : Ints H uv A.up) (hm : Mat H tv A.times) (hS : Small A) (hz : Ints H zv t) (lt : t.length ≤ 1048576) {Q : AV → Hp → Prop} (hQ : ∀ v H', Refd H A t v H' → Q v H') :
    ACalls Try.prog w0 57 [.agg [uv, tv], zv] H Q := by
  refine in57 ?_
  simp only [c57, ↓WP, WQ, if_true, if_false, eq_self, implies_true, ne_eq, List.nil_append, List.cons_append, ↓reduceIte, Nat.reduceEqDiff, Nat.reduceBEq, reduceCtorEq, Nat.reduceAdd, resA, ret1, qv, lv, ev, boolA, binA, intA, shiftA, cmpA, beqA, lres, cells_alg h.len hm.len, cells_scal (lenA_scal hz.len)]
  refine NewRowd_in fun b2 hb2 => ?_
  have o := (Own.nil0 (H := H)).push (x := ⟨36, true, [uv, tv]⟩) hb2
  generalize H.set b2 ⟨36, true, [uv, tv]⟩ = G at *
  simp only [↓WP, WQ, if_true, if_false, eq_self, implies_true, ne_eq, List.nil_append, List.cons_append, ↓reduceIte, Nat.reduceEqDiff, Nat.reduceBEq, reduceCtorEq, Nat.reduceAdd, resA, ret1, qv, lv, ev, boolA, binA, intA, shiftA, cmpA, beqA, lres, cells_scal (lenA_scal hz.len)]
  refine NewRowd_in fun b3 hb3 => ?_
  have o := o.push (x := ⟨30, true, [zv]⟩) hb3
  generalize G.set b3 ⟨30, true, [zv]⟩ = G at *
  have g2 := o.get (i := 1) rfl
  have g3 := o.get (i := 0) rfl
  have at1 : ∀ {G : Hp} {b ty : Nat} {c : AV}, G b = some ⟨ty, true, [c]⟩ → G.at (.ptr b 0) = some c := fun hb => by simp [Hp.at, hb]
  simp only [↓WP, WQ, if_true, if_false, eq_self, implies_true, ne_eq, List.nil_append, List.cons_append, ↓reduceIte, Nat.reduceEqDiff, Nat.reduceBEq, reduceCtorEq, Nat.reduceAdd, resA, ret1, qv, lv, ev, boolA, binA, intA, shiftA, cmpA, beqA, lres, atN_two g2]
  refine ValidAlgebra_c (h.ext o.ext') (hm.ext o.ext') hS (fun hA => ?_) (fun hA => ?_)
  rotate_left
  · simp only [↓WP, WQ, if_true, if_false, eq_self, implies_true, ne_eq, List.nil_append, List.cons_append, ↓reduceIte, Nat.reduceEqDiff, Nat.reduceBEq, reduceCtorEq, Nat.reduceAdd, resA, ret1, qv, lv, ev, boolA, binA, intA, shiftA, cmpA, beqA, lres]; exact hQ _ _ (Or.inr ⟨fun hh => hA hh.1.1, rfl, o.ext'⟩)
  simp only [↓WP, WQ, if_true, if_false, eq_self, implies_true, ne_eq, List.nil_append, List.cons_append, ↓reduceIte, Nat.reduceEqDiff, Nat.reduceBEq, reduceCtorEq, Nat.reduceAdd, resA, ret1, qv, lv, ev, boolA, binA, intA, shiftA, cmpA, beqA, lres, at1 g3]
  refine ValidTerm_c (hz.ext o.ext') lt (fun tt => ?_) (fun tt => ?_)
  rotate_left
  · simp only [↓WP, WQ, if_true, if_false, eq_self, implies_true, ne_eq, List.nil_append, List.cons_append, ↓reduceIte, Nat.reduceEqDiff, Nat.reduceBEq, reduceCtorEq, Nat.reduceAdd, resA, ret1, qv, lv, ev, boolA, binA, intA, shiftA, cmpA, beqA, lres]; exact hQ _ _ (Or.inr ⟨fun hh => tt hh.1.2, rfl, o.ext'⟩)
  have e0 : (⟨3, true, []⟩ : Row) = LI [] := rfl
  simp only [↓WP, WQ, if_true, if_false, eq_self, implies_true, ne_eq, List.nil_append, List.cons_append, ↓reduceIte, Nat.reduceEqDiff, Nat.reduceBEq, reduceCtorEq, Nat.reduceAdd, resA, ret1, qv, lv, ev, boolA, binA, intA, shiftA, cmpA, beqA, lres, bsl0, e0]
  refine NewRowd_in fun u hu => ?_
  have o := o.push (x := LI []) hu
  generalize G.set u (LI []) = G1 at *
  simp only [↓WP, WQ, if_true, if_false, eq_self, implies_true, ne_eq, List.nil_append, List.cons_append, ↓reduceIte, Nat.reduceEqDiff, Nat.reduceBEq, reduceCtorEq, Nat.reduceAdd, resA, ret1, qv, lv, ev, boolA, binA, intA, shiftA, cmpA, beqA, lres]
  refine NewRowd_in fun b6 hb6 => ?_
  have o := o.push (x := ⟨30, true, [.nils]⟩) hb6
  generalize G1.set b6 ⟨30, true, [.nils]⟩ = G2 at *
  simp only [↓WP, WQ, if_true, if_false, eq_self, implies_true, ne_eq, List.nil_append, List.cons_append, ↓reduceIte, Nat.reduceEqDiff, Nat.reduceBEq, reduceCtorEq, Nat.reduceAdd, resA, ret1, qv, lv, ev, boolA, binA, intA, shiftA, cmpA, beqA, lres]
  refine NewRowd_in fun b7 hb7 => ?_
  have o := o.push (x := ⟨4, true, [.bool false]⟩) hb7
  generalize G2.set b7 ⟨4, true, [.bool false]⟩ = G3 at *
  have st6 := stA_cell' (i := 0) (x := .sl u 0 0) (o.get (i := 1) rfl) (by simp) rfl
  have o := o.upd (i := 1) (y := ⟨30, true, [.sl u 0 0]⟩) rfl
  simp only [List.set_cons_succ, List.set_cons_zero] at o st6
  simp only [↓WP, WQ, if_true, if_false, eq_self, implies_true, ne_eq, List.nil_append, List.cons_append, ↓reduceIte, Nat.reduceEqDiff, Nat.reduceBEq, reduceCtorEq, Nat.reduceAdd, resA, ret1, qv, lv, ev, boolA, binA, intA, shiftA, cmpA, beqA, lres, st6]
  generalize G3.set b6 ⟨30, true, [.sl u 0 0]⟩ = G4 at *
  have st7 := stA_cell' (i := 0) (x := .bool false) (o.get (i := 0) rfl) (by simp) rfl
  have o := o.upd (i := 0) (y := ⟨4, true, [.bool false]⟩) rfl
  simp only [List.set_cons_succ, List.set_cons_zero] at o st7
  simp only [↓WP, WQ, if_true, if_false, eq_self, implies_true, ne_eq, List.nil_append, List.cons_append, ↓reduceIte, Nat.reduceEqDiff, Nat.reduceBEq, reduceCtorEq, Nat.reduceAdd, resA, ret1, qv, lv, ev, boolA, binA, intA, shiftA, cmpA, beqA, lres, st7]
  generalize G4.set b7 ⟨4, true, [.bool false]⟩ = G5 at *
  have g2 := o.get (i := 4) rfl
  simp only [↓WP, WQ, if_true, if_false, eq_self, implies_true, ne_eq, List.nil_append, List.cons_append, ↓reduceIte, Nat.reduceEqDiff, Nat.reduceBEq, reduceCtorEq, Nat.reduceAdd, resA, ret1, qv, lv, ev, boolA, binA, intA, shiftA, cmpA, beqA, lres, atN_two g2]
  have o : Own no H G5 ([(b7, (⟨4, true, [.bool false]⟩ : Row)), (b6, ⟨30, true, [.sl u 0 0]⟩), (b2, ⟨36, true, [uv, tv]⟩), (b3, ⟨30, true, [zv]⟩), (u, LI [])] ++ []) := by
    refine o.perm (.cons _ (.cons _ ?_))
    refine (List.Perm.cons _ (List.Perm.swap _ _ _)).trans ?_
    refine (List.Perm.swap _ _ _).trans (.cons _ ?_)
    exact List.Perm.swap _ _ _
  refine eachNames_c h hm hA (st := refSt b7 b6 b2 b3 uv tv zv) (s := none) ⟨u, rfl⟩ o (RefuteTerm1_c h hm hA hz tt b7 b6 b2 b3) fun G6 M6 hM6 o => ?_
  obtain ⟨r, rfl⟩ := hM6
  have hfold : (en A.up.length 3).foldl (refS A t) none = refF A t := rfl
  rw [hfold] at o
  cases hr : refF A t with
  | none =>
    rw [hr] at o
    have g7 := o.get (i := 0) rfl
    simp only [Option.isSome_none] at g7
    simp only [↓WP, WQ, if_true, if_false, eq_self, implies_true, ne_eq, List.nil_append, List.cons_append, ↓reduceIte, Nat.reduceEqDiff, Nat.reduceBEq, reduceCtorEq, Nat.reduceAdd, resA, ret1, qv, lv, ev, boolA, binA, intA, shiftA, cmpA, beqA, lres, at1 g7]
    exact hQ _ _ (Or.inr ⟨fun hh => hh.2 hr, rfl, o.ext'⟩)
  | some l =>
    rw [hr] at o
    have g7 := o.get (i := 0) rfl
    have g6 := o.get (i := 1) rfl
    simp only [Option.isSome_some, Option.getD_some] at g7 g6
    simp only [↓WP, WQ, if_true, if_false, eq_self, implies_true, ne_eq, List.nil_append, List.cons_append, ↓reduceIte, Nat.reduceEqDiff, Nat.reduceBEq, reduceCtorEq, Nat.reduceAdd, resA, ret1, qv, lv, ev, boolA, binA, intA, shiftA, cmpA, beqA, lres, at1 g7, at1 g6]
    exact hQ _ _ (Or.inl ⟨l, r, ⟨hA, tt⟩, hr, rfl, o.sub (.cons _ (.cons _ (.cons _ (.cons _ (.cons_cons _ (.refl _))))))⟩)

theorem sRefuteTerm_c {uv tv zv : AV} {A : Alg} {t : List Int} (h : Ints H uv A.up) (hm : Mat H tv A.times) (hS : Small A) (hz : Ints H zv t) (lt : t.length ≤ 1048576) {Q : AV → Hp → Prop} (hQ : ∀ v H', Refd H A t v H' → Q v H') :
    ACalls Try.prog w0 56 [.agg [uv, tv], zv] H Q := by
  refine in56 ?_
  simp only [c56, ↓WP, WQ, if_true, if_false, eq_self, implies_true, ne_eq, List.nil_append, List.cons_append, ↓reduceIte, Nat.reduceEqDiff, Nat.reduceBEq, reduceCtorEq, Nat.reduceAdd, resA, ret1, qv, lv, ev, boolA, binA, intA, shiftA, cmpA, beqA, lres, cells_alg h.len hm.len]
  refine NewRowd_in fun b2 hb2 => ?_
  have o := (Own.nil0 (H := H)).push (x := ⟨36, true, [uv, tv]⟩) hb2
  generalize H.set b2 ⟨36, true, [uv, tv]⟩ = G at *
  have g2 := o.get (i := 0) rfl
  have h := h.ext o.ext'
  have hm := hm.ext o.ext'
  have hz := hz.ext o.ext'
  simp only [↓WP, WQ, if_true, if_false, eq_self, implies_true, ne_eq, List.nil_append, List.cons_append, ↓reduceIte, Nat.reduceEqDiff, Nat.reduceBEq, reduceCtorEq, Nat.reduceAdd, resA, ret1, qv, lv, ev, boolA, binA, intA, shiftA, cmpA, beqA, lres, atN_two g2]
  refine svalidAlgebra_c h hm hS (fun hA => ?_) (fun hA => ?_)
  rotate_left
  · simp only [↓WP, WQ, if_true, if_false, eq_self, implies_true, ne_eq, List.nil_append, List.cons_append, ↓reduceIte, Nat.reduceEqDiff, Nat.reduceBEq, reduceCtorEq, Nat.reduceAdd, resA, ret1, qv, lv, ev, boolA, binA, intA, shiftA, cmpA, beqA, lres]; exact hQ _ _ (Or.inr ⟨fun hh => hA hh.1.1, rfl, o.ext'⟩)
  simp only [↓WP, WQ, if_true, if_false, eq_self, implies_true, ne_eq, List.nil_append, List.cons_append, ↓reduceIte, Nat.reduceEqDiff, Nat.reduceBEq, reduceCtorEq, Nat.reduceAdd, resA, ret1, qv, lv, ev, boolA, binA, intA, shiftA, cmpA, beqA, lres]
  refine validTerm_c hz lt (fun tt => ?_) (fun tt => ?_)
  rotate_left
  · simp only [↓WP, WQ, if_true, if_false, eq_self, implies_true, ne_eq, List.nil_append, List.cons_append, ↓reduceIte, Nat.reduceEqDiff, Nat.reduceBEq, reduceCtorEq, Nat.reduceAdd, resA, ret1, qv, lv, ev, boolA, binA, intA, shiftA, cmpA, beqA, lres]; exact hQ _ _ (Or.inr ⟨fun hh => tt hh.1.2, rfl, o.ext'⟩)
  have hn6 := hA.hi
  have hwl : IntKind.i64.wrap ((A.up.length : Int) - 1) = A.up.length - 1 := wrap_id (by omega) (by omega)
  simp only [↓WP, WQ, if_true, if_false, eq_self, implies_true, ne_eq, List.nil_append, List.cons_append, ↓reduceIte, Nat.reduceEqDiff, Nat.reduceBEq, reduceCtorEq, Nat.reduceAdd, resA, ret1, qv, lv, ev, boolA, binA, intA, shiftA, cmpA, beqA, lres, at_fst g2, h.len]
  refine assignments_c hn6 fun q T G1 hT o1 => ?_
  have o := o.call o1 (fun _ e => e)
  have hE := o1.ext'
  have g2 := hE.get g2
  have h := h.ext hE
  have hm := hm.ext hE
  have hz := hz.ext hE
  have pt : 1 ≤ t.length := by
    cases t with
    | nil => have := tt.2; rw [trm_nil] at this; cases this
    | cons a l => simp
  have hTn : ∀ i (hi : i < T.length), (T[i]).2 ∈ en A.up.length 3 := fun i hi => by
    rw [← hT]; exact List.mem_map.2 ⟨_, List.getElem_mem hi, rfl⟩
  have hTl : T.length ≤ 1000 := by
    have e1 : (en A.up.length 3).length ≤ 216 := en_len hn6 3
    have := congrArg List.length hT
    rw [List.length_map] at this; omega
  simp only [↓WP, WQ, if_true, if_false, eq_self, implies_true, ne_eq, List.nil_append, List.cons_append, ↓reduceIte, Nat.reduceEqDiff, Nat.reduceBEq, reduceCtorEq, Nat.reduceAdd, resA, ret1, qv, lv, ev, boolA, binA, intA, shiftA, cmpA, beqA, lres]
  refine W_for 0 T.length (fun i e H' => H' = G1 ∧ Sl e [(1, zv), (2, .ptr b2 0), (6, .sl q 0 T.length), (7, .int .i64 i)] ∧ ∀ j (hj : j < T.length), (j : Int) < i → Good A t (T[j]).2) (by omega) ⟨rfl, by simp only [↓WP, WQ, if_true, if_false, eq_self, implies_true, ne_eq, List.nil_append, List.cons_append, ↓reduceIte, Nat.reduceEqDiff, Nat.reduceBEq, reduceCtorEq, Nat.reduceAdd, resA, ret1, qv, lv, ev, boolA, binA, intA, shiftA, cmpA, beqA, lres], fun j _ hj => by omega⟩ ?_
  rintro i e H' hi0 hi1 ⟨rfl, hs, hall⟩
  simp only [Sl_cons, Sl_nil, and_true] at hs
  have hw : IntKind.i64.wrap (i + 1) = i + 1 := wrap_id (by omega) (by omega)
  refine (Classical.em (i < T.length)).elim (fun hi => ?_) (fun hi => ?_) <;> simp only [↓WP, WQ, if_true, if_false, eq_self, implies_true, ne_eq, List.nil_append, List.cons_append, ↓reduceIte, Nat.reduceEqDiff, Nat.reduceBEq, reduceCtorEq, Nat.reduceAdd, resA, ret1, qv, lv, ev, boolA, binA, intA, shiftA, cmpA, beqA, lres, hs, lenA_sl, hi]
  · have hin : i.toNat < T.length := by omega
    have hat := tr_cell (o.has (q, TR T) (by simp)) hin
    have hix := sl_idx (r := q) (n := T.length) (k := .i64) hi0 hi
    have hmemT : ((T[i.toNat]).1, LI (T[i.toNat]).2) ∈ (q, TR T) :: (tl T ++ [(b2, (⟨36, true, [uv, tv]⟩ : Row))]) := by
      simp only [List.mem_cons, List.mem_append]
      exact Or.inr (Or.inl (List.mem_map.2 ⟨T[i.toNat], List.getElem_mem hin, rfl⟩))
    have hIt := li_ints (o.has ((T[i.toNat]).1, LI (T[i.toNat]).2) hmemT)
    have hnm := en_nm (hTn _ hin)
    refine DR_in (fun r => r = b2) rfl ?_
    simp only [↓WP, WQ, if_true, if_false, eq_self, implies_true, ne_eq, List.nil_append, List.cons_append, ↓reduceIte, Nat.reduceEqDiff, Nat.reduceBEq, reduceCtorEq, Nat.reduceAdd, resA, ret1, qv, lv, ev, boolA, binA, intA, shiftA, cmpA, beqA, lres, hs, hix, hat, atN_two g2, at_fst g2, loadS, ev, h.len, hwl]
    refine svalue_c hA hnm lt (vT_val tt) h hm hz hIt (by omega) (by omega) rfl ?_
    refine ⟨fun _ _ => rfl, ?_⟩
    refine (Classical.em (vT A (T[i.toNat]).2 t = A.up.length - 1)).elim (fun c1 => ?_) (fun c1 => ?_)
    · simp only [↓WP, WQ, if_true, if_false, eq_self, implies_true, ne_eq, List.nil_append, List.cons_append, ↓reduceIte, Nat.reduceEqDiff, Nat.reduceBEq, reduceCtorEq, Nat.reduceAdd, resA, ret1, qv, lv, ev, boolA, binA, intA, shiftA, cmpA, beqA, lres, hs, decide_eq_true c1, hw, hi]
      intro j hj hlt
      by_cases hji : (j : Int) < i
      · exact hall j hj hji
      · have : j = i.toNat := by omega
        subst this; exact c1
    · simp only [↓WP, WQ, if_true, if_false, eq_self, implies_true, ne_eq, List.nil_append, List.cons_append, ↓reduceIte, Nat.reduceEqDiff, Nat.reduceBEq, reduceCtorEq, Nat.reduceAdd, resA, ret1, qv, lv, ev, boolA, binA, intA, shiftA, cmpA, beqA, lres, hs, decide_eq_false c1, hix, hat]
      refine hQ _ _ (Or.inl ⟨(T[i.toNat]).2, (T[i.toNat]).1, ⟨hA, tt⟩, ?_, rfl, o.sub (List.singleton_sublist.2 hmemT)⟩)
      unfold refF
      rw [← hT]
      have hT0 : T = T.take i.toNat ++ T[i.toNat] :: T.drop (i.toNat + 1) := by rw [← List.drop_eq_getElem_cons hin, List.take_append_drop]
      have hsplit : T.map Prod.snd = (T.take i.toNat).map Prod.snd ++ (T[i.toNat]).2 :: (T.drop (i.toNat + 1)).map Prod.snd := by
        have := congrArg (List.map Prod.snd) hT0
        rwa [List.map_append, List.map_cons] at this
      rw [hsplit]
      refine refS_first (fun x hx => ?_) c1
      obtain ⟨p, hp, rfl⟩ := List.mem_map.1 hx
      obtain ⟨j, hj, rfl⟩ := List.mem_iff_getElem.1 hp
      rw [List.length_take] at hj
      rw [List.getElem_take]
      exact hall j (by omega) (by omega)
  · refine hQ _ _ (Or.inr ⟨fun hh => hh.2 (refF_none.2 fun nm hnm => ?_), rfl, o.ext'⟩)
    rw [← hT] at hnm
    obtain ⟨x, hx, rfl⟩ := List.mem_map.1 hnm
    obtain ⟨j, hj, rfl⟩ := List.mem_iff_getElem.1 hx
    exact hall j hj (by omega)
end Go.AL

/-
  Whether a term is true.
-/
namespace Go.AL
open Go.Proofs
set_option linter.unusedSimpArgs false
set_option linter.unusedVariables false
variable {w0 : World} {H : Hp}

theorem IsTrue_c {uv tv zv : AV} {A : Alg} {t : List Int} (h : Ints H uv A.up) (hm : Mat H tv A.times) (hS : Small A) (hz : Ints H zv t) (lt : t.length ≤ 1048576) {Q : AV → Hp → Prop} (ht : (IsAlg A ∧ IsTerm t) ∧ refF A t = none → Q (.bool true) H) (hf : ¬ ((IsAlg A ∧ IsTerm t) ∧ refF A t = none) → Q (.bool false) H) :
    ACalls Try.prog w0 42 [.agg [uv, tv], zv] H Q := by
  refine quietT (fun b hb => ?_) ht hf
  refine in42 ?_
  simp only [c42, ↓WP, WQ, if_true, if_false, eq_self, implies_true, ne_eq, List.nil_append, List.cons_append, ↓reduceIte, Nat.reduceEqDiff, Nat.reduceBEq, reduceCtorEq, Nat.reduceAdd, resA, ret1, qv, lv, ev, boolA, binA, intA, shiftA, cmpA, beqA, lres, cells_alg h.len hm.len]
  refine NewRowd_in fun b2 hb2 => ?_
  have o := (Own.nil0 (H := H)).push (x := ⟨36, true, [uv, tv]⟩) hb2
  generalize H.set b2 ⟨36, true, [uv, tv]⟩ = G at *
  have g2 := o.get (i := 0) rfl
  simp only [↓WP, WQ, if_true, if_false, eq_self, implies_true, ne_eq, List.nil_append, List.cons_append, ↓reduceIte, Nat.reduceEqDiff, Nat.reduceBEq, reduceCtorEq, Nat.reduceAdd, resA, ret1, qv, lv, ev, boolA, binA, intA, shiftA, cmpA, beqA, lres, atN_two g2]
  refine RefuteTerm_c (h.ext o.ext') (hm.ext o.ext') hS (hz.ext o.ext') lt fun v G1 hv => ?_
  have hE : Ext G G1 := by
    rcases hv with ⟨l, r, _, _, _, o1⟩ | ⟨_, _, hE⟩
    · exact o1.ext'
    · exact hE
  have g2 := hE.get g2
  have hE2 := o.ext'.trans hE
  obtain ⟨w, bo, rfl, hbo⟩ : ∃ w bo, v = .tup [w, .bool bo] ∧ (bo = true ↔ (IsAlg A ∧ IsTerm t) ∧ refF A t ≠ none) := by
    rcases hv with ⟨l, r, h1, h2, rfl, _⟩ | ⟨h1, rfl, _⟩
    · exact ⟨_, true, rfl, ⟨fun _ => ⟨h1, by rw [h2]; simp⟩, fun _ => rfl⟩⟩
    · exact ⟨_, false, rfl, ⟨(fun hh => by cases hh), fun hh => absurd hh h1⟩⟩
  simp only [↓WP, WQ, if_true, if_false, eq_self, implies_true, ne_eq, List.nil_append, List.cons_append, ↓reduceIte, Nat.reduceEqDiff, Nat.reduceBEq, reduceCtorEq, Nat.reduceAdd, resA, ret1, qv, lv, ev, boolA, binA, intA, shiftA, cmpA, beqA, lres, atN_two g2]
  refine ValidAlgebra_c (h.ext hE2) (hm.ext hE2) hS (fun hA => ?_) (fun hA => ?_)
  rotate_left
  · simp only [↓WP, WQ, if_true, if_false, eq_self, implies_true, ne_eq, List.nil_append, List.cons_append, ↓reduceIte, Nat.reduceEqDiff, Nat.reduceBEq, reduceCtorEq, Nat.reduceAdd, resA, ret1, qv, lv, ev, boolA, binA, intA, shiftA, cmpA, beqA, lres]; exact ⟨noT hb (fun hh => hA hh.1.1), hE2⟩
  simp only [↓WP, WQ, if_true, if_false, eq_self, implies_true, ne_eq, List.nil_append, List.cons_append, ↓reduceIte, Nat.reduceEqDiff, Nat.reduceBEq, reduceCtorEq, Nat.reduceAdd, resA, ret1, qv, lv, ev, boolA, binA, intA, shiftA, cmpA, beqA, lres]
  refine ValidTerm_c (hz.ext hE2) lt (fun tt => ?_) (fun tt => ?_)
  rotate_left
  · simp only [↓WP, WQ, if_true, if_false, eq_self, implies_true, ne_eq, List.nil_append, List.cons_append, ↓reduceIte, Nat.reduceEqDiff, Nat.reduceBEq, reduceCtorEq, Nat.reduceAdd, resA, ret1, qv, lv, ev, boolA, binA, intA, shiftA, cmpA, beqA, lres]; exact ⟨noT hb (fun hh => tt hh.1.2), hE2⟩
  cases bo
  · simp only [↓WP, WQ, if_true, if_false, eq_self, implies_true, ne_eq, List.nil_append, List.cons_append, ↓reduceIte, Nat.reduceEqDiff, Nat.reduceBEq, reduceCtorEq, Nat.reduceAdd, resA, ret1, qv, lv, ev, boolA, binA, intA, shiftA, cmpA, beqA, lres]
    refine ⟨yesT hb ⟨⟨hA, tt⟩, Classical.byContradiction fun hc => ?_⟩, hE2⟩
    have := hbo.2 ⟨⟨hA, tt⟩, hc⟩
    cases this
  · simp only [↓WP, WQ, if_true, if_false, eq_self, implies_true, ne_eq, List.nil_append, List.cons_append, ↓reduceIte, Nat.reduceEqDiff, Nat.reduceBEq, reduceCtorEq, Nat.reduceAdd, resA, ret1, qv, lv, ev, boolA, binA, intA, shiftA, cmpA, beqA, lres]
    exact ⟨noT hb (fun hh => (hbo.1 rfl).2 hh.2), hE2⟩
theorem sIsTrue_c {uv tv zv : AV} {A : Alg} {t : List Int} (h : Ints H uv A.up) (hm : Mat H tv A.times) (hS : Small A) (hz : Ints H zv t) (lt : t.length ≤ 1048576) {Q : AV → Hp → Prop} (ht : (IsAlg A ∧ IsTerm t) ∧ refF A t = none → Q (.bool true) H) (hf : ¬ ((IsAlg A ∧ IsTerm t) ∧ refF A t = none) → Q (.bool false) H) :
    ACalls Try.prog w0 41 [.agg [uv, tv], zv] H Q := by
  refine quietT (fun b hb => ?_) ht hf
  refine in41 ?_
  simp only [c41, ↓WP, WQ, if_true, if_false, eq_self, implies_true, ne_eq, List.nil_append, List.cons_append, ↓reduceIte, Nat.reduceEqDiff, Nat.reduceBEq, reduceCtorEq, Nat.reduceAdd, resA, ret1, qv, lv, ev, boolA, binA, intA, shiftA, cmpA, beqA, lres, cells_alg h.len hm.len]
  refine NewRowd_in fun b2 hb2 => ?_
  have o := (Own.nil0 (H := H)).push (x := ⟨36, true, [uv, tv]⟩) hb2
  generalize H.set b2 ⟨36, true, [uv, tv]⟩ = G at *
  have g2 := o.get (i := 0) rfl
  have h := h.ext o.ext'
  have hm := hm.ext o.ext'
  have hz := hz.ext o.ext'
  simp only [↓WP, WQ, if_true, if_false, eq_self, implies_true, ne_eq, List.nil_append, List.cons_append, ↓reduceIte, Nat.reduceEqDiff, Nat.reduceBEq, reduceCtorEq, Nat.reduceAdd, resA, ret1, qv, lv, ev, boolA, binA, intA, shiftA, cmpA, beqA, lres, atN_two g2]
  refine svalidAlgebra_c h hm hS (fun hA => ?_) (fun hA => ?_)
  rotate_left
  · simp only [↓WP, WQ, if_true, if_false, eq_self, implies_true, ne_eq, List.nil_append, List.cons_append, ↓reduceIte, Nat.reduceEqDiff, Nat.reduceBEq, reduceCtorEq, Nat.reduceAdd, resA, ret1, qv, lv, ev, boolA, binA, intA, shiftA, cmpA, beqA, lres]; exact ⟨noT hb (fun hh => hA hh.1.1), o.ext'⟩
  simp only [↓WP, WQ, if_true, if_false, eq_self, implies_true, ne_eq, List.nil_append, List.cons_append, ↓reduceIte, Nat.reduceEqDiff, Nat.reduceBEq, reduceCtorEq, Nat.reduceAdd, resA, ret1, qv, lv, ev, boolA, binA, intA, shiftA, cmpA, beqA, lres]
  refine validTerm_c hz lt (fun tt => ?_) (fun tt => ?_)
  rotate_left
  · simp only [↓WP, WQ, if_true, if_false, eq_self, implies_true, ne_eq, List.nil_append, List.cons_append, ↓reduceIte, Nat.reduceEqDiff, Nat.reduceBEq, reduceCtorEq, Nat.reduceAdd, resA, ret1, qv, lv, ev, boolA, binA, intA, shiftA, cmpA, beqA, lres]; exact ⟨noT hb (fun hh => tt hh.1.2), o.ext'⟩
  simp only [↓WP, WQ, if_true, if_false, eq_self, implies_true, ne_eq, List.nil_append, List.cons_append, ↓reduceIte, Nat.reduceEqDiff, Nat.reduceBEq, reduceCtorEq, Nat.reduceAdd, resA, ret1, qv, lv, ev, boolA, binA, intA, shiftA, cmpA, beqA, lres, atN_two g2]
  refine sRefuteTerm_c h hm hS hz lt fun v G1 hv => ?_
  rcases hv with ⟨l, r, h1, h2, rfl, o1⟩ | ⟨h1, rfl, hE⟩
  · simp only [↓WP, WQ, if_true, if_false, eq_self, implies_true, ne_eq, List.nil_append, List.cons_append, ↓reduceIte, Nat.reduceEqDiff, Nat.reduceBEq, reduceCtorEq, Nat.reduceAdd, resA, ret1, qv, lv, ev, boolA, binA, intA, shiftA, cmpA, beqA, lres]
    exact ⟨noT hb (fun hh => by rw [h2] at hh; cases hh.2), o.ext'.trans o1.ext'⟩
  · simp only [↓WP, WQ, if_true, if_false, eq_self, implies_true, ne_eq, List.nil_append, List.cons_append, ↓reduceIte, Nat.reduceEqDiff, Nat.reduceBEq, reduceCtorEq, Nat.reduceAdd, resA, ret1, qv, lv, ev, boolA, binA, intA, shiftA, cmpA, beqA, lres]
    exact ⟨yesT hb ⟨⟨hA, tt⟩, Classical.byContradiction fun hc => h1 ⟨⟨hA, tt⟩, hc⟩⟩, o.ext'.trans hE⟩
end Go.AL
