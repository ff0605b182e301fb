/-
  Lemmas that the proofs of the given statements of this seat use. Conditions: none.
-/
import Derived.Test.YtkkgckmgplicjaaM3
/-
  Filters: of the program and of the reference.
-/
namespace Go.AL
open Go.Proofs
set_option linter.unusedSimpArgs false
set_option linter.unusedVariables false
variable {w0 : World} {H : Hp}

/-- A call that answers yes or no and leaves nothing. -/
theorem quietB {P : Program} {f : Nat} {args : List AV} {R : Prop} (key : ∀ b : Bool, (b = true ↔ R) → ACalls P w0 f args H fun v' H' => v' = .bool b ∧ Ext H H') {Q : AV → Hp → Prop} (ht : R → Q (.bool true) H) (hf : ¬ R → Q (.bool false) H) : ACalls P w0 f args H Q := by
  by_cases hc : R
  · exact quiet (.bool true) rfl (key true (by simpa using hc)) (ht hc)
  · exact quiet (.bool false) rfl (key false (by simpa using hc)) (hf hc)
theorem boolT {b : Bool} {R : Prop} (hb : b = true ↔ R) (h : R) : AV.bool true = AV.bool b := by rw [hb.2 h]
theorem boolF {b : Bool} {R : Prop} (hb : b = true ↔ R) (h : ¬ R) : AV.bool false = AV.bool b := by
  cases b
  · rfl
  · exact absurd (hb.1 rfl) h

/-- A set of elements, as a number. -/
def Set6 (A : Alg) (f : Int) : Prop := 0 ≤ f ∧ f ≤ 2 ^ A.up.length - 1
/-- What an element of a filter must have. -/
def FilP (A : Alg) (f x : Int) : Prop := tb f x = true → (allI A.up.length fun y => bl A.up x y → tb f y = true) ∧ (allI A.up.length fun y => tb f y = true → tb f (A.tm x y) = true)
/-- A filter. -/
def IsFil (A : Alg) (f : Int) : Prop := tb f (A.up.length - 1) = true ∧ allI A.up.length (FilP A f)

theorem Set6.lt {A : Alg} (hA : IsAlg A) {f : Int} (h : Set6 A f) : f < 4611686018427387904 := by
  have h2 := pow_le62 (n := A.up.length) (by have := hA.hi; omega)
  have := h.2; omega
theorem an_set {A : Alg} (hA : IsAlg A) {f x : Int} (hf : Set6 A f) (hx : El A x) : an (A.up.getD x.toNat 0) f = 0 ↔ allI A.up.length fun y => bl A.up x y → tb f y = true := by
  have hrr := hA.rows62 x hx.1 hx.2
  have hn := hA.hi
  rw [an_zero hrr.1 hrr.2 hf.1 (hf.lt hA)]
  constructor
  · exact fun h w h0 h1 => h w h0 (by omega)
  · intro h w h0 h1 ht
    by_cases hw : w < A.up.length
    · exact h w h0 hw ht
    · rw [tb_big (hA.rng x hx.1 hx.2).1 (hA.rng x hx.1 hx.2).2 (by omega) (by omega)] at ht; cases ht

theorem isFilter_c {uv tv : AV} {A : Alg} {f : Int} (h : Ints H uv A.up) (hm : Mat H tv A.times) (hA : IsAlg A) (hf : Set6 A f) {Q : AV → Hp → Prop} (hq1 : IsFil A f → Q (.bool true) H) (hq2 : ¬ IsFil A f → Q (.bool false) H) :
    ACalls Try.prog w0 141 [.agg [uv, tv], .int .i64 f] H Q := by
  refine quietB (fun b hb => ?_) hq1 hq2
  refine in141 ?_
  simp only [c141, ↓WP, WQ, if_true, if_false, eq_self, implies_true, ne_eq, List.nil_append, List.cons_append, ↓reduceIte, Nat.reduceEqDiff, Nat.reduceBEq, reduceCtorEq, Nat.reduceAdd, resA, ret1, qv, lv, ev, boolA, binA, intA, shiftA, cmpA, beqA, lres, cells_alg h.len hm.len]
  refine NewRowd_in fun r hr => ?_
  obtain ⟨hE, hu, hu1, hu2⟩ := box_facts (ty := 36) (uv := uv) (tv := tv) hr
  generalize H.set r ⟨36, true, [uv, tv]⟩ = G at *
  have h := h.ext hE
  have hm := hm.ext hE
  have hT : Tab G tv A := ⟨hm, hA.toSquare⟩
  have hn6 := hA.hi
  have hn1 := hA.lo
  have hwl : IntKind.i64.wrap ((A.up.length : Int) - 1) = A.up.length - 1 := wrap_id (by omega) (by omega)
  simp only [↓WP, WQ, if_true, if_false, eq_self, implies_true, ne_eq, List.nil_append, List.cons_append, ↓reduceIte, Nat.reduceEqDiff, Nat.reduceBEq, reduceCtorEq, Nat.reduceAdd, resA, ret1, qv, lv, ev, boolA, binA, intA, shiftA, cmpA, beqA, lres, hu1, h.len, hwl]
  refine has_c (by omega) (fun ht => ?_) (fun ht => ?_) <;> simp only [↓WP, WQ, if_true, if_false, eq_self, implies_true, ne_eq, List.nil_append, List.cons_append, ↓reduceIte, Nat.reduceEqDiff, Nat.reduceBEq, reduceCtorEq, Nat.reduceAdd, resA, ret1, qv, lv, ev, boolA, binA, intA, shiftA, cmpA, beqA, lres, hu1, h.len]
  rotate_left
  · exact ⟨boolF hb (fun hh => by rw [hh.1] at ht; cases ht), hE⟩
  refine W_for 0 A.up.length (fun x e H' => H' = G ∧ Sl e [(1, .int .i64 f), (2, .ptr r 0), (16, uv), (17, .int .i64 A.up.length), (18, .int .i64 x)] ∧ allI x (FilP A f)) (by omega) ⟨rfl, by simp only [↓WP, WQ, if_true, if_false, eq_self, implies_true, ne_eq, List.nil_append, List.cons_append, ↓reduceIte, Nat.reduceEqDiff, Nat.reduceBEq, reduceCtorEq, Nat.reduceAdd, resA, ret1, qv, lv, ev, boolA, binA, intA, shiftA, cmpA, beqA, lres], allI_zero⟩ ?_
  rintro x e H' hx0 hx1 ⟨rfl, hs, hr'⟩
  simp only [Sl_cons, Sl_nil, and_true] at hs
  have hw : IntKind.i64.wrap (x + 1) = x + 1 := wrap_id (by omega) (by omega)
  refine (Classical.em (x < A.up.length)).elim (fun hx => ?_) (fun hx => ?_) <;> simp only [↓WP, WQ, if_true, if_false, eq_self, implies_true, ne_eq, List.nil_append, List.cons_append, ↓reduceIte, Nat.reduceEqDiff, Nat.reduceBEq, reduceCtorEq, Nat.reduceAdd, resA, ret1, qv, lv, ev, boolA, binA, intA, shiftA, cmpA, beqA, lres, hs, hx]
  rotate_left
  · have hxe : x = A.up.length := by omega
    subst hxe
    exact ⟨boolT hb ⟨ht, hr'⟩, hE⟩
  have hxe : El A x := ⟨hx0, hx⟩
  simp only [↓WP, WQ, if_true, if_false, eq_self, implies_true, ne_eq, List.nil_append, List.cons_append, ↓reduceIte, Nat.reduceEqDiff, Nat.reduceBEq, reduceCtorEq, Nat.reduceAdd, resA, ret1, qv, lv, ev, boolA, binA, intA, shiftA, cmpA, beqA, lres, hs, h.idx hx0 hx, h.at (show x.toNat < A.up.length by omega)]
  refine has_c hx0 (fun hfx => ?_) (fun hfx => ?_) <;> simp only [↓WP, WQ, if_true, if_false, eq_self, implies_true, ne_eq, List.nil_append, List.cons_append, ↓reduceIte, Nat.reduceEqDiff, Nat.reduceBEq, reduceCtorEq, Nat.reduceAdd, resA, ret1, qv, lv, ev, boolA, binA, intA, shiftA, cmpA, beqA, lres, hs, hw, hx]
  rotate_left
  · exact (allI_succ hx0).2 ⟨hr', fun hc => by rw [hc] at hfx; cases hfx⟩
  have e2 : bitA (fun x x_1 y => x_1 &&& ~~~y) .i64 (A.up.getD x.toNat 0) f = an (A.up.getD x.toNat 0) f := rfl
  refine (Classical.em (an (A.up.getD x.toNat 0) f = 0)).elim (fun ha => ?_) (fun ha => ?_) <;> simp only [↓WP, WQ, if_true, if_false, eq_self, implies_true, ne_eq, List.nil_append, List.cons_append, ↓reduceIte, Nat.reduceEqDiff, Nat.reduceBEq, reduceCtorEq, Nat.reduceAdd, resA, ret1, qv, lv, ev, boolA, binA, intA, shiftA, cmpA, beqA, lres, hs, e2, ha, hu1, h.len]
  rotate_left
  · exact ⟨boolF hb fun hh => ha ((an_set hA hf hxe).2 (hh.2 x hx0 hx hfx).1), hE⟩
  refine W_for 0 A.up.length (fun y e H'' => H'' = H' ∧ Sl e [(1, .int .i64 f), (2, .ptr r 0), (16, uv), (17, .int .i64 A.up.length), (18, .int .i64 x), (5, .int .i64 x), (33, .int .i64 A.up.length), (34, .int .i64 y)] ∧ allI y fun y => tb f y = true → tb f (A.tm x y) = true) (by omega) ⟨rfl, by simp only [↓WP, WQ, if_true, if_false, eq_self, implies_true, ne_eq, List.nil_append, List.cons_append, ↓reduceIte, Nat.reduceEqDiff, Nat.reduceBEq, reduceCtorEq, Nat.reduceAdd, resA, ret1, qv, lv, ev, boolA, binA, intA, shiftA, cmpA, beqA, lres, hs], allI_zero⟩ ?_
  rintro y e H'' hy0 hy1 ⟨rfl, hs, hi⟩
  simp only [Sl_cons, Sl_nil, and_true] at hs
  have hwy : IntKind.i64.wrap (y + 1) = y + 1 := wrap_id (by omega) (by omega)
  refine (Classical.em (y < A.up.length)).elim (fun hy => ?_) (fun hy => ?_) <;> simp only [↓WP, WQ, if_true, if_false, eq_self, implies_true, ne_eq, List.nil_append, List.cons_append, ↓reduceIte, Nat.reduceEqDiff, Nat.reduceBEq, reduceCtorEq, Nat.reduceAdd, resA, ret1, qv, lv, ev, boolA, binA, intA, shiftA, cmpA, beqA, lres, hs, hy]
  rotate_left
  · simp only [↓WP, WQ, if_true, if_false, eq_self, implies_true, ne_eq, List.nil_append, List.cons_append, ↓reduceIte, Nat.reduceEqDiff, Nat.reduceBEq, reduceCtorEq, Nat.reduceAdd, resA, ret1, qv, lv, ev, boolA, binA, intA, shiftA, cmpA, beqA, lres, hs, hw, hx]
    exact (allI_succ hx0).2 ⟨hr', fun _ => ⟨(an_set hA hf hxe).1 ha, fun k k0 k1 => hi k k0 (by omega)⟩⟩
  have hye : El A y := ⟨hy0, hy⟩
  refine has_c hy0 (fun hfy => ?_) (fun hfy => ?_) <;> simp only [↓WP, WQ, if_true, if_false, eq_self, implies_true, ne_eq, List.nil_append, List.cons_append, ↓reduceIte, Nat.reduceEqDiff, Nat.reduceBEq, reduceCtorEq, Nat.reduceAdd, resA, ret1, qv, lv, ev, boolA, binA, intA, shiftA, cmpA, beqA, lres, hs, hwy, hy]
  rotate_left
  · exact (allI_succ hy0).2 ⟨hi, fun hc => by rw [hc] at hfy; cases hfy⟩
  simp only [↓WP, WQ, if_true, if_false, eq_self, implies_true, ne_eq, List.nil_append, List.cons_append, ↓reduceIte, Nat.reduceEqDiff, Nat.reduceBEq, reduceCtorEq, Nat.reduceAdd, resA, ret1, qv, lv, ev, boolA, binA, intA, shiftA, cmpA, beqA, lres, hs, hu2, hT.idx hx0 hx, hT.at hx0 hx, hT.idx2 hx0 hx hy0 hy, hT.at2 hx0 hx hy0 hy]
  refine has_c (hA.te hxe hye).1 (fun hft => ?_) (fun hft => ?_) <;> simp only [↓WP, WQ, if_true, if_false, eq_self, implies_true, ne_eq, List.nil_append, List.cons_append, ↓reduceIte, Nat.reduceEqDiff, Nat.reduceBEq, reduceCtorEq, Nat.reduceAdd, resA, ret1, qv, lv, ev, boolA, binA, intA, shiftA, cmpA, beqA, lres, hs, hwy, hy]
  · exact (allI_succ hy0).2 ⟨hi, fun _ => hft⟩
  · exact ⟨boolF hb (fun hh => by rw [(hh.2 x hx0 hx hfx).2 y hy0 hy hfy] at hft; cases hft), hE⟩

theorem sisFilter_c {uv tv : AV} {A : Alg} {f : Int} (h : Ints H uv A.up) (hm : Mat H tv A.times) (hA : IsAlg A) {Q : AV → Hp → Prop} (hq1 : Set6 A f ∧ IsFil A f → Q (.bool true) H) (hq2 : ¬ (Set6 A f ∧ IsFil A f) → Q (.bool false) H) :
    ACalls Try.prog w0 84 [.agg [uv, tv], .int .i64 f] H Q := by
  refine quietB (fun b hb => ?_) hq1 hq2
  refine in84 ?_
  simp only [c84, ↓WP, WQ, if_true, if_false, eq_self, implies_true, ne_eq, List.nil_append, List.cons_append, ↓reduceIte, Nat.reduceEqDiff, Nat.reduceBEq, reduceCtorEq, Nat.reduceAdd, resA, ret1, qv, lv, ev, boolA, binA, intA, shiftA, cmpA, beqA, lres, cells_alg h.len hm.len]
  refine NewRowd_in fun r hr => ?_
  obtain ⟨hE, hu, hu1, hu2⟩ := box_facts (ty := 36) (uv := uv) (tv := tv) hr
  generalize H.set r ⟨36, true, [uv, tv]⟩ = G at *
  have h := h.ext hE
  have hm := hm.ext hE
  have hT : Tab G tv A := ⟨hm, hA.toSquare⟩
  have hn6 := hA.hi
  have hn1 := hA.lo
  have hwl : IntKind.i64.wrap ((A.up.length : Int) - 1) = A.up.length - 1 := wrap_id (by omega) (by omega)
  have hp := pow_le62 (n := A.up.length) (by omega)
  have hp0 : (1 : Int) ≤ 2 ^ A.up.length := by exact_mod_cast Nat.pow_pos (by omega)
  have hw2 : IntKind.i64.wrap ((2 : Int) ^ A.up.length - 1) = 2 ^ A.up.length - 1 := wrap_id (by omega) (by omega)
  simp only [↓WP, WQ, if_true, if_false, eq_self, implies_true, ne_eq, List.nil_append, List.cons_append, ↓reduceIte, Nat.reduceEqDiff, Nat.reduceBEq, reduceCtorEq, Nat.reduceAdd, resA, ret1, qv, lv, ev, boolA, binA, intA, shiftA, cmpA, beqA, lres, hu1, h.len]
  refine power_c _ (by omega) ?_
  simp only [↓WP, WQ, if_true, if_false, eq_self, implies_true, ne_eq, List.nil_append, List.cons_append, ↓reduceIte, Nat.reduceEqDiff, Nat.reduceBEq, reduceCtorEq, Nat.reduceAdd, resA, ret1, qv, lv, ev, boolA, binA, intA, shiftA, cmpA, beqA, lres, Int.toNat_natCast, hw2]
  refine inRange_c _ _ _ (fun hf => ?_) (fun hf => ?_) <;> simp only [↓WP, WQ, if_true, if_false, eq_self, implies_true, ne_eq, List.nil_append, List.cons_append, ↓reduceIte, Nat.reduceEqDiff, Nat.reduceBEq, reduceCtorEq, Nat.reduceAdd, resA, ret1, qv, lv, ev, boolA, binA, intA, shiftA, cmpA, beqA, lres, hwl]
  rotate_left
  · exact ⟨boolF hb fun hh => hf hh.1, hE⟩
  have hf : Set6 A f := hf
  have hfl := hf.lt hA
  refine bit_c _ _ hf.1 hfl (by omega) (by omega) (fun ht => ?_) (fun ht => ?_) <;> simp only [↓WP, WQ, if_true, if_false, eq_self, implies_true, ne_eq, List.nil_append, List.cons_append, ↓reduceIte, Nat.reduceEqDiff, Nat.reduceBEq, reduceCtorEq, Nat.reduceAdd, resA, ret1, qv, lv, ev, boolA, binA, intA, shiftA, cmpA, beqA, lres, Int.reduceEq]
  rotate_left
  · exact ⟨boolF hb (fun hh => by rw [hh.2.1] at ht; cases ht), hE⟩
  refine W_for 0 A.up.length (fun x e H' => H' = G ∧ Sl e [(1, .int .i64 f), (2, .ptr r 0), (5, .int .i64 A.up.length), (6, .int .i64 x)] ∧ allI x (FilP A f)) (by omega) ⟨rfl, by simp only [↓WP, WQ, if_true, if_false, eq_self, implies_true, ne_eq, List.nil_append, List.cons_append, ↓reduceIte, Nat.reduceEqDiff, Nat.reduceBEq, reduceCtorEq, Nat.reduceAdd, resA, ret1, qv, lv, ev, boolA, binA, intA, shiftA, cmpA, beqA, lres], allI_zero⟩ ?_
  rintro x e H' hx0 hx1 ⟨rfl, hs, hr'⟩
  simp only [Sl_cons, Sl_nil, and_true] at hs
  have hw : IntKind.i64.wrap (x + 1) = x + 1 := wrap_id (by omega) (by omega)
  refine (Classical.em (x < A.up.length)).elim (fun hx => ?_) (fun hx => ?_) <;> simp only [↓WP, WQ, if_true, if_false, eq_self, implies_true, ne_eq, List.nil_append, List.cons_append, ↓reduceIte, Nat.reduceEqDiff, Nat.reduceBEq, reduceCtorEq, Nat.reduceAdd, resA, ret1, qv, lv, ev, boolA, binA, intA, shiftA, cmpA, beqA, lres, hs, hx]
  rotate_left
  · have hxe : x = A.up.length := by omega
    subst hxe
    exact ⟨boolT hb ⟨hf, ht, hr'⟩, hE⟩
  have hxe : El A x := ⟨hx0, hx⟩
  refine W_for 0 A.up.length (fun y e H'' => H'' = H' ∧ Sl e [(1, .int .i64 f), (2, .ptr r 0), (5, .int .i64 A.up.length), (6, .int .i64 x), (7, .int .i64 y)] ∧ allI y fun y => tb f x = true → (bl A.up x y → tb f y = true) ∧ (tb f y = true → tb f (A.tm x y) = true)) (by omega) ⟨rfl, by simp only [↓WP, WQ, if_true, if_false, eq_self, implies_true, ne_eq, List.nil_append, List.cons_append, ↓reduceIte, Nat.reduceEqDiff, Nat.reduceBEq, reduceCtorEq, Nat.reduceAdd, resA, ret1, qv, lv, ev, boolA, binA, intA, shiftA, cmpA, beqA, lres, hs], allI_zero⟩ ?_
  rintro y e H'' hy0 hy1 ⟨rfl, hs, hi⟩
  simp only [Sl_cons, Sl_nil, and_true] at hs
  have hwy : IntKind.i64.wrap (y + 1) = y + 1 := wrap_id (by omega) (by omega)
  refine (Classical.em (y < A.up.length)).elim (fun hy => ?_) (fun hy => ?_) <;> simp only [↓WP, WQ, if_true, if_false, eq_self, implies_true, ne_eq, List.nil_append, List.cons_append, ↓reduceIte, Nat.reduceEqDiff, Nat.reduceBEq, reduceCtorEq, Nat.reduceAdd, resA, ret1, qv, lv, ev, boolA, binA, intA, shiftA, cmpA, beqA, lres, hs, hy]
  rotate_left
  · simp only [↓WP, WQ, if_true, if_false, eq_self, implies_true, ne_eq, List.nil_append, List.cons_append, ↓reduceIte, Nat.reduceEqDiff, Nat.reduceBEq, reduceCtorEq, Nat.reduceAdd, resA, ret1, qv, lv, ev, boolA, binA, intA, shiftA, cmpA, beqA, lres, hs, hw, hx]
    exact (allI_succ hx0).2 ⟨hr', fun hfx => ⟨fun k k0 k1 => (hi k k0 (by omega) hfx).1, fun k k0 k1 => (hi k k0 (by omega) hfx).2⟩⟩
  have hye : El A y := ⟨hy0, hy⟩
  have ok : (tb f x = true → (bl A.up x y → tb f y = true) ∧ (tb f y = true → tb f (A.tm x y) = true)) → allI (y + 1) fun y => tb f x = true → (bl A.up x y → tb f y = true) ∧ (tb f y = true → tb f (A.tm x y) = true) := fun hc => (allI_succ hy0).2 ⟨hi, hc⟩
  have no_ : ¬ (tb f x = true → (bl A.up x y → tb f y = true) ∧ (tb f y = true → tb f (A.tm x y) = true)) → AV.bool false = AV.bool b := fun hc => boolF hb fun hh => hc fun hfx => ⟨(hh.2.2 x hx0 hx hfx).1 y hy0 hy, (hh.2.2 x hx0 hx hfx).2 y hy0 hy⟩
  refine bit_c _ _ hf.1 hfl hx0 (by omega) (fun hfx => ?_) (fun hfx => ?_) <;> simp only [↓WP, WQ, if_true, if_false, eq_self, implies_true, ne_eq, List.nil_append, List.cons_append, ↓reduceIte, Nat.reduceEqDiff, Nat.reduceBEq, reduceCtorEq, Nat.reduceAdd, resA, ret1, qv, lv, ev, boolA, binA, intA, shiftA, cmpA, beqA, lres, hs, Int.reduceEq, hwy, hy]
  rotate_left
  · exact ok fun hc => by rw [hc] at hfx; cases hfx
  have tail : ∀ (hfy : tb f y = true), tb f (A.tm x y) = true → (tb f x = true → (bl A.up x y → tb f y = true) ∧ (tb f y = true → tb f (A.tm x y) = true)) := fun hfy h1 _ => ⟨fun _ => hfy, fun _ => h1⟩
  have hte := hA.te hxe hye
  simp only [↓WP, WQ, if_true, if_false, eq_self, implies_true, ne_eq, List.nil_append, List.cons_append, ↓reduceIte, Nat.reduceEqDiff, Nat.reduceBEq, reduceCtorEq, Nat.reduceAdd, resA, ret1, qv, lv, ev, boolA, binA, intA, shiftA, cmpA, beqA, lres, hu1, hs]
  refine sbelow_c h hA.rows62 hx0 hx hy0 (by omega) (fun hxy => ?_) (fun hxy => ?_) <;> simp only [↓WP, WQ, if_true, if_false, eq_self, implies_true, ne_eq, List.nil_append, List.cons_append, ↓reduceIte, Nat.reduceEqDiff, Nat.reduceBEq, reduceCtorEq, Nat.reduceAdd, resA, ret1, qv, lv, ev, boolA, binA, intA, shiftA, cmpA, beqA, lres, hs]
  · refine bit_c _ _ hf.1 hfl hy0 (by omega) (fun hfy => ?_) (fun hfy => ?_) <;> simp only [↓WP, WQ, if_true, if_false, eq_self, implies_true, ne_eq, List.nil_append, List.cons_append, ↓reduceIte, Nat.reduceEqDiff, Nat.reduceBEq, reduceCtorEq, Nat.reduceAdd, resA, ret1, qv, lv, ev, boolA, binA, intA, shiftA, cmpA, beqA, lres, hs, Int.reduceEq]
    · refine bit_c _ _ hf.1 hfl hy0 (by omega) (fun _ => ?_) (fun hfy' => absurd hfy (by rw [hfy']; simp)) <;> simp only [↓WP, WQ, if_true, if_false, eq_self, implies_true, ne_eq, List.nil_append, List.cons_append, ↓reduceIte, Nat.reduceEqDiff, Nat.reduceBEq, reduceCtorEq, Nat.reduceAdd, resA, ret1, qv, lv, ev, boolA, binA, intA, shiftA, cmpA, beqA, lres, hs, Int.reduceEq, hu2, hT.idx hx0 hx, hT.at hx0 hx, hT.idx2 hx0 hx hy0 hy, hT.at2 hx0 hx hy0 hy]
      refine bit_c _ _ hf.1 hfl hte.1 (by have := hte.2; omega) (fun hft => ?_) (fun hft => ?_) <;> simp only [↓WP, WQ, if_true, if_false, eq_self, implies_true, ne_eq, List.nil_append, List.cons_append, ↓reduceIte, Nat.reduceEqDiff, Nat.reduceBEq, reduceCtorEq, Nat.reduceAdd, resA, ret1, qv, lv, ev, boolA, binA, intA, shiftA, cmpA, beqA, lres, hs, Int.reduceEq, hwy, hy]
      · exact ok (tail hfy hft)
      · exact ⟨no_ (fun hc => by rw [(hc hfx).2 hfy] at hft; cases hft), hE⟩
    · exact ⟨no_ (fun hc => by rw [(hc hfx).1 hxy] at hfy; cases hfy), hE⟩
  · refine bit_c _ _ hf.1 hfl hy0 (by omega) (fun hfy => ?_) (fun hfy => ?_) <;> simp only [↓WP, WQ, if_true, if_false, eq_self, implies_true, ne_eq, List.nil_append, List.cons_append, ↓reduceIte, Nat.reduceEqDiff, Nat.reduceBEq, reduceCtorEq, Nat.reduceAdd, resA, ret1, qv, lv, ev, boolA, binA, intA, shiftA, cmpA, beqA, lres, hs, Int.reduceEq, hwy, hy, hu2, hT.idx hx0 hx, hT.at hx0 hx, hT.idx2 hx0 hx hy0 hy, hT.at2 hx0 hx hy0 hy]
    · refine bit_c _ _ hf.1 hfl hte.1 (by have := hte.2; omega) (fun hft => ?_) (fun hft => ?_) <;> simp only [↓WP, WQ, if_true, if_false, eq_self, implies_true, ne_eq, List.nil_append, List.cons_append, ↓reduceIte, Nat.reduceEqDiff, Nat.reduceBEq, reduceCtorEq, Nat.reduceAdd, resA, ret1, qv, lv, ev, boolA, binA, intA, shiftA, cmpA, beqA, lres, hs, Int.reduceEq, hwy, hy]
      · exact ok (tail hfy hft)
      · exact ⟨no_ (fun hc => by rw [(hc hfx).2 hfy] at hft; cases hft), hE⟩
    · exact ok fun _ => ⟨fun hc => absurd hc hxy, fun hc => by rw [hc] at hfy; cases hfy⟩
end Go.AL

/-
  Lists of numbers that fulfil a condition; lists of filters; the least filter with some elements.
-/
namespace Go.AL
open Go.Proofs
set_option linter.unusedSimpArgs false
set_option linter.unusedVariables false
variable {w0 : World} {H : Hp}

/-- The numbers below z that fulfil p, ascending. -/
noncomputable def sel (p : Int → Prop) : Nat → List Int
  | 0 => []
  | z + 1 => open Classical in if p z then sel p z ++ [(z : Int)] else sel p z
theorem sel_yes {p : Int → Prop} {z : Int} (h0 : 0 ≤ z) (h : p z) : sel p (z + 1).toNat = sel p z.toNat ++ [z] := by
  rw [show (z + 1).toNat = z.toNat + 1 by omega, sel, Int.toNat_of_nonneg h0, if_pos h]
theorem sel_no {p : Int → Prop} {z : Int} (h0 : 0 ≤ z) (h : ¬ p z) : sel p (z + 1).toNat = sel p z.toNat := by
  rw [show (z + 1).toNat = z.toNat + 1 by omega, sel, Int.toNat_of_nonneg h0, if_neg h]
theorem sel_len (p : Int → Prop) : ∀ z : Nat, (sel p z).length ≤ z
  | 0 => by simp [sel]
  | z + 1 => by
    have := sel_len p z
    simp only [sel]; split
    · simp only [List.length_append, List.length_cons, List.length_nil]; omega
    · omega
theorem sel_mem {p : Int → Prop} {k : Int} : ∀ {z : Nat}, k ∈ sel p z ↔ (0 ≤ k ∧ k < z) ∧ p k
  | 0 => by simp [sel]; omega
  | z + 1 => by
    have ih := sel_mem (p := p) (k := k) (z := z)
    simp only [sel]
    by_cases h : p z
    · rw [if_pos h, List.mem_append, ih, List.mem_singleton]
      constructor
      · rintro (⟨h1, h2⟩ | rfl)
        · exact ⟨by omega, h2⟩
        · exact ⟨by omega, h⟩
      · rintro ⟨h1, h2⟩
        by_cases hk : k = z
        · exact Or.inr hk
        · exact Or.inl ⟨by omega, h2⟩
    · rw [if_neg h, ih]
      constructor
      · rintro ⟨h1, h2⟩; exact ⟨by omega, h2⟩
      · rintro ⟨h1, h2⟩
        have : k ≠ z := by rintro rfl; exact h h2
        exact ⟨by omega, h2⟩
theorem sel_sorted (p : Int → Prop) : ∀ z : Nat, (sel p z).Pairwise (· < ·)
  | 0 => by simp [sel]
  | z + 1 => by
    have ih := sel_sorted p z
    simp only [sel]
    split
    · rw [List.pairwise_append]
      refine ⟨ih, by simp, fun a ha b hb => ?_⟩
      rw [sel_mem] at ha
      simp only [List.mem_singleton] at hb
      omega
    · exact ih
theorem sel_congr {p q : Int → Prop} {z : Nat} (h : ∀ k : Int, 0 ≤ k → k < z → (p k ↔ q k)) : sel p z = sel q z := by
  induction z with
  | zero => rfl
  | succ z ih =>
    simp only [sel]
    rw [ih fun k h0 h1 => h k h0 (by omega)]
    have := h z (by omega) (by omega)
    by_cases hp : p z
    · rw [if_pos hp, if_pos (this.1 hp)]
    · rw [if_neg hp, if_neg (fun hq => hp (this.2 hq))]
/-- An element of a list, by its index. -/
theorem getD_mem {l : List Int} {i : Int} (h0 : 0 ≤ i) (h1 : i < l.length) : l.getD i.toNat 0 ∈ l := by
  have : i.toNat < l.length := by omega
  rw [List.getD_eq_getElem?_getD, List.getElem?_eq_getElem this, Option.getD_some]
  exact List.getElem_mem this
theorem mem_getD {l : List Int} {x : Int} (h : x ∈ l) : ∃ i : Int, 0 ≤ i ∧ i < l.length ∧ l.getD i.toNat 0 = x := by
  obtain ⟨i, hi, rfl⟩ := List.mem_iff_getElem.1 h
  refine ⟨i, by omega, by omega, ?_⟩
  rw [Int.toNat_natCast, List.getD_eq_getElem?_getD, List.getElem?_eq_getElem hi, Option.getD_some]

/-! ### bits -/

theorem pow2_pos (n : Nat) : (0 : Int) < 2 ^ n := by exact_mod_cast Nat.pow_pos (by omega)
theorem tb_ones {n : Nat} (hn : n ≤ 62) {w : Int} (h0 : 0 ≤ w) (h1 : w < n) : tb (2 ^ n - 1) w = true := by
  have := pow2_pos n
  rw [tb_testBit (by omega) (by omega)]
  have e : ((2 : Int) ^ n - 1).toNat = 2 ^ n - 1 := by
    have : (2 : Int) ^ n - 1 = ((2 ^ n - 1 : Nat) : Int) := by rw [Int.ofNat_sub (Nat.pow_pos (by omega))]; push_cast; rfl
    rw [this, Int.toNat_natCast]
  rw [e, Nat.testBit_two_pow_sub_one]
  simp; omega
theorem bits_ext {n : Nat} (hn : n ≤ 62) {a b : Int} (ha : 0 ≤ a ∧ a ≤ 2 ^ n - 1) (hb : 0 ≤ b ∧ b ≤ 2 ^ n - 1) (h : ∀ w : Int, 0 ≤ w → w < n → tb a w = tb b w) : a = b := by
  have e : a.toNat = b.toNat := by
    apply Nat.eq_of_testBit_eq
    intro i
    by_cases hi : i < n
    · have := h i (by omega) (by omega)
      rw [tb_testBit ha.1 (by omega), tb_testBit hb.1 (by omega)] at this
      simpa using this
    · by_cases h64 : i ≤ 64
      · have h1 := tb_big (w := (i : Int)) ha.1 ha.2 (by omega) (by omega)
        have h2 := tb_big (w := (i : Int)) hb.1 hb.2 (by omega) (by omega)
        rw [tb_testBit ha.1 (by omega)] at h1
        rw [tb_testBit hb.1 (by omega)] at h2
        simp only [Int.toNat_natCast] at h1 h2
        rw [h1, h2]
      · have h3 : (2 : Nat) ^ n ≤ 2 ^ i := Nat.pow_le_pow_right (by omega) (by omega)
        have h4 : ((2 : Int) ^ n) = ((2 ^ n : Nat) : Int) := by push_cast; rfl
        rw [Nat.testBit_lt_two_pow (by omega), Nat.testBit_lt_two_pow (by omega)]
  omega
theorem tb_pow {n : Nat} (hn : n ≤ 62) {w : Int} (h0 : 0 ≤ w) (h1 : w ≤ 63) : tb (2 ^ n) w = decide (w = n) := by
  have := pow2_pos n
  rw [tb_testBit (by omega) (by omega)]
  have e : ((2 : Int) ^ n).toNat = 2 ^ n := by
    have : (2 : Int) ^ n = ((2 ^ n : Nat) : Int) := by push_cast; rfl
    rw [this, Int.toNat_natCast]
  rw [e, Nat.testBit_two_pow]
  congr 1
  simp only [eq_iff_iff]
  omega
theorem tb_addpow {n : Nat} (hn : n ≤ 61) {a w : Int} (ha : 0 ≤ a) (ha1 : a ≤ 2 ^ n - 1) (h0 : 0 ≤ w) (h1 : w ≤ n) : tb (a + 2 ^ n) w = if w = n then true else tb a w := by
  have hp := pow2_pos n
  rw [tb_testBit (by omega) (by omega), tb_testBit ha (by omega)]
  have e : (a + (2 : Int) ^ n).toNat = 2 ^ n + a.toNat := by
    have : (2 : Int) ^ n = ((2 ^ n : Nat) : Int) := by push_cast; rfl
    rw [this]; omega
  rw [e]
  by_cases hw : w = n
  · rw [if_pos hw, show w.toNat = n by omega, Nat.testBit_two_pow_add_eq]
    have h4 : ((2 : Int) ^ n) = ((2 ^ n : Nat) : Int) := by push_cast; rfl
    rw [Nat.testBit_lt_two_pow (by omega)]; rfl
  · rw [if_neg hw, Nat.testBit_two_pow_add_gt (by omega)]
theorem tb_sumP {p : Int → Prop} : ∀ {n : Nat}, n ≤ 61 → ∀ {w : Int}, 0 ≤ w → w < n → (tb (sumP p n) w = true ↔ p w)
  | 0, _, w, h0, h1 => by omega
  | n + 1, hn, w, h0, h1 => by
    have hr := sumP_rng p n
    simp only [sumP]
    by_cases hp : p n
    · rw [if_pos hp, tb_addpow (by omega) hr.1 hr.2 h0 (by omega)]
      by_cases hw : w = n
      · rw [if_pos hw, hw]; simp [hp]
      · rw [if_neg hw]; exact tb_sumP (by omega) h0 (by omega)
    · rw [if_neg hp]
      by_cases hw : w = n
      · rw [hw, tb_big hr.1 hr.2 (by omega) (by omega)]; simp [hp]
      · exact tb_sumP (by omega) h0 (by omega)

section
variable {A : Alg} (hA : IsAlg A)
include hA
theorem sub_an {f s : Int} (hf : Set6 A f) (hs : Set6 A s) : an s f = 0 ↔ allI A.up.length fun w => tb s w = true → tb f w = true := by
  have hn := hA.hi
  rw [an_zero hs.1 (hs.lt hA) hf.1 (hf.lt hA)]
  constructor
  · exact fun h w h0 h1 => h w h0 (by omega)
  · intro h w h0 h1 ht
    by_cases hw : w < A.up.length
    · exact h w h0 hw ht
    · rw [tb_big hs.1 hs.2 (by omega) (by omega)] at ht; cases ht
theorem and_set {f s : Int} (hf : Set6 A f) (hs : Set6 A s) : Set6 A (bitA (fun _ x y => x &&& y) .i64 f s) ∧ ∀ w : Int, 0 ≤ w → w < A.up.length → tb (bitA (fun _ x y => x &&& y) .i64 f s) w = (tb f w && tb s w) := by
  have hn := hA.hi
  rw [bitA_and hf.1 (hf.lt hA) hs.1 (hs.lt hA)]
  have h1 : f.toNat &&& s.toNat ≤ f.toNat := Nat.and_le_left
  refine ⟨⟨by omega, by have := hf.2; have := hf.1; omega⟩, fun w w0 w1 => tb_and hf.1 hs.1 (by omega)⟩
theorem and_eq {f s : Int} (hf : Set6 A f) (hs : Set6 A s) : bitA (fun _ x y => x &&& y) .i64 f s = s ↔ allI A.up.length fun w => tb s w = true → tb f w = true := by
  have hn := hA.hi
  obtain ⟨h1, h2⟩ := and_set hA hf hs
  constructor
  · intro h w w0 w1 ht
    have := h2 w w0 w1
    rw [h, ht] at this
    simpa using this.symm
  · intro h
    refine bits_ext (n := A.up.length) (by omega) h1 hs fun w w0 w1 => ?_
    rw [h2 w w0 w1]
    cases hs' : tb s w
    · simp
    · rw [h w w0 w1 hs']; rfl
end

/-! ### lists of filters -/

noncomputable def filL (A : Alg) : List Int := sel (IsFil A) (2 ^ A.up.length)
theorem filL_mem {A : Alg} {f : Int} : f ∈ filL A ↔ Set6 A f ∧ IsFil A f := by
  unfold filL Set6
  rw [sel_mem]
  have : (((2 ^ A.up.length : Nat)) : Int) = 2 ^ A.up.length := by push_cast; rfl
  rw [this]
  constructor
  · rintro ⟨h1, h2⟩; exact ⟨⟨h1.1, by omega⟩, h2⟩
  · rintro ⟨h1, h2⟩; exact ⟨⟨h1.1, by omega⟩, h2⟩
theorem filL_len {A : Alg} (hA : IsAlg A) : (filL A).length ≤ 64 := by
  have h1 := sel_len (IsFil A) (2 ^ A.up.length)
  have h2 : 2 ^ A.up.length ≤ 2 ^ 6 := Nat.pow_le_pow_right (by omega) hA.hi
  unfold filL; omega
theorem top_set {A : Alg} (hA : IsAlg A) : Set6 A (2 ^ A.up.length - 1) := ⟨by have := pow2_pos A.up.length; omega, by omega⟩
theorem all_fil {A : Alg} (hA : IsAlg A) : IsFil A (2 ^ A.up.length - 1) := by
  have hn := hA.hi
  refine ⟨tb_ones (by omega) (by have := hA.lo; omega) (by omega), fun x x0 x1 _ => ⟨fun y y0 y1 _ => tb_ones (by omega) y0 y1, fun y y0 y1 _ => ?_⟩⟩
  have := hA.te ⟨x0, x1⟩ ⟨y0, y1⟩
  exact tb_ones (by omega) this.1 this.2
theorem filL_pos {A : Alg} (hA : IsAlg A) : 1 ≤ (filL A).length := by
  have := filL_mem.2 ⟨top_set hA, all_fil hA⟩
  exact List.length_pos_of_mem this

end Go.AL

/-
  The functions that answer about filters.
-/
namespace Go.AL
open Go.Proofs
set_option linter.unusedSimpArgs false
set_option linter.unusedVariables false
variable {w0 : World} {H : Hp}

theorem quietI {P : Program} {f : Nat} {args : List AV} {n : Int} (key : ACalls P w0 f args H fun v' H' => v' = .int .i64 n ∧ Ext H H') {Q : AV → Hp → Prop} (hq : Q (.int .i64 n) H) : ACalls P w0 f args H Q :=
  quiet (.int .i64 n) rfl key hq

/-- A list, or nil. -/
def ListV (H H' : Hp) (c : Prop) (l : List Int) (v : AV) : Prop := (¬ c ∧ v = .nils ∧ Ext H H') ∨ (c ∧ ∃ r, v = .sl r 0 l.length ∧ Own no H H' [(r, LI l)])
theorem ListV.ints {H H' : Hp} {c : Prop} {l : List Int} {v : AV} (h : ListV H H' c l v) : Ext H H' ∧ ∃ l', (c → l' = l) ∧ (¬ c → l' = []) ∧ Ints H' v l' := by
  rcases h with ⟨h1, rfl, h2⟩ | ⟨h1, r, rfl, o⟩
  · exact ⟨h2, [], fun h => absurd h h1, fun _ => rfl, ⟨rfl, rfl⟩⟩
  · exact ⟨o.ext', l, fun _ => rfl, fun h => absurd h1 h, li_ints (o.get (i := 0) rfl)⟩

theorem setIn_c {uv tv : AV} {A : Alg} {f : Int} (h : Ints H uv A.up) (hm : Mat H tv A.times) (hS : Small A) {Q : AV → Hp → Prop} (hq1 : IsAlg A ∧ Set6 A f → Q (.bool true) H) (hq2 : ¬ (IsAlg A ∧ Set6 A f) → Q (.bool false) H) :
    ACalls Try.prog w0 140 [.agg [uv, tv], .int .i64 f] H Q := by
  refine quietB (fun b hb => ?_) hq1 hq2
  refine in140 ?_
  simp only [c140, ↓WP, WQ, if_true, if_false, eq_self, implies_true, ne_eq, List.nil_append, List.cons_append, ↓reduceIte, Nat.reduceEqDiff, Nat.reduceBEq, reduceCtorEq, Nat.reduceAdd, resA, ret1, qv, lv, ev, boolA, binA, intA, shiftA, cmpA, beqA, lres, cells_alg h.len hm.len]
  refine NewRowd_in fun r hr => ?_
  obtain ⟨hE, hu, hu1, hu2⟩ := box_facts (ty := 36) (uv := uv) (tv := tv) hr
  generalize H.set r ⟨36, true, [uv, tv]⟩ = G at *
  have h := h.ext hE
  have hm := hm.ext hE
  simp only [↓WP, WQ, if_true, if_false, eq_self, implies_true, ne_eq, List.nil_append, List.cons_append, ↓reduceIte, Nat.reduceEqDiff, Nat.reduceBEq, reduceCtorEq, Nat.reduceAdd, resA, ret1, qv, lv, ev, boolA, binA, intA, shiftA, cmpA, beqA, lres, hu]
  refine ValidAlgebra_c h hm hS (fun hA => ?_) (fun hA => ?_)
  rotate_left
  · simp only [↓WP, WQ, if_true, if_false, eq_self, implies_true, ne_eq, List.nil_append, List.cons_append, ↓reduceIte, Nat.reduceEqDiff, Nat.reduceBEq, reduceCtorEq, Nat.reduceAdd, resA, ret1, qv, lv, ev, boolA, binA, intA, shiftA, cmpA, beqA, lres]; exact ⟨boolF hb fun hh => hA hh.1, hE⟩
  have hn6 := hA.hi
  have hn0 : ¬ ((A.up.length : Int) < 0) := by omega
  have hsh := shl_one (n := A.up.length) (by omega)
  have hp := pow_le62 (n := A.up.length) (by omega)
  have hp0 := pow2_pos A.up.length
  have hw2 : IntKind.i64.wrap ((2 : Int) ^ A.up.length - 1) = 2 ^ A.up.length - 1 := wrap_id (by omega) (by omega)
  simp only [↓WP, WQ, if_true, if_false, eq_self, implies_true, ne_eq, List.nil_append, List.cons_append, ↓reduceIte, Nat.reduceEqDiff, Nat.reduceBEq, reduceCtorEq, Nat.reduceAdd, resA, ret1, qv, lv, ev, boolA, binA, intA, shiftA, cmpA, beqA, lres, hu1, h.len, hn0, hsh, hw2]
  refine within_c _ _ _ (fun hf => ?_) (fun hf => ?_) <;> simp only [↓WP, WQ, if_true, if_false, eq_self, implies_true, ne_eq, List.nil_append, List.cons_append, ↓reduceIte, Nat.reduceEqDiff, Nat.reduceBEq, reduceCtorEq, Nat.reduceAdd, resA, ret1, qv, lv, ev, boolA, binA, intA, shiftA, cmpA, beqA, lres]
  · exact ⟨boolT hb ⟨hA, hf⟩, hE⟩
  · exact ⟨boolF hb fun hh => hf hh.2, hE⟩

theorem IsFilter_c {uv tv : AV} {A : Alg} {f : Int} (h : Ints H uv A.up) (hm : Mat H tv A.times) (hS : Small A) {Q : AV → Hp → Prop} (hq1 : IsAlg A ∧ Set6 A f ∧ IsFil A f → Q (.bool true) H) (hq2 : ¬ (IsAlg A ∧ Set6 A f ∧ IsFil A f) → Q (.bool false) H) :
    ACalls Try.prog w0 86 [.agg [uv, tv], .int .i64 f] H Q := by
  refine quietB (fun b hb => ?_) hq1 hq2
  refine in86 ?_
  simp only [c86, ↓WP, WQ, if_true, if_false, eq_self, implies_true, ne_eq, List.nil_append, List.cons_append, ↓reduceIte, Nat.reduceEqDiff, Nat.reduceBEq, reduceCtorEq, Nat.reduceAdd, resA, ret1, qv, lv, ev, boolA, binA, intA, shiftA, cmpA, beqA, lres, cells_alg h.len hm.len]
  refine NewRowd_in fun r hr => ?_
  obtain ⟨hE, hu, hu1, hu2⟩ := box_facts (ty := 36) (uv := uv) (tv := tv) hr
  generalize H.set r ⟨36, true, [uv, tv]⟩ = G at *
  have h := h.ext hE
  have hm := hm.ext hE
  simp only [↓WP, WQ, if_true, if_false, eq_self, implies_true, ne_eq, List.nil_append, List.cons_append, ↓reduceIte, Nat.reduceEqDiff, Nat.reduceBEq, reduceCtorEq, Nat.reduceAdd, resA, ret1, qv, lv, ev, boolA, binA, intA, shiftA, cmpA, beqA, lres, hu]
  refine setIn_c h hm hS (fun hA => ?_) (fun hA => ?_) <;> simp only [↓WP, WQ, if_true, if_false, eq_self, implies_true, ne_eq, List.nil_append, List.cons_append, ↓reduceIte, Nat.reduceEqDiff, Nat.reduceBEq, reduceCtorEq, Nat.reduceAdd, resA, ret1, qv, lv, ev, boolA, binA, intA, shiftA, cmpA, beqA, lres, hu]
  · refine isFilter_c h hm hA.1 hA.2 (fun hf => ?_) (fun hf => ?_) <;> simp only [↓WP, WQ, if_true, if_false, eq_self, implies_true, ne_eq, List.nil_append, List.cons_append, ↓reduceIte, Nat.reduceEqDiff, Nat.reduceBEq, reduceCtorEq, Nat.reduceAdd, resA, ret1, qv, lv, ev, boolA, binA, intA, shiftA, cmpA, beqA, lres]
    · exact ⟨boolT hb ⟨hA.1, hA.2, hf⟩, hE⟩
    · exact ⟨boolF hb fun hh => hf hh.2.2, hE⟩
  · exact ⟨boolF hb fun hh => hA ⟨hh.1, hh.2.1⟩, hE⟩
/-! ### the least filter with some elements -/

/-- All elements of s are elements of f. -/
def SubS (A : Alg) (s f : Int) : Prop := allI A.up.length fun w => tb s w = true → tb f w = true
noncomputable def genF (A : Alg) (s : Int) : Int := sumP (fun w => ∀ f, Set6 A f → IsFil A f → SubS A s f → tb f w = true) A.up.length
theorem genF_set (A : Alg) (s : Int) : Set6 A (genF A s) := sumP_rng _ _
theorem genF_bit {A : Alg} (hA : IsAlg A) {s w : Int} (hw : El A w) : tb (genF A s) w = true ↔ ∀ f, Set6 A f → IsFil A f → SubS A s f → tb f w = true :=
  tb_sumP (by have := hA.hi; omega) hw.1 hw.2

/-- What the loops over the list of filters keep. -/
def GenI (A : Alg) (s : Int) (l : List Int) (i out : Int) : Prop := Set6 A out ∧ allI A.up.length fun w => (tb out w = true ↔ ∀ j : Int, 0 ≤ j → j < i → SubS A s (l.getD j.toNat 0) → tb (l.getD j.toNat 0) w = true)
theorem GenI.zero {A : Alg} (hA : IsAlg A) (s : Int) (l : List Int) : GenI A s l 0 (2 ^ A.up.length - 1) :=
  ⟨top_set hA, fun w w0 w1 => ⟨fun _ j j0 j1 => by omega, fun _ => tb_ones (by have := hA.hi; omega) w0 w1⟩⟩
theorem GenI.skip {A : Alg} {s i out : Int} {l : List Int} (h0 : 0 ≤ i) (h : GenI A s l i out) (hs : ¬ SubS A s (l.getD i.toNat 0)) : GenI A s l (i + 1) out :=
  ⟨h.1, fun w w0 w1 => (h.2 w w0 w1).trans ⟨fun k j j0 j1 hj => by
    by_cases e : j = i
    · subst e; exact absurd hj hs
    · exact k j j0 (by omega) hj, fun k j j0 j1 hj => k j j0 (by omega) hj⟩⟩
theorem GenI.take {A : Alg} (hA : IsAlg A) {s i out : Int} {l : List Int} (h0 : 0 ≤ i) (h : GenI A s l i out) (hf : Set6 A (l.getD i.toNat 0)) (hs : SubS A s (l.getD i.toNat 0)) :
    GenI A s l (i + 1) (bitA (fun _ x y => x &&& y) .i64 out (l.getD i.toNat 0)) := by
  obtain ⟨h1, h2⟩ := and_set hA h.1 hf
  refine ⟨h1, fun w w0 w1 => ?_⟩
  have e := h.2 w w0 w1
  simp only at e ⊢
  rw [h2 w w0 w1, Bool.and_eq_true, e]
  constructor
  · rintro ⟨k1, k2⟩ j j0 j1 hj
    by_cases e : j = i
    · subst e; exact k2
    · exact k1 j j0 (by omega) hj
  · exact fun k => ⟨fun j j0 j1 hj => k j j0 (by omega) hj, k i h0 (by omega) hs⟩
theorem GenI.fin {A : Alg} (hA : IsAlg A) {s out : Int} (h : GenI A s (filL A) (filL A).length out) : out = genF A s := by
  refine bits_ext (n := A.up.length) (by have := hA.hi; omega) h.1 (genF_set A s) fun w w0 w1 => ?_
  have e := h.2 w w0 w1
  simp only at e
  rw [Bool.eq_iff_iff, e, genF_bit hA ⟨w0, w1⟩]
  constructor
  · intro k f h1 h2 h3
    obtain ⟨j, j0, j1, rfl⟩ := mem_getD (filL_mem.2 ⟨h1, h2⟩)
    exact k j j0 j1 h3
  · intro k j j0 j1 hj
    have := filL_mem.1 (getD_mem j0 j1)
    exact k _ this.1 this.2 hj

theorem ascends_c {v : AV} {l : List Int} (h : Ints H v l) (hn : l.length < 4611686018427387904) (hs : l.Pairwise (· < ·)) {Q : AV → Hp → Prop} (hq : Q (.bool true) H) : ACalls Try.prog w0 55 [v] H Q := by
  refine in55 ?_
  simp only [c55, ↓WP, WQ, if_true, if_false, eq_self, implies_true, ne_eq, List.nil_append, List.cons_append, ↓reduceIte, Nat.reduceEqDiff, Nat.reduceBEq, reduceCtorEq, Nat.reduceAdd, resA, ret1, qv, lv, ev, boolA, binA, intA, shiftA, cmpA, beqA, lres]
  refine W_for 1 (max 1 (l.length : Int)) (fun i e H' => H' = H ∧ Sl e [(0, v), (3, .int .i64 i)]) (by omega) ⟨rfl, by simp only [↓WP, WQ, if_true, if_false, eq_self, implies_true, ne_eq, List.nil_append, List.cons_append, ↓reduceIte, Nat.reduceEqDiff, Nat.reduceBEq, reduceCtorEq, Nat.reduceAdd, resA, ret1, qv, lv, ev, boolA, binA, intA, shiftA, cmpA, beqA, lres]⟩ ?_
  rintro i e H' hi0 hi1 ⟨rfl, hs'⟩
  simp only [Sl_cons, Sl_nil, and_true] at hs'
  have hw : IntKind.i64.wrap (i + 1) = i + 1 := wrap_id (by omega) (by omega)
  have hw1 : IntKind.i64.wrap (i - 1) = i - 1 := wrap_id (by omega) (by omega)
  refine (Classical.em (i < l.length)).elim (fun hi => ?_) (fun hi => ?_) <;> simp only [↓WP, WQ, if_true, if_false, eq_self, implies_true, ne_eq, List.nil_append, List.cons_append, ↓reduceIte, Nat.reduceEqDiff, Nat.reduceBEq, reduceCtorEq, Nat.reduceAdd, resA, ret1, qv, lv, ev, boolA, binA, intA, shiftA, cmpA, beqA, lres, hs', h.len, hi]
  · refine DR_in (fun _ => True) rfl ?_
    have hlt : l.getD (i - 1).toNat 0 < l.getD i.toNat 0 := by
      rw [List.pairwise_iff_getElem] at hs
      have := hs (i - 1).toNat i.toNat (by omega) (by omega) (by omega)
      rw [List.getD_eq_getElem?_getD, List.getElem?_eq_getElem (by omega), List.getD_eq_getElem?_getD, List.getElem?_eq_getElem (by omega)]
      exact this
    have hle : ¬ l.getD i.toNat 0 ≤ l.getD (i - 1).toNat 0 := by omega
    simp only [↓WP, WQ, if_true, if_false, eq_self, implies_true, ne_eq, List.nil_append, List.cons_append, ↓reduceIte, Nat.reduceEqDiff, Nat.reduceBEq, reduceCtorEq, Nat.reduceAdd, resA, ret1, qv, lv, ev, boolA, binA, intA, shiftA, cmpA, beqA, lres, hs', hw1, h.idx (show 0 ≤ i by omega) hi, h.at (show i.toNat < l.length by omega), h.idx (show 0 ≤ i - 1 by omega) (show i - 1 < l.length by omega), h.at (show (i - 1).toNat < l.length by omega), hle, hw]
    omega
  · exact hq
end Go.AL

/-
  What the laws on filters draw.
-/
namespace Go.AL
open Go.Proofs
set_option linter.unusedSimpArgs false
set_option linter.unusedVariables false
variable {w0 : World} {H : Hp}

end Go.AL

/-
  Plain laws of filters.
-/
namespace Go.AL
open Go.Proofs
set_option linter.unusedSimpArgs false
set_option linter.unusedVariables false
set_option linter.unusedSectionVars false

section
variable {A : Alg} (hA : IsAlg A)
include hA
theorem fil_up {f x y : Int} (hf : IsFil A f) (hx : El A x) (hy : El A y) (h1 : tb f x = true) (h2 : bl A.up x y) : tb f y = true := (hf.2 x hx.1 hx.2 h1).1 y hy.1 hy.2 h2
theorem fil_mul {f x y : Int} (hf : IsFil A f) (hx : El A x) (hy : El A y) (h1 : tb f x = true) (h2 : tb f y = true) : tb f (A.tm x y) = true := (hf.2 x hx.1 hx.2 h1).2 y hy.1 hy.2 h2
theorem fil_mk {f : Int} (h1 : tb f (A.up.length - 1) = true) (h2 : ∀ x y, El A x → El A y → tb f x = true → bl A.up x y → tb f y = true) (h3 : ∀ x y, El A x → El A y → tb f x = true → tb f y = true → tb f (A.tm x y) = true) : IsFil A f :=
  ⟨h1, fun x x0 x1 hx => ⟨fun y y0 y1 hy => h2 x y ⟨x0, x1⟩ ⟨y0, y1⟩ hx hy, fun y y0 y1 hy => h3 x y ⟨x0, x1⟩ ⟨y0, y1⟩ hx hy⟩⟩
theorem gen_fil (s : Int) : IsFil A (genF A s) := by
  refine fil_mk hA ?_ ?_ ?_
  · exact (genF_bit hA hA.e1).2 fun f _ hf _ => hf.1
  · intro x y hx hy h1 h2
    rw [genF_bit hA hx] at h1
    exact (genF_bit hA hy).2 fun f hs hf hsub => fil_up hA hf hx hy (h1 f hs hf hsub) h2
  · intro x y hx hy h1 h2
    rw [genF_bit hA hx] at h1
    rw [genF_bit hA hy] at h2
    exact (genF_bit hA (hA.te hx hy)).2 fun f hs hf hsub => fil_mul hA hf hx hy (h1 f hs hf hsub) (h2 f hs hf hsub)
theorem gen_sub (s : Int) : SubS A s (genF A s) := fun w w0 w1 h => (genF_bit hA ⟨w0, w1⟩).2 fun f _ _ hsub => hsub w w0 w1 h
theorem gen_self {f : Int} (hs : Set6 A f) (hf : IsFil A f) : genF A f = f := by
  refine bits_ext (n := A.up.length) (by have := hA.hi; omega) (genF_set A f) hs fun w w0 w1 => ?_
  rw [Bool.eq_iff_iff, genF_bit hA ⟨w0, w1⟩]
  exact ⟨fun h => h f hs hf fun _ _ _ h => h, fun h g _ _ hsub => hsub w w0 w1 h⟩
theorem and_fil {f g : Int} (sf : Set6 A f) (sg : Set6 A g) (hf : IsFil A f) (hg : IsFil A g) : IsFil A (bitA (fun _ x y => x &&& y) .i64 f g) := by
  obtain ⟨_, h⟩ := and_set hA sf sg
  have h' : ∀ {x : Int}, El A x → (tb (bitA (fun _ x y => x &&& y) .i64 f g) x = true ↔ tb f x = true ∧ tb g x = true) := fun hx => by rw [h _ hx.1 hx.2, Bool.and_eq_true]
  refine fil_mk hA ?_ ?_ ?_
  · exact (h' hA.e1).2 ⟨hf.1, hg.1⟩
  · intro x y hx hy h1 h2
    rw [h' hx] at h1
    exact (h' hy).2 ⟨fil_up hA hf hx hy h1.1 h2, fil_up hA hg hx hy h1.2 h2⟩
  · intro x y hx hy h1 h2
    rw [h' hx] at h1
    rw [h' hy] at h2
    exact (h' (hA.te hx hy)).2 ⟨fil_mul hA hf hx hy h1.1 h2.1, fil_mul hA hg hx hy h1.2 h2.2⟩
theorem pow_set {x : Int} (hx : El A x) : Set6 A (2 ^ x.toNat) := by
  refine ⟨by have := pow2_pos x.toNat; omega, ?_⟩
  have h1 : (2 : Int) ^ (x.toNat + 1) ≤ 2 ^ A.up.length := by exact_mod_cast Nat.pow_le_pow_right (by omega) (by have := hx.2; have := hx.1; omega)
  rw [Int.pow_succ] at h1
  have := pow2_pos x.toNat
  omega
theorem pow_bit {x w : Int} (hx : El A x) (hw : El A w) : tb (2 ^ x.toNat) w = true ↔ w = x := by
  have := hA.hi
  rw [tb_pow (by have := hx.2; omega) hw.1 (by have := hw.2; omega), decide_eq_true_eq]
  have := hx.1; omega
theorem top_fil : IsFil A (2 ^ ((A.up.length : Int) - 1).toNat) := by
  refine fil_mk hA ?_ ?_ ?_
  · exact (pow_bit hA hA.e1 hA.e1).2 rfl
  · intro x y hx hy h1 h2
    rw [pow_bit hA hA.e1 hx] at h1
    subst h1
    exact (pow_bit hA hA.e1 hy).2 (hA.top_eq hy h2)
  · intro x y hx hy h1 h2
    rw [pow_bit hA hA.e1 hx] at h1
    rw [pow_bit hA hA.e1 hy] at h2
    subst h1; subst h2
    exact (pow_bit hA hA.e1 (hA.te hA.e1 hA.e1)).2 (hA.t1 hA.e1)
end
end Go.AL

/-
  Plain laws of powers; the filter of one element; how many bits a number has.
-/
namespace Go.AL
open Go.Proofs
set_option linter.unusedSimpArgs false
set_option linter.unusedVariables false
set_option linter.unusedSectionVars false

/-- How many numbers below z fulfil p. -/
noncomputable def cnt (p : Int → Prop) : Nat → Nat
  | 0 => 0
  | z + 1 => open Classical in if p z then cnt p z + 1 else cnt p z
theorem cnt_le (p : Int → Prop) : ∀ z, cnt p z ≤ z
  | 0 => by simp [cnt]
  | z + 1 => by have := cnt_le p z; simp only [cnt]; split <;> omega
theorem cnt_mono {p q : Int → Prop} : ∀ {z : Nat}, (∀ i : Int, 0 ≤ i → i < z → p i → q i) → cnt p z ≤ cnt q z
  | 0, _ => by simp [cnt]
  | z + 1, h => by
    have ih := cnt_mono (p := p) (q := q) (z := z) fun i h0 h1 => h i h0 (by omega)
    have hz := h z (by omega) (by omega)
    simp only [cnt]
    by_cases hp : p z
    · rw [if_pos hp, if_pos (hz hp)]; omega
    · rw [if_neg hp]; split <;> omega
theorem cnt_lt {p q : Int → Prop} : ∀ {z : Nat}, (∀ i : Int, 0 ≤ i → i < z → p i → q i) → (∃ w : Int, 0 ≤ w ∧ w < z ∧ q w ∧ ¬ p w) → cnt p z < cnt q z
  | 0, _, ⟨w, w0, w1, _⟩ => by omega
  | z + 1, h, ⟨w, w0, w1, hq, hp⟩ => by
    have hz := h z (by omega) (by omega)
    by_cases e : w = z
    · subst e
      have := cnt_mono (p := p) (q := q) (z := z) fun i h0 h1 => h i h0 (by omega)
      simp only [cnt]
      rw [if_neg hp, if_pos hq]; omega
    · have ih := cnt_lt (p := p) (q := q) (z := z) (fun i h0 h1 => h i h0 (by omega)) ⟨w, w0, by omega, hq, hp⟩
      simp only [cnt]
      by_cases hp' : p z
      · rw [if_pos hp', if_pos (hz hp')]; omega
      · rw [if_neg hp']; split <;> omega

section
variable {A : Alg} (hA : IsAlg A) {x : Int} (hx : El A x)
include hA hx
theorem pow_e (k : Nat) : El A (powF A x k) := powF_rng hA hx.1 hx.2 k
theorem pow_s (k : Nat) : powF A x (k + 1) = A.tm (powF A x k) x := by
  have := powF_succ (A := A) (x := x) (z := (k : Int)) (by omega)
  rwa [show ((k : Int) + 1).toNat = k + 1 by omega, Int.toNat_natCast] at this
theorem pow_dec (k : Nat) : bl A.up (powF A x (k + 1)) (powF A x k) := by
  rw [pow_s hA hx]; exact hA.tl (pow_e hA hx k) hx
theorem pow_le {j : Nat} : ∀ k, bl A.up (powF A x (j + k)) (powF A x j)
  | 0 => hA.r (pow_e hA hx j)
  | k + 1 => hA.tr (pow_e hA hx _) (pow_e hA hx _) (pow_e hA hx _) (pow_dec hA hx (j + k)) (pow_le k)
theorem pow_stable {k : Nat} (h : powF A x k = powF A x (k + 1)) : ∀ m, powF A x (k + m) = powF A x k
  | 0 => rfl
  | m + 1 => by
    rw [← Nat.add_assoc, pow_s hA hx, pow_stable h m, ← pow_s hA hx, ← h]
theorem pow_stab : ∃ k, k < A.up.length ∧ powF A x k = powF A x (k + 1) := by
  by_cases hex : ∃ k, k < A.up.length ∧ powF A x k = powF A x (k + 1)
  · exact hex
  · exfalso
    have key : ∀ k, k ≤ A.up.length → k + 1 ≤ cnt (fun y => bl A.up (powF A x k) y) A.up.length := by
      intro k
      induction k with
      | zero =>
        intro _
        have h0 := cnt_lt (p := fun _ => False) (q := fun y => bl A.up (powF A x 0) y) (z := A.up.length) (fun _ _ _ h => h.elim) ⟨_, (pow_e hA hx 0).1, (pow_e hA hx 0).2, hA.r (pow_e hA hx 0), fun h => h⟩
        omega
      | succ k ih =>
        intro hk
        have ih := ih (by omega)
        have h1 := cnt_lt (p := fun y => bl A.up (powF A x k) y) (q := fun y => bl A.up (powF A x (k + 1)) y) (z := A.up.length) (fun i i0 i1 hi => hA.tr (pow_e hA hx _) (pow_e hA hx _) ⟨i0, i1⟩ (pow_dec hA hx k) hi)
          ⟨_, (pow_e hA hx (k + 1)).1, (pow_e hA hx (k + 1)).2, hA.r (pow_e hA hx _), fun h => hex ⟨k, by omega, hA.as (pow_e hA hx _) (pow_e hA hx _) h (pow_dec hA hx k)⟩⟩
        omega
    have h1 := key A.up.length (Nat.le_refl _)
    have h2 := cnt_le (fun y => bl A.up (powF A x A.up.length) y) A.up.length
    omega
theorem pow_fix (m : Nat) : powF A x (A.up.length + m) = powF A x A.up.length := by
  obtain ⟨k, hk, h⟩ := pow_stab hA hx
  have e := pow_stable hA hx h
  rw [show A.up.length + m = k + (A.up.length + m - k) by omega, e, show A.up.length = k + (A.up.length - k) by omega, e]
theorem pow_add (j : Nat) : ∀ k, powF A x (j + k) = A.tm (powF A x j) (powF A x k)
  | 0 => by
    show powF A x j = A.tm (powF A x j) (A.up.length - 1)
    rw [hA.t1 (pow_e hA hx j)]
  | k + 1 => by
    rw [← Nat.add_assoc, pow_s hA hx, pow_add j k, pow_s hA hx k, hA.ta (pow_e hA hx j) (pow_e hA hx k) hx]
theorem pow_idem : A.tm (powF A x A.up.length) (powF A x A.up.length) = powF A x A.up.length := by
  rw [← pow_add hA hx, pow_fix hA hx]
theorem pow_in {f : Int} (hf : IsFil A f) (hfx : tb f x = true) : ∀ k, tb f (powF A x k) = true
  | 0 => hf.1
  | k + 1 => by rw [pow_s hA hx]; exact fil_mul hA hf (pow_e hA hx k) hx (pow_in hf hfx k) hfx
/-- The filter of one element: what is at least a power. -/
theorem gen_one {y : Int} (hy : El A y) : tb (genF A (2 ^ x.toNat)) y = true ↔ bl A.up (powF A x A.up.length) y := by
  have hn := hA.hi
  have hpe := pow_e hA hx A.up.length
  constructor
  · intro h
    rw [genF_bit hA hy] at h
    have bit : ∀ {w : Int}, El A w → (tb (sumP (fun w => bl A.up (powF A x A.up.length) w) A.up.length) w = true ↔ bl A.up (powF A x A.up.length) w) := fun hw => tb_sumP (by omega) hw.1 hw.2
    refine (bit hy).1 (h _ (sumP_rng _ _) ?_ ?_)
    · refine fil_mk hA ((bit hA.e1).2 (hA.t hpe)) ?_ ?_
      · intro u v hu hv h1 h2
        rw [bit hu] at h1
        exact (bit hv).2 (hA.tr hpe hu hv h1 h2)
      · intro u v hu hv h1 h2
        rw [bit hu] at h1
        rw [bit hv] at h2
        refine (bit (hA.te hu hv)).2 ?_
        rw [← pow_idem hA hx]
        exact hA.mono2 hpe hu hpe hv h1 h2
    · intro w w0 w1 hw
      rw [pow_bit hA hx ⟨w0, w1⟩] at hw
      subst hw
      refine (bit hx).2 ?_
      have e : powF A w A.up.length = A.tm (powF A w (A.up.length - 1)) w := by rw [← pow_s hA hx, show A.up.length - 1 + 1 = A.up.length by have := hA.lo; omega]
      rw [e]
      exact hA.tr' (pow_e hA hx _) hx
  · intro h
    refine (genF_bit hA hy).2 fun f _ hf hsub => ?_
    have hfx := hsub x hx.1 hx.2 ((pow_bit hA hx hx).2 rfl)
    exact fil_up hA hf hpe hy (pow_in hA hx hf hfx _) h
end

/-- How many bits of a number are 1. -/
def wt (m : Nat) : Nat := if h : m = 0 then 0 else m % 2 + wt (m / 2)
termination_by m
decreasing_by omega
theorem wt_zero : wt 0 = 0 := by rw [wt]; simp
theorem wt_step {m : Nat} (h : 0 < m) : wt m = m % 2 + wt (m / 2) := by
  rw [wt, dif_neg (by omega)]
theorem wt_le (m : Nat) : wt m ≤ m := by
  induction m using Nat.strongRecOn with
  | _ m ih =>
    by_cases h : m = 0
    · subst h; rw [wt_zero]; omega
    · have := ih (m / 2) (by omega)
      rw [wt_step (by omega)]; omega
theorem wt_none {m : Nat} (h : wt m = 0) : m = 0 := by
  induction m using Nat.strongRecOn with
  | _ m ih =>
    by_cases h0 : m = 0
    · exact h0
    · rw [wt_step (by omega)] at h
      have := ih (m / 2) (by omega) (by omega)
      omega
theorem wt_one {m i : Nat} (h : wt m = 1) (hi : m.testBit i = true) : m = 2 ^ i := by
  induction m using Nat.strongRecOn generalizing i with
  | _ m ih =>
    by_cases h0 : m = 0
    · subst h0; simp at hi
    · rw [wt_step (by omega)] at h
      by_cases hb : m % 2 = 1
      · have := wt_none (m := m / 2) (by omega)
        have hm : m = 1 := by omega
        subst hm
        cases i with
        | zero => rfl
        | succ i => simp [Nat.testBit_succ] at hi
      · cases i with
        | zero => rw [Nat.testBit_zero] at hi; simp at hi; omega
        | succ i =>
          rw [Nat.testBit_succ] at hi
          have := ih (m / 2) (by omega) (by omega) hi
          rw [Nat.pow_succ]; omega
end Go.AL
