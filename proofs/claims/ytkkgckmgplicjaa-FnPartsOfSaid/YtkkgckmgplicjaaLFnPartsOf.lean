/-
  The given statement FnPartsOfSaid is proved: for every input the law FnPartsOf returns true, and each argument reads as it did before the call. Conditions: none beyond the given row.
-/
import Derived.Test.YtkkgckmgplicjaaM4
import Derived.Test.YtkkgckmgplicjaaM3
import Derived.Test.YtkkgckmgplicjaaM1
import Derived.Test.YtkkgckmgplicjaaRows
/-
  Parts of an algebra: sets that are closed.
-/
namespace Go.AL
open Go.Proofs
set_option linter.unusedSimpArgs false
set_option linter.unusedVariables false
set_option linter.unusedSectionVars false
variable {w0 : World} {H : Hp}

def PP (A : Alg) (p x y : Int) : Prop := tb p x = true → tb p y = true → tb p (A.tm x y) = true ∧ tb p (impF A x y) = true ∧ tb p (meetF A.up x y) = true ∧ tb p (joinF A.up x y) = true
def IsPart (A : Alg) (p : Int) : Prop := tb p 0 = true ∧ tb p (A.up.length - 1) = true ∧ allI A.up.length fun x => allI A.up.length fun y => PP A p x y
noncomputable def partL (A : Alg) : List Int := sel (IsPart A) (2 ^ A.up.length)
theorem partL_mem {A : Alg} {f : Int} : f ∈ partL A ↔ Set6 A f ∧ IsPart A f := by
  unfold partL Set6
  rw [sel_mem]
  have : (((2 ^ A.up.length : Nat)) : Int) = 2 ^ A.up.length := by push_cast; rfl
  rw [this]
  constructor
  · rintro ⟨h1, h2⟩; exact ⟨⟨h1.1, by omega⟩, h2⟩
  · rintro ⟨h1, h2⟩; exact ⟨⟨h1.1, by omega⟩, h2⟩
theorem partL_len {A : Alg} (hA : IsAlg A) : (partL A).length ≤ 64 := by
  have h1 := sel_len (IsPart A) (2 ^ A.up.length)
  have h2 : 2 ^ A.up.length ≤ 2 ^ 6 := Nat.pow_le_pow_right (by omega) hA.hi
  unfold partL; omega

theorem isPart_c {uv tv : AV} {A : Alg} {p : Int} (h : Ints H uv A.up) (hm : Mat H tv A.times) (hA : IsAlg A) (hp : Set6 A p) {Q : AV → Hp → Prop} (ht : IsPart A p → Q (.bool true) H) (hf : ¬ IsPart A p → Q (.bool false) H) :
    ACalls Try.prog w0 109 [.agg [uv, tv], .int .i64 p] H Q := by
  refine quietB (fun b hb => ?_) ht hf
  refine in109 ?_
  simp only [c109, ↓WP, WQ, if_true, if_false, eq_self, implies_true, ne_eq, List.nil_append, List.cons_append, ↓reduceIte, Nat.reduceEqDiff, Nat.reduceBEq, reduceCtorEq, Nat.reduceAdd, resA, ret1, qv, lv, ev, boolA, binA, intA, shiftA, cmpA, beqA, lres, cells_alg h.len hm.len]
  refine NewRowd_in fun r hr => ?_
  obtain ⟨hE, hu, hu1, hu2⟩ := box_facts (ty := 36) (uv := uv) (tv := tv) hr
  generalize H.set r ⟨36, true, [uv, tv]⟩ = G at *
  have h := h.ext hE
  have hm := hm.ext hE
  have hT : Tab G tv A := ⟨hm, hA.toSquare⟩
  have hn6 := hA.hi
  have hn1 := hA.lo
  have hwl : IntKind.i64.wrap ((A.up.length : Int) - 1) = A.up.length - 1 := wrap_id (by omega) (by omega)
  have ei := hA.ie
  simp only [↓WP, WQ, if_true, if_false, eq_self, implies_true, ne_eq, List.nil_append, List.cons_append, ↓reduceIte, Nat.reduceEqDiff, Nat.reduceBEq, reduceCtorEq, Nat.reduceAdd, resA, ret1, qv, lv, ev, boolA, binA, intA, shiftA, cmpA, beqA, lres]
  refine has_c (by omega) (fun h0 => ?_) (fun h0 => ?_)
  rotate_left
  · simp only [↓WP, WQ, if_true, if_false, eq_self, implies_true, ne_eq, List.nil_append, List.cons_append, ↓reduceIte, Nat.reduceEqDiff, Nat.reduceBEq, reduceCtorEq, Nat.reduceAdd, resA, ret1, qv, lv, ev, boolA, binA, intA, shiftA, cmpA, beqA, lres]; exact ⟨boolF hb (fun hc => by have := hc.1; rw [h0] at this; cases this), hE⟩
  simp only [↓WP, WQ, if_true, if_false, eq_self, implies_true, ne_eq, List.nil_append, List.cons_append, ↓reduceIte, Nat.reduceEqDiff, Nat.reduceBEq, reduceCtorEq, Nat.reduceAdd, resA, ret1, qv, lv, ev, boolA, binA, intA, shiftA, cmpA, beqA, lres, hu1, h.len, hwl]
  refine has_c (by omega) (fun h1 => ?_) (fun h1 => ?_)
  rotate_left
  · simp only [↓WP, WQ, if_true, if_false, eq_self, implies_true, ne_eq, List.nil_append, List.cons_append, ↓reduceIte, Nat.reduceEqDiff, Nat.reduceBEq, reduceCtorEq, Nat.reduceAdd, resA, ret1, qv, lv, ev, boolA, binA, intA, shiftA, cmpA, beqA, lres]; exact ⟨boolF hb (fun hc => by have := hc.2.1; rw [h1] at this; cases this), hE⟩
  simp only [↓WP, WQ, if_true, if_false, eq_self, implies_true, ne_eq, List.nil_append, List.cons_append, ↓reduceIte, Nat.reduceEqDiff, Nat.reduceBEq, reduceCtorEq, Nat.reduceAdd, resA, ret1, qv, lv, ev, boolA, binA, intA, shiftA, cmpA, beqA, lres, hu1, h.len]
  refine W_for 0 A.up.length (fun x e H' => H' = G ∧ Sl e [(1, .int .i64 p), (2, .ptr r 0), (21, .int .i64 A.up.length), (22, .int .i64 x)] ∧ allI x fun x => allI A.up.length fun y => PP A p x y) (by omega) ⟨rfl, by simp only [↓WP, WQ, if_true, if_false, eq_self, implies_true, ne_eq, List.nil_append, List.cons_append, ↓reduceIte, Nat.reduceEqDiff, Nat.reduceBEq, reduceCtorEq, Nat.reduceAdd, resA, ret1, qv, lv, ev, boolA, binA, intA, shiftA, cmpA, beqA, lres], allI_zero⟩ ?_
  rintro x e H' hx0 hx1 ⟨rfl, hs, hall⟩
  simp only [Sl_cons, Sl_nil, and_true] at hs
  have hw : IntKind.i64.wrap (x + 1) = x + 1 := wrap_id (by omega) (by omega)
  refine (Classical.em (x < A.up.length)).elim (fun hx => ?_) (fun hx => ?_) <;> simp only [↓WP, WQ, if_true, if_false, eq_self, implies_true, ne_eq, List.nil_append, List.cons_append, ↓reduceIte, Nat.reduceEqDiff, Nat.reduceBEq, reduceCtorEq, Nat.reduceAdd, resA, ret1, qv, lv, ev, boolA, binA, intA, shiftA, cmpA, beqA, lres, hs, hx, hu1, h.len]
  rotate_left
  · have hxe : x = A.up.length := by omega
    rw [hxe] at hall
    exact ⟨boolT hb ⟨h0, h1, hall⟩, hE⟩
  refine W_for 0 A.up.length (fun y e H'' => H'' = H' ∧ Sl e [(1, .int .i64 p), (2, .ptr r 0), (5, .int .i64 x), (21, .int .i64 A.up.length), (22, .int .i64 x), (27, .int .i64 A.up.length), (28, .int .i64 y)] ∧ allI y fun y => PP A p x y) (by omega) ⟨rfl, by simp only [↓WP, WQ, if_true, if_false, eq_self, implies_true, ne_eq, List.nil_append, List.cons_append, ↓reduceIte, Nat.reduceEqDiff, Nat.reduceBEq, reduceCtorEq, Nat.reduceAdd, resA, ret1, qv, lv, ev, boolA, binA, intA, shiftA, cmpA, beqA, lres, hs], allI_zero⟩ ?_
  rintro y e H'' hy0 hy1 ⟨rfl, hs, hin⟩
  simp only [Sl_cons, Sl_nil, and_true] at hs
  have hwy : IntKind.i64.wrap (y + 1) = y + 1 := wrap_id (by omega) (by omega)
  refine (Classical.em (y < A.up.length)).elim (fun hy => ?_) (fun hy => ?_) <;> simp only [↓WP, WQ, if_true, if_false, eq_self, implies_true, ne_eq, List.nil_append, List.cons_append, ↓reduceIte, Nat.reduceEqDiff, Nat.reduceBEq, reduceCtorEq, Nat.reduceAdd, resA, ret1, qv, lv, ev, boolA, binA, intA, shiftA, cmpA, beqA, lres, hs, hy]
  rotate_left
  · have hye : y = A.up.length := by omega
    rw [hye] at hin
    simp only [↓WP, WQ, if_true, if_false, eq_self, implies_true, ne_eq, List.nil_append, List.cons_append, ↓reduceIte, Nat.reduceEqDiff, Nat.reduceBEq, reduceCtorEq, Nat.reduceAdd, resA, ret1, qv, lv, ev, boolA, binA, intA, shiftA, cmpA, beqA, lres, hs, hw, hx]
    exact (allI_succ hx0).2 ⟨hall, hin⟩
  have ex : El A x := ⟨hx0, hx⟩
  have ey : El A y := ⟨hy0, hy⟩
  have no : ∀ {c : Prop}, ¬ PP A p x y → AV.bool false = AV.bool b ∧ Ext H H'' := fun hc => ⟨boolF hb fun hh => hc (hh.2.2 x hx0 hx y hy0 hy), hE⟩
  have yes : PP A p x y → allI (y + 1) fun y => PP A p x y := fun hc => (allI_succ hy0).2 ⟨hin, hc⟩
  refine has_c hx0 (fun a1 => ?_) (fun a1 => ?_)
  rotate_left
  · simp only [↓WP, WQ, if_true, if_false, eq_self, implies_true, ne_eq, List.nil_append, List.cons_append, ↓reduceIte, Nat.reduceEqDiff, Nat.reduceBEq, reduceCtorEq, Nat.reduceAdd, resA, ret1, qv, lv, ev, boolA, binA, intA, shiftA, cmpA, beqA, lres, hs, hwy, hy]
    exact yes fun hc => by rw [a1] at hc; cases hc
  simp only [↓WP, WQ, if_true, if_false, eq_self, implies_true, ne_eq, List.nil_append, List.cons_append, ↓reduceIte, Nat.reduceEqDiff, Nat.reduceBEq, reduceCtorEq, Nat.reduceAdd, resA, ret1, qv, lv, ev, boolA, binA, intA, shiftA, cmpA, beqA, lres, hs]
  refine has_c hy0 (fun a2 => ?_) (fun a2 => ?_)
  rotate_left
  · simp only [↓WP, WQ, if_true, if_false, eq_self, implies_true, ne_eq, List.nil_append, List.cons_append, ↓reduceIte, Nat.reduceEqDiff, Nat.reduceBEq, reduceCtorEq, Nat.reduceAdd, resA, ret1, qv, lv, ev, boolA, binA, intA, shiftA, cmpA, beqA, lres, hs, hwy, hy]
    exact yes fun _ hc => by rw [a2] at hc; cases hc
  have et := hA.te ex ey
  simp only [↓WP, WQ, if_true, if_false, eq_self, implies_true, ne_eq, List.nil_append, List.cons_append, ↓reduceIte, Nat.reduceEqDiff, Nat.reduceBEq, reduceCtorEq, Nat.reduceAdd, resA, ret1, qv, lv, ev, boolA, binA, intA, shiftA, cmpA, beqA, lres, hs, hu2, hT.idx hx0 hx, hT.at hx0 hx, hT.idx2 hx0 hx hy0 hy, hT.at2 hx0 hx hy0 hy]
  refine has_c et.1 (fun a3 => ?_) (fun a3 => ?_)
  rotate_left
  · simp only [↓WP, WQ, if_true, if_false, eq_self, implies_true, ne_eq, List.nil_append, List.cons_append, ↓reduceIte, Nat.reduceEqDiff, Nat.reduceBEq, reduceCtorEq, Nat.reduceAdd, resA, ret1, qv, lv, ev, boolA, binA, intA, shiftA, cmpA, beqA, lres, hs]
    exact no (c := True) fun hc => by rw [(hc a1 a2).1] at a3; cases a3
  simp only [↓WP, WQ, if_true, if_false, eq_self, implies_true, ne_eq, List.nil_append, List.cons_append, ↓reduceIte, Nat.reduceEqDiff, Nat.reduceBEq, reduceCtorEq, Nat.reduceAdd, resA, ret1, qv, lv, ev, boolA, binA, intA, shiftA, cmpA, beqA, lres, hs, hu]
  refine imply_c h hm hA hx0 hx hy0 hy ?_
  simp only [↓WP, WQ, if_true, if_false, eq_self, implies_true, ne_eq, List.nil_append, List.cons_append, ↓reduceIte, Nat.reduceEqDiff, Nat.reduceBEq, reduceCtorEq, Nat.reduceAdd, resA, ret1, qv, lv, ev, boolA, binA, intA, shiftA, cmpA, beqA, lres, hs]
  refine has_c (ei x y).1 (fun a4 => ?_) (fun a4 => ?_)
  rotate_left
  · simp only [↓WP, WQ, if_true, if_false, eq_self, implies_true, ne_eq, List.nil_append, List.cons_append, ↓reduceIte, Nat.reduceEqDiff, Nat.reduceBEq, reduceCtorEq, Nat.reduceAdd, resA, ret1, qv, lv, ev, boolA, binA, intA, shiftA, cmpA, beqA, lres, hs]
    exact no (c := True) fun hc => by rw [(hc a1 a2).2.1] at a4; cases a4
  simp only [↓WP, WQ, if_true, if_false, eq_self, implies_true, ne_eq, List.nil_append, List.cons_append, ↓reduceIte, Nat.reduceEqDiff, Nat.reduceBEq, reduceCtorEq, Nat.reduceAdd, resA, ret1, qv, lv, ev, boolA, binA, intA, shiftA, cmpA, beqA, lres, hs, hu1]
  refine meet_c h (by omega) hx0 hx hy0 hy ?_
  simp only [↓WP, WQ, if_true, if_false, eq_self, implies_true, ne_eq, List.nil_append, List.cons_append, ↓reduceIte, Nat.reduceEqDiff, Nat.reduceBEq, reduceCtorEq, Nat.reduceAdd, resA, ret1, qv, lv, ev, boolA, binA, intA, shiftA, cmpA, beqA, lres, hs]
  refine has_c (hA.me ex ey).1 (fun a5 => ?_) (fun a5 => ?_)
  rotate_left
  · simp only [↓WP, WQ, if_true, if_false, eq_self, implies_true, ne_eq, List.nil_append, List.cons_append, ↓reduceIte, Nat.reduceEqDiff, Nat.reduceBEq, reduceCtorEq, Nat.reduceAdd, resA, ret1, qv, lv, ev, boolA, binA, intA, shiftA, cmpA, beqA, lres, hs]
    exact no (c := True) fun hc => by rw [(hc a1 a2).2.2.1] at a5; cases a5
  simp only [↓WP, WQ, if_true, if_false, eq_self, implies_true, ne_eq, List.nil_append, List.cons_append, ↓reduceIte, Nat.reduceEqDiff, Nat.reduceBEq, reduceCtorEq, Nat.reduceAdd, resA, ret1, qv, lv, ev, boolA, binA, intA, shiftA, cmpA, beqA, lres, hs, hu1]
  refine join_c h hn6 hA.rng hx0 hx hy0 hy ?_
  simp only [↓WP, WQ, if_true, if_false, eq_self, implies_true, ne_eq, List.nil_append, List.cons_append, ↓reduceIte, Nat.reduceEqDiff, Nat.reduceBEq, reduceCtorEq, Nat.reduceAdd, resA, ret1, qv, lv, ev, boolA, binA, intA, shiftA, cmpA, beqA, lres, hs]
  refine has_c (hA.je ex ey).1 (fun a6 => ?_) (fun a6 => ?_)
  rotate_left
  · simp only [↓WP, WQ, if_true, if_false, eq_self, implies_true, ne_eq, List.nil_append, List.cons_append, ↓reduceIte, Nat.reduceEqDiff, Nat.reduceBEq, reduceCtorEq, Nat.reduceAdd, resA, ret1, qv, lv, ev, boolA, binA, intA, shiftA, cmpA, beqA, lres, hs]
    exact no (c := True) fun hc => by rw [(hc a1 a2).2.2.2] at a6; cases a6
  simp only [↓WP, WQ, if_true, if_false, eq_self, implies_true, ne_eq, List.nil_append, List.cons_append, ↓reduceIte, Nat.reduceEqDiff, Nat.reduceBEq, reduceCtorEq, Nat.reduceAdd, resA, ret1, qv, lv, ev, boolA, binA, intA, shiftA, cmpA, beqA, lres, hs, hwy, hy]
  exact yes fun _ _ => ⟨a3, a4, a5, a6⟩

theorem sisPart_c {uv tv : AV} {A : Alg} {p : Int} (h : Ints H uv A.up) (hm : Mat H tv A.times) (hA : IsAlg A) (hp : Set6 A p) {Q : AV → Hp → Prop} (ht : IsPart A p → Q (.bool true) H) (hf : ¬ IsPart A p → Q (.bool false) H) :
    ACalls Try.prog w0 110 [.agg [uv, tv], .int .i64 p] H Q := by
  refine quietB (fun b hb => ?_) ht hf
  refine in110 ?_
  simp only [c110, ↓WP, WQ, if_true, if_false, eq_self, implies_true, ne_eq, List.nil_append, List.cons_append, ↓reduceIte, Nat.reduceEqDiff, Nat.reduceBEq, reduceCtorEq, Nat.reduceAdd, resA, ret1, qv, lv, ev, boolA, binA, intA, shiftA, cmpA, beqA, lres, cells_alg h.len hm.len]
  refine NewRowd_in fun r hr => ?_
  obtain ⟨hE, hu, hu1, hu2⟩ := box_facts (ty := 36) (uv := uv) (tv := tv) hr
  generalize H.set r ⟨36, true, [uv, tv]⟩ = G at *
  have h := h.ext hE
  have hm := hm.ext hE
  have hT : Tab G tv A := ⟨hm, hA.toSquare⟩
  have hn6 := hA.hi
  have hn1 := hA.lo
  have hwl : IntKind.i64.wrap ((A.up.length : Int) - 1) = A.up.length - 1 := wrap_id (by omega) (by omega)
  have hp62 := pow_le62 (n := A.up.length) (by omega)
  have hp0 := pow2_pos A.up.length
  have hw2 : IntKind.i64.wrap ((2 : Int) ^ A.up.length - 1) = 2 ^ A.up.length - 1 := wrap_id (by omega) (by omega)
  have ei := hA.ie
  have bit : ∀ {x : Int} {H : Hp} {Q : AV → Hp → Prop}, El A x → (tb p x = true → Q (.int .i64 1) H) → (tb p x = false → Q (.int .i64 0) H) → ACalls Try.prog w0 138 [.int .i64 p, .int .i64 x] H Q := fun hx h1 h2 => bit_c _ _ hp.1 (hp.lt hA) hx.1 (by have := hx.2; omega) h1 h2
  simp only [↓WP, WQ, if_true, if_false, eq_self, implies_true, ne_eq, List.nil_append, List.cons_append, ↓reduceIte, Nat.reduceEqDiff, Nat.reduceBEq, reduceCtorEq, Nat.reduceAdd, resA, ret1, qv, lv, ev, boolA, binA, intA, shiftA, cmpA, beqA, lres, hu1, h.len]
  refine power_c _ (by omega) ?_
  simp only [↓WP, WQ, if_true, if_false, eq_self, implies_true, ne_eq, List.nil_append, List.cons_append, ↓reduceIte, Nat.reduceEqDiff, Nat.reduceBEq, reduceCtorEq, Nat.reduceAdd, resA, ret1, qv, lv, ev, boolA, binA, intA, shiftA, cmpA, beqA, lres, Int.toNat_natCast, hw2]
  refine inRange_c _ _ _ (fun _ => ?_) (fun hc => absurd hp hc)
  simp only [↓WP, WQ, if_true, if_false, eq_self, implies_true, ne_eq, List.nil_append, List.cons_append, ↓reduceIte, Nat.reduceEqDiff, Nat.reduceBEq, reduceCtorEq, Nat.reduceAdd, resA, ret1, qv, lv, ev, boolA, binA, intA, shiftA, cmpA, beqA, lres]
  refine bit hA.e0 (fun h0 => ?_) (fun h0 => ?_)
  rotate_left
  · simp only [↓WP, WQ, if_true, if_false, eq_self, implies_true, ne_eq, List.nil_append, List.cons_append, ↓reduceIte, Nat.reduceEqDiff, Nat.reduceBEq, reduceCtorEq, Nat.reduceAdd, resA, ret1, qv, lv, ev, boolA, binA, intA, shiftA, cmpA, beqA, lres]; exact ⟨boolF hb (fun hc => by have := hc.1; rw [h0] at this; cases this), hE⟩
  simp only [↓WP, WQ, if_true, if_false, eq_self, implies_true, ne_eq, List.nil_append, List.cons_append, ↓reduceIte, Nat.reduceEqDiff, Nat.reduceBEq, reduceCtorEq, Nat.reduceAdd, resA, ret1, qv, lv, ev, boolA, binA, intA, shiftA, cmpA, beqA, lres, hwl, Int.reduceEq]
  refine bit hA.e1 (fun h1 => ?_) (fun h1 => ?_)
  rotate_left
  · simp only [↓WP, WQ, if_true, if_false, eq_self, implies_true, ne_eq, List.nil_append, List.cons_append, ↓reduceIte, Nat.reduceEqDiff, Nat.reduceBEq, reduceCtorEq, Nat.reduceAdd, resA, ret1, qv, lv, ev, boolA, binA, intA, shiftA, cmpA, beqA, lres]; exact ⟨boolF hb (fun hc => by have := hc.2.1; rw [h1] at this; cases this), hE⟩
  simp only [↓WP, WQ, if_true, if_false, eq_self, implies_true, ne_eq, List.nil_append, List.cons_append, ↓reduceIte, Nat.reduceEqDiff, Nat.reduceBEq, reduceCtorEq, Nat.reduceAdd, resA, ret1, qv, lv, ev, boolA, binA, intA, shiftA, cmpA, beqA, lres, Int.reduceEq]
  refine W_for 0 A.up.length (fun x e H' => H' = G ∧ Sl e [(1, .int .i64 p), (2, .ptr r 0), (5, .int .i64 A.up.length), (6, .int .i64 x)] ∧ allI x fun x => allI A.up.length fun y => PP A p x y) (by omega) ⟨rfl, by simp only [↓WP, WQ, if_true, if_false, eq_self, implies_true, ne_eq, List.nil_append, List.cons_append, ↓reduceIte, Nat.reduceEqDiff, Nat.reduceBEq, reduceCtorEq, Nat.reduceAdd, resA, ret1, qv, lv, ev, boolA, binA, intA, shiftA, cmpA, beqA, lres], allI_zero⟩ ?_
  rintro x e H' hx0 hx1 ⟨rfl, hs, hall⟩
  simp only [Sl_cons, Sl_nil, and_true] at hs
  have hw : IntKind.i64.wrap (x + 1) = x + 1 := wrap_id (by omega) (by omega)
  refine (Classical.em (x < A.up.length)).elim (fun hx => ?_) (fun hx => ?_) <;> simp only [↓WP, WQ, if_true, if_false, eq_self, implies_true, ne_eq, List.nil_append, List.cons_append, ↓reduceIte, Nat.reduceEqDiff, Nat.reduceBEq, reduceCtorEq, Nat.reduceAdd, resA, ret1, qv, lv, ev, boolA, binA, intA, shiftA, cmpA, beqA, lres, hs, hx]
  rotate_left
  · have hxe : x = A.up.length := by omega
    rw [hxe] at hall
    exact ⟨boolT hb ⟨h0, h1, hall⟩, hE⟩
  refine W_for 0 A.up.length (fun y e H'' => H'' = H' ∧ Sl e [(1, .int .i64 p), (2, .ptr r 0), (5, .int .i64 A.up.length), (6, .int .i64 x), (7, .int .i64 y)] ∧ allI y fun y => PP A p x y) (by omega) ⟨rfl, by simp only [↓WP, WQ, if_true, if_false, eq_self, implies_true, ne_eq, List.nil_append, List.cons_append, ↓reduceIte, Nat.reduceEqDiff, Nat.reduceBEq, reduceCtorEq, Nat.reduceAdd, resA, ret1, qv, lv, ev, boolA, binA, intA, shiftA, cmpA, beqA, lres, hs], allI_zero⟩ ?_
  rintro y e H'' hy0 hy1 ⟨rfl, hs, hin⟩
  simp only [Sl_cons, Sl_nil, and_true] at hs
  have hwy : IntKind.i64.wrap (y + 1) = y + 1 := wrap_id (by omega) (by omega)
  refine (Classical.em (y < A.up.length)).elim (fun hy => ?_) (fun hy => ?_) <;> simp only [↓WP, WQ, if_true, if_false, eq_self, implies_true, ne_eq, List.nil_append, List.cons_append, ↓reduceIte, Nat.reduceEqDiff, Nat.reduceBEq, reduceCtorEq, Nat.reduceAdd, resA, ret1, qv, lv, ev, boolA, binA, intA, shiftA, cmpA, beqA, lres, hs, hy]
  rotate_left
  · have hye : y = A.up.length := by omega
    rw [hye] at hin
    simp only [↓WP, WQ, if_true, if_false, eq_self, implies_true, ne_eq, List.nil_append, List.cons_append, ↓reduceIte, Nat.reduceEqDiff, Nat.reduceBEq, reduceCtorEq, Nat.reduceAdd, resA, ret1, qv, lv, ev, boolA, binA, intA, shiftA, cmpA, beqA, lres, hs, hw, hx]
    exact (allI_succ hx0).2 ⟨hall, hin⟩
  have ex : El A x := ⟨hx0, hx⟩
  have ey : El A y := ⟨hy0, hy⟩
  have no : ∀ {c : Prop}, ¬ PP A p x y → AV.bool false = AV.bool b ∧ Ext H H'' := fun hc => ⟨boolF hb fun hh => hc (hh.2.2 x hx0 hx y hy0 hy), hE⟩
  have yes : PP A p x y → allI (y + 1) fun y => PP A p x y := fun hc => (allI_succ hy0).2 ⟨hin, hc⟩
  refine bit ex (fun a1 => ?_) (fun a1 => ?_)
  rotate_left
  · simp only [↓WP, WQ, if_true, if_false, eq_self, implies_true, ne_eq, List.nil_append, List.cons_append, ↓reduceIte, Nat.reduceEqDiff, Nat.reduceBEq, reduceCtorEq, Nat.reduceAdd, resA, ret1, qv, lv, ev, boolA, binA, intA, shiftA, cmpA, beqA, lres, hs, hwy, hy, Int.reduceEq]
    exact yes fun hc => by rw [a1] at hc; cases hc
  simp only [↓WP, WQ, if_true, if_false, eq_self, implies_true, ne_eq, List.nil_append, List.cons_append, ↓reduceIte, Nat.reduceEqDiff, Nat.reduceBEq, reduceCtorEq, Nat.reduceAdd, resA, ret1, qv, lv, ev, boolA, binA, intA, shiftA, cmpA, beqA, lres, hs]
  refine bit ey (fun a2 => ?_) (fun a2 => ?_)
  rotate_left
  · simp only [↓WP, WQ, if_true, if_false, eq_self, implies_true, ne_eq, List.nil_append, List.cons_append, ↓reduceIte, Nat.reduceEqDiff, Nat.reduceBEq, reduceCtorEq, Nat.reduceAdd, resA, ret1, qv, lv, ev, boolA, binA, intA, shiftA, cmpA, beqA, lres, hs, hwy, hy, Int.reduceEq]
    exact yes fun _ hc => by rw [a2] at hc; cases hc
  have et := hA.te ex ey
  simp only [↓WP, WQ, if_true, if_false, eq_self, implies_true, ne_eq, List.nil_append, List.cons_append, ↓reduceIte, Nat.reduceEqDiff, Nat.reduceBEq, reduceCtorEq, Nat.reduceAdd, resA, ret1, qv, lv, ev, boolA, binA, intA, shiftA, cmpA, beqA, lres, hs, hu2, hT.idx hx0 hx, hT.at hx0 hx, hT.idx2 hx0 hx hy0 hy, hT.at2 hx0 hx hy0 hy]
  refine bit et (fun a3 => ?_) (fun a3 => ?_)
  rotate_left
  · simp only [↓WP, WQ, if_true, if_false, eq_self, implies_true, ne_eq, List.nil_append, List.cons_append, ↓reduceIte, Nat.reduceEqDiff, Nat.reduceBEq, reduceCtorEq, Nat.reduceAdd, resA, ret1, qv, lv, ev, boolA, binA, intA, shiftA, cmpA, beqA, lres, hs]
    exact no (c := True) fun hc => by rw [(hc a1 a2).1] at a3; cases a3
  simp only [↓WP, WQ, if_true, if_false, eq_self, implies_true, ne_eq, List.nil_append, List.cons_append, ↓reduceIte, Nat.reduceEqDiff, Nat.reduceBEq, reduceCtorEq, Nat.reduceAdd, resA, ret1, qv, lv, ev, boolA, binA, intA, shiftA, cmpA, beqA, lres, hs, hu, Int.reduceEq]
  refine simply_c h hm hA hx0 hx hy0 hy ?_
  simp only [↓WP, WQ, if_true, if_false, eq_self, implies_true, ne_eq, List.nil_append, List.cons_append, ↓reduceIte, Nat.reduceEqDiff, Nat.reduceBEq, reduceCtorEq, Nat.reduceAdd, resA, ret1, qv, lv, ev, boolA, binA, intA, shiftA, cmpA, beqA, lres, hs]
  refine bit (ei x y) (fun a4 => ?_) (fun a4 => ?_)
  rotate_left
  · simp only [↓WP, WQ, if_true, if_false, eq_self, implies_true, ne_eq, List.nil_append, List.cons_append, ↓reduceIte, Nat.reduceEqDiff, Nat.reduceBEq, reduceCtorEq, Nat.reduceAdd, resA, ret1, qv, lv, ev, boolA, binA, intA, shiftA, cmpA, beqA, lres, hs]
    exact no (c := True) fun hc => by rw [(hc a1 a2).2.1] at a4; cases a4
  simp only [↓WP, WQ, if_true, if_false, eq_self, implies_true, ne_eq, List.nil_append, List.cons_append, ↓reduceIte, Nat.reduceEqDiff, Nat.reduceBEq, reduceCtorEq, Nat.reduceAdd, resA, ret1, qv, lv, ev, boolA, binA, intA, shiftA, cmpA, beqA, lres, hs, hu1, Int.reduceEq]
  refine smeet_c h hA.rows62 (by omega) hx0 hx hy0 hy ?_
  simp only [↓WP, WQ, if_true, if_false, eq_self, implies_true, ne_eq, List.nil_append, List.cons_append, ↓reduceIte, Nat.reduceEqDiff, Nat.reduceBEq, reduceCtorEq, Nat.reduceAdd, resA, ret1, qv, lv, ev, boolA, binA, intA, shiftA, cmpA, beqA, lres, hs]
  refine bit (hA.me ex ey) (fun a5 => ?_) (fun a5 => ?_)
  rotate_left
  · simp only [↓WP, WQ, if_true, if_false, eq_self, implies_true, ne_eq, List.nil_append, List.cons_append, ↓reduceIte, Nat.reduceEqDiff, Nat.reduceBEq, reduceCtorEq, Nat.reduceAdd, resA, ret1, qv, lv, ev, boolA, binA, intA, shiftA, cmpA, beqA, lres, hs]
    exact no (c := True) fun hc => by rw [(hc a1 a2).2.2.1] at a5; cases a5
  simp only [↓WP, WQ, if_true, if_false, eq_self, implies_true, ne_eq, List.nil_append, List.cons_append, ↓reduceIte, Nat.reduceEqDiff, Nat.reduceBEq, reduceCtorEq, Nat.reduceAdd, resA, ret1, qv, lv, ev, boolA, binA, intA, shiftA, cmpA, beqA, lres, hs, hu1, Int.reduceEq]
  refine sjoin_c h hA.rows62 (by omega) hx0 hx hy0 hy ?_
  simp only [↓WP, WQ, if_true, if_false, eq_self, implies_true, ne_eq, List.nil_append, List.cons_append, ↓reduceIte, Nat.reduceEqDiff, Nat.reduceBEq, reduceCtorEq, Nat.reduceAdd, resA, ret1, qv, lv, ev, boolA, binA, intA, shiftA, cmpA, beqA, lres, hs]
  refine bit (hA.je ex ey) (fun a6 => ?_) (fun a6 => ?_)
  rotate_left
  · simp only [↓WP, WQ, if_true, if_false, eq_self, implies_true, ne_eq, List.nil_append, List.cons_append, ↓reduceIte, Nat.reduceEqDiff, Nat.reduceBEq, reduceCtorEq, Nat.reduceAdd, resA, ret1, qv, lv, ev, boolA, binA, intA, shiftA, cmpA, beqA, lres, hs]
    exact no (c := True) fun hc => by rw [(hc a1 a2).2.2.2] at a6; cases a6
  simp only [↓WP, WQ, if_true, if_false, eq_self, implies_true, ne_eq, List.nil_append, List.cons_append, ↓reduceIte, Nat.reduceEqDiff, Nat.reduceBEq, reduceCtorEq, Nat.reduceAdd, resA, ret1, qv, lv, ev, boolA, binA, intA, shiftA, cmpA, beqA, lres, hs, hwy, hy, Int.reduceEq]
  exact yes fun _ _ => ⟨a3, a4, a5, a6⟩
end Go.AL

/-
  Lists of parts; plain laws of parts.
-/
namespace Go.AL
open Go.Proofs
set_option linter.unusedSimpArgs false
set_option linter.unusedVariables false
set_option linter.unusedSectionVars false
variable {w0 : World} {H : Hp}

theorem PartsOf_c {uv tv : AV} {A : Alg} (h : Ints H uv A.up) (hm : Mat H tv A.times) (hS : Small A) {Q : AV → Hp → Prop} (hq : ∀ v H', ListV H H' (IsAlg A) (partL A) v → Q v H') :
    ACalls Try.prog w0 50 [.agg [uv, tv]] H Q := by
  refine in50 ?_
  simp only [c50, ↓WP, WQ, if_true, if_false, eq_self, implies_true, ne_eq, List.nil_append, List.cons_append, ↓reduceIte, Nat.reduceEqDiff, Nat.reduceBEq, reduceCtorEq, Nat.reduceAdd, resA, ret1, qv, lv, ev, boolA, binA, intA, shiftA, cmpA, beqA, lres, cells_alg h.len hm.len]
  refine NewRowd_in fun b hb => ?_
  have o := Own.nil0.push (x := ⟨36, true, [uv, tv]⟩) hb
  generalize H.set b ⟨36, true, [uv, tv]⟩ = G at *
  have gb := o.get (i := 0) rfl
  simp only [↓WP, WQ, if_true, if_false, eq_self, implies_true, ne_eq, List.nil_append, List.cons_append, ↓reduceIte, Nat.reduceEqDiff, Nat.reduceBEq, reduceCtorEq, Nat.reduceAdd, resA, ret1, qv, lv, ev, boolA, binA, intA, shiftA, cmpA, beqA, lres, atN_two gb]
  refine ValidAlgebra_c (h.ext o.ext') (hm.ext o.ext') hS (fun hA => ?_) (fun hA => ?_) <;> simp only [↓WP, WQ, if_true, if_false, eq_self, implies_true, ne_eq, List.nil_append, List.cons_append, ↓reduceIte, Nat.reduceEqDiff, Nat.reduceBEq, reduceCtorEq, Nat.reduceAdd, resA, ret1, qv, lv, ev, boolA, binA, intA, shiftA, cmpA, beqA, lres, bsl0]
  rotate_left
  · exact hq _ _ (Or.inl ⟨hA, rfl, o.ext'⟩)
  refine NewRowd_in fun r0 hr0 => ?_
  have o := o.push (x := ⟨3, true, []⟩) hr0
  generalize G.set r0 ⟨3, true, []⟩ = G at *
  simp only [↓WP, WQ, if_true, if_false, eq_self, implies_true, ne_eq, List.nil_append, List.cons_append, ↓reduceIte, Nat.reduceEqDiff, Nat.reduceBEq, reduceCtorEq, Nat.reduceAdd, resA, ret1, qv, lv, ev, boolA, binA, intA, shiftA, cmpA, beqA, lres]
  have hn6 := hA.hi
  have hn0 : ¬ ((A.up.length : Int) < 0) := by omega
  have hsh := shl_one (n := A.up.length) (by omega)
  have hpn : (((2 ^ A.up.length : Nat)) : Int) = 2 ^ A.up.length := by push_cast; rfl
  have h26 : 2 ^ A.up.length ≤ 2 ^ 6 := Nat.pow_le_pow_right (by omega) hA.hi
  refine W_for 0 (2 ^ A.up.length : Nat) (fun z e H' => ∃ r, Sl e [(1, .ptr b 0), (3, .sl r 0 (sel (IsPart A) z.toNat).length), (4, .int .i64 z)] ∧ Own no H H' [(r, LI (sel (IsPart A) z.toNat)), (b, ⟨36, true, [uv, tv]⟩)]) (by rw [hpn]; have := pow2_pos A.up.length; omega) ⟨r0, by simp only [↓WP, WQ, if_true, if_false, eq_self, implies_true, ne_eq, List.nil_append, List.cons_append, ↓reduceIte, Nat.reduceEqDiff, Nat.reduceBEq, reduceCtorEq, Nat.reduceAdd, resA, ret1, qv, lv, ev, boolA, binA, intA, shiftA, cmpA, beqA, lres]; rfl, o⟩ ?_
  rintro z e H' hz0 hz1 ⟨r, hs, o⟩
  simp only [Sl_cons, Sl_nil, and_true] at hs
  have hw : IntKind.i64.wrap (z + 1) = z + 1 := wrap_id (by omega) (by omega)
  have gb := o.get (i := 1) rfl
  have hsl := sel_len (IsPart A) z.toNat
  refine (Classical.em (z < (2 ^ A.up.length : Nat))).elim (fun hz => ?_) (fun hz => ?_)
  · have hz' : z < 2 ^ A.up.length := by omega
    simp only [↓WP, WQ, if_true, if_false, eq_self, implies_true, ne_eq, List.nil_append, List.cons_append, ↓reduceIte, Nat.reduceEqDiff, Nat.reduceBEq, reduceCtorEq, Nat.reduceAdd, resA, ret1, qv, lv, ev, boolA, binA, intA, shiftA, cmpA, beqA, lres, hs, at_fst gb, h.len, hn0, hsh, hz', atN_two gb]
    refine isPart_c (h.ext o.ext') (hm.ext o.ext') hA ⟨hz0, by omega⟩ (fun hf => ?_) (fun hf => ?_) <;> simp only [↓WP, WQ, if_true, if_false, eq_self, implies_true, ne_eq, List.nil_append, List.cons_append, ↓reduceIte, Nat.reduceEqDiff, Nat.reduceBEq, reduceCtorEq, Nat.reduceAdd, resA, ret1, qv, lv, ev, boolA, binA, intA, shiftA, cmpA, beqA, lres, hs, hw, hz]
    · simp only [↓WP, WQ, if_true, if_false, eq_self, implies_true, ne_eq, List.nil_append, List.cons_append, ↓reduceIte, Nat.reduceEqDiff, Nat.reduceBEq, reduceCtorEq, Nat.reduceAdd, resA, ret1, qv, lv, ev, boolA, binA, intA, shiftA, cmpA, beqA, lres, hs, bsl1]
      refine NewRowd_in fun r2 hr2 => ?_
      simp only [↓WP, WQ, if_true, if_false, eq_self, implies_true, ne_eq, List.nil_append, List.cons_append, ↓reduceIte, Nat.reduceEqDiff, Nat.reduceBEq, reduceCtorEq, Nat.reduceAdd, resA, ret1, qv, lv, ev, boolA, binA, intA, shiftA, cmpA, beqA, lres, hs]
      refine o.app_num (i := 0) rfl hr2 rfl (by omega) fun r' G' o => ?_
      simp only [↓WP, WQ, if_true, if_false, eq_self, implies_true, ne_eq, List.nil_append, List.cons_append, ↓reduceIte, Nat.reduceEqDiff, Nat.reduceBEq, reduceCtorEq, Nat.reduceAdd, resA, ret1, qv, lv, ev, boolA, binA, intA, shiftA, cmpA, beqA, lres, hs, hw, hz]
      rw [sel_yes hz0 hf]
      exact ⟨r', by simp, o⟩
    · rw [sel_no hz0 hf]
      exact ⟨r, rfl, o⟩
  · have hze : z.toNat = 2 ^ A.up.length := by omega
    have hz' : ¬ z < 2 ^ A.up.length := by omega
    simp only [↓WP, WQ, if_true, if_false, eq_self, implies_true, ne_eq, List.nil_append, List.cons_append, ↓reduceIte, Nat.reduceEqDiff, Nat.reduceBEq, reduceCtorEq, Nat.reduceAdd, resA, ret1, qv, lv, ev, boolA, binA, intA, shiftA, cmpA, beqA, lres, hs, at_fst gb, h.len, hn0, hsh, hz']
    rw [hze] at o ⊢
    exact hq _ H' (Or.inr ⟨hA, r, rfl, o.sub (.cons_cons _ (List.nil_sublist _))⟩)

theorem sPartsOf_c {uv tv : AV} {A : Alg} (h : Ints H uv A.up) (hm : Mat H tv A.times) (hS : Small A) {Q : AV → Hp → Prop} (hq : ∀ v H', ListV H H' (IsAlg A) (partL A) v → Q v H') :
    ACalls Try.prog w0 52 [.agg [uv, tv]] H Q := by
  refine in52 ?_
  simp only [c52, ↓WP, WQ, if_true, if_false, eq_self, implies_true, ne_eq, List.nil_append, List.cons_append, ↓reduceIte, Nat.reduceEqDiff, Nat.reduceBEq, reduceCtorEq, Nat.reduceAdd, resA, ret1, qv, lv, ev, boolA, binA, intA, shiftA, cmpA, beqA, lres, cells_alg h.len hm.len]
  refine NewRowd_in fun b hb => ?_
  have o := Own.nil0.push (x := ⟨36, true, [uv, tv]⟩) hb
  generalize H.set b ⟨36, true, [uv, tv]⟩ = G at *
  have gb := o.get (i := 0) rfl
  simp only [↓WP, WQ, if_true, if_false, eq_self, implies_true, ne_eq, List.nil_append, List.cons_append, ↓reduceIte, Nat.reduceEqDiff, Nat.reduceBEq, reduceCtorEq, Nat.reduceAdd, resA, ret1, qv, lv, ev, boolA, binA, intA, shiftA, cmpA, beqA, lres, atN_two gb]
  refine svalidAlgebra_c (h.ext o.ext') (hm.ext o.ext') hS (fun hA => ?_) (fun hA => ?_) <;> simp only [↓WP, WQ, if_true, if_false, eq_self, implies_true, ne_eq, List.nil_append, List.cons_append, ↓reduceIte, Nat.reduceEqDiff, Nat.reduceBEq, reduceCtorEq, Nat.reduceAdd, resA, ret1, qv, lv, ev, boolA, binA, intA, shiftA, cmpA, beqA, lres, bsl0]
  rotate_left
  · exact hq _ _ (Or.inl ⟨hA, rfl, o.ext'⟩)
  refine NewRowd_in fun r0 hr0 => ?_
  have o := o.push (x := ⟨3, true, []⟩) hr0
  generalize G.set r0 ⟨3, true, []⟩ = G at *
  simp only [↓WP, WQ, if_true, if_false, eq_self, implies_true, ne_eq, List.nil_append, List.cons_append, ↓reduceIte, Nat.reduceEqDiff, Nat.reduceBEq, reduceCtorEq, Nat.reduceAdd, resA, ret1, qv, lv, ev, boolA, binA, intA, shiftA, cmpA, beqA, lres]
  have hn6 := hA.hi
  have hn0 : ¬ ((A.up.length : Int) < 0) := by omega
  have hsh := shl_one (n := A.up.length) (by omega)
  have hpn : (((2 ^ A.up.length : Nat)) : Int) = 2 ^ A.up.length := by push_cast; rfl
  have h26 : 2 ^ A.up.length ≤ 2 ^ 6 := Nat.pow_le_pow_right (by omega) hA.hi
  refine W_for 0 (2 ^ A.up.length : Nat) (fun z e H' => ∃ r, Sl e [(1, .ptr b 0), (3, .sl r 0 (sel (IsPart A) z.toNat).length), (4, .int .i64 z)] ∧ Own no H H' [(r, LI (sel (IsPart A) z.toNat)), (b, ⟨36, true, [uv, tv]⟩)]) (by rw [hpn]; have := pow2_pos A.up.length; omega) ⟨r0, by simp only [↓WP, WQ, if_true, if_false, eq_self, implies_true, ne_eq, List.nil_append, List.cons_append, ↓reduceIte, Nat.reduceEqDiff, Nat.reduceBEq, reduceCtorEq, Nat.reduceAdd, resA, ret1, qv, lv, ev, boolA, binA, intA, shiftA, cmpA, beqA, lres]; rfl, o⟩ ?_
  rintro z e H' hz0 hz1 ⟨r, hs, o⟩
  simp only [Sl_cons, Sl_nil, and_true] at hs
  have hw : IntKind.i64.wrap (z + 1) = z + 1 := wrap_id (by omega) (by omega)
  have gb := o.get (i := 1) rfl
  have hsl := sel_len (IsPart A) z.toNat
  simp only [↓WP, WQ, if_true, if_false, eq_self, implies_true, ne_eq, List.nil_append, List.cons_append, ↓reduceIte, Nat.reduceEqDiff, Nat.reduceBEq, reduceCtorEq, Nat.reduceAdd, resA, ret1, qv, lv, ev, boolA, binA, intA, shiftA, cmpA, beqA, lres, hs, at_fst gb, h.len]
  refine power_c _ (by omega) ?_
  rw [Int.toNat_natCast]
  refine (Classical.em (z < (2 ^ A.up.length : Nat))).elim (fun hz => ?_) (fun hz => ?_)
  · have hz' : z < 2 ^ A.up.length := by omega
    simp only [↓WP, WQ, if_true, if_false, eq_self, implies_true, ne_eq, List.nil_append, List.cons_append, ↓reduceIte, Nat.reduceEqDiff, Nat.reduceBEq, reduceCtorEq, Nat.reduceAdd, resA, ret1, qv, lv, ev, boolA, binA, intA, shiftA, cmpA, beqA, lres, hs, at_fst gb, h.len, hn0, hsh, hz', atN_two gb]
    refine sisPart_c (h.ext o.ext') (hm.ext o.ext') hA ⟨hz0, by omega⟩ (fun hf => ?_) (fun hf => ?_) <;> simp only [↓WP, WQ, if_true, if_false, eq_self, implies_true, ne_eq, List.nil_append, List.cons_append, ↓reduceIte, Nat.reduceEqDiff, Nat.reduceBEq, reduceCtorEq, Nat.reduceAdd, resA, ret1, qv, lv, ev, boolA, binA, intA, shiftA, cmpA, beqA, lres, hs, hw, hz]
    · simp only [↓WP, WQ, if_true, if_false, eq_self, implies_true, ne_eq, List.nil_append, List.cons_append, ↓reduceIte, Nat.reduceEqDiff, Nat.reduceBEq, reduceCtorEq, Nat.reduceAdd, resA, ret1, qv, lv, ev, boolA, binA, intA, shiftA, cmpA, beqA, lres, hs, bsl1]
      refine NewRowd_in fun r2 hr2 => ?_
      simp only [↓WP, WQ, if_true, if_false, eq_self, implies_true, ne_eq, List.nil_append, List.cons_append, ↓reduceIte, Nat.reduceEqDiff, Nat.reduceBEq, reduceCtorEq, Nat.reduceAdd, resA, ret1, qv, lv, ev, boolA, binA, intA, shiftA, cmpA, beqA, lres, hs]
      refine o.app_num (i := 0) rfl hr2 rfl (by omega) fun r' G' o => ?_
      simp only [↓WP, WQ, if_true, if_false, eq_self, implies_true, ne_eq, List.nil_append, List.cons_append, ↓reduceIte, Nat.reduceEqDiff, Nat.reduceBEq, reduceCtorEq, Nat.reduceAdd, resA, ret1, qv, lv, ev, boolA, binA, intA, shiftA, cmpA, beqA, lres, hs, hw, hz]
      rw [sel_yes hz0 hf]
      exact ⟨r', by simp, o⟩
    · rw [sel_no hz0 hf]
      exact ⟨r, rfl, o⟩
  · have hze : z.toNat = 2 ^ A.up.length := by omega
    have hz' : ¬ z < 2 ^ A.up.length := by omega
    simp only [↓WP, WQ, if_true, if_false, eq_self, implies_true, ne_eq, List.nil_append, List.cons_append, ↓reduceIte, Nat.reduceEqDiff, Nat.reduceBEq, reduceCtorEq, Nat.reduceAdd, resA, ret1, qv, lv, ev, boolA, binA, intA, shiftA, cmpA, beqA, lres, hs, at_fst gb, h.len, hn0, hsh, hz']
    rw [hze] at o ⊢
    exact hq _ H' (Or.inr ⟨hA, r, rfl, o.sub (.cons_cons _ (List.nil_sublist _))⟩)

section
variable {A : Alg} (hA : IsAlg A)
include hA
theorem and_part {f g : Int} (sf : Set6 A f) (sg : Set6 A g) (hf : IsPart A f) (hg : IsPart A g) : IsPart A (bitA (fun _ x y => x &&& y) .i64 f g) := by
  obtain ⟨_, h⟩ := and_set hA sf sg
  have h' : ∀ {x : Int}, El A x → (tb (bitA (fun _ x y => x &&& y) .i64 f g) x = true ↔ tb f x = true ∧ tb g x = true) := fun hx => by rw [h _ hx.1 hx.2, Bool.and_eq_true]
  refine ⟨(h' hA.e0).2 ⟨hf.1, hg.1⟩, (h' hA.e1).2 ⟨hf.2.1, hg.2.1⟩, fun x x0 x1 y y0 y1 hx hy => ?_⟩
  have ex : El A x := ⟨x0, x1⟩
  have ey : El A y := ⟨y0, y1⟩
  rw [h' ex] at hx
  rw [h' ey] at hy
  obtain ⟨a1, a2, a3, a4⟩ := hf.2.2 x x0 x1 y y0 y1 hx.1 hy.1
  obtain ⟨b1, b2, b3, b4⟩ := hg.2.2 x x0 x1 y y0 y1 hx.2 hy.2
  exact ⟨(h' (hA.te ex ey)).2 ⟨a1, b1⟩, (h' (hA.ie x y)).2 ⟨a2, b2⟩, (h' (hA.me ex ey)).2 ⟨a3, b3⟩, (h' (hA.je ex ey)).2 ⟨a4, b4⟩⟩
theorem all_part : IsPart A (2 ^ A.up.length - 1) := by
  have hn := hA.hi
  have b : ∀ {x : Int}, El A x → tb (2 ^ A.up.length - 1) x = true := fun hx => tb_ones (by omega) hx.1 hx.2
  exact ⟨b hA.e0, b hA.e1, fun x x0 x1 y y0 y1 _ _ => ⟨b (hA.te ⟨x0, x1⟩ ⟨y0, y1⟩), b (hA.ie x y), b (hA.me ⟨x0, x1⟩ ⟨y0, y1⟩), b (hA.je ⟨x0, x1⟩ ⟨y0, y1⟩)⟩⟩
theorem bitA_or {a b : Int} (ha0 : 0 ≤ a) (ha1 : a ≤ 1000000) (hb0 : 0 ≤ b) (hb1 : b ≤ 1000000) :
    bitA (fun _ x y => x ||| y) .i64 a b = ((a.toNat ||| b.toNat : Nat) : Int) := by
  obtain ⟨m, rfl⟩ : ∃ m : Nat, a = m := ⟨a.toNat, by omega⟩
  obtain ⟨n, rfl⟩ : ∃ n : Nat, b = n := ⟨b.toNat, by omega⟩
  have h1 : m ||| n < 2 ^ 20 := Nat.or_lt_two_pow (by omega) (by omega)
  show IntKind.i64.wrap ((BitVec.ofInt 64 (m : Int) ||| BitVec.ofInt 64 (n : Int)).toNat : Nat) = _
  simp only [BitVec.ofInt_natCast, BitVec.toNat_or, BitVec.toNat_ofNat, Int.toNat_natCast]
  rw [Nat.mod_eq_of_lt (by omega), Nat.mod_eq_of_lt (by omega)]
  exact wrap_id (by omega) (by omega)
theorem two_part : Set6 A (bitA (fun _ x y => x ||| y) .i64 1 (2 ^ ((A.up.length : Int) - 1).toNat)) ∧ IsPart A (bitA (fun _ x y => x ||| y) .i64 1 (2 ^ ((A.up.length : Int) - 1).toNat)) := by
  have hn := hA.hi
  have hn1 := hA.lo
  have sp := pow_set hA hA.e1
  have h64 : (2 : Int) ^ A.up.length ≤ 2 ^ 6 := by exact_mod_cast Nat.pow_le_pow_right (by omega) hn
  have e := bitA_or hA (a := 1) (b := 2 ^ ((A.up.length : Int) - 1).toNat) (by omega) (by omega) sp.1 (by have := sp.2; omega)
  rw [e]
  have hor : (1 : Int).toNat ||| ((2 : Int) ^ ((A.up.length : Int) - 1).toNat).toNat < 2 ^ A.up.length := by
    have hp : 1 ≤ 2 ^ A.up.length := Nat.pow_pos (by omega)
    have h2 : 2 ≤ 2 ^ A.up.length := by
      have := Nat.pow_le_pow_right (n := 2) (by omega) hn1
      omega
    have h3 := sp.2
    have h4 := sp.1
    have h5 : ((2 : Int) ^ A.up.length) = ((2 ^ A.up.length : Nat) : Int) := by push_cast; rfl
    refine Nat.or_lt_two_pow ?_ ?_
    · show 1 < _; omega
    · omega
  have b : ∀ {w : Int}, El A w → (tb (((1 : Int).toNat ||| ((2 : Int) ^ ((A.up.length : Int) - 1).toNat).toNat : Nat) : Int) w = true ↔ w = 0 ∨ w = A.up.length - 1) := fun {w} hw => by
    have h1 := hw.1
    have h2 := hw.2
    have hb := pow_bit hA hA.e1 hw
    rw [tb_testBit sp.1 (by omega)] at hb
    rw [tb_testBit (by omega) (by omega), Int.toNat_natCast, Nat.testBit_or, Bool.or_eq_true, hb]
    have h3 : Nat.testBit (1 : Int).toNat w.toNat = true ↔ w = 0 := by
      show Nat.testBit 1 w.toNat = true ↔ w = 0
      rw [show (1 : Nat) = 2 ^ 0 from rfl, Nat.testBit_two_pow, decide_eq_true_iff]; omega
    rw [h3]
  have h5 : ((2 : Int) ^ A.up.length) = ((2 ^ A.up.length : Nat) : Int) := by push_cast; rfl
  refine ⟨⟨by omega, by omega⟩, ?_⟩
  generalize (((1 : Int).toNat ||| ((2 : Int) ^ ((A.up.length : Int) - 1).toNat).toNat : Nat) : Int) = p at *
  have b0 := (b hA.e0).2 (Or.inl rfl)
  have b1 := (b hA.e1).2 (Or.inr rfl)
  refine ⟨b0, b1, fun x x0 x1 y y0 y1 hx hy => ?_⟩
  have ex : El A x := ⟨x0, x1⟩
  have ey : El A y := ⟨y0, y1⟩
  rcases (b ex).1 hx with e | e <;> subst e
  · refine ⟨?_, ?_, ?_, ?_⟩
    · rw [hA.t0' ey]; exact b0
    · rw [(hA.imp_top ex ey).2 (hA.b ey)]; exact b1
    · rw [hA.m_le ex ey (hA.b ey)]; exact b0
    · rw [hA.j_le ex ey (hA.b ey)]; exact hy
  · refine ⟨?_, ?_, ?_, ?_⟩
    · rw [hA.t1' ey]; exact hy
    · have h2 : impF A (A.up.length - 1) y = y := by
        refine hA.as (hA.ie _ _) ey ?_ (hA.le_imp ex ey ey (by rw [hA.t1' ey]; exact hA.r ey))
        have := hA.imp_le ex ey
        rwa [hA.t1' (hA.ie _ _)] at this
      rw [h2]; exact hy
    · have h3 : meetF A.up (A.up.length - 1) y = y := hA.as (hA.me ex ey) ey (hA.m2 ex ey) (hA.m3 ex ey ey (hA.t ey) (hA.r ey))
      rw [h3]; exact hy
    · rw [hA.top_eq (hA.je ex ey) (hA.j1 ex ey)]; exact b1
end
end Go.AL

/-
  The law of PartsOf.
-/
namespace Go.AL
open Go.Proofs
set_option linter.unusedSimpArgs false
set_option linter.unusedVariables false
variable {w0 : World} {H : Hp}

theorem DrawPartsOf_c {bv : AV} {m : Nat} (hb : Byt H bv m) (hm : m ≤ 4611686018427387904) {Q : AV → Hp → Prop}
    (hq : ∀ v A H', Ext H H' → RA H H' v A → Q v H') :
    ACalls Try.prog w0 49 [bv] H Q := by
  refine in49 ?_
  simp only [c49, ↓WP, WQ, if_true, if_false, eq_self, implies_true, ne_eq, List.nil_append, List.cons_append, ↓reduceIte, Nat.reduceEqDiff, Nat.reduceBEq, reduceCtorEq, Nat.reduceAdd, resA, ret1, qv, lv, ev, boolA, binA, intA, shiftA, cmpA, beqA, lres]
  refine NewRowd_in fun b2 hb2 => ?_
  have hE := Ext.set (x := ⟨36, true, [.nils, .nils]⟩) hb2
  have g2 : (H.set b2 ⟨36, true, [.nils, .nils]⟩) b2 = some ⟨36, true, [.nils, .nils]⟩ := Hp.set_same _ _ _
  have hb := byt_ext hb hE
  generalize H.set b2 ⟨36, true, [.nils, .nils]⟩ = B at *
  simp only [↓WP, WQ, if_true, if_false, eq_self, implies_true, ne_eq, List.nil_append, List.cons_append, ↓reduceIte, Nat.reduceEqDiff, Nat.reduceBEq, reduceCtorEq, Nat.reduceAdd, resA, ret1, qv, lv, ev, boolA, binA, intA, shiftA, cmpA, beqA, lres]
  refine newReader_c hb hm fun r H1 hR1 => ?_
  simp only [↓WP, WQ, if_true, if_false, eq_self, implies_true, ne_eq, List.nil_append, List.cons_append, ↓reduceIte, Nat.reduceEqDiff, Nat.reduceBEq, reduceCtorEq, Nat.reduceAdd, resA, ret1, qv, lv, ev, boolA, binA, intA, shiftA, cmpA, beqA, lres]
  refine someAlgebra_c hR1 (by omega) fun v A H2 hR hF hA => ?_
  obtain ⟨uv, tv, rfl, s1, s2⟩ := hA.scal
  have h2 := hR.ext.get g2
  simp only [↓WP, WQ, if_true, if_false, eq_self, implies_true, ne_eq, List.nil_append, List.cons_append, ↓reduceIte, Nat.reduceEqDiff, Nat.reduceBEq, reduceCtorEq, Nat.reduceAdd, resA, ret1, qv, lv, ev, boolA, binA, intA, shiftA, cmpA, beqA, lres, stA_two (x := uv) (y := tv) h2 s1 s2, atN_two (Hp.set_same H2 b2 ⟨36, true, [uv, tv]⟩)]
  refine hq _ A _ ((hE.trans hR.ext).step hb2 fun q hq _ => by simp [Hp.set, hq]) ?_
  exact (hA.fxs (X := fun q => q = b2) ⟨fun q hq h0 => by simp [Hp.set, hq], fun q hq => (set_none hq).2⟩ (fun q e => by rw [e, hR1.ext.get g2]; simp)).back fun q hq => (hE.trans hR1.ext).nn hq

theorem FnPartsOf_l {bv : AV} {m : Nat} (hb : Byt H bv m) (hm : m ≤ 9223372036854775807) : ACalls Try.prog w0 12 [bv] H fun v _ => v = .bool true := by
  refine in12 ?_
  simp only [c12, ↓WP, WQ, if_true, if_false, eq_self, implies_true, ne_eq, List.nil_append, List.cons_append, ↓reduceIte, Nat.reduceEqDiff, Nat.reduceBEq, reduceCtorEq, Nat.reduceAdd, resA, ret1, qv, lv, ev, boolA, binA, intA, shiftA, cmpA, beqA, lres, hb.1]
  refine Br_dec (fun h1 => ?_) (fun h1 => ?_) <;> simp only [↓WP, WQ, if_true, if_false, eq_self, implies_true, ne_eq, List.nil_append, List.cons_append, ↓reduceIte, Nat.reduceEqDiff, Nat.reduceBEq, reduceCtorEq, Nat.reduceAdd, resA, ret1, qv, lv, ev, boolA, binA, intA, shiftA, cmpA, beqA, lres]
  refine DrawPartsOf_c hb (by omega) fun v A H1 hE hA => ?_
  obtain ⟨uv, tv, rfl, hu, ht⟩ := hA.open
  have hS := hA.small
  have hu7 := hA.up
  simp only [↓WP, WQ, if_true, if_false, eq_self, implies_true, ne_eq, List.nil_append, List.cons_append, ↓reduceIte, Nat.reduceEqDiff, Nat.reduceBEq, reduceCtorEq, Nat.reduceAdd, resA, ret1, qv, lv, ev, boolA, binA, intA, shiftA, cmpA, beqA, lres]
  refine NewRowd_in fun b3 hb3 => ?_
  have h0 : (H1.set b3 ⟨36, true, [.nils, .nils]⟩) b3 = some ⟨36, true, [.nils, .nils]⟩ := Hp.set_same _ _ _
  have hE3 := Ext.set (x := ⟨36, true, [uv, tv]⟩) hb3
  have g3 : (H1.set b3 ⟨36, true, [uv, tv]⟩) b3 = some ⟨36, true, [uv, tv]⟩ := Hp.set_same _ _ _
  simp only [↓WP, WQ, if_true, if_false, eq_self, implies_true, ne_eq, List.nil_append, List.cons_append, ↓reduceIte, Nat.reduceEqDiff, Nat.reduceBEq, reduceCtorEq, Nat.reduceAdd, resA, ret1, qv, lv, ev, boolA, binA, intA, shiftA, cmpA, beqA, lres, stA_two (x := uv) (y := tv) h0 (lenA_scal hu.len) (lenA_scal ht.len), Hp.set_set, atN_two g3]
  generalize H1.set b3 ⟨36, true, [uv, tv]⟩ = G at *
  have hu := hu.ext hE3
  have ht := ht.ext hE3
  have hwl : IntKind.i64.wrap ((A.up.length : Int) - 1) = A.up.length - 1 := wrap_id (by omega) (by omega)
  refine PartsOf_c hu ht hS fun v1 G1 hv1 => ?_
  obtain ⟨hE1, l1, e1, e1', hl1⟩ := hv1.ints
  have g3 := hE1.get g3
  have hu := hu.ext hE1
  have ht := ht.ext hE1
  simp only [↓WP, WQ, if_true, if_false, eq_self, implies_true, ne_eq, List.nil_append, List.cons_append, ↓reduceIte, Nat.reduceEqDiff, Nat.reduceBEq, reduceCtorEq, Nat.reduceAdd, resA, ret1, qv, lv, ev, boolA, binA, intA, shiftA, cmpA, beqA, lres, atN_two g3]
  refine sPartsOf_c hu ht hS fun v2 G2 hv2 => ?_
  obtain ⟨hE2, l2, e2, e2', hl2⟩ := hv2.ints
  have g3 := hE2.get g3
  have hu := hu.ext hE2
  have ht := ht.ext hE2
  have hl1 := hl1.ext hE2
  refine (Classical.em (IsAlg A)).elim (fun hI => ?_) (fun hI => ?_)
  rotate_left
  · have k1 := e1' hI
    have k2 := e2' hI
    subst k1
    subst k2
    simp only [↓WP, WQ, if_true, if_false, eq_self, implies_true, ne_eq, List.nil_append, List.cons_append, ↓reduceIte, Nat.reduceEqDiff, Nat.reduceBEq, reduceCtorEq, Nat.reduceAdd, resA, ret1, qv, lv, ev, boolA, binA, intA, shiftA, cmpA, beqA, lres]
    refine equalInts_c hl1 hl2 (by simp) (by simp) (fun _ => ?_) (fun h => absurd rfl h)
    simp only [↓WP, WQ, if_true, if_false, eq_self, implies_true, ne_eq, List.nil_append, List.cons_append, ↓reduceIte, Nat.reduceEqDiff, Nat.reduceBEq, reduceCtorEq, Nat.reduceAdd, resA, ret1, qv, lv, ev, boolA, binA, intA, shiftA, cmpA, beqA, lres, atN_two g3]
    refine ValidAlgebra_c hu ht hS (fun h => absurd h hI) (fun _ => ?_)
    simp only [↓WP, WQ, if_true, if_false, eq_self, implies_true, ne_eq, List.nil_append, List.cons_append, ↓reduceIte, Nat.reduceEqDiff, Nat.reduceBEq, reduceCtorEq, Nat.reduceAdd, resA, ret1, qv, lv, ev, boolA, binA, intA, shiftA, cmpA, beqA, lres, atN_two g3]
    refine sPartsOf_c hu ht hS fun v3 G3 hv3 => ?_
    obtain ⟨hE3, l3, e3, e3', hl3⟩ := hv3.ints
    have k3 := e3' hI
    subst k3
    simp only [↓WP, WQ, if_true, if_false, eq_self, implies_true, ne_eq, List.nil_append, List.cons_append, ↓reduceIte, Nat.reduceEqDiff, Nat.reduceBEq, reduceCtorEq, Nat.reduceAdd, resA, ret1, qv, lv, ev, boolA, binA, intA, shiftA, cmpA, beqA, lres]
    refine equalInts_c (hl1.ext hE3) hl3 (by simp) (by simp) (fun _ => ?_) (fun h => absurd rfl h)
    simp only [↓WP, WQ, if_true, if_false, eq_self, implies_true, ne_eq, List.nil_append, List.cons_append, ↓reduceIte, Nat.reduceEqDiff, Nat.reduceBEq, reduceCtorEq, Nat.reduceAdd, resA, ret1, qv, lv, ev, boolA, binA, intA, shiftA, cmpA, beqA, lres]
  have k1 := e1 hI
  have k2 := e2 hI
  subst k1
  subst k2
  have hll := partL_len hI
  have hn6 := hI.hi
  have hn1 := hI.lo
  simp only [↓WP, WQ, if_true, if_false, eq_self, implies_true, ne_eq, List.nil_append, List.cons_append, ↓reduceIte, Nat.reduceEqDiff, Nat.reduceBEq, reduceCtorEq, Nat.reduceAdd, resA, ret1, qv, lv, ev, boolA, binA, intA, shiftA, cmpA, beqA, lres]
  refine equalInts_c hl1 hl2 (by omega) (by omega) (fun _ => ?_) (fun h => absurd rfl h)
  simp only [↓WP, WQ, if_true, if_false, eq_self, implies_true, ne_eq, List.nil_append, List.cons_append, ↓reduceIte, Nat.reduceEqDiff, Nat.reduceBEq, reduceCtorEq, Nat.reduceAdd, resA, ret1, qv, lv, ev, boolA, binA, intA, shiftA, cmpA, beqA, lres, atN_two g3]
  refine ValidAlgebra_c hu ht hS (fun _ => ?_) (fun h => absurd hI h)
  simp only [↓WP, WQ, if_true, if_false, eq_self, implies_true, ne_eq, List.nil_append, List.cons_append, ↓reduceIte, Nat.reduceEqDiff, Nat.reduceBEq, reduceCtorEq, Nat.reduceAdd, resA, ret1, qv, lv, ev, boolA, binA, intA, shiftA, cmpA, beqA, lres, at_fst g3, hu.len]
  have hin : ∀ f : Int, Set6 A f → IsPart A f → ∀ {Q : AV → Hp → Prop}, Q (.bool true) G2 → ACalls Try.prog w0 54 [v1, .int .i64 f] G2 Q := by
    intro f h1 h2 Q hq
    obtain ⟨j, j0, j1, rfl⟩ := mem_getD (partL_mem.2 ⟨h1, h2⟩)
    exact isIn_c hl1 (by omega) (fun _ _ _ _ => hq) (fun h => absurd rfl (h j j0 j1))
  refine W_for 0 (partL A).length (fun i e H' => H' = G2 ∧ Sl e [(3, .ptr b3 0), (4, v1), (5, .int .i64 A.up.length), (6, .int .i64 i)]) (by omega) ⟨rfl, by simp only [↓WP, WQ, if_true, if_false, eq_self, implies_true, ne_eq, List.nil_append, List.cons_append, ↓reduceIte, Nat.reduceEqDiff, Nat.reduceBEq, reduceCtorEq, Nat.reduceAdd, resA, ret1, qv, lv, ev, boolA, binA, intA, shiftA, cmpA, beqA, lres]⟩ ?_
  rintro i e H' hi0 hi1 ⟨rfl, hs⟩
  simp only [Sl_cons, Sl_nil, and_true] at hs
  have hw : IntKind.i64.wrap (i + 1) = i + 1 := wrap_id (by omega) (by omega)
  refine (Classical.em (i < (partL A).length)).elim (fun hi => ?_) (fun hi => ?_) <;> simp only [↓WP, WQ, if_true, if_false, eq_self, implies_true, ne_eq, List.nil_append, List.cons_append, ↓reduceIte, Nat.reduceEqDiff, Nat.reduceBEq, reduceCtorEq, Nat.reduceAdd, resA, ret1, qv, lv, ev, boolA, binA, intA, shiftA, cmpA, beqA, lres, hs, hl1.len, hi]
  · refine W_for 0 i (fun k e H'' => H'' = H' ∧ Sl e [(3, .ptr b3 0), (4, v1), (5, .int .i64 A.up.length), (6, .int .i64 i), (7, .int .i64 k)]) (by omega) ⟨rfl, by simp only [↓WP, WQ, if_true, if_false, eq_self, implies_true, ne_eq, List.nil_append, List.cons_append, ↓reduceIte, Nat.reduceEqDiff, Nat.reduceBEq, reduceCtorEq, Nat.reduceAdd, resA, ret1, qv, lv, ev, boolA, binA, intA, shiftA, cmpA, beqA, lres, hs]⟩ ?_
    rintro k e H'' hk0 hk1 ⟨rfl, hs⟩
    simp only [Sl_cons, Sl_nil, and_true] at hs
    have hwk : IntKind.i64.wrap (k + 1) = k + 1 := wrap_id (by omega) (by omega)
    refine (Classical.em (k < i)).elim (fun hk => ?_) (fun hk => ?_) <;> simp only [↓WP, WQ, if_true, if_false, eq_self, implies_true, ne_eq, List.nil_append, List.cons_append, ↓reduceIte, Nat.reduceEqDiff, Nat.reduceBEq, reduceCtorEq, Nat.reduceAdd, resA, ret1, qv, lv, ev, boolA, binA, intA, shiftA, cmpA, beqA, lres, hs, hk]
    · have f1 := partL_mem.1 (getD_mem hi0 hi)
      have f2 := partL_mem.1 (getD_mem hk0 (show k < (partL A).length by omega))
      refine DR_in (fun _ => True) rfl ?_
      simp only [↓WP, WQ, if_true, if_false, eq_self, implies_true, ne_eq, List.nil_append, List.cons_append, ↓reduceIte, Nat.reduceEqDiff, Nat.reduceBEq, reduceCtorEq, Nat.reduceAdd, resA, ret1, qv, lv, ev, boolA, binA, intA, shiftA, cmpA, beqA, lres, hs, hl1.idx hi0 hi, hl1.at (show i.toNat < (partL A).length by omega), hl1.idx hk0 (show k < (partL A).length by omega), hl1.at (show k.toNat < (partL A).length by omega)]
      refine hin _ (and_set hI f1.1 f2.1).1 (and_part hI f1.1 f2.1 f1.2 f2.2) ?_
      simp only [↓WP, WQ, if_true, if_false, eq_self, implies_true, ne_eq, List.nil_append, List.cons_append, ↓reduceIte, Nat.reduceEqDiff, Nat.reduceBEq, reduceCtorEq, Nat.reduceAdd, resA, ret1, qv, lv, ev, boolA, binA, intA, shiftA, cmpA, beqA, lres, hs, hwk, hk]
    · simp only [↓WP, WQ, if_true, if_false, eq_self, implies_true, ne_eq, List.nil_append, List.cons_append, ↓reduceIte, Nat.reduceEqDiff, Nat.reduceBEq, reduceCtorEq, Nat.reduceAdd, resA, ret1, qv, lv, ev, boolA, binA, intA, shiftA, cmpA, beqA, lres, hs, hw, hi]
  · refine ascends_c hl1 (by omega) (sel_sorted _ _) ?_
    simp only [↓WP, WQ, if_true, if_false, eq_self, implies_true, ne_eq, List.nil_append, List.cons_append, ↓reduceIte, Nat.reduceEqDiff, Nat.reduceBEq, reduceCtorEq, Nat.reduceAdd, resA, ret1, qv, lv, ev, boolA, binA, intA, shiftA, cmpA, beqA, lres, hs, hwl]
    refine lpower_c _ (by omega) ?_
    simp only [↓WP, WQ, if_true, if_false, eq_self, implies_true, ne_eq, List.nil_append, List.cons_append, ↓reduceIte, Nat.reduceEqDiff, Nat.reduceBEq, reduceCtorEq, Nat.reduceAdd, resA, ret1, qv, lv, ev, boolA, binA, intA, shiftA, cmpA, beqA, lres, hs]
    refine hin _ (two_part hI).1 (two_part hI).2 ?_
    simp only [↓WP, WQ, if_true, if_false, eq_self, implies_true, ne_eq, List.nil_append, List.cons_append, ↓reduceIte, Nat.reduceEqDiff, Nat.reduceBEq, reduceCtorEq, Nat.reduceAdd, resA, ret1, qv, lv, ev, boolA, binA, intA, shiftA, cmpA, beqA, lres, hs]
    refine lpower_c _ (by omega) ?_
    have hp := pow_le62 (n := A.up.length) (by omega)
    have hp0 := pow2_pos A.up.length
    have hw2 : IntKind.i64.wrap ((2 : Int) ^ A.up.length - 1) = 2 ^ A.up.length - 1 := wrap_id (by omega) (by omega)
    simp only [↓WP, WQ, if_true, if_false, eq_self, implies_true, ne_eq, List.nil_append, List.cons_append, ↓reduceIte, Nat.reduceEqDiff, Nat.reduceBEq, reduceCtorEq, Nat.reduceAdd, resA, ret1, qv, lv, ev, boolA, binA, intA, shiftA, cmpA, beqA, lres, hs, Int.toNat_natCast, hw2]
    refine hin _ (top_set hI) (all_part hI) ?_
    simp only [↓WP, WQ, if_true, if_false, eq_self, implies_true, ne_eq, List.nil_append, List.cons_append, ↓reduceIte, Nat.reduceEqDiff, Nat.reduceBEq, reduceCtorEq, Nat.reduceAdd, resA, ret1, qv, lv, ev, boolA, binA, intA, shiftA, cmpA, beqA, lres, hs]
end Go.AL

/-
  The given statement FnPartsOfSaid is proved: for every input the law FnPartsOf returns true, and its argument reads as before. Conditions: none beyond the given row's own.
-/
namespace Go.Proofs.Ytkkgckmgplicjaa
open Go.AL Go.ChangeShapes Go.WideShapes
set_option maxRecDepth 100000

theorem try_own : ownKnob Try.prog.godebug = Option.none := by kernel_rfl
theorem try_kids : Kids Try.prog (· < Try.prog.types.size) := kids_rows (by kernel_rfl) (by kernel_rfl)
theorem try_full : ∀ t e, t < Try.prog.types.size → Try.prog.underlying t = some (.slice e) → 0 < Try.prog.cellsOf e := slices_full_of Try.prog (by kernel_rfl)
theorem try_byte : Try.prog.cellsOf 5 = 1 := by kernel_rfl

theorem lifted (os : Os) (started : os.Started) (H : Type) (enc : TypeId × Value → H) :
    ReturnsInHanded {} Try.checked os 12 .any (Rows.fnPartsOfSpec.pre6 enc Try.prog Try.f12 Rows.fnPartsOfRow.domain false) (Rows.fnPartsOfSpec.post enc Try.prog Try.f12 false true false false) :=
  handed_bytes (C := Try.checked) (t := 22) (e := 5) (tb := 4) try_own started (by kernel_rfl) Try.func12
    (ChangeSpec.witness6 (enc := enc) (C := Try.checked) false ⟨#[], #[.slice Option.none 0 0], []⟩ 8 (by kernel_rfl) (by kernel_rfl) (by kernel_rfl) (by kernel_rfl))
    try_kids try_full Try.params12 (of_decide_eq_true (by kernel_rfl)) Try.underlying22 Try.underlying5 try_byte rfl (by kernel_rfl) Try.underlying4 (fun _ => rfl)
    (fun w0 bv n H hb hn => FnPartsOf_l hb hn)

theorem fnPartsOf_holds : Rows.FnPartsOfSaid :=
  OpenClaim.holds_of_wide 12 Try.f12 rfl rfl rfl rfl rfl rfl rfl ⟨rfl, rfl, rfl, rfl, rfl⟩ rfl rfl rfl rfl rfl (by kernel_rfl) Try.func12 (by kernel_rfl)
    (of_decide_eq_true (by kernel_rfl)) (by unfold Func.isWrapper; first | (rw [if_pos (by decide +kernel)]; kernel_rfl) | (rw [if_neg (by decide +kernel)]; exact ⟨rfl, rfl⟩))
    (fun os started H enc _ => lifted os started H enc)

#print axioms fnPartsOf_holds
end Go.Proofs.Ytkkgckmgplicjaa
