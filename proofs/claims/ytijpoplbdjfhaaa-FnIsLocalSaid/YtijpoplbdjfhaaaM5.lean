/-
  Lemmas that the proofs of the given statements of this seat use. Conditions: none.
-/
import Derived.Test.YtijpoplbdjfhaaaM4
import Derived.Laws.Strings
/-
  Plain laws of depths.
-/
namespace Go.AL
open Go.Proofs
set_option linter.unusedSimpArgs false
set_option linter.unusedVariables false
set_option linter.unusedSectionVars false

section
variable {A : Alg} (hA : IsAlg A) {x : Int} (hx : El A x)
include hA hx
theorem pow_zero_le {j k : Nat} (h : j ≤ k) (hj : powF A x j = 0) : powF A x k = 0 := by
  have := pow_le hA hx (j := j) (k - j)
  rw [show j + (k - j) = k by omega, hj] at this
  exact hA.bot_eq (pow_e hA hx k) this
theorem pow_zero_any {k : Nat} (hk : powF A x k = 0) : powF A x A.up.length = 0 := by
  by_cases h : k ≤ A.up.length
  · exact pow_zero_le hA hx h hk
  · rw [← pow_fix hA hx (k - A.up.length), show A.up.length + (k - A.up.length) = k by omega]; exact hk
/-- The depth, as both tell it. -/
theorem dep_cases : (∃ z : Int, 0 ≤ z ∧ z ≤ A.up.length ∧ powF A x z.toNat = 0 ∧ (allI z fun k => ¬ powF A x k.toNat = 0) ∧ depV A x 21 = .tup [.int .i64 z, .bool true] ∧ depV A x (A.up.length + 1) = .tup [.int .i64 z, .bool true] ∧ powF A x A.up.length = 0) ∨
    (¬ powF A x A.up.length = 0 ∧ depV A x 21 = .tup [.int .i64 0, .bool false] ∧ depV A x (A.up.length + 1) = .tup [.int .i64 0, .bool false]) := by
  have hn := hA.hi
  by_cases h : powF A x A.up.length = 0
  · left
    rcases firstI_spec (n := (A.up.length : Int) + 1) (p := fun k => powF A x k.toNat = 0) with ⟨h0, h1, h2, h3⟩ | ⟨_, h1⟩
    · refine ⟨_, h0, by omega, h2, fun k k0 k1 => h3 k k0 k1, depV_yes hA hx h0 (by omega) h2 fun k k0 k1 => h3 k k0 k1, depV_yes hA hx h0 h1 h2 fun k k0 k1 => h3 k k0 k1, h⟩
    · exact absurd (by rw [Int.toNat_natCast]; exact h) (h1 A.up.length (by omega) (by omega))
  · right
    have hno : ∀ k, ¬ powF A x k = 0 := fun k hk => h (pow_zero_any hA hx hk)
    exact ⟨h, depV_none hA hx fun k _ _ => hno _, depV_none hA hx fun k _ _ => hno _⟩
end
end Go.AL

/-
  The properties of algebras, by their names.
-/
namespace Go.AL
open Go.Proofs
set_option linter.unusedSimpArgs false
set_option linter.unusedVariables false
variable {w0 : World} {H : Hp}

/-- The number of the property of a name: 5 if there is none. -/
def prop (s : ByteArray) : Nat :=
  if (s.toList == (⟨#[112, 114, 101, 108, 105, 110, 101, 97, 114]⟩ : ByteArray).toList) = true then 0 else
  if (s.toList == (⟨#[100, 105, 118, 105, 115, 105, 98, 108, 101]⟩ : ByteArray).toList) = true then 1 else
  if (s.toList == (⟨#[105, 110, 118, 111, 108, 117, 116, 105, 118, 101]⟩ : ByteArray).toList) = true then 2 else
  if (s.toList == (⟨#[105, 100, 101, 109, 112, 111, 116, 101, 110, 116]⟩ : ByteArray).toList) = true then 3 else
  if (s.toList == (⟨#[98, 111, 111, 108, 101, 97, 110]⟩ : ByteArray).toList) = true then 4 else
  5
theorem prop_cases (s : ByteArray) :
    ((s.toList == (⟨#[112, 114, 101, 108, 105, 110, 101, 97, 114]⟩ : ByteArray).toList) = true ∧ prop s = 0) ∨
    ((s.toList == (⟨#[112, 114, 101, 108, 105, 110, 101, 97, 114]⟩ : ByteArray).toList) = false ∧ (s.toList == (⟨#[100, 105, 118, 105, 115, 105, 98, 108, 101]⟩ : ByteArray).toList) = true ∧ prop s = 1) ∨
    ((s.toList == (⟨#[112, 114, 101, 108, 105, 110, 101, 97, 114]⟩ : ByteArray).toList) = false ∧ (s.toList == (⟨#[100, 105, 118, 105, 115, 105, 98, 108, 101]⟩ : ByteArray).toList) = false ∧ (s.toList == (⟨#[105, 110, 118, 111, 108, 117, 116, 105, 118, 101]⟩ : ByteArray).toList) = true ∧ prop s = 2) ∨
    ((s.toList == (⟨#[112, 114, 101, 108, 105, 110, 101, 97, 114]⟩ : ByteArray).toList) = false ∧ (s.toList == (⟨#[100, 105, 118, 105, 115, 105, 98, 108, 101]⟩ : ByteArray).toList) = false ∧ (s.toList == (⟨#[105, 110, 118, 111, 108, 117, 116, 105, 118, 101]⟩ : ByteArray).toList) = false ∧ (s.toList == (⟨#[105, 100, 101, 109, 112, 111, 116, 101, 110, 116]⟩ : ByteArray).toList) = true ∧ prop s = 3) ∨
    ((s.toList == (⟨#[112, 114, 101, 108, 105, 110, 101, 97, 114]⟩ : ByteArray).toList) = false ∧ (s.toList == (⟨#[100, 105, 118, 105, 115, 105, 98, 108, 101]⟩ : ByteArray).toList) = false ∧ (s.toList == (⟨#[105, 110, 118, 111, 108, 117, 116, 105, 118, 101]⟩ : ByteArray).toList) = false ∧ (s.toList == (⟨#[105, 100, 101, 109, 112, 111, 116, 101, 110, 116]⟩ : ByteArray).toList) = false ∧ (s.toList == (⟨#[98, 111, 111, 108, 101, 97, 110]⟩ : ByteArray).toList) = true ∧ prop s = 4) ∨
    ((s.toList == (⟨#[112, 114, 101, 108, 105, 110, 101, 97, 114]⟩ : ByteArray).toList) = false ∧ (s.toList == (⟨#[100, 105, 118, 105, 115, 105, 98, 108, 101]⟩ : ByteArray).toList) = false ∧ (s.toList == (⟨#[105, 110, 118, 111, 108, 117, 116, 105, 118, 101]⟩ : ByteArray).toList) = false ∧ (s.toList == (⟨#[105, 100, 101, 109, 112, 111, 116, 101, 110, 116]⟩ : ByteArray).toList) = false ∧ (s.toList == (⟨#[98, 111, 111, 108, 101, 97, 110]⟩ : ByteArray).toList) = false ∧ prop s = 5) := by
  unfold prop
  generalize (s.toList == (⟨#[112, 114, 101, 108, 105, 110, 101, 97, 114]⟩ : ByteArray).toList) = b0
  generalize (s.toList == (⟨#[100, 105, 118, 105, 115, 105, 98, 108, 101]⟩ : ByteArray).toList) = b1
  generalize (s.toList == (⟨#[105, 110, 118, 111, 108, 117, 116, 105, 118, 101]⟩ : ByteArray).toList) = b2
  generalize (s.toList == (⟨#[105, 100, 101, 109, 112, 111, 116, 101, 110, 116]⟩ : ByteArray).toList) = b3
  generalize (s.toList == (⟨#[98, 111, 111, 108, 101, 97, 110]⟩ : ByteArray).toList) = b4
  cases b0 <;> cases b1 <;> cases b2 <;> cases b3 <;> cases b4 <;> simp
theorem prop_prelinear : prop (⟨#[112, 114, 101, 108, 105, 110, 101, 97, 114]⟩ : ByteArray) = 0 := by
  simp only [prop, ByteArray.toList_eq]; rfl
theorem prop_divisible : prop (⟨#[100, 105, 118, 105, 115, 105, 98, 108, 101]⟩ : ByteArray) = 1 := by
  simp only [prop, ByteArray.toList_eq]; rfl
theorem prop_involutive : prop (⟨#[105, 110, 118, 111, 108, 117, 116, 105, 118, 101]⟩ : ByteArray) = 2 := by
  simp only [prop, ByteArray.toList_eq]; rfl
theorem prop_idempotent : prop (⟨#[105, 100, 101, 109, 112, 111, 116, 101, 110, 116]⟩ : ByteArray) = 3 := by
  simp only [prop, ByteArray.toList_eq]; rfl
theorem prop_boolean : prop (⟨#[98, 111, 111, 108, 101, 97, 110]⟩ : ByteArray) = 4 := by
  simp only [prop, ByteArray.toList_eq]; rfl

/-- What a property says of two elements. -/
def PH (k : Nat) (A : Alg) (x y : Int) : Prop :=
  match k with
  | 0 => joinF A.up (impF A x y) (impF A y x) = A.up.length - 1
  | 1 => A.tm x (impF A x y) = meetF A.up x y
  | 2 => impF A (impF A x 0) 0 = x
  | 3 => A.tm x x = x
  | 4 => joinF A.up x (impF A x 0) = A.up.length - 1
  | _ => False
/-- An algebra with a property. -/
def HasP (k : Nat) (A : Alg) : Prop := k < 5 ∧ allI A.up.length fun x => allI A.up.length fun y => PH k A x y

/-- A slice of strings. -/
def Strs (H : Hp) (v : AV) (l : List ByteArray) : Prop := lenA v = some l.length ∧ ∀ i (hi : i < l.length), H.at (elt 1 v i) = some (.str l[i])
theorem Strs.len {H : Hp} {v : AV} {l : List ByteArray} (h : Strs H v l) : lenA v = some l.length := h.1
theorem strs_new {H : Hp} {q ty : Nat} {l : List ByteArray} (h : H q = some ⟨ty, true, l.map AV.str⟩) : Strs H (.sl q 0 l.length) l := by
  refine ⟨rfl, fun i hi => ?_⟩
  simp [elt, Hp.at, h, hi]

theorem IndexS_c {v : AV} {l : List ByteArray} {s : ByteArray} (h : Strs H v l) (hn : l.length < 4611686018427387904) {Q : AV → Hp → Prop} (hq : Q (.int .i64 (firstI l.length fun i => (s.toList == (l.getD i.toNat ⟨#[]⟩).toList) = true)) H) :
    ACalls Try.prog w0 126 [v, .str s] H Q := by
  refine in126 ?_
  simp only [c126, ↓WP, WQ, if_true, if_false, eq_self, implies_true, ne_eq, List.nil_append, List.cons_append, ↓reduceIte, Nat.reduceEqDiff, Nat.reduceBEq, reduceCtorEq, Nat.reduceAdd, resA, ret1, qv, lv, ev, boolA, binA, intA, shiftA, cmpA, beqA, lres, h.len]
  refine W_for 0 l.length (fun z e H' => H' = H ∧ Sl e [(0, v), (1, .str s), (7, .int .i64 l.length), (8, .int .i64 z)] ∧ allI z fun i => ¬ (s.toList == (l.getD i.toNat ⟨#[]⟩).toList) = true) (by omega) ⟨rfl, by simp only [↓WP, WQ, if_true, if_false, eq_self, implies_true, ne_eq, List.nil_append, List.cons_append, ↓reduceIte, Nat.reduceEqDiff, Nat.reduceBEq, reduceCtorEq, Nat.reduceAdd, resA, ret1, qv, lv, ev, boolA, binA, intA, shiftA, cmpA, beqA, lres], allI_zero⟩ ?_
  rintro z e H' hz0 hzn ⟨rfl, hs, hno⟩
  simp only [Sl_cons, Sl_nil, and_true] at hs
  have hw : IntKind.i64.wrap (z + 1) = z + 1 := wrap_id (by omega) (by omega)
  refine (Classical.em (z < l.length)).elim (fun hz => ?_) (fun hz => ?_) <;> simp only [↓WP, WQ, if_true, if_false, eq_self, implies_true, ne_eq, List.nil_append, List.cons_append, ↓reduceIte, Nat.reduceEqDiff, Nat.reduceBEq, reduceCtorEq, Nat.reduceAdd, resA, ret1, qv, lv, ev, boolA, binA, intA, shiftA, cmpA, beqA, lres, hs, hz]
  · have hzl : z.toNat < l.length := by omega
    have hat := h.2 z.toNat hzl
    have e1 : l[z.toNat] = l.getD z.toNat ⟨#[]⟩ := by rw [List.getD_eq_getElem?_getD, List.getElem?_eq_getElem hzl, Option.getD_some]
    rw [e1] at hat
    simp only [↓WP, WQ, if_true, if_false, eq_self, implies_true, ne_eq, List.nil_append, List.cons_append, ↓reduceIte, Nat.reduceEqDiff, Nat.reduceBEq, reduceCtorEq, Nat.reduceAdd, resA, ret1, qv, lv, ev, boolA, binA, intA, shiftA, cmpA, beqA, lres, hs, idxA_elt h.1 hz0 hz, hat]
    cases hb : (s.toList == (l.getD z.toNat ⟨#[]⟩).toList) <;> simp only [↓WP, WQ, if_true, if_false, eq_self, implies_true, ne_eq, List.nil_append, List.cons_append, ↓reduceIte, Nat.reduceEqDiff, Nat.reduceBEq, reduceCtorEq, Nat.reduceAdd, resA, ret1, qv, lv, ev, boolA, binA, intA, shiftA, cmpA, beqA, lres, hs, hw, hz]
    · exact (allI_succ hz0).2 ⟨hno, by rw [hb]; simp⟩
    · rw [firstI_eq (p := fun i => (s.toList == (l.getD i.toNat ⟨#[]⟩).toList) = true) hz0 hz hb hno] at hq; exact hq
  · rw [firstI_none fun k k0 k1 => hno k k0 (by omega)] at hq; exact hq

theorem ContainsS_c {v : AV} {l : List ByteArray} {s : ByteArray} (h : Strs H v l) (hn : l.length < 4611686018427387904) {Q : AV → Hp → Prop} (ht : (∃ i : Int, (0 ≤ i ∧ i < l.length) ∧ (s.toList == (l.getD i.toNat ⟨#[]⟩).toList) = true) → Q (.bool true) H) (hf : ¬ (∃ i : Int, (0 ≤ i ∧ i < l.length) ∧ (s.toList == (l.getD i.toNat ⟨#[]⟩).toList) = true) → Q (.bool false) H) :
    ACalls Try.prog w0 114 [v, .str s] H Q := by
  refine in114 ?_
  simp only [c114, ↓WP, WQ, if_true, if_false, eq_self, implies_true, ne_eq, List.nil_append, List.cons_append, ↓reduceIte, Nat.reduceEqDiff, Nat.reduceBEq, reduceCtorEq, Nat.reduceAdd, resA, ret1, qv, lv, ev, boolA, binA, intA, shiftA, cmpA, beqA, lres]
  refine IndexS_c h hn ?_
  rcases firstI_spec (n := l.length) (p := fun i => (s.toList == (l.getD i.toNat ⟨#[]⟩).toList) = true) with ⟨h0, h1, h2, _⟩ | ⟨h0, h1⟩
  · generalize firstI l.length (fun i => (s.toList == (l.getD i.toNat ⟨#[]⟩).toList) = true) = i at *
    simp only [↓WP, WQ, if_true, if_false, eq_self, implies_true, ne_eq, List.nil_append, List.cons_append, ↓reduceIte, Nat.reduceEqDiff, Nat.reduceBEq, reduceCtorEq, Nat.reduceAdd, resA, ret1, qv, lv, ev, boolA, binA, intA, shiftA, cmpA, beqA, lres, h0]
    exact ht ⟨i, ⟨h0, h1⟩, h2⟩
  · have hneg : ¬ (0 : Int) ≤ -1 := by omega
    simp only [↓WP, WQ, if_true, if_false, eq_self, implies_true, ne_eq, List.nil_append, List.cons_append, ↓reduceIte, Nat.reduceEqDiff, Nat.reduceBEq, reduceCtorEq, Nat.reduceAdd, resA, ret1, qv, lv, ev, boolA, binA, intA, shiftA, cmpA, beqA, lres, h0, hneg]
    exact hf fun ⟨i, hi, hc⟩ => h1 i hi.1 hi.2 hc

theorem isProperty_c {s : ByteArray} {Q : AV → Hp → Prop} (ht : prop s < 5 → Q (.bool true) H) (hf : ¬ prop s < 5 → Q (.bool false) H) : ACalls Try.prog w0 89 [.str s] H Q := by
  refine quietB (fun b hb => ?_) ht hf
  refine in89 ?_
  have e5 : fillA 1 (zerosA [.str ⟨#[]⟩] 5) [(0, .str (⟨#[112, 114, 101, 108, 105, 110, 101, 97, 114]⟩ : ByteArray)), (1, .str (⟨#[100, 105, 118, 105, 115, 105, 98, 108, 101]⟩ : ByteArray)), (2, .str (⟨#[105, 110, 118, 111, 108, 117, 116, 105, 118, 101]⟩ : ByteArray)), (3, .str (⟨#[105, 100, 101, 109, 112, 111, 116, 101, 110, 116]⟩ : ByteArray)), (4, .str (⟨#[98, 111, 111, 108, 101, 97, 110]⟩ : ByteArray))] = some ([(⟨#[112, 114, 101, 108, 105, 110, 101, 97, 114]⟩ : ByteArray), (⟨#[100, 105, 118, 105, 115, 105, 98, 108, 101]⟩ : ByteArray), (⟨#[105, 110, 118, 111, 108, 117, 116, 105, 118, 101]⟩ : ByteArray), (⟨#[105, 100, 101, 109, 112, 111, 116, 101, 110, 116]⟩ : ByteArray), (⟨#[98, 111, 111, 108, 101, 97, 110]⟩ : ByteArray)].map AV.str) := rfl
  simp only [c89, ↓WP, WQ, if_true, if_false, eq_self, implies_true, ne_eq, List.nil_append, List.cons_append, ↓reduceIte, Nat.reduceEqDiff, Nat.reduceBEq, reduceCtorEq, Nat.reduceAdd, resA, ret1, qv, lv, ev, boolA, binA, intA, shiftA, cmpA, beqA, lres, e5]
  refine NewRowd_in fun r hr => ?_
  have hE := Ext.set (x := ⟨9, true, [(⟨#[112, 114, 101, 108, 105, 110, 101, 97, 114]⟩ : ByteArray), (⟨#[100, 105, 118, 105, 115, 105, 98, 108, 101]⟩ : ByteArray), (⟨#[105, 110, 118, 111, 108, 117, 116, 105, 118, 101]⟩ : ByteArray), (⟨#[105, 100, 101, 109, 112, 111, 116, 101, 110, 116]⟩ : ByteArray), (⟨#[98, 111, 111, 108, 101, 97, 110]⟩ : ByteArray)].map AV.str⟩) hr
  have hS := strs_new (l := [(⟨#[112, 114, 101, 108, 105, 110, 101, 97, 114]⟩ : ByteArray), (⟨#[100, 105, 118, 105, 115, 105, 98, 108, 101]⟩ : ByteArray), (⟨#[105, 110, 118, 111, 108, 117, 116, 105, 118, 101]⟩ : ByteArray), (⟨#[105, 100, 101, 109, 112, 111, 116, 101, 110, 116]⟩ : ByteArray), (⟨#[98, 111, 111, 108, 101, 97, 110]⟩ : ByteArray)]) (Hp.set_same H r ⟨9, true, [(⟨#[112, 114, 101, 108, 105, 110, 101, 97, 114]⟩ : ByteArray), (⟨#[100, 105, 118, 105, 115, 105, 98, 108, 101]⟩ : ByteArray), (⟨#[105, 110, 118, 111, 108, 117, 116, 105, 118, 101]⟩ : ByteArray), (⟨#[105, 100, 101, 109, 112, 111, 116, 101, 110, 116]⟩ : ByteArray), (⟨#[98, 111, 111, 108, 101, 97, 110]⟩ : ByteArray)].map AV.str⟩)
  simp only [↓WP, WQ, if_true, if_false, eq_self, implies_true, ne_eq, List.nil_append, List.cons_append, ↓reduceIte, Nat.reduceEqDiff, Nat.reduceBEq, reduceCtorEq, Nat.reduceAdd, resA, ret1, qv, lv, ev, boolA, binA, intA, shiftA, cmpA, beqA, lres]
  have key : (∃ i : Int, (0 ≤ i ∧ i < ([(⟨#[112, 114, 101, 108, 105, 110, 101, 97, 114]⟩ : ByteArray), (⟨#[100, 105, 118, 105, 115, 105, 98, 108, 101]⟩ : ByteArray), (⟨#[105, 110, 118, 111, 108, 117, 116, 105, 118, 101]⟩ : ByteArray), (⟨#[105, 100, 101, 109, 112, 111, 116, 101, 110, 116]⟩ : ByteArray), (⟨#[98, 111, 111, 108, 101, 97, 110]⟩ : ByteArray)] : List ByteArray).length) ∧ (s.toList == (([(⟨#[112, 114, 101, 108, 105, 110, 101, 97, 114]⟩ : ByteArray), (⟨#[100, 105, 118, 105, 115, 105, 98, 108, 101]⟩ : ByteArray), (⟨#[105, 110, 118, 111, 108, 117, 116, 105, 118, 101]⟩ : ByteArray), (⟨#[105, 100, 101, 109, 112, 111, 116, 101, 110, 116]⟩ : ByteArray), (⟨#[98, 111, 111, 108, 101, 97, 110]⟩ : ByteArray)] : List ByteArray).getD i.toNat ⟨#[]⟩).toList) = true) ↔ prop s < 5 := by
    constructor
    · rintro ⟨i, ⟨i0, i1⟩, hi⟩
      simp only [List.length_cons, List.length_nil] at i1
      have : i = 0 ∨ i = 1 ∨ i = 2 ∨ i = 3 ∨ i = 4 := by omega
      rcases prop_cases s with h | h | h | h | h | h
      · omega
      · omega
      · omega
      · omega
      · omega
      · obtain ⟨h0, h1, h2, h3, h4, _⟩ := h
        rcases this with rfl | rfl | rfl | rfl | rfl
        · exact absurd (Eq.trans h0.symm hi) (by simp)
        · exact absurd (Eq.trans h1.symm hi) (by simp)
        · exact absurd (Eq.trans h2.symm hi) (by simp)
        · exact absurd (Eq.trans h3.symm hi) (by simp)
        · exact absurd (Eq.trans h4.symm hi) (by simp)
    · intro hp
      rcases prop_cases s with h | h | h | h | h | h
      · exact ⟨0, ⟨by omega, by simp⟩, h.1⟩
      · exact ⟨1, ⟨by omega, by simp⟩, h.2.1⟩
      · exact ⟨2, ⟨by omega, by simp⟩, h.2.2.1⟩
      · exact ⟨3, ⟨by omega, by simp⟩, h.2.2.2.1⟩
      · exact ⟨4, ⟨by omega, by simp⟩, h.2.2.2.2.1⟩
      · omega
  refine ContainsS_c hS (by simp) (fun h => ?_) (fun h => ?_) <;> simp only [↓WP, WQ, if_true, if_false, eq_self, implies_true, ne_eq, List.nil_append, List.cons_append, ↓reduceIte, Nat.reduceEqDiff, Nat.reduceBEq, reduceCtorEq, Nat.reduceAdd, resA, ret1, qv, lv, ev, boolA, binA, intA, shiftA, cmpA, beqA, lres]
  · exact ⟨boolT hb (key.1 h), hE⟩
  · exact ⟨boolF hb fun h' => h (key.2 h'), hE⟩

theorem holds_c {uv tv : AV} {A : Alg} {x y : Int} {s : ByteArray} (h : Ints H uv A.up) (hm : Mat H tv A.times) (hA : IsAlg A) (hx : El A x) (hy : El A y) {Q : AV → Hp → Prop} (ht : PH (prop s) A x y → Q (.bool true) H) (hf : ¬ PH (prop s) A x y → Q (.bool false) H) :
    ACalls Try.prog w0 90 [.str s, .agg [uv, tv], .int .i64 x, .int .i64 y] H Q := by
  refine quietB (fun b hb => ?_) ht hf
  refine in90 ?_
  simp only [c90, ↓WP, WQ, if_true, if_false, eq_self, implies_true, ne_eq, List.nil_append, List.cons_append, ↓reduceIte, Nat.reduceEqDiff, Nat.reduceBEq, reduceCtorEq, Nat.reduceAdd, resA, ret1, qv, lv, ev, boolA, binA, intA, shiftA, cmpA, beqA, lres, cells_alg h.len hm.len]
  refine NewRowd_in fun r hr => ?_
  obtain ⟨hE, hu, hu1, hu2⟩ := box_facts (ty := 26) (uv := uv) (tv := tv) hr
  generalize H.set r ⟨26, true, [uv, tv]⟩ = G at *
  have h := h.ext hE
  have hm := hm.ext hE
  have hT : Tab G tv A := ⟨hm, hA.toSquare⟩
  have hn6 := hA.hi
  have hn1 := hA.lo
  have hwl : IntKind.i64.wrap ((A.up.length : Int) - 1) = A.up.length - 1 := wrap_id (by omega) (by omega)
  have fin : ∀ {c : Prop} [Decidable c], (c ↔ PH (prop s) A x y) → AV.bool (decide c) = AV.bool b := fun {c} _ hc => by
    by_cases h1 : c
    · rw [decide_eq_true h1]; exact boolT hb (hc.1 h1)
    · rw [decide_eq_false h1]; exact boolF hb fun h2 => h1 (hc.2 h2)
  have ei := hA.ie
  have e0 := hA.e0
  simp only [↓WP, WQ, if_true, if_false, eq_self, implies_true, ne_eq, List.nil_append, List.cons_append, ↓reduceIte, Nat.reduceEqDiff, Nat.reduceBEq, reduceCtorEq, Nat.reduceAdd, resA, ret1, qv, lv, ev, boolA, binA, intA, shiftA, cmpA, beqA, lres, hu1, h.len, hwl]
  rcases prop_cases s with h0 | h0 | h0 | h0 | h0 | h0
  · obtain ⟨k0, kp⟩ := h0
    simp only [↓WP, WQ, if_true, if_false, eq_self, implies_true, ne_eq, List.nil_append, List.cons_append, ↓reduceIte, Nat.reduceEqDiff, Nat.reduceBEq, reduceCtorEq, Nat.reduceAdd, resA, ret1, qv, lv, ev, boolA, binA, intA, shiftA, cmpA, beqA, lres, k0]
    refine DR_in (fun _ => True) rfl ?_
    simp only [↓WP, WQ, if_true, if_false, eq_self, implies_true, ne_eq, List.nil_append, List.cons_append, ↓reduceIte, Nat.reduceEqDiff, Nat.reduceBEq, reduceCtorEq, Nat.reduceAdd, resA, ret1, qv, lv, ev, boolA, binA, intA, shiftA, cmpA, beqA, lres, hu1, hu]
    refine imply_c h hm hA hx.1 hx.2 hy.1 hy.2 ?_
    simp only [↓WP, WQ, if_true, if_false, eq_self, implies_true, ne_eq, List.nil_append, List.cons_append, ↓reduceIte, Nat.reduceEqDiff, Nat.reduceBEq, reduceCtorEq, Nat.reduceAdd, resA, ret1, qv, lv, ev, boolA, binA, intA, shiftA, cmpA, beqA, lres]
    refine imply_c h hm hA hy.1 hy.2 hx.1 hx.2 ?_
    simp only [↓WP, WQ, if_true, if_false, eq_self, implies_true, ne_eq, List.nil_append, List.cons_append, ↓reduceIte, Nat.reduceEqDiff, Nat.reduceBEq, reduceCtorEq, Nat.reduceAdd, resA, ret1, qv, lv, ev, boolA, binA, intA, shiftA, cmpA, beqA, lres]
    refine join_c h hn6 hA.rng (ei _ _).1 (ei _ _).2 (ei _ _).1 (ei _ _).2 ?_
    simp only [↓WP, WQ, if_true, if_false, eq_self, implies_true, ne_eq, List.nil_append, List.cons_append, ↓reduceIte, Nat.reduceEqDiff, Nat.reduceBEq, reduceCtorEq, Nat.reduceAdd, resA, ret1, qv, lv, ev, boolA, binA, intA, shiftA, cmpA, beqA, lres]
    exact ⟨fin (by rw [kp]; exact Iff.rfl), hE⟩
  · obtain ⟨k0, k1, kp⟩ := h0
    simp only [↓WP, WQ, if_true, if_false, eq_self, implies_true, ne_eq, List.nil_append, List.cons_append, ↓reduceIte, Nat.reduceEqDiff, Nat.reduceBEq, reduceCtorEq, Nat.reduceAdd, resA, ret1, qv, lv, ev, boolA, binA, intA, shiftA, cmpA, beqA, lres, k0, k1]
    refine DR_in (fun _ => True) rfl ?_
    simp only [↓WP, WQ, if_true, if_false, eq_self, implies_true, ne_eq, List.nil_append, List.cons_append, ↓reduceIte, Nat.reduceEqDiff, Nat.reduceBEq, reduceCtorEq, Nat.reduceAdd, resA, ret1, qv, lv, ev, boolA, binA, intA, shiftA, cmpA, beqA, lres, hu1, hu2, hu, hT.idx hx.1 hx.2, hT.at hx.1 hx.2]
    refine imply_c h hm hA hx.1 hx.2 hy.1 hy.2 ?_
    have hi := ei x y
    simp only [↓WP, WQ, if_true, if_false, eq_self, implies_true, ne_eq, List.nil_append, List.cons_append, ↓reduceIte, Nat.reduceEqDiff, Nat.reduceBEq, reduceCtorEq, Nat.reduceAdd, resA, ret1, qv, lv, ev, boolA, binA, intA, shiftA, cmpA, beqA, lres, hT.idx2 hx.1 hx.2 hi.1 hi.2, hT.at2 hx.1 hx.2 hi.1 hi.2]
    refine meet_c h (by omega) hx.1 hx.2 hy.1 hy.2 ?_
    simp only [↓WP, WQ, if_true, if_false, eq_self, implies_true, ne_eq, List.nil_append, List.cons_append, ↓reduceIte, Nat.reduceEqDiff, Nat.reduceBEq, reduceCtorEq, Nat.reduceAdd, resA, ret1, qv, lv, ev, boolA, binA, intA, shiftA, cmpA, beqA, lres]
    exact ⟨fin (by rw [kp]; exact Iff.rfl), hE⟩
  · obtain ⟨k0, k1, k2, kp⟩ := h0
    simp only [↓WP, WQ, if_true, if_false, eq_self, implies_true, ne_eq, List.nil_append, List.cons_append, ↓reduceIte, Nat.reduceEqDiff, Nat.reduceBEq, reduceCtorEq, Nat.reduceAdd, resA, ret1, qv, lv, ev, boolA, binA, intA, shiftA, cmpA, beqA, lres, k0, k1, k2]
    refine DR_in (fun _ => True) rfl ?_
    simp only [↓WP, WQ, if_true, if_false, eq_self, implies_true, ne_eq, List.nil_append, List.cons_append, ↓reduceIte, Nat.reduceEqDiff, Nat.reduceBEq, reduceCtorEq, Nat.reduceAdd, resA, ret1, qv, lv, ev, boolA, binA, intA, shiftA, cmpA, beqA, lres, hu]
    refine not_c h hm hA hx.1 hx.2 ?_
    simp only [↓WP, WQ, if_true, if_false, eq_self, implies_true, ne_eq, List.nil_append, List.cons_append, ↓reduceIte, Nat.reduceEqDiff, Nat.reduceBEq, reduceCtorEq, Nat.reduceAdd, resA, ret1, qv, lv, ev, boolA, binA, intA, shiftA, cmpA, beqA, lres]
    refine not_c h hm hA (ei _ _).1 (ei _ _).2 ?_
    simp only [↓WP, WQ, if_true, if_false, eq_self, implies_true, ne_eq, List.nil_append, List.cons_append, ↓reduceIte, Nat.reduceEqDiff, Nat.reduceBEq, reduceCtorEq, Nat.reduceAdd, resA, ret1, qv, lv, ev, boolA, binA, intA, shiftA, cmpA, beqA, lres]
    exact ⟨fin (by rw [kp]; exact Iff.rfl), hE⟩
  · obtain ⟨k0, k1, k2, k3, kp⟩ := h0
    simp only [↓WP, WQ, if_true, if_false, eq_self, implies_true, ne_eq, List.nil_append, List.cons_append, ↓reduceIte, Nat.reduceEqDiff, Nat.reduceBEq, reduceCtorEq, Nat.reduceAdd, resA, ret1, qv, lv, ev, boolA, binA, intA, shiftA, cmpA, beqA, lres, k0, k1, k2, k3, hu2, hT.idx hx.1 hx.2, hT.at hx.1 hx.2, hT.idx2 hx.1 hx.2 hx.1 hx.2, hT.at2 hx.1 hx.2 hx.1 hx.2]
    exact ⟨fin (by rw [kp]; exact Iff.rfl), hE⟩
  · obtain ⟨k0, k1, k2, k3, k4, kp⟩ := h0
    simp only [↓WP, WQ, if_true, if_false, eq_self, implies_true, ne_eq, List.nil_append, List.cons_append, ↓reduceIte, Nat.reduceEqDiff, Nat.reduceBEq, reduceCtorEq, Nat.reduceAdd, resA, ret1, qv, lv, ev, boolA, binA, intA, shiftA, cmpA, beqA, lres, k0, k1, k2, k3, k4]
    refine DR_in (fun _ => True) rfl ?_
    simp only [↓WP, WQ, if_true, if_false, eq_self, implies_true, ne_eq, List.nil_append, List.cons_append, ↓reduceIte, Nat.reduceEqDiff, Nat.reduceBEq, reduceCtorEq, Nat.reduceAdd, resA, ret1, qv, lv, ev, boolA, binA, intA, shiftA, cmpA, beqA, lres, hu1, hu]
    refine not_c h hm hA hx.1 hx.2 ?_
    simp only [↓WP, WQ, if_true, if_false, eq_self, implies_true, ne_eq, List.nil_append, List.cons_append, ↓reduceIte, Nat.reduceEqDiff, Nat.reduceBEq, reduceCtorEq, Nat.reduceAdd, resA, ret1, qv, lv, ev, boolA, binA, intA, shiftA, cmpA, beqA, lres]
    refine join_c h hn6 hA.rng hx.1 hx.2 (ei _ _).1 (ei _ _).2 ?_
    simp only [↓WP, WQ, if_true, if_false, eq_self, implies_true, ne_eq, List.nil_append, List.cons_append, ↓reduceIte, Nat.reduceEqDiff, Nat.reduceBEq, reduceCtorEq, Nat.reduceAdd, resA, ret1, qv, lv, ev, boolA, binA, intA, shiftA, cmpA, beqA, lres]
    exact ⟨fin (by rw [kp]; exact Iff.rfl), hE⟩
  · obtain ⟨k0, k1, k2, k3, k4, kp⟩ := h0
    simp only [↓WP, WQ, if_true, if_false, eq_self, implies_true, ne_eq, List.nil_append, List.cons_append, ↓reduceIte, Nat.reduceEqDiff, Nat.reduceBEq, reduceCtorEq, Nat.reduceAdd, resA, ret1, qv, lv, ev, boolA, binA, intA, shiftA, cmpA, beqA, lres, k0, k1, k2, k3, k4]
    exact ⟨boolF hb (by rw [kp]; exact fun h => h), hE⟩
end Go.AL

/-
  Who has a property: of the program and of the reference.
-/
namespace Go.AL
open Go.Proofs
set_option linter.unusedSimpArgs false
set_option linter.unusedVariables false
variable {w0 : World} {H : Hp}

/-- What the reference tells of a property. -/
noncomputable def isV (s : ByteArray) (A : Alg) : AV :=
  open Classical in if prop s < 5 then .tup [.bool (decide (HasP (prop s) A)), .bool true] else .tup [.bool false, .bool false]
theorem isV_pure (s : ByteArray) (A : Alg) : (isV s A).pure = true := by unfold isV; split <;> rfl

theorem is_c {uv tv : AV} {A : Alg} {s : ByteArray} (h : Ints H uv A.up) (hm : Mat H tv A.times) (hA : IsAlg A) {Q : AV → Hp → Prop} (hq : Q (isV s A) H) :
    ACalls Try.prog w0 92 [.str s, .agg [uv, tv]] H Q := by
  refine quiet (isV s A) (isV_pure s A) ?_ hq
  refine in92 ?_
  simp only [c92, ↓WP, WQ, if_true, if_false, eq_self, implies_true, ne_eq, List.nil_append, List.cons_append, ↓reduceIte, Nat.reduceEqDiff, Nat.reduceBEq, reduceCtorEq, Nat.reduceAdd, resA, ret1, qv, lv, ev, boolA, binA, intA, shiftA, cmpA, beqA, lres, cells_alg h.len hm.len]
  refine NewRowd_in fun r hr => ?_
  obtain ⟨hE, hu, hu1, hu2⟩ := box_facts (ty := 26) (uv := uv) (tv := tv) hr
  generalize H.set r ⟨26, true, [uv, tv]⟩ = G at *
  have h := h.ext hE
  have hm := hm.ext hE
  have hT : Tab G tv A := ⟨hm, hA.toSquare⟩
  have hn6 := hA.hi
  have hn1 := hA.lo
  have hwl : IntKind.i64.wrap ((A.up.length : Int) - 1) = A.up.length - 1 := wrap_id (by omega) (by omega)
  have ei := hA.ie
  have e0 := hA.e0
  simp only [↓WP, WQ, if_true, if_false, eq_self, implies_true, ne_eq, List.nil_append, List.cons_append, ↓reduceIte, Nat.reduceEqDiff, Nat.reduceBEq, reduceCtorEq, Nat.reduceAdd, resA, ret1, qv, lv, ev, boolA, binA, intA, shiftA, cmpA, beqA, lres, hu1, h.len]
  refine W_for 0 A.up.length (fun x e H' => H' = G ∧ ∃ ok, Sl e [(0, .str s), (3, .ptr r 0), (6, .int .i64 A.up.length), (7, .bool ok), (8, .int .i64 x)] ∧ (ok = true ↔ allI x fun x => allI A.up.length fun y => PH (prop s) A x y) ∧ (1 ≤ x → prop s < 5)) (by omega) ⟨rfl, true, by simp only [↓WP, WQ, if_true, if_false, eq_self, implies_true, ne_eq, List.nil_append, List.cons_append, ↓reduceIte, Nat.reduceEqDiff, Nat.reduceBEq, reduceCtorEq, Nat.reduceAdd, resA, ret1, qv, lv, ev, boolA, binA, intA, shiftA, cmpA, beqA, lres], by simp [allI_zero], by omega⟩ ?_
  rintro x e H' hx0 hx1 ⟨rfl, ok, hs, hok, hp5⟩
  simp only [Sl_cons, Sl_nil, and_true] at hs
  have hw : IntKind.i64.wrap (x + 1) = x + 1 := wrap_id (by omega) (by omega)
  refine (Classical.em (x < A.up.length)).elim (fun hx => ?_) (fun hx => ?_) <;> simp only [↓WP, WQ, if_true, if_false, eq_self, implies_true, ne_eq, List.nil_append, List.cons_append, ↓reduceIte, Nat.reduceEqDiff, Nat.reduceBEq, reduceCtorEq, Nat.reduceAdd, resA, ret1, qv, lv, ev, boolA, binA, intA, shiftA, cmpA, beqA, lres, hs, hx]
  rotate_left
  · have hxe : x = A.up.length := by omega
    subst hxe
    have h5 := hp5 (by omega)
    refine ⟨?_, hE⟩
    unfold isV
    rw [if_pos h5]
    congr 3
    classical
    rw [Bool.eq_iff_iff, decide_eq_true_eq, hok]
    exact ⟨fun h => ⟨h5, h⟩, fun h => h.2⟩
  have hx : El A x := ⟨hx0, hx⟩
  refine W_for 0 A.up.length (fun y e H'' => H'' = H' ∧ ∃ ok, Sl e [(0, .str s), (3, .ptr r 0), (6, .int .i64 A.up.length), (7, .bool ok), (8, .int .i64 x), (9, .int .i64 y)] ∧ (ok = true ↔ (allI x fun x => allI A.up.length fun y => PH (prop s) A x y) ∧ allI y fun y => PH (prop s) A x y) ∧ (1 ≤ y → prop s < 5)) (by omega) ⟨rfl, ok, by simp only [↓WP, WQ, if_true, if_false, eq_self, implies_true, ne_eq, List.nil_append, List.cons_append, ↓reduceIte, Nat.reduceEqDiff, Nat.reduceBEq, reduceCtorEq, Nat.reduceAdd, resA, ret1, qv, lv, ev, boolA, binA, intA, shiftA, cmpA, beqA, lres, hs], by rw [hok]; simp [allI_zero], by omega⟩ ?_
  rintro y e H'' hy0 hy1 ⟨rfl, ok, hs, hok, hp5⟩
  simp only [Sl_cons, Sl_nil, and_true] at hs
  have hwy : IntKind.i64.wrap (y + 1) = y + 1 := wrap_id (by omega) (by omega)
  have hxl := hx.2
  refine (Classical.em (y < A.up.length)).elim (fun hy => ?_) (fun hy => ?_) <;> simp only [↓WP, WQ, if_true, if_false, eq_self, implies_true, ne_eq, List.nil_append, List.cons_append, ↓reduceIte, Nat.reduceEqDiff, Nat.reduceBEq, reduceCtorEq, Nat.reduceAdd, resA, ret1, qv, lv, ev, boolA, binA, intA, shiftA, cmpA, beqA, lres, hs, hy]
  rotate_left
  · have hye : y = A.up.length := by omega
    subst hye
    simp only [↓WP, WQ, if_true, if_false, eq_self, implies_true, ne_eq, List.nil_append, List.cons_append, ↓reduceIte, Nat.reduceEqDiff, Nat.reduceBEq, reduceCtorEq, Nat.reduceAdd, resA, ret1, qv, lv, ev, boolA, binA, intA, shiftA, cmpA, beqA, lres, hs, hw, hxl]
    exact ⟨ok, rfl, by rw [hok, allI_succ hx0], fun _ => hp5 (by omega)⟩
  have hyl := hy
  have hy : El A y := ⟨hy0, hy⟩
  have fin : ∀ {c : Prop} [Decidable c], (c ↔ PH (prop s) A x y) → ok = true → (decide c = true ↔ (allI x fun x => allI A.up.length fun y => PH (prop s) A x y) ∧ allI (y + 1) fun y => PH (prop s) A x y) := fun {c} _ hc h1 => by
    rw [decide_eq_true_eq, allI_succ hy0, hc, ← and_assoc, ← hok]; simp [h1]
  have fin0 : ok = false → (false = true ↔ (allI x fun x => allI A.up.length fun y => PH (prop s) A x y) ∧ allI (y + 1) fun y => PH (prop s) A x y) := fun h1 => by
    rw [allI_succ hy0, ← and_assoc, ← hok]; simp [h1]
  rcases prop_cases s with h0 | h0 | h0 | h0 | h0 | h0
  · obtain ⟨k0, kp⟩ := h0
    have h5 : 1 ≤ y + 1 → prop s < 5 := fun _ => by omega
    cases ok
    · simp only [↓WP, WQ, if_true, if_false, eq_self, implies_true, ne_eq, List.nil_append, List.cons_append, ↓reduceIte, Nat.reduceEqDiff, Nat.reduceBEq, reduceCtorEq, Nat.reduceAdd, resA, ret1, qv, lv, ev, boolA, binA, intA, shiftA, cmpA, beqA, lres, hs, k0]
      refine DR_in (fun _ => True) rfl ?_
      simp only [↓WP, WQ, if_true, if_false, eq_self, implies_true, ne_eq, List.nil_append, List.cons_append, ↓reduceIte, Nat.reduceEqDiff, Nat.reduceBEq, reduceCtorEq, Nat.reduceAdd, resA, ret1, qv, lv, ev, boolA, binA, intA, shiftA, cmpA, beqA, lres, hs, hwy, hyl]
      exact ⟨false, rfl, fin0 rfl, h5⟩
    simp only [↓WP, WQ, if_true, if_false, eq_self, implies_true, ne_eq, List.nil_append, List.cons_append, ↓reduceIte, Nat.reduceEqDiff, Nat.reduceBEq, reduceCtorEq, Nat.reduceAdd, resA, ret1, qv, lv, ev, boolA, binA, intA, shiftA, cmpA, beqA, lres, hs, k0]
    refine DR_in (fun _ => True) rfl ?_
    simp only [↓WP, WQ, if_true, if_false, eq_self, implies_true, ne_eq, List.nil_append, List.cons_append, ↓reduceIte, Nat.reduceEqDiff, Nat.reduceBEq, reduceCtorEq, Nat.reduceAdd, resA, ret1, qv, lv, ev, boolA, binA, intA, shiftA, cmpA, beqA, lres, hs, hu1, hu2, hu, hwl, hT.idx hx.1 hx.2, hT.at hx.1 hx.2]
    refine simply_c h hm hA hx.1 hx.2 hy.1 hy.2 ?_
    simp only [↓WP, WQ, if_true, if_false, eq_self, implies_true, ne_eq, List.nil_append, List.cons_append, ↓reduceIte, Nat.reduceEqDiff, Nat.reduceBEq, reduceCtorEq, Nat.reduceAdd, resA, ret1, qv, lv, ev, boolA, binA, intA, shiftA, cmpA, beqA, lres, hs]
    refine simply_c h hm hA hy.1 hy.2 hx.1 hx.2 ?_
    simp only [↓WP, WQ, if_true, if_false, eq_self, implies_true, ne_eq, List.nil_append, List.cons_append, ↓reduceIte, Nat.reduceEqDiff, Nat.reduceBEq, reduceCtorEq, Nat.reduceAdd, resA, ret1, qv, lv, ev, boolA, binA, intA, shiftA, cmpA, beqA, lres, hs]
    refine sjoin_c h hA.rows62 (by omega) (ei _ _).1 (ei _ _).2 (ei _ _).1 (ei _ _).2 ?_
    simp only [↓WP, WQ, if_true, if_false, eq_self, implies_true, ne_eq, List.nil_append, List.cons_append, ↓reduceIte, Nat.reduceEqDiff, Nat.reduceBEq, reduceCtorEq, Nat.reduceAdd, resA, ret1, qv, lv, ev, boolA, binA, intA, shiftA, cmpA, beqA, lres, hs, hwy, hyl, hwl]
    exact ⟨_, rfl, fin (by rw [kp]; exact Iff.rfl) rfl, h5⟩
  · obtain ⟨k0, k1, kp⟩ := h0
    have h5 : 1 ≤ y + 1 → prop s < 5 := fun _ => by omega
    cases ok
    · simp only [↓WP, WQ, if_true, if_false, eq_self, implies_true, ne_eq, List.nil_append, List.cons_append, ↓reduceIte, Nat.reduceEqDiff, Nat.reduceBEq, reduceCtorEq, Nat.reduceAdd, resA, ret1, qv, lv, ev, boolA, binA, intA, shiftA, cmpA, beqA, lres, hs, k0, k1]
      refine DR_in (fun _ => True) rfl ?_
      simp only [↓WP, WQ, if_true, if_false, eq_self, implies_true, ne_eq, List.nil_append, List.cons_append, ↓reduceIte, Nat.reduceEqDiff, Nat.reduceBEq, reduceCtorEq, Nat.reduceAdd, resA, ret1, qv, lv, ev, boolA, binA, intA, shiftA, cmpA, beqA, lres, hs, hwy, hyl]
      exact ⟨false, rfl, fin0 rfl, h5⟩
    simp only [↓WP, WQ, if_true, if_false, eq_self, implies_true, ne_eq, List.nil_append, List.cons_append, ↓reduceIte, Nat.reduceEqDiff, Nat.reduceBEq, reduceCtorEq, Nat.reduceAdd, resA, ret1, qv, lv, ev, boolA, binA, intA, shiftA, cmpA, beqA, lres, hs, k0, k1]
    refine DR_in (fun _ => True) rfl ?_
    simp only [↓WP, WQ, if_true, if_false, eq_self, implies_true, ne_eq, List.nil_append, List.cons_append, ↓reduceIte, Nat.reduceEqDiff, Nat.reduceBEq, reduceCtorEq, Nat.reduceAdd, resA, ret1, qv, lv, ev, boolA, binA, intA, shiftA, cmpA, beqA, lres, hs, hu1, hu2, hu, hwl, hT.idx hx.1 hx.2, hT.at hx.1 hx.2]
    refine simply_c h hm hA hx.1 hx.2 hy.1 hy.2 ?_
    have hi := ei x y
    simp only [↓WP, WQ, if_true, if_false, eq_self, implies_true, ne_eq, List.nil_append, List.cons_append, ↓reduceIte, Nat.reduceEqDiff, Nat.reduceBEq, reduceCtorEq, Nat.reduceAdd, resA, ret1, qv, lv, ev, boolA, binA, intA, shiftA, cmpA, beqA, lres, hs, hT.idx2 hx.1 hx.2 hi.1 hi.2, hT.at2 hx.1 hx.2 hi.1 hi.2]
    refine smeet_c h hA.rows62 (by omega) hx.1 hx.2 hy.1 hy.2 ?_
    simp only [↓WP, WQ, if_true, if_false, eq_self, implies_true, ne_eq, List.nil_append, List.cons_append, ↓reduceIte, Nat.reduceEqDiff, Nat.reduceBEq, reduceCtorEq, Nat.reduceAdd, resA, ret1, qv, lv, ev, boolA, binA, intA, shiftA, cmpA, beqA, lres, hs, hwy, hyl, hwl]
    exact ⟨_, rfl, fin (by rw [kp]; exact Iff.rfl) rfl, h5⟩
  · obtain ⟨k0, k1, k2, kp⟩ := h0
    have h5 : 1 ≤ y + 1 → prop s < 5 := fun _ => by omega
    cases ok
    · simp only [↓WP, WQ, if_true, if_false, eq_self, implies_true, ne_eq, List.nil_append, List.cons_append, ↓reduceIte, Nat.reduceEqDiff, Nat.reduceBEq, reduceCtorEq, Nat.reduceAdd, resA, ret1, qv, lv, ev, boolA, binA, intA, shiftA, cmpA, beqA, lres, hs, k0, k1, k2]
      refine DR_in (fun _ => True) rfl ?_
      simp only [↓WP, WQ, if_true, if_false, eq_self, implies_true, ne_eq, List.nil_append, List.cons_append, ↓reduceIte, Nat.reduceEqDiff, Nat.reduceBEq, reduceCtorEq, Nat.reduceAdd, resA, ret1, qv, lv, ev, boolA, binA, intA, shiftA, cmpA, beqA, lres, hs, hwy, hyl]
      exact ⟨false, rfl, fin0 rfl, h5⟩
    simp only [↓WP, WQ, if_true, if_false, eq_self, implies_true, ne_eq, List.nil_append, List.cons_append, ↓reduceIte, Nat.reduceEqDiff, Nat.reduceBEq, reduceCtorEq, Nat.reduceAdd, resA, ret1, qv, lv, ev, boolA, binA, intA, shiftA, cmpA, beqA, lres, hs, k0, k1, k2]
    refine DR_in (fun _ => True) rfl ?_
    simp only [↓WP, WQ, if_true, if_false, eq_self, implies_true, ne_eq, List.nil_append, List.cons_append, ↓reduceIte, Nat.reduceEqDiff, Nat.reduceBEq, reduceCtorEq, Nat.reduceAdd, resA, ret1, qv, lv, ev, boolA, binA, intA, shiftA, cmpA, beqA, lres, hs, hu1, hu2, hu, hwl, hT.idx hx.1 hx.2, hT.at hx.1 hx.2]
    refine simply_c h hm hA hx.1 hx.2 e0.1 e0.2 ?_
    simp only [↓WP, WQ, if_true, if_false, eq_self, implies_true, ne_eq, List.nil_append, List.cons_append, ↓reduceIte, Nat.reduceEqDiff, Nat.reduceBEq, reduceCtorEq, Nat.reduceAdd, resA, ret1, qv, lv, ev, boolA, binA, intA, shiftA, cmpA, beqA, lres, hs]
    refine simply_c h hm hA (ei _ _).1 (ei _ _).2 e0.1 e0.2 ?_
    simp only [↓WP, WQ, if_true, if_false, eq_self, implies_true, ne_eq, List.nil_append, List.cons_append, ↓reduceIte, Nat.reduceEqDiff, Nat.reduceBEq, reduceCtorEq, Nat.reduceAdd, resA, ret1, qv, lv, ev, boolA, binA, intA, shiftA, cmpA, beqA, lres, hs, hwy, hyl, hwl]
    exact ⟨_, rfl, fin (by rw [kp]; exact Iff.rfl) rfl, h5⟩
  · obtain ⟨k0, k1, k2, k3, kp⟩ := h0
    have h5 : 1 ≤ y + 1 → prop s < 5 := fun _ => by omega
    cases ok
    · simp only [↓WP, WQ, if_true, if_false, eq_self, implies_true, ne_eq, List.nil_append, List.cons_append, ↓reduceIte, Nat.reduceEqDiff, Nat.reduceBEq, reduceCtorEq, Nat.reduceAdd, resA, ret1, qv, lv, ev, boolA, binA, intA, shiftA, cmpA, beqA, lres, hs, k0, k1, k2, k3, hwy, hyl]
      exact ⟨false, rfl, fin0 rfl, h5⟩
    simp only [↓WP, WQ, if_true, if_false, eq_self, implies_true, ne_eq, List.nil_append, List.cons_append, ↓reduceIte, Nat.reduceEqDiff, Nat.reduceBEq, reduceCtorEq, Nat.reduceAdd, resA, ret1, qv, lv, ev, boolA, binA, intA, shiftA, cmpA, beqA, lres, hs, k0, k1, k2, k3, hu2, hT.idx hx.1 hx.2, hT.at hx.1 hx.2, hT.idx2 hx.1 hx.2 hx.1 hx.2, hT.at2 hx.1 hx.2 hx.1 hx.2, hwy, hyl]
    exact ⟨_, rfl, fin (by rw [kp]; exact Iff.rfl) rfl, h5⟩
  · obtain ⟨k0, k1, k2, k3, k4, kp⟩ := h0
    have h5 : 1 ≤ y + 1 → prop s < 5 := fun _ => by omega
    cases ok
    · simp only [↓WP, WQ, if_true, if_false, eq_self, implies_true, ne_eq, List.nil_append, List.cons_append, ↓reduceIte, Nat.reduceEqDiff, Nat.reduceBEq, reduceCtorEq, Nat.reduceAdd, resA, ret1, qv, lv, ev, boolA, binA, intA, shiftA, cmpA, beqA, lres, hs, k0, k1, k2, k3, k4]
      refine DR_in (fun _ => True) rfl ?_
      simp only [↓WP, WQ, if_true, if_false, eq_self, implies_true, ne_eq, List.nil_append, List.cons_append, ↓reduceIte, Nat.reduceEqDiff, Nat.reduceBEq, reduceCtorEq, Nat.reduceAdd, resA, ret1, qv, lv, ev, boolA, binA, intA, shiftA, cmpA, beqA, lres, hs, hwy, hyl]
      exact ⟨false, rfl, fin0 rfl, h5⟩
    simp only [↓WP, WQ, if_true, if_false, eq_self, implies_true, ne_eq, List.nil_append, List.cons_append, ↓reduceIte, Nat.reduceEqDiff, Nat.reduceBEq, reduceCtorEq, Nat.reduceAdd, resA, ret1, qv, lv, ev, boolA, binA, intA, shiftA, cmpA, beqA, lres, hs, k0, k1, k2, k3, k4]
    refine DR_in (fun _ => True) rfl ?_
    simp only [↓WP, WQ, if_true, if_false, eq_self, implies_true, ne_eq, List.nil_append, List.cons_append, ↓reduceIte, Nat.reduceEqDiff, Nat.reduceBEq, reduceCtorEq, Nat.reduceAdd, resA, ret1, qv, lv, ev, boolA, binA, intA, shiftA, cmpA, beqA, lres, hs, hu1, hu2, hu, hwl, hT.idx hx.1 hx.2, hT.at hx.1 hx.2]
    refine simply_c h hm hA hx.1 hx.2 e0.1 e0.2 ?_
    simp only [↓WP, WQ, if_true, if_false, eq_self, implies_true, ne_eq, List.nil_append, List.cons_append, ↓reduceIte, Nat.reduceEqDiff, Nat.reduceBEq, reduceCtorEq, Nat.reduceAdd, resA, ret1, qv, lv, ev, boolA, binA, intA, shiftA, cmpA, beqA, lres, hs]
    refine sjoin_c h hA.rows62 (by omega) hx.1 hx.2 (ei _ _).1 (ei _ _).2 ?_
    simp only [↓WP, WQ, if_true, if_false, eq_self, implies_true, ne_eq, List.nil_append, List.cons_append, ↓reduceIte, Nat.reduceEqDiff, Nat.reduceBEq, reduceCtorEq, Nat.reduceAdd, resA, ret1, qv, lv, ev, boolA, binA, intA, shiftA, cmpA, beqA, lres, hs, hwy, hyl, hwl]
    exact ⟨_, rfl, fin (by rw [kp]; exact Iff.rfl) rfl, h5⟩
  · obtain ⟨k0, k1, k2, k3, k4, kp⟩ := h0
    simp only [↓WP, WQ, if_true, if_false, eq_self, implies_true, ne_eq, List.nil_append, List.cons_append, ↓reduceIte, Nat.reduceEqDiff, Nat.reduceBEq, reduceCtorEq, Nat.reduceAdd, resA, ret1, qv, lv, ev, boolA, binA, intA, shiftA, cmpA, beqA, lres, hs, k0, k1, k2, k3, k4]
    refine ⟨?_, hE⟩
    unfold isV
    rw [if_neg (by omega)]

theorem HasProperty_c {uv tv : AV} {A : Alg} {s : ByteArray} (h : Ints H uv A.up) (hm : Mat H tv A.times) (hS : Small A) {Q : AV → Hp → Prop} (ht : IsAlg A ∧ HasP (prop s) A → Q (.bool true) H) (hf : ¬ (IsAlg A ∧ HasP (prop s) A) → Q (.bool false) H) :
    ACalls Try.prog w0 41 [.str s, .agg [uv, tv]] H Q := by
  refine quietB (fun b hb => ?_) ht hf
  refine in41 ?_
  simp only [c41, ↓WP, WQ, if_true, if_false, eq_self, implies_true, ne_eq, List.nil_append, List.cons_append, ↓reduceIte, Nat.reduceEqDiff, Nat.reduceBEq, reduceCtorEq, Nat.reduceAdd, resA, ret1, qv, lv, ev, boolA, binA, intA, shiftA, cmpA, beqA, lres, cells_alg h.len hm.len]
  refine NewRowd_in fun r hr => ?_
  obtain ⟨hE, hu, hu1, hu2⟩ := box_facts (ty := 26) (uv := uv) (tv := tv) hr
  generalize H.set r ⟨26, true, [uv, tv]⟩ = G at *
  have h := h.ext hE
  have hm := hm.ext hE
  simp only [↓WP, WQ, if_true, if_false, eq_self, implies_true, ne_eq, List.nil_append, List.cons_append, ↓reduceIte, Nat.reduceEqDiff, Nat.reduceBEq, reduceCtorEq, Nat.reduceAdd, resA, ret1, qv, lv, ev, boolA, binA, intA, shiftA, cmpA, beqA, lres]
  refine isProperty_c (fun hp => ?_) (fun hp => ?_) <;> simp only [↓WP, WQ, if_true, if_false, eq_self, implies_true, ne_eq, List.nil_append, List.cons_append, ↓reduceIte, Nat.reduceEqDiff, Nat.reduceBEq, reduceCtorEq, Nat.reduceAdd, resA, ret1, qv, lv, ev, boolA, binA, intA, shiftA, cmpA, beqA, lres, hu]
  rotate_left
  · exact ⟨boolF hb fun hh => hp hh.2.1, hE⟩
  refine ValidAlgebra_c h hm hS (fun hA => ?_) (fun hA => ?_) <;> simp only [↓WP, WQ, if_true, if_false, eq_self, implies_true, ne_eq, List.nil_append, List.cons_append, ↓reduceIte, Nat.reduceEqDiff, Nat.reduceBEq, reduceCtorEq, Nat.reduceAdd, resA, ret1, qv, lv, ev, boolA, binA, intA, shiftA, cmpA, beqA, lres, hu1, h.len]
  rotate_left
  · exact ⟨boolF hb fun hh => hA hh.1, hE⟩
  have hn6 := hA.hi
  refine W_for 0 A.up.length (fun x e H' => H' = G ∧ Sl e [(0, .str s), (3, .ptr r 0), (17, .int .i64 A.up.length), (18, .int .i64 x)] ∧ allI x fun x => allI A.up.length fun y => PH (prop s) A x y) (by omega) ⟨rfl, by simp only [↓WP, WQ, if_true, if_false, eq_self, implies_true, ne_eq, List.nil_append, List.cons_append, ↓reduceIte, Nat.reduceEqDiff, Nat.reduceBEq, reduceCtorEq, Nat.reduceAdd, resA, ret1, qv, lv, ev, boolA, binA, intA, shiftA, cmpA, beqA, lres], allI_zero⟩ ?_
  rintro x e H' hx0 hx1 ⟨rfl, hs, hi⟩
  simp only [Sl_cons, Sl_nil, and_true] at hs
  have hw : IntKind.i64.wrap (x + 1) = x + 1 := wrap_id (by omega) (by omega)
  refine (Classical.em (x < A.up.length)).elim (fun hx => ?_) (fun hx => ?_) <;> simp only [↓WP, WQ, if_true, if_false, eq_self, implies_true, ne_eq, List.nil_append, List.cons_append, ↓reduceIte, Nat.reduceEqDiff, Nat.reduceBEq, reduceCtorEq, Nat.reduceAdd, resA, ret1, qv, lv, ev, boolA, binA, intA, shiftA, cmpA, beqA, lres, hs, hx]
  rotate_left
  · have hxe : x = A.up.length := by omega
    subst hxe
    exact ⟨boolT hb ⟨hA, hp, hi⟩, hE⟩
  simp only [↓WP, WQ, if_true, if_false, eq_self, implies_true, ne_eq, List.nil_append, List.cons_append, ↓reduceIte, Nat.reduceEqDiff, Nat.reduceBEq, reduceCtorEq, Nat.reduceAdd, resA, ret1, qv, lv, ev, boolA, binA, intA, shiftA, cmpA, beqA, lres, hu1, h.len]
  refine W_for 0 A.up.length (fun y e H'' => H'' = H' ∧ Sl e [(0, .str s), (3, .ptr r 0), (17, .int .i64 A.up.length), (18, .int .i64 x), (5, .int .i64 x), (23, .int .i64 A.up.length), (24, .int .i64 y)] ∧ allI y fun y => PH (prop s) A x y) (by omega) ⟨rfl, by simp only [↓WP, WQ, if_true, if_false, eq_self, implies_true, ne_eq, List.nil_append, List.cons_append, ↓reduceIte, Nat.reduceEqDiff, Nat.reduceBEq, reduceCtorEq, Nat.reduceAdd, resA, ret1, qv, lv, ev, boolA, binA, intA, shiftA, cmpA, beqA, lres, hs], allI_zero⟩ ?_
  rintro y e H'' hy0 hy1 ⟨rfl, hs, hj⟩
  simp only [Sl_cons, Sl_nil, and_true] at hs
  have hwy : IntKind.i64.wrap (y + 1) = y + 1 := wrap_id (by omega) (by omega)
  refine (Classical.em (y < A.up.length)).elim (fun hy => ?_) (fun hy => ?_) <;> simp only [↓WP, WQ, if_true, if_false, eq_self, implies_true, ne_eq, List.nil_append, List.cons_append, ↓reduceIte, Nat.reduceEqDiff, Nat.reduceBEq, reduceCtorEq, Nat.reduceAdd, resA, ret1, qv, lv, ev, boolA, binA, intA, shiftA, cmpA, beqA, lres, hs, hy]
  rotate_left
  · have hye : y = A.up.length := by omega
    subst hye
    simp only [↓WP, WQ, if_true, if_false, eq_self, implies_true, ne_eq, List.nil_append, List.cons_append, ↓reduceIte, Nat.reduceEqDiff, Nat.reduceBEq, reduceCtorEq, Nat.reduceAdd, resA, ret1, qv, lv, ev, boolA, binA, intA, shiftA, cmpA, beqA, lres, hs, hw, hx]
    exact (allI_succ hx0).2 ⟨hi, hj⟩
  simp only [↓WP, WQ, if_true, if_false, eq_self, implies_true, ne_eq, List.nil_append, List.cons_append, ↓reduceIte, Nat.reduceEqDiff, Nat.reduceBEq, reduceCtorEq, Nat.reduceAdd, resA, ret1, qv, lv, ev, boolA, binA, intA, shiftA, cmpA, beqA, lres, hs, hu]
  refine holds_c h hm hA ⟨hx0, hx⟩ ⟨hy0, hy⟩ (fun hc => ?_) (fun hc => ?_) <;> simp only [↓WP, WQ, if_true, if_false, eq_self, implies_true, ne_eq, List.nil_append, List.cons_append, ↓reduceIte, Nat.reduceEqDiff, Nat.reduceBEq, reduceCtorEq, Nat.reduceAdd, resA, ret1, qv, lv, ev, boolA, binA, intA, shiftA, cmpA, beqA, lres, hs, hwy, hy]
  · exact (allI_succ hy0).2 ⟨hj, hc⟩
  · exact ⟨boolF hb fun hh => hc (hh.2.2 x hx0 hx y hy0 hy), hE⟩

theorem sHasProperty_c {uv tv : AV} {A : Alg} {s : ByteArray} (h : Ints H uv A.up) (hm : Mat H tv A.times) (hS : Small A) {Q : AV → Hp → Prop} (ht : IsAlg A ∧ HasP (prop s) A → Q (.bool true) H) (hf : ¬ (IsAlg A ∧ HasP (prop s) A) → Q (.bool false) H) :
    ACalls Try.prog w0 43 [.str s, .agg [uv, tv]] H Q := by
  refine quietB (fun b hb => ?_) ht hf
  refine in43 ?_
  simp only [c43, ↓WP, WQ, if_true, if_false, eq_self, implies_true, ne_eq, List.nil_append, List.cons_append, ↓reduceIte, Nat.reduceEqDiff, Nat.reduceBEq, reduceCtorEq, Nat.reduceAdd, resA, ret1, qv, lv, ev, boolA, binA, intA, shiftA, cmpA, beqA, lres, cells_alg h.len hm.len]
  refine NewRowd_in fun r hr => ?_
  obtain ⟨hE, hu, hu1, hu2⟩ := box_facts (ty := 26) (uv := uv) (tv := tv) hr
  generalize H.set r ⟨26, true, [uv, tv]⟩ = G at *
  have h := h.ext hE
  have hm := hm.ext hE
  simp only [↓WP, WQ, if_true, if_false, eq_self, implies_true, ne_eq, List.nil_append, List.cons_append, ↓reduceIte, Nat.reduceEqDiff, Nat.reduceBEq, reduceCtorEq, Nat.reduceAdd, resA, ret1, qv, lv, ev, boolA, binA, intA, shiftA, cmpA, beqA, lres, hu]
  refine svalidAlgebra_c h hm hS (fun hA => ?_) (fun hA => ?_) <;> simp only [↓WP, WQ, if_true, if_false, eq_self, implies_true, ne_eq, List.nil_append, List.cons_append, ↓reduceIte, Nat.reduceEqDiff, Nat.reduceBEq, reduceCtorEq, Nat.reduceAdd, resA, ret1, qv, lv, ev, boolA, binA, intA, shiftA, cmpA, beqA, lres, hu]
  rotate_left
  · exact ⟨boolF hb fun hh => hA hh.1, hE⟩
  refine is_c h hm hA ?_
  unfold isV
  by_cases hp : prop s < 5
  · rw [if_pos hp]
    simp only [↓WP, WQ, if_true, if_false, eq_self, implies_true, ne_eq, List.nil_append, List.cons_append, ↓reduceIte, Nat.reduceEqDiff, Nat.reduceBEq, reduceCtorEq, Nat.reduceAdd, resA, ret1, qv, lv, ev, boolA, binA, intA, shiftA, cmpA, beqA, lres]
    refine ⟨?_, hE⟩
    classical
    by_cases hP : HasP (prop s) A
    · rw [decide_eq_true hP]; exact boolT hb ⟨hA, hP⟩
    · rw [decide_eq_false hP]; exact boolF hb fun hh => hP hh.2
  · rw [if_neg hp]
    simp only [↓WP, WQ, if_true, if_false, eq_self, implies_true, ne_eq, List.nil_append, List.cons_append, ↓reduceIte, Nat.reduceEqDiff, Nat.reduceBEq, reduceCtorEq, Nat.reduceAdd, resA, ret1, qv, lv, ev, boolA, binA, intA, shiftA, cmpA, beqA, lres]
    exact ⟨boolF hb fun hh => hp hh.2.1, hE⟩

/-- A distributive lattice. -/
def Distr (up : List Int) : Prop := allI up.length fun x => allI up.length fun y => allI up.length fun z => meetF up x (joinF up y z) = joinF up (meetF up x y) (meetF up x z)

theorem IsDistributive_c {uv : AV} {up : List Int} (h : Ints H uv up) (hn : up.length < 4611686018427387904) (hL : IsLat up) (hD : Distr up) {Q : AV → Hp → Prop} (ht : Q (.bool true) H) :
    ACalls Try.prog w0 44 [uv] H Q := by
  refine in44 ?_
  simp only [c44, ↓WP, WQ, if_true, if_false, eq_self, implies_true, ne_eq, List.nil_append, List.cons_append, ↓reduceIte, Nat.reduceEqDiff, Nat.reduceBEq, reduceCtorEq, Nat.reduceAdd, resA, ret1, qv, lv, ev, boolA, binA, intA, shiftA, cmpA, beqA, lres]
  have hn6 := hL.hi
  refine ValidLattice_c h hn (fun _ => ?_) (fun hc => absurd hL hc)
  simp only [↓WP, WQ, if_true, if_false, eq_self, implies_true, ne_eq, List.nil_append, List.cons_append, ↓reduceIte, Nat.reduceEqDiff, Nat.reduceBEq, reduceCtorEq, Nat.reduceAdd, resA, ret1, qv, lv, ev, boolA, binA, intA, shiftA, cmpA, beqA, lres, h.len]
  refine W_for 0 up.length (fun x e H' => H' = H ∧ Sl e [(0, uv), (10, .int .i64 up.length), (11, .int .i64 x)]) (by omega) ⟨rfl, by simp only [↓WP, WQ, if_true, if_false, eq_self, implies_true, ne_eq, List.nil_append, List.cons_append, ↓reduceIte, Nat.reduceEqDiff, Nat.reduceBEq, reduceCtorEq, Nat.reduceAdd, resA, ret1, qv, lv, ev, boolA, binA, intA, shiftA, cmpA, beqA, lres]⟩ ?_
  rintro x e H' hx0 hx1 ⟨rfl, hs⟩
  simp only [Sl_cons, Sl_nil, and_true] at hs
  have hw : IntKind.i64.wrap (x + 1) = x + 1 := wrap_id (by omega) (by omega)
  refine (Classical.em (x < up.length)).elim (fun hx => ?_) (fun hx => ?_) <;> simp only [↓WP, WQ, if_true, if_false, eq_self, implies_true, ne_eq, List.nil_append, List.cons_append, ↓reduceIte, Nat.reduceEqDiff, Nat.reduceBEq, reduceCtorEq, Nat.reduceAdd, resA, ret1, qv, lv, ev, boolA, binA, intA, shiftA, cmpA, beqA, lres, hs, hx, h.len]
  rotate_left
  · exact ht
  refine W_for 0 up.length (fun y e H'' => H'' = H' ∧ Sl e [(0, uv), (10, .int .i64 up.length), (11, .int .i64 x), (3, .int .i64 x), (15, .int .i64 up.length), (16, .int .i64 y)]) (by omega) ⟨rfl, by simp only [↓WP, WQ, if_true, if_false, eq_self, implies_true, ne_eq, List.nil_append, List.cons_append, ↓reduceIte, Nat.reduceEqDiff, Nat.reduceBEq, reduceCtorEq, Nat.reduceAdd, resA, ret1, qv, lv, ev, boolA, binA, intA, shiftA, cmpA, beqA, lres, hs]⟩ ?_
  rintro y e H'' hy0 hy1 ⟨rfl, hs⟩
  simp only [Sl_cons, Sl_nil, and_true] at hs
  have hwy : IntKind.i64.wrap (y + 1) = y + 1 := wrap_id (by omega) (by omega)
  refine (Classical.em (y < up.length)).elim (fun hy => ?_) (fun hy => ?_) <;> simp only [↓WP, WQ, if_true, if_false, eq_self, implies_true, ne_eq, List.nil_append, List.cons_append, ↓reduceIte, Nat.reduceEqDiff, Nat.reduceBEq, reduceCtorEq, Nat.reduceAdd, resA, ret1, qv, lv, ev, boolA, binA, intA, shiftA, cmpA, beqA, lres, hs, hy, h.len]
  rotate_left
  · simp only [↓WP, WQ, if_true, if_false, eq_self, implies_true, ne_eq, List.nil_append, List.cons_append, ↓reduceIte, Nat.reduceEqDiff, Nat.reduceBEq, reduceCtorEq, Nat.reduceAdd, resA, ret1, qv, lv, ev, boolA, binA, intA, shiftA, cmpA, beqA, lres, hs, hw, hx]
  refine W_for 0 up.length (fun z e H3 => H3 = H'' ∧ Sl e [(0, uv), (10, .int .i64 up.length), (11, .int .i64 x), (3, .int .i64 x), (15, .int .i64 up.length), (16, .int .i64 y), (4, .int .i64 y), (20, .int .i64 up.length), (21, .int .i64 z)]) (by omega) ⟨rfl, by simp only [↓WP, WQ, if_true, if_false, eq_self, implies_true, ne_eq, List.nil_append, List.cons_append, ↓reduceIte, Nat.reduceEqDiff, Nat.reduceBEq, reduceCtorEq, Nat.reduceAdd, resA, ret1, qv, lv, ev, boolA, binA, intA, shiftA, cmpA, beqA, lres, hs]⟩ ?_
  rintro z e H3 hz0 hz1 ⟨rfl, hs⟩
  simp only [Sl_cons, Sl_nil, and_true] at hs
  have hwz : IntKind.i64.wrap (z + 1) = z + 1 := wrap_id (by omega) (by omega)
  refine (Classical.em (z < up.length)).elim (fun hz => ?_) (fun hz => ?_) <;> simp only [↓WP, WQ, if_true, if_false, eq_self, implies_true, ne_eq, List.nil_append, List.cons_append, ↓reduceIte, Nat.reduceEqDiff, Nat.reduceBEq, reduceCtorEq, Nat.reduceAdd, resA, ret1, qv, lv, ev, boolA, binA, intA, shiftA, cmpA, beqA, lres, hs, hz, h.len]
  rotate_left
  · simp only [↓WP, WQ, if_true, if_false, eq_self, implies_true, ne_eq, List.nil_append, List.cons_append, ↓reduceIte, Nat.reduceEqDiff, Nat.reduceBEq, reduceCtorEq, Nat.reduceAdd, resA, ret1, qv, lv, ev, boolA, binA, intA, shiftA, cmpA, beqA, lres, hs, hwy, hy]
  have j1 := joinF_rng hL hy0 hy hz0 hz
  have m1 := meetF_rng hL hx0 hx hy0 hy
  have m2 := meetF_rng hL hx0 hx hz0 hz
  refine join_c h hn6 hL.rng hy0 hy hz0 hz ?_
  simp only [↓WP, WQ, if_true, if_false, eq_self, implies_true, ne_eq, List.nil_append, List.cons_append, ↓reduceIte, Nat.reduceEqDiff, Nat.reduceBEq, reduceCtorEq, Nat.reduceAdd, resA, ret1, qv, lv, ev, boolA, binA, intA, shiftA, cmpA, beqA, lres, hs]
  refine meet_c h (by omega) hx0 hx j1.1 j1.2 ?_
  simp only [↓WP, WQ, if_true, if_false, eq_self, implies_true, ne_eq, List.nil_append, List.cons_append, ↓reduceIte, Nat.reduceEqDiff, Nat.reduceBEq, reduceCtorEq, Nat.reduceAdd, resA, ret1, qv, lv, ev, boolA, binA, intA, shiftA, cmpA, beqA, lres, hs]
  refine meet_c h (by omega) hx0 hx hy0 hy ?_
  simp only [↓WP, WQ, if_true, if_false, eq_self, implies_true, ne_eq, List.nil_append, List.cons_append, ↓reduceIte, Nat.reduceEqDiff, Nat.reduceBEq, reduceCtorEq, Nat.reduceAdd, resA, ret1, qv, lv, ev, boolA, binA, intA, shiftA, cmpA, beqA, lres, hs]
  refine meet_c h (by omega) hx0 hx hz0 hz ?_
  simp only [↓WP, WQ, if_true, if_false, eq_self, implies_true, ne_eq, List.nil_append, List.cons_append, ↓reduceIte, Nat.reduceEqDiff, Nat.reduceBEq, reduceCtorEq, Nat.reduceAdd, resA, ret1, qv, lv, ev, boolA, binA, intA, shiftA, cmpA, beqA, lres, hs]
  refine join_c h hn6 hL.rng m1.1 m1.2 m2.1 m2.2 ?_
  have e := hD x hx0 hx y hy0 hy z hz0 hz
  simp only [↓WP, WQ, if_true, if_false, eq_self, implies_true, ne_eq, List.nil_append, List.cons_append, ↓reduceIte, Nat.reduceEqDiff, Nat.reduceBEq, reduceCtorEq, Nat.reduceAdd, resA, ret1, qv, lv, ev, boolA, binA, intA, shiftA, cmpA, beqA, lres, hs, e, hwz, hz]

/-- The fixed elements. -/
noncomputable def fixL (A : Alg) : List Int := sel (fun x => A.tm x x = x) A.up.length

theorem sFixedOf_c {uv tv : AV} {A : Alg} (h : Ints H uv A.up) (hm : Mat H tv A.times) (hS : Small A) {Q : AV → Hp → Prop} (hq : ∀ v H', ListV H H' (IsAlg A) (fixL A) v → Q v H') :
    ACalls Try.prog w0 39 [.agg [uv, tv]] H Q := by
  refine in39 ?_
  simp only [c39, ↓WP, WQ, if_true, if_false, eq_self, implies_true, ne_eq, List.nil_append, List.cons_append, ↓reduceIte, Nat.reduceEqDiff, Nat.reduceBEq, reduceCtorEq, Nat.reduceAdd, resA, ret1, qv, lv, ev, boolA, binA, intA, shiftA, cmpA, beqA, lres, cells_alg h.len hm.len]
  refine NewRowd_in fun b hb => ?_
  have o := Own.nil0.push (x := ⟨26, true, [uv, tv]⟩) hb
  generalize H.set b ⟨26, true, [uv, tv]⟩ = G at *
  have gb := o.get (i := 0) rfl
  simp only [↓WP, WQ, if_true, if_false, eq_self, implies_true, ne_eq, List.nil_append, List.cons_append, ↓reduceIte, Nat.reduceEqDiff, Nat.reduceBEq, reduceCtorEq, Nat.reduceAdd, resA, ret1, qv, lv, ev, boolA, binA, intA, shiftA, cmpA, beqA, lres, atN_two gb]
  refine svalidAlgebra_c (h.ext o.ext') (hm.ext o.ext') hS (fun hA => ?_) (fun hA => ?_) <;> simp only [↓WP, WQ, if_true, if_false, eq_self, implies_true, ne_eq, List.nil_append, List.cons_append, ↓reduceIte, Nat.reduceEqDiff, Nat.reduceBEq, reduceCtorEq, Nat.reduceAdd, resA, ret1, qv, lv, ev, boolA, binA, intA, shiftA, cmpA, beqA, lres]
  rotate_left
  · exact hq _ _ (Or.inl ⟨hA, rfl, o.ext'⟩)
  simp only [↓WP, WQ, if_true, if_false, eq_self, implies_true, ne_eq, List.nil_append, List.cons_append, ↓reduceIte, Nat.reduceEqDiff, Nat.reduceBEq, reduceCtorEq, Nat.reduceAdd, resA, ret1, qv, lv, ev, boolA, binA, intA, shiftA, cmpA, beqA, lres, bsl0]
  refine NewRowd_in fun r0 hr0 => ?_
  have o := o.push (x := LI []) hr0
  simp only [↓WP, WQ, if_true, if_false, eq_self, implies_true, ne_eq, List.nil_append, List.cons_append, ↓reduceIte, Nat.reduceEqDiff, Nat.reduceBEq, reduceCtorEq, Nat.reduceAdd, resA, ret1, qv, lv, ev, boolA, binA, intA, shiftA, cmpA, beqA, lres]
  have hn6 := hA.hi
  refine W_for 0 A.up.length (fun z e H' => ∃ r, Sl e [(1, .ptr b 0), (3, .sl r 0 (sel (fun x => A.tm x x = x) z.toNat).length), (4, .int .i64 z)] ∧ Own no H H' [(r, LI (sel (fun x => A.tm x x = x) z.toNat)), (b, ⟨26, true, [uv, tv]⟩)]) (by omega) ⟨r0, by simp only [↓WP, WQ, if_true, if_false, eq_self, implies_true, ne_eq, List.nil_append, List.cons_append, ↓reduceIte, Nat.reduceEqDiff, Nat.reduceBEq, reduceCtorEq, Nat.reduceAdd, resA, ret1, qv, lv, ev, boolA, binA, intA, shiftA, cmpA, beqA, lres]; rfl, o⟩ ?_
  rintro z e H' hz0 hz1 ⟨r, hs, o⟩
  simp only [Sl_cons, Sl_nil, and_true] at hs
  have hw : IntKind.i64.wrap (z + 1) = z + 1 := wrap_id (by omega) (by omega)
  have gb := o.get (i := 1) rfl
  have hsl := sel_len (fun x => A.tm x x = x) z.toNat
  have hT : Tab H' tv A := ⟨hm.ext o.ext', hA.toSquare⟩
  refine (Classical.em (z < A.up.length)).elim (fun hz => ?_) (fun hz => ?_) <;> simp only [↓WP, WQ, if_true, if_false, eq_self, implies_true, ne_eq, List.nil_append, List.cons_append, ↓reduceIte, Nat.reduceEqDiff, Nat.reduceBEq, reduceCtorEq, Nat.reduceAdd, resA, ret1, qv, lv, ev, boolA, binA, intA, shiftA, cmpA, beqA, lres, hs, at_fst gb, h.len, hz]
  · refine (Classical.em (A.tm z z = z)).elim (fun hf => ?_) (fun hf => ?_)
    · simp only [↓WP, WQ, if_true, if_false, eq_self, implies_true, ne_eq, List.nil_append, List.cons_append, ↓reduceIte, Nat.reduceEqDiff, Nat.reduceBEq, reduceCtorEq, Nat.reduceAdd, resA, ret1, qv, lv, ev, boolA, binA, intA, shiftA, cmpA, beqA, lres, hs, at_snd gb, hT.idx hz0 hz, hT.at hz0 hz, hT.idx2 hz0 hz hz0 hz, hT.at2 hz0 hz hz0 hz, decide_eq_true hf, bsl1]
      refine NewRowd_in fun r2 hr2 => ?_
      simp only [↓WP, WQ, if_true, if_false, eq_self, implies_true, ne_eq, List.nil_append, List.cons_append, ↓reduceIte, Nat.reduceEqDiff, Nat.reduceBEq, reduceCtorEq, Nat.reduceAdd, resA, ret1, qv, lv, ev, boolA, binA, intA, shiftA, cmpA, beqA, lres, hs]
      refine o.app_num (i := 0) rfl hr2 rfl (by omega) fun r' G' o => ?_
      simp only [↓WP, WQ, if_true, if_false, eq_self, implies_true, ne_eq, List.nil_append, List.cons_append, ↓reduceIte, Nat.reduceEqDiff, Nat.reduceBEq, reduceCtorEq, Nat.reduceAdd, resA, ret1, qv, lv, ev, boolA, binA, intA, shiftA, cmpA, beqA, lres, hs, hw, hz]
      rw [sel_yes (p := fun x => A.tm x x = x) hz0 hf]
      exact ⟨r', by simp, o⟩
    · simp only [↓WP, WQ, if_true, if_false, eq_self, implies_true, ne_eq, List.nil_append, List.cons_append, ↓reduceIte, Nat.reduceEqDiff, Nat.reduceBEq, reduceCtorEq, Nat.reduceAdd, resA, ret1, qv, lv, ev, boolA, binA, intA, shiftA, cmpA, beqA, lres, hs, at_snd gb, hT.idx hz0 hz, hT.at hz0 hz, hT.idx2 hz0 hz hz0 hz, hT.at2 hz0 hz hz0 hz, decide_eq_false hf, hw, hz]
      rw [sel_no (p := fun x => A.tm x x = x) hz0 hf]
      exact ⟨r, rfl, o⟩
  · have hze : z.toNat = A.up.length := by omega
    rw [hze] at o ⊢
    exact hq _ H' (Or.inr ⟨hA, r, rfl, o.sub (.cons_cons _ (List.nil_sublist _))⟩)

theorem elementsWith_c {uv tv : AV} {A : Alg} {s : ByteArray} (h : Ints H uv A.up) (hm : Mat H tv A.times) (hS : Small A) {Q : AV → Hp → Prop} (hq : ∀ v H', ListV H H' (IsAlg A) (sel (fun x => PH (prop s) A x x) A.up.length) v → Q v H') :
    ACalls Try.prog w0 88 [.agg [uv, tv], .str s] H Q := by
  refine in88 ?_
  simp only [c88, ↓WP, WQ, if_true, if_false, eq_self, implies_true, ne_eq, List.nil_append, List.cons_append, ↓reduceIte, Nat.reduceEqDiff, Nat.reduceBEq, reduceCtorEq, Nat.reduceAdd, resA, ret1, qv, lv, ev, boolA, binA, intA, shiftA, cmpA, beqA, lres, cells_alg h.len hm.len]
  refine NewRowd_in fun b hb => ?_
  have o := Own.nil0.push (x := ⟨26, true, [uv, tv]⟩) hb
  generalize H.set b ⟨26, true, [uv, tv]⟩ = G at *
  have gb := o.get (i := 0) rfl
  simp only [↓WP, WQ, if_true, if_false, eq_self, implies_true, ne_eq, List.nil_append, List.cons_append, ↓reduceIte, Nat.reduceEqDiff, Nat.reduceBEq, reduceCtorEq, Nat.reduceAdd, resA, ret1, qv, lv, ev, boolA, binA, intA, shiftA, cmpA, beqA, lres, atN_two gb]
  refine ValidAlgebra_c (h.ext o.ext') (hm.ext o.ext') hS (fun hA => ?_) (fun hA => ?_) <;> simp only [↓WP, WQ, if_true, if_false, eq_self, implies_true, ne_eq, List.nil_append, List.cons_append, ↓reduceIte, Nat.reduceEqDiff, Nat.reduceBEq, reduceCtorEq, Nat.reduceAdd, resA, ret1, qv, lv, ev, boolA, binA, intA, shiftA, cmpA, beqA, lres]
  rotate_left
  · exact hq _ _ (Or.inl ⟨hA, rfl, o.ext'⟩)
  simp only [↓WP, WQ, if_true, if_false, eq_self, implies_true, ne_eq, List.nil_append, List.cons_append, ↓reduceIte, Nat.reduceEqDiff, Nat.reduceBEq, reduceCtorEq, Nat.reduceAdd, resA, ret1, qv, lv, ev, boolA, binA, intA, shiftA, cmpA, beqA, lres, bsl0]
  refine NewRowd_in fun r0 hr0 => ?_
  have o := o.push (x := LI []) hr0
  have gb := o.get (i := 1) rfl
  have e0 : (⟨3, true, []⟩ : Row) = LI [] := rfl
  rw [e0]
  generalize G.set r0 (LI []) = G1 at *
  simp only [↓WP, WQ, if_true, if_false, eq_self, implies_true, ne_eq, List.nil_append, List.cons_append, ↓reduceIte, Nat.reduceEqDiff, Nat.reduceBEq, reduceCtorEq, Nat.reduceAdd, resA, ret1, qv, lv, ev, boolA, binA, intA, shiftA, cmpA, beqA, lres, at_fst gb, h.len]
  have hn6 := hA.hi
  refine W_for 0 A.up.length (fun z e H' => ∃ r, Sl e [(1, .str s), (2, .ptr b 0), (5, .sl r 0 (sel (fun x => PH (prop s) A x x) z.toNat).length), (13, .int .i64 A.up.length), (14, .int .i64 z)] ∧ Own no H H' [(r, LI (sel (fun x => PH (prop s) A x x) z.toNat)), (b, ⟨26, true, [uv, tv]⟩)]) (by omega) ⟨r0, by simp only [↓WP, WQ, if_true, if_false, eq_self, implies_true, ne_eq, List.nil_append, List.cons_append, ↓reduceIte, Nat.reduceEqDiff, Nat.reduceBEq, reduceCtorEq, Nat.reduceAdd, resA, ret1, qv, lv, ev, boolA, binA, intA, shiftA, cmpA, beqA, lres]; rfl, o⟩ ?_
  rintro z e H' hz0 hz1 ⟨r, hs, o⟩
  simp only [Sl_cons, Sl_nil, and_true] at hs
  have hw : IntKind.i64.wrap (z + 1) = z + 1 := wrap_id (by omega) (by omega)
  have gb := o.get (i := 1) rfl
  have hsl := sel_len (fun x => PH (prop s) A x x) z.toNat
  refine (Classical.em (z < A.up.length)).elim (fun hz => ?_) (fun hz => ?_) <;> simp only [↓WP, WQ, if_true, if_false, eq_self, implies_true, ne_eq, List.nil_append, List.cons_append, ↓reduceIte, Nat.reduceEqDiff, Nat.reduceBEq, reduceCtorEq, Nat.reduceAdd, resA, ret1, qv, lv, ev, boolA, binA, intA, shiftA, cmpA, beqA, lres, hs, hz]
  · simp only [↓WP, WQ, if_true, if_false, eq_self, implies_true, ne_eq, List.nil_append, List.cons_append, ↓reduceIte, Nat.reduceEqDiff, Nat.reduceBEq, reduceCtorEq, Nat.reduceAdd, resA, ret1, qv, lv, ev, boolA, binA, intA, shiftA, cmpA, beqA, lres, hs, atN_two gb]
    refine holds_c (h.ext o.ext') (hm.ext o.ext') hA ⟨hz0, hz⟩ ⟨hz0, hz⟩ (fun hf => ?_) (fun hf => ?_) <;> simp only [↓WP, WQ, if_true, if_false, eq_self, implies_true, ne_eq, List.nil_append, List.cons_append, ↓reduceIte, Nat.reduceEqDiff, Nat.reduceBEq, reduceCtorEq, Nat.reduceAdd, resA, ret1, qv, lv, ev, boolA, binA, intA, shiftA, cmpA, beqA, lres, hs, hw, hz]
    · simp only [↓WP, WQ, if_true, if_false, eq_self, implies_true, ne_eq, List.nil_append, List.cons_append, ↓reduceIte, Nat.reduceEqDiff, Nat.reduceBEq, reduceCtorEq, Nat.reduceAdd, resA, ret1, qv, lv, ev, boolA, binA, intA, shiftA, cmpA, beqA, lres, hs, bsl1]
      refine NewRowd_in fun r2 hr2 => ?_
      simp only [↓WP, WQ, if_true, if_false, eq_self, implies_true, ne_eq, List.nil_append, List.cons_append, ↓reduceIte, Nat.reduceEqDiff, Nat.reduceBEq, reduceCtorEq, Nat.reduceAdd, resA, ret1, qv, lv, ev, boolA, binA, intA, shiftA, cmpA, beqA, lres, hs]
      refine o.app_num (i := 0) rfl hr2 rfl (by omega) fun r' G' o => ?_
      simp only [↓WP, WQ, if_true, if_false, eq_self, implies_true, ne_eq, List.nil_append, List.cons_append, ↓reduceIte, Nat.reduceEqDiff, Nat.reduceBEq, reduceCtorEq, Nat.reduceAdd, resA, ret1, qv, lv, ev, boolA, binA, intA, shiftA, cmpA, beqA, lres, hs, hw, hz]
      rw [sel_yes (p := fun x => PH (prop s) A x x) hz0 hf]
      exact ⟨r', by simp, o⟩
    · rw [sel_no (p := fun x => PH (prop s) A x x) hz0 hf]
      exact ⟨r, rfl, o⟩
  · have hze : z.toNat = A.up.length := by omega
    rw [hze] at o ⊢
    exact hq _ H' (Or.inr ⟨hA, r, rfl, o.sub (.cons_cons _ (List.nil_sublist _))⟩)

theorem ListV.pre {H H1 H' : Hp} {c : Prop} {l : List Int} {v : AV} (h : ListV H1 H' c l v) (k : Ext H H1) : ListV H H' c l v := by
  rcases h with ⟨h1, h2, h3⟩ | ⟨h1, r, h2, o⟩
  · exact Or.inl ⟨h1, h2, k.trans h3⟩
  · exact Or.inr ⟨h1, r, h2, o.back (k.fx) (fun _ e => e) (fun _ e => e.elim)⟩

theorem FixedOf_c {uv tv : AV} {A : Alg} (h : Ints H uv A.up) (hm : Mat H tv A.times) (hS : Small A) {Q : AV → Hp → Prop} (hq : ∀ v H', ListV H H' (IsAlg A) (fixL A) v → Q v H') :
    ACalls Try.prog w0 38 [.agg [uv, tv]] H Q := by
  refine in38 ?_
  simp only [c38, ↓WP, WQ, if_true, if_false, eq_self, implies_true, ne_eq, List.nil_append, List.cons_append, ↓reduceIte, Nat.reduceEqDiff, Nat.reduceBEq, reduceCtorEq, Nat.reduceAdd, resA, ret1, qv, lv, ev, boolA, binA, intA, shiftA, cmpA, beqA, lres, cells_alg h.len hm.len]
  refine NewRowd_in fun b hb => ?_
  have o := Own.nil0.push (x := ⟨26, true, [uv, tv]⟩) hb
  generalize H.set b ⟨26, true, [uv, tv]⟩ = G at *
  have gb := o.get (i := 0) rfl
  simp only [↓WP, WQ, if_true, if_false, eq_self, implies_true, ne_eq, List.nil_append, List.cons_append, ↓reduceIte, Nat.reduceEqDiff, Nat.reduceBEq, reduceCtorEq, Nat.reduceAdd, resA, ret1, qv, lv, ev, boolA, binA, intA, shiftA, cmpA, beqA, lres, atN_two gb]
  refine elementsWith_c (h.ext o.ext') (hm.ext o.ext') hS fun v H' hv => ?_
  simp only [↓WP, WQ, if_true, if_false, eq_self, implies_true, ne_eq, List.nil_append, List.cons_append, ↓reduceIte, Nat.reduceEqDiff, Nat.reduceBEq, reduceCtorEq, Nat.reduceAdd, resA, ret1, qv, lv, ev, boolA, binA, intA, shiftA, cmpA, beqA, lres]
  have e : sel (fun x => PH (prop ⟨#[105, 100, 101, 109, 112, 111, 116, 101, 110, 116]⟩) A x x) A.up.length = fixL A := by rw [prop_idempotent]; rfl
  rw [e] at hv
  exact hq v H' (hv.pre o.ext')
end Go.AL

/-
  Plain laws of properties.
-/
namespace Go.AL
open Go.Proofs
set_option linter.unusedSimpArgs false
set_option linter.unusedVariables false
set_option linter.unusedSectionVars false

section
variable {A : Alg} (hA : IsAlg A)
include hA
theorem IsAlg.dl {x y z : Int} (hx : El A x) (hy : El A y) (hz : El A z) : A.tm x (joinF A.up y z) = joinF A.up (A.tm x y) (A.tm x z) := hA.dist x y z hx.1 hx.2 hy.1 hy.2 hz.1 hz.2
theorem IsAlg.dr {x y z : Int} (hx : El A x) (hy : El A y) (hz : El A z) : A.tm (joinF A.up y z) x = joinF A.up (A.tm y x) (A.tm z x) := by
  rw [hA.tc (hA.je hy hz) hx, hA.dl hx hy hz, hA.tc hx hy, hA.tc hx hz]
theorem fix_mul {x y : Int} (hx : El A x) (hy : El A y) (h1 : A.tm x x = x) (h2 : A.tm y y = y) : A.tm (A.tm x y) (A.tm x y) = A.tm x y := by
  rw [hA.t4 hx hy hx hy, h1, h2]
theorem fix_join {x y : Int} (hx : El A x) (hy : El A y) (h1 : A.tm x x = x) (h2 : A.tm y y = y) : A.tm (joinF A.up x y) (joinF A.up x y) = joinF A.up x y := by
  have hj := hA.je hx hy
  refine hA.as (hA.te hj hj) hj (hA.tl hj hj) (hA.j3 hx hy (hA.te hj hj) ?_ ?_)
  · have := hA.mono2 hx hj hx hj (hA.j1 hx hy) (hA.j1 hx hy)
    rwa [h1] at this
  · have := hA.mono2 hy hj hy hj (hA.j2 hx hy) (hA.j2 hx hy)
    rwa [h2] at this

/-- Boolean is idempotent and involutive. -/
theorem bool_iff : (∀ x, El A x → joinF A.up x (impF A x 0) = A.up.length - 1) ↔ (∀ x, El A x → A.tm x x = x) ∧ ∀ x, El A x → impF A (impF A x 0) 0 = x := by
  constructor
  · intro h
    constructor
    · intro x hx
      have e := hA.dl hx hx (hA.ie x 0)
      rw [h x hx, hA.t1 hx, hA.not_mul hx] at e
      have e2 : joinF A.up (A.tm x x) 0 = A.tm x x := by
        refine hA.as (hA.je (hA.te hx hx) hA.e0) (hA.te hx hx) (hA.j3 (hA.te hx hx) hA.e0 (hA.te hx hx) (hA.r (hA.te hx hx)) (hA.b (hA.te hx hx))) (hA.j1 (hA.te hx hx) hA.e0)
      rw [e2] at e; exact e.symm
    · intro x hx
      have hn := hA.ie x 0
      have hnn := hA.ie (impF A x 0) 0
      have e := hA.dl hnn hx hn
      rw [h x hx, hA.t1 hnn, hA.tc hnn hn, hA.not_mul hn] at e
      refine hA.as hnn hx ?_ (hA.le_not_not hx)
      rw [e]
      exact hA.j3 (hA.te hnn hx) hA.e0 hx (hA.tr' hnn hx) (hA.b hx)
  · rintro ⟨h1, h2⟩ x hx
    have hn := hA.ie x 0
    have hj := hA.je hx hn
    have hnj := hA.ie (joinF A.up x (impF A x 0)) 0
    have a1 : bl A.up (impF A (joinF A.up x (impF A x 0)) 0) (impF A x 0) := hA.imp_anti hx hj hA.e0 (hA.j1 hx hn)
    have a2 : bl A.up (impF A (joinF A.up x (impF A x 0)) 0) x := by
      have := hA.imp_anti hn hj hA.e0 (hA.j2 hx hn)
      rwa [h2 x hx] at this
    have a3 := hA.mono2 hnj hx hnj hn a2 a1
    rw [h1 _ hnj, hA.not_mul hx] at a3
    have a4 := hA.bot_eq hnj a3
    have a5 := h2 _ hj
    rw [a4] at a5
    rw [← a5]
    exact (hA.imp_top hA.e0 hA.e0).2 (hA.r hA.e0)
theorem hasP_bool : HasP 4 A ↔ HasP 3 A ∧ HasP 2 A := by
  have h0 := hA.e0
  have k := bool_iff hA
  constructor
  · intro h
    have h' := k.1 fun x hx => h.2 x hx.1 hx.2 0 h0.1 h0.2
    exact ⟨⟨by omega, fun x x0 x1 y y0 y1 => h'.1 x ⟨x0, x1⟩⟩, by omega, fun x x0 x1 y y0 y1 => h'.2 x ⟨x0, x1⟩⟩
  · rintro ⟨h1, h2⟩
    have h' := k.2 ⟨fun x hx => h1.2 x hx.1 hx.2 0 h0.1 h0.2, fun x hx => h2.2 x hx.1 hx.2 0 h0.1 h0.2⟩
    exact ⟨by omega, fun x x0 x1 y y0 y1 => h' x ⟨x0, x1⟩⟩

/-- One side of distributivity always holds. -/
theorem distr_half {x y z : Int} (hx : El A x) (hy : El A y) (hz : El A z) (h : bl A.up (meetF A.up x (joinF A.up y z)) (joinF A.up (meetF A.up x y) (meetF A.up x z))) :
    meetF A.up x (joinF A.up y z) = joinF A.up (meetF A.up x y) (meetF A.up x z) := by
  have hj := hA.je hy hz
  have m1 := hA.me hx hy
  have m2 := hA.me hx hz
  have hm := hA.me hx hj
  have hjj := hA.je m1 m2
  refine hA.as hm hjj h (hA.m3 hx hj hjj ?_ ?_)
  · exact hA.j3 m1 m2 hx (hA.m1 hx hy) (hA.m1 hx hz)
  · exact hA.j3 m1 m2 hj (hA.tr m1 hy hj (hA.m2 hx hy) (hA.j1 hy hz)) (hA.tr m2 hz hj (hA.m2 hx hz) (hA.j2 hy hz))
theorem distr_pre (h : HasP 0 A) : Distr A.up := by
  intro x x0 x1 y y0 y1 z z0 z1
  have hx : El A x := ⟨x0, x1⟩
  have hy : El A y := ⟨y0, y1⟩
  have hz : El A z := ⟨z0, z1⟩
  refine distr_half hA hx hy hz ?_
  have hj := hA.je hy hz
  have hw := hA.me hx hj
  have m1 := hA.me hx hy
  have m2 := hA.me hx hz
  have hjj := hA.je m1 m2
  have i1 := hA.ie y z
  have i2 := hA.ie z y
  have hp : joinF A.up (impF A y z) (impF A z y) = A.up.length - 1 := h.2 y y0 y1 z z0 z1
  have e := hA.dl hw i1 i2
  rw [hp, hA.t1 hw] at e
  rw [e]
  -- w times (y implies z) is at most x and z
  have key : ∀ u v, El A u → El A v → joinF A.up u v = joinF A.up y z → bl A.up (A.tm (meetF A.up x (joinF A.up y z)) (impF A u v)) (meetF A.up x v) := by
    intro u v hu hv huv
    have i := hA.ie u v
    refine hA.m3 hx hv (hA.te hw i) (hA.tr (hA.te hw i) hw hx (hA.tl hw i) (hA.m1 hx hj)) ?_
    have b1 := hA.mono' hw hj i (hA.m2 hx hj)
    rw [← huv] at b1 ⊢
    have hju := hA.je hu hv
    rw [← huv] at hw
    refine hA.tr (hA.te hw i) (hA.te hju i) hv b1 ?_
    rw [hA.dr i hu hv]
    exact hA.j3 (hA.te hu i) (hA.te hv i) hv (hA.imp_le hu hv) (hA.tl hv i)
  have jc : joinF A.up z y = joinF A.up y z := hA.as (hA.je hz hy) hj (hA.j3 hz hy hj (hA.j2 hy hz) (hA.j1 hy hz)) (hA.j3 hy hz (hA.je hz hy) (hA.j2 hz hy) (hA.j1 hz hy))
  refine hA.j3 (hA.te hw i1) (hA.te hw i2) hjj ?_ ?_
  · exact hA.tr (hA.te hw i1) m2 hjj (key y z hy hz rfl) (hA.j2 m1 m2)
  · exact hA.tr (hA.te hw i2) m1 hjj (key z y hz hy jc) (hA.j1 m1 m2)
theorem distr_div (h : HasP 1 A) : Distr A.up := by
  intro x x0 x1 y y0 y1 z z0 z1
  have hx : El A x := ⟨x0, x1⟩
  have hy : El A y := ⟨y0, y1⟩
  have hz : El A z := ⟨z0, z1⟩
  refine distr_half hA hx hy hz ?_
  have hj := hA.je hy hz
  have hw := hA.me hx hj
  have m1 := hA.me hx hy
  have m2 := hA.me hx hz
  have hjj := hA.je m1 m2
  have d : ∀ u v, El A u → El A v → A.tm u (impF A u v) = meetF A.up u v := fun u v hu hv => h.2 u hu.1 hu.2 v hv.1 hv.2
  have mc : ∀ {u v}, El A u → El A v → meetF A.up u v = meetF A.up v u := fun hu hv => hA.as (hA.me hu hv) (hA.me hv hu) (hA.m3 hv hu (hA.me hu hv) (hA.m2 hu hv) (hA.m1 hu hv)) (hA.m3 hu hv (hA.me hv hu) (hA.m2 hv hu) (hA.m1 hv hu))
  have i := hA.ie (joinF A.up y z) x
  rw [mc hx hj, ← d _ _ hj hx, hA.dr i hy hz]
  have step : ∀ u, El A u → bl A.up u (joinF A.up y z) → bl A.up (A.tm u (impF A (joinF A.up y z) x)) (meetF A.up x u) := by
    intro u hu huj
    have b1 := hA.mono i (hA.ie u x) hu (hA.imp_anti hu hj hx huj)
    rw [d u x hu hx, mc hu hx] at b1
    exact b1
  refine hA.j3 (hA.te hy i) (hA.te hz i) hjj ?_ ?_
  · exact hA.tr (hA.te hy i) m1 hjj (step y hy (hA.j1 hy hz)) (hA.j1 m1 m2)
  · exact hA.tr (hA.te hz i) m2 hjj (step z hz (hA.j2 hy hz)) (hA.j2 m1 m2)
end

theorem sel_full {p : Int → Prop} : ∀ {z : Nat}, (sel p z).length = z ↔ allI z p
  | 0 => by simp [sel, allI_zero]
  | z + 1 => by
    have ih := sel_full (p := p) (z := z)
    have hl := sel_len p z
    rw [show ((z + 1 : Nat) : Int) = (z : Int) + 1 by omega, allI_succ (by omega), ← ih]
    simp only [sel]
    by_cases h : p z
    · rw [if_pos h]; simp only [List.length_append, List.length_cons, List.length_nil, h, and_true]; omega
    · rw [if_neg h]; simp only [h, and_false, iff_false]; omega
end Go.AL
