/-
  Lemmas that the proofs of the given statements of this seat use. Conditions: none.
-/
import Derived.Test.YtkkgckmgplicjaaM1
import Derived.Test.YtkkgckmgplicjaaK
import GoSem.Claim
import GoSem.ClaimJoined
import Derived.ChangeStays
import Derived.ChangeSlices
import Derived.JoinedOf
import Derived.Handed
import Derived.ProofKit
import Derived.OpenShut
import Derived.ChangeCalls
/-
  The reader of drawn numbers.
-/
namespace Go.AL
open Go.Proofs
set_option linter.unusedSimpArgs false
set_option linter.unusedVariables false
variable {w0 : World} {H : Hp}

/-- A slice of bytes. -/
def Byt (H : Hp) (v : AV) (n : Nat) : Prop := lenA v = some n ∧ ∀ i, i < n → ∃ b : Int, H.at (elt 1 v i) = some (.int .u8 b) ∧ 0 ≤ b ∧ b ≤ 255

theorem stA_second {H : Hp} {r ty : Nat} {a b : AV} {k : IntKind} {n : Int} (hr : H r = some ⟨ty, true, [a, b]⟩) : stA H 1 (.ptr r 1) (.int k n) = some (H.set r ⟨ty, true, [a, .int k n]⟩) := by
  simp [stA, AV.cells?, AV.scal, hr, splice]

theorem byt_set {H : Hp} {r ty n : Nat} {bv : AV} {k : Int} {x : Row} (hr : H r = some ⟨ty, true, [bv, .int .i64 k]⟩) (hb : Byt H bv n) : Byt (H.set r x) bv n := by
  refine ⟨hb.1, fun i hi => ?_⟩
  obtain ⟨b, h1, h2⟩ := hb.2 i hi
  refine ⟨b, ?_, h2⟩
  cases bv with
  | sl q o m =>
    simp only [elt] at h1 ⊢
    have hq : q ≠ r := by
      rintro rfl
      simp only [Hp.at, hr] at h1
      generalize o + i * 1 = j at h1
      match j, h1 with
      | 0, h1 => simp at h1
      | 1, h1 => simp at h1
      | j + 2, h1 => simp at h1
    rw [Hp.at_ne hq]; exact h1
  | _ => simp [elt, Hp.at] at h1

theorem bitA_xor {a b : Int} (ha0 : 0 ≤ a) (ha1 : a < 4611686018427387904) (hb0 : 0 ≤ b) (hb1 : b < 4611686018427387904) : 0 ≤ bitA (fun _ x y => x ^^^ y) .i64 a b := by
  obtain ⟨m, rfl⟩ : ∃ m : Nat, a = m := ⟨a.toNat, by omega⟩
  obtain ⟨n, rfl⟩ : ∃ n : Nat, b = n := ⟨b.toNat, by omega⟩
  have h1 : m ^^^ n < 2 ^ 62 := Nat.xor_lt_two_pow (by omega) (by omega)
  show 0 ≤ IntKind.i64.wrap ((BitVec.ofInt 64 (m : Int) ^^^ BitVec.ofInt 64 (n : Int)).toNat : Nat)
  simp only [BitVec.ofInt_natCast, BitVec.toNat_xor, BitVec.toNat_ofNat]
  rw [Nat.mod_eq_of_lt (by omega), Nat.mod_eq_of_lt (by omega), wrap_id (by omega) (by omega)]
  omega

theorem pick_c {r n : Nat} {bv : AV} {k m : Int} (hr : H r = some ⟨100, true, [bv, .int .i64 k]⟩) (hb : Byt H bv n) (hn : n ≤ 2000) (hk0 : 0 ≤ k) (hk : k < 1099511627776) {Q : AV → Hp → Prop}
    (hq : ∀ v : Int, 0 ≤ v → (1 ≤ m → v < m) → (m < 1 → v = 0) → Q (.int .i64 v) (H.set r ⟨100, true, [bv, .int .i64 (k + 1)]⟩)) :
    ACalls Try.prog w0 117 [.ptr r 0, .int .i64 m] H Q := by
  have hat1 : H.at (.ptr r 1) = some (.int .i64 k) := by simp [Hp.at, hr]
  have hwk : IntKind.i64.wrap (k + 1) = k + 1 := wrap_id (by omega) (by omega)
  have hb := byt_set (x := ⟨100, true, [bv, .int .i64 (k + 1)]⟩) hr hb
  have hg1 : (H.set r ⟨100, true, [bv, .int .i64 (k + 1)]⟩).at (.ptr r 1) = some (.int .i64 (k + 1)) := by rw [at_put]; rfl
  have hg0 : (H.set r ⟨100, true, [bv, .int .i64 (k + 1)]⟩).at (.ptr r 0) = some bv := by rw [at_put]; rfl
  refine in117 ?_
  simp only [c117, ↓WP, WQ, if_true, if_false, eq_self, implies_true, ne_eq, List.nil_append, List.cons_append, ↓reduceIte, Nat.reduceEqDiff, Nat.reduceBEq, reduceCtorEq, Nat.reduceAdd, resA, ret1, qv, lv, ev, boolA, binA, intA, shiftA, cmpA, beqA, lres, hat1, hwk, stA_second hr]
  generalize H.set r ⟨100, true, [bv, .int .i64 (k + 1)]⟩ = G at *
  refine (Classical.em (m < 1)).elim (fun hm => ?_) (fun hm => ?_)
  · simp only [↓WP, WQ, if_true, if_false, eq_self, implies_true, ne_eq, List.nil_append, List.cons_append, ↓reduceIte, Nat.reduceEqDiff, Nat.reduceBEq, reduceCtorEq, Nat.reduceAdd, resA, ret1, qv, lv, ev, boolA, binA, intA, shiftA, cmpA, beqA, lres, hm]
    exact hq 0 (by omega) (by omega) (by omega)
  refine (Classical.em ((n : Int) = 0)).elim (fun hz => ?_) (fun hz => ?_)
  · simp only [↓WP, WQ, if_true, if_false, eq_self, implies_true, ne_eq, List.nil_append, List.cons_append, ↓reduceIte, Nat.reduceEqDiff, Nat.reduceBEq, reduceCtorEq, Nat.reduceAdd, resA, ret1, qv, lv, ev, boolA, binA, intA, shiftA, cmpA, beqA, lres, hm, hg0, hb.1, decide_eq_true hz]
    exact hq 0 (by omega) (by omega) (by omega)
  have hwk2 : IntKind.i64.wrap (k + 1 - 1) = k := by rw [wrap_id (by omega) (by omega)]; omega
  refine (Classical.em (k < (n : Int))).elim (fun hkn => ?_) (fun hkn => ?_)
  · obtain ⟨b, hb1, hb2, hb3⟩ := hb.2 k.toNat (by omega)
    have hwb : IntKind.i64.wrap b = b := wrap_id (by omega) (by omega)
    have hm0 : ¬ m = 0 := by omega
    simp only [↓WP, WQ, if_true, if_false, eq_self, implies_true, ne_eq, List.nil_append, List.cons_append, ↓reduceIte, Nat.reduceEqDiff, Nat.reduceBEq, reduceCtorEq, Nat.reduceAdd, resA, ret1, qv, lv, ev, boolA, binA, intA, shiftA, cmpA, beqA, lres, hm, hg0, hg1, hb.1, decide_eq_false hz, hwk2, hkn, idxA_elt hb.1 hk0 hkn, hb1, hwb, hm0]
    refine hq _ ?_ ?_ ?_
    · rw [Int.tmod_eq_emod_of_nonneg hb2]; exact Int.emod_nonneg _ hm0
    · intro _; rw [Int.tmod_eq_emod_of_nonneg hb2]; exact Int.emod_lt_of_pos _ (by omega)
    · omega
  · simp only [↓WP, WQ, if_true, if_false, eq_self, implies_true, ne_eq, List.nil_append, List.cons_append, ↓reduceIte, Nat.reduceEqDiff, Nat.reduceBEq, reduceCtorEq, Nat.reduceAdd, resA, ret1, qv, lv, ev, boolA, binA, intA, shiftA, cmpA, beqA, lres, hm, hg0, hg1, hb.1, decide_eq_false hz, hwk2, hkn]
    refine DR_in (fun _ => True) rfl ?_
    have hn0 : (0 : Int) < n := by omega
    have e1 : k.tmod n = k % n := Int.tmod_eq_emod_of_nonneg hk0
    have hw7 : IntKind.i64.wrap (k * 7) = k * 7 := wrap_id (by omega) (by omega)
    have hw73 : IntKind.i64.wrap (k * 7 + 3) = k * 7 + 3 := wrap_id (by omega) (by omega)
    have e2 : (k * 7 + 3).tmod n = (k * 7 + 3) % n := Int.tmod_eq_emod_of_nonneg (by omega)
    have e3 : k.tdiv n = k / n := Int.tdiv_eq_ediv_of_nonneg hk0
    have i0 := Int.emod_nonneg k (show (n : Int) ≠ 0 by omega)
    have i1 := Int.emod_lt_of_pos k hn0
    have j0 := Int.emod_nonneg (k * 7 + 3) (show (n : Int) ≠ 0 by omega)
    have j1 := Int.emod_lt_of_pos (k * 7 + 3) hn0
    have d0 : 0 ≤ k / n := Int.ediv_nonneg hk0 (by omega)
    have d1 : k / n ≤ k := Int.ediv_le_self _ hk0
    generalize k % n = i at *
    generalize (k * 7 + 3) % n = j at *
    generalize hd : k / n = d at *
    obtain ⟨b, hb1, hb2, hb3⟩ := hb.2 i.toNat (by omega)
    obtain ⟨c, hc1, hc2, hc3⟩ := hb.2 j.toNat (by omega)
    have w1 : IntKind.i64.wrap b = b := wrap_id (by omega) (by omega)
    have w2 : IntKind.i64.wrap c = c := wrap_id (by omega) (by omega)
    have w3 : IntKind.i64.wrap (b * 131) = b * 131 := wrap_id (by omega) (by omega)
    have w4 : IntKind.i64.wrap (c * 1117) = c * 1117 := wrap_id (by omega) (by omega)
    have w5 : IntKind.i64.wrap (b * 131 + c * 1117) = b * 131 + c * 1117 := wrap_id (by omega) (by omega)
    have w6 : IntKind.i64.wrap (k * 29) = k * 29 := wrap_id (by omega) (by omega)
    have w7 : IntKind.i64.wrap (b * 131 + c * 1117 + k * 29) = b * 131 + c * 1117 + k * 29 := wrap_id (by omega) (by omega)
    have w8 : IntKind.i64.wrap d = d := wrap_id (by omega) (by omega)
    have w9 : IntKind.i64.wrap (d * 53) = d * 53 := wrap_id (by omega) (by omega)
    have w10 : IntKind.i64.wrap (b * 131 + c * 1117 + k * 29 + d * 53) = b * 131 + c * 1117 + k * 29 + d * 53 := wrap_id (by omega) (by omega)
    have hnz : ¬ (n : Int) = 0 := hz
    simp only [↓WP, WQ, if_true, if_false, eq_self, implies_true, ne_eq, List.nil_append, List.cons_append, ↓reduceIte, Nat.reduceEqDiff, Nat.reduceBEq, reduceCtorEq, Nat.reduceAdd, resA, ret1, qv, lv, ev, boolA, binA, intA, shiftA, cmpA, beqA, lres, hg0, hb.1, e1, e2, e3, hnz, hw7, hw73, idxA_elt hb.1 i0 i1, idxA_elt hb.1 j0 j1, hb1, hc1, w1, w2, w3, w4, w5, w6, w7, w8, w9, w10]
    have q1 : (b * 131 + c * 1117 + k * 29 + d * 53).tdiv 64 = (b * 131 + c * 1117 + k * 29 + d * 53) / 64 := Int.tdiv_eq_ediv_of_nonneg (by omega)
    have hx := bitA_xor (a := b * 131 + c * 1117 + k * 29 + d * 53) (b := (b * 131 + c * 1117 + k * 29 + d * 53) / 64) (by omega) (by omega) (by omega) (by omega)
    rw [q1, wrap_id (by omega) (by omega)]
    generalize bitA (fun x x_1 y => x_1 ^^^ y) IntKind.i64 (b * 131 + c * 1117 + k * 29 + d * 53) ((b * 131 + c * 1117 + k * 29 + d * 53) / 64) = y at *
    refine ⟨by omega, by omega, hq _ ?_ ?_ ?_⟩
    · rw [Int.tmod_eq_emod_of_nonneg hx]; exact Int.emod_nonneg _ (by omega)
    · intro _; rw [Int.tmod_eq_emod_of_nonneg hx]; exact Int.emod_lt_of_pos _ (by omega)
    · omega
end Go.AL

/-
  Picks out of lists.
-/
namespace Go.AL
open Go.Proofs
set_option linter.unusedSimpArgs false
set_option linter.unusedVariables false
variable {w0 : World} {H : Hp}

theorem one_c {r n : Nat} {bv v : AV} {k : Int} {l : List Int} (hr : H r = some ⟨100, true, [bv, .int .i64 k]⟩) (hb : Byt H bv n) (hn : n ≤ 2000) (hk0 : 0 ≤ k) (hk : k < 1099511627776) (hl : Ints (H.set r ⟨100, true, [bv, .int .i64 (k + 1)]⟩) v l) (hl' : lenA v = some l.length) (h1 : 1 ≤ l.length) {Q : AV → Hp → Prop}
    (hq : ∀ i : Int, 0 ≤ i → i < l.length → Q (.int .i64 (l.getD i.toNat 0)) (H.set r ⟨100, true, [bv, .int .i64 (k + 1)]⟩)) :
    ACalls Try.prog w0 60 [.ptr r 0, v] H Q := by
  refine in60 ?_
  simp only [c60, ↓WP, WQ, if_true, if_false, eq_self, implies_true, ne_eq, List.nil_append, List.cons_append, ↓reduceIte, Nat.reduceEqDiff, Nat.reduceBEq, reduceCtorEq, Nat.reduceAdd, resA, ret1, qv, lv, ev, boolA, binA, intA, shiftA, cmpA, beqA, lres, hl']
  refine pick_c hr hb hn hk0 hk fun i h2 h3 h4 => ?_
  have hi : i < l.length := h3 (by omega)
  simp only [↓WP, WQ, if_true, if_false, eq_self, implies_true, ne_eq, List.nil_append, List.cons_append, ↓reduceIte, Nat.reduceEqDiff, Nat.reduceBEq, reduceCtorEq, Nat.reduceAdd, resA, ret1, qv, lv, ev, boolA, binA, intA, shiftA, cmpA, beqA, lres, hl.idx h2 hi, hl.at (show i.toNat < l.length by omega)]
  exact hq i h2 hi
end Go.AL

/-
  What the draws build: lists that grow.
-/
namespace Go.AL
open Go.Proofs
set_option linter.unusedSimpArgs false
set_option linter.unusedVariables false
variable {w0 : World} {H : Hp}

theorem ext_new {H H' : Hp} {r : Nat} (h : Ext H H') (hr : H' r = none) : H r = none := by
  by_cases h0 : H r = none
  · exact h0
  · rw [h r h0] at hr; exact absurd hr h0

/-- One more number at the end of a list of one's own. -/
theorem app_one {r r2 : Nat} {l : List Int} {n : Int} {K : AV → Hp → Prop} {d : Dep K} (hr : H r = some ⟨3, true, l.map (AV.int .i64)⟩) (hr2 : H r2 = none) (hl : l.length ≤ 1000000000)
    (h : ∀ r' H', (H' r' = some ⟨3, true, (l ++ [n]).map (AV.int .i64)⟩) → H r' = none → (∀ q, q ≠ r → H q ≠ none → H' q = H q) → K (.sl r' 0 (l ++ [n]).length) H') :
    AppD 3 1 8 (.sl r 0 l.length) (.sl r2 0 1) (H.set r2 ⟨3, true, [.int .i64 n]⟩) K d := by
  have hne : r ≠ r2 := by rintro rfl; rw [hr] at hr2; cases hr2
  refine app_own (n := l.length) (m := 1) (cells := l.map (AV.int .i64)) (cs := [.int .i64 n]) ?_ (by simp) ?_ rfl (by omega) (by simp only [maxLen]; omega) fun r' hr' => ?_
  · simp [Hp.set, hne, hr]
  · simp [Hp.row, Hp.set]
  · have h1 := set_none hr'
    have := h r' (((H.set r2 ⟨3, true, [.int .i64 n]⟩).set r dead).set r' ⟨3, true, l.map (AV.int .i64) ++ [.int .i64 n]⟩) (by simp [Hp.set]) h1.2 ?_
    · simpa using this
    · intro q hq hq0
      have h2 : q ≠ r' := by rintro rfl; exact hq0 h1.2
      have h3 : q ≠ r2 := by rintro rfl; exact hq0 hr2
      simp [Hp.set, h2, h3, hq]

/-- One more item at the end of a list of one's own. -/
theorem app_item {ty sz bytes r r2 n : Nat} {cells cs : List AV} {K : AV → Hp → Prop} {d : Dep K} (hr : H r = some ⟨ty, true, cells⟩) (hc : cells.length = n * sz) (hcs : cs.length = sz) (hr2 : H r2 = none) (hb : (n + 1) * bytes ≤ 140737488355328) (hl : n ≤ 1000000000)
    (h : ∀ r' H', (H' r' = some ⟨ty, true, cells ++ cs⟩) → H r' = none → (∀ q, q ≠ r → H q ≠ none → H' q = H q) → K (.sl r' 0 (n + 1)) H') :
    AppD ty sz bytes (.sl r 0 n) (.sl r2 0 1) (H.set r2 ⟨ty, true, cs⟩) K d := by
  have hne : r ≠ r2 := by rintro rfl; rw [hr] at hr2; cases hr2
  refine app_own (n := n) (m := 1) (cells := cells) (cs := cs) ?_ hc ?_ rfl hb (by simp only [maxLen]; omega) fun r' hr' => ?_
  · simp [Hp.set, hne, hr]
  · simp only [Hp.row, Hp.set_same, Nat.zero_add, Nat.one_mul, hcs, Nat.le_refl, if_true, List.drop_zero]
    rw [List.take_of_length_le (by omega)]
  · have h1 := set_none hr'
    have h2 := h1.2
    have h4 := h r' (((H.set r2 ⟨ty, true, cs⟩).set r dead).set r' ⟨ty, true, cells ++ cs⟩) (by simp [Hp.set]) h2 ?_
    · exact h4
    · intro q hq hq0
      have h2 : q ≠ r' := by rintro rfl; exact hq0 h2
      have h3 : q ≠ r2 := by rintro rfl; exact hq0 hr2
      simp [Hp.set, h2, h3, hq]

/-- The first item of a list that is nil. -/
theorem app_first {ty sz bytes r2 : Nat} {cs : List AV} {K : AV → Hp → Prop} {d : Dep K} (hcs : cs.length = sz) (hr2 : H r2 = none) (hb : bytes ≤ 140737488355328)
    (h : ∀ r' H', (H' r' = some ⟨ty, true, cs⟩) → H r' = none → (∀ q, H q ≠ none → H' q = H q) → K (.sl r' 0 1) H') :
    AppD ty sz bytes .nils (.sl r2 0 1) (H.set r2 ⟨ty, true, cs⟩) K d := by
  have hx : (H.set r2 ⟨ty, true, cs⟩).row sz (.sl r2 0 1) = some cs := by
    simp only [Hp.row, Hp.set_same, Nat.zero_add, Nat.one_mul, hcs, Nat.le_refl, if_true, List.drop_zero]
    rw [List.take_of_length_le (by omega)]
  simp only [AppD, hx, lenA_sl, QB_some]
  refine ⟨by omega, fun _ => ⟨by omega, by simp only [maxLen]; omega, fun r' hr' => ?_⟩⟩
  have h1 := set_none hr'
  exact h r' _ (by simp [Hp.set]) h1.2 fun q hq => by
    have h2 : q ≠ r' := by rintro rfl; exact hq h1.2
    have h3 : q ≠ r2 := by rintro rfl; exact hq hr2
    simp [Hp.set, h2, h3]
end Go.AL

/-
  The order of a chain.
-/
namespace Go.AL
open Go.Proofs
set_option linter.unusedSimpArgs false
set_option linter.unusedVariables false
variable {w0 : World} {H : Hp}

/-- The first z rows of the chain of n elements. -/
def chainS (n : Int) : Nat → List Int
  | 0 => []
  | z + 1 => chainS n z ++ [2 ^ n.toNat - 2 ^ z]
theorem chainS_len (n : Int) : ∀ z, (chainS n z).length = z
  | 0 => rfl
  | z + 1 => by simp [chainS, chainS_len n z]

theorem chain_c {n : Int} (hn0 : 0 ≤ n) (hn : n ≤ 7) {Q : AV → Hp → Prop} (hq : ∀ r H', H r = none → Ext H H' → H' r = some ⟨3, true, (chainS n n.toNat).map (AV.int .i64)⟩ → Q (.sl r 0 n.toNat) H') :
    ACalls Try.prog w0 127 [.int .i64 n] H Q := by
  refine in127 ?_
  simp only [c127, ↓WP, WQ, if_true, if_false, eq_self, implies_true, ne_eq, List.nil_append, List.cons_append, ↓reduceIte, Nat.reduceEqDiff, Nat.reduceBEq, reduceCtorEq, Nat.reduceAdd, resA, ret1, qv, lv, ev, boolA, binA, intA, shiftA, cmpA, beqA, lres, fillA, zerosA]
  refine NewRowd_in fun r0 hr0 => ?_
  simp only [↓WP, WQ, if_true, if_false, eq_self, implies_true, ne_eq, List.nil_append, List.cons_append, ↓reduceIte, Nat.reduceEqDiff, Nat.reduceBEq, reduceCtorEq, Nat.reduceAdd, resA, ret1, qv, lv, ev, boolA, binA, intA, shiftA, cmpA, beqA, lres]
  refine W_for 0 n (fun z e H' => ∃ r, Sl e [(0, .int .i64 n), (3, .sl r 0 z.toNat), (4, .int .i64 z)] ∧ H r = none ∧ Ext H H' ∧ H' r = some ⟨3, true, (chainS n z.toNat).map (AV.int .i64)⟩) hn0 ⟨r0, by simp only [↓WP, WQ, if_true, if_false, eq_self, implies_true, ne_eq, List.nil_append, List.cons_append, ↓reduceIte, Nat.reduceEqDiff, Nat.reduceBEq, reduceCtorEq, Nat.reduceAdd, resA, ret1, qv, lv, ev, boolA, binA, intA, shiftA, cmpA, beqA, lres]; rfl, hr0, Ext.set hr0, by simp [Hp.set, chainS]⟩ ?_
  rintro z e H' hz0 hz1 ⟨r, hs, hr, hE, hrow⟩
  simp only [Sl_cons, Sl_nil, and_true] at hs
  have hw : IntKind.i64.wrap (z + 1) = z + 1 := wrap_id (by omega) (by omega)
  refine (Classical.em (z < n)).elim (fun hz => ?_) (fun hz => ?_) <;> simp only [↓WP, WQ, if_true, if_false, eq_self, implies_true, ne_eq, List.nil_append, List.cons_append, ↓reduceIte, Nat.reduceEqDiff, Nat.reduceBEq, reduceCtorEq, Nat.reduceAdd, resA, ret1, qv, lv, ev, boolA, binA, intA, shiftA, cmpA, beqA, lres, hs, hz]
  · refine power_c _ (by omega) ?_
    simp only [↓WP, WQ, if_true, if_false, eq_self, implies_true, ne_eq, List.nil_append, List.cons_append, ↓reduceIte, Nat.reduceEqDiff, Nat.reduceBEq, reduceCtorEq, Nat.reduceAdd, resA, ret1, qv, lv, ev, boolA, binA, intA, shiftA, cmpA, beqA, lres, hs]
    refine power_c _ (by omega) ?_
    have p1 := pow_le62 (n := n.toNat) (by omega)
    have p2 := pow_le62 (n := z.toNat) (by omega)
    have p3 : (0 : Int) < 2 ^ n.toNat := by exact_mod_cast Nat.pow_pos (by omega)
    have p4 : (0 : Int) < 2 ^ z.toNat := by exact_mod_cast Nat.pow_pos (by omega)
    have hw2 : IntKind.i64.wrap ((2 : Int) ^ n.toNat - 2 ^ z.toNat) = 2 ^ n.toNat - 2 ^ z.toNat := wrap_id (by omega) (by omega)
    simp only [↓WP, WQ, if_true, if_false, eq_self, implies_true, ne_eq, List.nil_append, List.cons_append, ↓reduceIte, Nat.reduceEqDiff, Nat.reduceBEq, reduceCtorEq, Nat.reduceAdd, resA, ret1, qv, lv, ev, boolA, binA, intA, shiftA, cmpA, beqA, lres, hs, hw2, bsl1]
    refine NewRowd_in fun r2 hr2 => ?_
    simp only [↓WP, WQ, if_true, if_false, eq_self, implies_true, ne_eq, List.nil_append, List.cons_append, ↓reduceIte, Nat.reduceEqDiff, Nat.reduceBEq, reduceCtorEq, Nat.reduceAdd, resA, ret1, qv, lv, ev, boolA, binA, intA, shiftA, cmpA, beqA, lres, hs]
    have hlen := chainS_len n z.toNat
    have hz' : (z + 1).toNat = z.toNat + 1 := by omega
    refine (congrArg (fun m => AppD 3 1 8 (.sl r 0 m) _ _ _ _) hlen).mp ?_
    refine app_one hrow hr2 (by omega) fun r' H'' h1 h2 h3 => ?_
    simp only [↓WP, WQ, if_true, if_false, eq_self, implies_true, ne_eq, List.nil_append, List.cons_append, ↓reduceIte, Nat.reduceEqDiff, Nat.reduceBEq, reduceCtorEq, Nat.reduceAdd, resA, ret1, qv, lv, ev, boolA, binA, intA, shiftA, cmpA, beqA, lres, hs, hw, hz]
    refine ⟨r', by rw [hz']; simp [hlen], ext_new hE h2, fun q hq => ?_, by rw [hz', chainS]; exact h1⟩
    rw [h3 q (by rintro rfl; exact hq hr) (by rw [hE q hq]; exact hq), hE q hq]
  · have hze : z = n := by omega
    subst hze
    exact hq r H' hr hE hrow
end Go.AL

/-
  Frames: what a call leaves as it was; lists and tables of one's own; the reader.
-/
namespace Go.AL
open Go.Proofs
set_option linter.unusedSimpArgs false
set_option linter.unusedVariables false
variable {w0 : World} {H : Hp}

/-- All rows but some are as they were. -/
structure FX (X : Nat → Prop) (H H' : Hp) : Prop where
  keep : ∀ q, ¬ X q → H q ≠ none → H' q = H q
  sub : ∀ q, H' q = none → H q = none
def no : Nat → Prop := fun _ => False
def is (r : Nat) : Nat → Prop := fun q => q = r
theorem FX.refl (X : Nat → Prop) (H : Hp) : FX X H H := ⟨fun _ _ _ => rfl, fun _ h => h⟩
theorem FX.trans {X Y : Nat → Prop} {H1 H2 H3 : Hp} (h : FX X H1 H2) (k : FX Y H2 H3) (hy : ∀ q, Y q → X q) : FX X H1 H3 :=
  ⟨fun q hq h0 => by rw [k.keep q (fun e => hq (hy q e)) (by rw [h.keep q hq h0]; exact h0), h.keep q hq h0], fun q h0 => h.sub q (k.sub q h0)⟩
theorem Ext.nn {H H' : Hp} (h : Ext H H') {q : Nat} (hq : H' q = none) : H q = none := ext_new h hq
theorem Ext.fx {X : Nat → Prop} {H H' : Hp} (h : Ext H H') : FX X H H' := ⟨fun q _ h0 => h q h0, fun q h0 => h.nn h0⟩
theorem FX.ext {H H' : Hp} (h : FX no H H') : Ext H H' := fun q h0 => h.keep q (fun e => e) h0
theorem Ext.get {H H' : Hp} (h : Ext H H') {q : Nat} {x : Row} (hq : H q = some x) : H' q = some x := by rw [h q (by rw [hq]; simp), hq]
theorem FX.get {X : Nat → Prop} {H H' : Hp} (h : FX X H H') {q : Nat} {x : Row} (hr : ¬ X q) (hq : H q = some x) : H' q = some x := by rw [h.keep q hr (by rw [hq]; simp), hq]
theorem ne_new {H : Hp} {q r : Nat} {x : Row} (hq : H q = some x) (hr : H r = none) : q ≠ r := by rintro rfl; rw [hq] at hr; cases hr
/-- A change of rows that are new. -/
theorem Ext.step {H0 H H' : Hp} {r : Nat} (h : Ext H0 H) (hr : H0 r = none) (k : ∀ q, q ≠ r → H q ≠ none → H' q = H q) : Ext H0 H' := fun q hq => by
  have h1 : q ≠ r := by rintro rfl; exact hq hr
  rw [k q h1 (by rw [h q hq]; exact hq), h q hq]
theorem some_ne {H : Hp} {q : Nat} {x : Row} (hq : H q = some x) : H q ≠ none := by rw [hq]; simp

/-- Rows that are new since H0, all different, and what they hold; of what there was only X has changed. -/
structure Own (X : Nat → Prop) (H0 H : Hp) (L : List (Nat × Row)) : Prop where
  fx : FX X H0 H
  ex : ∀ q, X q → H0 q ≠ none
  nodup : (L.map Prod.fst).Nodup
  has : ∀ p ∈ L, H p.1 = some p.2
  new : ∀ p ∈ L, H0 p.1 = none
section
variable {X Y : Nat → Prop} {H0 H' : Hp} {L M : List (Nat × Row)} {r r' i : Nat} {x y : Row}
theorem Own.nil (hX : ∀ q, X q → H q ≠ none) : Own X H H [] := ⟨FX.refl _ _, hX, by simp, by simp, by simp⟩
theorem Own.nil0 : Own no H H [] := Own.nil fun _ h => h.elim
theorem Own.get (h : Own X H0 H L) (hi : L[i]? = some (r, x)) : H r = some x := h.has _ (List.mem_of_getElem? hi)
theorem Own.ext' (h : Own no H0 H L) : Ext H0 H := h.fx.ext
theorem Own.fresh (h : Own X H0 H L) (hr : H r = none) : H0 r = none := h.fx.sub r hr
theorem Own.split (hi : L[i]? = some (r, x)) : ∃ A B, L = A ++ (r, x) :: B ∧ ∀ y, L.set i y = A ++ y :: B := by
  obtain ⟨h1, h2⟩ := List.getElem?_eq_some_iff.1 hi
  refine ⟨L.take i, L.drop (i + 1), ?_, fun y => ?_⟩
  · rw [← h2, List.getElem_cons_drop, List.take_append_drop]
  · rw [List.set_eq_take_append_cons_drop, if_pos h1]
theorem Own.chg (h : Own X H0 H L) (hi : L[i]? = some (r, x)) (h1 : H' r' = some y) (hr' : r' = r ∨ H r' = none) (k : ∀ q, q ≠ r → H q ≠ none → H' q = H q) : Own X H0 H' (L.set i (r', y)) := by
  obtain ⟨A, B, hL, hs⟩ := Own.split hi
  have hn0 : H0 r = none := h.new _ (List.mem_of_getElem? hi)
  have hn := h.nodup
  rw [hL] at hn
  simp only [List.map_append, List.map_cons, List.nodup_append, List.nodup_cons, List.mem_map, List.mem_cons] at hn
  obtain ⟨n1, ⟨n2, n3⟩, n4⟩ := hn
  have hne : ∀ p ∈ L, p ∈ A ∨ p ∈ B → p.1 ≠ r := by
    intro p _ hp e
    rcases hp with hp | hp
    · exact n4 p.1 ⟨p, hp, rfl⟩ r (Or.inl rfl) e
    · exact n2 ⟨p, hp, e⟩
  have hne' : ∀ p ∈ L, p ∈ A ∨ p ∈ B → p.1 ≠ r' := by
    intro p hpL hp e
    rcases hr' with rfl | hr'
    · exact hne p hpL hp e
    · have := h.has p hpL
      rw [e, hr'] at this; cases this
  have hA : ∀ p ∈ A, p ∈ L := fun p hp => by rw [hL]; simp [hp]
  have hB : ∀ p ∈ B, p ∈ L := fun p hp => by rw [hL]; simp [hp]
  have hnr' : H0 r' = none := by
    rcases hr' with rfl | hr'
    · exact hn0
    · exact h.fresh hr'
  rw [hs]
  refine ⟨⟨fun q hq h0 => ?_, fun q hq => ?_⟩, h.ex, ?_, fun p hp => ?_, fun p hp => ?_⟩
  · have h2 := h.fx.keep q hq h0
    rw [k q (by rintro rfl; exact h0 hn0) (by rw [h2]; exact h0), h2]
  · by_cases e : q = r
    · rw [e]; exact hn0
    · by_cases h2 : H q = none
      · exact h.fx.sub q h2
      · rw [k q e h2] at hq; exact absurd hq h2
  · simp only [List.map_append, List.map_cons, List.nodup_append, List.nodup_cons, List.mem_map, List.mem_cons]
    refine ⟨n1, ⟨?_, n3⟩, ?_⟩
    · rintro ⟨p, hp, e⟩; exact hne' p (hB p hp) (Or.inr hp) e
    · rintro a ⟨p, hp, rfl⟩ b (rfl | ⟨p', hp', rfl⟩)
      · exact hne' p (hA p hp) (Or.inl hp)
      · exact n4 p.1 ⟨p, hp, rfl⟩ p'.1 (Or.inr ⟨p', hp', rfl⟩)
  · simp only [List.mem_append, List.mem_cons] at hp
    rcases hp with hp | rfl | hp
    · rw [k p.1 (hne p (hA p hp) (Or.inl hp)) (some_ne (h.has p (hA p hp)))]; exact h.has p (hA p hp)
    · exact h1
    · rw [k p.1 (hne p (hB p hp) (Or.inr hp)) (some_ne (h.has p (hB p hp)))]; exact h.has p (hB p hp)
  · simp only [List.mem_append, List.mem_cons] at hp
    rcases hp with hp | rfl | hp
    · exact h.new p (hA p hp)
    · exact hnr'
    · exact h.new p (hB p hp)
theorem Own.upd (h : Own X H0 H L) (hi : L[i]? = some (r, x)) : Own X H0 (H.set r y) (L.set i (r, y)) :=
  h.chg hi (Hp.set_same _ _ _) (Or.inl rfl) fun q hq _ => by simp [Hp.set, hq]
theorem Own.new1 (h : Own X H0 H L) (h1 : H' r = some x) (hr : H r = none) (k : ∀ q, H q ≠ none → H' q = H q) : Own X H0 H' ((r, x) :: L) := by
  refine ⟨⟨fun q hq h0 => ?_, fun q hq => ?_⟩, h.ex, ?_, fun p hp => ?_, fun p hp => ?_⟩
  · have h2 := h.fx.keep q hq h0
    rw [k q (by rw [h2]; exact h0), h2]
  · by_cases h2 : H q = none
    · exact h.fx.sub q h2
    · rw [k q h2] at hq; exact absurd hq h2
  · simp only [List.map_cons, List.nodup_cons, List.mem_map]
    refine ⟨?_, h.nodup⟩
    rintro ⟨p, hp, e⟩
    have := h.has p hp
    rw [e, hr] at this; cases this
  · simp only [List.mem_cons] at hp
    rcases hp with rfl | hp
    · exact h1
    · rw [k p.1 (some_ne (h.has p hp))]; exact h.has p hp
  · simp only [List.mem_cons] at hp
    rcases hp with rfl | hp
    · exact h.fresh hr
    · exact h.new p hp
theorem Own.push (h : Own X H0 H L) (hr : H r = none) : Own X H0 (H.set r x) ((r, x) :: L) :=
  h.new1 (Hp.set_same _ _ _) hr fun q hq => by
    have : q ≠ r := by rintro rfl; exact hq hr
    simp [Hp.set, this]
theorem Own.call (h : Own X H0 H L) (c : Own Y H H' M) (hy : ∀ q, Y q → X q) : Own X H0 H' (M ++ L) := by
  have hk : ∀ p ∈ L, H' p.1 = H p.1 := fun p hp => c.fx.keep p.1 (fun e => h.ex p.1 (hy _ e) (h.new p hp)) (some_ne (h.has p hp))
  refine ⟨h.fx.trans c.fx hy, h.ex, ?_, fun p hp => ?_, fun p hp => ?_⟩
  · simp only [List.map_append, List.nodup_append, List.mem_map]
    refine ⟨c.nodup, h.nodup, ?_⟩
    rintro a ⟨p, hp, rfl⟩ b ⟨p', hp', rfl⟩ e
    have h1 := c.new p hp
    rw [e, h.has p' hp'] at h1; cases h1
  · simp only [List.mem_append] at hp
    rcases hp with hp | hp
    · exact c.has p hp
    · rw [hk p hp]; exact h.has p hp
  · simp only [List.mem_append] at hp
    rcases hp with hp | hp
    · exact h.fresh (c.new p hp)
    · exact h.new p hp
theorem Own.fxs (h : Own X H0 H L) (c : FX Y H H') (hy : ∀ q, Y q → X q) : Own X H0 H' L := by
  refine ⟨h.fx.trans c hy, h.ex, h.nodup, fun p hp => ?_, h.new⟩
  rw [c.keep p.1 (fun e => h.ex p.1 (hy _ e) (h.new p hp)) (some_ne (h.has p hp))]; exact h.has p hp
theorem Own.Ext (h : Own X H0 H L) (c : Ext H H') : Own X H0 H' L := h.fxs (c.fx (X := no)) fun _ e => e.elim
theorem Own.perm (h : Own X H0 H L) (p : L.Perm M) : Own X H0 H M :=
  ⟨h.fx, h.ex, (p.map _).nodup_iff.1 h.nodup, fun q hq => h.has q (p.mem_iff.2 hq), fun q hq => h.new q (p.mem_iff.2 hq)⟩
theorem Own.sub (h : Own X H0 H L) (p : M.Sublist L) : Own X H0 H M :=
  ⟨h.fx, h.ex, h.nodup.sublist (p.map _), fun q hq => h.has q (p.subset hq), fun q hq => h.new q (p.subset hq)⟩
theorem Own.tail {a : Nat × Row} (h : Own X H0 H (a :: L)) : Own X H0 H L := h.sub (List.sublist_cons_self _ _)
theorem Own.rot {a : Nat × Row} (h : Own X H0 H (a :: L)) : Own X H0 H (L ++ [a]) := h.perm (List.perm_append_singleton a L).symm
/-- What is new since a later heap is new since an earlier one. -/
theorem Own.back {H1 : Hp} (h : Own X H1 H L) (k : FX Y H0 H1) (hy : ∀ q, X q → Y q) (hex : ∀ q, Y q → H0 q ≠ none) : Own Y H0 H L :=
  ⟨k.trans h.fx hy, hex, h.nodup, h.has, fun p hp => k.sub _ (h.new p hp)⟩
end

/-- A row of numbers. -/
def LI (l : List Int) : Row := ⟨3, true, l.map (AV.int .i64)⟩
/-- A row of rows: where they lie and what they hold. -/
def TR (t : List (Nat × List Int)) : Row := ⟨30, true, t.map fun p => .sl p.1 0 p.2.length⟩
def Tb (H : Hp) (t : List (Nat × List Int)) : Prop := ∀ p ∈ t, H p.1 = some (LI p.2)

theorem li_ints {H : Hp} {q : Nat} {l : List Int} (h : H q = some (LI l)) : Ints H (.sl q 0 l.length) l := by
  refine ⟨rfl, ?_⟩
  simp only [Hp.row, h, LI, Nat.mul_one, Nat.zero_add, List.length_map, Nat.le_refl, if_true, List.drop_zero]
  rw [List.take_of_length_le (by simp)]

theorem tr_at {H : Hp} {q : Nat} {t : List (Nat × List Int)} (h : H q = some (TR t)) {i : Nat} (hi : i < t.length) : H.at (elt 1 (.sl q 0 t.length) i) = some (.sl (t[i]).1 0 (t[i]).2.length) := by
  simp [elt, Hp.at, h, TR, hi]

theorem tr_rowv {H : Hp} {q : Nat} {t : List (Nat × List Int)} (h : H q = some (TR t)) {i : Nat} (hi : i < t.length) : rowv H (.sl q 0 t.length) i = .sl (t[i]).1 0 (t[i]).2.length := by
  have := tr_at h hi
  simp only [rowv, Int.toNat_natCast, this, Option.getD_some]

theorem tr_mat {H : Hp} {q : Nat} {t : List (Nat × List Int)} (h : H q = some (TR t)) (ht : Tb H t) : Mat H (.sl q 0 t.length) (t.map Prod.snd) := by
  refine ⟨by simp [lenA], fun i hi => ?_⟩
  have hi : i < t.length := by simpa using hi
  refine ⟨_, tr_at h hi, ?_⟩
  have h1 := li_ints (ht _ (List.getElem_mem hi))
  simpa [hi] using h1

theorem Tb.ext {H H' : Hp} {t : List (Nat × List Int)} (h : Tb H t) (k : ∀ p ∈ t, H' p.1 = H p.1) : Tb H' t := fun p hp => by rw [k p hp]; exact h p hp
theorem Tb.Ext {H H' : Hp} {t : List (Nat × List Int)} (h : Tb H t) (k : Ext H H') : Tb H' t := fun p hp => k.get (h p hp)
theorem Tb.add {H : Hp} {t : List (Nat × List Int)} (h : Tb H t) {r : Nat} {l : List Int} (hr : H r = some (LI l)) : Tb H (t ++ [(r, l)]) := fun p hp => by
  simp only [List.mem_append, List.mem_singleton] at hp
  rcases hp with hp | rfl
  · exact h p hp
  · exact hr

/-- The rows of a table. -/
def tl (t : List (Nat × List Int)) : List (Nat × Row) := t.map fun p => (p.1, LI p.2)
theorem tl_tb {X : Nat → Prop} {H0 H : Hp} {L : List (Nat × Row)} {t : List (Nat × List Int)} (h : Own X H0 H L) (hs : ∀ p ∈ tl t, p ∈ L) : Tb H t := fun p hp => h.has (p.1, LI p.2) (hs _ (List.mem_map.2 ⟨p, hp, rfl⟩))
theorem tl_add (t : List (Nat × List Int)) (r : Nat) (l : List Int) : tl (t ++ [(r, l)]) = tl t ++ [(r, LI l)] := by simp [tl]
/-- A list of rows that grows: nil, or a row of one's own. -/
def TVp (v : AV) (t : List (Nat × List Int)) : Prop := (v = .nils ∧ t = []) ∨ ∃ q, v = .sl q 0 t.length
def LT (v : AV) (t : List (Nat × List Int)) : List (Nat × Row) := match v with | .sl q _ _ => [(q, TR t)] | _ => []
theorem TVp.scal {v : AV} {t : List (Nat × List Int)} (h : TVp v t) : v.scal = true := by
  rcases h with ⟨rfl, _⟩ | ⟨q, rfl⟩ <;> rfl
theorem TVp.len {v : AV} {t : List (Nat × List Int)} (h : TVp v t) : lenA v = some t.length := by
  rcases h with ⟨rfl, rfl⟩ | ⟨q, rfl⟩ <;> rfl

section
variable {X : Nat → Prop} {H0 : Hp} {L : List (Nat × Row)}

/-- One more row at the end of a table. -/
theorem Own.app_tab {v : AV} {t : List (Nat × List Int)} {r r2 n : Nat} {l : List Int} {K : AV → Hp → Prop} {d : Dep K} (h : Own X H0 H ((r, LI l) :: (LT v t ++ (L ++ tl t)))) (hv : TVp v t) (hr2 : H r2 = none) (hn : n = l.length) (hl : t.length ≤ 1000000000)
    (hK : ∀ r' H', Own X H0 H' ((r', TR (t ++ [(r, l)])) :: (L ++ tl (t ++ [(r, l)]))) → K (.sl r' 0 (t.length + 1)) H') :
    AppD 30 1 24 v (.sl r2 0 1) (H.set r2 ⟨30, true, [.sl r 0 n]⟩) K d := by
  subst hn
  rcases hv with ⟨rfl, rfl⟩ | ⟨q, rfl⟩
  · refine app_first rfl hr2 (by omega) fun r' H' h1 h2 h3 => hK r' H' ?_
    have h4 := h.new1 (r := r') (x := TR ([] ++ [(r, l)])) (by rw [h1]; rfl) h2 h3
    have h5 : ((r', TR ([] ++ [(r, l)])) :: (r, LI l) :: (LT .nils [] ++ (L ++ tl []))).Perm ((r', TR ([] ++ [(r, l)])) :: (L ++ tl ([] ++ [(r, l)]))) := by
      refine List.Perm.cons _ ?_
      simp only [LT, List.nil_append, tl, List.map_nil, List.append_nil, List.map_cons]
      exact (List.perm_append_singleton _ _).symm
    exact h4.perm h5
  · have hq : H q = some (TR t) := h.get (i := 1) rfl
    refine app_item (n := t.length) (sz := 1) hq (by simp) rfl hr2 (by omega) hl fun r' H' h1 h2 h3 => hK r' H' ?_
    have h4 := h.chg (i := 1) (r' := r') (y := TR (t ++ [(r, l)])) rfl (by rw [h1]; simp [TR]) (Or.inr h2) h3
    have h5 : ((r, LI l) :: (r', TR (t ++ [(r, l)])) :: (L ++ tl t)).Perm ((r', TR (t ++ [(r, l)])) :: (L ++ tl (t ++ [(r, l)]))) := by
      refine (List.Perm.swap _ _ _).trans (List.Perm.cons _ ?_)
      rw [tl_add, ← List.append_assoc]
      exact (List.perm_append_singleton _ _).symm
    exact h4.perm h5

/-- One more number at the end of a list. -/
theorem Own.app_num {i n q : Nat} {l : List Int} {r2 : Nat} {x : Int} {K : AV → Hp → Prop} {d : Dep K} (h : Own X H0 H L) (hi : L[i]? = some (q, LI l)) (hr2 : H r2 = none) (hn : n = l.length) (hl : l.length ≤ 1000000000)
    (hK : ∀ r' H', Own X H0 H' (L.set i (r', LI (l ++ [x]))) → K (.sl r' 0 (n + 1)) H') :
    AppD 3 1 8 (.sl q 0 n) (.sl r2 0 1) (H.set r2 ⟨3, true, [.int .i64 x]⟩) K d := by
  subst hn
  refine app_item (n := l.length) (sz := 1) (h.get hi) (by simp) rfl hr2 (by omega) hl fun r' H' h1 h2 h3 => hK r' H' ?_
  exact h.chg hi (by rw [h1]; simp [LI]) (Or.inr h2) h3
/-- The first number of a list that was nil. -/
theorem Own.app_num0 {r2 : Nat} {x : Int} {K : AV → Hp → Prop} {d : Dep K} (h : Own X H0 H L) (hr2 : H r2 = none)
    (hK : ∀ r' H', Own X H0 H' ((r', LI [x]) :: L) → K (.sl r' 0 1) H') :
    AppD 3 1 8 .nils (.sl r2 0 1) (H.set r2 ⟨3, true, [.int .i64 x]⟩) K d := by
  refine app_first rfl hr2 (by omega) fun r' H' h1 h2 h3 => hK r' H' ?_
  exact h.new1 (by rw [h1]; simp [LI]) h2 h3
/-- Any item of one cell at the end of a list. -/
theorem Own.app_one {i n q ty by_ : Nat} {cells : List AV} {r2 : Nat} {x : AV} {K : AV → Hp → Prop} {d : Dep K} (h : Own X H0 H L) (hi : L[i]? = some (q, ⟨ty, true, cells⟩)) (hr2 : H r2 = none) (hn : n = cells.length) (hl : cells.length ≤ 1000000000) (hb : by_ ≤ 1000)
    (hK : ∀ r' H', Own X H0 H' (L.set i (r', ⟨ty, true, cells ++ [x]⟩)) → K (.sl r' 0 (n + 1)) H') :
    AppD ty 1 by_ (.sl q 0 n) (.sl r2 0 1) (H.set r2 ⟨ty, true, [x]⟩) K d := by
  subst hn
  refine app_item (n := cells.length) (sz := 1) (h.get hi) (by simp) rfl hr2 ?_ hl fun r' H' h1 h2 h3 => hK r' H' ?_
  · have : (cells.length + 1) * by_ ≤ 1000000001 * 1000 := Nat.mul_le_mul (by omega) hb
    omega
  · exact h.chg hi (by rw [h1]) (Or.inr h2) h3
/-- A copy of a list: appended to an empty list of one's own. -/
theorem Own.app_copy {i : Nat} {x : AV} {l : List Int} {r : Nat} {K : AV → Hp → Prop} {d : Dep K} (h : Own X H0 H L) (hi : L[i]? = some (r, LI [])) (hx : Ints H x l) (hl : l.length ≤ 1000000000)
    (hK : ∀ r' H', Own X H0 H' (L.set i (r', LI l)) → K (.sl r' 0 l.length) H') :
    AppD 3 1 8 (.sl r 0 0) x H K d := by
  rw [← Nat.zero_add l.length] at hK
  have hr := h.get hi
  refine app_own (n := 0) (m := l.length) (cells := []) (cs := l.map (AV.int .i64)) hr rfl hx.2 hx.1 (by omega) (by simp only [maxLen]; omega) fun r' hr' => hK r' _ ?_
  refine h.chg hi (by simp [Hp.set, LI]) (Or.inr hr') fun q hq h0 => ?_
  have h2 : q ≠ r' := by rintro rfl; exact h0 hr'
  simp [Hp.set, h2, hq]
end

theorem cells_scal {v : AV} (h : v.scal = true) : v.cells? = some [v] := by
  cases v <;> simp [AV.scal] at h <;> rfl
theorem fillA_a {x y v : AV} (h : v.cells? = some [v]) : fillA 1 [x, y] [(0, v)] = some [v, y] := by
  simp [fillA, h, splice]
theorem fillA_ab {x y a b : AV} (ha : a.cells? = some [a]) (hb : b.cells? = some [b]) : fillA 1 [x, y] [(0, a), (1, b)] = some [a, b] := by
  simp [fillA, ha, hb, splice]
theorem cells_two {a b : AV} (ha : a.scal = true) (hb : b.scal = true) : (AV.agg [a, b]).cells? = some [a, b] := by
  simp [AV.cells?, ha, hb]

/-! ### the reader -/

/-- A reader of bytes that lie in the heap B, of which nothing is changed; at most K numbers have been drawn. -/
structure Rd (B H : Hp) (r : Nat) (K : Int) : Prop where
  ext : Ext B H
  new : B r = none
  row : ∃ bv n k, H r = some ⟨100, true, [bv, .int .i64 k]⟩ ∧ Byt B bv n ∧ n ≤ 2000 ∧ 0 ≤ k ∧ k ≤ K
theorem Rd.mono {B H : Hp} {r : Nat} {K K' : Int} (h : Rd B H r K) (hk : K ≤ K') : Rd B H r K' := by
  obtain ⟨bv, n, k, h1, h2, h3, h4, h5⟩ := h.row
  exact ⟨h.ext, h.new, bv, n, k, h1, h2, h3, h4, by omega⟩
theorem Rd.some {B H : Hp} {r : Nat} {K : Int} (h : Rd B H r K) : H r ≠ none := by
  obtain ⟨bv, n, k, h1, h2⟩ := h.row
  rw [h1]; simp
theorem Rd.Ext {B H H' : Hp} {r : Nat} {K : Int} (h : Rd B H r K) (k : Ext H H') : Rd B H' r K := by
  obtain ⟨bv, n, j, h1, h2⟩ := h.row
  exact ⟨h.ext.trans k, h.new, bv, n, j, k.get h1, h2⟩
/-- What a function that reads has of its own. -/
theorem Rd.own {B H0 H H' : Hp} {X : Nat → Prop} {L M : List (Nat × Row)} {r : Nat} {K K0 : Int} (h : Rd B H r K) (h0 : Rd B H0 r K0) (k : Own X H0 H L) (k' : Own X H0 H' M) (hx : ∀ q, X q → q = r) (hr : H' r = H r) : Rd B H' r K := by
  obtain ⟨bv, n, j, h1, h2⟩ := h.row
  refine ⟨fun q hq => ?_, h.new, bv, n, j, by rw [hr]; exact h1, h2⟩
  have hqr : q ≠ r := by rintro rfl; exact hq h.new
  have h3 := h0.ext q hq
  rw [k'.fx.keep q (fun e => hqr (hx q e)) (by rw [h3]; exact hq), h3]
/-- A change of a row that is new since H0. -/
theorem Rd.step {B H0 H H' : Hp} {r q : Nat} {K K0 : Int} (h : Rd B H r K) (h0 : Rd B H0 r K0) (hq : H0 q = none) (k : ∀ p, p ≠ q → H p ≠ none → H' p = H p) : Rd B H' r K := by
  obtain ⟨bv, n, j, h1, h2⟩ := h.row
  have hqr : r ≠ q := by rintro rfl; exact h0.some hq
  exact ⟨h.ext.step (h0.ext.nn hq) k, h.new, bv, n, j, by rw [k r hqr (by rw [h1]; simp), h1], h2⟩
theorem Rd.ne {B H : Hp} {r q : Nat} {K : Int} (h : Rd B H r K) (hq : H q = none) : q ≠ r := by rintro rfl; exact h.some hq

theorem byt_ext {B H : Hp} {bv : AV} {n : Nat} (h : Byt B bv n) (k : Ext B H) : Byt H bv n :=
  ⟨h.1, fun i hi => let ⟨b, h1, h2⟩ := h.2 i hi; ⟨b, k.at h1, h2⟩⟩

theorem pick_d {B : Hp} {r : Nat} {K m : Int} (hR : Rd B H r K) (hK : K ≤ 1000000000) {Q : AV → Hp → Prop}
    (hq : ∀ (v : Int) H', 0 ≤ v → (1 ≤ m → v < m) → (m < 1 → v = 0) → Rd B H' r (K + 1) → FX (is r) H H' → Q (.int .i64 v) H') :
    ACalls Try.prog w0 117 [.ptr r 0, .int .i64 m] H Q := by
  obtain ⟨bv, n, k, h1, h2, h3, h4, h5⟩ := hR.row
  refine pick_c h1 (byt_ext h2 hR.ext) h3 h4 (by omega) fun v v0 v1 v2 => hq v _ v0 v1 v2 ⟨?_, hR.new, bv, n, k + 1, Hp.set_same _ _ _, h2, h3, by omega, by omega⟩ ⟨fun q hq0 hq1 => ?_, fun q h => ?_⟩
  · intro q hq0
    have : q ≠ r := by rintro rfl; exact hq0 hR.new
    simp only [Hp.set, this, if_false]; exact hR.ext q hq0
  · simp only [is] at hq0; simp only [Hp.set, hq0, if_false]
  · exact (set_none h).2

theorem one_d {B : Hp} {r : Nat} {v : AV} {K : Int} {l : List Int} (hR : Rd B H r K) (hK : K ≤ 1000000000) (hv : ∃ q, v = .sl q 0 l.length ∧ H q = some (LI l) ∧ q ≠ r) (h1 : 1 ≤ l.length) {Q : AV → Hp → Prop}
    (hq : ∀ (i : Int) H', 0 ≤ i → i < l.length → Rd B H' r (K + 1) → FX (is r) H H' → Q (.int .i64 (l.getD i.toNat 0)) H') :
    ACalls Try.prog w0 60 [.ptr r 0, v] H Q := by
  obtain ⟨q, rfl, g1, g2⟩ := hv
  refine in60 ?_
  simp only [c60, ↓WP, WQ, if_true, if_false, eq_self, implies_true, ne_eq, List.nil_append, List.cons_append, ↓reduceIte, Nat.reduceEqDiff, Nat.reduceBEq, reduceCtorEq, Nat.reduceAdd, resA, ret1, qv, lv, ev, boolA, binA, intA, shiftA, cmpA, beqA, lres, lenA_sl]
  refine pick_d hR hK fun i H' i0 i1 i2 hR' hF => ?_
  have hi : i < l.length := i1 (by omega)
  have hl := li_ints (hF.get g2 g1)
  simp only [↓WP, WQ, if_true, if_false, eq_self, implies_true, ne_eq, List.nil_append, List.cons_append, ↓reduceIte, Nat.reduceEqDiff, Nat.reduceBEq, reduceCtorEq, Nat.reduceAdd, resA, ret1, qv, lv, ev, boolA, binA, intA, shiftA, cmpA, beqA, lres, hl.idx i0 hi, hl.at (show i.toNat < l.length by omega)]
  exact hq i H' i0 hi hR' hF

theorem newReader_c {bv : AV} {n : Nat} (hb : Byt H bv n) (hn : n ≤ 4611686018427387904) {Q : AV → Hp → Prop} (hq : ∀ r H', Rd H H' r 0 → Q (.ptr r 0) H') :
    ACalls Try.prog w0 58 [bv] H Q := by
  have fin : ∀ {bv : AV} {n : Nat}, Byt H bv n → n ≤ 2000 → ∀ r, H r = none → Rd H (H.set r ⟨100, true, [bv, .int .i64 0]⟩) r 0 := fun hb hn r hr =>
    ⟨Ext.set hr, hr, _, _, 0, Hp.set_same _ _ _, hb, hn, by omega, by omega⟩
  refine in58 ?_
  simp only [c58, ↓WP, WQ, if_true, if_false, eq_self, implies_true, ne_eq, List.nil_append, List.cons_append, ↓reduceIte, Nat.reduceEqDiff, Nat.reduceBEq, reduceCtorEq, Nat.reduceAdd, resA, ret1, qv, lv, ev, boolA, binA, intA, shiftA, cmpA, beqA, lres, hb.1]
  refine Br_dec (fun h1 => ?_) (fun h1 => ?_) <;> simp only [↓WP, WQ, if_true, if_false, eq_self, implies_true, ne_eq, List.nil_append, List.cons_append, ↓reduceIte, Nat.reduceEqDiff, Nat.reduceBEq, reduceCtorEq, Nat.reduceAdd, resA, ret1, qv, lv, ev, boolA, binA, intA, shiftA, cmpA, beqA, lres]
  · have hb2 := hb.1
    have hb3 := hb.2
    cases bv <;> simp only [lenA, Option.some.injEq, reduceCtorEq] at hb2
    · omega
    · omega
    rename_i r o m
    subst hb2
    have h2 : (0 : Int) ≤ 0 ∧ (0 : Int) ≤ 2000 ∧ (2000 : Int) ≤ (m : Int) := ⟨by omega, by omega, by omega⟩
    have h3 : slA 1 (.sl r o m) none (some (.int .i64 2000)) = some (.sl r o 2000) := by
      simp only [slA, intOfA, lenA_sl, h2, and_self, if_true, Int.reduceEq, if_false, Int.sub_zero, Int.toNat_zero, Nat.zero_mul, Nat.add_zero, Int.reduceToNat]
    simp only [↓WP, WQ, if_true, if_false, eq_self, implies_true, ne_eq, List.nil_append, List.cons_append, ↓reduceIte, Nat.reduceEqDiff, Nat.reduceBEq, reduceCtorEq, Nat.reduceAdd, resA, ret1, qv, lv, ev, boolA, binA, intA, shiftA, cmpA, beqA, lres, h3, Option.map_none, fillA_a (v := .sl r o 2000) rfl, cells_two (a := .sl r o 2000) (b := .int .i64 0) rfl rfl]
    refine NewRowd_in fun r' hr' => ?_
    simp only [↓WP, WQ, if_true, if_false, eq_self, implies_true, ne_eq, List.nil_append, List.cons_append, ↓reduceIte, Nat.reduceEqDiff, Nat.reduceBEq, reduceCtorEq, Nat.reduceAdd, resA, ret1, qv, lv, ev, boolA, binA, intA, shiftA, cmpA, beqA, lres]
    exact hq r' _ (fin (bv := .sl r o 2000) (n := 2000) ⟨rfl, fun i hi => by simpa only [elt] using hb3 i (by omega)⟩ (by omega) r' hr')
  · have hs := lenA_scal hb.1
    have hc := cells_scal hs
    simp only [↓WP, WQ, if_true, if_false, eq_self, implies_true, ne_eq, List.nil_append, List.cons_append, ↓reduceIte, Nat.reduceEqDiff, Nat.reduceBEq, reduceCtorEq, Nat.reduceAdd, resA, ret1, qv, lv, ev, boolA, binA, intA, shiftA, cmpA, beqA, lres, fillA_a hc, cells_two (a := bv) (b := .int .i64 0) hs rfl]
    refine NewRowd_in fun r' hr' => ?_
    simp only [↓WP, WQ, if_true, if_false, eq_self, implies_true, ne_eq, List.nil_append, List.cons_append, ↓reduceIte, Nat.reduceEqDiff, Nat.reduceBEq, reduceCtorEq, Nat.reduceAdd, resA, ret1, qv, lv, ev, boolA, binA, intA, shiftA, cmpA, beqA, lres]
    exact hq r' _ (fin hb (by omega) r' hr')
end Go.AL

/-
  Tables of a function's values; algebras that are new; sums of chains.
-/
namespace Go.AL
open Go.Proofs
set_option linter.unusedSimpArgs false
set_option linter.unusedVariables false
variable {w0 : World} {H : Hp}

/-- The values of a function. -/
def tab (f : Int → Int) (z : Nat) : List Int := (List.range z).map fun i : Nat => f i
theorem tab_len (f : Int → Int) (z : Nat) : (tab f z).length = z := by simp [tab]
theorem tab_succ (f : Int → Int) (z : Nat) : tab f (z + 1) = tab f z ++ [f z] := by simp [tab, List.range_succ]
theorem tab_zero (f : Int → Int) : tab f 0 = [] := rfl
theorem tab_get {f : Int → Int} {z : Nat} {i : Int} (h0 : 0 ≤ i) (h1 : i < z) : (tab f z).getD i.toNat 0 = f i := by
  have h2 : i.toNat < z := by omega
  simp [tab, List.getD, List.getElem?_map, List.getElem?_range h2, Int.toNat_of_nonneg h0]
/-- A table of the values of a function of two numbers. -/
def tab2 (f : Int → Int → Int) (n z : Nat) : List (List Int) := (List.range z).map fun i : Nat => tab (f i) n
theorem tab2_len (f : Int → Int → Int) (n z : Nat) : (tab2 f n z).length = z := by simp [tab2]
theorem tab2_succ (f : Int → Int → Int) (n z : Nat) : tab2 f n (z + 1) = tab2 f n z ++ [tab (f z) n] := by simp [tab2, List.range_succ]
theorem tab2_zero (f : Int → Int → Int) (n : Nat) : tab2 f n 0 = [] := rfl
theorem tab2_get {f : Int → Int → Int} {n z : Nat} {i : Int} (h0 : 0 ≤ i) (h1 : i < z) : (tab2 f n z).getD i.toNat [] = tab (f i) n := by
  have h2 : i.toNat < z := by omega
  simp [tab2, List.getD, List.getElem?_map, List.getElem?_range h2, Int.toNat_of_nonneg h0]
theorem tab2_rows {f : Int → Int → Int} {n z : Nat} : ∀ r ∈ tab2 f n z, r.length = n := by
  intro r hr
  simp only [tab2, List.mem_map] at hr
  obtain ⟨i, _, rfl⟩ := hr
  exact tab_len _ _

/-- An algebra whose memory is new since H0. -/
def NA (X : Nat → Prop) (H0 H : Hp) (v : AV) (l : List Int) (T : List (List Int)) : Prop :=
  ∃ u q t, v = .agg [.sl u 0 l.length, .sl q 0 t.length] ∧ t.map Prod.snd = T ∧ Own X H0 H ((u, LI l) :: (q, TR t) :: tl t)
/-- A square table beside a list. -/
def Sq (n : Nat) (l : List Int) (T : List (List Int)) : Prop := l.length = n ∧ T.length = n ∧ ∀ r ∈ T, r.length = n

/-- What the walks know of it. -/
theorem NA.open {X : Nat → Prop} {H0 H : Hp} {v : AV} {l : List Int} {T : List (List Int)} (h : NA X H0 H v l T) : ∃ uv tv, v = .agg [uv, tv] ∧ Ints H uv l ∧ Mat H tv T := by
  obtain ⟨u, q, t, h1, h2, h3⟩ := h
  refine ⟨_, _, h1, li_ints (h3.get (i := 0) rfl), ?_⟩
  have := tr_mat (h3.get (i := 1) rfl) (tl_tb h3 (fun p hp => by simp [hp]))
  rwa [h2] at this

theorem ne_ty {H : Hp} {x y : Nat} {R1 R2 : Row} (h1 : H x = some R1) (h2 : H y = some R2) (h : R1.ty ≠ R2.ty) : x ≠ y := by
  rintro rfl; rw [h1] at h2; cases h2; exact h rfl

theorem stA_two {H : Hp} {r ty : Nat} {a b x y : AV} (hr : H r = some ⟨ty, true, [a, b]⟩) (hx : x.scal = true) (hy : y.scal = true) : stA H 2 (.ptr r 0) (.agg [x, y]) = some (H.set r ⟨ty, true, [x, y]⟩) := by
  simp [stA, AV.cells?, hx, hy, hr, splice]
theorem stA_snd {H : Hp} {r ty : Nat} {a b y : AV} (hr : H r = some ⟨ty, true, [a, b]⟩) (hy : y.scal = true) : stA H 1 (.ptr r 1) y = some (H.set r ⟨ty, true, [a, y]⟩) := by
  simp [stA, cells_scal hy, hr, splice]
theorem stA_fst {H : Hp} {r ty : Nat} {a b y : AV} (hr : H r = some ⟨ty, true, [a, b]⟩) (hy : y.scal = true) : stA H 1 (.ptr r 0) y = some (H.set r ⟨ty, true, [y, b]⟩) := by
  simp [stA, cells_scal hy, hr, splice]
theorem at_fst {H : Hp} {r ty : Nat} {a b : AV} (hr : H r = some ⟨ty, true, [a, b]⟩) : H.at (.ptr r 0) = some a := by simp [Hp.at, hr]
theorem at_snd {H : Hp} {r ty : Nat} {a b : AV} (hr : H r = some ⟨ty, true, [a, b]⟩) : H.at (.ptr r 1) = some b := by simp [Hp.at, hr]
theorem atN_two {H : Hp} {r ty : Nat} {a b : AV} (hr : H r = some ⟨ty, true, [a, b]⟩) : H.atN (.ptr r 0) 2 = some [a, b] := by simp [Hp.atN, hr]
theorem mm_max (k k' : IntKind) (a b : Int) : mmA true [.int k a, .int k' b] = some (.int k (max a b)) := by
  simp only [mmA, List.foldl, mmStep, if_true, Option.some.injEq, AV.int.injEq, true_and]
  omega
theorem mm_min (k k' : IntKind) (a b : Int) : mmA false [.int k a, .int k' b] = some (.int k (min a b)) := by
  simp only [mmA, List.foldl, mmStep, Bool.false_eq_true, if_false, Option.some.injEq, AV.int.injEq, true_and]
  omega
theorem bsl0 (z : AV) : fillA 1 (zerosA [z] 0) [] = some [] := rfl
theorem bslv {z x : AV} (h : x.cells? = some [x]) : fillA 1 (zerosA [z] 1) [(0, x)] = some [x] := by
  simp [fillA, zerosA, h, splice]
/-- Products that are truncated sums. -/
def sumT (n x y : Int) : Int := max (x + y - n + 1) 0

theorem sumChain_c {n : Int} (hn0 : 1 ≤ n) (hn : n ≤ 7) {Q : AV → Hp → Prop} (hq : ∀ v H', Ext H H' → NA no H H' v (chainS n n.toNat) (tab2 (sumT n) n.toNat n.toNat) → Q v H') :
    ACalls Try.prog w0 148 [.int .i64 n] H Q := by
  refine in148 ?_
  simp only [c148, ↓WP, WQ, if_true, if_false, eq_self, implies_true, ne_eq, List.nil_append, List.cons_append, ↓reduceIte, Nat.reduceEqDiff, Nat.reduceBEq, reduceCtorEq, Nat.reduceAdd, resA, ret1, qv, lv, ev, boolA, binA, intA, shiftA, cmpA, beqA, lres]
  refine NewRowd_in fun b2 hb2 => ?_
  have o := Own.nil0.push (x := ⟨36, true, [.nils, .nils]⟩) hb2
  generalize H.set b2 ⟨36, true, [.nils, .nils]⟩ = H1 at *
  simp only [↓WP, WQ, if_true, if_false, eq_self, implies_true, ne_eq, List.nil_append, List.cons_append, ↓reduceIte, Nat.reduceEqDiff, Nat.reduceBEq, reduceCtorEq, Nat.reduceAdd, resA, ret1, qv, lv, ev, boolA, binA, intA, shiftA, cmpA, beqA, lres]
  refine chain_c (by omega) hn fun u H2 hu hE1 hrow1 => ?_
  simp only [↓WP, WQ, if_true, if_false, eq_self, implies_true, ne_eq, List.nil_append, List.cons_append, ↓reduceIte, Nat.reduceEqDiff, Nat.reduceBEq, reduceCtorEq, Nat.reduceAdd, resA, ret1, qv, lv, ev, boolA, binA, intA, shiftA, cmpA, beqA, lres, fillA_a (v := .sl u 0 n.toNat) rfl]
  refine NewRowd_in fun b hb => ?_
  have hS : (H2.set b ⟨36, true, [.nils, .nils]⟩) b = some ⟨36, true, [.nils, .nils]⟩ := Hp.set_same _ _ _
  simp only [↓WP, WQ, if_true, if_false, eq_self, implies_true, ne_eq, List.nil_append, List.cons_append, ↓reduceIte, Nat.reduceEqDiff, Nat.reduceBEq, reduceCtorEq, Nat.reduceAdd, resA, ret1, qv, lv, ev, boolA, binA, intA, shiftA, cmpA, beqA, lres, stA_two (x := .sl u 0 n.toNat) (y := .nils) hS rfl rfl, Hp.set_set]
  have o1 : Own no H1 H2 [(u, LI (chainS n n.toNat))] := by
    refine ⟨hE1.fx, fun _ h => h.elim, by simp, ?_, ?_⟩ <;> simp [LI, hrow1, hu]
  have o := (o.call o1 (fun _ h => h)).push (x := ⟨36, true, [.sl u 0 n.toNat, .nils]⟩) hb
  generalize (H2.set b ⟨36, true, [.sl u 0 n.toNat, .nils]⟩) = H3 at *
  simp only [List.cons_append, List.nil_append] at o
  refine W_for 0 n (fun x e H' => ∃ tv t, TVp tv t ∧ Sl e [(0, .int .i64 n), (2, .ptr b2 0), (3, .ptr b 0), (4, .int .i64 x)] ∧ t.map Prod.snd = tab2 (sumT n) n.toNat x.toNat ∧
    Own no H H' (LT tv t ++ ([(b, ⟨36, true, [.sl u 0 n.toNat, tv]⟩), (u, LI (chainS n n.toNat)), (b2, ⟨36, true, [.nils, .nils]⟩)] ++ tl t))) (by omega)
    ⟨.nils, [], Or.inl ⟨rfl, rfl⟩, by simp only [↓WP, WQ, if_true, if_false, eq_self, implies_true, ne_eq, List.nil_append, List.cons_append, ↓reduceIte, Nat.reduceEqDiff, Nat.reduceBEq, reduceCtorEq, Nat.reduceAdd, resA, ret1, qv, lv, ev, boolA, binA, intA, shiftA, cmpA, beqA, lres], rfl, o⟩ ?_
  rintro x e G hx0 hx1 ⟨tv, t, hv, hs, ht, o⟩
  simp only [Sl_cons, Sl_nil, and_true] at hs
  have hw : IntKind.i64.wrap (x + 1) = x + 1 := wrap_id (by omega) (by omega)
  have htl : t.length = x.toNat := by rw [← List.length_map (f := Prod.snd), ht, tab2_len]
  refine (Classical.em (x < n)).elim (fun hx => ?_) (fun hx => ?_) <;> simp only [↓WP, WQ, if_true, if_false, eq_self, implies_true, ne_eq, List.nil_append, List.cons_append, ↓reduceIte, Nat.reduceEqDiff, Nat.reduceBEq, reduceCtorEq, Nat.reduceAdd, resA, ret1, qv, lv, ev, boolA, binA, intA, shiftA, cmpA, beqA, lres, hs, hx]
  · simp only [↓WP, WQ, if_true, if_false, eq_self, implies_true, ne_eq, List.nil_append, List.cons_append, ↓reduceIte, Nat.reduceEqDiff, Nat.reduceBEq, reduceCtorEq, Nat.reduceAdd, resA, ret1, qv, lv, ev, boolA, binA, intA, shiftA, cmpA, beqA, lres, bsl0]
    refine NewRowd_in fun r0 hr0 => ?_
    simp only [↓WP, WQ, if_true, if_false, eq_self, implies_true, ne_eq, List.nil_append, List.cons_append, ↓reduceIte, Nat.reduceEqDiff, Nat.reduceBEq, reduceCtorEq, Nat.reduceAdd, resA, ret1, qv, lv, ev, boolA, binA, intA, shiftA, cmpA, beqA, lres, hs]
    have o := o.push (x := LI []) hr0
    refine W_for 0 n (fun y e G => ∃ r, Sl e [(0, .int .i64 n), (2, .ptr b2 0), (3, .ptr b 0), (4, .int .i64 x), (5, .sl r 0 y.toNat), (6, .int .i64 y)] ∧ 
      Own no H G ((r, LI (tab (sumT n x) y.toNat)) :: (LT tv t ++ ([(b, ⟨36, true, [.sl u 0 n.toNat, tv]⟩), (u, LI (chainS n n.toNat)), (b2, ⟨36, true, [.nils, .nils]⟩)] ++ tl t)))) (by omega)
      ⟨r0, by simp only [↓WP, WQ, if_true, if_false, eq_self, implies_true, ne_eq, List.nil_append, List.cons_append, ↓reduceIte, Nat.reduceEqDiff, Nat.reduceBEq, reduceCtorEq, Nat.reduceAdd, resA, ret1, qv, lv, ev, boolA, binA, intA, shiftA, cmpA, beqA, lres, hs]; rfl, o⟩ ?_
    rintro y e G hy0 hy1 ⟨r, hs, o⟩
    simp only [Sl_cons, Sl_nil, and_true] at hs
    have hwy : IntKind.i64.wrap (y + 1) = y + 1 := wrap_id (by omega) (by omega)
    refine (Classical.em (y < n)).elim (fun hy => ?_) (fun hy => ?_) <;> simp only [↓WP, WQ, if_true, if_false, eq_self, implies_true, ne_eq, List.nil_append, List.cons_append, ↓reduceIte, Nat.reduceEqDiff, Nat.reduceBEq, reduceCtorEq, Nat.reduceAdd, resA, ret1, qv, lv, ev, boolA, binA, intA, shiftA, cmpA, beqA, lres, hs, hy]
    · have w1 : IntKind.i64.wrap (x + y) = x + y := wrap_id (by omega) (by omega)
      have w2 : IntKind.i64.wrap (x + y - n) = x + y - n := wrap_id (by omega) (by omega)
      have w3 : IntKind.i64.wrap (x + y - n + 1) = x + y - n + 1 := wrap_id (by omega) (by omega)
      simp only [↓WP, WQ, if_true, if_false, eq_self, implies_true, ne_eq, List.nil_append, List.cons_append, ↓reduceIte, Nat.reduceEqDiff, Nat.reduceBEq, reduceCtorEq, Nat.reduceAdd, resA, ret1, qv, lv, ev, boolA, binA, intA, shiftA, cmpA, beqA, lres, hs, w1, w2, w3, mm_max, bsl1]
      refine NewRowd_in fun r2 hr2 => ?_
      simp only [↓WP, WQ, if_true, if_false, eq_self, implies_true, ne_eq, List.nil_append, List.cons_append, ↓reduceIte, Nat.reduceEqDiff, Nat.reduceBEq, reduceCtorEq, Nat.reduceAdd, resA, ret1, qv, lv, ev, boolA, binA, intA, shiftA, cmpA, beqA, lres, hs]
      refine o.app_num (i := 0) rfl hr2 (by rw [tab_len]) (by rw [tab_len]; omega) fun r' G' o => ?_
      have hy' : (y + 1).toNat = y.toNat + 1 := by omega
      simp only [↓WP, WQ, if_true, if_false, eq_self, implies_true, ne_eq, List.nil_append, List.cons_append, ↓reduceIte, Nat.reduceEqDiff, Nat.reduceBEq, reduceCtorEq, Nat.reduceAdd, resA, ret1, qv, lv, ev, boolA, binA, intA, shiftA, cmpA, beqA, lres, hs, hwy, hy, hy']
      refine ⟨r', rfl, ?_⟩
      rw [tab_succ, Int.toNat_of_nonneg hy0]
      exact o
    · have hye : y = n := by omega
      subst hye
      have hB := o.perm (M := (b, ⟨36, true, [.sl u 0 y.toNat, tv]⟩) :: ((r, LI (tab (sumT y x) y.toNat)) :: (LT tv t ++ ([(u, LI (chainS y y.toNat)), (b2, ⟨36, true, [.nils, .nils]⟩)] ++ tl t)))) (by
        simp only [List.cons_append, List.nil_append]
        exact (List.Perm.cons _ List.perm_middle).trans (List.Perm.swap _ _ _))
      have hBg := hB.get (i := 0) rfl
      simp only [↓WP, WQ, if_true, if_false, eq_self, implies_true, ne_eq, List.nil_append, List.cons_append, ↓reduceIte, Nat.reduceEqDiff, Nat.reduceBEq, reduceCtorEq, Nat.reduceAdd, resA, ret1, qv, lv, ev, boolA, binA, intA, shiftA, cmpA, beqA, lres, hs, at_snd hBg, bslv (z := .nils) (x := .sl r 0 y.toNat) rfl]
      refine NewRowd_in fun r2 hr2 => ?_
      simp only [↓WP, WQ, if_true, if_false, eq_self, implies_true, ne_eq, List.nil_append, List.cons_append, ↓reduceIte, Nat.reduceEqDiff, Nat.reduceBEq, reduceCtorEq, Nat.reduceAdd, resA, ret1, qv, lv, ev, boolA, binA, intA, shiftA, cmpA, beqA, lres, hs]
      refine o.app_tab hv hr2 (by rw [tab_len]) (by omega) fun r' G' o => ?_
      have hBg := o.get (i := 1) rfl
      simp only [↓WP, WQ, if_true, if_false, eq_self, implies_true, ne_eq, List.nil_append, List.cons_append, ↓reduceIte, Nat.reduceEqDiff, Nat.reduceBEq, reduceCtorEq, Nat.reduceAdd, resA, ret1, qv, lv, ev, boolA, binA, intA, shiftA, cmpA, beqA, lres, hs, stA_snd (y := .sl r' 0 (t.length + 1)) hBg rfl, hw, hx]
      have o := o.upd (i := 1) (y := ⟨36, true, [.sl u 0 y.toNat, .sl r' 0 (t.length + 1)]⟩) rfl
      have hx' : (x + 1).toNat = x.toNat + 1 := by omega
      refine ⟨.sl r' 0 (t.length + 1), t ++ [(r, tab (sumT y x) y.toNat)], Or.inr ⟨r', by simp⟩, ?_, o⟩
      rw [hx', tab2_succ, List.map_append, ht, Int.toNat_of_nonneg hx0]; rfl
  · have hxe : x = n := by omega
    subst hxe
    rcases hv with ⟨rfl, rfl⟩ | ⟨q, rfl⟩
    · simp at htl; omega
    simp only [LT, List.cons_append, List.nil_append] at o
    have hBg := o.get (i := 1) rfl
    have hBg2 := o.get (i := 3) rfl
    simp only [↓WP, WQ, if_true, if_false, eq_self, implies_true, ne_eq, List.nil_append, List.cons_append, ↓reduceIte, Nat.reduceEqDiff, Nat.reduceBEq, reduceCtorEq, Nat.reduceAdd, resA, ret1, qv, lv, ev, boolA, binA, intA, shiftA, cmpA, beqA, lres, hs, atN_two hBg, stA_two (x := .sl u 0 x.toNat) (y := .sl q 0 t.length) hBg2 rfl rfl]
    have o := o.upd (i := 3) (y := ⟨36, true, [.sl u 0 x.toNat, .sl q 0 t.length]⟩) rfl
    have hBg2 := o.get (i := 3) rfl
    simp only [↓WP, WQ, if_true, if_false, eq_self, implies_true, ne_eq, List.nil_append, List.cons_append, ↓reduceIte, Nat.reduceEqDiff, Nat.reduceBEq, reduceCtorEq, Nat.reduceAdd, resA, ret1, qv, lv, ev, boolA, binA, intA, shiftA, cmpA, beqA, lres, atN_two hBg2]
    refine hq _ _ o.ext' ⟨u, q, t, by rw [chainS_len], ht, ?_⟩
    have o := o.sub (M := (q, TR t) :: (u, LI (chainS x x.toNat)) :: tl t) (.cons_cons _ (.cons _ (.cons_cons _ (.cons _ (.refl _)))))
    exact o.perm (List.Perm.swap _ _ _)
end Go.AL

/-
  Algebras of meets; copies of tables; pairs; stacks.
-/
namespace Go.AL
open Go.Proofs
set_option linter.unusedSimpArgs false
set_option linter.unusedVariables false
variable {w0 : World} {H : Hp}

theorem meetAlgebra_c {uv : AV} {up : List Int} (h : Ints H uv up) (hr : Rows62 up) (hn1 : 1 ≤ up.length) (hn : up.length ≤ 62) {Q : AV → Hp → Prop} (hq : ∀ v H', Ext H H' → NA no H H' v up (tab2 (meetF up) up.length up.length) → Q v H') :
    ACalls Try.prog w0 167 [uv] H Q := by
  refine in167 ?_
  simp only [c167, ↓WP, WQ, if_true, if_false, eq_self, implies_true, ne_eq, List.nil_append, List.cons_append, ↓reduceIte, Nat.reduceEqDiff, Nat.reduceBEq, reduceCtorEq, Nat.reduceAdd, resA, ret1, qv, lv, ev, boolA, binA, intA, shiftA, cmpA, beqA, lres]
  refine NewRowd_in fun b2 hb2 => ?_
  have o := Own.nil0.push (x := ⟨36, true, [.nils, .nils]⟩) hb2
  generalize H.set b2 ⟨36, true, [.nils, .nils]⟩ = H1 at *
  simp only [↓WP, WQ, if_true, if_false, eq_self, implies_true, ne_eq, List.nil_append, List.cons_append, ↓reduceIte, Nat.reduceEqDiff, Nat.reduceBEq, reduceCtorEq, Nat.reduceAdd, resA, ret1, qv, lv, ev, boolA, binA, intA, shiftA, cmpA, beqA, lres, bsl0]
  refine NewRowd_in fun u0 hu0 => ?_
  simp only [↓WP, WQ, if_true, if_false, eq_self, implies_true, ne_eq, List.nil_append, List.cons_append, ↓reduceIte, Nat.reduceEqDiff, Nat.reduceBEq, reduceCtorEq, Nat.reduceAdd, resA, ret1, qv, lv, ev, boolA, binA, intA, shiftA, cmpA, beqA, lres]
  have o := o.push (x := LI []) hu0
  refine o.app_copy (i := 0) rfl (h.ext o.ext') (by omega) fun u H2 o => ?_
  simp only [↓WP, WQ, if_true, if_false, eq_self, implies_true, ne_eq, List.nil_append, List.cons_append, ↓reduceIte, Nat.reduceEqDiff, Nat.reduceBEq, reduceCtorEq, Nat.reduceAdd, resA, ret1, qv, lv, ev, boolA, binA, intA, shiftA, cmpA, beqA, lres, fillA_a (v := .sl u 0 up.length) rfl]
  refine NewRowd_in fun b hb => ?_
  have hS : (H2.set b ⟨36, true, [.nils, .nils]⟩) b = some ⟨36, true, [.nils, .nils]⟩ := Hp.set_same _ _ _
  simp only [↓WP, WQ, if_true, if_false, eq_self, implies_true, ne_eq, List.nil_append, List.cons_append, ↓reduceIte, Nat.reduceEqDiff, Nat.reduceBEq, reduceCtorEq, Nat.reduceAdd, resA, ret1, qv, lv, ev, boolA, binA, intA, shiftA, cmpA, beqA, lres, stA_two (x := .sl u 0 up.length) (y := .nils) hS rfl rfl, Hp.set_set]
  have o := o.push (x := ⟨36, true, [.sl u 0 up.length, .nils]⟩) hb
  generalize (H2.set b ⟨36, true, [.sl u 0 up.length, .nils]⟩) = H3 at *
  simp only [List.set_cons_zero] at o
  refine W_for 0 up.length (fun x e H' => ∃ tv t, TVp tv t ∧ Sl e [(0, uv), (2, .ptr b2 0), (3, .ptr b 0), (4, .int .i64 x)] ∧ t.map Prod.snd = tab2 (meetF up) up.length x.toNat ∧
    Own no H H' (LT tv t ++ ([(b, ⟨36, true, [.sl u 0 up.length, tv]⟩), (u, LI up), (b2, ⟨36, true, [.nils, .nils]⟩)] ++ tl t))) (by omega)
    ⟨.nils, [], Or.inl ⟨rfl, rfl⟩, by simp only [↓WP, WQ, if_true, if_false, eq_self, implies_true, ne_eq, List.nil_append, List.cons_append, ↓reduceIte, Nat.reduceEqDiff, Nat.reduceBEq, reduceCtorEq, Nat.reduceAdd, resA, ret1, qv, lv, ev, boolA, binA, intA, shiftA, cmpA, beqA, lres], rfl, o⟩ ?_
  rintro x e G hx0 hx1 ⟨tv, t, hv, hs, ht, o⟩
  simp only [Sl_cons, Sl_nil, and_true] at hs
  have hw : IntKind.i64.wrap (x + 1) = x + 1 := wrap_id (by omega) (by omega)
  have htl : t.length = x.toNat := by rw [← List.length_map (f := Prod.snd), ht, tab2_len]
  refine (Classical.em (x < up.length)).elim (fun hx => ?_) (fun hx => ?_) <;> simp only [↓WP, WQ, if_true, if_false, eq_self, implies_true, ne_eq, List.nil_append, List.cons_append, ↓reduceIte, Nat.reduceEqDiff, Nat.reduceBEq, reduceCtorEq, Nat.reduceAdd, resA, ret1, qv, lv, ev, boolA, binA, intA, shiftA, cmpA, beqA, lres, hs, h.len, hx]
  · simp only [↓WP, WQ, if_true, if_false, eq_self, implies_true, ne_eq, List.nil_append, List.cons_append, ↓reduceIte, Nat.reduceEqDiff, Nat.reduceBEq, reduceCtorEq, Nat.reduceAdd, resA, ret1, qv, lv, ev, boolA, binA, intA, shiftA, cmpA, beqA, lres, bsl0]
    refine NewRowd_in fun r0 hr0 => ?_
    simp only [↓WP, WQ, if_true, if_false, eq_self, implies_true, ne_eq, List.nil_append, List.cons_append, ↓reduceIte, Nat.reduceEqDiff, Nat.reduceBEq, reduceCtorEq, Nat.reduceAdd, resA, ret1, qv, lv, ev, boolA, binA, intA, shiftA, cmpA, beqA, lres, hs]
    have o := o.push (x := LI []) hr0
    refine W_for 0 up.length (fun y e G => ∃ r, Sl e [(0, uv), (2, .ptr b2 0), (3, .ptr b 0), (4, .int .i64 x), (5, .sl r 0 y.toNat), (6, .int .i64 y)] ∧ 
      Own no H G ((r, LI (tab (meetF up x) y.toNat)) :: (LT tv t ++ ([(b, ⟨36, true, [.sl u 0 up.length, tv]⟩), (u, LI up), (b2, ⟨36, true, [.nils, .nils]⟩)] ++ tl t)))) (by omega)
      ⟨r0, by simp only [↓WP, WQ, if_true, if_false, eq_self, implies_true, ne_eq, List.nil_append, List.cons_append, ↓reduceIte, Nat.reduceEqDiff, Nat.reduceBEq, reduceCtorEq, Nat.reduceAdd, resA, ret1, qv, lv, ev, boolA, binA, intA, shiftA, cmpA, beqA, lres, hs]; rfl, o⟩ ?_
    rintro y e G hy0 hy1 ⟨r, hs, o⟩
    simp only [Sl_cons, Sl_nil, and_true] at hs
    have hwy : IntKind.i64.wrap (y + 1) = y + 1 := wrap_id (by omega) (by omega)
    refine (Classical.em (y < up.length)).elim (fun hy => ?_) (fun hy => ?_) <;> simp only [↓WP, WQ, if_true, if_false, eq_self, implies_true, ne_eq, List.nil_append, List.cons_append, ↓reduceIte, Nat.reduceEqDiff, Nat.reduceBEq, reduceCtorEq, Nat.reduceAdd, resA, ret1, qv, lv, ev, boolA, binA, intA, shiftA, cmpA, beqA, lres, hs, h.len, hy]
    · refine smeet_c (h.ext o.ext') hr hn hx0 hx hy0 hy ?_
      simp only [↓WP, WQ, if_true, if_false, eq_self, implies_true, ne_eq, List.nil_append, List.cons_append, ↓reduceIte, Nat.reduceEqDiff, Nat.reduceBEq, reduceCtorEq, Nat.reduceAdd, resA, ret1, qv, lv, ev, boolA, binA, intA, shiftA, cmpA, beqA, lres, hs, bsl1]
      refine NewRowd_in fun r2 hr2 => ?_
      simp only [↓WP, WQ, if_true, if_false, eq_self, implies_true, ne_eq, List.nil_append, List.cons_append, ↓reduceIte, Nat.reduceEqDiff, Nat.reduceBEq, reduceCtorEq, Nat.reduceAdd, resA, ret1, qv, lv, ev, boolA, binA, intA, shiftA, cmpA, beqA, lres, hs]
      refine o.app_num (i := 0) rfl hr2 (by rw [tab_len]) (by rw [tab_len]; omega) fun r' G' o => ?_
      have hy' : (y + 1).toNat = y.toNat + 1 := by omega
      simp only [↓WP, WQ, if_true, if_false, eq_self, implies_true, ne_eq, List.nil_append, List.cons_append, ↓reduceIte, Nat.reduceEqDiff, Nat.reduceBEq, reduceCtorEq, Nat.reduceAdd, resA, ret1, qv, lv, ev, boolA, binA, intA, shiftA, cmpA, beqA, lres, hs, hwy, hy, hy']
      refine ⟨r', rfl, ?_⟩
      rw [tab_succ, Int.toNat_of_nonneg hy0]
      exact o
    · have hye : y.toNat = up.length := by omega
      have hB := o.perm (M := (b, ⟨36, true, [.sl u 0 up.length, tv]⟩) :: ((r, LI (tab (meetF up x) y.toNat)) :: (LT tv t ++ ([(u, LI up), (b2, ⟨36, true, [.nils, .nils]⟩)] ++ tl t)))) (by
        simp only [List.cons_append, List.nil_append]
        exact (List.Perm.cons _ List.perm_middle).trans (List.Perm.swap _ _ _))
      have hBg := hB.get (i := 0) rfl
      simp only [↓WP, WQ, if_true, if_false, eq_self, implies_true, ne_eq, List.nil_append, List.cons_append, ↓reduceIte, Nat.reduceEqDiff, Nat.reduceBEq, reduceCtorEq, Nat.reduceAdd, resA, ret1, qv, lv, ev, boolA, binA, intA, shiftA, cmpA, beqA, lres, hs, at_snd hBg, bslv (z := .nils) (x := .sl r 0 y.toNat) rfl]
      refine NewRowd_in fun r2 hr2 => ?_
      simp only [↓WP, WQ, if_true, if_false, eq_self, implies_true, ne_eq, List.nil_append, List.cons_append, ↓reduceIte, Nat.reduceEqDiff, Nat.reduceBEq, reduceCtorEq, Nat.reduceAdd, resA, ret1, qv, lv, ev, boolA, binA, intA, shiftA, cmpA, beqA, lres, hs]
      refine o.app_tab hv hr2 (by rw [tab_len]) (by omega) fun r' G' o => ?_
      have hBg := o.get (i := 1) rfl
      simp only [↓WP, WQ, if_true, if_false, eq_self, implies_true, ne_eq, List.nil_append, List.cons_append, ↓reduceIte, Nat.reduceEqDiff, Nat.reduceBEq, reduceCtorEq, Nat.reduceAdd, resA, ret1, qv, lv, ev, boolA, binA, intA, shiftA, cmpA, beqA, lres, hs, stA_snd (y := .sl r' 0 (t.length + 1)) hBg rfl, hw, hx]
      have o := o.upd (i := 1) (y := ⟨36, true, [.sl u 0 up.length, .sl r' 0 (t.length + 1)]⟩) rfl
      have hx' : (x + 1).toNat = x.toNat + 1 := by omega
      refine ⟨.sl r' 0 (t.length + 1), t ++ [(r, tab (meetF up x) y.toNat)], Or.inr ⟨r', by simp⟩, ?_, o⟩
      rw [hx', tab2_succ, List.map_append, ht, Int.toNat_of_nonneg hx0, hye]; rfl
  · have hxe : x.toNat = up.length := by omega
    rcases hv with ⟨rfl, rfl⟩ | ⟨q, rfl⟩
    · simp at htl; omega
    simp only [LT, List.cons_append, List.nil_append] at o
    have hBg := o.get (i := 1) rfl
    have hBg2 := o.get (i := 3) rfl
    simp only [↓WP, WQ, if_true, if_false, eq_self, implies_true, ne_eq, List.nil_append, List.cons_append, ↓reduceIte, Nat.reduceEqDiff, Nat.reduceBEq, reduceCtorEq, Nat.reduceAdd, resA, ret1, qv, lv, ev, boolA, binA, intA, shiftA, cmpA, beqA, lres, hs, atN_two hBg, stA_two (x := .sl u 0 up.length) (y := .sl q 0 t.length) hBg2 rfl rfl]
    have o := o.upd (i := 3) (y := ⟨36, true, [.sl u 0 up.length, .sl q 0 t.length]⟩) rfl
    have hBg2 := o.get (i := 3) rfl
    simp only [↓WP, WQ, if_true, if_false, eq_self, implies_true, ne_eq, List.nil_append, List.cons_append, ↓reduceIte, Nat.reduceEqDiff, Nat.reduceBEq, reduceCtorEq, Nat.reduceAdd, resA, ret1, qv, lv, ev, boolA, binA, intA, shiftA, cmpA, beqA, lres, atN_two hBg2]
    refine hq _ _ o.ext' ⟨u, q, t, rfl, by rw [ht, hxe], ?_⟩
    have o := o.sub (M := (q, TR t) :: (u, LI up) :: tl t) (.cons_cons _ (.cons _ (.cons_cons _ (.cons _ (.refl _)))))
    exact o.perm (List.Perm.swap _ _ _)

theorem copyTable_c {tv : AV} {T : List (List Int)} (hm : Mat H tv T) (hT : T.length ≤ 1000000000) (hTr : ∀ x : Int, 0 ≤ x → x < T.length → (T.getD x.toNat []).length ≤ 1000000000) {Q : AV → Hp → Prop}
    (hq : ∀ q t H', t.map Prod.snd = T → Own no H H' ((q, TR t) :: tl t) → Q (.sl q 0 T.length) H') :
    ACalls Try.prog w0 159 [tv] H Q := by
  refine in159 ?_
  simp only [c159, ↓WP, WQ, if_true, if_false, eq_self, implies_true, ne_eq, List.nil_append, List.cons_append, ↓reduceIte, Nat.reduceEqDiff, Nat.reduceBEq, reduceCtorEq, Nat.reduceAdd, resA, ret1, qv, lv, ev, boolA, binA, intA, shiftA, cmpA, beqA, lres, bsl0]
  refine NewRowd_in fun q0 hq0 => ?_
  simp only [↓WP, WQ, if_true, if_false, eq_self, implies_true, ne_eq, List.nil_append, List.cons_append, ↓reduceIte, Nat.reduceEqDiff, Nat.reduceBEq, reduceCtorEq, Nat.reduceAdd, resA, ret1, qv, lv, ev, boolA, binA, intA, shiftA, cmpA, beqA, lres]
  have o := Own.nil0.push (x := TR []) hq0
  refine W_for 0 T.length (fun x e H' => ∃ q t, Sl e [(0, tv), (3, .sl q 0 x.toNat), (4, .int .i64 x)] ∧ t.length = x.toNat ∧ t.map Prod.snd = T.take x.toNat ∧ Own no H H' ((q, TR t) :: tl t)) (by omega) ⟨q0, [], by simp only [↓WP, WQ, if_true, if_false, eq_self, implies_true, ne_eq, List.nil_append, List.cons_append, ↓reduceIte, Nat.reduceEqDiff, Nat.reduceBEq, reduceCtorEq, Nat.reduceAdd, resA, ret1, qv, lv, ev, boolA, binA, intA, shiftA, cmpA, beqA, lres]; rfl, rfl, rfl, o⟩ ?_
  rintro x e G hx0 hx1 ⟨q, t, hs, hlen, ht, o⟩
  simp only [Sl_cons, Sl_nil, and_true] at hs
  have hw : IntKind.i64.wrap (x + 1) = x + 1 := wrap_id (by omega) (by omega)
  refine (Classical.em (x < T.length)).elim (fun hx => ?_) (fun hx => ?_) <;> simp only [↓WP, WQ, if_true, if_false, eq_self, implies_true, ne_eq, List.nil_append, List.cons_append, ↓reduceIte, Nat.reduceEqDiff, Nat.reduceBEq, reduceCtorEq, Nat.reduceAdd, resA, ret1, qv, lv, ev, boolA, binA, intA, shiftA, cmpA, beqA, lres, hs, hm.len, hx]
  · simp only [↓WP, WQ, if_true, if_false, eq_self, implies_true, ne_eq, List.nil_append, List.cons_append, ↓reduceIte, Nat.reduceEqDiff, Nat.reduceBEq, reduceCtorEq, Nat.reduceAdd, resA, ret1, qv, lv, ev, boolA, binA, intA, shiftA, cmpA, beqA, lres, bsl0]
    refine NewRowd_in fun r0 hr0 => ?_
    have o := o.push (x := LI []) hr0
    have hmG := hm.ext o.ext'
    have hI : Ints (Hp.set G r0 (LI [])) (rowv (Hp.set G r0 (LI [])) tv x) (T.getD x.toNat []) := hmG.row hx0 hx
    have hat := hmG.at hx0 hx
    have hix := hmG.idx (k := .i64) hx0 hx
    simp only [LI, List.map_nil] at *
    simp only [↓WP, WQ, if_true, if_false, eq_self, implies_true, ne_eq, List.nil_append, List.cons_append, ↓reduceIte, Nat.reduceEqDiff, Nat.reduceBEq, reduceCtorEq, Nat.reduceAdd, resA, ret1, qv, lv, ev, boolA, binA, intA, shiftA, cmpA, beqA, lres, hs, hix, hat]
    refine o.app_copy (i := 0) rfl hI (hTr x hx0 hx) fun r G' o => ?_
    simp only [↓WP, WQ, if_true, if_false, eq_self, implies_true, ne_eq, List.nil_append, List.cons_append, ↓reduceIte, Nat.reduceEqDiff, Nat.reduceBEq, reduceCtorEq, Nat.reduceAdd, resA, ret1, qv, lv, ev, boolA, binA, intA, shiftA, cmpA, beqA, lres, bslv (z := .nils) (x := .sl r 0 (T.getD x.toNat []).length) rfl]
    refine NewRowd_in fun r2 hr2 => ?_
    simp only [↓WP, WQ, if_true, if_false, eq_self, implies_true, ne_eq, List.nil_append, List.cons_append, ↓reduceIte, Nat.reduceEqDiff, Nat.reduceBEq, reduceCtorEq, Nat.reduceAdd, resA, ret1, qv, lv, ev, boolA, binA, intA, shiftA, cmpA, beqA, lres, hs]
    have o' : Own no H G' ((r, LI (T.getD x.toNat [])) :: (LT (.sl q 0 x.toNat) t ++ ([] ++ tl t))) := o
    rw [← hlen] at o'
    have hx' : (x + 1).toNat = x.toNat + 1 := by omega
    rw [← hlen]
    refine o'.app_tab (Or.inr ⟨q, rfl⟩) hr2 rfl (by omega) fun r' G'' o => ?_
    simp only [↓WP, WQ, if_true, if_false, eq_self, implies_true, ne_eq, List.nil_append, List.cons_append, ↓reduceIte, Nat.reduceEqDiff, Nat.reduceBEq, reduceCtorEq, Nat.reduceAdd, resA, ret1, qv, lv, ev, boolA, binA, intA, shiftA, cmpA, beqA, lres, hs, hw, hx]
    rw [hlen] at o
    refine ⟨r', t ++ [(r, T.getD x.toNat [])], by rw [hx', hlen], by rw [hx']; simp [hlen], ?_, o⟩
    rw [List.map_append, ht, hx', List.take_add_one]
    have h2 : x.toNat < T.length := by omega
    simp [h2]
  · have hxe : x.toNat = T.length := by omega
    rw [hxe]
    exact hq q t G (by rw [ht, hxe, List.take_length]) o

/-- The sum of two to each of the numbers below z that fulfil p. -/
noncomputable def sumP (p : Int → Prop) : Nat → Int
  | 0 => 0
  | z + 1 => open Classical in if p z then sumP p z + 2 ^ z else sumP p z
theorem sumP_yes {p : Int → Prop} {z : Int} (h0 : 0 ≤ z) (h : p z) : sumP p (z + 1).toNat = sumP p z.toNat + 2 ^ z.toNat := by
  rw [show (z + 1).toNat = z.toNat + 1 by omega, sumP, Int.toNat_of_nonneg h0, if_pos h]
theorem sumP_no {p : Int → Prop} {z : Int} (h0 : 0 ≤ z) (h : ¬ p z) : sumP p (z + 1).toNat = sumP p z.toNat := by
  rw [show (z + 1).toNat = z.toNat + 1 by omega, sumP, Int.toNat_of_nonneg h0, if_neg h]
theorem sumP_rng (p : Int → Prop) : ∀ z : Nat, 0 ≤ sumP p z ∧ sumP p z ≤ 2 ^ z - 1
  | 0 => by simp [sumP]
  | z + 1 => by
    have h := sumP_rng p z
    have h2 : (0 : Int) < 2 ^ z := by exact_mod_cast Nat.pow_pos (by omega)
    simp only [sumP, Int.pow_succ]
    split <;> omega
theorem sumP_rng62 (p : Int → Prop) {z : Nat} (hz : z ≤ 61) : 0 ≤ sumP p z ∧ sumP p z ≤ 2305843009213693951 ∧ sumP p z + 2 ^ z ≤ 4611686018427387903 := by
  have h := sumP_rng p z
  have h2 : (2 : Int) ^ z ≤ 2 ^ 61 := by exact_mod_cast Nat.pow_le_pow_right (by omega) hz
  omega

/-- The order of pairs. -/
def crossP (a b : List Int) (p q : Int) : Prop := bl a (p / b.length) (q / b.length) ∧ bl b (p % b.length) (q % b.length)
noncomputable def crossF (a b : List Int) : List Int := tab (fun p => sumP (crossP a b p) (a.length * b.length)) (a.length * b.length)

theorem cross_c {av bv : AV} {a b : List Int} (h : Ints H av a) (g : Ints H bv b) (ha : Rows62 a) (hb : Rows62 b) (hn1 : 1 ≤ a.length) (hm1 : 1 ≤ b.length) (hn : a.length ≤ 62) (hm : b.length ≤ 62) (hnm : a.length * b.length ≤ 61) {Q : AV → Hp → Prop}
    (hq : ∀ r H', Own no H H' [(r, LI (crossF a b))] → Q (.sl r 0 (a.length * b.length)) H') :
    ACalls Try.prog w0 168 [av, bv] H Q := by
  generalize hN : a.length * b.length = N at hnm
  have hNi : (a.length : Int) * b.length = N := by rw [← hN]; simp
  have hwN : IntKind.i64.wrap ((a.length : Int) * b.length) = N := by rw [hNi]; exact wrap_id (by omega) (by omega)
  refine in168 ?_
  simp only [c168, ↓WP, WQ, if_true, if_false, eq_self, implies_true, ne_eq, List.nil_append, List.cons_append, ↓reduceIte, Nat.reduceEqDiff, Nat.reduceBEq, reduceCtorEq, Nat.reduceAdd, resA, ret1, qv, lv, ev, boolA, binA, intA, shiftA, cmpA, beqA, lres, bsl0]
  refine NewRowd_in fun r0 hr0 => ?_
  have o := Own.nil0.push (x := LI []) hr0
  simp only [↓WP, WQ, if_true, if_false, eq_self, implies_true, ne_eq, List.nil_append, List.cons_append, ↓reduceIte, Nat.reduceEqDiff, Nat.reduceBEq, reduceCtorEq, Nat.reduceAdd, resA, ret1, qv, lv, ev, boolA, binA, intA, shiftA, cmpA, beqA, lres, g.len]
  refine W_for 0 N (fun p e H' => ∃ r, Sl e [(0, av), (1, bv), (5, .sl r 0 p.toNat), (6, .int .i64 b.length), (7, .int .i64 p)] ∧ Own no H H' [(r, LI (tab (fun p => sumP (crossP a b p) N) p.toNat))]) (by omega) ⟨r0, by simp only [↓WP, WQ, if_true, if_false, eq_self, implies_true, ne_eq, List.nil_append, List.cons_append, ↓reduceIte, Nat.reduceEqDiff, Nat.reduceBEq, reduceCtorEq, Nat.reduceAdd, resA, ret1, qv, lv, ev, boolA, binA, intA, shiftA, cmpA, beqA, lres]; rfl, o⟩ ?_
  rintro p e G hp0 hp1 ⟨r, hs, o⟩
  simp only [Sl_cons, Sl_nil, and_true] at hs
  have hw : IntKind.i64.wrap (p + 1) = p + 1 := wrap_id (by omega) (by omega)
  have hb0 : ¬ (b.length : Int) = 0 := by omega
  refine (Classical.em (p < N)).elim (fun hp => ?_) (fun hp => ?_) <;> simp only [↓WP, WQ, if_true, if_false, eq_self, implies_true, ne_eq, List.nil_append, List.cons_append, ↓reduceIte, Nat.reduceEqDiff, Nat.reduceBEq, reduceCtorEq, Nat.reduceAdd, resA, ret1, qv, lv, ev, boolA, binA, intA, shiftA, cmpA, beqA, lres, hs, h.len, hwN, hp]
  · refine W_for 0 N (fun q e G' => G' = G ∧ Sl e [(0, av), (1, bv), (5, .sl r 0 p.toNat), (6, .int .i64 b.length), (7, .int .i64 p), (8, .int .i64 (sumP (crossP a b p) q.toNat)), (9, .int .i64 q)]) (by omega) ⟨rfl, by simp only [↓WP, WQ, if_true, if_false, eq_self, implies_true, ne_eq, List.nil_append, List.cons_append, ↓reduceIte, Nat.reduceEqDiff, Nat.reduceBEq, reduceCtorEq, Nat.reduceAdd, resA, ret1, qv, lv, ev, boolA, binA, intA, shiftA, cmpA, beqA, lres, hs, sumP, Int.toNat_zero]⟩ ?_
    rintro q e G' hq0 hq1 ⟨rfl, hs⟩
    simp only [Sl_cons, Sl_nil, and_true] at hs
    have hwq : IntKind.i64.wrap (q + 1) = q + 1 := wrap_id (by omega) (by omega)
    refine (Classical.em (q < N)).elim (fun hq' => ?_) (fun hq' => ?_) <;> simp only [↓WP, WQ, if_true, if_false, eq_self, implies_true, ne_eq, List.nil_append, List.cons_append, ↓reduceIte, Nat.reduceEqDiff, Nat.reduceBEq, reduceCtorEq, Nat.reduceAdd, resA, ret1, qv, lv, ev, boolA, binA, intA, shiftA, cmpA, beqA, lres, hs, h.len, hwN, hq']
    · refine DR_in (fun _ => True) rfl ?_
      have e1 : p.tdiv b.length = p / b.length := Int.tdiv_eq_ediv_of_nonneg hp0
      have e2 : q.tdiv b.length = q / b.length := Int.tdiv_eq_ediv_of_nonneg hq0
      have e3 : p.tmod b.length = p % b.length := Int.tmod_eq_emod_of_nonneg hp0
      have e4 : q.tmod b.length = q % b.length := Int.tmod_eq_emod_of_nonneg hq0
      have i0 : 0 ≤ p / b.length := Int.ediv_nonneg hp0 (by omega)
      have i1 : p / b.length < a.length := Int.ediv_lt_of_lt_mul (by omega) (by rw [hNi]; exact hp)
      have j0 : 0 ≤ q / b.length := Int.ediv_nonneg hq0 (by omega)
      have j1 : q / b.length < a.length := Int.ediv_lt_of_lt_mul (by omega) (by rw [hNi]; exact hq')
      have k0 := Int.emod_nonneg p hb0
      have k1 := Int.emod_lt_of_pos p (show (0 : Int) < b.length by omega)
      have l0 := Int.emod_nonneg q hb0
      have l1 := Int.emod_lt_of_pos q (show (0 : Int) < b.length by omega)
      have hE := o.ext'
      have w1 : IntKind.i64.wrap (p / b.length) = p / b.length := wrap_id (by omega) (by omega)
      have w2 : IntKind.i64.wrap (q / b.length) = q / b.length := wrap_id (by omega) (by omega)
      have hP : ∀ c : Prop, (crossP a b p q ↔ c) → crossP a b p q = c := fun c hc => propext hc
      have s0 := sumP_rng62 (crossP a b p) (z := q.toNat) (by omega)
      have hwS : IntKind.i64.wrap (sumP (crossP a b p) q.toNat + 2 ^ q.toNat) = sumP (crossP a b p) q.toNat + 2 ^ q.toNat := by
        have : (0 : Int) < 2 ^ q.toNat := by exact_mod_cast Nat.pow_pos (by omega)
        exact wrap_id (by omega) (by omega)
      simp only [↓WP, WQ, if_true, if_false, eq_self, implies_true, ne_eq, List.nil_append, List.cons_append, ↓reduceIte, Nat.reduceEqDiff, Nat.reduceBEq, reduceCtorEq, Nat.reduceAdd, resA, ret1, qv, lv, ev, boolA, binA, intA, shiftA, cmpA, beqA, lres, hs, e1, e2, hb0, w1, w2]
      refine sbelow_c (h.ext hE) ha i0 i1 j0 (by omega) (fun c1 => ?_) (fun c1 => ?_)
      · simp only [↓WP, WQ, if_true, if_false, eq_self, implies_true, ne_eq, List.nil_append, List.cons_append, ↓reduceIte, Nat.reduceEqDiff, Nat.reduceBEq, reduceCtorEq, Nat.reduceAdd, resA, ret1, qv, lv, ev, boolA, binA, intA, shiftA, cmpA, beqA, lres, hs, e3, e4, hb0]
        refine sbelow_c (g.ext hE) hb k0 k1 l0 (by omega) (fun c2 => ?_) (fun c2 => ?_)
        · simp only [↓WP, WQ, if_true, if_false, eq_self, implies_true, ne_eq, List.nil_append, List.cons_append, ↓reduceIte, Nat.reduceEqDiff, Nat.reduceBEq, reduceCtorEq, Nat.reduceAdd, resA, ret1, qv, lv, ev, boolA, binA, intA, shiftA, cmpA, beqA, lres, hs]
          refine power_c _ (by omega) ?_
          simp only [↓WP, WQ, if_true, if_false, eq_self, implies_true, ne_eq, List.nil_append, List.cons_append, ↓reduceIte, Nat.reduceEqDiff, Nat.reduceBEq, reduceCtorEq, Nat.reduceAdd, resA, ret1, qv, lv, ev, boolA, binA, intA, shiftA, cmpA, beqA, lres, hs, hwS, hwq, hq']
          rw [sumP_yes hq0 ⟨c1, c2⟩]
        · simp only [↓WP, WQ, if_true, if_false, eq_self, implies_true, ne_eq, List.nil_append, List.cons_append, ↓reduceIte, Nat.reduceEqDiff, Nat.reduceBEq, reduceCtorEq, Nat.reduceAdd, resA, ret1, qv, lv, ev, boolA, binA, intA, shiftA, cmpA, beqA, lres, hs, hwq, hq']
          rw [sumP_no hq0 (fun c => c2 c.2)]
      · simp only [↓WP, WQ, if_true, if_false, eq_self, implies_true, ne_eq, List.nil_append, List.cons_append, ↓reduceIte, Nat.reduceEqDiff, Nat.reduceBEq, reduceCtorEq, Nat.reduceAdd, resA, ret1, qv, lv, ev, boolA, binA, intA, shiftA, cmpA, beqA, lres, hs, hwq, hq']
        rw [sumP_no hq0 (fun c => c1 c.1)]
    · have hqe : q.toNat = N := by omega
      simp only [↓WP, WQ, if_true, if_false, eq_self, implies_true, ne_eq, List.nil_append, List.cons_append, ↓reduceIte, Nat.reduceEqDiff, Nat.reduceBEq, reduceCtorEq, Nat.reduceAdd, resA, ret1, qv, lv, ev, boolA, binA, intA, shiftA, cmpA, beqA, lres, hs, bsl1]
      refine NewRowd_in fun r2 hr2 => ?_
      simp only [↓WP, WQ, if_true, if_false, eq_self, implies_true, ne_eq, List.nil_append, List.cons_append, ↓reduceIte, Nat.reduceEqDiff, Nat.reduceBEq, reduceCtorEq, Nat.reduceAdd, resA, ret1, qv, lv, ev, boolA, binA, intA, shiftA, cmpA, beqA, lres, hs]
      refine o.app_num (i := 0) rfl hr2 (by rw [tab_len]) (by rw [tab_len]; omega) fun r' G'' o => ?_
      have hp' : (p + 1).toNat = p.toNat + 1 := by omega
      simp only [↓WP, WQ, if_true, if_false, eq_self, implies_true, ne_eq, List.nil_append, List.cons_append, ↓reduceIte, Nat.reduceEqDiff, Nat.reduceBEq, reduceCtorEq, Nat.reduceAdd, resA, ret1, qv, lv, ev, boolA, binA, intA, shiftA, cmpA, beqA, lres, hs, hw, hp, hp']
      refine ⟨r', rfl, ?_⟩
      rw [hqe] at o
      rw [tab_succ, Int.toNat_of_nonneg hp0]
      exact o
  · have hpe : p.toNat = N := by omega
    rw [hpe] at o ⊢
    rw [← hN]
    refine hq r G ?_
    unfold crossF
    rw [hN]
    exact o
end Go.AL

/-
  Stacks of algebras.
-/
namespace Go.AL
open Go.Proofs
set_option linter.unusedSimpArgs false
set_option linter.unusedVariables false
variable {w0 : World} {H : Hp}

/-- Products of a stack. -/
def stackT (A B : Alg) (m x y : Int) : Int := open Classical in if x < m ∧ y < m then A.tm x y else if m ≤ x ∧ m ≤ y then IntKind.i64.wrap (m + B.tm (x - m) (y - m)) else min x y
/-- The order of a stack. -/
def stackP (A B : Alg) (m x y : Int) : Prop := x < m ∧ m ≤ y ∨ x < m ∧ y < m ∧ bl A.up x y ∨ m ≤ x ∧ m ≤ y ∧ bl B.up (x - m) (y - m)
noncomputable def stackU (A B : Alg) (m : Int) (n : Nat) : List Int := tab (fun x => sumP (stackP A B m x) n) n

theorem stack_c {ua ta ub tb : AV} {A B : Alg} (ha : Ints H ua A.up) (hta : Mat H ta A.times) (hb : Ints H ub B.up) (htb : Mat H tb B.times) (hA : Square A) (hB : Square B) (ra : Rows62 A.up) (rb : Rows62 B.up)
    (ha1 : 1 ≤ A.up.length) (hb1 : 1 ≤ B.up.length) {N : Nat} (hN : N + 1 = A.up.length + B.up.length) (hN6 : N ≤ 61) {Q : AV → Hp → Prop}
    (hq : ∀ v H', Ext H H' → NA no H H' v (stackU A B (A.up.length - 1) N) (tab2 (stackT A B (A.up.length - 1)) N N) → Q v H') :
    ACalls Try.prog w0 149 [.agg [ua, ta], .agg [ub, tb]] H Q := by
  have hTA : Tab H ta A := ⟨hta, hA⟩
  have hTB : Tab H tb B := ⟨htb, hB⟩
  obtain ⟨m, hm⟩ : ∃ m : Int, m = (A.up.length : Int) - 1 := ⟨_, rfl⟩
  have hwm : IntKind.i64.wrap ((A.up.length : Int) - 1) = m := by rw [hm]; exact wrap_id (by omega) (by omega)
  have hwN : IntKind.i64.wrap (m + B.up.length) = N := by rw [wrap_id (by omega) (by omega)]; omega
  rw [← hm] at hq
  refine in149 ?_
  simp only [c149, ↓WP, WQ, if_true, if_false, eq_self, implies_true, ne_eq, List.nil_append, List.cons_append, ↓reduceIte, Nat.reduceEqDiff, Nat.reduceBEq, reduceCtorEq, Nat.reduceAdd, resA, ret1, qv, lv, ev, boolA, binA, intA, shiftA, cmpA, beqA, lres, cells_alg ha.len hta.len]
  refine NewRowd_in fun b2 hb2 => ?_
  have o := Own.nil0.push (x := ⟨36, true, [ua, ta]⟩) hb2
  generalize H.set b2 ⟨36, true, [ua, ta]⟩ = G at *
  simp only [↓WP, WQ, if_true, if_false, eq_self, implies_true, ne_eq, List.nil_append, List.cons_append, ↓reduceIte, Nat.reduceEqDiff, Nat.reduceBEq, reduceCtorEq, Nat.reduceAdd, resA, ret1, qv, lv, ev, boolA, binA, intA, shiftA, cmpA, beqA, lres, cells_alg hb.len htb.len]
  refine NewRowd_in fun b3 hb3 => ?_
  have o := o.push (x := ⟨36, true, [ub, tb]⟩) hb3
  generalize G.set b3 ⟨36, true, [ub, tb]⟩ = G at *
  simp only [↓WP, WQ, if_true, if_false, eq_self, implies_true, ne_eq, List.nil_append, List.cons_append, ↓reduceIte, Nat.reduceEqDiff, Nat.reduceBEq, reduceCtorEq, Nat.reduceAdd, resA, ret1, qv, lv, ev, boolA, binA, intA, shiftA, cmpA, beqA, lres]
  refine NewRowd_in fun b4 hb4 => ?_
  have o := o.push (x := ⟨36, true, [.nils, .nils]⟩) hb4
  generalize G.set b4 ⟨36, true, [.nils, .nils]⟩ = G at *
  have e2 := o.get (i := 2) rfl
  have e3 := o.get (i := 1) rfl
  simp only [↓WP, WQ, if_true, if_false, eq_self, implies_true, ne_eq, List.nil_append, List.cons_append, ↓reduceIte, Nat.reduceEqDiff, Nat.reduceBEq, reduceCtorEq, Nat.reduceAdd, resA, ret1, qv, lv, ev, boolA, binA, intA, shiftA, cmpA, beqA, lres, at_fst e2, at_fst e3, ha.len, hb.len, hwm, hwN, fillA]
  refine NewRowd_in fun b7 hb7 => ?_
  have hS : (G.set b7 ⟨36, true, [.nils, .nils]⟩) b7 = some ⟨36, true, [.nils, .nils]⟩ := Hp.set_same _ _ _
  have o := o.push (x := ⟨36, true, [.nils, .nils]⟩) hb7
  simp only [↓WP, WQ, if_true, if_false, eq_self, implies_true, ne_eq, List.nil_append, List.cons_append, ↓reduceIte, Nat.reduceEqDiff, Nat.reduceBEq, reduceCtorEq, Nat.reduceAdd, resA, ret1, qv, lv, ev, boolA, binA, intA, shiftA, cmpA, beqA, lres, stA_two (x := .nils) (y := .nils) hS rfl rfl, Hp.set_set]
  generalize G.set b7 ⟨36, true, [.nils, .nils]⟩ = G at *
  refine W_for 0 N (fun x e H' => ∃ uv tv t U, TVp tv t ∧ U = tab (fun x => sumP (stackP A B m x) N) x.toNat ∧ (uv = .nils ∧ x = 0 ∨ ∃ u, uv = .sl u 0 U.length) ∧ Sl e [(2, .ptr b2 0), (3, .ptr b3 0), (4, .ptr b4 0), (5, .int .i64 m), (6, .int .i64 N), (7, .ptr b7 0), (8, .int .i64 x)] ∧
    t.map Prod.snd = tab2 (stackT A B m) N x.toNat ∧
    Own no H H' (LT tv t ++ (((b7, ⟨36, true, [uv, tv]⟩) :: (b4, ⟨36, true, [.nils, .nils]⟩) :: (b3, ⟨36, true, [ub, tb]⟩) :: (b2, ⟨36, true, [ua, ta]⟩) :: (match uv with | .sl u _ _ => [(u, LI U)] | _ => [])) ++ tl t))) (by omega)
    ⟨.nils, .nils, [], [], Or.inl ⟨rfl, rfl⟩, rfl, Or.inl ⟨rfl, rfl⟩, by simp only [↓WP, WQ, if_true, if_false, eq_self, implies_true, ne_eq, List.nil_append, List.cons_append, ↓reduceIte, Nat.reduceEqDiff, Nat.reduceBEq, reduceCtorEq, Nat.reduceAdd, resA, ret1, qv, lv, ev, boolA, binA, intA, shiftA, cmpA, beqA, lres], rfl, o⟩ ?_
  rintro x e G hx0 hx1 ⟨uv, tv, t, U, hv, hU, huv, hs, ht, o⟩
  simp only [Sl_cons, Sl_nil, and_true] at hs
  have hw : IntKind.i64.wrap (x + 1) = x + 1 := wrap_id (by omega) (by omega)
  have htl : t.length = x.toNat := by rw [← List.length_map (f := Prod.snd), ht, tab2_len]
  have hUl : U.length = x.toNat := by rw [hU, tab_len]
  refine (Classical.em (x < N)).elim (fun hx => ?_) (fun hx => ?_) <;> simp only [↓WP, WQ, if_true, if_false, eq_self, implies_true, ne_eq, List.nil_append, List.cons_append, ↓reduceIte, Nat.reduceEqDiff, Nat.reduceBEq, reduceCtorEq, Nat.reduceAdd, resA, ret1, qv, lv, ev, boolA, binA, intA, shiftA, cmpA, beqA, lres, hs, hx]
  · simp only [↓WP, WQ, if_true, if_false, eq_self, implies_true, ne_eq, List.nil_append, List.cons_append, ↓reduceIte, Nat.reduceEqDiff, Nat.reduceBEq, reduceCtorEq, Nat.reduceAdd, resA, ret1, qv, lv, ev, boolA, binA, intA, shiftA, cmpA, beqA, lres, bsl0]
    refine NewRowd_in fun r0 hr0 => ?_
    simp only [↓WP, WQ, if_true, if_false, eq_self, implies_true, ne_eq, List.nil_append, List.cons_append, ↓reduceIte, Nat.reduceEqDiff, Nat.reduceBEq, reduceCtorEq, Nat.reduceAdd, resA, ret1, qv, lv, ev, boolA, binA, intA, shiftA, cmpA, beqA, lres, hs]
    have o := o.push (x := LI []) hr0
    refine W_for 0 N (fun y e G => ∃ r, Sl e [(2, .ptr b2 0), (3, .ptr b3 0), (4, .ptr b4 0), (5, .int .i64 m), (6, .int .i64 N), (7, .ptr b7 0), (8, .int .i64 x), (9, .sl r 0 y.toNat), (10, .int .i64 (sumP (stackP A B m x) y.toNat)), (11, .int .i64 y)] ∧
      Own no H G ((r, LI (tab (stackT A B m x) y.toNat)) :: (LT tv t ++ (((b7, ⟨36, true, [uv, tv]⟩) :: (b4, ⟨36, true, [.nils, .nils]⟩) :: (b3, ⟨36, true, [ub, tb]⟩) :: (b2, ⟨36, true, [ua, ta]⟩) :: (match uv with | .sl u _ _ => [(u, LI U)] | _ => [])) ++ tl t)))) (by omega)
      ⟨r0, by simp only [↓WP, WQ, if_true, if_false, eq_self, implies_true, ne_eq, List.nil_append, List.cons_append, ↓reduceIte, Nat.reduceEqDiff, Nat.reduceBEq, reduceCtorEq, Nat.reduceAdd, resA, ret1, qv, lv, ev, boolA, binA, intA, shiftA, cmpA, beqA, lres, hs, sumP, Int.toNat_zero], o⟩ ?_
    rintro y e G hy0 hy1 ⟨r, hs, o⟩
    simp only [Sl_cons, Sl_nil, and_true] at hs
    have hwy : IntKind.i64.wrap (y + 1) = y + 1 := wrap_id (by omega) (by omega)
    have g7 := o.has (b7, ⟨36, true, [uv, tv]⟩) (by simp)
    have g3 := o.has (b3, ⟨36, true, [ub, tb]⟩) (by simp)
    have g2 := o.has (b2, ⟨36, true, [ua, ta]⟩) (by simp)
    simp only at g7 g3 g2
    have s0 := sumP_rng62 (stackP A B m x) (z := y.toNat)
    refine (Classical.em (y < N)).elim (fun hy => ?_) (fun hy => ?_)
    · have s0 := s0 (by omega)
      have hp0 : (0 : Int) < 2 ^ y.toNat := by exact_mod_cast Nat.pow_pos (by omega)
      have hwS : IntKind.i64.wrap (sumP (stackP A B m x) y.toNat + 2 ^ y.toNat) = sumP (stackP A B m x) y.toNat + 2 ^ y.toNat := wrap_id (by omega) (by omega)
      have hE := o.ext'
      have hTA := hTA.ext hE
      have hTB := hTB.ext hE
      have haG := ha.ext hE
      have hbG := hb.ext hE
      have hy' : (y + 1).toNat = y.toNat + 1 := by omega
      have fin : ∀ (z : Int), stackT A B m x y = z → ∀ r' G', Own no H G' ((((r, LI (tab (stackT A B m x) y.toNat)) :: (LT tv t ++ (((b7, ⟨36, true, [uv, tv]⟩) :: (b4, ⟨36, true, [.nils, .nils]⟩) :: (b3, ⟨36, true, [ub, tb]⟩) :: (b2, ⟨36, true, [ua, ta]⟩) :: (match uv with | .sl u _ _ => [(u, LI U)] | _ => [])) ++ tl t)))).set 0 (r', LI (tab (stackT A B m x) y.toNat ++ [z]))) → Own no H G' ((r', LI (tab (stackT A B m x) (y + 1).toNat)) :: (LT tv t ++ (((b7, ⟨36, true, [uv, tv]⟩) :: (b4, ⟨36, true, [.nils, .nils]⟩) :: (b3, ⟨36, true, [ub, tb]⟩) :: (b2, ⟨36, true, [ua, ta]⟩) :: (match uv with | .sl u _ _ => [(u, LI U)] | _ => [])) ++ tl t))) := by
        intro z hz r' G' o
        rw [hy', tab_succ, Int.toNat_of_nonneg hy0, hz]
        exact o
      refine (Classical.em (x < m)).elim (fun hxm => ?_) (fun hxm => ?_)
      · have hxm' : ¬ m ≤ x := by omega
        refine (Classical.em (y < m)).elim (fun hym => ?_) (fun hym => ?_)
        · have hym' : ¬ m ≤ y := by omega
          simp only [↓WP, WQ, if_true, if_false, eq_self, implies_true, ne_eq, List.nil_append, List.cons_append, ↓reduceIte, Nat.reduceEqDiff, Nat.reduceBEq, reduceCtorEq, Nat.reduceAdd, resA, ret1, qv, lv, ev, boolA, binA, intA, shiftA, cmpA, beqA, lres, hs, hx, hy, mm_min, hxm, hym, hxm', hym', at_snd g2, hTA.idx hx0 (show x < A.up.length by omega), hTA.at hx0 (show x < A.up.length by omega), hTA.idx2 hx0 (show x < A.up.length by omega) hy0 (show y < A.up.length by omega), hTA.at2 hx0 (show x < A.up.length by omega) hy0 (show y < A.up.length by omega), bsl1]
          refine NewRowd_in fun r2 hr2 => ?_
          simp only [↓WP, WQ, if_true, if_false, eq_self, implies_true, ne_eq, List.nil_append, List.cons_append, ↓reduceIte, Nat.reduceEqDiff, Nat.reduceBEq, reduceCtorEq, Nat.reduceAdd, resA, ret1, qv, lv, ev, boolA, binA, intA, shiftA, cmpA, beqA, lres, hs]
          refine o.app_num (i := 0) rfl hr2 (by rw [tab_len]) (by rw [tab_len]; omega) fun r' G' o => ?_
          have o := fin (A.tm x y) (by unfold stackT; rw [if_pos ⟨hxm, hym⟩]) r' G' o
          have g2 := o.has (b2, ⟨36, true, [ua, ta]⟩) (by simp)
          simp only at g2
          simp only [↓WP, WQ, if_true, if_false, eq_self, implies_true, ne_eq, List.nil_append, List.cons_append, ↓reduceIte, Nat.reduceEqDiff, Nat.reduceBEq, reduceCtorEq, Nat.reduceAdd, resA, ret1, qv, lv, ev, boolA, binA, intA, shiftA, cmpA, beqA, lres, hs, hx, hy, mm_min, hxm, hym, hxm', hym', at_fst g2]
          refine sbelow_c (ha.ext o.ext') ra hx0 (by omega) hy0 (by omega) (fun c => ?_) (fun c => ?_) <;> simp only [↓WP, WQ, if_true, if_false, eq_self, implies_true, ne_eq, List.nil_append, List.cons_append, ↓reduceIte, Nat.reduceEqDiff, Nat.reduceBEq, reduceCtorEq, Nat.reduceAdd, resA, ret1, qv, lv, ev, boolA, binA, intA, shiftA, cmpA, beqA, lres, hs, hx, hy, mm_min, hxm, hym, hxm', hym', at_fst g2, hwy]
          · refine power_c _ (by omega) ?_
            simp only [↓WP, WQ, if_true, if_false, eq_self, implies_true, ne_eq, List.nil_append, List.cons_append, ↓reduceIte, Nat.reduceEqDiff, Nat.reduceBEq, reduceCtorEq, Nat.reduceAdd, resA, ret1, qv, lv, ev, boolA, binA, intA, shiftA, cmpA, beqA, lres, hs, hx, hy, hwS, hwy]
            rw [sumP_yes hy0 (Or.inr (Or.inl ⟨hxm, hym, c⟩)), hy']
            exact ⟨r', ⟨rfl, rfl⟩, by rw [← hy']; exact o⟩
          · rw [sumP_no hy0 (by rintro (⟨_, h⟩ | ⟨_, _, h⟩ | ⟨h, _⟩); omega; exact c h; omega), hy']
            exact ⟨r', ⟨rfl, rfl⟩, by rw [← hy']; exact o⟩
        · have hym' : m ≤ y := by omega
          simp only [↓WP, WQ, if_true, if_false, eq_self, implies_true, ne_eq, List.nil_append, List.cons_append, ↓reduceIte, Nat.reduceEqDiff, Nat.reduceBEq, reduceCtorEq, Nat.reduceAdd, resA, ret1, qv, lv, ev, boolA, binA, intA, shiftA, cmpA, beqA, lres, hs, hx, hy, mm_min, hxm, hym, hxm', hym', bsl1]
          refine NewRowd_in fun r2 hr2 => ?_
          simp only [↓WP, WQ, if_true, if_false, eq_self, implies_true, ne_eq, List.nil_append, List.cons_append, ↓reduceIte, Nat.reduceEqDiff, Nat.reduceBEq, reduceCtorEq, Nat.reduceAdd, resA, ret1, qv, lv, ev, boolA, binA, intA, shiftA, cmpA, beqA, lres, hs]
          refine o.app_num (i := 0) rfl hr2 (by rw [tab_len]) (by rw [tab_len]; omega) fun r' G' o => ?_
          have o := fin (min x y) (by unfold stackT; rw [if_neg (by omega), if_neg (by omega)]) r' G' o
          simp only [↓WP, WQ, if_true, if_false, eq_self, implies_true, ne_eq, List.nil_append, List.cons_append, ↓reduceIte, Nat.reduceEqDiff, Nat.reduceBEq, reduceCtorEq, Nat.reduceAdd, resA, ret1, qv, lv, ev, boolA, binA, intA, shiftA, cmpA, beqA, lres, hs, hx, hy, mm_min, hxm, hym, hxm', hym']
          refine power_c _ (by omega) ?_
          simp only [↓WP, WQ, if_true, if_false, eq_self, implies_true, ne_eq, List.nil_append, List.cons_append, ↓reduceIte, Nat.reduceEqDiff, Nat.reduceBEq, reduceCtorEq, Nat.reduceAdd, resA, ret1, qv, lv, ev, boolA, binA, intA, shiftA, cmpA, beqA, lres, hs, hx, hy, hwS, hwy]
          rw [sumP_yes hy0 (Or.inl ⟨hxm, hym'⟩), hy']
          exact ⟨r', ⟨rfl, rfl⟩, by rw [← hy']; exact o⟩
      · have hxm' : m ≤ x := by omega
        refine (Classical.em (y < m)).elim (fun hym => ?_) (fun hym => ?_)
        · have hym' : ¬ m ≤ y := by omega
          simp only [↓WP, WQ, if_true, if_false, eq_self, implies_true, ne_eq, List.nil_append, List.cons_append, ↓reduceIte, Nat.reduceEqDiff, Nat.reduceBEq, reduceCtorEq, Nat.reduceAdd, resA, ret1, qv, lv, ev, boolA, binA, intA, shiftA, cmpA, beqA, lres, hs, hx, hy, mm_min, hxm, hym, hxm', hym', bsl1]
          refine NewRowd_in fun r2 hr2 => ?_
          simp only [↓WP, WQ, if_true, if_false, eq_self, implies_true, ne_eq, List.nil_append, List.cons_append, ↓reduceIte, Nat.reduceEqDiff, Nat.reduceBEq, reduceCtorEq, Nat.reduceAdd, resA, ret1, qv, lv, ev, boolA, binA, intA, shiftA, cmpA, beqA, lres, hs]
          refine o.app_num (i := 0) rfl hr2 (by rw [tab_len]) (by rw [tab_len]; omega) fun r' G' o => ?_
          have o := fin (min x y) (by unfold stackT; rw [if_neg (by omega), if_neg (by omega)]) r' G' o
          simp only [↓WP, WQ, if_true, if_false, eq_self, implies_true, ne_eq, List.nil_append, List.cons_append, ↓reduceIte, Nat.reduceEqDiff, Nat.reduceBEq, reduceCtorEq, Nat.reduceAdd, resA, ret1, qv, lv, ev, boolA, binA, intA, shiftA, cmpA, beqA, lres, hs, hx, hy, mm_min, hxm, hym, hxm', hym', hwy]
          rw [sumP_no hy0 (by rintro (⟨_, h⟩ | ⟨_, _, h⟩ | ⟨_, h, _⟩) <;> omega), hy']
          exact ⟨r', ⟨rfl, rfl⟩, by rw [← hy']; exact o⟩
        · have hym' : m ≤ y := by omega
          have wx : IntKind.i64.wrap (x - m) = x - m := wrap_id (by omega) (by omega)
          have wy : IntKind.i64.wrap (y - m) = y - m := wrap_id (by omega) (by omega)
          have x0 : 0 ≤ x - m := by omega
          have x1 : x - m < B.up.length := by omega
          have y0 : 0 ≤ y - m := by omega
          have y1 : y - m < B.up.length := by omega
          simp only [↓WP, WQ, if_true, if_false, eq_self, implies_true, ne_eq, List.nil_append, List.cons_append, ↓reduceIte, Nat.reduceEqDiff, Nat.reduceBEq, reduceCtorEq, Nat.reduceAdd, resA, ret1, qv, lv, ev, boolA, binA, intA, shiftA, cmpA, beqA, lres, hs, hx, hy, mm_min, hxm, hym, hxm', hym', at_snd g3, wx, wy, hTB.idx x0 x1, hTB.at x0 x1, hTB.idx2 x0 x1 y0 y1, hTB.at2 x0 x1 y0 y1, bsl1]
          refine NewRowd_in fun r2 hr2 => ?_
          simp only [↓WP, WQ, if_true, if_false, eq_self, implies_true, ne_eq, List.nil_append, List.cons_append, ↓reduceIte, Nat.reduceEqDiff, Nat.reduceBEq, reduceCtorEq, Nat.reduceAdd, resA, ret1, qv, lv, ev, boolA, binA, intA, shiftA, cmpA, beqA, lres, hs]
          refine o.app_num (i := 0) rfl hr2 (by rw [tab_len]) (by rw [tab_len]; omega) fun r' G' o => ?_
          have o := fin (IntKind.i64.wrap (m + B.tm (x - m) (y - m))) (by unfold stackT; rw [if_neg (by omega), if_pos ⟨hxm', hym'⟩]) r' G' o
          have g3 := o.has (b3, ⟨36, true, [ub, tb]⟩) (by simp)
          simp only at g3
          simp only [↓WP, WQ, if_true, if_false, eq_self, implies_true, ne_eq, List.nil_append, List.cons_append, ↓reduceIte, Nat.reduceEqDiff, Nat.reduceBEq, reduceCtorEq, Nat.reduceAdd, resA, ret1, qv, lv, ev, boolA, binA, intA, shiftA, cmpA, beqA, lres, hs, hx, hy, mm_min, hxm, hym, hxm', hym', at_fst g3, wx, wy]
          refine sbelow_c (hb.ext o.ext') rb x0 x1 y0 (by omega) (fun c => ?_) (fun c => ?_) <;> simp only [↓WP, WQ, if_true, if_false, eq_self, implies_true, ne_eq, List.nil_append, List.cons_append, ↓reduceIte, Nat.reduceEqDiff, Nat.reduceBEq, reduceCtorEq, Nat.reduceAdd, resA, ret1, qv, lv, ev, boolA, binA, intA, shiftA, cmpA, beqA, lres, hs, hx, hy, mm_min, hxm, hym, hxm', hym', at_fst g3, hwy]
          · refine power_c _ (by omega) ?_
            simp only [↓WP, WQ, if_true, if_false, eq_self, implies_true, ne_eq, List.nil_append, List.cons_append, ↓reduceIte, Nat.reduceEqDiff, Nat.reduceBEq, reduceCtorEq, Nat.reduceAdd, resA, ret1, qv, lv, ev, boolA, binA, intA, shiftA, cmpA, beqA, lres, hs, hx, hy, hwS, hwy]
            rw [sumP_yes hy0 (Or.inr (Or.inr ⟨hxm', hym', c⟩)), hy']
            exact ⟨r', ⟨rfl, rfl⟩, by rw [← hy']; exact o⟩
          · rw [sumP_no hy0 (by rintro (⟨_, h⟩ | ⟨_, _, h⟩ | ⟨_, _, h⟩); omega; omega; exact c h), hy']
            exact ⟨r', ⟨rfl, rfl⟩, by rw [← hy']; exact o⟩
    · have hye : y.toNat = N := by omega
      have hx' : (x + 1).toNat = x.toNat + 1 := by omega
      have hT' : ∀ r, (t ++ [(r, tab (stackT A B m x) y.toNat)]).map Prod.snd = tab2 (stackT A B m) N (x + 1).toNat := fun r => by
        rw [hx', tab2_succ, List.map_append, ht, Int.toNat_of_nonneg hx0, hye]; rfl
      have hU' : U ++ [sumP (stackP A B m x) y.toNat] = tab (fun x => sumP (stackP A B m x) N) (x + 1).toNat := by
        rw [hx', tab_succ, hU, Int.toNat_of_nonneg hx0, hye]
      simp only [↓WP, WQ, if_true, if_false, eq_self, implies_true, ne_eq, List.nil_append, List.cons_append, ↓reduceIte, Nat.reduceEqDiff, Nat.reduceBEq, reduceCtorEq, Nat.reduceAdd, resA, ret1, qv, lv, ev, boolA, binA, intA, shiftA, cmpA, beqA, lres, hs, hx, hy, at_snd g7, bslv (z := .nils) (x := .sl r 0 y.toNat) rfl]
      refine NewRowd_in fun r2 hr2 => ?_
      simp only [↓WP, WQ, if_true, if_false, eq_self, implies_true, ne_eq, List.nil_append, List.cons_append, ↓reduceIte, Nat.reduceEqDiff, Nat.reduceBEq, reduceCtorEq, Nat.reduceAdd, resA, ret1, qv, lv, ev, boolA, binA, intA, shiftA, cmpA, beqA, lres, hs]
      refine o.app_tab hv hr2 (by rw [tab_len]) (by omega) fun q' G' o => ?_
      have g7 := o.get (i := 1) rfl
      have hL := hT' r
      generalize ht' : t ++ [(r, tab (stackT A B m x) y.toNat)] = t' at *
      have htl' : t'.length = t.length + 1 := by rw [← ht']; simp
      rw [← htl']
      simp only [↓WP, WQ, if_true, if_false, eq_self, implies_true, ne_eq, List.nil_append, List.cons_append, ↓reduceIte, Nat.reduceEqDiff, Nat.reduceBEq, reduceCtorEq, Nat.reduceAdd, resA, ret1, qv, lv, ev, boolA, binA, intA, shiftA, cmpA, beqA, lres, hs, stA_snd (y := .sl q' 0 t'.length) g7 rfl]
      have o := o.upd (i := 1) (y := ⟨36, true, [uv, .sl q' 0 t'.length]⟩) rfl
      have g7 := o.get (i := 1) rfl
      simp only [↓WP, WQ, if_true, if_false, eq_self, implies_true, ne_eq, List.nil_append, List.cons_append, ↓reduceIte, Nat.reduceEqDiff, Nat.reduceBEq, reduceCtorEq, Nat.reduceAdd, resA, ret1, qv, lv, ev, boolA, binA, intA, shiftA, cmpA, beqA, lres, hs, at_fst g7, bsl1]
      refine NewRowd_in fun r2 hr2 => ?_
      simp only [↓WP, WQ, if_true, if_false, eq_self, implies_true, ne_eq, List.nil_append, List.cons_append, ↓reduceIte, Nat.reduceEqDiff, Nat.reduceBEq, reduceCtorEq, Nat.reduceAdd, resA, ret1, qv, lv, ev, boolA, binA, intA, shiftA, cmpA, beqA, lres, hs]
      rcases huv with ⟨rfl, hxz⟩ | ⟨u, rfl⟩
      · refine o.app_num0 hr2 fun u' G' o => ?_
        have g7 := o.get (i := 2) rfl
        simp only [↓WP, WQ, if_true, if_false, eq_self, implies_true, ne_eq, List.nil_append, List.cons_append, ↓reduceIte, Nat.reduceEqDiff, Nat.reduceBEq, reduceCtorEq, Nat.reduceAdd, resA, ret1, qv, lv, ev, boolA, binA, intA, shiftA, cmpA, beqA, lres, hs, hx, hw, stA_fst (y := .sl u' 0 1) g7 rfl]
        have o := o.upd (i := 2) (y := ⟨36, true, [.sl u' 0 1, .sl q' 0 t'.length]⟩) rfl
        have hUe : U = [] := by rw [hU, hxz]; rfl
        rw [hUe] at hU'
        refine ⟨.sl u' 0 1, .sl q' 0 t'.length, t', _, Or.inr ⟨q', rfl⟩, hU', Or.inr ⟨u', rfl⟩, hL, ?_⟩
        exact o.perm (List.perm_middle (l₁ := [(q', TR t'), (b7, ⟨36, true, [.sl u' 0 1, .sl q' 0 t'.length]⟩), (b4, ⟨36, true, [.nils, .nils]⟩), (b3, ⟨36, true, [ub, tb]⟩), (b2, ⟨36, true, [ua, ta]⟩)])).symm
      · refine o.app_num (i := 5) rfl hr2 rfl (by omega) fun u' G' o => ?_
        have g7 := o.get (i := 1) rfl
        simp only [↓WP, WQ, if_true, if_false, eq_self, implies_true, ne_eq, List.nil_append, List.cons_append, ↓reduceIte, Nat.reduceEqDiff, Nat.reduceBEq, reduceCtorEq, Nat.reduceAdd, resA, ret1, qv, lv, ev, boolA, binA, intA, shiftA, cmpA, beqA, lres, hs, hx, hw, stA_fst (y := .sl u' 0 (U.length + 1)) g7 rfl]
        have o := o.upd (i := 1) (y := ⟨36, true, [.sl u' 0 (U.length + 1), .sl q' 0 t'.length]⟩) rfl
        exact ⟨.sl u' 0 (U.length + 1), .sl q' 0 t'.length, t', _, Or.inr ⟨q', rfl⟩, hU', Or.inr ⟨u', by simp⟩, hL, o⟩
  · have hxe : x.toNat = N := by omega
    rcases hv with ⟨rfl, rfl⟩ | ⟨q, rfl⟩
    · simp at htl; omega
    rcases huv with ⟨rfl, hxz⟩ | ⟨u, rfl⟩
    · omega
    simp only [LT, List.cons_append, List.nil_append] at o
    have g7 := o.get (i := 1) rfl
    have g4 := o.get (i := 2) rfl
    simp only [↓WP, WQ, if_true, if_false, eq_self, implies_true, ne_eq, List.nil_append, List.cons_append, ↓reduceIte, Nat.reduceEqDiff, Nat.reduceBEq, reduceCtorEq, Nat.reduceAdd, resA, ret1, qv, lv, ev, boolA, binA, intA, shiftA, cmpA, beqA, lres, hs, atN_two g7, stA_two (x := .sl u 0 U.length) (y := .sl q 0 t.length) g4 rfl rfl]
    have o := o.upd (i := 2) (y := ⟨36, true, [.sl u 0 U.length, .sl q 0 t.length]⟩) rfl
    have g4 := o.get (i := 2) rfl
    simp only [↓WP, WQ, if_true, if_false, eq_self, implies_true, ne_eq, List.nil_append, List.cons_append, ↓reduceIte, Nat.reduceEqDiff, Nat.reduceBEq, reduceCtorEq, Nat.reduceAdd, resA, ret1, qv, lv, ev, boolA, binA, intA, shiftA, cmpA, beqA, lres, atN_two g4]
    have hUU : U = stackU A B m N := by rw [hU, hxe]; rfl
    refine hq _ _ o.ext' ⟨u, q, t, by rw [hUU], by rw [ht, hxe], ?_⟩
    have o := o.sub (M := (q, TR t) :: (u, LI U) :: tl t) (.cons_cons _ (.cons _ (.cons _ (.cons _ (.cons _ (.cons_cons _ (.refl _)))))))
    rw [← hUU]
    exact o.perm (List.Perm.swap _ _ _)
end Go.AL

/-
  All algebras of a chain, by the reference.
-/
namespace Go.AL
open Go.Proofs
set_option linter.unusedSimpArgs false
set_option linter.unusedVariables false
variable {w0 : World} {H : Hp}

section
variable {P : Program} {S : Nat → Prop}
theorem WDL_app {id : Nat} {fl : Bool} {fls : List Nat} {dd : Option Nat} {ty sz bytes : Nat} {s x : Opd} {l : List DOp} {K : Env → Hp → Prop} {e : Env} {H : Hp} :
    WDL P w0 S (⟨id, fl, fls, dd, none, .e (.app ty sz bytes s x)⟩ :: l) K e H = AppD ty sz bytes (ev e s) (ev e x) H (fun v H' => (∀ r, S r → H' r = H r) ∧ WDL P w0 S l K (updo e dd v) H') (dep _) := (rfl)
end

/-- Tables in a list. -/
abbrev Tbl := Nat × List (Nat × List Int)
def T3 (TT : List Tbl) : Row := ⟨31, true, TT.map fun p => .sl p.1 0 p.2.length⟩
def fl (TT : List Tbl) : List (Nat × Row) := TT.flatMap fun p => (p.1, TR p.2) :: tl p.2
def tbl (p : Tbl) : List (List Int) := p.2.map Prod.snd
theorem fl_add (TT SS : List Tbl) : fl (TT ++ SS) = fl TT ++ fl SS := by simp [fl]

def get2 (T : List (List Int)) (x y : Nat) : Int := (T.getD x []).getD y 0
def put2 (T : List (List Int)) (x y : Nat) (z : Int) : List (List Int) := T.set x ((T.getD x []).set y z)

theorem stA_li {H : Hp} {r i : Nat} {l : List Int} {z : Int} (h : H r = some (LI l)) (hi : i < l.length) : stA H 1 (.ptr r i) (.int .i64 z) = some (H.set r (LI (l.set i z))) := by
  have h1 : splice (l.map (AV.int .i64)) i [AV.int .i64 z] = (l.set i z).map (AV.int .i64) := by
    rw [List.map_set]
    simp only [splice, List.length_cons, List.length_nil]
    rw [List.set_eq_take_append_cons_drop, if_pos (by simpa using hi)]
    simp
  have h2 : i + 1 ≤ l.length := hi
  simp [stA, AV.cells?, AV.scal, h, LI, h1, h2]

/-- A number stored in a table of one's own. -/
theorem Own.put {X : Nat → Prop} {H0 H : Hp} {A M : List (Nat × Row)} {q : Nat} {t : List (Nat × List Int)} {x y : Nat} {z : Int} (h : Own X H0 H (A ++ (q, TR t) :: (tl t ++ M))) (hx : x < t.length) (hy : y < (t[x]).2.length) :
    stA H 1 (.ptr (t[x]).1 y) (.int .i64 z) = some (H.set (t[x]).1 (LI ((t[x]).2.set y z))) ∧ Own X H0 (H.set (t[x]).1 (LI ((t[x]).2.set y z))) (A ++ (q, TR (t.set x ((t[x]).1, (t[x]).2.set y z))) :: (tl (t.set x ((t[x]).1, (t[x]).2.set y z)) ++ M)) := by
  have hm : ((t[x]).1, LI (t[x]).2) ∈ A ++ (q, TR t) :: (tl t ++ M) := by
    simp only [List.mem_append, List.mem_cons]
    exact Or.inr (Or.inr (Or.inl (List.mem_map.2 ⟨t[x], List.getElem_mem hx, rfl⟩)))
  refine ⟨stA_li (h.has _ hm) hy, ?_⟩
  have hTR : TR (t.set x ((t[x]).1, (t[x]).2.set y z)) = TR t := by
    unfold TR
    congr 1
    rw [List.map_set]
    simp only [List.length_set]
    apply List.ext_getElem (by simp)
    intro j h1 h2
    by_cases hj : x = j
    · subst hj; simp
    · simp [hj]
  have hidx : (A ++ (q, TR t) :: (tl t ++ M))[A.length + 1 + x]? = some ((t[x]).1, LI (t[x]).2) := by
    rw [List.getElem?_append_right (by omega), show A.length + 1 + x - A.length = x + 1 by omega, List.getElem?_cons_succ, List.getElem?_append_left (by simpa [tl] using hx)]
    simp [tl, hx]
  have h1 := h.upd (y := LI ((t[x]).2.set y z)) hidx
  rw [hTR]
  have h2 : (A ++ (q, TR t) :: (tl t ++ M)).set (A.length + 1 + x) ((t[x]).1, LI ((t[x]).2.set y z)) = A ++ (q, TR t) :: (tl (t.set x ((t[x]).1, (t[x]).2.set y z)) ++ M) := by
    rw [List.set_append_right _ _ (by omega), show A.length + 1 + x - A.length = x + 1 by omega, List.set_cons_succ, List.set_append_left _ _ (by simpa [tl] using hx)]
    simp only [tl, List.map_set]
  rw [h2] at h1
  exact h1

theorem snd_set {t : List (Nat × List Int)} {x : Nat} (hx : x < t.length) (y : Nat) (z : Int) : (t.set x ((t[x]).1, (t[x]).2.set y z)).map Prod.snd = put2 (t.map Prod.snd) x y z := by
  rw [List.map_set]
  unfold put2
  congr 1
  simp [hx]

/-- The tables of a chain from a place on. -/
noncomputable def fillF (n : Nat) : Nat → List (List Int) → Nat → Nat → List (List (List Int))
  | 0, _, _, _ => []
  | k + 1, T, x, y => open Classical in if x + 1 = n then (if IsAlg ⟨chainS n n, T⟩ then [T] else []) else if y + 1 = n then fillF n k T (x + 1) (x + 1) else
      (List.range (x + 1)).flatMap fun z : Nat => if get2 T (x - 1) y ≤ z ∧ get2 T x (y - 1) ≤ z then fillF n k (put2 (put2 T x y z) y x z) x (y + 1) else []

def SqT (n : Nat) (T : List (List Int)) : Prop := T.length = n ∧ ∀ r ∈ T, r.length = n
theorem SqT.row {n : Nat} {T : List (List Int)} (h : SqT n T) {x : Nat} (hx : x < n) : (T.getD x []).length = n := by
  have : x < T.length := by rw [h.1]; exact hx
  simp only [List.getD_eq_getElem?_getD, List.getElem?_eq_getElem this, Option.getD_some]
  exact h.2 _ (List.getElem_mem this)
theorem SqT.put {n : Nat} {T : List (List Int)} (h : SqT n T) {x y : Nat} {z : Int} (hx : x < n) : SqT n (put2 T x y z) := by
  refine ⟨by simp [put2, h.1], fun r hr => ?_⟩
  rcases List.mem_or_eq_of_mem_set hr with hr | rfl
  · exact h.2 r hr
  · rw [List.length_set]; exact h.row hx
theorem SqT.of {n : Nat} {t : List (Nat × List Int)} (h : SqT n (t.map Prod.snd)) : t.length = n ∧ ∀ x (hx : x < t.length), (t[x]).2.length = n := by
  refine ⟨by simpa using h.1, fun x hx => h.2 _ (List.mem_map.2 ⟨_, List.getElem_mem hx, rfl⟩)⟩

/-- A table that is walked. -/
theorem mat_at2 {H : Hp} {tv : AV} {T : List (List Int)} {n : Nat} (hm : Mat H tv T) (hT : SqT n T) {x y : Int} (hx0 : 0 ≤ x) (hx1 : x < n) (hy0 : 0 ≤ y) (hy1 : y < n) :
    idxA 1 tv (.int .i64 x) = some (elt 1 tv x.toNat) ∧ H.at (elt 1 tv x.toNat) = some (rowv H tv x) ∧ idxA 1 (rowv H tv x) (.int .i64 y) = some (elt 1 (rowv H tv x) y.toNat) ∧ H.at (elt 1 (rowv H tv x) y.toNat) = some (.int .i64 (get2 T x.toNat y.toNat)) := by
  have h1 : x < T.length := by rw [hT.1]; exact hx1
  have h2 := hm.row hx0 h1
  have h3 := hT.row (x := x.toNat) (by omega)
  exact ⟨hm.idx hx0 h1, hm.at hx0 h1, h2.idx hy0 (by rw [h3]; exact hy1), h2.at (by rw [h3]; omega)⟩

theorem sl_idx {r n : Nat} {k : IntKind} {y : Int} (h0 : 0 ≤ y) (h1 : y < n) : idxA 1 (.sl r 0 n) (.int k y) = some (.ptr r y.toNat) := by
  simp [idxA, h0, h1]
theorem tr_cell {H : Hp} {q : Nat} {t : List (Nat × List Int)} (h : H q = some (TR t)) {i : Nat} (hi : i < t.length) : H.at (.ptr q i) = some (.sl (t[i]).1 0 (t[i]).2.length) := by
  simp [Hp.at, h, TR, hi]
theorem row_own {H : Hp} {r n : Nat} {x : Row} (h : H r = some x) (hn : n = x.cells.length) : H.row 1 (.sl r 0 n) = some x.cells := by
  subst hn
  simp only [Hp.row, h, Nat.mul_one, Nat.zero_add, Nat.le_refl, if_true, List.drop_zero]
  rw [List.take_of_length_le (Nat.le_refl _)]
/-- A list appended to one of one's own. -/
theorem Own.app_all {X : Nat → Prop} {H0 H : Hp} {A B : List (Nat × Row)} {r n m ty by_ : Nat} {cells cs : List AV} {x : AV} {K : AV → Hp → Prop} {d : Dep K} (h : Own X H0 H (A ++ (r, ⟨ty, true, cells⟩) :: B)) (hx : H.row 1 x = some cs) (hm : lenA x = some m)
    (hn : n = cells.length) (hb : (n + m) * by_ ≤ 140737488355328) (hl : n + m ≤ maxLen)
    (hK : ∀ r' H', Own X H0 H' (A ++ (r', ⟨ty, true, cells ++ cs⟩) :: B) → K (.sl r' 0 (n + m)) H') : AppD ty 1 by_ (.sl r 0 n) x H K d := by
  have hr := h.has (r, ⟨ty, true, cells⟩) (by simp)
  refine app_own hr (by rw [hn]; simp) hx hm hb hl fun r' hr' => hK r' _ ?_
  have h1 := h.chg (i := A.length) (r := r) (x := ⟨ty, true, cells⟩) (r' := r') (y := ⟨ty, true, cells ++ cs⟩) (H' := (H.set r dead).set r' ⟨ty, true, cells ++ cs⟩) (by simp) (by simp [Hp.set]) (Or.inr hr') fun q hq h0 => by
    have h2 : q ≠ r' := by rintro rfl; exact h0 hr'
    simp [Hp.set, h2, hq]
  have h2 : (A ++ (r, (⟨ty, true, cells⟩ : Row)) :: B).set A.length (r', ⟨ty, true, cells ++ cs⟩) = A ++ (r', ⟨ty, true, cells ++ cs⟩) :: B := by
    rw [List.set_append_right _ _ (by omega)]; simp
  rwa [h2] at h1

theorem fill_c : ∀ (k : Nat) {H : Hp} {n x y : Nat} {tv : AV} {T : List (List Int)} {Q : AV → Hp → Prop}, Mat H tv T → SqT n T → 3 ≤ n → n ≤ 5 → 1 ≤ x → x ≤ y → y + 1 ≤ n → 36 ≤ k + 6 * x + y →
    (∀ r TT H', TT.map tbl = fillF n k T x y → TT.length ≤ 5 ^ (20 - 4 * x - y) → Own no H H' ((r, T3 TT) :: fl TT) → Q (.sl r 0 TT.length) H') →
    ACalls Try.prog w0 126 [.int .i64 n, tv, .int .i64 x, .int .i64 y] H Q
  | 0, H, n, x, y, tv, T, Q, hm, hT, hn3, hn6, hx1, hxy, hyn, hk, hq => by omega
  | k + 1, H, n, x, y, tv, T, Q, hm, hT, hn3, hn6, hx1, hxy, hyn, hk, hq => by
    refine in126 ?_
    have w1 : IntKind.i64.wrap ((n : Int) - 1) = n - 1 := wrap_id (by omega) (by omega)
    have w2 : IntKind.i64.wrap ((x : Int) + 1) = (x + 1 : Nat) := wrap_id (by omega) (by omega)
    have w3 : IntKind.i64.wrap ((y : Int) + 1) = (y + 1 : Nat) := wrap_id (by omega) (by omega)
    have hTr : ∀ x : Int, 0 ≤ x → x < T.length → (T.getD x.toNat []).length ≤ 1000000000 := fun x h0 h1 => by rw [hT.row (by rw [← hT.1]; omega)]; omega
    refine (Classical.em (x + 1 = n)).elim (fun hxn => ?_) (fun hxn => ?_)
    · have c1 : (x : Int) = n - 1 := by omega
      simp only [c126, ↓WP, WQ, if_true, if_false, eq_self, implies_true, ne_eq, List.nil_append, List.cons_append, ↓reduceIte, Nat.reduceEqDiff, Nat.reduceBEq, reduceCtorEq, Nat.reduceAdd, resA, ret1, qv, lv, ev, boolA, binA, intA, shiftA, cmpA, beqA, lres, w1, c1]
      refine chain_c (by omega) (by omega) fun u H1 hu hE1 hrow => ?_
      have o : Own no H H1 [(u, LI (chainS n n))] := by
        refine ⟨hE1.fx, fun _ h => h.elim, by simp, ?_, ?_⟩ <;> simp [LI, hrow, hu]
      simp only [↓WP, WQ, if_true, if_false, eq_self, implies_true, ne_eq, List.nil_append, List.cons_append, ↓reduceIte, Nat.reduceEqDiff, Nat.reduceBEq, reduceCtorEq, Nat.reduceAdd, resA, ret1, qv, lv, ev, boolA, binA, intA, shiftA, cmpA, beqA, lres]
      refine copyTable_c (hm.ext hE1) (by rw [hT.1]; omega) hTr fun q t H2 ht o1 => ?_
      have o := o.call o1 (fun _ h => h)
      have htl : t.length = T.length := by rw [← ht, List.length_map]
      simp only [↓WP, WQ, if_true, if_false, eq_self, implies_true, ne_eq, List.nil_append, List.cons_append, ↓reduceIte, Nat.reduceEqDiff, Nat.reduceBEq, reduceCtorEq, Nat.reduceAdd, resA, ret1, qv, lv, ev, boolA, binA, intA, shiftA, cmpA, beqA, lres, Int.toNat_natCast, fillA_ab (a := .sl u 0 n) (b := .sl q 0 T.length) rfl rfl]
      refine NewRowd_in fun b hb => ?_
      have hS : (H2.set b ⟨36, true, [.nils, .nils]⟩) b = some ⟨36, true, [.nils, .nils]⟩ := Hp.set_same _ _ _
      simp only [↓WP, WQ, if_true, if_false, eq_self, implies_true, ne_eq, List.nil_append, List.cons_append, ↓reduceIte, Nat.reduceEqDiff, Nat.reduceBEq, reduceCtorEq, Nat.reduceAdd, resA, ret1, qv, lv, ev, boolA, binA, intA, shiftA, cmpA, beqA, lres, stA_two (x := .sl u 0 n) (y := .sl q 0 T.length) hS rfl rfl, Hp.set_set]
      have o := o.push (x := ⟨36, true, [.sl u 0 n, .sl q 0 T.length]⟩) hb
      generalize (H2.set b ⟨36, true, [.sl u 0 n, .sl q 0 T.length]⟩) = H3 at *
      have gb := o.get (i := 0) rfl
      have hU := li_ints (o.has (u, LI (chainS n n)) (by simp))
      rw [chainS_len] at hU
      have hM := tr_mat (o.has (q, TR t) (by simp)) (tl_tb o (fun p hp => by simp [hp]))
      rw [ht, htl] at hM
      have hSm : Small ⟨chainS n n, T⟩ := ⟨by simp only [chainS_len]; omega, by simp only [hT.1]; omega, fun x h0 h1 => by have := hTr x h0 h1; simp only; omega⟩
      simp only [↓WP, WQ, if_true, if_false, eq_self, implies_true, ne_eq, List.nil_append, List.cons_append, ↓reduceIte, Nat.reduceEqDiff, Nat.reduceBEq, reduceCtorEq, Nat.reduceAdd, resA, ret1, qv, lv, ev, boolA, binA, intA, shiftA, cmpA, beqA, lres, atN_two gb]
      refine svalidAlgebra_c (A := ⟨chainS n n, T⟩) hU hM hSm (fun ha => ?_) (fun ha => ?_) <;> simp only [↓WP, WQ, if_true, if_false, eq_self, implies_true, ne_eq, List.nil_append, List.cons_append, ↓reduceIte, Nat.reduceEqDiff, Nat.reduceBEq, reduceCtorEq, Nat.reduceAdd, resA, ret1, qv, lv, ev, boolA, binA, intA, shiftA, cmpA, beqA, lres, at_snd gb]
      · simp only [bslv (z := .nils) (x := .sl q 0 T.length) rfl, ↓WP, WQ, if_true, if_false, eq_self, implies_true, ne_eq, List.nil_append, List.cons_append, ↓reduceIte, Nat.reduceEqDiff, Nat.reduceBEq, reduceCtorEq, Nat.reduceAdd, resA, ret1, qv, lv, ev, boolA, binA, intA, shiftA, cmpA, beqA, lres]
        refine NewRowd_in fun r hr => ?_
        simp only [↓WP, WQ, if_true, if_false, eq_self, implies_true, ne_eq, List.nil_append, List.cons_append, ↓reduceIte, Nat.reduceEqDiff, Nat.reduceBEq, reduceCtorEq, Nat.reduceAdd, resA, ret1, qv, lv, ev, boolA, binA, intA, shiftA, cmpA, beqA, lres]
        have o := o.push (x := T3 [(q, t)]) hr
        refine hq r [(q, t)] _ ?_ (Nat.pow_pos (by omega)) ?_
        · simp only [fillF, hxn, if_true, if_pos ha, tbl, List.map_cons, List.map_nil, ht]
        · have e : T3 [(q, t)] = ⟨31, true, [.sl q 0 T.length]⟩ := by simp [T3, htl]
          rw [e] at o ⊢
          have o := o.sub (M := (r, _) :: (q, TR t) :: tl t) (.cons_cons _ (.cons _ (.cons_cons _ (List.sublist_append_left _ _))))
          simpa [fl] using o
      · simp only [bsl0, ↓WP, WQ, if_true, if_false, eq_self, implies_true, ne_eq, List.nil_append, List.cons_append, ↓reduceIte, Nat.reduceEqDiff, Nat.reduceBEq, reduceCtorEq, Nat.reduceAdd, resA, ret1, qv, lv, ev, boolA, binA, intA, shiftA, cmpA, beqA, lres]
        refine NewRowd_in fun r hr => ?_
        simp only [↓WP, WQ, if_true, if_false, eq_self, implies_true, ne_eq, List.nil_append, List.cons_append, ↓reduceIte, Nat.reduceEqDiff, Nat.reduceBEq, reduceCtorEq, Nat.reduceAdd, resA, ret1, qv, lv, ev, boolA, binA, intA, shiftA, cmpA, beqA, lres]
        have o := o.push (x := T3 []) hr
        refine hq r [] _ ?_ (Nat.zero_le _) ?_
        · simp only [fillF, hxn, if_true, if_neg ha, List.map_nil]
        · exact o.sub (M := [(r, T3 [])]) (.cons_cons _ (List.nil_sublist _))
    have c1 : ¬ (x : Int) = n - 1 := by omega
    refine (Classical.em (y + 1 = n)).elim (fun hyn' => ?_) (fun hyn' => ?_)
    · have c2 : (y : Int) = n - 1 := by omega
      simp only [c126, ↓WP, WQ, if_true, if_false, eq_self, implies_true, ne_eq, List.nil_append, List.cons_append, ↓reduceIte, Nat.reduceEqDiff, Nat.reduceBEq, reduceCtorEq, Nat.reduceAdd, resA, ret1, qv, lv, ev, boolA, binA, intA, shiftA, cmpA, beqA, lres, w1, c1, c2, w2]
      refine fill_c k hm hT hn3 hn6 (by omega) (by omega) (by omega) (by omega) fun r TT H' hTT hTl o => ?_
      simp only [↓WP, WQ, if_true, if_false, eq_self, implies_true, ne_eq, List.nil_append, List.cons_append, ↓reduceIte, Nat.reduceEqDiff, Nat.reduceBEq, reduceCtorEq, Nat.reduceAdd, resA, ret1, qv, lv, ev, boolA, binA, intA, shiftA, cmpA, beqA, lres]
      refine hq r TT H' ?_ (Nat.le_trans hTl (Nat.pow_le_pow_right (by omega) (by omega))) o
      simp only [fillF, hxn, if_false, hyn', if_true]
      exact hTT
    have c2 : ¬ (y : Int) = n - 1 := by omega
    simp only [c126, ↓WP, WQ, if_true, if_false, eq_self, implies_true, ne_eq, List.nil_append, List.cons_append, ↓reduceIte, Nat.reduceEqDiff, Nat.reduceBEq, reduceCtorEq, Nat.reduceAdd, resA, ret1, qv, lv, ev, boolA, binA, intA, shiftA, cmpA, beqA, lres, w1, c1, c2, bsl0]
    refine NewRowd_in fun r0 hr0 => ?_
    simp only [↓WP, WQ, if_true, if_false, eq_self, implies_true, ne_eq, List.nil_append, List.cons_append, ↓reduceIte, Nat.reduceEqDiff, Nat.reduceBEq, reduceCtorEq, Nat.reduceAdd, resA, ret1, qv, lv, ev, boolA, binA, intA, shiftA, cmpA, beqA, lres]
    have o := Own.nil0.push (x := T3 []) hr0
    refine W_for 0 (x + 1 : Nat) (fun z e G => ∃ r TT, Sl e [(0, .int .i64 n), (1, tv), (2, .int .i64 x), (3, .int .i64 y), (10, .sl r 0 TT.length), (11, .int .i64 z)] ∧
      TT.map tbl = ((List.range z.toNat).flatMap fun z : Nat => open Classical in if get2 T (x - 1) y ≤ z ∧ get2 T x (y - 1) ≤ z then fillF n k (put2 (put2 T x y z) y x z) x (y + 1) else []) ∧ TT.length ≤ z.toNat * 5 ^ (19 - 4 * x - y) ∧ Own no H G ((r, T3 TT) :: fl TT)) (by omega) ⟨r0, [], by simp only [↓WP, WQ, if_true, if_false, eq_self, implies_true, ne_eq, List.nil_append, List.cons_append, ↓reduceIte, Nat.reduceEqDiff, Nat.reduceBEq, reduceCtorEq, Nat.reduceAdd, resA, ret1, qv, lv, ev, boolA, binA, intA, shiftA, cmpA, beqA, lres]; rfl, rfl, by simp, o⟩ ?_
    rintro z e G hz0 hz1 ⟨r, TT, hs, hTT, hTl, o⟩
    simp only [Sl_cons, Sl_nil, and_true] at hs
    have hw : IntKind.i64.wrap (z + 1) = z + 1 := wrap_id (by omega) (by omega)
    have hmin : min (x : Int) y = x := by omega
    have h5 : 5 ^ (19 - 4 * x - y) ≤ 5 ^ 14 := Nat.pow_le_pow_right (by omega) (by omega)
    refine (Classical.em (z ≤ x)).elim (fun hz => ?_) (fun hz => ?_)
    · have hmG := hm.ext o.ext'
      have wx : IntKind.i64.wrap ((x : Int) - 1) = x - 1 := wrap_id (by omega) (by omega)
      have wy : IntKind.i64.wrap ((y : Int) - 1) = y - 1 := wrap_id (by omega) (by omega)
      have hzlt : z < ((x + 1 : Nat) : Int) := by omega
      obtain ⟨a1, a2, a3, a4⟩ := mat_at2 hmG hT (x := (x : Int) - 1) (y := y) (by omega) (by omega) (by omega) (by omega)
      obtain ⟨b1, b2, b3, b4⟩ := mat_at2 hmG hT (x := (x : Int)) (y := (y : Int) - 1) (by omega) (by omega) (by omega) (by omega)
      have tx : ((x : Int) - 1).toNat = x - 1 := by omega
      have ty : ((y : Int) - 1).toNat = y - 1 := by omega
      simp only [tx, ty, Int.toNat_natCast] at a1 a2 a3 a4 b1 b2 b3 b4
      have hz1' : (z + 1).toNat = z.toNat + 1 := by omega
      have hzz : ((z.toNat : Nat) : Int) = z := by omega
      have no_ : ¬ (get2 T (x - 1) y ≤ z ∧ get2 T x (y - 1) ≤ z) → TT.map tbl = ((List.range (z + 1).toNat).flatMap fun z : Nat => open Classical in if get2 T (x - 1) y ≤ z ∧ get2 T x (y - 1) ≤ z then fillF n k (put2 (put2 T x y z) y x z) x (y + 1) else []) ∧ TT.length ≤ (z + 1).toNat * 5 ^ (19 - 4 * x - y) := fun hc =>
        ⟨by rw [hz1', List.range_succ, List.flatMap_append, ← hTT]; simp only [List.flatMap_cons, List.flatMap_nil, hzz, if_neg hc, List.append_nil], Nat.le_trans hTl (Nat.mul_le_mul_right _ (by omega))⟩
      refine (Classical.em (get2 T (x - 1) y ≤ z)).elim (fun g1 => ?_) (fun g1 => ?_)
      rotate_left
      · simp only [↓WP, WQ, if_true, if_false, eq_self, implies_true, ne_eq, List.nil_append, List.cons_append, ↓reduceIte, Nat.reduceEqDiff, Nat.reduceBEq, reduceCtorEq, Nat.reduceAdd, resA, ret1, qv, lv, ev, boolA, binA, intA, shiftA, cmpA, beqA, lres, hs, mm_min, hmin, hz, wx, a1, a2, a3, a4, g1, hw, hzlt]
        exact ⟨r, TT, rfl, (no_ fun c => g1 c.1).1, (no_ fun c => g1 c.1).2, o⟩
      refine (Classical.em (get2 T x (y - 1) ≤ z)).elim (fun g2 => ?_) (fun g2 => ?_)
      rotate_left
      · simp only [↓WP, WQ, if_true, if_false, eq_self, implies_true, ne_eq, List.nil_append, List.cons_append, ↓reduceIte, Nat.reduceEqDiff, Nat.reduceBEq, reduceCtorEq, Nat.reduceAdd, resA, ret1, qv, lv, ev, boolA, binA, intA, shiftA, cmpA, beqA, lres, hs, mm_min, hmin, hz, wx, a1, a2, a3, a4, g1, wy, b1, b2, b3, b4, g2, hw, hzlt]
        exact ⟨r, TT, rfl, (no_ fun c => g2 c.2).1, (no_ fun c => g2 c.2).2, o⟩
      simp only [↓WP, WQ, if_true, if_false, eq_self, implies_true, ne_eq, List.nil_append, List.cons_append, ↓reduceIte, Nat.reduceEqDiff, Nat.reduceBEq, reduceCtorEq, Nat.reduceAdd, resA, ret1, qv, lv, ev, boolA, binA, intA, shiftA, cmpA, beqA, lres, hs, mm_min, hmin, hz, wx, a1, a2, a3, a4, g1, wy, b1, b2, b3, b4, g2]
      refine copyTable_c hmG (by rw [hT.1]; omega) hTr fun q t H1 ht o1 => ?_
      have hsq := SqT.of (n := n) (by rw [ht]; exact hT)
      have htn := hsq.1
      have hxt : x < t.length := by omega
      have hyt : y < t.length := by omega
      rw [hT.1]
      have o : Own no H H1 ([] ++ (q, TR t) :: (tl t ++ ((r, T3 TT) :: fl TT))) := o.call o1 (fun _ h => h)
      have gq := o.get (i := 0) rfl
      have i1 : idxA 1 (.sl q 0 n) (.int .i64 x) = some (.ptr q x) := sl_idx (y := (x : Int)) (by omega) (by omega)
      have i2 : idxA 1 (.sl q 0 n) (.int .i64 y) = some (.ptr q y) := sl_idx (y := (y : Int)) (by omega) (by omega)
      have i3 : ∀ p, idxA 1 (.sl p 0 n) (.int .i64 x) = some (.ptr p x) := fun p => sl_idx (y := (x : Int)) (by omega) (by omega)
      have i4 : ∀ p, idxA 1 (.sl p 0 n) (.int .i64 y) = some (.ptr p y) := fun p => sl_idx (y := (y : Int)) (by omega) (by omega)
      have lx := hsq.2 x hxt
      obtain ⟨p1, o⟩ := o.put (z := z) hxt (show y < (t[x]).2.length by omega)
      simp only [↓WP, WQ, if_true, if_false, eq_self, implies_true, ne_eq, List.nil_append, List.cons_append, ↓reduceIte, Nat.reduceEqDiff, Nat.reduceBEq, reduceCtorEq, Nat.reduceAdd, resA, ret1, qv, lv, ev, boolA, binA, intA, shiftA, cmpA, beqA, lres, hs, i1, tr_cell gq hxt, lx, i4, p1]
      have hmap := snd_set (t := t) hxt y z
      generalize ht1 : t.set x ((t[x]).1, (t[x]).2.set y z) = t1 at *
      have hl1 : t1.length = t.length := by rw [← ht1]; simp
      rw [ht] at hmap
      have hsq1 := SqT.of (n := n) (t := t1) (by rw [hmap]; exact hT.put (by omega))
      have gq := o.get (i := 0) rfl
      have hyt1 : y < t1.length := by omega
      have ly := hsq1.2 y hyt1
      obtain ⟨p2, o⟩ := o.put (z := z) hyt1 (show x < (t1[y]).2.length by omega)
      generalize (H1.set _ _) = H2 at *
      simp only [↓WP, WQ, if_true, if_false, eq_self, implies_true, ne_eq, List.nil_append, List.cons_append, ↓reduceIte, Nat.reduceEqDiff, Nat.reduceBEq, reduceCtorEq, Nat.reduceAdd, resA, ret1, qv, lv, ev, boolA, binA, intA, shiftA, cmpA, beqA, lres, hs, i2, tr_cell gq hyt1, ly, i3, p2]
      have hmap2 := snd_set (t := t1) hyt1 x z
      generalize ht2 : t1.set y ((t1[y]).1, (t1[y]).2.set x z) = t2 at *
      have hl2 : t2.length = n := by rw [← ht2]; simp; omega
      rw [hmap] at hmap2
      generalize (H2.set _ _) = H3 at *
      have hM := tr_mat (o.get (i := 0) rfl) (tl_tb o (fun p hp => by simp [hp]))
      rw [hmap2, hl2] at hM
      have w3' : IntKind.i64.wrap ((y : Int) + 1) = (y + 1 : Nat) := w3
      simp only [w3']
      refine fill_c k hM ((hT.put (by omega)).put (by omega)) hn3 hn6 (by omega) (by omega) (by omega) (by omega) fun r2 TT2 H4 hTT2 hTl2 o2 => ?_
      have hTl2' : TT2.length ≤ 5 ^ (19 - 4 * x - y) := by rwa [show 20 - 4 * x - (y + 1) = 19 - 4 * x - y by omega] at hTl2
      have hTl3 : TT.length ≤ 5 * 5 ^ 14 := Nat.le_trans hTl (Nat.mul_le_mul (by omega) h5)
      have e14 : 5 ^ 14 = 6103515625 := by decide
      have o := o.call o2 (fun _ h => h)
      have o : Own no H H4 (((r2, T3 TT2) :: (fl TT2 ++ ((q, TR t2) :: tl t2))) ++ (r, T3 TT) :: fl TT) := by
        simpa only [List.cons_append, List.append_assoc, List.nil_append] using o
      simp only [↓WP, WQ, if_true, if_false, eq_self, implies_true, ne_eq, List.nil_append, List.cons_append, ↓reduceIte, Nat.reduceEqDiff, Nat.reduceBEq, reduceCtorEq, Nat.reduceAdd, resA, ret1, qv, lv, ev, boolA, binA, intA, shiftA, cmpA, beqA, lres, hs]
      refine o.app_all (row_own (o.has (r2, T3 TT2) (by simp)) (by simp [T3])) (lenA_sl _ _ _) (by simp) (by omega) (by simp only [maxLen]; omega) fun r' H5 o => ?_
      simp only [↓WP, WQ, if_true, if_false, eq_self, implies_true, ne_eq, List.nil_append, List.cons_append, ↓reduceIte, Nat.reduceEqDiff, Nat.reduceBEq, reduceCtorEq, Nat.reduceAdd, resA, ret1, qv, lv, ev, boolA, binA, intA, shiftA, cmpA, beqA, lres, hs, hw, hzlt]
      refine ⟨r', TT ++ TT2, by simp, ?_, ?_, ?_⟩
      · rw [hz1', List.range_succ, List.flatMap_append, ← hTT, List.map_append, hTT2]
        simp only [List.flatMap_cons, List.flatMap_nil, hzz, if_pos (And.intro g1 g2), List.append_nil]
      · rw [List.length_append, hz1', Nat.succ_mul]; omega
      · have o := o.perm List.perm_middle
        have e : (⟨31, true, (T3 TT).cells ++ (T3 TT2).cells⟩ : Row) = T3 (TT ++ TT2) := by simp [T3]
        have o := o.sub (M := (r', T3 (TT ++ TT2)) :: (fl TT2 ++ fl TT)) (by
          rw [← e]
          refine .cons_cons _ (List.Sublist.append ?_ (.refl _))
          exact .cons _ (List.sublist_append_left _ _))
        rw [fl_add]
        exact o.perm (.cons _ List.perm_append_comm)
    · have hze : z.toNat = x + 1 := by omega
      simp only [↓WP, WQ, if_true, if_false, eq_self, implies_true, ne_eq, List.nil_append, List.cons_append, ↓reduceIte, Nat.reduceEqDiff, Nat.reduceBEq, reduceCtorEq, Nat.reduceAdd, resA, ret1, qv, lv, ev, boolA, binA, intA, shiftA, cmpA, beqA, lres, hs, mm_min, hmin, hz]
      refine hq r TT G ?_ ?_ o
      · rw [hTT, hze]
        simp only [fillF, hxn, hyn', if_false]
      · refine Nat.le_trans hTl ?_
        rw [hze, show 20 - 4 * x - y = (19 - 4 * x - y) + 1 by omega, Nat.pow_succ, Nat.mul_comm]
        exact Nat.mul_le_mul_left _ (by omega)
end Go.AL

/-
  The chains of the reference: the table to begin with, the list of algebras.
-/
namespace Go.AL
open Go.Proofs
set_option linter.unusedSimpArgs false
set_option linter.unusedVariables false
variable {w0 : World} {H : Hp}

theorem tab_congr {f g : Int → Int} {n : Nat} (h : ∀ i : Int, 0 ≤ i → i < n → f i = g i) : tab f n = tab g n := by
  unfold tab
  apply List.map_congr_left
  intro i hi
  exact h i (by omega) (by have := List.mem_range.1 hi; omega)
theorem tab_set (f : Int → Int) {n i : Nat} (hi : i < n) {z : Int} : (tab f n).set i z = tab (fun j => if j = i then z else f j) n := by
  apply List.ext_getElem (by simp [tab])
  intro j h1 h2
  simp only [tab, List.getElem_set, List.getElem_map, List.getElem_range]
  by_cases h : i = j
  · subst h; simp
  · have : ¬ (j : Int) = i := by omega
    simp [h, this]
theorem rep_tab (n : Nat) : List.replicate n (0 : Int) = tab (fun _ => 0) n := by
  apply List.ext_getElem (by simp [tab])
  intro j h1 h2
  simp [tab]

/-- The table to begin with. -/
def zT (n x y : Int) : Int := if x = n - 1 then y else if y = n - 1 then x else 0

/-- Algebras in a list: the rows of their orders, and their tables. -/
def TA (n : Nat) (us : List Nat) (TT : List Tbl) : Row := ⟨36, true, ((us.zip TT).map fun p => [.sl p.1 0 n, .sl p.2.1 0 p.2.2.length]).flatten⟩
theorem pairs_len {l : List (Nat × Tbl)} {n : Nat} : ((l.map fun p => [AV.sl p.1 0 n, AV.sl p.2.1 0 p.2.2.length]).flatten).length = 2 * l.length := by
  induction l with
  | nil => rfl
  | cons a l ih => simp only [List.map_cons, List.flatten_cons, List.length_append, ih, List.length_cons, List.length_nil]; omega
theorem pairs_get {n : Nat} : ∀ {l : List (Nat × Tbl)} {i : Nat} (hi : i < l.length), (((l.map fun p => [AV.sl p.1 0 n, AV.sl p.2.1 0 p.2.2.length]).flatten).drop (2 * i)).take 2 = [AV.sl (l[i]).1 0 n, AV.sl (l[i]).2.1 0 (l[i]).2.2.length]
  | a :: l, 0, _ => by simp
  | a :: l, i + 1, hi => by
    have := pairs_get (n := n) (l := l) (i := i) (by simpa using hi)
    simp only [List.map_cons, List.flatten_cons, List.getElem_cons_succ]
    rw [show 2 * (i + 1) = 2 * i + 2 by omega]
    simpa using this
  | [], i, hi => by simp at hi

theorem zeros_int (n : Nat) : zerosA [AV.int .i64 0] n = (List.replicate n (0 : Int)).map (AV.int .i64) := by
  induction n with
  | zero => rfl
  | succ n ih => simp only [zerosA, List.replicate_succ, List.flatten_cons, List.map_cons] at ih ⊢; rw [ih]; rfl

theorem fillF_sq {n : Nat} : ∀ (k : Nat) {T : List (List Int)} {x y : Nat}, SqT n T → ∀ U ∈ fillF n k T x y, SqT n U
  | 0, T, x, y, _, U, hU => by simp [fillF] at hU
  | k + 1, T, x, y, hT, U, hU => by
    simp only [fillF] at hU
    split at hU
    · split at hU
      · simp only [List.mem_singleton] at hU; rw [hU]; exact hT
      · simp at hU
    · split at hU
      · exact fillF_sq k hT U hU
      · rename_i h1 h2
        simp only [List.mem_flatMap, List.mem_range] at hU
        obtain ⟨z, hz, hU⟩ := hU
        split at hU
        · by_cases hx : x < n
          · by_cases hy : y < n
            · exact fillF_sq k ((hT.put hx).put hy) U hU
            · refine fillF_sq k ?_ U hU
              have := hT.put (y := y) (z := (z : Int)) hx
              unfold put2 at this ⊢
              rw [List.set_eq_of_length_le (by rw [List.length_set, hT.1]; omega)]
              exact this
          · refine fillF_sq k ?_ U hU
            have e : put2 T x y z = T := by unfold put2; rw [List.set_eq_of_length_le (by rw [hT.1]; omega)]
            rw [e]
            by_cases hy : y < n
            · exact hT.put hy
            · unfold put2; rw [List.set_eq_of_length_le (by rw [hT.1]; omega)]; exact hT
        · simp at hU
theorem bsl0' (sz : Nat) (zs : List AV) : fillA sz (zerosA zs 0) [] = some [] := rfl
theorem bsl_pair {x y a b : AV} (ha : a.scal = true) (hb : b.scal = true) : fillA 2 (zerosA [x, y] 1) [(0, .agg [a, b])] = some [a, b] := by
  simp [fillA, zerosA, cells_two ha hb, splice]
theorem zip_snoc {us : List Nat} {u i : Nat} {TT : List Tbl} (h : us.length = i) (hi : i < TT.length) : (us ++ [u]).zip TT = us.zip TT ++ [(u, TT[i])] := by
  subst h
  conv => lhs; rw [show TT = TT.take us.length ++ (TT[us.length] :: TT.drop (us.length + 1)) by rw [List.getElem_cons_drop, List.take_append_drop]]
  rw [List.zip_append (by simp; omega)]
  simp only [List.zip_cons_cons, List.zip_nil_left]
  congr 1
  conv => rhs; rw [← List.take_append_drop us.length TT]
  rw [show us.zip (TT.take us.length ++ TT.drop us.length) = (us ++ []).zip (TT.take us.length ++ TT.drop us.length) by simp, List.zip_append (by simp; omega)]
  simp
theorem lv_bsl0 (ty sz : Nat) (zs : List AV) (e : Env) : lv e (.bsl ty sz zs 0 []) = some (⟨ty, true, []⟩, some 0) := (rfl)
/-- One more pair at the end of a list of pairs. -/
theorem Own.app_pair {X : Nat → Prop} {H0 H : Hp} {L : List (Nat × Row)} {i k q ty by_ r2 : Nat} {cells : List AV} {a b : AV} {K : AV → Hp → Prop} {d : Dep K} (h : Own X H0 H L) (hi : L[i]? = some (q, ⟨ty, true, cells⟩)) (hr2 : H r2 = none) (hc : cells.length = 2 * k) (hl : k ≤ 1000000000000) (hb : by_ ≤ 48)
    (hK : ∀ r' H', Own X H0 H' (L.set i (r', ⟨ty, true, cells ++ [a, b]⟩)) → K (.sl r' 0 (k + 1)) H') :
    AppD ty 2 by_ (.sl q 0 k) (.sl r2 0 1) (H.set r2 ⟨ty, true, [a, b]⟩) K d := by
  have hr := h.get hi
  have hne : q ≠ r2 := ne_new hr hr2
  refine app_own (n := k) (m := 1) (cells := cells) (cs := [a, b]) ?_ (by omega) ?_ rfl ?_ (by simp only [maxLen]; omega) fun r' hr' => hK r' _ ?_
  · simp [Hp.set, hne, hr]
  · simp [Hp.row, Hp.set]
  · have : (k + 1) * by_ ≤ 1000000000001 * 48 := Nat.mul_le_mul (by omega) hb
    omega
  · have h1 := set_none hr'
    refine h.chg hi (by simp [Hp.set]) (Or.inr h1.2) fun p hp h0 => ?_
    have h2 : p ≠ r' := by rintro rfl; exact h0 h1.2
    have h3 : p ≠ r2 := by rintro rfl; exact h0 hr2
    simp [Hp.set, h2, h3, hp]

/-- The chains, as tables. -/
noncomputable def chainsF (n : Nat) : List (List (List Int)) := if n > 2 then fillF n 36 (tab2 (zT n) n n) 1 1 else [tab2 (zT n) n n]

theorem chains_c {n : Nat} (hn1 : 1 ≤ n) (hn5 : n ≤ 5) {Q : AV → Hp → Prop}
    (hq : ∀ r us TT H', TT.map tbl = chainsF n → us.length = TT.length → TT.length ≤ 30517578125 → (∀ p ∈ TT, SqT n (tbl p)) → Own no H H' ((r, TA n us TT) :: (us.map (fun u => (u, LI (chainS n n))) ++ fl TT)) → Q (.sl r 0 TT.length) H') :
    ACalls Try.prog w0 67 [.int .i64 n] H Q := by
  have w1 : IntKind.i64.wrap ((n : Int) - 1) = n - 1 := wrap_id (by omega) (by omega)
  refine in67 ?_
  simp only [c67, ↓WP, WQ, if_true, if_false, eq_self, implies_true, ne_eq, List.nil_append, List.cons_append, ↓reduceIte, Nat.reduceEqDiff, Nat.reduceBEq, reduceCtorEq, Nat.reduceAdd, resA, ret1, qv, lv, ev, boolA, binA, intA, shiftA, cmpA, beqA, lres, bsl0]
  refine NewRowd_in fun q0 hq0 => ?_
  have o := Own.nil0.push (x := TR []) hq0
  simp only [↓WP, WQ, if_true, if_false, eq_self, implies_true, ne_eq, List.nil_append, List.cons_append, ↓reduceIte, Nat.reduceEqDiff, Nat.reduceBEq, reduceCtorEq, Nat.reduceAdd, resA, ret1, qv, lv, ev, boolA, binA, intA, shiftA, cmpA, beqA, lres]
  refine W_for 0 n (fun x e G => ∃ q t, Sl e [(0, .int .i64 n), (3, .sl q 0 x.toNat), (4, .int .i64 x)] ∧ t.length = x.toNat ∧ t.map Prod.snd = tab2 (zT n) n x.toNat ∧ Own no H G ((q, TR t) :: tl t)) (by omega) ⟨q0, [], by simp only [↓WP, WQ, if_true, if_false, eq_self, implies_true, ne_eq, List.nil_append, List.cons_append, ↓reduceIte, Nat.reduceEqDiff, Nat.reduceBEq, reduceCtorEq, Nat.reduceAdd, resA, ret1, qv, lv, ev, boolA, binA, intA, shiftA, cmpA, beqA, lres]; rfl, rfl, rfl, o⟩ ?_
  rintro x e G hx0 hx1 ⟨q, t, hs, hlen, ht, o⟩
  simp only [Sl_cons, Sl_nil, and_true] at hs
  have hw : IntKind.i64.wrap (x + 1) = x + 1 := wrap_id (by omega) (by omega)
  refine (Classical.em (x < n)).elim (fun hx => ?_) (fun hx => ?_)
  · have hc : ((n : Int) = n ∧ (0 : Int) ≤ n ∧ (n : Int) * 8 ≤ 140737488355328 ∧ (n : Int) ≤ 9223372036854775807) := ⟨rfl, by omega, by omega, by omega⟩
    have ix : ∀ r, idxA 1 (.sl r 0 n) (.int .i64 ((n : Int) - 1)) = some (.ptr r (n - 1)) := fun r => by
      have := sl_idx (r := r) (n := n) (k := .i64) (y := (n : Int) - 1) (by omega) (by omega)
      rwa [show ((n : Int) - 1).toNat = n - 1 by omega] at this
    simp only [↓WP, WQ, if_true, if_false, eq_self, implies_true, ne_eq, List.nil_append, List.cons_append, ↓reduceIte, Nat.reduceEqDiff, Nat.reduceBEq, reduceCtorEq, Nat.reduceAdd, resA, ret1, qv, lv, ev, boolA, binA, intA, shiftA, cmpA, beqA, lres, hs, hx, hc, and_self, zeros_int, Int.toNat_natCast]
    refine ⟨by omega, NewRowd_in fun r hr => ?_⟩
    have o := o.push (x := LI (List.replicate n 0)) hr
    have e0 : (⟨3, true, (List.replicate n (0 : Int)).map (AV.int .i64)⟩ : Row) = LI (List.replicate n 0) := rfl
    simp only [e0] at o ⊢
    generalize hG1 : G.set r (LI (List.replicate n 0)) = G1 at *
    have st := stA_li (i := n - 1) (z := x) (o.get (i := 0) rfl) (by simp; omega)
    have o := o.upd (i := 0) (y := LI ((List.replicate n 0).set (n - 1) x)) rfl
    simp only [↓WP, WQ, if_true, if_false, eq_self, implies_true, ne_eq, List.nil_append, List.cons_append, ↓reduceIte, Nat.reduceEqDiff, Nat.reduceBEq, reduceCtorEq, Nat.reduceAdd, resA, ret1, qv, lv, ev, boolA, binA, intA, shiftA, cmpA, beqA, lres, hs, w1, ix, st]
    generalize G1.set r (LI ((List.replicate n 0).set (n - 1) x)) = G2 at *
    simp only [List.set_cons_zero] at o
    have tail : ∀ {r : Nat} {e : Env} {G : Hp} {K : AV → Hp → Prop} {d : Dep K}, Own no H G ((r, LI (tab (zT n x) n)) :: (q, TR t) :: tl t) → ∀ r2, G r2 = none →
        (∀ r' G', Own no H G' ((r', TR (t ++ [(r, tab (zT n x) n)])) :: tl (t ++ [(r, tab (zT n x) n)])) → (t ++ [(r, tab (zT n x) n)]).length = (x + 1).toNat → (t ++ [(r, tab (zT n x) n)]).map Prod.snd = tab2 (zT n) n (x + 1).toNat → K (.sl r' 0 (x + 1).toNat) G') →
        AppD 30 1 24 (.sl q 0 x.toNat) (.sl r2 0 1) (G.set r2 ⟨30, true, [.sl r 0 n]⟩) K d := by
      intro r e G K d o r2 hr2 hK
      have o' : Own no H G ((r, LI (tab (zT n x) n)) :: (LT (.sl q 0 t.length) t ++ ([] ++ tl t))) := o
      have hx' : (x + 1).toNat = x.toNat + 1 := by omega
      rw [← hlen]
      refine o'.app_tab (Or.inr ⟨q, rfl⟩) hr2 (by rw [tab_len]) (by omega) fun r' G' o => ?_
      have h1 : t.length + 1 = (x + 1).toNat := by omega
      rw [h1]
      refine hK r' G' o (by simp; omega) ?_
      rw [hx', tab2_succ, List.map_append, ht, Int.toNat_of_nonneg hx0]; rfl
    refine (Classical.em (x = (n : Int) - 1)).elim (fun hxn => ?_) (fun hxn => ?_)
    · simp only [↓WP, WQ, if_true, if_false, eq_self, implies_true, ne_eq, List.nil_append, List.cons_append, ↓reduceIte, Nat.reduceEqDiff, Nat.reduceBEq, reduceCtorEq, Nat.reduceAdd, resA, ret1, qv, lv, ev, boolA, binA, intA, shiftA, cmpA, beqA, lres, hs, hx, w1, decide_eq_true hxn]
      have h0 : (List.replicate n 0).set (n - 1) x = tab (fun i => if i < 0 then i else if i = (n : Int) - 1 then x else 0) n := by
        rw [rep_tab, tab_set _ (by omega)]
        refine tab_congr fun i i0 i1 => ?_
        rw [if_neg (show ¬ i < 0 by omega), show ((n - 1 : Nat) : Int) = (n : Int) - 1 by omega]
      rw [h0] at o
      refine W_for 0 n (fun y e G => Sl e [(0, .int .i64 n), (3, .sl q 0 x.toNat), (4, .int .i64 x), (5, .sl r 0 n), (6, .int .i64 y)] ∧ Own no H G ((r, LI (tab (fun i => if i < y then i else if i = (n : Int) - 1 then x else 0) n)) :: (q, TR t) :: tl t)) (by omega) ⟨by simp only [↓WP, WQ, if_true, if_false, eq_self, implies_true, ne_eq, List.nil_append, List.cons_append, ↓reduceIte, Nat.reduceEqDiff, Nat.reduceBEq, reduceCtorEq, Nat.reduceAdd, resA, ret1, qv, lv, ev, boolA, binA, intA, shiftA, cmpA, beqA, lres, hs], o⟩ ?_
      rintro y e G hy0 hy1 ⟨hs, o⟩
      simp only [Sl_cons, Sl_nil, and_true] at hs
      have hwy : IntKind.i64.wrap (y + 1) = y + 1 := wrap_id (by omega) (by omega)
      refine (Classical.em (y < n)).elim (fun hy => ?_) (fun hy => ?_)
      · have st := stA_li (i := y.toNat) (z := y) (o.get (i := 0) rfl) (by rw [tab_len]; omega)
        have o := o.upd (i := 0) (y := LI ((tab (fun i => if i < y then i else if i = (n : Int) - 1 then x else 0) n).set y.toNat y)) rfl
        simp only [↓WP, WQ, if_true, if_false, eq_self, implies_true, ne_eq, List.nil_append, List.cons_append, ↓reduceIte, Nat.reduceEqDiff, Nat.reduceBEq, reduceCtorEq, Nat.reduceAdd, resA, ret1, qv, lv, ev, boolA, binA, intA, shiftA, cmpA, beqA, lres, hs, hy, sl_idx hy0 hy, st, hwy]
        simp only [List.set_cons_zero] at o
        have e1 : (tab (fun i => if i < y then i else if i = (n : Int) - 1 then x else 0) n).set y.toNat y = tab (fun i => if i < y + 1 then i else if i = (n : Int) - 1 then x else 0) n := by
          rw [tab_set _ (by omega)]
          refine tab_congr fun i i0 i1 => ?_
          rw [Int.toNat_of_nonneg hy0]
          by_cases h1 : i = y
          · rw [if_pos h1, if_pos (by omega), h1]
          · rw [if_neg h1]
            by_cases h2 : i < y
            · rw [if_pos h2, if_pos (by omega)]
            · rw [if_neg h2, if_neg (show ¬ i < y + 1 by omega)]
        rw [e1] at o ⊢
        exact o
      · have e1 : tab (fun i => if i < y then i else if i = (n : Int) - 1 then x else 0) n = tab (zT n x) n := tab_congr fun i i0 i1 => by
          unfold zT; rw [if_pos (by omega), if_pos hxn]
        rw [e1] at o
        simp only [↓WP, WQ, if_true, if_false, eq_self, implies_true, ne_eq, List.nil_append, List.cons_append, ↓reduceIte, Nat.reduceEqDiff, Nat.reduceBEq, reduceCtorEq, Nat.reduceAdd, resA, ret1, qv, lv, ev, boolA, binA, intA, shiftA, cmpA, beqA, lres, hs, hx, hy, bslv (z := .nils) (x := .sl r 0 n) rfl]
        refine NewRowd_in fun r2 hr2 => ?_
        simp only [↓WP, WQ, if_true, if_false, eq_self, implies_true, ne_eq, List.nil_append, List.cons_append, ↓reduceIte, Nat.reduceEqDiff, Nat.reduceBEq, reduceCtorEq, Nat.reduceAdd, resA, ret1, qv, lv, ev, boolA, binA, intA, shiftA, cmpA, beqA, lres, hs]
        refine tail (e := e) o r2 hr2 fun r' G' o l1 l2 => ?_
        simp only [↓WP, WQ, if_true, if_false, eq_self, implies_true, ne_eq, List.nil_append, List.cons_append, ↓reduceIte, Nat.reduceEqDiff, Nat.reduceBEq, reduceCtorEq, Nat.reduceAdd, resA, ret1, qv, lv, ev, boolA, binA, intA, shiftA, cmpA, beqA, lres, hs, hw, hx]
        exact ⟨r', _, rfl, l1, l2, o⟩
    · have hrow : (List.replicate n 0).set (n - 1) x = tab (zT n x) n := by
        rw [rep_tab, tab_set _ (by omega)]
        refine tab_congr fun i i0 i1 => ?_
        unfold zT
        rw [if_neg hxn, show ((n - 1 : Nat) : Int) = (n : Int) - 1 by omega]
      rw [hrow] at o
      simp only [↓WP, WQ, if_true, if_false, eq_self, implies_true, ne_eq, List.nil_append, List.cons_append, ↓reduceIte, Nat.reduceEqDiff, Nat.reduceBEq, reduceCtorEq, Nat.reduceAdd, resA, ret1, qv, lv, ev, boolA, binA, intA, shiftA, cmpA, beqA, lres, hs, hx, w1, decide_eq_false hxn, bslv (z := .nils) (x := .sl r 0 n) rfl]
      refine NewRowd_in fun r2 hr2 => ?_
      simp only [↓WP, WQ, if_true, if_false, eq_self, implies_true, ne_eq, List.nil_append, List.cons_append, ↓reduceIte, Nat.reduceEqDiff, Nat.reduceBEq, reduceCtorEq, Nat.reduceAdd, resA, ret1, qv, lv, ev, boolA, binA, intA, shiftA, cmpA, beqA, lres, hs]
      refine tail (e := e) o r2 hr2 fun r' G' o l1 l2 => ?_
      simp only [↓WP, WQ, if_true, if_false, eq_self, implies_true, ne_eq, List.nil_append, List.cons_append, ↓reduceIte, Nat.reduceEqDiff, Nat.reduceBEq, reduceCtorEq, Nat.reduceAdd, resA, ret1, qv, lv, ev, boolA, binA, intA, shiftA, cmpA, beqA, lres, hs, hw, hx]
      exact ⟨r', _, rfl, l1, l2, o⟩
  · have hxe : x.toNat = n := by omega
    rw [hxe] at ht hlen
    have hT : SqT n (tab2 (zT n) n n) := ⟨tab2_len _ _ _, tab2_rows⟩
    have hxn : ¬ x < n := hx
    simp only [↓WP, WQ, if_true, if_false, eq_self, implies_true, ne_eq, List.nil_append, List.cons_append, ↓reduceIte, Nat.reduceEqDiff, Nat.reduceBEq, reduceCtorEq, Nat.reduceAdd, resA, ret1, qv, lv, ev, boolA, binA, intA, shiftA, cmpA, beqA, lres, hs, hx, bslv (z := .nils) (x := .sl q 0 x.toNat) rfl]
    refine NewRowd_in fun q1 hq1 => ?_
    have o := o.push (x := T3 [(q, t)]) hq1
    have e0 : (⟨31, true, [.sl q 0 x.toNat]⟩ : Row) = T3 [(q, t)] := by simp [T3, hlen, hxe]
    rw [e0]
    generalize G.set q1 (T3 [(q, t)]) = G1 at *
    refine (Classical.em (2 < (n : Int))).elim (fun h2 => ?_) (fun h2 => ?_)
    · have hM : Mat G1 (.sl q 0 x.toNat) (tab2 (zT n) n n) := by
        have hM := tr_mat (o.get (i := 1) rfl) (tl_tb o (fun p hp => by simp [hp]))
        rw [ht, hlen] at hM
        rwa [hxe]
      simp only [↓WP, WQ, if_true, if_false, eq_self, implies_true, ne_eq, List.nil_append, List.cons_append, ↓reduceIte, Nat.reduceEqDiff, Nat.reduceBEq, reduceCtorEq, Nat.reduceAdd, resA, ret1, qv, lv, ev, boolA, binA, intA, shiftA, cmpA, beqA, lres, hs, h2]
      refine fill_c 36 (x := 1) (y := 1) hM hT (by omega) hn5 (by omega) (by omega) (by omega) (by omega) fun lr TT G2 hTT hTl o2 => ?_
      have o := (o.call o2 (fun _ h => h)).sub (List.sublist_append_left _ _)
      have hc : TT.map tbl = chainsF n := by rw [hTT]; unfold chainsF; rw [if_pos (by omega)]
      have hTl : TT.length ≤ 30517578125 := by simpa using hTl
      have hsq : ∀ p ∈ TT, SqT n (tbl p) := fun p hp => fillF_sq 36 (x := 1) (y := 1) hT _ (by rw [← hTT]; exact List.mem_map_of_mem hp)
      simp only [↓WP, WQ, if_true, if_false, eq_self, implies_true, ne_eq, List.nil_append, List.cons_append, ↓reduceIte, Nat.reduceEqDiff, Nat.reduceBEq, reduceCtorEq, Nat.reduceAdd, resA, ret1, qv, lv, ev, boolA, binA, intA, shiftA, cmpA, beqA, lres, hs, bsl0']
      refine NewRowd_in fun r0 hr0 => ?_
      have o := o.push (x := TA n [] TT) hr0
      simp only [↓WP, WQ, if_true, if_false, eq_self, implies_true, ne_eq, List.nil_append, List.cons_append, ↓reduceIte, Nat.reduceEqDiff, Nat.reduceBEq, reduceCtorEq, Nat.reduceAdd, resA, ret1, qv, lv, ev, boolA, binA, intA, shiftA, cmpA, beqA, lres, hs]
      refine W_for 0 TT.length (fun i e G => ∃ r us, Sl e [(0, .int .i64 n), (7, .sl lr 0 TT.length), (8, .sl r 0 i.toNat), (9, .int .i64 i)] ∧ us.length = i.toNat ∧ Own no H G ((r, TA n us TT) :: (lr, T3 TT) :: (us.map (fun u => (u, LI (chainS n n))) ++ fl TT))) (by omega) ⟨r0, [], by simp only [↓WP, WQ, if_true, if_false, eq_self, implies_true, ne_eq, List.nil_append, List.cons_append, ↓reduceIte, Nat.reduceEqDiff, Nat.reduceBEq, reduceCtorEq, Nat.reduceAdd, resA, ret1, qv, lv, ev, boolA, binA, intA, shiftA, cmpA, beqA, lres, hs]; rfl, rfl, o⟩ ?_
      rintro i e G hi0 hi1 ⟨r, us, hs, hus, o⟩
      simp only [Sl_cons, Sl_nil, and_true] at hs
      have hwi : IntKind.i64.wrap (i + 1) = i + 1 := wrap_id (by omega) (by omega)
      refine (Classical.em (i < TT.length)).elim (fun hi => ?_) (fun hi => ?_) <;> simp only [↓WP, WQ, if_true, if_false, eq_self, implies_true, ne_eq, List.nil_append, List.cons_append, ↓reduceIte, Nat.reduceEqDiff, Nat.reduceBEq, reduceCtorEq, Nat.reduceAdd, resA, ret1, qv, lv, ev, boolA, binA, intA, shiftA, cmpA, beqA, lres, hs, hi]
      · refine DR_in (fun q => q = lr) rfl ?_
        have hiN : i.toNat < TT.length := by omega
        have glr := o.get (i := 1) rfl
        have hat : G.at (.ptr lr i.toNat) = some (.sl (TT[i.toNat]).1 0 (TT[i.toNat]).2.length) := by simp [Hp.at, glr, T3, hiN]
        simp only [↓WP, WQ, if_true, if_false, eq_self, implies_true, ne_eq, List.nil_append, List.cons_append, ↓reduceIte, Nat.reduceEqDiff, Nat.reduceBEq, reduceCtorEq, Nat.reduceAdd, resA, ret1, qv, lv, ev, boolA, binA, intA, shiftA, cmpA, beqA, lres, hs, sl_idx hi0 hi, loadS, ev, hat]
        refine chain_c (by omega) (by omega) fun u G3 hu hE hrow => ?_
        have o2 : Own no G G3 [(u, LI (chainS n n))] := by
          refine ⟨hE.fx, fun _ h => h.elim, by simp, ?_, ?_⟩ <;> simp [LI, hrow, hu]
        refine ⟨fun q hq => by rw [hq]; exact hE lr (some_ne glr), ?_⟩
        have o := o.call o2 (fun _ h => h)
        simp only [↓WP, WQ, if_true, if_false, eq_self, implies_true, ne_eq, List.nil_append, List.cons_append, ↓reduceIte, Nat.reduceEqDiff, Nat.reduceBEq, reduceCtorEq, Nat.reduceAdd, resA, ret1, qv, lv, ev, boolA, binA, intA, shiftA, cmpA, beqA, lres, hs, Int.toNat_natCast, fillA_ab (a := .sl u 0 n) (b := .sl (TT[i.toNat]).1 0 (TT[i.toNat]).2.length) rfl rfl, bsl_pair (a := .sl u 0 n) (b := .sl (TT[i.toNat]).1 0 (TT[i.toNat]).2.length) rfl rfl]
        refine NewRowd_in fun r2 hr2 => ?_
        simp only [↓WP, WQ, if_true, if_false, eq_self, implies_true, ne_eq, List.nil_append, List.cons_append, ↓reduceIte, Nat.reduceEqDiff, Nat.reduceBEq, reduceCtorEq, Nat.reduceAdd, resA, ret1, qv, lv, ev, boolA, binA, intA, shiftA, cmpA, beqA, lres, ↓WDL_app, hs]
        have glr2 := o.get (i := 2) rfl
        refine o.app_pair (i := 1) (k := i.toNat) rfl hr2 (Eq.trans pairs_len (by rw [List.length_zip]; omega)) (by omega) (by omega) fun r' G' o => ?_
        refine ⟨fun q hq => ?_, ?_⟩
        · have h3 := o.get (i := 2) rfl
          rw [hq, h3, Hp.set]
          rw [if_neg (ne_new glr2 hr2), glr2]
        · simp only [↓WP, WQ, if_true, if_false, eq_self, implies_true, ne_eq, List.nil_append, List.cons_append, ↓reduceIte, Nat.reduceEqDiff, Nat.reduceBEq, reduceCtorEq, Nat.reduceAdd, resA, ret1, qv, lv, ev, boolA, binA, intA, shiftA, cmpA, beqA, lres, hs, hi, hwi]
          have hi' : (i + 1).toNat = i.toNat + 1 := by omega
          rw [hi']
          refine ⟨r', us ++ [u], rfl, by simp [hus], ?_⟩
          have hz : (us ++ [u]).zip TT = us.zip TT ++ [(u, TT[i.toNat])] := zip_snoc hus hiN
          have hTA : TA n (us ++ [u]) TT = ⟨36, true, (TA n us TT).cells ++ [.sl u 0 n, .sl (TT[i.toNat]).1 0 (TT[i.toNat]).2.length]⟩ := by
            simp only [TA, hz, List.map_append, List.flatten_append, List.map_cons, List.map_nil, List.flatten_cons, List.flatten_nil, List.append_nil]
          rw [hTA]
          simp only [List.map_append, List.map_cons, List.map_nil, List.append_assoc]
          exact o.perm (List.perm_middle (l₁ := (r', _) :: (lr, T3 TT) :: us.map (fun u => (u, LI (chainS n n)))) (l₂ := fl TT)).symm
      · have hie : i.toNat = TT.length := by omega
        rw [hie] at hus ⊢
        exact hq r us TT G hc hus hTl hsq (o.sub (.cons_cons _ (.cons _ (.refl _))))
    · have o : Own no H G1 ((q1, T3 [(q, t)]) :: fl [(q, t)]) := by simpa [fl] using o
      have hc : [(q, t)].map tbl = chainsF n := by unfold chainsF; rw [if_neg (by omega)]; simp [tbl, ht]
      have hTl : [(q, t)].length ≤ 30517578125 := by simp
      have hsq : ∀ p ∈ [(q, t)], SqT n (tbl p) := fun p hp => by
        simp only [List.mem_singleton] at hp
        rw [hp]; simp only [tbl, ht]; exact hT
      have hsl : ∀ e : Env, e 7 = .sl q1 0 1 → e 7 = .sl q1 0 [(q, t)].length := fun e h => h
      simp only [↓WP, WQ, if_true, if_false, eq_self, implies_true, ne_eq, List.nil_append, List.cons_append, ↓reduceIte, Nat.reduceEqDiff, Nat.reduceBEq, reduceCtorEq, Nat.reduceAdd, resA, ret1, qv, lv, ev, boolA, binA, intA, shiftA, cmpA, beqA, lres, hs, h2, bsl0']
      generalize hlr : q1 = lr at *
      have hl1 : [(q, t)].length = 1 := rfl
      generalize hTT : [(q, t)] = TT at *
      generalize hG2 : G1 = G2 at *
      refine NewRowd_in fun r0 hr0 => ?_
      have o := o.push (x := TA n [] TT) hr0
      simp only [↓WP, WQ, if_true, if_false, eq_self, implies_true, ne_eq, List.nil_append, List.cons_append, ↓reduceIte, Nat.reduceEqDiff, Nat.reduceBEq, reduceCtorEq, Nat.reduceAdd, resA, ret1, qv, lv, ev, boolA, binA, intA, shiftA, cmpA, beqA, lres, hs]
      refine W_for 0 TT.length (fun i e G => ∃ r us, Sl e [(0, .int .i64 n), (7, .sl lr 0 TT.length), (8, .sl r 0 i.toNat), (9, .int .i64 i)] ∧ us.length = i.toNat ∧ Own no H G ((r, TA n us TT) :: (lr, T3 TT) :: (us.map (fun u => (u, LI (chainS n n))) ++ fl TT))) (by omega) ⟨r0, [], by simp only [↓WP, WQ, if_true, if_false, eq_self, implies_true, ne_eq, List.nil_append, List.cons_append, ↓reduceIte, Nat.reduceEqDiff, Nat.reduceBEq, reduceCtorEq, Nat.reduceAdd, resA, ret1, qv, lv, ev, boolA, binA, intA, shiftA, cmpA, beqA, lres, hs, hl1]; rfl, rfl, o⟩ ?_
      rintro i e G hi0 hi1 ⟨r, us, hs, hus, o⟩
      simp only [Sl_cons, Sl_nil, and_true] at hs
      have hwi : IntKind.i64.wrap (i + 1) = i + 1 := wrap_id (by omega) (by omega)
      refine (Classical.em (i < TT.length)).elim (fun hi => ?_) (fun hi => ?_) <;> simp only [↓WP, WQ, if_true, if_false, eq_self, implies_true, ne_eq, List.nil_append, List.cons_append, ↓reduceIte, Nat.reduceEqDiff, Nat.reduceBEq, reduceCtorEq, Nat.reduceAdd, resA, ret1, qv, lv, ev, boolA, binA, intA, shiftA, cmpA, beqA, lres, hs, hi]
      · refine DR_in (fun q => q = lr) rfl ?_
        have hiN : i.toNat < TT.length := by omega
        have glr := o.get (i := 1) rfl
        have hat : G.at (.ptr lr i.toNat) = some (.sl (TT[i.toNat]).1 0 (TT[i.toNat]).2.length) := by simp [Hp.at, glr, T3, hiN]
        simp only [↓WP, WQ, if_true, if_false, eq_self, implies_true, ne_eq, List.nil_append, List.cons_append, ↓reduceIte, Nat.reduceEqDiff, Nat.reduceBEq, reduceCtorEq, Nat.reduceAdd, resA, ret1, qv, lv, ev, boolA, binA, intA, shiftA, cmpA, beqA, lres, hs, sl_idx hi0 hi, loadS, ev, hat]
        refine chain_c (by omega) (by omega) fun u G3 hu hE hrow => ?_
        have o2 : Own no G G3 [(u, LI (chainS n n))] := by
          refine ⟨hE.fx, fun _ h => h.elim, by simp, ?_, ?_⟩ <;> simp [LI, hrow, hu]
        refine ⟨fun q hq => by rw [hq]; exact hE lr (some_ne glr), ?_⟩
        have o := o.call o2 (fun _ h => h)
        simp only [↓WP, WQ, if_true, if_false, eq_self, implies_true, ne_eq, List.nil_append, List.cons_append, ↓reduceIte, Nat.reduceEqDiff, Nat.reduceBEq, reduceCtorEq, Nat.reduceAdd, resA, ret1, qv, lv, ev, boolA, binA, intA, shiftA, cmpA, beqA, lres, hs, Int.toNat_natCast, fillA_ab (a := .sl u 0 n) (b := .sl (TT[i.toNat]).1 0 (TT[i.toNat]).2.length) rfl rfl, bsl_pair (a := .sl u 0 n) (b := .sl (TT[i.toNat]).1 0 (TT[i.toNat]).2.length) rfl rfl]
        refine NewRowd_in fun r2 hr2 => ?_
        simp only [↓WP, WQ, if_true, if_false, eq_self, implies_true, ne_eq, List.nil_append, List.cons_append, ↓reduceIte, Nat.reduceEqDiff, Nat.reduceBEq, reduceCtorEq, Nat.reduceAdd, resA, ret1, qv, lv, ev, boolA, binA, intA, shiftA, cmpA, beqA, lres, ↓WDL_app, hs]
        have glr2 := o.get (i := 2) rfl
        refine o.app_pair (i := 1) (k := i.toNat) rfl hr2 (Eq.trans pairs_len (by rw [List.length_zip]; omega)) (by omega) (by omega) fun r' G' o => ?_
        refine ⟨fun q hq => ?_, ?_⟩
        · have h3 := o.get (i := 2) rfl
          rw [hq, h3, Hp.set]
          rw [if_neg (ne_new glr2 hr2), glr2]
        · simp only [↓WP, WQ, if_true, if_false, eq_self, implies_true, ne_eq, List.nil_append, List.cons_append, ↓reduceIte, Nat.reduceEqDiff, Nat.reduceBEq, reduceCtorEq, Nat.reduceAdd, resA, ret1, qv, lv, ev, boolA, binA, intA, shiftA, cmpA, beqA, lres, hs, hi, hwi]
          have hi' : (i + 1).toNat = i.toNat + 1 := by omega
          rw [hi']
          refine ⟨r', us ++ [u], rfl, by simp [hus], ?_⟩
          have hz : (us ++ [u]).zip TT = us.zip TT ++ [(u, TT[i.toNat])] := zip_snoc hus hiN
          have hTA : TA n (us ++ [u]) TT = ⟨36, true, (TA n us TT).cells ++ [.sl u 0 n, .sl (TT[i.toNat]).1 0 (TT[i.toNat]).2.length]⟩ := by
            simp only [TA, hz, List.map_append, List.flatten_append, List.map_cons, List.map_nil, List.flatten_cons, List.flatten_nil, List.append_nil]
          rw [hTA]
          simp only [List.map_append, List.map_cons, List.map_nil, List.append_assoc]
          exact o.perm (List.perm_middle (l₁ := (r', _) :: (lr, T3 TT) :: us.map (fun u => (u, LI (chainS n n)))) (l₂ := fl TT)).symm
      · have hie : i.toNat = TT.length := by omega
        rw [hie] at hus ⊢
        exact hq r us TT G hc hus hTl hsq (o.sub (.cons_cons _ (.cons _ (.refl _))))
end Go.AL

/-
  Chains with meets are algebras; there is always a chain.
-/
namespace Go.AL
open Go.Proofs
set_option linter.unusedSimpArgs false
set_option linter.unusedVariables false
variable {w0 : World} {H : Hp}

theorem chainS_tab (n : Int) : ∀ z, chainS n z = tab (fun i => 2 ^ n.toNat - 2 ^ i.toNat) z
  | 0 => rfl
  | z + 1 => by rw [chainS, chainS_tab n z, tab_succ]; simp

theorem tb_chain_dec : ∀ n, n < 8 → ∀ x, x < 8 → ∀ y, y < 8 → x < n → y < n → ((2 ^ n - 2 ^ x : Nat).testBit y = decide (x ≤ y)) := by decide

theorem bl_chain {n : Nat} (hn : n ≤ 7) {x y : Int} (hx0 : 0 ≤ x) (hx1 : x < n) (hy0 : 0 ≤ y) (hy1 : y < n) : bl (chainS n n) x y ↔ x ≤ y := by
  unfold bl
  rw [chainS_tab, tab_get hx0 hx1]
  have h1 : (2 : Int) ^ x.toNat ≤ 2 ^ (n : Int).toNat := by exact_mod_cast Nat.pow_le_pow_right (by omega) (by omega)
  have h2 : ((2 : Int) ^ (n : Int).toNat - 2 ^ x.toNat).toNat = 2 ^ n - 2 ^ x.toNat := by
    rw [Int.toNat_natCast]
    have : (2 : Int) ^ n - 2 ^ x.toNat = ((2 ^ n - 2 ^ x.toNat : Nat) : Int) := by
      rw [Int.toNat_natCast] at h1
      have h3 : 2 ^ x.toNat ≤ 2 ^ n := by exact_mod_cast h1
      rw [Int.ofNat_sub h3]; push_cast; rfl
    rw [this, Int.toNat_natCast]
  rw [tb_testBit (by omega) (by omega), h2]
  have := tb_chain_dec n (by omega) x.toNat (by omega) y.toNat (by omega) (by omega) (by omega)
  rw [this]
  simp only [decide_eq_true_eq]
  omega

theorem meet_chain {n : Nat} (hn : n ≤ 7) {x y : Int} (hx0 : 0 ≤ x) (hx1 : x < n) (hy0 : 0 ≤ y) (hy1 : y < n) : meetF (chainS n n) x y = min x y := by
  have hl : (chainS n n).length = n := chainS_len _ _
  refine firstI_eq (by omega) (by rw [hl]; omega) ⟨(bl_chain hn (by omega) (by omega) hx0 hx1).2 (by omega), (bl_chain hn (by omega) (by omega) hy0 hy1).2 (by omega), fun w w0 w1 h1 h2 => ?_⟩ fun k k0 k1 hk => ?_
  · rw [hl] at w1
    rw [bl_chain hn w0 w1 hx0 hx1] at h1
    rw [bl_chain hn w0 w1 hy0 hy1] at h2
    rw [bl_chain hn w0 w1 (by omega) (by omega)]; omega
  · have h := hk.2.2 (min x y) (by omega) (by rw [hl]; omega) ((bl_chain hn (by omega) (by omega) hx0 hx1).2 (by omega)) ((bl_chain hn (by omega) (by omega) hy0 hy1).2 (by omega))
    rw [bl_chain hn (by omega) (by omega) (by omega) (by omega)] at h
    omega
theorem join_chain {n : Nat} (hn : n ≤ 7) {x y : Int} (hx0 : 0 ≤ x) (hx1 : x < n) (hy0 : 0 ≤ y) (hy1 : y < n) : joinF (chainS n n) x y = max x y := by
  have hl : (chainS n n).length = n := chainS_len _ _
  refine firstI_eq (by omega) (by rw [hl]; omega) ⟨(bl_chain hn hx0 hx1 (by omega) (by omega)).2 (by omega), (bl_chain hn hy0 hy1 (by omega) (by omega)).2 (by omega), fun w w0 w1 h1 h2 => ?_⟩ fun k k0 k1 hk => ?_
  · rw [hl] at w1
    rw [bl_chain hn hx0 hx1 w0 w1] at h1
    rw [bl_chain hn hy0 hy1 w0 w1] at h2
    rw [bl_chain hn (by omega) (by omega) w0 w1]; omega
  · have h1 := (bl_chain hn hx0 hx1 k0 (by omega)).1 hk.1
    have h2 := (bl_chain hn hy0 hy1 k0 (by omega)).1 hk.2.1
    omega

theorem chain_lat {n : Nat} (hn1 : 1 ≤ n) (hn : n ≤ 6) : IsLat (chainS n n) := by
  have hl : (chainS n n).length = n := chainS_len _ _
  have b := fun {x y : Int} => bl_chain (n := n) (x := x) (y := y) (by omega)
  refine ⟨⟨by omega, by omega, ?_, ?_, ?_, ?_, ?_, ?_⟩, ?_, ?_⟩ <;> rw [hl]
  · intro x x0 x1
    rw [chainS_tab, tab_get x0 x1]
    have h1 : (2 : Int) ^ x.toNat ≤ 2 ^ (n : Int).toNat := by exact_mod_cast Nat.pow_le_pow_right (by omega) (by omega)
    have h2 : (0 : Int) < 2 ^ x.toNat := by exact_mod_cast Nat.pow_pos (by omega)
    rw [Int.toNat_natCast] at *
    omega
  · exact fun x x0 x1 => (b x0 x1 x0 x1).2 (by omega)
  · exact fun x x0 x1 => (b (by omega) (by omega) x0 x1).2 (by omega)
  · exact fun x x0 x1 => (b x0 x1 (by omega) (by omega)).2 (by omega)
  · intro x y x0 x1 y0 y1 hne h1
    rw [b x0 x1 y0 y1] at h1
    rw [b y0 y1 x0 x1]; omega
  · intro x y z x0 x1 y0 y1 z0 z1 h1 h2
    rw [b x0 x1 y0 y1] at h1
    rw [b y0 y1 z0 z1] at h2
    rw [b x0 x1 z0 z1]; omega
  · intro x y x0 x1 y0 y1
    rw [meet_chain (by omega) x0 x1 y0 y1]; omega
  · intro x y x0 x1 y0 y1
    rw [join_chain (by omega) x0 x1 y0 y1]; omega

/-- A table of a function beside a list. -/
theorem tm_tab2 {l : List Int} {f : Int → Int → Int} {n : Nat} {x y : Int} (x0 : 0 ≤ x) (x1 : x < n) (y0 : 0 ≤ y) (y1 : y < n) : Alg.tm ⟨l, tab2 f n n⟩ x y = f x y := by
  simp only [Alg.tm, tab2_get x0 x1, tab_get y0 y1]
theorem sq_tab2 {l : List Int} {f : Int → Int → Int} {n : Nat} (hl : l.length = n) : Square ⟨l, tab2 f n n⟩ := by
  refine ⟨by simp only [tab2_len, hl], fun x x0 x1 => ?_⟩
  simp only [hl] at x1 ⊢
  rw [tab2_get x0 x1, tab_len]

theorem min_alg {n : Nat} (hn1 : 1 ≤ n) (hn : n ≤ 6) : IsAlg ⟨chainS n n, tab2 min n n⟩ := by
  have hl : (chainS n n).length = n := chainS_len _ _
  have T := fun {x y : Int} => tm_tab2 (l := chainS n n) (f := min) (n := n) (x := x) (y := y)
  have J := fun {x y : Int} => join_chain (n := n) (x := x) (y := y) (by omega)
  refine ⟨chain_lat hn1 hn, sq_tab2 hl, ?_, ?_, ?_, ?_, ?_, ?_⟩ <;> simp only [hl]
  · intro x y x0 x1 y0 y1; rw [T x0 x1 y0 y1]; omega
  · intro x x0 x1; rw [T x0 x1 (by omega) (by omega)]; omega
  · intro x x0 x1; rw [T x0 x1 (by omega) (by omega)]; omega
  · intro x y x0 x1 y0 y1; rw [T x0 x1 y0 y1, T y0 y1 x0 x1]; omega
  · intro x y z x0 x1 y0 y1 z0 z1; rw [T x0 x1 y0 y1, T y0 y1 z0 z1, T (by omega) (by omega) z0 z1, T x0 x1 (by omega) (by omega)]; omega
  · intro x y z x0 x1 y0 y1 z0 z1; rw [J y0 y1 z0 z1, T x0 x1 y0 y1, T x0 x1 z0 z1, T x0 x1 (by omega) (by omega), J (by omega) (by omega) (by omega) (by omega)]; omega

theorem get2_put2 {n : Nat} {T : List (List Int)} (h : SqT n T) {x y i j : Nat} {z : Int} (hx : x < n) (hy : y < n) : get2 (put2 T x y z) i j = if i = x ∧ j = y then z else get2 T i j := by
  have h1 : x < T.length := by rw [h.1]; exact hx
  have h2 : y < (T[x]).length := by rw [h.2 _ (List.getElem_mem h1)]; exact hy
  unfold get2 put2
  by_cases hi : i = x
  · subst hi
    by_cases hj : j = y
    · subst hj; simp [List.getD, h1, h2]
    · have : ¬ y = j := fun e => hj e.symm
      simp [List.getD, h1, this, hj]
  · have : ¬ x = i := fun e => hi e.symm
    simp [List.getD, this, hi]

/-- The cells that have been laid agree with the meets. -/
def MinLike (n : Nat) (T : List (List Int)) (x y : Nat) : Prop :=
  ∀ i j : Nat, i < n → j < n → (i = 0 ∨ j = 0 ∨ i = n - 1 ∨ j = n - 1 ∨ min i j < x ∨ (min i j = x ∧ max i j < y)) → get2 T i j = (min i j : Nat)

theorem table_ext {n : Nat} {T : List (List Int)} {f : Int → Int → Int} (h : SqT n T) (hf : ∀ i j : Nat, i < n → j < n → get2 T i j = f i j) : T = tab2 f n n := by
  apply List.ext_getElem (by rw [h.1, tab2_len])
  intro i h1 h2
  have hi : i < n := by rw [← h.1]; exact h1
  have hr := h.2 _ (List.getElem_mem h1)
  apply List.ext_getElem (by rw [hr, tab2_rows _ (List.getElem_mem h2)])
  intro j h3 h4
  have := hf i j hi (by omega)
  have e : get2 T i j = (T[i])[j] := by simp [get2, List.getD, h1, h3]
  rw [← e, this]
  simp [tab2, tab]

theorem fill_some {n : Nat} (hn3 : 3 ≤ n) (hn : n ≤ 5) : ∀ (k : Nat) {T : List (List Int)} {x y : Nat}, SqT n T → 1 ≤ x → x ≤ y → y + 1 ≤ n → 36 ≤ k + 6 * x + y → MinLike n T x y → fillF n k T x y ≠ []
  | 0, T, x, y, hT, h1, h2, h3, hk, hM => by omega
  | k + 1, T, x, y, hT, h1, h2, h3, hk, hM => by
    simp only [fillF]
    split
    · rename_i hx
      have e : T = tab2 min n n := table_ext hT fun i j hi hj => by
        rw [hM i j hi hj (by omega)]; omega
      rw [e, if_pos (min_alg (by omega) (by omega))]
      simp
    · split
      · rename_i hx hy
        refine fill_some hn3 hn k hT (by omega) (by omega) (by omega) (by omega) fun i j hi hj hc => hM i j hi hj ?_
        omega
      · rename_i hx hy
        intro h
        rw [List.flatMap_eq_nil_iff] at h
        have h := h x (by simp)
        have g1 := hM (x - 1) y (by omega) (by omega) (by omega)
        have g2 := hM x (y - 1) (by omega) (by omega) (by omega)
        rw [if_pos ⟨by rw [g1]; omega, by rw [g2]; omega⟩] at h
        refine fill_some hn3 hn k ((hT.put (by omega)).put (by omega)) h1 (by omega) (by omega) (by omega) (fun i j hi hj hc => ?_) h
        rw [get2_put2 (hT.put (by omega)) (by omega) (by omega), get2_put2 hT (by omega) (by omega)]
        split
        · omega
        · split
          · omega
          · refine hM i j hi hj ?_
            omega

theorem chainsF_some {n : Nat} (hn1 : 1 ≤ n) (hn : n ≤ 5) : chainsF n ≠ [] := by
  unfold chainsF
  split
  · refine fill_some (by omega) hn 36 ⟨tab2_len _ _ _, tab2_rows⟩ (by omega) (by omega) (by omega) (by omega) fun i j hi hj hc => ?_
    have e : get2 (tab2 (zT n) n n) i j = zT n i j := by simp [get2, tab2, tab, List.getD, hi, hj]
    rw [e]
    unfold zT
    split
    · omega
    · split <;> omega
  · simp
end Go.AL

/-
  From the abstract contract of a law over bytes to its row.
-/
namespace Go.AL
open Go.ChangeShapes Go.WideShapes Go.RowKit
set_option linter.unusedSimpArgs false
set_option linter.unusedVariables false

theorem Same.sameAt {W W' : World} (h : Same W W') {p : MemPlace} (hp : p.block < W.heap.size) : W.sameAt W' p := by
  cases p with
  | cell b o =>
    have := h.block b hp
    simp only [World.sameAt]
    simp [World.cell?, this]
  | map b =>
    have := h.block b hp
    simp only [World.sameAt]
    simp [this]

/-- A heap of one row that is only read. -/
def lentH (cells : List AV) : Hp := fun r => if r = 0 then some ⟨0, false, cells⟩ else none
def noH : Hp := fun _ => none

theorem cell_lt {w : World} {a : Addr} {v : Value} (h : w.cell? a = some v) : a.block < w.heap.size := by
  unfold World.cell? at h
  cases hb : w.heap[a.block]? with
  | none => simp [hb] at h
  | some o => exact (Array.getElem?_eq_some_iff.1 hb).1

theorem rel_noH (P : Program) (W : World) (κ : Nat → KB) : Rel P W κ noH W :=
  ⟨⟨rfl, rfl, rfl, Nat.le_refl _, fun _ _ => rfl⟩, fun r row h => by simp [noH] at h, fun r r' row row' h => by simp [noH] at h, ⟨0, fun r _ => rfl⟩⟩

theorem rel_lentH (P : Program) (W : World) (b off n sz : Nat) (cells : List AV) (hs : ∀ c ∈ cells, c.scal = true)
    (hc : ∀ (i : Nat) (c : AV), cells[i]? = some c → ∃ v, W.cell? ⟨b, off + i, none⟩ = some v ∧ VR (fun _ => ⟨b, off, n, sz⟩) (dom (lentH cells)) c v) : Rel P W (fun _ => ⟨b, off, n, sz⟩) (lentH cells) W := by
  refine ⟨⟨rfl, rfl, rfl, Nat.le_refl _, fun _ _ => rfl⟩, fun r row h => ?_, fun r r' row row' h1 h2 h3 => ?_, ⟨1, fun r hr => by simp [lentH]; omega⟩⟩
  · unfold lentH at h
    split at h
    · cases h
      refine ⟨hs, (fun h => by cases h), fun _ i c hi => ?_⟩
      obtain ⟨v, h1, h2⟩ := hc i c hi
      exact ⟨cell_lt h1, v, h1, h2⟩
    · cases h
  · unfold lentH at h1
    split at h1
    · cases h1; cases h3
    · cases h1

/-- A law over bytes: its abstract contract is enough. -/
theorem calls_bytes {P : Program} {f : FuncId} (law : ∀ (w0 : World) (bv : AV) (n : Nat) (H : Hp), Byt H bv n → n ≤ 9223372036854775807 → ACalls P w0 f [bv] H fun v _ => v = .bool true)
    {t e : TypeId} (ht : P.underlying t = some (.slice e)) (he : P.underlying e = some (.int .u8)) (hc : P.cellsOf e = 1)
    {X : Type} {enc : TypeId × Value → X} {W : World} {base : Nat} {v0 : Value} {d : DataW X} {ps : List MemPlace} (hok : Value.okWide P W .any base t v0) (h : DataW.Trod enc P W 0 (fun _ => true) true t v0 d ps) :
    Calls P f #[v0] W fun en w' => en = .returned (.bool true) ∧ Same W w' := by
  obtain ⟨a0, len, cap, rfl⟩ := okWide_slice ht hok
  obtain ⟨fuel, hf⟩ := h
  have main : ∀ (bv : AV) (n : Nat) (H : Hp) (κ : Nat → KB), Byt H bv n → n ≤ 9223372036854775807 → Rel P W κ H W → VR κ (dom H) bv (.slice a0 len cap) → Calls P f #[.slice a0 len cap] W fun en w' => en = .returned (.bool true) ∧ Same W w' := by
    intro bv n H κ hb hn hr hv
    refine ((law W bv n H hb hn).2 0 κ W [.slice a0 len cap] hr ⟨_, _, rfl, hv, rfl⟩).mono fun en w' ⟨v, rv, κ', H', he, hv, hvr, hr', _⟩ => ⟨?_, hr'.same⟩
    subst hv
    rw [he, show rv = .bool true from hvr]
  have hcs : (Value.slice a0 len cap).cells.toList = [.slice a0 len cap] := rfl
  rw [hcs] at hf
  rcases open_ints ht he hc hf with ⟨h1, _⟩ | ⟨a, len', cap', zs, h1, _, hle, hmax, hlen, _, hcell, hwf⟩
  · simp only [List.cons.injEq, Value.slice.injEq, and_true] at h1
    obtain ⟨rfl, rfl, rfl⟩ := h1
    exact main .nils 0 noH (fun _ => default) ⟨rfl, fun i hi => by omega⟩ (by omega) (rel_noH P W _) rfl
  · simp only [List.cons.injEq, Value.slice.injEq, and_true] at h1
    obtain ⟨rfl, rfl, rfl⟩ := h1
    simp only [if_true] at hlen
    unfold maxLen at hmax
    by_cases h0 : len = 0
    · subst h0
      exact main .emp 0 noH (fun _ => default) ⟨rfl, fun i hi => by omega⟩ (by omega) (rel_noH P W _) ⟨a, cap, rfl⟩
    · obtain ⟨b, off, rfl, hc'⟩ := ints_at hcell (by omega)
      have hcells : ∀ (i : Nat) (c : AV), ((zs.take len).map (AV.int .u8))[i]? = some c → i < len ∧ c = .int .u8 (zs.getD i 0) := by
        intro i c hi
        obtain ⟨h1, h2⟩ := List.getElem?_eq_some_iff.1 hi
        simp only [List.length_map, List.length_take] at h1
        simp only [List.getElem_map, List.getElem_take] at h2
        refine ⟨by omega, ?_⟩
        rw [← h2, List.getD_eq_getElem?_getD, List.getElem?_eq_getElem (by omega), Option.getD_some]
      refine main (.sl 0 0 len) len (lentH ((zs.take len).map (AV.int .u8))) (fun _ => ⟨b, off, cap, 1⟩) ⟨rfl, fun i hi => ?_⟩ (by omega) (rel_lentH P W b off cap 1 _ ?_ ?_) ⟨by simp [dom, lentH], cap, rfl, hle, by unfold maxLen; exact hmax, fun _ => by simp⟩
      · refine ⟨zs.getD i 0, ?_, ?_⟩
        · have : i < zs.length := by omega
          simp [elt, Hp.at, lentH, hi, this]
        · have hw := bounds_u8 (hwf (zs.getD i 0) (by
            rw [List.getD_eq_getElem?_getD, List.getElem?_eq_getElem (by omega), Option.getD_some]
            exact List.getElem_mem _))
          exact hw
      · intro c hc
        simp only [List.mem_map] at hc
        obtain ⟨x, _, rfl⟩ := hc
        rfl
      · intro i c hi
        obtain ⟨h1, rfl⟩ := hcells i c hi
        have := hc' i (by omega)
        exact ⟨_, this, rfl⟩

/-- What the caller hands over reads as it did. -/
theorem trodAll_same {X : Type} {enc : TypeId × Value → X} {P : Program} (K : Kids P (· < P.types.size)) (hz : ∀ t e, t < P.types.size → P.underlying t = some (.slice e) → 0 < P.cellsOf e) {W W' : World} (hs : Same W W') {sp : Nat → Bool} :
    ∀ {ts : List TypeId} {vs : List Value} {ds : List (DataW X)} {ps : List MemPlace}, (∀ t ∈ ts, t < P.types.size) → DataW.TrodAll enc P W 0 (fun _ => true) true ts vs ds ps → (∀ p ∈ ps, sp p.block = true) → DataW.TrodAll enc P W' 0 sp true ts vs ds ps
  | [], [], [], ps, _, h, _ => h
  | t :: ts, v :: vs, d :: ds, ps, ht, h, hp => by
    obtain ⟨p, q, ⟨n, h1⟩, h2, rfl⟩ := h
    have lt1 := DataW.trod_lt n t _ _ h1
    refine ⟨p, q, ⟨n, DataW.trod_stays K (fun {t e} => hz t e) (fun h => by cases h) (ht t (by simp)) h1 (fun x hx => hs.sameAt (lt1 x hx)) (fun x hx => hp x (List.mem_append_left _ hx))⟩, ?_, rfl⟩
    exact trodAll_same K hz hs (fun t ht' => ht t (by simp [ht'])) h2 (fun x hx => hp x (List.mem_append_right _ hx))
  | [], _ :: _, _, _, _, h, _ => by cases h
  | [], [], _ :: _, _, _, h, _ => by cases h
  | _ :: _, [], _, _, _, h, _ => by cases h
  | _ :: _, _ :: _, [], _, _, h, _ => by cases h

theorem keptBut_same {W W' : World} (h : Same W W') (may : MemPlace → Prop) : W.keptBut W' may := by
  refine ⟨h.os, h.output, fun i hi => ?_⟩
  rw [h.block i hi]
  cases W.heap[i]? with
  | none => rfl
  | some o =>
    cases o with
    | cells c t fr => exact ⟨rfl, rfl, rfl, fun _ _ => rfl⟩
    | map es clock => exact Or.inr ⟨rfl, rfl⟩
    | _ => rfl

/-- A law that answers true and leaves memory as it was. -/
theorem post_true {X : Type} {enc : TypeId × Value → X} {P : Program} {fn : Func} {s : ChangeSpec} {apart fresh handsOn : Bool} {W W' : World} {args : Array Value} {ds gs : List (DataW X)} {before : List MemPlace} {tb : TypeId}
    (K : Kids P (· < P.types.size)) (hz : ∀ t e, t < P.types.size → P.underlying t = some (.slice e) → 0 < P.cellsOf e) (hts : ∀ t ∈ fn.params.toList, t < P.types.size)
    (hv : s.vars = []) (hres : fn.resultTypes = #[tb]) (hb : P.underlying tb = some .bool) (hs : ∀ ds : List (DataW X), ds.length = fn.params.size → s.fn X ds = { results := [.lit (.bool true)], args := ds })
    (hW : DataW.Whole enc P fn.params.toList s.vars apart W args.toList ds gs before) (h : Same W W') : s.post enc P fn apart fresh handsOn false W args (.bool true) W' := by
  have hW' := hW
  obtain ⟨p, q, hA, hV, rfl, _, _⟩ := hW'
  rw [hv] at hV
  have hg : gs = [] ∧ q = [] := by
    cases gs with
    | nil => exact ⟨rfl, hV⟩
    | cons _ _ => cases hV
  obtain ⟨rfl, rfl⟩ := hg
  have hlen : ds.length = fn.params.size := by
    have := (trodAll_length hA).2
    simpa using this
  have hfn := hs ds hlen
  have hlt := hW.lt
  refine ⟨ds, [], p ++ [], [], p, [], hW, ?_, ?_, ?_, keptBut_same h _, fun h => by cases h⟩
  · rw [List.append_nil, hfn, hres]
    refine trodAll_mk1 ⟨1, ?_⟩
    simp [DataW.trod, hb, Value.cells]
  · rw [List.append_nil, hfn]
    exact trodAll_same K hz h hts hA fun x hx => by simpa using hlt x (by simpa using hx)
  · rw [List.append_nil, hfn, hv]
    rfl

/-- The row of a law over bytes, but for its closed facts. -/
theorem handed_bytes {X : Type} {enc : TypeId × Value → X} {C : Checked} {os : Os} {f : FuncId} {fn : Func} {s : ChangeSpec} {conds : List PathCond} {apart fresh handsOn : Bool} {t e tb : TypeId} (own : ownKnob C.prog.godebug = none) (started : os.Started)
    (noInit : C.prog.inits.idxOf? f = none) (hfn : C.prog.funcs[f]? = some fn)
    (witness : ∃ (w : World) (tape : Tape) (i : Input), w.os = os ∧ (w.forCall tape i).Shaped C.prog ∧ i.vars = [] ∧ Input.okWide C.prog (w.forCall tape i) .any w.heap.size f i ∧
      s.pre6 enc C.prog fn conds apart (w.forCall tape i).memory i.args ∧ Assume.holds {} C.prog (lone (Frame.enter C.prog f i.args .normal) [] (w.forCall tape i)))
    (K : Kids C.prog (· < C.prog.types.size)) (hz : ∀ t e, t < C.prog.types.size → C.prog.underlying t = some (.slice e) → 0 < C.prog.cellsOf e)
    (hp : fn.params = #[t]) (htt : t < C.prog.types.size) (ht : C.prog.underlying t = some (.slice e)) (he : C.prog.underlying e = some (.int .u8)) (hc : C.prog.cellsOf e = 1)
    (hv : s.vars = []) (hres : fn.resultTypes = #[tb]) (hb : C.prog.underlying tb = some .bool) (hs : ∀ d : DataW X, s.fn X [d] = { results := [.lit (.bool true)], args := [d] })
    (law : ∀ (w0 : World) (bv : AV) (n : Nat) (H : Hp), Byt H bv n → n ≤ 9223372036854775807 → ACalls C.prog w0 f [bv] H fun v _ => v = .bool true) :
    ReturnsInHanded {} C os f .any (s.pre6 enc C.prog fn conds apart) (s.post enc C.prog fn apart fresh handsOn false) := by
  refine returnsInHanded_of_change own started noInit hfn witness fun W base args ds gs before hval hW _ _ => ?_
  have hW' := hW
  obtain ⟨p, q, hA, hV, rfl, _, _⟩ := hW'
  rw [hp] at hA
  obtain ⟨v0, d0, rfl, rfl, h0⟩ := trodAll_one hA
  refine (calls_bytes law ht he hc (hval 0 t v0 (by rw [hp]; rfl) rfl) h0).mono fun en w' ⟨h1, h2⟩ => ⟨_, h1, ?_⟩
  refine post_true K hz (by rw [hp]; simpa using htt) hv hres hb (fun ds hl => ?_) hW h2
  rw [hp] at hl
  match ds, hl with
  | [d], _ => exact hs d
end Go.AL

/-
  Calls that answer yes or no and leave nothing behind.
-/
namespace Go.AL
open Go.Proofs
variable {w0 : World} {H : Hp}
theorem quietT {P : Program} {f : Nat} {args : List AV} {R : Prop} (key : ∀ b : Bool, (b = true ↔ R) → ACalls P w0 f args H fun v' H' => v' = .bool b ∧ Ext H H') {Q : AV → Hp → Prop} (ht : R → Q (.bool true) H) (hf : ¬ R → Q (.bool false) H) : ACalls P w0 f args H Q := by
  by_cases h : R
  · exact quiet (.bool true) rfl (key true (by simp [h])) (ht h)
  · exact quiet (.bool false) rfl (key false (by simp [h])) (hf h)
theorem yesT {b : Bool} {R : Prop} (hb : b = true ↔ R) (h : R) : AV.bool true = AV.bool b := by rw [hb.2 h]
theorem noT {b : Bool} {R : Prop} (hb : b = true ↔ R) (h : ¬ R) : AV.bool false = AV.bool b := by
  rw [show b = false from Bool.eq_false_iff.2 fun hh => h (hb.1 hh)]
theorem IsAlg.r62 {A : Alg} (h : IsAlg A) : Rows62 A.up := rows62_of h.hi h.rng
end Go.AL
