/-
  Lemmas that the proofs of the given statements of this seat use. Conditions: none.
-/
import Derived.Test.YtkkgckmgplicjaaM2
import Derived.Test.YtkkgckmgplicjaaM1
import Derived.Deep.Matrix
/-
  From the abstract contract of a law over numbers, lists and algebras to its row.
-/
namespace Go.AL
open Go.ChangeShapes Go.WideShapes Go.RowKit
set_option linter.unusedSimpArgs false
set_option linter.unusedVariables false

/-- Rows that are only read: where each lies, and what it holds. -/
abbrev Rows := List (KB × List AV)
def rowH (R : Rows) : Hp := fun r => match R[r]? with
  | some p => some ⟨0, false, p.2⟩
  | none => none
def rowK (R : Rows) : Nat → KB := fun r => match R[r]? with
  | some p => p.1
  | none => default
def GoodR (W : World) (R : Rows) : Prop := ∀ (r : Nat) (p : KB × List AV), R[r]? = some p → (∀ c ∈ p.2, c.scal = true) ∧ ∀ (i : Nat) (c : AV), p.2[i]? = some c → ∃ v, W.cell? ⟨p.1.blk, p.1.off + i, none⟩ = some v ∧ VR (rowK R) (dom (rowH R)) c v
theorem rowH_ext (R E : Rows) : Ext (rowH R) (rowH (R ++ E)) := fun r hr => by
  unfold rowH at hr ⊢
  cases h : R[r]? with
  | none => rw [h] at hr; exact absurd rfl hr
  | some p =>
    have := (List.getElem?_eq_some_iff.1 h).1
    rw [List.getElem?_append_left this, h]
theorem rowK_ext (R E : Rows) : ∀ r, dom (rowH R) r → rowK (R ++ E) r = rowK R r ∧ dom (rowH (R ++ E)) r := fun r hr => by
  have h2 := rowH_ext R E r hr
  refine ⟨?_, by rw [dom, h2]; exact hr⟩
  unfold dom rowH at hr
  unfold rowK
  cases h : R[r]? with
  | none => rw [h] at hr; exact absurd rfl hr
  | some p =>
    have := (List.getElem?_eq_some_iff.1 h).1
    rw [List.getElem?_append_left this, h]
theorem good_rel {P : Program} {W : World} {R : Rows} (h : GoodR W R) : Rel P W (rowK R) (rowH R) W := by
  refine ⟨⟨rfl, rfl, rfl, Nat.le_refl _, fun _ _ => rfl⟩, fun r row hr => ?_, fun r r' row row' h1 h2 h3 => ?_, ⟨R.length, fun r hr => ?_⟩⟩
  · unfold rowH at hr
    cases hp : R[r]? with
    | none => rw [hp] at hr; cases hr
    | some p =>
      rw [hp] at hr; cases hr
      obtain ⟨g1, g2⟩ := h r p hp
      have hk : rowK R r = p.1 := by unfold rowK; rw [hp]
      refine ⟨g1, (fun h => by cases h), fun _ i c hi => ?_⟩
      obtain ⟨v, h1, h2⟩ := g2 i c hi
      rw [hk]
      exact ⟨cell_lt h1, v, h1, h2⟩
  · unfold rowH at h1
    cases hp : R[r]? with
    | none => rw [hp] at h1; cases h1
    | some p => rw [hp] at h1; cases h1; cases h3
  · unfold rowH
    rw [List.getElem?_eq_none hr]
theorem good_nil (W : World) : GoodR W [] := fun r p h => by simp at h
theorem rowH_last (R : Rows) (b : KB) (cs : List AV) : rowH (R ++ [(b, cs)]) R.length = some ⟨0, false, cs⟩ := by simp [rowH]
theorem rowK_last (R : Rows) (b : KB) (cs : List AV) : rowK (R ++ [(b, cs)]) R.length = b := by simp [rowK]
theorem good_add {W : World} {R : Rows} (h : GoodR W R) {b : KB} {cs : List AV} (hs : ∀ c ∈ cs, c.scal = true) (hc : ∀ (i : Nat) (c : AV), cs[i]? = some c → ∃ v, W.cell? ⟨b.blk, b.off + i, none⟩ = some v ∧ VR (rowK R) (dom (rowH R)) c v) : GoodR W (R ++ [(b, cs)]) := by
  intro r p hp
  have mono : ∀ c v, VR (rowK R) (dom (rowH R)) c v → VR (rowK (R ++ [(b, cs)])) (dom (rowH (R ++ [(b, cs)]))) c v := fun c v => VR.mono (rowK_ext R _) c v
  by_cases hr : r < R.length
  · rw [List.getElem?_append_left hr] at hp
    obtain ⟨g1, g2⟩ := h r p hp
    refine ⟨g1, fun i c hi => ?_⟩
    obtain ⟨v, h1, h2⟩ := g2 i c hi
    exact ⟨v, h1, mono c v h2⟩
  · have : r = R.length := by
      have := (List.getElem?_eq_some_iff.1 hp).1
      simp at this; omega
    subst this
    simp at hp
    subst hp
    refine ⟨hs, fun i c hi => ?_⟩
    obtain ⟨v, h1, h2⟩ := hc i c hi
    exact ⟨v, h1, mono c v h2⟩
theorem plain_of {W : World} {a : Addr} {v : Value} (h : W.cell? (a.add 0) = some v) : a = ⟨a.block, a.off, none⟩ := by
  have := World.cell?_spot h
  cases a; simp_all [Addr.add]

/-- One slice of numbers. -/
theorem add_ints {W : World} {R : Rows} (hG : GoodR W R) {A : Option Addr} {L C : Nat} {Z : List Int} (h1 : L ≤ C) (h2 : C ≤ maxLen) (h3 : Z.length = C) (h5 : A = none → C = 0) (h6 : ∀ a', A = some a' → ∀ c, c < C → W.cell? (a'.add c) = some (.int .i64 (Z.getD c 0))) :
    ∃ E a l, GoodR W (R ++ E) ∧ VR (rowK (R ++ E)) (dom (rowH (R ++ E))) a (.slice A L C) ∧ Ints (rowH (R ++ E)) a l ∧ l.length ≤ maxLen ∧ a.scal = true := by
  cases A with
  | none =>
    have hc := h5 rfl
    subst hc
    have hl : L = 0 := by omega
    subst hl
    exact ⟨[], .nils, [], by simpa using hG, rfl, ⟨rfl, rfl⟩, Nat.zero_le _, rfl⟩
  | some a =>
    by_cases hl : L = 0
    · subst hl
      exact ⟨[], .emp, [], by simpa using hG, ⟨a, C, rfl⟩, ⟨rfl, rfl⟩, Nat.zero_le _, rfl⟩
    · have h0 := h6 a rfl 0 (by omega)
      have ha := plain_of h0
      generalize a.block = b at ha
      generalize a.off = off at ha
      subst ha
      have hcell : ∀ (i : Nat) (c : AV), ((Z.take L).map (AV.int .i64))[i]? = some c → ∃ v, W.cell? ⟨b, off + i, none⟩ = some v ∧ VR (rowK R) (dom (rowH R)) c v := by
        intro i c hi
        obtain ⟨g1, g2⟩ := List.getElem?_eq_some_iff.1 hi
        simp only [List.length_map, List.length_take] at g1
        simp only [List.getElem_map, List.getElem_take] at g2
        have := h6 _ rfl i (by omega)
        refine ⟨.int .i64 (Z.getD i 0), by rw [← add_plain]; exact this, ?_⟩
        rw [← g2]
        show _ = _
        rw [List.getD_eq_getElem?_getD, List.getElem?_eq_getElem (by omega), Option.getD_some]
      have hlen : (Z.take L).length = L := by rw [List.length_take]; omega
      refine ⟨[(⟨b, off, C, 1⟩, (Z.take L).map (AV.int .i64))], .sl R.length 0 L, Z.take L, good_add hG (fun c hc => ?_) hcell, ?_, ?_, by omega, rfl⟩
      · obtain ⟨x, _, rfl⟩ := List.mem_map.1 hc
        rfl
      · refine ⟨by rw [dom, rowH_last]; simp, C, ?_, h1, h2, fun _ => ?_⟩
        · rw [rowK_last]; rfl
        · rw [rowK_last]; simp
      · refine ⟨by rw [hlen]; rfl, ?_⟩
        simp only [Hp.row, rowH_last, Nat.mul_one, Nat.zero_add, List.length_map, hlen, Nat.le_refl, if_true, List.drop_zero]
        rw [List.take_of_length_le (by rw [List.length_map]; omega)]

/-- What an argument may be. -/
def Adds (P : Program) (W : World) (base : Nat) (t : TypeId) (φ : Hp → AV → Prop) : Prop :=
  (∀ H H' a, Ext H H' → φ H a → φ H' a) ∧
  ∀ {X : Type} {enc : TypeId × Value → X} {v : Value} {d : DataW X} {ps : List MemPlace}, Value.okWide P W .any base t v → DataW.Trod enc P W 0 (fun _ => true) true t v d ps → ∀ R, GoodR W R → ∃ E a, GoodR W (R ++ E) ∧ VR (rowK (R ++ E)) (dom (rowH (R ++ E))) a v ∧ φ (rowH (R ++ E)) a

def PInts (H : Hp) (a : AV) : Prop := ∃ l, Ints H a l ∧ l.length ≤ maxLen
def PInt (_ : Hp) (a : AV) : Prop := ∃ n, a = .int .i64 n
def PAlg (H : Hp) (a : AV) : Prop := ∃ (uv tv : AV) (A : Alg), a = .agg [uv, tv] ∧ Ints H uv A.up ∧ Mat H tv A.times ∧ A.up.length ≤ maxLen ∧ A.times.length ≤ maxLen ∧ ∀ x : Int, 0 ≤ x → x < A.times.length → (A.times.getD x.toNat []).length ≤ maxLen

section
variable {P : Program} {W : World} {base : Nat}
theorem adds_int {t : TypeId} (ht : P.underlying t = some (.int .i64)) : Adds P W base t PInt := by
  refine ⟨fun _ _ _ _ h => h, fun hok _ R hG => ?_⟩
  obtain ⟨n, rfl⟩ := okWide_int ht hok
  exact ⟨[], .int .i64 n, by simpa using hG, rfl, n, rfl⟩
theorem cells_ints {X : Type} {enc : TypeId × Value → X} {t e : TypeId} (ht : P.underlying t = some (.slice e)) (he : P.underlying e = some (.int .i64)) (hc : P.cellsOf e = 1) {fuel : Nat} {v : Value} {x : DataW X × List MemPlace} (h : DataW.trod enc P W 0 (fun _ => true) true fuel t [v] = some x) {R : Rows} (hG : GoodR W R) :
    ∃ E a l, GoodR W (R ++ E) ∧ VR (rowK (R ++ E)) (dom (rowH (R ++ E))) a v ∧ Ints (rowH (R ++ E)) a l ∧ l.length ≤ maxLen ∧ a.scal = true := by
  rcases open_ints ht he hc h with ⟨h1, _⟩ | ⟨a, len, cap, zs, h1, _, hle, hmax, hlen, _, hcell, _⟩
  · simp only [List.cons.injEq, and_true] at h1
    subst h1
    exact add_ints hG (A := none) (L := 0) (C := 0) (Z := []) (Nat.le_refl _) (Nat.zero_le _) rfl (fun _ => rfl) (fun _ h => by cases h)
  · simp only [List.cons.injEq, and_true] at h1
    subst h1
    simp only [if_true] at hlen
    refine add_ints hG hle hmax hlen (fun h => by cases h) (fun a' ha c hc => ?_)
    cases ha
    exact hcell c (by omega)
theorem adds_ints {t e : TypeId} (ht : P.underlying t = some (.slice e)) (he : P.underlying e = some (.int .i64)) (hc : P.cellsOf e = 1) : Adds P W base t PInts := by
  refine ⟨fun H H' a hE ⟨l, h1, h2⟩ => ⟨l, h1.ext hE, h2⟩, fun hok h R hG => ?_⟩
  obtain ⟨a0, len, cap, rfl⟩ := okWide_slice ht hok
  obtain ⟨fuel, hf⟩ := h
  obtain ⟨E, a, l, g1, g2, g3, g4, _⟩ := cells_ints ht he hc (v := .slice a0 len cap) hf hG
  exact ⟨E, a, g1, g2, l, g3, g4⟩
theorem cells_rows {X : Type} {enc : TypeId × Value → X} {t e q : TypeId} (ht : P.underlying t = some (.slice e)) (he : P.underlying e = some (.slice q)) (hq : P.underlying q = some (.int .i64)) (ce : P.cellsOf e = 1) (cq : P.cellsOf q = 1) {fuel : Nat} {v : Value} {x : DataW X × List MemPlace}
    (h : DataW.trod enc P W 0 (fun _ => true) true fuel t [v] = some x) {R : Rows} (hG : GoodR W R) :
    ∃ E a T, GoodR W (R ++ E) ∧ VR (rowK (R ++ E)) (dom (rowH (R ++ E))) a v ∧ Mat (rowH (R ++ E)) a T ∧ T.length ≤ maxLen ∧ (∀ x : Int, 0 ≤ x → x < T.length → (T.getD x.toNat []).length ≤ maxLen) ∧ a.scal = true := by
  rcases Go.Deep.open_int_rows ht he hq ce cq h with ⟨h1, _⟩ | ⟨a, len, cap, A, L, C, Z, h1, _, hle, hmax, _, hr⟩
  · simp only [List.cons.injEq, and_true] at h1
    subst h1
    exact ⟨[], .nils, [], by simpa using hG, rfl, ⟨rfl, fun i hi => by simp at hi⟩, Nat.zero_le _, fun x _ hx => by simp at hx; omega, rfl⟩
  simp only [List.cons.injEq, and_true] at h1
  subst h1
  by_cases h0 : len = 0
  · subst h0
    exact ⟨[], .emp, [], by simpa using hG, ⟨a, cap, rfl⟩, ⟨rfl, fun i hi => by simp at hi⟩, Nat.zero_le _, fun x _ hx => by simp at hx; omega, rfl⟩
  have step : ∀ m, m ≤ len → ∃ (E : Rows) (bs : List AV) (T : List (List Int)), bs.length = m ∧ T.length = m ∧ GoodR W (R ++ E) ∧ ∀ j, j < m → ∃ c l, bs[j]? = some c ∧ T[j]? = some l ∧ VR (rowK (R ++ E)) (dom (rowH (R ++ E))) c (.slice (A j) (L j) (C j)) ∧ Ints (rowH (R ++ E)) c l ∧ l.length ≤ maxLen ∧ c.scal = true := by
    intro m
    induction m with
    | zero => exact fun _ => ⟨[], [], [], rfl, rfl, by simpa using hG, fun j hj => by omega⟩
    | succ m ih =>
      intro hm
      obtain ⟨E, bs, T, l1, l2, g, hj⟩ := ih (by omega)
      obtain ⟨_, r1, r2, r3, _, r5, r6⟩ := hr m (by omega)
      obtain ⟨E', c, l, g', v', i', m', s'⟩ := add_ints g r1 r2 r3 r5 (fun a' ha => (r6 a' ha).2)
      rw [List.append_assoc] at g' v' i'
      refine ⟨E ++ E', bs ++ [c], T ++ [l], by simp [l1], by simp [l2], g', fun j hjm => ?_⟩
      have hK := rowK_ext (R ++ E) E'
      have hE := rowH_ext (R ++ E) E'
      rw [List.append_assoc] at hK hE
      by_cases hjm' : j < m
      · obtain ⟨c', l', e1, e2, e3, e4, e5, e6⟩ := hj j hjm'
        exact ⟨c', l', by rw [List.getElem?_append_left (by omega)]; exact e1, by rw [List.getElem?_append_left (by omega)]; exact e2, VR.mono hK c' _ e3, e4.ext hE, e5, e6⟩
      · have : j = m := by omega
        subst this
        exact ⟨c, l, by simp [← l1], by simp [← l2], v', i', m', s'⟩
  obtain ⟨E, bs, T, l1, l2, g, hj⟩ := step len (Nat.le_refl _)
  have ha := plain_of (hr 0 (by omega)).1
  generalize a.block = b at ha
  generalize a.off = off at ha
  subst ha
  have g2 := good_add g (b := ⟨b, off, cap, 1⟩) (cs := bs) (fun c hc => by
    obtain ⟨j, hj1, rfl⟩ := List.mem_iff_getElem.1 hc
    obtain ⟨c', l', e1, _, _, _, _, e6⟩ := hj j (by omega)
    rw [List.getElem?_eq_getElem hj1] at e1; cases e1; exact e6) (fun i c hi => by
    have hi' := (List.getElem?_eq_some_iff.1 hi).1
    obtain ⟨c', l', e1, _, e3, _⟩ := hj i (by omega)
    rw [hi] at e1; cases e1
    exact ⟨_, by rw [← add_plain]; exact (hr i (by omega)).1, e3⟩)
  have hE := rowH_ext (R ++ E) [(⟨b, off, cap, 1⟩, bs)]
  have hl := rowH_last (R ++ E) ⟨b, off, cap, 1⟩ bs
  have hk := rowK_last (R ++ E) ⟨b, off, cap, 1⟩ bs
  rw [List.append_assoc] at g2 hE hl hk
  refine ⟨E ++ [(⟨b, off, cap, 1⟩, bs)], .sl (R ++ E).length 0 len, T, g2, ⟨by rw [dom, hl]; simp, cap, by rw [hk]; rfl, hle, hmax, fun _ => by rw [hk]; simp⟩, ⟨by rw [l2]; rfl, fun i hi => ?_⟩, by omega, fun x x0 x1 => ?_, rfl⟩
  · obtain ⟨c, l, e1, e2, _, e4, _⟩ := hj i (by omega)
    refine ⟨c, ?_, ?_⟩
    · simp only [elt, Hp.at, hl, Nat.mul_one, Nat.zero_add]; exact e1
    · rw [List.getD_eq_getElem?_getD, e2, Option.getD_some]; exact e4.ext hE
  · obtain ⟨c, l, _, e2, _, _, e5, _⟩ := hj x.toNat (by omega)
    rw [List.getD_eq_getElem?_getD, e2, Option.getD_some]; exact e5
theorem adds_alg {t tu tt te tq : TypeId} {f0 f1 : Field} (ht : P.underlying t = some (.struct #[f0, f1])) (hf0 : f0.type = tu) (hf1 : f1.type = tt) (o0 : f0.offset = 0) (o1 : f1.offset = 1) (cu : P.cellsOf tu = 1) (ct : P.cellsOf tt = 1) (c2 : P.cellsOf t = 2)
    (hu : P.underlying tu = some (.slice tq)) (hq : P.underlying tq = some (.int .i64)) (cq : P.cellsOf tq = 1) (htt : P.underlying tt = some (.slice te)) (hte : P.underlying te = some (.slice tq)) (cte : P.cellsOf te = 1) : Adds P W base t PAlg := by
  refine ⟨fun H H' a hE ⟨uv, tv, A, h1, h2, h3, h4⟩ => ⟨uv, tv, A, h1, h2.ext hE, h3.ext hE, h4⟩, fun hok h R hG => ?_⟩
  obtain ⟨cs, rfl, hsz⟩ := okWide_struct ht hok
  obtain ⟨fuel, hf⟩ := h
  rw [c2] at hsz
  obtain ⟨y0, y1, n, _, _, k0, k1⟩ := trod_struct2 ht hf
  rw [hf0, o0, cu] at k0
  rw [hf1, o1, ct] at k1
  obtain ⟨l⟩ := cs
  match l, hsz with
  | [v0, v1], _ =>
    have hcs : (Value.agg ⟨[v0, v1]⟩).cells.toList = [v0, v1] := rfl
    rw [hcs] at k0 k1
    simp only [List.drop_zero, List.take_succ_cons, List.take_zero] at k0
    simp only [List.drop_succ_cons, List.drop_zero, List.take_succ_cons, List.take_zero, List.take_nil] at k1
    obtain ⟨E, a, l, g1, g2, g3, g4, g5⟩ := cells_ints hu hq cq k0 hG
    obtain ⟨E', a', T, e1, e2, e3, e4, e5, e6⟩ := cells_rows htt hte hq cte cq k1 g1
    have hE := rowH_ext (R ++ E) E'
    have hK := rowK_ext (R ++ E) E'
    rw [List.append_assoc] at e1 e2 e3 hE hK
    refine ⟨E ++ E', .agg [a, a'], e1, ⟨[v0, v1], rfl, v0, [v1], rfl, VR.mono hK a _ g2, v1, [], rfl, e2, rfl⟩, a, a', ⟨l, T⟩, rfl, g3.ext hE, e3, g4, e4, e5⟩

/-- All arguments. -/
def AllP (H : Hp) : List (Hp → AV → Prop) → List AV → Prop
  | [], [] => True
  | φ :: φs, a :: bs => φ H a ∧ AllP H φs bs
  | _, _ => False
def AddsAll (P : Program) (W : World) (base : Nat) : List TypeId → List (Hp → AV → Prop) → Prop
  | [], [] => True
  | t :: ts, φ :: φs => Adds P W base t φ ∧ AddsAll P W base ts φs
  | _, _ => False
theorem adds_all {X : Type} {enc : TypeId × Value → X} : ∀ {ts : List TypeId} {φs : List (Hp → AV → Prop)} {vs : List Value} {ds : List (DataW X)} {ps : List MemPlace}, AddsAll P W base ts φs → (∀ (j : Nat) t v, ts[j]? = some t → vs[j]? = some v → Value.okWide P W .any base t v) →
    DataW.TrodAll enc P W 0 (fun _ => true) true ts vs ds ps → ∀ R, GoodR W R → ∃ E bs, GoodR W (R ++ E) ∧ VRs (rowK (R ++ E)) (dom (rowH (R ++ E))) bs vs ∧ AllP (rowH (R ++ E)) φs bs
  | [], [], [], [], ps, _, _, _, R, hG => ⟨[], [], by simpa using hG, rfl, trivial⟩
  | t :: ts, φ :: φs, v :: vs, d :: ds, ps, hA, hok, h, R, hG => by
    obtain ⟨p, q, h1, h2, rfl⟩ := h
    obtain ⟨E, a, g1, g2, g3⟩ := hA.1.2 (hok 0 t v rfl rfl) h1 R hG
    obtain ⟨E', bs, e1, e2, e3⟩ := adds_all hA.2 (fun j t v hj hv => hok (j + 1) t v hj hv) h2 _ g1
    have hE := rowH_ext (R ++ E) E'
    have hK := rowK_ext (R ++ E) E'
    rw [List.append_assoc] at e1 e2 e3 hE hK
    exact ⟨E ++ E', a :: bs, e1, ⟨v, vs, rfl, VR.mono hK a _ g2, e2⟩, hA.1.1 _ _ _ hE g3, e3⟩
  | [], _ :: _, _, _, _, hA, _, _, _, _ => hA.elim
  | _ :: _, [], _, _, _, hA, _, _, _, _ => hA.elim
  | [], [], _ :: _, _, _, _, _, h, _, _ => by cases h
  | [], [], [], _ :: _, _, _, _, h, _, _ => by cases h
  | _ :: _, _ :: _, [], _, _, _, _, h, _, _ => by cases h
  | _ :: _, _ :: _, _ :: _, [], _, _, _, h, _, _ => by cases h
end

/-- The row of a law, but for its closed facts. -/
theorem handed_args {X : Type} {enc : TypeId × Value → X} {C : Checked} {os : Os} {f : FuncId} {fn : Func} {s : ChangeSpec} {conds : List PathCond} {apart fresh handsOn : Bool} {tb : TypeId} (φs : List (Hp → AV → Prop)) (own : ownKnob C.prog.godebug = none) (started : os.Started)
    (noInit : C.prog.inits.idxOf? f = none) (hfn : C.prog.funcs[f]? = some fn)
    (witness : ∃ (w : World) (tape : Tape) (i : Input), w.os = os ∧ (w.forCall tape i).Shaped C.prog ∧ i.vars = [] ∧ Input.okWide C.prog (w.forCall tape i) .any w.heap.size f i ∧
      s.pre6 enc C.prog fn conds apart (w.forCall tape i).memory i.args ∧ Assume.holds {} C.prog (lone (Frame.enter C.prog f i.args .normal) [] (w.forCall tape i)))
    (K : Kids C.prog (· < C.prog.types.size)) (hz : ∀ t e, t < C.prog.types.size → C.prog.underlying t = some (.slice e) → 0 < C.prog.cellsOf e)
    (htt : ∀ t ∈ fn.params.toList, t < C.prog.types.size) (hA : ∀ W base, AddsAll C.prog W base fn.params.toList φs)
    (hv : s.vars = []) (hres : fn.resultTypes = #[tb]) (hb : C.prog.underlying tb = some .bool) (hs : ∀ ds : List (DataW X), ds.length = fn.params.size → s.fn X ds = { results := [.lit (.bool true)], args := ds })
    (law : ∀ (w0 : World) (H : Hp) (bs : List AV), AllP H φs bs → ACalls C.prog w0 f bs H fun v _ => v = .bool true) :
    ReturnsInHanded {} C os f .any (s.pre6 enc C.prog fn conds apart) (s.post enc C.prog fn apart fresh handsOn false) := by
  refine returnsInHanded_of_change own started noInit hfn witness fun W base args ds gs before hval hW _ _ => ?_
  have hW' := hW
  obtain ⟨p, q, hT, hV, rfl, _, _⟩ := hW'
  obtain ⟨E, bs, g1, g2, g3⟩ := adds_all (hA W base) (fun j t v hj hv => hval j t v (by rw [← Array.getElem?_toList]; exact hj) (by rw [← Array.getElem?_toList]; exact hv)) hT [] (good_nil W)
  have hargs : args = args.toList.toArray := by simp
  rw [hargs]
  refine ((law W (rowH ([] ++ E)) bs g3).2 0 _ W args.toList (good_rel g1) g2).mono fun en w' ⟨v, rv, κ', H', he, hv', hvr, hr', _⟩ => ⟨.bool true, ?_, ?_⟩
  · subst hv'
    rw [he, show rv = .bool true from hvr]
  · rw [← hargs]
    exact post_true K hz htt hv hres hb hs hW hr'.same
end Go.AL

/-
  What the exact laws do with their arguments: sizes, copies, comparisons.
-/
namespace Go.AL
open Go.Proofs
set_option linter.unusedSimpArgs false
set_option linter.unusedVariables false
variable {w0 : World} {H : Hp}

theorem zeros_i (n : Nat) : zerosA [AV.int .i64 0] n = (List.replicate n (0 : Int)).map (AV.int .i64) := by
  induction n with
  | zero => rfl
  | succ n ih => simp only [zerosA, List.replicate_succ, List.flatten_cons, List.map_cons] at ih ⊢; rw [ih]; rfl
theorem zeros_n (n : Nat) : zerosA [AV.nils] n = List.replicate n AV.nils := by
  induction n with
  | zero => rfl
  | succ n ih => simp only [zerosA, List.replicate_succ, List.flatten_cons] at ih ⊢; rw [ih]; rfl
theorem stA_cell' {H : Hp} {r ty i : Nat} {cells : List AV} {x : AV} (h : H r = some ⟨ty, true, cells⟩) (hi : i < cells.length) (hx : x.scal = true) : stA H 1 (.ptr r i) x = some (H.set r ⟨ty, true, cells.set i x⟩) := by
  have h1 : splice cells i [x] = cells.set i x := by
    simp only [splice, List.length_cons, List.length_nil]
    rw [List.set_eq_take_append_cons_drop, if_pos hi]
    simp
  have h2 : i + 1 ≤ cells.length := hi
  simp [stA, cells_scal hx, h, h1, h2]
theorem set_fill {α : Type} (a : List α) (x d : α) (k : Nat) : (a ++ List.replicate (k + 1) d).set a.length x = (a ++ [x]) ++ List.replicate k d := by
  rw [List.set_append_right _ _ (Nat.le_refl _), Nat.sub_self, List.replicate_succ, List.set_cons_zero]; simp
theorem take_snoc {α : Type} [Inhabited α] {l : List α} {z : Nat} (h : z < l.length) : l.take (z + 1) = l.take z ++ [l[z]] := List.take_succ_eq_append_getElem h

theorem quiet_any {P : Program} {f : Nat} {args : List AV} {Q : AV → Hp → Prop} (R : AV → Prop) (hp : ∀ v, R v → v.pure = true) (h : ACalls P w0 f args H fun v H' => R v ∧ Ext H H') (hq : ∀ v, R v → Q v H) : ACalls P w0 f args H Q :=
  (ACalls.drop (Q := R) (h.mono fun v H' hv => ⟨hv.2, hp v hv.1, hv.1⟩)).mono fun v H' hv => by obtain ⟨rfl, hR⟩ := hv; exact hq v hR

theorem toIntS_c {v : AV} {l : List Int} (h : Ints H v l) (hn : l.length ≤ 1048576) {Q : AV → Hp → Prop} (hq : ∀ r H', Own no H H' [(r, LI l)] → Q (.sl r 0 l.length) H') :
    ACalls Try.prog w0 29 [v] H Q := by
  refine in29 ?_
  have hc : (0 : Int) ≤ l.length ∧ (l.length : Int) * 8 ≤ 140737488355328 ∧ (l.length : Int) ≤ 9223372036854775807 := ⟨by omega, by omega, by omega⟩
  have hc' : (((l.length : Int) * ((8 : Nat) : Int) ≤ 140737488355328)) := by omega
  simp only [c29, ↓WP, WQ, if_true, if_false, eq_self, implies_true, ne_eq, List.nil_append, List.cons_append, ↓reduceIte, Nat.reduceEqDiff, Nat.reduceBEq, reduceCtorEq, Nat.reduceAdd, resA, ret1, qv, lv, ev, boolA, binA, intA, shiftA, cmpA, beqA, lres, h.len, hc.1, hc', hc.2.2, and_self, zeros_i, Int.toNat_natCast]
  refine NewRowd_in fun r hr => ?_
  have o := Own.nil0.push (x := LI (List.replicate l.length 0)) hr
  simp only [↓WP, WQ, if_true, if_false, eq_self, implies_true, ne_eq, List.nil_append, List.cons_append, ↓reduceIte, Nat.reduceEqDiff, Nat.reduceBEq, reduceCtorEq, Nat.reduceAdd, resA, ret1, qv, lv, ev, boolA, binA, intA, shiftA, cmpA, beqA, lres]
  refine W_for 0 l.length (fun z e H' => Sl e [(0, v), (3, .sl r 0 l.length), (4, .int .i64 z)] ∧ Own no H H' [(r, LI (l.take z.toNat ++ List.replicate (l.length - z.toNat) 0))]) (by omega) ⟨by simp only [↓WP, WQ, if_true, if_false, eq_self, implies_true, ne_eq, List.nil_append, List.cons_append, ↓reduceIte, Nat.reduceEqDiff, Nat.reduceBEq, reduceCtorEq, Nat.reduceAdd, resA, ret1, qv, lv, ev, boolA, binA, intA, shiftA, cmpA, beqA, lres], by
    have e : l.take (0 : Int).toNat ++ List.replicate (l.length - (0 : Int).toNat) 0 = List.replicate l.length 0 := by simp
    rw [e]; exact o⟩ ?_
  rintro z e H' hz0 hz1 ⟨hs, o⟩
  simp only [Sl_cons, Sl_nil, and_true] at hs
  have hw : IntKind.i64.wrap (z + 1) = z + 1 := wrap_id (by omega) (by omega)
  have hl := h.ext o.ext'
  refine (Classical.em (z < l.length)).elim (fun hz => ?_) (fun hz => ?_) <;> simp only [↓WP, WQ, if_true, if_false, eq_self, implies_true, ne_eq, List.nil_append, List.cons_append, ↓reduceIte, Nat.reduceEqDiff, Nat.reduceBEq, reduceCtorEq, Nat.reduceAdd, resA, ret1, qv, lv, ev, boolA, binA, intA, shiftA, cmpA, beqA, lres, hs, h.len, hz]
  · have hzn : z.toNat < l.length := by omega
    have hst := stA_li (i := z.toNat) (z := l.getD z.toNat 0) (o.get (i := 0) rfl) (by simp; omega)
    have hix := sl_idx (r := r) (n := l.length) (k := .i64) hz0 hz
    have o := o.upd (i := 0) (y := LI ((l.take z.toNat ++ List.replicate (l.length - z.toNat) 0).set z.toNat (l.getD z.toNat 0))) rfl
    simp only [↓WP, WQ, if_true, if_false, eq_self, implies_true, ne_eq, List.nil_append, List.cons_append, ↓reduceIte, Nat.reduceEqDiff, Nat.reduceBEq, reduceCtorEq, Nat.reduceAdd, resA, ret1, qv, lv, ev, boolA, binA, intA, shiftA, cmpA, beqA, lres, hs, hl.idx hz0 hz, hl.at hzn, hix, hst, hw, hz]
    have e1 : (l.take z.toNat ++ List.replicate (l.length - z.toNat) 0).set z.toNat (l.getD z.toNat 0) = l.take (z + 1).toNat ++ List.replicate (l.length - (z + 1).toNat) 0 := by
      have hd : l.getD z.toNat 0 = l[z.toNat] := by rw [List.getD_eq_getElem?_getD, List.getElem?_eq_getElem hzn, Option.getD_some]
      have := set_fill (l.take z.toNat) (l.getD z.toNat 0) 0 (l.length - (z.toNat + 1))
      rw [List.length_take, Nat.min_eq_left (by omega), show l.length - (z.toNat + 1) + 1 = l.length - z.toNat by omega] at this
      rw [this, show (z + 1).toNat = z.toNat + 1 by omega, List.take_succ_eq_append_getElem hzn, hd]
    rw [e1] at o ⊢
    exact o
  · have hze : z.toNat = l.length := by omega
    rw [hze, List.take_of_length_le (Nat.le_refl _), Nat.sub_self, List.replicate_zero, List.append_nil] at o
    exact hq r H' o

theorem toIntSS_c {v : AV} {T : List (List Int)} (h : Mat H v T) (hn : T.length ≤ 1048576) (hr : ∀ x : Int, 0 ≤ x → x < T.length → (T.getD x.toNat []).length ≤ 1048576) {Q : AV → Hp → Prop} (hq : ∀ q t H', t.map Prod.snd = T → Own no H H' ((q, TR t) :: tl t) → Q (.sl q 0 t.length) H') :
    ACalls Try.prog w0 72 [v] H Q := by
  refine in72 ?_
  have hc' : (((T.length : Int) * ((24 : Nat) : Int) ≤ 140737488355328)) := by omega
  have hc0 : (0 : Int) ≤ T.length := by omega
  have hc2 : (T.length : Int) ≤ 9223372036854775807 := by omega
  simp only [c72, ↓WP, WQ, if_true, if_false, eq_self, implies_true, ne_eq, List.nil_append, List.cons_append, ↓reduceIte, Nat.reduceEqDiff, Nat.reduceBEq, reduceCtorEq, Nat.reduceAdd, resA, ret1, qv, lv, ev, boolA, binA, intA, shiftA, cmpA, beqA, lres, h.len, hc0, hc', hc2, and_self, zeros_n, Int.toNat_natCast]
  refine NewRowd_in fun r hr0 => ?_
  have o := Own.nil0.push (x := ⟨30, true, List.replicate T.length .nils⟩) hr0
  simp only [↓WP, WQ, if_true, if_false, eq_self, implies_true, ne_eq, List.nil_append, List.cons_append, ↓reduceIte, Nat.reduceEqDiff, Nat.reduceBEq, reduceCtorEq, Nat.reduceAdd, resA, ret1, qv, lv, ev, boolA, binA, intA, shiftA, cmpA, beqA, lres]
  refine W_for 0 T.length (fun z e H' => ∃ t : List (Nat × List Int), Sl e [(0, v), (3, .sl r 0 T.length), (4, .int .i64 z)] ∧ t.map Prod.snd = T.take z.toNat ∧ Own no H H' ((r, ⟨30, true, (TR t).cells ++ List.replicate (T.length - z.toNat) .nils⟩) :: tl t)) (by omega) ⟨[], by simp only [↓WP, WQ, if_true, if_false, eq_self, implies_true, ne_eq, List.nil_append, List.cons_append, ↓reduceIte, Nat.reduceEqDiff, Nat.reduceBEq, reduceCtorEq, Nat.reduceAdd, resA, ret1, qv, lv, ev, boolA, binA, intA, shiftA, cmpA, beqA, lres], by simp, by
    have e : (TR []).cells ++ List.replicate (T.length - (0 : Int).toNat) AV.nils = List.replicate T.length AV.nils := by simp [TR]
    rw [e]; exact o⟩ ?_
  rintro z e H' hz0 hz1 ⟨t, hs, ht, o⟩
  simp only [Sl_cons, Sl_nil, and_true] at hs
  have hw : IntKind.i64.wrap (z + 1) = z + 1 := wrap_id (by omega) (by omega)
  have hm := h.ext o.ext'
  have htl : t.length = min z.toNat T.length := by rw [← List.length_take, ← ht, List.length_map]
  refine (Classical.em (z < T.length)).elim (fun hz => ?_) (fun hz => ?_) <;> simp only [↓WP, WQ, if_true, if_false, eq_self, implies_true, ne_eq, List.nil_append, List.cons_append, ↓reduceIte, Nat.reduceEqDiff, Nat.reduceBEq, reduceCtorEq, Nat.reduceAdd, resA, ret1, qv, lv, ev, boolA, binA, intA, shiftA, cmpA, beqA, lres, hs, h.len, hz]
  · have hzn : z.toNat < T.length := by omega
    have hrow := hm.row hz0 hz
    simp only [↓WP, WQ, if_true, if_false, eq_self, implies_true, ne_eq, List.nil_append, List.cons_append, ↓reduceIte, Nat.reduceEqDiff, Nat.reduceBEq, reduceCtorEq, Nat.reduceAdd, resA, ret1, qv, lv, ev, boolA, binA, intA, shiftA, cmpA, beqA, lres, hs, hm.idx hz0 hz, hm.at hz0 hz]
    refine toIntS_c hrow (hr z hz0 hz) fun r2 H2 o2 => ?_
    have o : Own no H H2 ((r2, LI (T.getD z.toNat [])) :: (r, ⟨30, true, (TR t).cells ++ List.replicate (T.length - z.toNat) .nils⟩) :: tl t) := o.call o2 (fun _ e => e)
    have hst := stA_cell' (i := z.toNat) (x := .sl r2 0 (T.getD z.toNat []).length) (o.get (i := 1) rfl) (by simp [TR]; omega) rfl
    have hix := sl_idx (r := r) (n := T.length) (k := .i64) hz0 hz
    simp only [↓WP, WQ, if_true, if_false, eq_self, implies_true, ne_eq, List.nil_append, List.cons_append, ↓reduceIte, Nat.reduceEqDiff, Nat.reduceBEq, reduceCtorEq, Nat.reduceAdd, resA, ret1, qv, lv, ev, boolA, binA, intA, shiftA, cmpA, beqA, lres, hs, hix, hst, hw, hz]
    have hd : T.getD z.toNat [] = T[z.toNat] := by rw [List.getD_eq_getElem?_getD, List.getElem?_eq_getElem hzn, Option.getD_some]
    have e1 : ((TR t).cells ++ List.replicate (T.length - z.toNat) AV.nils).set z.toNat (.sl r2 0 (T.getD z.toNat []).length) = (TR (t ++ [(r2, T.getD z.toNat [])])).cells ++ List.replicate (T.length - (z + 1).toNat) AV.nils := by
      have hcl : (TR t).cells.length = z.toNat := by simp [TR]; omega
      have := set_fill (TR t).cells (.sl r2 0 (T.getD z.toNat []).length) AV.nils (T.length - (z.toNat + 1))
      rw [hcl, show T.length - (z.toNat + 1) + 1 = T.length - z.toNat by omega] at this
      rw [this, show (z + 1).toNat = z.toNat + 1 by omega]
      simp [TR]
    have o := o.upd (i := 1) (y := ⟨30, true, ((TR t).cells ++ List.replicate (T.length - z.toNat) AV.nils).set z.toNat (.sl r2 0 (T.getD z.toNat []).length)⟩) rfl
    simp only [List.set_cons_succ, List.set_cons_zero] at o
    rw [e1] at o ⊢
    refine ⟨t ++ [(r2, T.getD z.toNat [])], ?_, ?_⟩
    · rw [List.map_append, ht, show (z + 1).toNat = z.toNat + 1 by omega, List.take_succ_eq_append_getElem hzn, hd]; rfl
    · rw [tl_add]
      exact o.perm ((List.Perm.swap _ _ _).trans (.cons _ (List.perm_append_singleton _ _).symm))
  · have hze : z.toNat = T.length := by omega
    rw [hze, List.take_of_length_le (Nat.le_refl _)] at ht
    rw [hze, Nat.sub_self, List.replicate_zero, List.append_nil] at o
    rw [show T.length = t.length by omega]
    exact hq r t H' ht o

theorem eqIntS_c {v w : AV} {a b : List Int} (h : Ints H v a) (g : Ints H w b) (hn : a.length < 4611686018427387904) (hn' : b.length < 4611686018427387904) {Q : AV → Hp → Prop} (ht : a = b → Q (.bool true) H) (hf : a ≠ b → Q (.bool false) H) :
    ACalls Try.prog w0 31 [v, w] H Q := by
  refine in31 ?_
  refine (Classical.em ((a.length : Int) = b.length)).elim (fun hl => ?_) (fun hl => ?_)
  rotate_left
  · simp only [c31, ↓WP, WQ, if_true, if_false, eq_self, implies_true, ne_eq, List.nil_append, List.cons_append, ↓reduceIte, Nat.reduceEqDiff, Nat.reduceBEq, reduceCtorEq, Nat.reduceAdd, resA, ret1, qv, lv, ev, boolA, binA, intA, shiftA, cmpA, beqA, lres, h.len, g.len, decide_eq_false hl]
    exact hf fun hab => hl (by rw [hab])
  simp only [c31, ↓WP, WQ, if_true, if_false, eq_self, implies_true, ne_eq, List.nil_append, List.cons_append, ↓reduceIte, Nat.reduceEqDiff, Nat.reduceBEq, reduceCtorEq, Nat.reduceAdd, resA, ret1, qv, lv, ev, boolA, binA, intA, shiftA, cmpA, beqA, lres, h.len, g.len, decide_eq_true hl]
  refine W_for 0 a.length (fun z e H' => H' = H ∧ Sl e [(0, v), (1, w), (5, .int .i64 z)] ∧ allI z fun i => a.getD i.toNat 0 = b.getD i.toNat 0) (by omega) ⟨rfl, by simp only [↓WP, WQ, if_true, if_false, eq_self, implies_true, ne_eq, List.nil_append, List.cons_append, ↓reduceIte, Nat.reduceEqDiff, Nat.reduceBEq, reduceCtorEq, Nat.reduceAdd, resA, ret1, qv, lv, ev, boolA, binA, intA, shiftA, cmpA, beqA, lres], allI_zero⟩ ?_
  rintro z e H' hz0 hzn ⟨rfl, hs, hno⟩
  simp only [Sl_cons, Sl_nil, and_true] at hs
  have hw : IntKind.i64.wrap (z + 1) = z + 1 := wrap_id (by omega) (by omega)
  simp only [↓WP, WQ, if_true, if_false, eq_self, implies_true, ne_eq, List.nil_append, List.cons_append, ↓reduceIte, Nat.reduceEqDiff, Nat.reduceBEq, reduceCtorEq, Nat.reduceAdd, resA, ret1, qv, lv, ev, boolA, binA, intA, shiftA, cmpA, beqA, lres, hs, h.len]
  refine Br_dec (fun hz => ?_) (fun hz => ?_) <;> simp only [↓WP, WQ, if_true, if_false, eq_self, implies_true, ne_eq, List.nil_append, List.cons_append, ↓reduceIte, Nat.reduceEqDiff, Nat.reduceBEq, reduceCtorEq, Nat.reduceAdd, resA, ret1, qv, lv, ev, boolA, binA, intA, shiftA, cmpA, beqA, lres, hs, hz]
  · have hzb : z < b.length := by omega
    refine DR_in (fun _ => True) rfl ?_
    refine (Classical.em (a.getD z.toNat 0 = b.getD z.toNat 0)).elim (fun ha => ?_) (fun ha => ?_)
    · simp only [↓WP, WQ, if_true, if_false, eq_self, implies_true, ne_eq, List.nil_append, List.cons_append, ↓reduceIte, Nat.reduceEqDiff, Nat.reduceBEq, reduceCtorEq, Nat.reduceAdd, resA, ret1, qv, lv, ev, boolA, binA, intA, shiftA, cmpA, beqA, lres, hs, hz, h.idx hz0 hz, h.at (show z.toNat < a.length by omega), g.idx hz0 hzb, g.at (show z.toNat < b.length by omega), decide_eq_true ha, hw]
      exact (allI_succ hz0).2 ⟨hno, ha⟩
    · simp only [↓WP, WQ, if_true, if_false, eq_self, implies_true, ne_eq, List.nil_append, List.cons_append, ↓reduceIte, Nat.reduceEqDiff, Nat.reduceBEq, reduceCtorEq, Nat.reduceAdd, resA, ret1, qv, lv, ev, boolA, binA, intA, shiftA, cmpA, beqA, lres, hs, hz, h.idx hz0 hz, h.at (show z.toNat < a.length by omega), g.idx hz0 hzb, g.at (show z.toNat < b.length by omega), decide_eq_false ha]
      exact hf fun hab => ha (by rw [hab])
  · exact ht (list_ext (by omega) fun i h0 h1 => hno i h0 (by omega))

def Lim (n : Nat) (T : List (List Int)) : Prop := T.length ≤ n ∧ ∀ x : Int, 0 ≤ x → x < T.length → (T.getD x.toNat []).length ≤ n

theorem mat_ext {S T : List (List Int)} (hl : S.length = T.length) (h : ∀ i : Int, 0 ≤ i → i < S.length → S.getD i.toNat [] = T.getD i.toNat []) : S = T := by
  apply List.ext_getElem hl
  intro i h1 h2
  have := h i (by omega) (by omega)
  simpa [h1, h2] using this

theorem eqIntSS_c {v w : AV} {S T : List (List Int)} {n : Nat} (h : Mat H v S) (g : Mat H w T) (hS : Lim n S) (hT : Lim n T) (hn : n < 4611686018427387904) {Q : AV → Hp → Prop} (ht : S = T → Q (.bool true) H) (hf : S ≠ T → Q (.bool false) H) :
    ACalls Try.prog w0 23 [v, w] H Q := by
  have hS1 := hS.1
  have hT1 := hT.1
  refine in23 ?_
  refine (Classical.em ((S.length : Int) = T.length)).elim (fun hl => ?_) (fun hl => ?_)
  rotate_left
  · simp only [c23, ↓WP, WQ, if_true, if_false, eq_self, implies_true, ne_eq, List.nil_append, List.cons_append, ↓reduceIte, Nat.reduceEqDiff, Nat.reduceBEq, reduceCtorEq, Nat.reduceAdd, resA, ret1, qv, lv, ev, boolA, binA, intA, shiftA, cmpA, beqA, lres, h.len, g.len, decide_eq_false hl]
    exact hf fun hab => hl (by rw [hab])
  simp only [c23, ↓WP, WQ, if_true, if_false, eq_self, implies_true, ne_eq, List.nil_append, List.cons_append, ↓reduceIte, Nat.reduceEqDiff, Nat.reduceBEq, reduceCtorEq, Nat.reduceAdd, resA, ret1, qv, lv, ev, boolA, binA, intA, shiftA, cmpA, beqA, lres, h.len, g.len, decide_eq_true hl]
  refine W_for 0 S.length (fun z e H' => H' = H ∧ Sl e [(0, v), (1, w), (5, .int .i64 z)] ∧ allI z fun i => S.getD i.toNat [] = T.getD i.toNat []) (by omega) ⟨rfl, by simp only [↓WP, WQ, if_true, if_false, eq_self, implies_true, ne_eq, List.nil_append, List.cons_append, ↓reduceIte, Nat.reduceEqDiff, Nat.reduceBEq, reduceCtorEq, Nat.reduceAdd, resA, ret1, qv, lv, ev, boolA, binA, intA, shiftA, cmpA, beqA, lres], allI_zero⟩ ?_
  rintro z e H' hz0 hzn ⟨rfl, hs, hno⟩
  simp only [Sl_cons, Sl_nil, and_true] at hs
  have hw : IntKind.i64.wrap (z + 1) = z + 1 := wrap_id (by omega) (by omega)
  simp only [↓WP, WQ, if_true, if_false, eq_self, implies_true, ne_eq, List.nil_append, List.cons_append, ↓reduceIte, Nat.reduceEqDiff, Nat.reduceBEq, reduceCtorEq, Nat.reduceAdd, resA, ret1, qv, lv, ev, boolA, binA, intA, shiftA, cmpA, beqA, lres, hs, h.len]
  refine Br_dec (fun hz => ?_) (fun hz => ?_) <;> simp only [↓WP, WQ, if_true, if_false, eq_self, implies_true, ne_eq, List.nil_append, List.cons_append, ↓reduceIte, Nat.reduceEqDiff, Nat.reduceBEq, reduceCtorEq, Nat.reduceAdd, resA, ret1, qv, lv, ev, boolA, binA, intA, shiftA, cmpA, beqA, lres, hs, hz]
  · have hzb : z < T.length := by omega
    have l1 := hS.2 z hz0 hz
    have l2 := hT.2 z hz0 hzb
    refine DR_in (fun _ => True) rfl ?_
    simp only [↓WP, WQ, if_true, if_false, eq_self, implies_true, ne_eq, List.nil_append, List.cons_append, ↓reduceIte, Nat.reduceEqDiff, Nat.reduceBEq, reduceCtorEq, Nat.reduceAdd, resA, ret1, qv, lv, ev, boolA, binA, intA, shiftA, cmpA, beqA, lres, hs, h.idx hz0 hz, h.at hz0 hz, g.idx hz0 hzb, g.at hz0 hzb]
    refine eqIntS_c (h.row hz0 hz) (g.row hz0 hzb) (by omega) (by omega) (fun ha => ?_) (fun ha => ?_)
    · simp only [↓WP, WQ, if_true, if_false, eq_self, implies_true, ne_eq, List.nil_append, List.cons_append, ↓reduceIte, Nat.reduceEqDiff, Nat.reduceBEq, reduceCtorEq, Nat.reduceAdd, resA, ret1, qv, lv, ev, boolA, binA, intA, shiftA, cmpA, beqA, lres, hs, hw, hz]
      exact (allI_succ hz0).2 ⟨hno, ha⟩
    · simp only [↓WP, WQ, if_true, if_false, eq_self, implies_true, ne_eq, List.nil_append, List.cons_append, ↓reduceIte, Nat.reduceEqDiff, Nat.reduceBEq, reduceCtorEq, Nat.reduceAdd, resA, ret1, qv, lv, ev, boolA, binA, intA, shiftA, cmpA, beqA, lres, hs]
      exact hf fun hab => ha (by rw [hab])
  · exact ht (mat_ext (by omega) fun i h0 h1 => hno i h0 (by omega))

theorem eqAlgebra_c {uv tv uw tw : AV} {A B : Alg} {n : Nat} (h : Ints H uv A.up) (hm : Mat H tv A.times) (g : Ints H uw B.up) (gm : Mat H tw B.times) (hA : A.up.length ≤ n) (hAt : Lim n A.times) (hB : B.up.length ≤ n) (hBt : Lim n B.times) (hn : n < 4611686018427387904) {Q : AV → Hp → Prop} (ht : A = B → Q (.bool true) H) (hf : A ≠ B → Q (.bool false) H) :
    ACalls Try.prog w0 24 [.agg [uv, tv], .agg [uw, tw]] H Q := by
  have key : ∀ b : Bool, (b = true ↔ A = B) → ACalls Try.prog w0 24 [.agg [uv, tv], .agg [uw, tw]] H fun v' H' => v' = .bool b ∧ Ext H H' := by
    intro b hb
    refine in24 ?_
    simp only [c24, ↓WP, WQ, if_true, if_false, eq_self, implies_true, ne_eq, List.nil_append, List.cons_append, ↓reduceIte, Nat.reduceEqDiff, Nat.reduceBEq, reduceCtorEq, Nat.reduceAdd, resA, ret1, qv, lv, ev, boolA, binA, intA, shiftA, cmpA, beqA, lres, cells_alg h.len hm.len, cells_alg g.len gm.len]
    refine NewRowd_in fun b1 hb1 => ?_
    have o := Own.nil0.push (x := ⟨36, true, [uv, tv]⟩) hb1
    generalize H.set b1 ⟨36, true, [uv, tv]⟩ = G at *
    simp only [↓WP, WQ, if_true, if_false, eq_self, implies_true, ne_eq, List.nil_append, List.cons_append, ↓reduceIte, Nat.reduceEqDiff, Nat.reduceBEq, reduceCtorEq, Nat.reduceAdd, resA, ret1, qv, lv, ev, boolA, binA, intA, shiftA, cmpA, beqA, lres, cells_alg g.len gm.len]
    refine NewRowd_in fun b2 hb2 => ?_
    have o := o.push (x := ⟨36, true, [uw, tw]⟩) hb2
    generalize G.set b2 ⟨36, true, [uw, tw]⟩ = G2 at *
    have g1 := o.get (i := 1) rfl
    have g2 := o.get (i := 0) rfl
    simp only [↓WP, WQ, if_true, if_false, eq_self, implies_true, ne_eq, List.nil_append, List.cons_append, ↓reduceIte, Nat.reduceEqDiff, Nat.reduceBEq, reduceCtorEq, Nat.reduceAdd, resA, ret1, qv, lv, ev, boolA, binA, intA, shiftA, cmpA, beqA, lres, at_fst g1, at_fst g2]
    refine eqIntS_c (h.ext o.ext') (g.ext o.ext') (by omega) (by omega) (fun e1 => ?_) (fun e1 => ?_)
    rotate_left
    · simp only [↓WP, WQ, if_true, if_false, eq_self, implies_true, ne_eq, List.nil_append, List.cons_append, ↓reduceIte, Nat.reduceEqDiff, Nat.reduceBEq, reduceCtorEq, Nat.reduceAdd, resA, ret1, qv, lv, ev, boolA, binA, intA, shiftA, cmpA, beqA, lres]
      exact ⟨by rw [show b = false from Bool.eq_false_iff.2 fun hh => e1 (by rw [hb.1 hh])], o.ext'⟩
    simp only [↓WP, WQ, if_true, if_false, eq_self, implies_true, ne_eq, List.nil_append, List.cons_append, ↓reduceIte, Nat.reduceEqDiff, Nat.reduceBEq, reduceCtorEq, Nat.reduceAdd, resA, ret1, qv, lv, ev, boolA, binA, intA, shiftA, cmpA, beqA, lres, at_snd g1, at_snd g2]
    refine eqIntSS_c (hm.ext o.ext') (gm.ext o.ext') hAt hBt hn (fun e2 => ?_) (fun e2 => ?_) <;> simp only [↓WP, WQ, if_true, if_false, eq_self, implies_true, ne_eq, List.nil_append, List.cons_append, ↓reduceIte, Nat.reduceEqDiff, Nat.reduceBEq, reduceCtorEq, Nat.reduceAdd, resA, ret1, qv, lv, ev, boolA, binA, intA, shiftA, cmpA, beqA, lres]
    · exact ⟨by rw [hb.2 (by cases A; cases B; simp_all)], o.ext'⟩
    · exact ⟨by rw [show b = false from Bool.eq_false_iff.2 fun hh => e2 (by rw [hb.1 hh])], o.ext'⟩
  by_cases hc : A = B
  · exact quiet (.bool true) rfl (key true (by simp [hc])) (ht hc)
  · exact quiet (.bool false) rfl (key false (by simp [hc])) (hf hc)

theorem szIntS_c {v : AV} {l : List Int} {left : Int} (h : Ints H v l) (hn : l.length ≤ 9223372036854775807) (h0 : 0 ≤ left) (h1 : left ≤ 1048576) {Q : AV → Hp → Prop} (hq : ∀ k : Int, -1 ≤ k → k ≤ left → (0 ≤ k → (l.length : Int) ≤ left) → Q (.int .i64 k) H) :
    ACalls Try.prog w0 68 [v, .int .i64 left] H Q := by
  have hw : IntKind.i64.wrap (left - l.length) = left - l.length := wrap_id (by omega) (by omega)
  refine in68 ?_
  simp only [c68, ↓WP, WQ, if_true, if_false, eq_self, implies_true, ne_eq, List.nil_append, List.cons_append, ↓reduceIte, Nat.reduceEqDiff, Nat.reduceBEq, reduceCtorEq, Nat.reduceAdd, resA, ret1, qv, lv, ev, boolA, binA, intA, shiftA, cmpA, beqA, lres, h.len, hw]
  refine Br_dec (fun hz => ?_) (fun hz => ?_) <;> simp only [↓WP, WQ, if_true, if_false, eq_self, implies_true, ne_eq, List.nil_append, List.cons_append, ↓reduceIte, Nat.reduceEqDiff, Nat.reduceBEq, reduceCtorEq, Nat.reduceAdd, resA, ret1, qv, lv, ev, boolA, binA, intA, shiftA, cmpA, beqA, lres]
  · exact hq (-1) (by omega) (by omega) (fun h => by omega)
  · exact hq (left - l.length) (by omega) (by omega) (fun h => by omega)

theorem szIntSS_c {v : AV} {T : List (List Int)} {left : Int} (h : Mat H v T) (hT : Lim 9223372036854775807 T) (h0 : 0 ≤ left) (h1 : left ≤ 1048576) {Q : AV → Hp → Prop} (hq : ∀ k : Int, -1 ≤ k → k ≤ left → (0 ≤ k → Lim 1048576 T) → Q (.int .i64 k) H) :
    ACalls Try.prog w0 69 [v, .int .i64 left] H Q := by
  have hT1 := hT.1
  have hw : IntKind.i64.wrap (left - T.length) = left - T.length := wrap_id (by omega) (by omega)
  refine in69 ?_
  simp only [c69, ↓WP, WQ, if_true, if_false, eq_self, implies_true, ne_eq, List.nil_append, List.cons_append, ↓reduceIte, Nat.reduceEqDiff, Nat.reduceBEq, reduceCtorEq, Nat.reduceAdd, resA, ret1, qv, lv, ev, boolA, binA, intA, shiftA, cmpA, beqA, lres, h.len, hw]
  refine Br_dec (fun hz => ?_) (fun hz => ?_) <;> simp only [↓WP, WQ, if_true, if_false, eq_self, implies_true, ne_eq, List.nil_append, List.cons_append, ↓reduceIte, Nat.reduceEqDiff, Nat.reduceBEq, reduceCtorEq, Nat.reduceAdd, resA, ret1, qv, lv, ev, boolA, binA, intA, shiftA, cmpA, beqA, lres]
  · exact hq (-1) (by omega) (by omega) (fun h => by omega)
  refine W_for 0 T.length (fun z e H' => H' = H ∧ ∃ k : Int, Sl e [(0, v), (1, .int .i64 k), (5, .int .i64 z)] ∧ 0 ≤ k ∧ k ≤ left ∧ allI z fun i => (T.getD i.toNat []).length ≤ 1048576) (by omega) ⟨rfl, left - T.length, by simp only [↓WP, WQ, if_true, if_false, eq_self, implies_true, ne_eq, List.nil_append, List.cons_append, ↓reduceIte, Nat.reduceEqDiff, Nat.reduceBEq, reduceCtorEq, Nat.reduceAdd, resA, ret1, qv, lv, ev, boolA, binA, intA, shiftA, cmpA, beqA, lres], by omega, by omega, allI_zero⟩ ?_
  rintro z e H' hz0 hzn ⟨rfl, k, hs, k0, k1, hall⟩
  simp only [Sl_cons, Sl_nil, and_true] at hs
  have hw : IntKind.i64.wrap (z + 1) = z + 1 := wrap_id (by omega) (by omega)
  refine (Classical.em (z < T.length)).elim (fun hz' => ?_) (fun hz' => ?_) <;> simp only [↓WP, WQ, if_true, if_false, eq_self, implies_true, ne_eq, List.nil_append, List.cons_append, ↓reduceIte, Nat.reduceEqDiff, Nat.reduceBEq, reduceCtorEq, Nat.reduceAdd, resA, ret1, qv, lv, ev, boolA, binA, intA, shiftA, cmpA, beqA, lres, hs, h.len, hz']
  · simp only [↓WP, WQ, if_true, if_false, eq_self, implies_true, ne_eq, List.nil_append, List.cons_append, ↓reduceIte, Nat.reduceEqDiff, Nat.reduceBEq, reduceCtorEq, Nat.reduceAdd, resA, ret1, qv, lv, ev, boolA, binA, intA, shiftA, cmpA, beqA, lres, hs, h.idx hz0 hz', h.at hz0 hz']
    refine szIntS_c (h.row hz0 hz') (hT.2 z hz0 hz') k0 (by omega) fun m m0 m1 m2 => ?_
    refine (Classical.em (m < 0)).elim (fun hm => ?_) (fun hm => ?_) <;> simp only [↓WP, WQ, if_true, if_false, eq_self, implies_true, ne_eq, List.nil_append, List.cons_append, ↓reduceIte, Nat.reduceEqDiff, Nat.reduceBEq, reduceCtorEq, Nat.reduceAdd, resA, ret1, qv, lv, ev, boolA, binA, intA, shiftA, cmpA, beqA, lres, hs, hm, hw, hz']
    · exact hq (-1) (by omega) (by omega) (fun h => by omega)
    · refine ⟨m, by simp, by omega, by omega, (allI_succ hz0).2 ⟨hall, ?_⟩⟩
      have := m2 (by omega); omega
  · have hze : z = T.length := by omega
    rw [hze] at hall
    exact hq k (by omega) k1 fun _ => ⟨by omega, fun x x0 x1 => hall x x0 x1⟩

theorem szAlgebra_c {uv tv : AV} {A : Alg} {left : Int} (h : Ints H uv A.up) (hm : Mat H tv A.times) (hn : A.up.length ≤ 9223372036854775807) (hT : Lim 9223372036854775807 A.times) (h0 : 0 ≤ left) (h1 : left ≤ 1048576) {Q : AV → Hp → Prop}
    (hq : ∀ k : Int, -1 ≤ k → k ≤ left → (0 ≤ k → A.up.length ≤ 1048576 ∧ Lim 1048576 A.times) → Q (.int .i64 k) H) :
    ACalls Try.prog w0 19 [.agg [uv, tv], .int .i64 left] H Q := by
  refine quiet_any (fun v => ∃ k : Int, v = .int .i64 k ∧ -1 ≤ k ∧ k ≤ left ∧ (0 ≤ k → A.up.length ≤ 1048576 ∧ Lim 1048576 A.times)) (fun v hv => by obtain ⟨k, rfl, _⟩ := hv; rfl) ?_ (fun v hv => by obtain ⟨k, rfl, a, b, c⟩ := hv; exact hq k a b c)
  refine in19 ?_
  simp only [c19, ↓WP, WQ, if_true, if_false, eq_self, implies_true, ne_eq, List.nil_append, List.cons_append, ↓reduceIte, Nat.reduceEqDiff, Nat.reduceBEq, reduceCtorEq, Nat.reduceAdd, resA, ret1, qv, lv, ev, boolA, binA, intA, shiftA, cmpA, beqA, lres, cells_alg h.len hm.len]
  refine NewRowd_in fun b1 hb1 => ?_
  have o := Own.nil0.push (x := ⟨33, true, [uv, tv]⟩) hb1
  generalize H.set b1 ⟨33, true, [uv, tv]⟩ = G at *
  have g1 := o.get (i := 0) rfl
  simp only [↓WP, WQ, if_true, if_false, eq_self, implies_true, ne_eq, List.nil_append, List.cons_append, ↓reduceIte, Nat.reduceEqDiff, Nat.reduceBEq, reduceCtorEq, Nat.reduceAdd, resA, ret1, qv, lv, ev, boolA, binA, intA, shiftA, cmpA, beqA, lres, at_fst g1]
  refine szIntS_c (h.ext o.ext') hn h0 h1 fun k k0 k1 k2 => ?_
  refine (Classical.em (k < 0)).elim (fun hk => ?_) (fun hk => ?_) <;> simp only [↓WP, WQ, if_true, if_false, eq_self, implies_true, ne_eq, List.nil_append, List.cons_append, ↓reduceIte, Nat.reduceEqDiff, Nat.reduceBEq, reduceCtorEq, Nat.reduceAdd, resA, ret1, qv, lv, ev, boolA, binA, intA, shiftA, cmpA, beqA, lres, hk, at_snd g1]
  · exact ⟨⟨-1, rfl, by omega, by omega, fun h => by omega⟩, o.ext'⟩
  refine szIntSS_c (hm.ext o.ext') hT (by omega) (by omega) fun m m0 m1 m2 => ?_
  refine (Classical.em (m < 0)).elim (fun hm' => ?_) (fun hm' => ?_) <;> simp only [↓WP, WQ, if_true, if_false, eq_self, implies_true, ne_eq, List.nil_append, List.cons_append, ↓reduceIte, Nat.reduceEqDiff, Nat.reduceBEq, reduceCtorEq, Nat.reduceAdd, resA, ret1, qv, lv, ev, boolA, binA, intA, shiftA, cmpA, beqA, lres, hm']
  · exact ⟨⟨-1, rfl, by omega, by omega, fun h => by omega⟩, o.ext'⟩
  · refine ⟨⟨m, rfl, by omega, by omega, fun _ => ⟨?_, m2 (by omega)⟩⟩, o.ext'⟩
    have := k2 (by omega); omega

theorem toAlgebra_c {uv tv : AV} {A : Alg} (h : Ints H uv A.up) (hm : Mat H tv A.times) (hn : A.up.length ≤ 1048576) (hT : Lim 1048576 A.times) {Q : AV → Hp → Prop}
    (hq : ∀ u q t H', t.map Prod.snd = A.times → Own no H H' ((u, LI A.up) :: (q, TR t) :: tl t) → Q (.agg [.sl u 0 A.up.length, .sl q 0 t.length]) H') :
    ACalls Try.prog w0 21 [.agg [uv, tv]] H Q := by
  refine in21 ?_
  simp only [c21, ↓WP, WQ, if_true, if_false, eq_self, implies_true, ne_eq, List.nil_append, List.cons_append, ↓reduceIte, Nat.reduceEqDiff, Nat.reduceBEq, reduceCtorEq, Nat.reduceAdd, resA, ret1, qv, lv, ev, boolA, binA, intA, shiftA, cmpA, beqA, lres, cells_alg h.len hm.len]
  refine NewRowd_in fun b1 hb1 => ?_
  have o := Own.nil0.push (x := ⟨33, true, [uv, tv]⟩) hb1
  generalize H.set b1 ⟨33, true, [uv, tv]⟩ = G at *
  simp only [↓WP, WQ, if_true, if_false, eq_self, implies_true, ne_eq, List.nil_append, List.cons_append, ↓reduceIte, Nat.reduceEqDiff, Nat.reduceBEq, reduceCtorEq, Nat.reduceAdd, resA, ret1, qv, lv, ev, boolA, binA, intA, shiftA, cmpA, beqA, lres]
  refine NewRowd_in fun b2 hb2 => ?_
  have o := o.push (x := ⟨36, true, [.nils, .nils]⟩) hb2
  generalize G.set b2 ⟨36, true, [.nils, .nils]⟩ = G at *
  simp only [↓WP, WQ, if_true, if_false, eq_self, implies_true, ne_eq, List.nil_append, List.cons_append, ↓reduceIte, Nat.reduceEqDiff, Nat.reduceBEq, reduceCtorEq, Nat.reduceAdd, resA, ret1, qv, lv, ev, boolA, binA, intA, shiftA, cmpA, beqA, lres]
  refine NewRowd_in fun b3 hb3 => ?_
  have o := o.push (x := ⟨36, true, [.nils, .nils]⟩) hb3
  generalize G.set b3 ⟨36, true, [.nils, .nils]⟩ = G at *
  have g1 := o.get (i := 2) rfl
  simp only [↓WP, WQ, if_true, if_false, eq_self, implies_true, ne_eq, List.nil_append, List.cons_append, ↓reduceIte, Nat.reduceEqDiff, Nat.reduceBEq, reduceCtorEq, Nat.reduceAdd, resA, ret1, qv, lv, ev, boolA, binA, intA, shiftA, cmpA, beqA, lres, at_fst g1]
  refine toIntS_c (h.ext o.ext') hn fun u G1 o1 => ?_
  have o := o.call o1 (fun _ e => e)
  simp only [List.cons_append, List.nil_append] at o
  have st1 := stA_cell' (i := 0) (x := .sl u 0 A.up.length) (o.get (i := 1) rfl) (by simp) rfl
  have o := o.upd (i := 1) (y := ⟨36, true, [.sl u 0 A.up.length, .nils]⟩) rfl
  simp only [List.set_cons_succ, List.set_cons_zero] at o st1
  simp only [↓WP, WQ, if_true, if_false, eq_self, implies_true, ne_eq, List.nil_append, List.cons_append, ↓reduceIte, Nat.reduceEqDiff, Nat.reduceBEq, reduceCtorEq, Nat.reduceAdd, resA, ret1, qv, lv, ev, boolA, binA, intA, shiftA, cmpA, beqA, lres, st1]
  generalize G1.set b3 ⟨36, true, [.sl u 0 A.up.length, .nils]⟩ = G2 at *
  have g1 := o.get (i := 3) rfl
  simp only [↓WP, WQ, if_true, if_false, eq_self, implies_true, ne_eq, List.nil_append, List.cons_append, ↓reduceIte, Nat.reduceEqDiff, Nat.reduceBEq, reduceCtorEq, Nat.reduceAdd, resA, ret1, qv, lv, ev, boolA, binA, intA, shiftA, cmpA, beqA, lres, at_snd g1]
  refine toIntSS_c (hm.ext o.ext') hT.1 hT.2 fun q t G3 ht o2 => ?_
  have o := o.call o2 (fun _ e => e)
  simp only [List.cons_append] at o
  have o : Own no H G3 ((u, LI A.up) :: (b3, ⟨36, true, [.sl u 0 A.up.length, .nils]⟩) :: (b2, ⟨36, true, [.nils, .nils]⟩) :: (b1, ⟨33, true, [uv, tv]⟩) :: ((q, TR t) :: tl t)) := o.perm (by simpa using List.perm_append_comm (l₁ := (q, TR t) :: tl t) (l₂ := [(u, LI A.up), (b3, (⟨36, true, [.sl u 0 A.up.length, .nils]⟩ : Row)), (b2, ⟨36, true, [.nils, .nils]⟩), (b1, ⟨33, true, [uv, tv]⟩)]))
  have o : Own no H G3 ((b3, ⟨36, true, [.sl u 0 A.up.length, .nils]⟩) :: (b2, ⟨36, true, [.nils, .nils]⟩) :: (u, LI A.up) :: (b1, ⟨33, true, [uv, tv]⟩) :: ((q, TR t) :: tl t)) := o.perm ((List.Perm.swap _ _ _).trans (.cons _ (.swap _ _ _)))
  have o : Own no H G3 ((b3, ⟨36, true, [.sl u 0 A.up.length, .nils]⟩) :: (b2, ⟨36, true, [.nils, .nils]⟩) :: (u, LI A.up) :: ((q, TR t) :: tl t)) := o.sub (.cons_cons _ (.cons_cons _ (.cons_cons _ (.cons _ (.refl _)))))
  have st2 := stA_cell' (i := 1) (x := .sl q 0 t.length) (o.get (i := 0) rfl) (by simp) rfl
  have o := o.upd (i := 0) (y := ⟨36, true, [.sl u 0 A.up.length, .sl q 0 t.length]⟩) rfl
  simp only [List.set_cons_succ, List.set_cons_zero] at o st2
  simp only [↓WP, WQ, if_true, if_false, eq_self, implies_true, ne_eq, List.nil_append, List.cons_append, ↓reduceIte, Nat.reduceEqDiff, Nat.reduceBEq, reduceCtorEq, Nat.reduceAdd, resA, ret1, qv, lv, ev, boolA, binA, intA, shiftA, cmpA, beqA, lres, st2]
  generalize G3.set b3 ⟨36, true, [.sl u 0 A.up.length, .sl q 0 t.length]⟩ = G4 at *
  have g3 := o.get (i := 0) rfl
  have g2 := o.get (i := 1) rfl
  have st3 := stA_two (x := .sl u 0 A.up.length) (y := .sl q 0 t.length) g2 rfl rfl
  simp only [↓WP, WQ, if_true, if_false, eq_self, implies_true, ne_eq, List.nil_append, List.cons_append, ↓reduceIte, Nat.reduceEqDiff, Nat.reduceBEq, reduceCtorEq, Nat.reduceAdd, resA, ret1, qv, lv, ev, boolA, binA, intA, shiftA, cmpA, beqA, lres, atN_two g3, st3]
  have o := o.upd (i := 1) (y := ⟨36, true, [.sl u 0 A.up.length, .sl q 0 t.length]⟩) rfl
  simp only [List.set_cons_succ, List.set_cons_zero] at o
  simp only [↓WP, WQ, if_true, if_false, eq_self, implies_true, ne_eq, List.nil_append, List.cons_append, ↓reduceIte, Nat.reduceEqDiff, Nat.reduceBEq, reduceCtorEq, Nat.reduceAdd, resA, ret1, qv, lv, ev, boolA, binA, intA, shiftA, cmpA, beqA, lres, atN_two (o.get (i := 1) rfl)]
  exact hq u q t _ ht (o.tail.tail)
end Go.AL

/-
  Terms: which lists of numbers are terms.
-/
namespace Go.AL
open Go.Proofs
set_option linter.unusedSimpArgs false
set_option linter.unusedVariables false
variable {w0 : World} {H : Hp}

/-- How many terms a symbol has behind it. -/
def arity (x : Int) : Option Nat :=
  if (0 ≤ x ∧ x ≤ 2) ∨ x = 10 ∨ x = 11 then some 0 else if x = 12 then some 1 else if x = 13 ∨ x = 14 ∨ x = 15 ∨ x = 16 then some 2 else none
/-- What is behind the first terms of a list. -/
def trm : Nat → List Int → Option (List Int)
  | 0, t => some t
  | _ + 1, [] => none
  | k + 1, x :: t => match arity x with
    | some n => trm (n + k) t
    | none => none
theorem trm_zero (t : List Int) : trm 0 t = some t := by unfold trm; rfl
theorem trm_nil (k : Nat) : trm (k + 1) [] = none := by unfold trm; rfl
theorem trm_some {k n : Nat} {x : Int} {t : List Int} (h : arity x = some n) : trm (k + 1) (x :: t) = trm (n + k) t := by rw [trm, h]
theorem trm_none {k : Nat} {x : Int} {t : List Int} (h : arity x = none) : trm (k + 1) (x :: t) = none := by rw [trm, h]
theorem trm_add (k : Nat) : ∀ (t : List Int) (j : Nat), trm (j + k) t = (trm j t).bind (trm k)
  | t, 0 => by rw [Nat.zero_add, trm_zero]; rfl
  | [], j + 1 => by rw [show j + 1 + k = (j + k) + 1 by omega, trm_nil, trm_nil]; rfl
  | x :: t, j + 1 => by
    rw [show j + 1 + k = (j + k) + 1 by omega]
    cases h : arity x with
    | none => rw [trm_none h, trm_none h]; rfl
    | some n => rw [trm_some h, trm_some h, ← Nat.add_assoc, trm_add k t (n + j)]
theorem trm_suffix : ∀ (t : List Int) (k : Nat) {r : List Int}, trm k t = some r → ∃ p, t = p ++ r
  | t, 0, r, h => ⟨[], by rw [trm_zero] at h; cases h; rfl⟩
  | [], k + 1, r, h => by rw [trm_nil] at h; cases h
  | x :: t, k + 1, r, h => by
    cases ha : arity x with
    | none => rw [trm_none ha] at h; cases h
    | some n =>
      rw [trm_some ha] at h
      obtain ⟨p, hp⟩ := trm_suffix t _ h
      exact ⟨x :: p, by rw [hp]; rfl⟩
def IsTerm (t : List Int) : Prop := t.length ≤ 15 ∧ trm 1 t = some []
theorem trm_two {t : List Int} : trm 2 t = (trm 1 t).bind (trm 1) := trm_add 1 t 1

theorem arity_0 {x : Int} (h : 0 ≤ x ∧ x ≤ 2) : arity x = some 0 := by unfold arity; rw [if_pos (Or.inl h)]
theorem arity_10 : arity 10 = some 0 := rfl
theorem arity_11 : arity 11 = some 0 := rfl
theorem arity_12 : arity 12 = some 1 := rfl
theorem arity_13 : arity 13 = some 2 := rfl
theorem arity_14 : arity 14 = some 2 := rfl
theorem arity_15 : arity 15 = some 2 := rfl
theorem arity_16 : arity 16 = some 2 := rfl
theorem arity_no {x : Int} (h0 : ¬ (0 ≤ x ∧ x ≤ 2)) (h1 : ¬ x = 10) (h2 : ¬ x = 11) (h3 : ¬ x = 12) (h4 : ¬ x = 13) (h5 : ¬ x = 14) (h6 : ¬ x = 15) (h7 : ¬ x = 16) : arity x = none := by
  unfold arity; rw [if_neg (by simp only [h0, h1, h2, or_self, not_false_eq_true]), if_neg h3, if_neg (by simp only [h4, h5, h6, h7, or_self, not_false_eq_true])]

def arI (x : Int) : Int := match arity x with
  | some n => n
  | none => -1
theorem takes_c (x : Int) {Q : AV → Hp → Prop} (hq : Q (.int .i64 (arI x)) H) : ACalls Try.prog w0 136 [.int .i64 x] H Q := by
  refine in136 ?_
  simp only [c136, ↓WP, WQ, if_true, if_false, eq_self, implies_true, ne_eq, List.nil_append, List.cons_append, ↓reduceIte, Nat.reduceEqDiff, Nat.reduceBEq, reduceCtorEq, Nat.reduceAdd, resA, ret1, qv, lv, ev, boolA, binA, intA, shiftA, cmpA, beqA, lres]
  refine within_c _ _ _ (fun h0 => ?_) (fun h0 => ?_)
  · simp only [↓WP, WQ, if_true, if_false, eq_self, implies_true, ne_eq, List.nil_append, List.cons_append, ↓reduceIte, Nat.reduceEqDiff, Nat.reduceBEq, reduceCtorEq, Nat.reduceAdd, resA, ret1, qv, lv, ev, boolA, binA, intA, shiftA, cmpA, beqA, lres]
    rw [arI, arity_0 h0] at hq; exact hq
  simp only [↓WP, WQ, if_true, if_false, eq_self, implies_true, ne_eq, List.nil_append, List.cons_append, ↓reduceIte, Nat.reduceEqDiff, Nat.reduceBEq, reduceCtorEq, Nat.reduceAdd, resA, ret1, qv, lv, ev, boolA, binA, intA, shiftA, cmpA, beqA, lres]
  refine (Classical.em (x = 10)).elim (fun h1 => ?_) (fun h1 => ?_)
  · subst h1; simp only [↓WP, WQ, if_true, if_false, eq_self, implies_true, ne_eq, List.nil_append, List.cons_append, ↓reduceIte, Nat.reduceEqDiff, Nat.reduceBEq, reduceCtorEq, Nat.reduceAdd, resA, ret1, qv, lv, ev, boolA, binA, intA, shiftA, cmpA, beqA, lres, decide_eq_true (rfl : (10 : Int) = 10)]; exact hq
  simp only [↓WP, WQ, if_true, if_false, eq_self, implies_true, ne_eq, List.nil_append, List.cons_append, ↓reduceIte, Nat.reduceEqDiff, Nat.reduceBEq, reduceCtorEq, Nat.reduceAdd, resA, ret1, qv, lv, ev, boolA, binA, intA, shiftA, cmpA, beqA, lres, decide_eq_false h1]
  refine (Classical.em (x = 11)).elim (fun h2 => ?_) (fun h2 => ?_)
  · subst h2; simp only [↓WP, WQ, if_true, if_false, eq_self, implies_true, ne_eq, List.nil_append, List.cons_append, ↓reduceIte, Nat.reduceEqDiff, Nat.reduceBEq, reduceCtorEq, Nat.reduceAdd, resA, ret1, qv, lv, ev, boolA, binA, intA, shiftA, cmpA, beqA, lres, decide_eq_true (rfl : (11 : Int) = 11)]; exact hq
  simp only [↓WP, WQ, if_true, if_false, eq_self, implies_true, ne_eq, List.nil_append, List.cons_append, ↓reduceIte, Nat.reduceEqDiff, Nat.reduceBEq, reduceCtorEq, Nat.reduceAdd, resA, ret1, qv, lv, ev, boolA, binA, intA, shiftA, cmpA, beqA, lres, decide_eq_false h2]
  refine (Classical.em (x = 12)).elim (fun h3 => ?_) (fun h3 => ?_)
  · subst h3; simp only [↓WP, WQ, if_true, if_false, eq_self, implies_true, ne_eq, List.nil_append, List.cons_append, ↓reduceIte, Nat.reduceEqDiff, Nat.reduceBEq, reduceCtorEq, Nat.reduceAdd, resA, ret1, qv, lv, ev, boolA, binA, intA, shiftA, cmpA, beqA, lres, decide_eq_true (rfl : (12 : Int) = 12)]; exact hq
  simp only [↓WP, WQ, if_true, if_false, eq_self, implies_true, ne_eq, List.nil_append, List.cons_append, ↓reduceIte, Nat.reduceEqDiff, Nat.reduceBEq, reduceCtorEq, Nat.reduceAdd, resA, ret1, qv, lv, ev, boolA, binA, intA, shiftA, cmpA, beqA, lres, decide_eq_false h3]
  refine (Classical.em (x = 13)).elim (fun h4 => ?_) (fun h4 => ?_)
  · subst h4; simp only [↓WP, WQ, if_true, if_false, eq_self, implies_true, ne_eq, List.nil_append, List.cons_append, ↓reduceIte, Nat.reduceEqDiff, Nat.reduceBEq, reduceCtorEq, Nat.reduceAdd, resA, ret1, qv, lv, ev, boolA, binA, intA, shiftA, cmpA, beqA, lres, decide_eq_true (rfl : (13 : Int) = 13)]; exact hq
  simp only [↓WP, WQ, if_true, if_false, eq_self, implies_true, ne_eq, List.nil_append, List.cons_append, ↓reduceIte, Nat.reduceEqDiff, Nat.reduceBEq, reduceCtorEq, Nat.reduceAdd, resA, ret1, qv, lv, ev, boolA, binA, intA, shiftA, cmpA, beqA, lres, decide_eq_false h4]
  refine (Classical.em (x = 14)).elim (fun h5 => ?_) (fun h5 => ?_)
  · subst h5; simp only [↓WP, WQ, if_true, if_false, eq_self, implies_true, ne_eq, List.nil_append, List.cons_append, ↓reduceIte, Nat.reduceEqDiff, Nat.reduceBEq, reduceCtorEq, Nat.reduceAdd, resA, ret1, qv, lv, ev, boolA, binA, intA, shiftA, cmpA, beqA, lres, decide_eq_true (rfl : (14 : Int) = 14)]; exact hq
  simp only [↓WP, WQ, if_true, if_false, eq_self, implies_true, ne_eq, List.nil_append, List.cons_append, ↓reduceIte, Nat.reduceEqDiff, Nat.reduceBEq, reduceCtorEq, Nat.reduceAdd, resA, ret1, qv, lv, ev, boolA, binA, intA, shiftA, cmpA, beqA, lres, decide_eq_false h5]
  refine (Classical.em (x = 15)).elim (fun h6 => ?_) (fun h6 => ?_)
  · subst h6; simp only [↓WP, WQ, if_true, if_false, eq_self, implies_true, ne_eq, List.nil_append, List.cons_append, ↓reduceIte, Nat.reduceEqDiff, Nat.reduceBEq, reduceCtorEq, Nat.reduceAdd, resA, ret1, qv, lv, ev, boolA, binA, intA, shiftA, cmpA, beqA, lres, decide_eq_true (rfl : (15 : Int) = 15)]; exact hq
  simp only [↓WP, WQ, if_true, if_false, eq_self, implies_true, ne_eq, List.nil_append, List.cons_append, ↓reduceIte, Nat.reduceEqDiff, Nat.reduceBEq, reduceCtorEq, Nat.reduceAdd, resA, ret1, qv, lv, ev, boolA, binA, intA, shiftA, cmpA, beqA, lres, decide_eq_false h6]
  refine (Classical.em (x = 16)).elim (fun h7 => ?_) (fun h7 => ?_)
  · subst h7; simp only [↓WP, WQ, if_true, if_false, eq_self, implies_true, ne_eq, List.nil_append, List.cons_append, ↓reduceIte, Nat.reduceEqDiff, Nat.reduceBEq, reduceCtorEq, Nat.reduceAdd, resA, ret1, qv, lv, ev, boolA, binA, intA, shiftA, cmpA, beqA, lres, decide_eq_true (rfl : (16 : Int) = 16)]; exact hq
  simp only [↓WP, WQ, if_true, if_false, eq_self, implies_true, ne_eq, List.nil_append, List.cons_append, ↓reduceIte, Nat.reduceEqDiff, Nat.reduceBEq, reduceCtorEq, Nat.reduceAdd, resA, ret1, qv, lv, ev, boolA, binA, intA, shiftA, cmpA, beqA, lres, decide_eq_false h7]
  rw [arI, arity_no h0 h1 h2 h3 h4 h5 h6 h7] at hq; exact hq

theorem drop_cons {t : List Int} {z : Int} (h0 : 0 ≤ z) (h1 : z < t.length) : t.drop z.toNat = t.getD z.toNat 0 :: t.drop (z + 1).toNat := by
  have hz : z.toNat < t.length := by omega
  rw [List.drop_eq_getElem_cons hz, List.getD_eq_getElem?_getD, List.getElem?_eq_getElem hz, Option.getD_some, show (z + 1).toNat = z.toNat + 1 by omega]

theorem ValidTerm_c {v : AV} {t : List Int} (h : Ints H v t) (hn : t.length ≤ 1048576) {Q : AV → Hp → Prop} (ht : IsTerm t → Q (.bool true) H) (hf : ¬ IsTerm t → Q (.bool false) H) :
    ACalls Try.prog w0 77 [v] H Q := by
  refine in77 ?_
  simp only [c77, ↓WP, WQ, if_true, if_false, eq_self, implies_true, ne_eq, List.nil_append, List.cons_append, ↓reduceIte, Nat.reduceEqDiff, Nat.reduceBEq, reduceCtorEq, Nat.reduceAdd, resA, ret1, qv, lv, ev, boolA, binA, intA, shiftA, cmpA, beqA, lres, h.len]
  refine W_for 0 t.length (fun z e H' => H' = H ∧ ∃ k : Nat, Sl e [(0, v), (3, .int .i64 k), (7, v), (8, .int .i64 t.length), (9, .int .i64 z)] ∧ (k : Int) ≤ 1 + z ∧ trm 1 t = trm k (t.drop z.toNat)) (by omega) ⟨rfl, 1, by simp only [↓WP, WQ, if_true, if_false, eq_self, implies_true, ne_eq, List.nil_append, List.cons_append, ↓reduceIte, Nat.reduceEqDiff, Nat.reduceBEq, reduceCtorEq, Nat.reduceAdd, resA, ret1, qv, lv, ev, boolA, binA, intA, shiftA, cmpA, beqA, lres]; simp, by omega, rfl⟩ ?_
  rintro z e H' hz0 hz1 ⟨rfl, k, hs, hk, hr⟩
  simp only [Sl_cons, Sl_nil, and_true] at hs
  have hw : IntKind.i64.wrap (z + 1) = z + 1 := wrap_id (by omega) (by omega)
  refine (Classical.em (z < t.length)).elim (fun hz => ?_) (fun hz => ?_) <;> simp only [↓WP, WQ, if_true, if_false, eq_self, implies_true, ne_eq, List.nil_append, List.cons_append, ↓reduceIte, Nat.reduceEqDiff, Nat.reduceBEq, reduceCtorEq, Nat.reduceAdd, resA, ret1, qv, lv, ev, boolA, binA, intA, shiftA, cmpA, beqA, lres, hs, hz]
  · rw [drop_cons hz0 hz] at hr
    have hzn : z.toNat < t.length := by omega
    simp only [↓WP, WQ, if_true, if_false, eq_self, implies_true, ne_eq, List.nil_append, List.cons_append, ↓reduceIte, Nat.reduceEqDiff, Nat.reduceBEq, reduceCtorEq, Nat.reduceAdd, resA, ret1, qv, lv, ev, boolA, binA, intA, shiftA, cmpA, beqA, lres, hs, h.idx hz0 hz, h.at hzn]
    refine takes_c _ ?_
    cases k with
    | zero =>
      have c0 : ((0 : Nat) : Int) = 0 := rfl
      simp only [↓WP, WQ, if_true, if_false, eq_self, implies_true, ne_eq, List.nil_append, List.cons_append, ↓reduceIte, Nat.reduceEqDiff, Nat.reduceBEq, reduceCtorEq, Nat.reduceAdd, resA, ret1, qv, lv, ev, boolA, binA, intA, shiftA, cmpA, beqA, lres, hs, c0, decide_eq_true (rfl : (0 : Int) = 0)]
      exact hf fun hT => by
        have := hT.2
        rw [hr, trm_zero] at this; cases this
    | succ k =>
      have c0 : ¬ ((k + 1 : Nat) : Int) = 0 := by omega
      simp only [↓WP, WQ, if_true, if_false, eq_self, implies_true, ne_eq, List.nil_append, List.cons_append, ↓reduceIte, Nat.reduceEqDiff, Nat.reduceBEq, reduceCtorEq, Nat.reduceAdd, resA, ret1, qv, lv, ev, boolA, binA, intA, shiftA, cmpA, beqA, lres, hs, decide_eq_false c0]
      cases ha : arity (t.getD z.toNat 0) with
      | none =>
        have c1 : arI (t.getD z.toNat 0) < 0 := by unfold arI; rw [ha]; exact (by decide)
        simp only [↓WP, WQ, if_true, if_false, eq_self, implies_true, ne_eq, List.nil_append, List.cons_append, ↓reduceIte, Nat.reduceEqDiff, Nat.reduceBEq, reduceCtorEq, Nat.reduceAdd, resA, ret1, qv, lv, ev, boolA, binA, intA, shiftA, cmpA, beqA, lres, hs, c1]
        exact hf fun hT => by
          have := hT.2
          rw [hr, trm_none ha] at this; cases this
      | some n =>
        have c1 : arI (t.getD z.toNat 0) = n := by unfold arI; rw [ha]
        have c2 : ¬ ((n : Int) < 0) := by omega
        have n2 : n ≤ 2 := by
          unfold arity at ha
          split at ha
          · cases ha; omega
          · split at ha
            · cases ha; omega
            · split at ha
              · cases ha; omega
              · cases ha
        have w1 : IntKind.i64.wrap ((n : Int) - 1) = n - 1 := wrap_id (by omega) (by omega)
        have w2 : IntKind.i64.wrap (((k + 1 : Nat) : Int) + ((n : Int) - 1)) = ((n + k : Nat) : Int) := by rw [wrap_id (by omega) (by omega)]; omega
        simp only [↓WP, WQ, if_true, if_false, eq_self, implies_true, ne_eq, List.nil_append, List.cons_append, ↓reduceIte, Nat.reduceEqDiff, Nat.reduceBEq, reduceCtorEq, Nat.reduceAdd, resA, ret1, qv, lv, ev, boolA, binA, intA, shiftA, cmpA, beqA, lres, hs, c1, c2, w1, w2, hw, hz]
        exact ⟨n + k, rfl, by omega, by rw [hr, trm_some ha]⟩
  · have hze : z.toNat = t.length := by omega
    rw [hze, List.drop_length] at hr
    cases k with
    | zero =>
      have c0 : ((0 : Nat) : Int) = 0 := rfl
      simp only [↓WP, WQ, if_true, if_false, eq_self, implies_true, ne_eq, List.nil_append, List.cons_append, ↓reduceIte, Nat.reduceEqDiff, Nat.reduceBEq, reduceCtorEq, Nat.reduceAdd, resA, ret1, qv, lv, ev, boolA, binA, intA, shiftA, cmpA, beqA, lres, hs, c0, decide_eq_true (rfl : (0 : Int) = 0), h.len]
      rw [trm_zero] at hr
      by_cases hl : (t.length : Int) ≤ 15
      · rw [decide_eq_true hl]; exact ht ⟨by omega, hr⟩
      · rw [decide_eq_false hl]; exact hf fun hT => hl (by have := hT.1; omega)
    | succ k =>
      have c0 : ¬ ((k + 1 : Nat) : Int) = 0 := by omega
      simp only [↓WP, WQ, if_true, if_false, eq_self, implies_true, ne_eq, List.nil_append, List.cons_append, ↓reduceIte, Nat.reduceEqDiff, Nat.reduceBEq, reduceCtorEq, Nat.reduceAdd, resA, ret1, qv, lv, ev, boolA, binA, intA, shiftA, cmpA, beqA, lres, hs, decide_eq_false c0]
      exact hf fun hT => by
        have := hT.2
        rw [hr, trm_nil] at this; cases this

/-- Where the term ends that begins at an index. -/
def endF (t : List Int) (i : Int) : Int :=
  match trm 1 (t.drop i.toNat) with
  | some r => t.length - r.length
  | none => -1
theorem endF_some {t r : List Int} {i : Int} (h : trm 1 (t.drop i.toNat) = some r) : endF t i = t.length - r.length := by unfold endF; rw [h]
theorem endF_none {t : List Int} {i : Int} (h : trm 1 (t.drop i.toNat) = none) : endF t i = -1 := by unfold endF; rw [h]
theorem drop_suffix {t r p : List Int} {i : Nat} (h : t.drop i = p ++ r) : t.drop (t.length - r.length) = r := by
  have h1 : t = t.take i ++ p ++ r := by rw [List.append_assoc, ← h, List.take_append_drop]
  have key : ∀ a : List Int, t = a ++ r → t.drop (t.length - r.length) = r := by
    intro a ha; subst ha; simp
  exact key _ h1
theorem end_neg_c {v : AV} {t : List Int} {i : Int} (h : Ints H v t) (hi : i < 0) {Q : AV → Hp → Prop} (hq : Q (.int .i64 (-1)) H) : ACalls Try.prog w0 135 [v, .int .i64 i] H Q := by
  refine in135 ?_
  simp only [c135, ↓WP, WQ, if_true, if_false, eq_self, implies_true, ne_eq, List.nil_append, List.cons_append, ↓reduceIte, Nat.reduceEqDiff, Nat.reduceBEq, reduceCtorEq, Nat.reduceAdd, resA, ret1, qv, lv, ev, boolA, binA, intA, shiftA, cmpA, beqA, lres, hi]
  exact hq
theorem end_c {v : AV} {t : List Int} (h : Ints H v t) (hn : t.length ≤ 1048576) : ∀ (m : Nat) {i : Int} {Q : AV → Hp → Prop}, 0 ≤ i → i ≤ t.length → t.length - i.toNat ≤ m → Q (.int .i64 (endF t i)) H → ACalls Try.prog w0 135 [v, .int .i64 i] H Q := by
  intro m
  induction m with
  | zero =>
    intro i Q h0 h1 hm hq
    have hi : i = t.length := by omega
    have c0 : ¬ i < 0 := by omega
    have c1 : (t.length : Int) ≤ i := by omega
    refine in135 ?_
    simp only [c135, ↓WP, WQ, if_true, if_false, eq_self, implies_true, ne_eq, List.nil_append, List.cons_append, ↓reduceIte, Nat.reduceEqDiff, Nat.reduceBEq, reduceCtorEq, Nat.reduceAdd, resA, ret1, qv, lv, ev, boolA, binA, intA, shiftA, cmpA, beqA, lres, c0, c1, h.len]
    rw [endF_none (by rw [hi, Int.toNat_natCast, List.drop_length, trm_nil])] at hq
    exact hq
  | succ m ih =>
    intro i Q h0 h1 hm hq
    have c0 : ¬ i < 0 := by omega
    refine (Classical.em ((t.length : Int) ≤ i)).elim (fun c1 => ?_) (fun c1 => ?_)
    · have hi : i = t.length := by omega
      refine in135 ?_
      simp only [c135, ↓WP, WQ, if_true, if_false, eq_self, implies_true, ne_eq, List.nil_append, List.cons_append, ↓reduceIte, Nat.reduceEqDiff, Nat.reduceBEq, reduceCtorEq, Nat.reduceAdd, resA, ret1, qv, lv, ev, boolA, binA, intA, shiftA, cmpA, beqA, lres, c0, c1, h.len]
      rw [endF_none (by rw [hi, Int.toNat_natCast, List.drop_length, trm_nil])] at hq
      exact hq
    have hi : i < t.length := by omega
    have hin : i.toNat < t.length := by omega
    have hw : IntKind.i64.wrap (i + 1) = i + 1 := wrap_id (by omega) (by omega)
    have hd := drop_cons h0 hi
    refine in135 ?_
    simp only [c135, ↓WP, WQ, if_true, if_false, eq_self, implies_true, ne_eq, List.nil_append, List.cons_append, ↓reduceIte, Nat.reduceEqDiff, Nat.reduceBEq, reduceCtorEq, Nat.reduceAdd, resA, ret1, qv, lv, ev, boolA, binA, intA, shiftA, cmpA, beqA, lres, c0, c1, h.len, h.idx h0 hi, h.at hin, hw]
    have hat := h.at hin
    generalize t.getD i.toNat 0 = x at *
    have two : arity x = some 2 → ∀ {Q : AV → Hp → Prop}, Q (.int .i64 (endF t i)) H → ACalls Try.prog w0 135 [v, .int .i64 (endF t (i + 1))] H Q := fun ha Q hq => by
      cases hr : trm 1 (t.drop (i + 1).toNat) with
      | none =>
        rw [endF_none hr]
        refine end_neg_c h (by omega) ?_
        rw [endF_none (by rw [hd, trm_some ha, trm_two, hr]; rfl)] at hq
        exact hq
      | some r =>
        obtain ⟨p, hp⟩ := trm_suffix _ _ hr
        have hdr := drop_suffix hp
        have hrl : r.length ≤ t.length - (i + 1).toNat := by
          have := congrArg List.length hp
          rw [List.length_drop, List.length_append] at this; omega
        rw [endF_some hr]
        refine ih (by omega) (by omega) (by omega) ?_
        have e : endF t ((t.length : Int) - r.length) = endF t i := by
          have e1 : ((t.length : Int) - r.length).toNat = t.length - r.length := by omega
          have e2 : trm 1 (t.drop i.toNat) = trm 1 r := by rw [hd, trm_some ha, trm_two, hr]; rfl
          unfold endF
          rw [e1, hdr, e2]
        rw [e]; exact hq
    refine (Classical.em (x = 12)).elim (fun h3 => ?_) (fun h3 => ?_)
    · subst h3
      simp only [↓WP, WQ, if_true, if_false, eq_self, implies_true, ne_eq, List.nil_append, List.cons_append, ↓reduceIte, Nat.reduceEqDiff, Nat.reduceBEq, reduceCtorEq, Nat.reduceAdd, resA, ret1, qv, lv, ev, boolA, binA, intA, shiftA, cmpA, beqA, lres, decide_eq_true (rfl : (12 : Int) = 12), hw]
      refine ih (by omega) (by omega) (by omega) ?_
      have e : endF t (i + 1) = endF t i := by unfold endF; rw [hd, trm_some arity_12]
      simp only [↓WP, WQ, if_true, if_false, eq_self, implies_true, ne_eq, List.nil_append, List.cons_append, ↓reduceIte, Nat.reduceEqDiff, Nat.reduceBEq, reduceCtorEq, Nat.reduceAdd, resA, ret1, qv, lv, ev, boolA, binA, intA, shiftA, cmpA, beqA, lres, e]; exact hq
    simp only [↓WP, WQ, if_true, if_false, eq_self, implies_true, ne_eq, List.nil_append, List.cons_append, ↓reduceIte, Nat.reduceEqDiff, Nat.reduceBEq, reduceCtorEq, Nat.reduceAdd, resA, ret1, qv, lv, ev, boolA, binA, intA, shiftA, cmpA, beqA, lres, decide_eq_false h3]
    refine (Classical.em (x = 13)).elim (fun h4 => ?_) (fun h4 => ?_)
    · subst h4
      simp only [↓WP, WQ, if_true, if_false, eq_self, implies_true, ne_eq, List.nil_append, List.cons_append, ↓reduceIte, Nat.reduceEqDiff, Nat.reduceBEq, reduceCtorEq, Nat.reduceAdd, resA, ret1, qv, lv, ev, boolA, binA, intA, shiftA, cmpA, beqA, lres, decide_eq_true (rfl : (13 : Int) = 13), hw]
      refine ih (by omega) (by omega) (by omega) ?_
      simp only [↓WP, WQ, if_true, if_false, eq_self, implies_true, ne_eq, List.nil_append, List.cons_append, ↓reduceIte, Nat.reduceEqDiff, Nat.reduceBEq, reduceCtorEq, Nat.reduceAdd, resA, ret1, qv, lv, ev, boolA, binA, intA, shiftA, cmpA, beqA, lres]
      refine two rfl ?_
      simp only [↓WP, WQ, if_true, if_false, eq_self, implies_true, ne_eq, List.nil_append, List.cons_append, ↓reduceIte, Nat.reduceEqDiff, Nat.reduceBEq, reduceCtorEq, Nat.reduceAdd, resA, ret1, qv, lv, ev, boolA, binA, intA, shiftA, cmpA, beqA, lres]
      exact hq
    simp only [↓WP, WQ, if_true, if_false, eq_self, implies_true, ne_eq, List.nil_append, List.cons_append, ↓reduceIte, Nat.reduceEqDiff, Nat.reduceBEq, reduceCtorEq, Nat.reduceAdd, resA, ret1, qv, lv, ev, boolA, binA, intA, shiftA, cmpA, beqA, lres, decide_eq_false h4]
    refine (Classical.em (x = 14)).elim (fun h5 => ?_) (fun h5 => ?_)
    · subst h5
      simp only [↓WP, WQ, if_true, if_false, eq_self, implies_true, ne_eq, List.nil_append, List.cons_append, ↓reduceIte, Nat.reduceEqDiff, Nat.reduceBEq, reduceCtorEq, Nat.reduceAdd, resA, ret1, qv, lv, ev, boolA, binA, intA, shiftA, cmpA, beqA, lres, decide_eq_true (rfl : (14 : Int) = 14), hw]
      refine ih (by omega) (by omega) (by omega) ?_
      simp only [↓WP, WQ, if_true, if_false, eq_self, implies_true, ne_eq, List.nil_append, List.cons_append, ↓reduceIte, Nat.reduceEqDiff, Nat.reduceBEq, reduceCtorEq, Nat.reduceAdd, resA, ret1, qv, lv, ev, boolA, binA, intA, shiftA, cmpA, beqA, lres]
      refine two rfl ?_
      simp only [↓WP, WQ, if_true, if_false, eq_self, implies_true, ne_eq, List.nil_append, List.cons_append, ↓reduceIte, Nat.reduceEqDiff, Nat.reduceBEq, reduceCtorEq, Nat.reduceAdd, resA, ret1, qv, lv, ev, boolA, binA, intA, shiftA, cmpA, beqA, lres]
      exact hq
    simp only [↓WP, WQ, if_true, if_false, eq_self, implies_true, ne_eq, List.nil_append, List.cons_append, ↓reduceIte, Nat.reduceEqDiff, Nat.reduceBEq, reduceCtorEq, Nat.reduceAdd, resA, ret1, qv, lv, ev, boolA, binA, intA, shiftA, cmpA, beqA, lres, decide_eq_false h5]
    refine (Classical.em (x = 15)).elim (fun h6 => ?_) (fun h6 => ?_)
    · subst h6
      simp only [↓WP, WQ, if_true, if_false, eq_self, implies_true, ne_eq, List.nil_append, List.cons_append, ↓reduceIte, Nat.reduceEqDiff, Nat.reduceBEq, reduceCtorEq, Nat.reduceAdd, resA, ret1, qv, lv, ev, boolA, binA, intA, shiftA, cmpA, beqA, lres, decide_eq_true (rfl : (15 : Int) = 15), hw]
      refine ih (by omega) (by omega) (by omega) ?_
      simp only [↓WP, WQ, if_true, if_false, eq_self, implies_true, ne_eq, List.nil_append, List.cons_append, ↓reduceIte, Nat.reduceEqDiff, Nat.reduceBEq, reduceCtorEq, Nat.reduceAdd, resA, ret1, qv, lv, ev, boolA, binA, intA, shiftA, cmpA, beqA, lres]
      refine two rfl ?_
      simp only [↓WP, WQ, if_true, if_false, eq_self, implies_true, ne_eq, List.nil_append, List.cons_append, ↓reduceIte, Nat.reduceEqDiff, Nat.reduceBEq, reduceCtorEq, Nat.reduceAdd, resA, ret1, qv, lv, ev, boolA, binA, intA, shiftA, cmpA, beqA, lres]
      exact hq
    simp only [↓WP, WQ, if_true, if_false, eq_self, implies_true, ne_eq, List.nil_append, List.cons_append, ↓reduceIte, Nat.reduceEqDiff, Nat.reduceBEq, reduceCtorEq, Nat.reduceAdd, resA, ret1, qv, lv, ev, boolA, binA, intA, shiftA, cmpA, beqA, lres, decide_eq_false h6]
    refine (Classical.em (x = 16)).elim (fun h7 => ?_) (fun h7 => ?_)
    · subst h7
      simp only [↓WP, WQ, if_true, if_false, eq_self, implies_true, ne_eq, List.nil_append, List.cons_append, ↓reduceIte, Nat.reduceEqDiff, Nat.reduceBEq, reduceCtorEq, Nat.reduceAdd, resA, ret1, qv, lv, ev, boolA, binA, intA, shiftA, cmpA, beqA, lres, decide_eq_true (rfl : (16 : Int) = 16), hw]
      refine ih (by omega) (by omega) (by omega) ?_
      simp only [↓WP, WQ, if_true, if_false, eq_self, implies_true, ne_eq, List.nil_append, List.cons_append, ↓reduceIte, Nat.reduceEqDiff, Nat.reduceBEq, reduceCtorEq, Nat.reduceAdd, resA, ret1, qv, lv, ev, boolA, binA, intA, shiftA, cmpA, beqA, lres]
      refine two rfl ?_
      simp only [↓WP, WQ, if_true, if_false, eq_self, implies_true, ne_eq, List.nil_append, List.cons_append, ↓reduceIte, Nat.reduceEqDiff, Nat.reduceBEq, reduceCtorEq, Nat.reduceAdd, resA, ret1, qv, lv, ev, boolA, binA, intA, shiftA, cmpA, beqA, lres]
      exact hq
    simp only [↓WP, WQ, if_true, if_false, eq_self, implies_true, ne_eq, List.nil_append, List.cons_append, ↓reduceIte, Nat.reduceEqDiff, Nat.reduceBEq, reduceCtorEq, Nat.reduceAdd, resA, ret1, qv, lv, ev, boolA, binA, intA, shiftA, cmpA, beqA, lres, decide_eq_false h7, h.idx h0 hi, hat]
    have ok : arity x = some 0 → Q (.int .i64 (i + 1)) H := fun ha => by
      rw [endF_some (r := t.drop (i + 1).toNat) (by rw [hd, trm_some ha, trm_zero]), List.length_drop] at hq
      rw [show ((t.length : Nat) : Int) - ((t.length - (i + 1).toNat : Nat) : Int) = i + 1 by omega] at hq
      exact hq
    refine inRange_c _ _ _ (fun k0 => ?_) (fun k0 => ?_)
    · simp only [↓WP, WQ, if_true, if_false, eq_self, implies_true, ne_eq, List.nil_append, List.cons_append, ↓reduceIte, Nat.reduceEqDiff, Nat.reduceBEq, reduceCtorEq, Nat.reduceAdd, resA, ret1, qv, lv, ev, boolA, binA, intA, shiftA, cmpA, beqA, lres, hw]; exact ok (arity_0 k0)
    simp only [↓WP, WQ, if_true, if_false, eq_self, implies_true, ne_eq, List.nil_append, List.cons_append, ↓reduceIte, Nat.reduceEqDiff, Nat.reduceBEq, reduceCtorEq, Nat.reduceAdd, resA, ret1, qv, lv, ev, boolA, binA, intA, shiftA, cmpA, beqA, lres, h.idx h0 hi, hat]
    refine (Classical.em (x = 10)).elim (fun k1 => ?_) (fun k1 => ?_)
    · subst k1; simp only [↓WP, WQ, if_true, if_false, eq_self, implies_true, ne_eq, List.nil_append, List.cons_append, ↓reduceIte, Nat.reduceEqDiff, Nat.reduceBEq, reduceCtorEq, Nat.reduceAdd, resA, ret1, qv, lv, ev, boolA, binA, intA, shiftA, cmpA, beqA, lres, decide_eq_true (rfl : (10 : Int) = 10), hw]; exact ok rfl
    simp only [↓WP, WQ, if_true, if_false, eq_self, implies_true, ne_eq, List.nil_append, List.cons_append, ↓reduceIte, Nat.reduceEqDiff, Nat.reduceBEq, reduceCtorEq, Nat.reduceAdd, resA, ret1, qv, lv, ev, boolA, binA, intA, shiftA, cmpA, beqA, lres, decide_eq_false k1, h.idx h0 hi, hat]
    refine (Classical.em (x = 11)).elim (fun k2 => ?_) (fun k2 => ?_)
    · subst k2; simp only [↓WP, WQ, if_true, if_false, eq_self, implies_true, ne_eq, List.nil_append, List.cons_append, ↓reduceIte, Nat.reduceEqDiff, Nat.reduceBEq, reduceCtorEq, Nat.reduceAdd, resA, ret1, qv, lv, ev, boolA, binA, intA, shiftA, cmpA, beqA, lres, decide_eq_true (rfl : (11 : Int) = 11), hw]; exact ok rfl
    simp only [↓WP, WQ, if_true, if_false, eq_self, implies_true, ne_eq, List.nil_append, List.cons_append, ↓reduceIte, Nat.reduceEqDiff, Nat.reduceBEq, reduceCtorEq, Nat.reduceAdd, resA, ret1, qv, lv, ev, boolA, binA, intA, shiftA, cmpA, beqA, lres, decide_eq_false k2]
    rw [endF_none (by rw [hd, trm_none (arity_no k0 k1 k2 h3 h4 h5 h6 h7)])] at hq
    exact hq

theorem validTerm_c {v : AV} {t : List Int} (h : Ints H v t) (hn : t.length ≤ 1048576) {Q : AV → Hp → Prop} (ht : IsTerm t → Q (.bool true) H) (hf : ¬ IsTerm t → Q (.bool false) H) :
    ACalls Try.prog w0 74 [v] H Q := by
  refine in74 ?_
  simp only [c74, ↓WP, WQ, if_true, if_false, eq_self, implies_true, ne_eq, List.nil_append, List.cons_append, ↓reduceIte, Nat.reduceEqDiff, Nat.reduceBEq, reduceCtorEq, Nat.reduceAdd, resA, ret1, qv, lv, ev, boolA, binA, intA, shiftA, cmpA, beqA, lres, h.len]
  refine inRange_c _ _ _ (fun hl => ?_) (fun hl => ?_)
  rotate_left
  · simp only [↓WP, WQ, if_true, if_false, eq_self, implies_true, ne_eq, List.nil_append, List.cons_append, ↓reduceIte, Nat.reduceEqDiff, Nat.reduceBEq, reduceCtorEq, Nat.reduceAdd, resA, ret1, qv, lv, ev, boolA, binA, intA, shiftA, cmpA, beqA, lres]
    refine hf fun hT => hl ⟨?_, by have := hT.1; omega⟩
    cases t with
    | nil => have := hT.2; rw [trm_nil] at this; cases this
    | cons a t => simp only [List.length_cons]; omega
  simp only [↓WP, WQ, if_true, if_false, eq_self, implies_true, ne_eq, List.nil_append, List.cons_append, ↓reduceIte, Nat.reduceEqDiff, Nat.reduceBEq, reduceCtorEq, Nat.reduceAdd, resA, ret1, qv, lv, ev, boolA, binA, intA, shiftA, cmpA, beqA, lres]
  refine end_c h hn t.length (by omega) (by omega) (by omega) ?_
  simp only [↓WP, WQ, if_true, if_false, eq_self, implies_true, ne_eq, List.nil_append, List.cons_append, ↓reduceIte, Nat.reduceEqDiff, Nat.reduceBEq, reduceCtorEq, Nat.reduceAdd, resA, ret1, qv, lv, ev, boolA, binA, intA, shiftA, cmpA, beqA, lres, h.len]
  have e : endF t 0 = t.length ↔ trm 1 t = some [] := by
    unfold endF
    rw [show (0 : Int).toNat = 0 from rfl, List.drop_zero]
    cases hr : trm 1 t with
    | none => exact ⟨fun h => absurd h (by simp only; omega), fun h => by cases h⟩
    | some r =>
      simp only [Option.some.injEq]
      constructor
      · intro h; exact List.length_eq_zero_iff.1 (by omega)
      · rintro rfl; simp
  by_cases hc : endF t 0 = t.length
  · rw [decide_eq_true hc]; exact ht ⟨by omega, e.1 hc⟩
  · rw [decide_eq_false hc]; exact hf fun hT => hc (e.2 hT.2)
end Go.AL

/-
  Values of terms.
-/
namespace Go.AL
open Go.Proofs
set_option linter.unusedSimpArgs false
set_option linter.unusedVariables false
set_option linter.unusedSectionVars false
variable {w0 : World} {H : Hp}

noncomputable def opF (A : Alg) (x p q : Int) : Int := if x = 13 then meetF A.up p q else if x = 14 then joinF A.up p q else if x = 15 then A.tm p q else impF A p q
/-- A term, what is behind it, and its value. -/
inductive Val (A : Alg) (nm : List Int) : List Int → List Int → Int → Prop
  | name {x : Int} {t : List Int} : 0 ≤ x → x ≤ 2 → Val A nm (x :: t) t (nm.getD x.toNat 0)
  | least {t : List Int} : Val A nm (10 :: t) t 0
  | top {t : List Int} : Val A nm (11 :: t) t (A.up.length - 1)
  | not {t r : List Int} {p : Int} : Val A nm t r p → Val A nm (12 :: t) r (impF A p 0)
  | bin {t r s : List Int} {x p q : Int} : x = 13 ∨ x = 14 ∨ x = 15 ∨ x = 16 → Val A nm t r p → Val A nm r s q → Val A nm (x :: t) s (opF A x p q)

def NmOk (A : Alg) (nm : List Int) : Prop := nm.length = 3 ∧ ∀ i : Int, 0 ≤ i → i < 3 → El A (nm.getD i.toNat 0)
section
variable {A : Alg} {nm : List Int}
theorem opF_el (hA : IsAlg A) {x p q : Int} (hp : El A p) (hq : El A q) : El A (opF A x p q) := by
  unfold opF; split
  · exact hA.me hp hq
  · split
    · exact hA.je hp hq
    · split
      · exact hA.te hp hq
      · exact hA.ie p q
theorem Val.el (hA : IsAlg A) (hn : NmOk A nm) {t r : List Int} {p : Int} (h : Val A nm t r p) : El A p := by
  induction h with
  | name h0 h1 => exact hn.2 _ h0 (by omega)
  | least => exact hA.e0
  | top => exact hA.e1
  | not _ ih => exact hA.ie _ _
  | bin _ _ _ ih1 ih2 => exact opF_el hA ih1 ih2
theorem ar2 {x : Int} (h : x = 13 ∨ x = 14 ∨ x = 15 ∨ x = 16) : arity x = some 2 := by
  rcases h with h | h | h | h <;> subst h <;> rfl
theorem Val.trm {t r : List Int} {p : Int} (h : Val A nm t r p) : trm 1 t = some r := by
  induction h with
  | name h0 h1 => rw [trm_some (arity_0 ⟨h0, h1⟩), trm_zero]
  | least => rw [trm_some arity_10, trm_zero]
  | top => rw [trm_some arity_11, trm_zero]
  | not _ ih => rw [trm_some arity_12]; exact ih
  | bin hx _ _ ih1 ih2 => rw [trm_some (ar2 hx), trm_two, ih1]; exact ih2
theorem arity_some {x : Int} {n : Nat} (h : arity x = some n) : ((0 ≤ x ∧ x ≤ 2) ∨ x = 10 ∨ x = 11) ∧ n = 0 ∨ x = 12 ∧ n = 1 ∨ (x = 13 ∨ x = 14 ∨ x = 15 ∨ x = 16) ∧ n = 2 := by
  unfold arity at h
  split at h
  · cases h; exact Or.inl ⟨by assumption, rfl⟩
  · split at h
    · cases h; exact Or.inr (Or.inl ⟨by assumption, rfl⟩)
    · split at h
      · cases h; exact Or.inr (Or.inr ⟨by assumption, rfl⟩)
      · cases h
theorem Val.ex : ∀ (m : Nat) {t r : List Int}, t.length ≤ m → Go.AL.trm 1 t = some r → ∃ p, Val A nm t r p
  | _, [], r, _, h => by rw [trm_nil] at h; cases h
  | 0, x :: t, r, hm, _ => by simp at hm
  | m + 1, x :: t, r, hm, h => by
    have hm' : t.length ≤ m := by simpa using hm
    cases ha : arity x with
    | none => rw [trm_none ha] at h; cases h
    | some n =>
      rw [trm_some ha] at h
      rcases arity_some ha with ⟨h0, rfl⟩ | ⟨rfl, rfl⟩ | ⟨hx, rfl⟩
      · rw [trm_zero] at h; cases h
        rcases h0 with h0 | rfl | rfl
        · exact ⟨_, .name h0.1 h0.2⟩
        · exact ⟨_, .least⟩
        · exact ⟨_, .top⟩
      · obtain ⟨p, hp⟩ := Val.ex m hm' h
        exact ⟨_, .not hp⟩
      · rw [trm_two] at h
        cases h1 : Go.AL.trm 1 t with
        | none => rw [h1] at h; cases h
        | some s =>
          rw [h1] at h
          obtain ⟨p, hp⟩ := Val.ex m hm' h1
          obtain ⟨z, hz⟩ := trm_suffix _ _ h1
          have hs : s.length ≤ m := by
            have := congrArg List.length hz
            rw [List.length_append] at this; omega
          obtain ⟨q, hq⟩ := Val.ex m hs h
          exact ⟨_, .bin hx hp hq⟩
end

theorem ints_rest {v : AV} {x : Int} {t : List Int} (h : Ints H v (x :: t)) : ∃ w, slA 1 v (some (.int .i64 1)) none = some w ∧ Ints H w t := by
  obtain ⟨h1, h2⟩ := h
  cases v <;> simp only [lenA, Option.some.injEq, reduceCtorEq, List.length_cons] at h1
  all_goals try omega
  rename_i q o n
  subst h1
  have hb : (0 : Int) ≤ 1 ∧ (1 : Int) ≤ ((t.length + 1 : Nat) : Int) ∧ ((t.length + 1 : Nat) : Int) ≤ ((t.length + 1 : Nat) : Int) := ⟨by omega, by omega, by omega⟩
  by_cases ht : t = []
  · subst ht
    exact ⟨.emp, by simp [slA, intOfA, lenA_sl], rfl, rfl⟩
  · have hpos : 0 < t.length := List.length_pos_iff.2 ht
    have hne : ¬ (((t.length + 1 : Nat) : Int) = 1) := by omega
    refine ⟨.sl q (o + 1) t.length, ?_, rfl, ?_⟩
    · simp only [slA, intOfA, lenA_sl, hb, and_self, if_true, hne, if_false, Option.some.injEq, AV.sl.injEq, true_and]
      exact ⟨by simp, by omega⟩
    · simp only [Hp.row] at h2 ⊢
      cases hH : H q with
      | none => rw [hH] at h2; cases h2
      | some row =>
        rw [hH] at h2
        simp only [Nat.mul_one] at h2 ⊢
        split at h2
        · rename_i hle
          rw [if_pos (by omega)]
          simp only [Option.some.injEq] at h2 ⊢
          have h3 : (row.cells.drop (o + 1)) = (row.cells.drop o).tail := by rw [List.tail_drop]
          have h4 : ((row.cells.drop o).take (t.length + 1)).tail = (row.cells.drop o).tail.take t.length := by
            cases row.cells.drop o with
            | nil => simp
            | cons a l => simp
          rw [h3, ← h4, h2]
          simp
        · cases h2

theorem value_c {A : Alg} {nm : List Int} (hA : IsAlg A) (hn : NmOk A nm) {t r : List Int} {p : Int} (hV : Val A nm t r p) : ∀ {H : Hp} {uv tv v nv : AV} {Q : AV → Hp → Prop}, Ints H uv A.up → Mat H tv A.times → Ints H v t → Ints H nv nm →
    (∀ w H', Ext H H' → Ints H' w r → Q (.tup [.int .i64 p, w]) H') → ACalls Try.prog w0 137 [.agg [uv, tv], v, nv] H Q := by
  have hn6 := hA.hi
  have hwl : IntKind.i64.wrap ((A.up.length : Int) - 1) = A.up.length - 1 := wrap_id (by omega) (by omega)
  have hnl := hn.1
  induction hV with
  | name h0 h1 =>
    rename_i x t
    intro H uv tv v nv Q h hm hv hnv hq
    refine in137 ?_
    simp only [c137, ↓WP, WQ, if_true, if_false, eq_self, implies_true, ne_eq, List.nil_append, List.cons_append, ↓reduceIte, Nat.reduceEqDiff, Nat.reduceBEq, reduceCtorEq, Nat.reduceAdd, resA, ret1, qv, lv, ev, boolA, binA, intA, shiftA, cmpA, beqA, lres, cells_alg h.len hm.len]
    refine NewRowd_in fun b hb => ?_
    have o := Own.nil0.push (x := ⟨36, true, [uv, tv]⟩) hb
    generalize H.set b ⟨36, true, [uv, tv]⟩ = G at *
    have hv := hv.ext o.ext'
    have hnv := hnv.ext o.ext'
    obtain ⟨w, w1, w2⟩ := ints_rest hv
    have i0 := hv.idx (k := .i64) (i := 0) (by omega) (by simp)
    have a0 := hv.at (i := 0) (by simp)
    have hl : x < 3 := by omega
    have hx1 : x < nm.length := by omega
    simp only [List.getD_cons_zero, show (0 : Int).toNat = 0 from rfl] at i0 a0
    simp only [↓WP, WQ, if_true, if_false, eq_self, implies_true, ne_eq, List.nil_append, List.cons_append, ↓reduceIte, Nat.reduceEqDiff, Nat.reduceBEq, reduceCtorEq, Nat.reduceAdd, resA, ret1, qv, lv, ev, boolA, binA, intA, shiftA, cmpA, beqA, lres]
    refine DR_in (fun _ => True) rfl ?_
    simp only [↓WP, WQ, if_true, if_false, eq_self, implies_true, ne_eq, List.nil_append, List.cons_append, ↓reduceIte, Nat.reduceEqDiff, Nat.reduceBEq, reduceCtorEq, Nat.reduceAdd, resA, ret1, qv, lv, ev, boolA, binA, intA, shiftA, cmpA, beqA, lres, i0, a0, Option.map_none, w1, hl, hnv.idx h0 hx1, hnv.at (show x.toNat < nm.length by omega)]
    exact hq w G o.ext' w2
  | least =>
    rename_i t
    intro H uv tv v nv Q h hm hv hnv hq
    refine in137 ?_
    simp only [c137, ↓WP, WQ, if_true, if_false, eq_self, implies_true, ne_eq, List.nil_append, List.cons_append, ↓reduceIte, Nat.reduceEqDiff, Nat.reduceBEq, reduceCtorEq, Nat.reduceAdd, resA, ret1, qv, lv, ev, boolA, binA, intA, shiftA, cmpA, beqA, lres, cells_alg h.len hm.len]
    refine NewRowd_in fun b hb => ?_
    have o := Own.nil0.push (x := ⟨36, true, [uv, tv]⟩) hb
    generalize H.set b ⟨36, true, [uv, tv]⟩ = G at *
    have hv := hv.ext o.ext'
    obtain ⟨w, w1, w2⟩ := ints_rest hv
    have i0 := hv.idx (k := .i64) (i := 0) (by omega) (by simp)
    have a0 := hv.at (i := 0) (by simp)
    simp only [List.getD_cons_zero, show (0 : Int).toNat = 0 from rfl] at i0 a0
    simp only [↓WP, WQ, if_true, if_false, eq_self, implies_true, ne_eq, List.nil_append, List.cons_append, ↓reduceIte, Nat.reduceEqDiff, Nat.reduceBEq, reduceCtorEq, Nat.reduceAdd, resA, ret1, qv, lv, ev, boolA, binA, intA, shiftA, cmpA, beqA, lres]
    refine DR_in (fun _ => True) rfl ?_
    simp only [↓WP, WQ, if_true, if_false, eq_self, implies_true, ne_eq, List.nil_append, List.cons_append, ↓reduceIte, Nat.reduceEqDiff, Nat.reduceBEq, reduceCtorEq, Nat.reduceAdd, resA, ret1, qv, lv, ev, boolA, binA, intA, shiftA, cmpA, beqA, lres, i0, a0, Option.map_none, w1, show ¬ (10 : Int) < 3 by omega, decide_eq_true (rfl : (10 : Int) = 10)]
    exact hq w G o.ext' w2
  | top =>
    rename_i t
    intro H uv tv v nv Q h hm hv hnv hq
    refine in137 ?_
    simp only [c137, ↓WP, WQ, if_true, if_false, eq_self, implies_true, ne_eq, List.nil_append, List.cons_append, ↓reduceIte, Nat.reduceEqDiff, Nat.reduceBEq, reduceCtorEq, Nat.reduceAdd, resA, ret1, qv, lv, ev, boolA, binA, intA, shiftA, cmpA, beqA, lres, cells_alg h.len hm.len]
    refine NewRowd_in fun b hb => ?_
    have o := Own.nil0.push (x := ⟨36, true, [uv, tv]⟩) hb
    generalize H.set b ⟨36, true, [uv, tv]⟩ = G at *
    have hv := hv.ext o.ext'
    have gb := o.get (i := 0) rfl
    obtain ⟨w, w1, w2⟩ := ints_rest hv
    have i0 := hv.idx (k := .i64) (i := 0) (by omega) (by simp)
    have a0 := hv.at (i := 0) (by simp)
    simp only [List.getD_cons_zero, show (0 : Int).toNat = 0 from rfl] at i0 a0
    simp only [↓WP, WQ, if_true, if_false, eq_self, implies_true, ne_eq, List.nil_append, List.cons_append, ↓reduceIte, Nat.reduceEqDiff, Nat.reduceBEq, reduceCtorEq, Nat.reduceAdd, resA, ret1, qv, lv, ev, boolA, binA, intA, shiftA, cmpA, beqA, lres]
    refine DR_in (fun _ => True) rfl ?_
    simp only [↓WP, WQ, if_true, if_false, eq_self, implies_true, ne_eq, List.nil_append, List.cons_append, ↓reduceIte, Nat.reduceEqDiff, Nat.reduceBEq, reduceCtorEq, Nat.reduceAdd, resA, ret1, qv, lv, ev, boolA, binA, intA, shiftA, cmpA, beqA, lres, i0, a0, Option.map_none, w1, show ¬ (11 : Int) < 3 by omega, decide_eq_false (show ¬ (11 : Int) = 10 by omega), decide_eq_true (rfl : (11 : Int) = 11), at_fst gb, h.len, hwl]
    exact hq w G o.ext' w2
  | not hV1 ih =>
    rename_i t r p
    have ep := hV1.el hA hn
    intro H uv tv v nv Q h hm hv hnv hq
    refine in137 ?_
    simp only [c137, ↓WP, WQ, if_true, if_false, eq_self, implies_true, ne_eq, List.nil_append, List.cons_append, ↓reduceIte, Nat.reduceEqDiff, Nat.reduceBEq, reduceCtorEq, Nat.reduceAdd, resA, ret1, qv, lv, ev, boolA, binA, intA, shiftA, cmpA, beqA, lres, cells_alg h.len hm.len]
    refine NewRowd_in fun b hb => ?_
    have o := Own.nil0.push (x := ⟨36, true, [uv, tv]⟩) hb
    generalize H.set b ⟨36, true, [uv, tv]⟩ = G at *
    have hv := hv.ext o.ext'
    have gb := o.get (i := 0) rfl
    obtain ⟨w, w1, w2⟩ := ints_rest hv
    have i0 := hv.idx (k := .i64) (i := 0) (by omega) (by simp)
    have a0 := hv.at (i := 0) (by simp)
    simp only [List.getD_cons_zero, show (0 : Int).toNat = 0 from rfl] at i0 a0
    simp only [↓WP, WQ, if_true, if_false, eq_self, implies_true, ne_eq, List.nil_append, List.cons_append, ↓reduceIte, Nat.reduceEqDiff, Nat.reduceBEq, reduceCtorEq, Nat.reduceAdd, resA, ret1, qv, lv, ev, boolA, binA, intA, shiftA, cmpA, beqA, lres]
    refine DR_in (fun _ => True) rfl ?_
    simp only [↓WP, WQ, if_true, if_false, eq_self, implies_true, ne_eq, List.nil_append, List.cons_append, ↓reduceIte, Nat.reduceEqDiff, Nat.reduceBEq, reduceCtorEq, Nat.reduceAdd, resA, ret1, qv, lv, ev, boolA, binA, intA, shiftA, cmpA, beqA, lres, i0, a0, Option.map_none, w1, show ¬ (12 : Int) < 3 by omega, decide_eq_false (show ¬ (12 : Int) = 10 by omega), decide_eq_false (show ¬ (12 : Int) = 11 by omega), atN_two gb]
    refine ih (h.ext o.ext') (hm.ext o.ext') w2 (hnv.ext o.ext') fun w' G1 hE hw' => ?_
    have hE1 := o.ext'.trans hE
    have gb := hE.get gb
    simp only [↓WP, WQ, if_true, if_false, eq_self, implies_true, ne_eq, List.nil_append, List.cons_append, ↓reduceIte, Nat.reduceEqDiff, Nat.reduceBEq, reduceCtorEq, Nat.reduceAdd, resA, ret1, qv, lv, ev, boolA, binA, intA, shiftA, cmpA, beqA, lres, decide_eq_true (rfl : (12 : Int) = 12), atN_two gb]
    refine not_c (h.ext hE1) (hm.ext hE1) hA ep.1 ep.2 ?_
    simp only [↓WP, WQ, if_true, if_false, eq_self, implies_true, ne_eq, List.nil_append, List.cons_append, ↓reduceIte, Nat.reduceEqDiff, Nat.reduceBEq, reduceCtorEq, Nat.reduceAdd, resA, ret1, qv, lv, ev, boolA, binA, intA, shiftA, cmpA, beqA, lres]
    exact hq w' G1 hE1 hw'
  | bin hx hV1 hV2 ih1 ih2 =>
    rename_i t r s x p q
    have ep := hV1.el hA hn
    have eq' := hV2.el hA hn
    intro H uv tv v nv Q h hm hv hnv hq
    refine in137 ?_
    simp only [c137, ↓WP, WQ, if_true, if_false, eq_self, implies_true, ne_eq, List.nil_append, List.cons_append, ↓reduceIte, Nat.reduceEqDiff, Nat.reduceBEq, reduceCtorEq, Nat.reduceAdd, resA, ret1, qv, lv, ev, boolA, binA, intA, shiftA, cmpA, beqA, lres, cells_alg h.len hm.len]
    refine NewRowd_in fun b hb => ?_
    have o := Own.nil0.push (x := ⟨36, true, [uv, tv]⟩) hb
    generalize H.set b ⟨36, true, [uv, tv]⟩ = G at *
    have hv := hv.ext o.ext'
    have gb := o.get (i := 0) rfl
    obtain ⟨w, w1, w2⟩ := ints_rest hv
    have i0 := hv.idx (k := .i64) (i := 0) (by omega) (by simp)
    have a0 := hv.at (i := 0) (by simp)
    simp only [List.getD_cons_zero, show (0 : Int).toNat = 0 from rfl] at i0 a0
    have x3 : ¬ x < 3 := by omega
    have x10 : ¬ x = 10 := by omega
    have x11 : ¬ x = 11 := by omega
    have x12 : ¬ x = 12 := by omega
    simp only [↓WP, WQ, if_true, if_false, eq_self, implies_true, ne_eq, List.nil_append, List.cons_append, ↓reduceIte, Nat.reduceEqDiff, Nat.reduceBEq, reduceCtorEq, Nat.reduceAdd, resA, ret1, qv, lv, ev, boolA, binA, intA, shiftA, cmpA, beqA, lres]
    refine DR_in (fun _ => True) rfl ?_
    simp only [↓WP, WQ, if_true, if_false, eq_self, implies_true, ne_eq, List.nil_append, List.cons_append, ↓reduceIte, Nat.reduceEqDiff, Nat.reduceBEq, reduceCtorEq, Nat.reduceAdd, resA, ret1, qv, lv, ev, boolA, binA, intA, shiftA, cmpA, beqA, lres, i0, a0, Option.map_none, w1, x3, decide_eq_false x10, decide_eq_false x11, atN_two gb]
    refine ih1 (h.ext o.ext') (hm.ext o.ext') w2 (hnv.ext o.ext') fun w' G1 hE hw' => ?_
    have hE1 := o.ext'.trans hE
    have gb := hE.get gb
    simp only [↓WP, WQ, if_true, if_false, eq_self, implies_true, ne_eq, List.nil_append, List.cons_append, ↓reduceIte, Nat.reduceEqDiff, Nat.reduceBEq, reduceCtorEq, Nat.reduceAdd, resA, ret1, qv, lv, ev, boolA, binA, intA, shiftA, cmpA, beqA, lres, decide_eq_false x12, atN_two gb]
    refine ih2 (h.ext hE1) (hm.ext hE1) hw' (hnv.ext hE1) fun w'' G2 hE' hw'' => ?_
    have hE2 := hE1.trans hE'
    have gb := hE'.get gb
    have h := h.ext hE2
    have hm := hm.ext hE2
    have hT : Tab G2 tv A := ⟨hm, hA.toSquare⟩
    refine (Classical.em (x = 13)).elim (fun h4 => ?_) (fun h4 => ?_)
    · subst h4
      simp only [↓WP, WQ, if_true, if_false, eq_self, implies_true, ne_eq, List.nil_append, List.cons_append, ↓reduceIte, Nat.reduceEqDiff, Nat.reduceBEq, reduceCtorEq, Nat.reduceAdd, resA, ret1, qv, lv, ev, boolA, binA, intA, shiftA, cmpA, beqA, lres, decide_eq_true (rfl : (13 : Int) = 13), at_fst gb]
      refine meet_c h (by omega) ep.1 ep.2 eq'.1 eq'.2 ?_
      simp only [↓WP, WQ, if_true, if_false, eq_self, implies_true, ne_eq, List.nil_append, List.cons_append, ↓reduceIte, Nat.reduceEqDiff, Nat.reduceBEq, reduceCtorEq, Nat.reduceAdd, resA, ret1, qv, lv, ev, boolA, binA, intA, shiftA, cmpA, beqA, lres]
      exact hq w'' G2 hE2 hw''
    simp only [↓WP, WQ, if_true, if_false, eq_self, implies_true, ne_eq, List.nil_append, List.cons_append, ↓reduceIte, Nat.reduceEqDiff, Nat.reduceBEq, reduceCtorEq, Nat.reduceAdd, resA, ret1, qv, lv, ev, boolA, binA, intA, shiftA, cmpA, beqA, lres, decide_eq_false h4]
    refine (Classical.em (x = 14)).elim (fun h5 => ?_) (fun h5 => ?_)
    · subst h5
      simp only [↓WP, WQ, if_true, if_false, eq_self, implies_true, ne_eq, List.nil_append, List.cons_append, ↓reduceIte, Nat.reduceEqDiff, Nat.reduceBEq, reduceCtorEq, Nat.reduceAdd, resA, ret1, qv, lv, ev, boolA, binA, intA, shiftA, cmpA, beqA, lres, decide_eq_true (rfl : (14 : Int) = 14), at_fst gb]
      refine join_c h hn6 hA.rng ep.1 ep.2 eq'.1 eq'.2 ?_
      simp only [↓WP, WQ, if_true, if_false, eq_self, implies_true, ne_eq, List.nil_append, List.cons_append, ↓reduceIte, Nat.reduceEqDiff, Nat.reduceBEq, reduceCtorEq, Nat.reduceAdd, resA, ret1, qv, lv, ev, boolA, binA, intA, shiftA, cmpA, beqA, lres]
      exact hq w'' G2 hE2 hw''
    simp only [↓WP, WQ, if_true, if_false, eq_self, implies_true, ne_eq, List.nil_append, List.cons_append, ↓reduceIte, Nat.reduceEqDiff, Nat.reduceBEq, reduceCtorEq, Nat.reduceAdd, resA, ret1, qv, lv, ev, boolA, binA, intA, shiftA, cmpA, beqA, lres, decide_eq_false h5]
    refine (Classical.em (x = 15)).elim (fun h6 => ?_) (fun h6 => ?_)
    · subst h6
      simp only [↓WP, WQ, if_true, if_false, eq_self, implies_true, ne_eq, List.nil_append, List.cons_append, ↓reduceIte, Nat.reduceEqDiff, Nat.reduceBEq, reduceCtorEq, Nat.reduceAdd, resA, ret1, qv, lv, ev, boolA, binA, intA, shiftA, cmpA, beqA, lres, decide_eq_true (rfl : (15 : Int) = 15), at_snd gb, hT.idx ep.1 ep.2, hT.at ep.1 ep.2, hT.idx2 ep.1 ep.2 eq'.1 eq'.2, hT.at2 ep.1 ep.2 eq'.1 eq'.2]
      exact hq w'' G2 hE2 hw''
    simp only [↓WP, WQ, if_true, if_false, eq_self, implies_true, ne_eq, List.nil_append, List.cons_append, ↓reduceIte, Nat.reduceEqDiff, Nat.reduceBEq, reduceCtorEq, Nat.reduceAdd, resA, ret1, qv, lv, ev, boolA, binA, intA, shiftA, cmpA, beqA, lres, decide_eq_false h6, atN_two gb]
    refine imply_c h hm hA ep.1 ep.2 eq'.1 eq'.2 ?_
    simp only [↓WP, WQ, if_true, if_false, eq_self, implies_true, ne_eq, List.nil_append, List.cons_append, ↓reduceIte, Nat.reduceEqDiff, Nat.reduceBEq, reduceCtorEq, Nat.reduceAdd, resA, ret1, qv, lv, ev, boolA, binA, intA, shiftA, cmpA, beqA, lres]
    have e : opF A x p q = impF A p q := by unfold opF; rw [if_neg h4, if_neg h5, if_neg h6]
    rw [e] at hq
    exact hq w'' G2 hE2 hw''

theorem valueOf_c {A : Alg} {nm t : List Int} {p : Int} {uv tv v nv : AV} (h : Ints H uv A.up) (hm : Mat H tv A.times) (hA : IsAlg A) (hn : NmOk A nm) (hv : Ints H v t) (hnv : Ints H nv nm) (hV : Val A nm t [] p) {Q : AV → Hp → Prop} (hq : Q (.int .i64 p) H) :
    ACalls Try.prog w0 80 [.agg [uv, tv], v, nv] H Q := by
  refine quiet (.int .i64 p) rfl ?_ hq
  refine in80 ?_
  simp only [c80, ↓WP, WQ, if_true, if_false, eq_self, implies_true, ne_eq, List.nil_append, List.cons_append, ↓reduceIte, Nat.reduceEqDiff, Nat.reduceBEq, reduceCtorEq, Nat.reduceAdd, resA, ret1, qv, lv, ev, boolA, binA, intA, shiftA, cmpA, beqA, lres, cells_alg h.len hm.len]
  refine NewRowd_in fun b hb => ?_
  have o := Own.nil0.push (x := ⟨36, true, [uv, tv]⟩) hb
  generalize H.set b ⟨36, true, [uv, tv]⟩ = G at *
  simp only [↓WP, WQ, if_true, if_false, eq_self, implies_true, ne_eq, List.nil_append, List.cons_append, ↓reduceIte, Nat.reduceEqDiff, Nat.reduceBEq, reduceCtorEq, Nat.reduceAdd, resA, ret1, qv, lv, ev, boolA, binA, intA, shiftA, cmpA, beqA, lres, atN_two (o.get (i := 0) rfl)]
  refine value_c hA hn hV (h.ext o.ext') (hm.ext o.ext') (hv.ext o.ext') (hnv.ext o.ext') fun w G1 hE _ => ?_
  simp only [↓WP, WQ, if_true, if_false, eq_self, implies_true, ne_eq, List.nil_append, List.cons_append, ↓reduceIte, Nat.reduceEqDiff, Nat.reduceBEq, reduceCtorEq, Nat.reduceAdd, resA, ret1, qv, lv, ev, boolA, binA, intA, shiftA, cmpA, beqA, lres]
  exact o.ext'.trans hE

theorem svalue_c {A : Alg} {nm T : List Int} (hA : IsAlg A) (hn : NmOk A nm) (hTl : T.length ≤ 1048576) {t r : List Int} {p : Int} (hV : Val A nm t r p) : ∀ {H : Hp} {uv tv v nv : AV} {i : Int} {Q : AV → Hp → Prop}, Ints H uv A.up → Mat H tv A.times → Ints H v T → Ints H nv nm → 0 ≤ i → i < T.length → T.drop i.toNat = t →
    Q (.int .i64 p) H → ACalls Try.prog w0 76 [.agg [uv, tv], v, .int .i64 i, nv] H Q := by
  have hn6 := hA.hi
  have hwl : IntKind.i64.wrap ((A.up.length : Int) - 1) = A.up.length - 1 := wrap_id (by omega) (by omega)
  have hnl := hn.1
  induction hV with
  | name h0 h1 =>
    rename_i x t
    intro H uv tv v nv i Q h hm hv hnv hi0 hi1 hd hq
    refine quiet _ rfl ?_ hq
    refine in76 ?_
    simp only [c76, ↓WP, WQ, if_true, if_false, eq_self, implies_true, ne_eq, List.nil_append, List.cons_append, ↓reduceIte, Nat.reduceEqDiff, Nat.reduceBEq, reduceCtorEq, Nat.reduceAdd, resA, ret1, qv, lv, ev, boolA, binA, intA, shiftA, cmpA, beqA, lres, cells_alg h.len hm.len]
    refine NewRowd_in fun b hb => ?_
    have o := Own.nil0.push (x := ⟨36, true, [uv, tv]⟩) hb
    generalize H.set b ⟨36, true, [uv, tv]⟩ = G at *
    have hv := hv.ext o.ext'
    have hnv := hnv.ext o.ext'
    have ix := hv.idx (k := .i64) hi0 hi1
    have ax := hv.at (show i.toNat < T.length by omega)
    rw [drop_cons hi0 hi1] at hd
    rw [(List.cons.inj hd).1] at ax
    have hl : x < 3 := by omega
    have hx1 : x < nm.length := by omega
    simp only [↓WP, WQ, if_true, if_false, eq_self, implies_true, ne_eq, List.nil_append, List.cons_append, ↓reduceIte, Nat.reduceEqDiff, Nat.reduceBEq, reduceCtorEq, Nat.reduceAdd, resA, ret1, qv, lv, ev, boolA, binA, intA, shiftA, cmpA, beqA, lres, ix, ax, decide_eq_false (show ¬ x = 10 by omega), decide_eq_false (show ¬ x = 11 by omega), decide_eq_false (show ¬ x = 12 by omega), hl, hnv.idx h0 hx1, hnv.at (show x.toNat < nm.length by omega)]
    exact o.ext'
  | least =>
    rename_i t
    intro H uv tv v nv i Q h hm hv hnv hi0 hi1 hd hq
    refine quiet _ rfl ?_ hq
    refine in76 ?_
    simp only [c76, ↓WP, WQ, if_true, if_false, eq_self, implies_true, ne_eq, List.nil_append, List.cons_append, ↓reduceIte, Nat.reduceEqDiff, Nat.reduceBEq, reduceCtorEq, Nat.reduceAdd, resA, ret1, qv, lv, ev, boolA, binA, intA, shiftA, cmpA, beqA, lres, cells_alg h.len hm.len]
    refine NewRowd_in fun b hb => ?_
    have o := Own.nil0.push (x := ⟨36, true, [uv, tv]⟩) hb
    generalize H.set b ⟨36, true, [uv, tv]⟩ = G at *
    have hv := hv.ext o.ext'
    have ix := hv.idx (k := .i64) hi0 hi1
    have ax := hv.at (show i.toNat < T.length by omega)
    rw [drop_cons hi0 hi1] at hd
    rw [(List.cons.inj hd).1] at ax
    simp only [↓WP, WQ, if_true, if_false, eq_self, implies_true, ne_eq, List.nil_append, List.cons_append, ↓reduceIte, Nat.reduceEqDiff, Nat.reduceBEq, reduceCtorEq, Nat.reduceAdd, resA, ret1, qv, lv, ev, boolA, binA, intA, shiftA, cmpA, beqA, lres, ix, ax, decide_eq_true (rfl : (10 : Int) = 10)]
    exact o.ext'
  | top =>
    rename_i t
    intro H uv tv v nv i Q h hm hv hnv hi0 hi1 hd hq
    refine quiet _ rfl ?_ hq
    refine in76 ?_
    simp only [c76, ↓WP, WQ, if_true, if_false, eq_self, implies_true, ne_eq, List.nil_append, List.cons_append, ↓reduceIte, Nat.reduceEqDiff, Nat.reduceBEq, reduceCtorEq, Nat.reduceAdd, resA, ret1, qv, lv, ev, boolA, binA, intA, shiftA, cmpA, beqA, lres, cells_alg h.len hm.len]
    refine NewRowd_in fun b hb => ?_
    have o := Own.nil0.push (x := ⟨36, true, [uv, tv]⟩) hb
    generalize H.set b ⟨36, true, [uv, tv]⟩ = G at *
    have gb := o.get (i := 0) rfl
    have hv := hv.ext o.ext'
    have ix := hv.idx (k := .i64) hi0 hi1
    have ax := hv.at (show i.toNat < T.length by omega)
    rw [drop_cons hi0 hi1] at hd
    rw [(List.cons.inj hd).1] at ax
    simp only [↓WP, WQ, if_true, if_false, eq_self, implies_true, ne_eq, List.nil_append, List.cons_append, ↓reduceIte, Nat.reduceEqDiff, Nat.reduceBEq, reduceCtorEq, Nat.reduceAdd, resA, ret1, qv, lv, ev, boolA, binA, intA, shiftA, cmpA, beqA, lres, ix, ax, decide_eq_false (show ¬ (11 : Int) = 10 by omega), decide_eq_true (rfl : (11 : Int) = 11), at_fst gb, h.len, hwl]
    exact o.ext'
  | not hV1 ih =>
    rename_i t r p
    have ep := hV1.el hA hn
    intro H uv tv v nv i Q h hm hv hnv hi0 hi1 hd hq
    refine quiet _ rfl ?_ hq
    refine in76 ?_
    simp only [c76, ↓WP, WQ, if_true, if_false, eq_self, implies_true, ne_eq, List.nil_append, List.cons_append, ↓reduceIte, Nat.reduceEqDiff, Nat.reduceBEq, reduceCtorEq, Nat.reduceAdd, resA, ret1, qv, lv, ev, boolA, binA, intA, shiftA, cmpA, beqA, lres, cells_alg h.len hm.len]
    refine NewRowd_in fun b hb => ?_
    have o := Own.nil0.push (x := ⟨36, true, [uv, tv]⟩) hb
    generalize H.set b ⟨36, true, [uv, tv]⟩ = G at *
    have gb := o.get (i := 0) rfl
    have hv := hv.ext o.ext'
    have h := h.ext o.ext'
    have hm := hm.ext o.ext'
    have ix := hv.idx (k := .i64) hi0 hi1
    have ax := hv.at (show i.toNat < T.length by omega)
    rw [drop_cons hi0 hi1] at hd
    rw [(List.cons.inj hd).1] at ax
    have hd1 := (List.cons.inj hd).2
    have hne : i + 1 < T.length := by
      refine Classical.byContradiction fun hc => ?_
      rw [List.drop_of_length_le (by omega)] at hd1
      rw [← hd1] at hV1
      have := hV1.trm
      rw [trm_nil] at this; cases this
    have hwi : IntKind.i64.wrap (i + 1) = i + 1 := wrap_id (by omega) (by omega)
    simp only [↓WP, WQ, if_true, if_false, eq_self, implies_true, ne_eq, List.nil_append, List.cons_append, ↓reduceIte, Nat.reduceEqDiff, Nat.reduceBEq, reduceCtorEq, Nat.reduceAdd, resA, ret1, qv, lv, ev, boolA, binA, intA, shiftA, cmpA, beqA, lres, ix, ax, decide_eq_false (show ¬ (12 : Int) = 10 by omega), decide_eq_false (show ¬ (12 : Int) = 11 by omega), decide_eq_true (rfl : (12 : Int) = 12)]
    refine DR_in (fun _ => True) rfl ?_
    simp only [↓WP, WQ, if_true, if_false, eq_self, implies_true, ne_eq, List.nil_append, List.cons_append, ↓reduceIte, Nat.reduceEqDiff, Nat.reduceBEq, reduceCtorEq, Nat.reduceAdd, resA, ret1, qv, lv, ev, boolA, binA, intA, shiftA, cmpA, beqA, lres, atN_two gb, hwi]
    refine ih h hm hv (hnv.ext o.ext') (by omega) hne hd1 ?_
    simp only [↓WP, WQ, if_true, if_false, eq_self, implies_true, ne_eq, List.nil_append, List.cons_append, ↓reduceIte, Nat.reduceEqDiff, Nat.reduceBEq, reduceCtorEq, Nat.reduceAdd, resA, ret1, qv, lv, ev, boolA, binA, intA, shiftA, cmpA, beqA, lres]
    refine simply_c h hm hA ep.1 ep.2 hA.e0.1 hA.e0.2 ?_
    simp only [↓WP, WQ, if_true, if_false, eq_self, implies_true, ne_eq, List.nil_append, List.cons_append, ↓reduceIte, Nat.reduceEqDiff, Nat.reduceBEq, reduceCtorEq, Nat.reduceAdd, resA, ret1, qv, lv, ev, boolA, binA, intA, shiftA, cmpA, beqA, lres]
    exact o.ext'
  | bin hx hV1 hV2 ih1 ih2 =>
    rename_i t r s x p q
    have ep := hV1.el hA hn
    have eq' := hV2.el hA hn
    intro H uv tv v nv i Q h hm hv hnv hi0 hi1 hd hq
    refine quiet _ rfl ?_ hq
    refine in76 ?_
    simp only [c76, ↓WP, WQ, if_true, if_false, eq_self, implies_true, ne_eq, List.nil_append, List.cons_append, ↓reduceIte, Nat.reduceEqDiff, Nat.reduceBEq, reduceCtorEq, Nat.reduceAdd, resA, ret1, qv, lv, ev, boolA, binA, intA, shiftA, cmpA, beqA, lres, cells_alg h.len hm.len]
    refine NewRowd_in fun b hb => ?_
    have o := Own.nil0.push (x := ⟨36, true, [uv, tv]⟩) hb
    generalize H.set b ⟨36, true, [uv, tv]⟩ = G at *
    have gb := o.get (i := 0) rfl
    have hv := hv.ext o.ext'
    have h := h.ext o.ext'
    have hm := hm.ext o.ext'
    have hnv := hnv.ext o.ext'
    have hT : Tab G tv A := ⟨hm, hA.toSquare⟩
    have ix := hv.idx (k := .i64) hi0 hi1
    have ax := hv.at (show i.toNat < T.length by omega)
    rw [drop_cons hi0 hi1] at hd
    rw [(List.cons.inj hd).1] at ax
    have hd1 := (List.cons.inj hd).2
    have hne : i + 1 < T.length := by
      refine Classical.byContradiction fun hc => ?_
      rw [List.drop_of_length_le (by omega)] at hd1
      rw [← hd1] at hV1
      have := hV1.trm
      rw [trm_nil] at this; cases this
    have hr := hV1.trm
    have he : endF T (i + 1) = T.length - r.length := endF_some (by rw [hd1]; exact hr)
    obtain ⟨z, hz⟩ := trm_suffix _ _ hr
    have hdr : T.drop (T.length - r.length) = r := drop_suffix (p := z) (i := (i + 1).toNat) (by rw [hd1, hz])
    have hrl : r.length ≤ T.length := by
      have h1 := congrArg List.length hd1
      have h2 := congrArg List.length hz
      rw [List.length_drop] at h1
      rw [List.length_append] at h2
      omega
    have hrne : r ≠ [] := by
      rintro rfl
      have := hV2.trm
      rw [trm_nil] at this; cases this
    have hrp : 0 < r.length := List.length_pos_iff.2 hrne
    have hwi : IntKind.i64.wrap (i + 1) = i + 1 := wrap_id (by omega) (by omega)
    have x3 : ¬ x < 3 := by omega
    have x10 : ¬ x = 10 := by omega
    have x11 : ¬ x = 11 := by omega
    have x12 : ¬ x = 12 := by omega
    simp only [↓WP, WQ, if_true, if_false, eq_self, implies_true, ne_eq, List.nil_append, List.cons_append, ↓reduceIte, Nat.reduceEqDiff, Nat.reduceBEq, reduceCtorEq, Nat.reduceAdd, resA, ret1, qv, lv, ev, boolA, binA, intA, shiftA, cmpA, beqA, lres, ix, ax, decide_eq_false x10, decide_eq_false x11, decide_eq_false x12, x3, atN_two gb, hwi]
    refine ih1 h hm hv hnv (by omega) hne hd1 ?_
    simp only [↓WP, WQ, if_true, if_false, eq_self, implies_true, ne_eq, List.nil_append, List.cons_append, ↓reduceIte, Nat.reduceEqDiff, Nat.reduceBEq, reduceCtorEq, Nat.reduceAdd, resA, ret1, qv, lv, ev, boolA, binA, intA, shiftA, cmpA, beqA, lres]
    refine DR_in (fun _ => True) rfl ?_
    simp only [↓WP, WQ, if_true, if_false, eq_self, implies_true, ne_eq, List.nil_append, List.cons_append, ↓reduceIte, Nat.reduceEqDiff, Nat.reduceBEq, reduceCtorEq, Nat.reduceAdd, resA, ret1, qv, lv, ev, boolA, binA, intA, shiftA, cmpA, beqA, lres, atN_two gb, hwi]
    refine end_c hv hTl T.length (by omega) (by omega) (by omega) ?_
    simp only [↓WP, WQ, if_true, if_false, eq_self, implies_true, ne_eq, List.nil_append, List.cons_append, ↓reduceIte, Nat.reduceEqDiff, Nat.reduceBEq, reduceCtorEq, Nat.reduceAdd, resA, ret1, qv, lv, ev, boolA, binA, intA, shiftA, cmpA, beqA, lres, he]
    refine ih2 h hm hv hnv (by omega) (by omega) (by rw [show ((T.length : Int) - r.length).toNat = T.length - r.length by omega]; exact hdr) ?_
    refine (Classical.em (x = 13)).elim (fun h4 => ?_) (fun h4 => ?_)
    · subst h4
      simp only [↓WP, WQ, if_true, if_false, eq_self, implies_true, ne_eq, List.nil_append, List.cons_append, ↓reduceIte, Nat.reduceEqDiff, Nat.reduceBEq, reduceCtorEq, Nat.reduceAdd, resA, ret1, qv, lv, ev, boolA, binA, intA, shiftA, cmpA, beqA, lres, ix, ax, decide_eq_true (rfl : (13 : Int) = 13), at_fst gb]
      refine smeet_c h hA.r62 (by omega) ep.1 ep.2 eq'.1 eq'.2 ?_
      simp only [↓WP, WQ, if_true, if_false, eq_self, implies_true, ne_eq, List.nil_append, List.cons_append, ↓reduceIte, Nat.reduceEqDiff, Nat.reduceBEq, reduceCtorEq, Nat.reduceAdd, resA, ret1, qv, lv, ev, boolA, binA, intA, shiftA, cmpA, beqA, lres]
      exact ⟨rfl, o.ext'⟩
    simp only [↓WP, WQ, if_true, if_false, eq_self, implies_true, ne_eq, List.nil_append, List.cons_append, ↓reduceIte, Nat.reduceEqDiff, Nat.reduceBEq, reduceCtorEq, Nat.reduceAdd, resA, ret1, qv, lv, ev, boolA, binA, intA, shiftA, cmpA, beqA, lres, ix, ax, decide_eq_false h4]
    refine (Classical.em (x = 14)).elim (fun h5 => ?_) (fun h5 => ?_)
    · subst h5
      simp only [↓WP, WQ, if_true, if_false, eq_self, implies_true, ne_eq, List.nil_append, List.cons_append, ↓reduceIte, Nat.reduceEqDiff, Nat.reduceBEq, reduceCtorEq, Nat.reduceAdd, resA, ret1, qv, lv, ev, boolA, binA, intA, shiftA, cmpA, beqA, lres, decide_eq_true (rfl : (14 : Int) = 14), at_fst gb]
      refine sjoin_c h hA.r62 (by omega) ep.1 ep.2 eq'.1 eq'.2 ?_
      simp only [↓WP, WQ, if_true, if_false, eq_self, implies_true, ne_eq, List.nil_append, List.cons_append, ↓reduceIte, Nat.reduceEqDiff, Nat.reduceBEq, reduceCtorEq, Nat.reduceAdd, resA, ret1, qv, lv, ev, boolA, binA, intA, shiftA, cmpA, beqA, lres]
      exact ⟨rfl, o.ext'⟩
    simp only [↓WP, WQ, if_true, if_false, eq_self, implies_true, ne_eq, List.nil_append, List.cons_append, ↓reduceIte, Nat.reduceEqDiff, Nat.reduceBEq, reduceCtorEq, Nat.reduceAdd, resA, ret1, qv, lv, ev, boolA, binA, intA, shiftA, cmpA, beqA, lres, decide_eq_false h5]
    refine (Classical.em (x = 15)).elim (fun h6 => ?_) (fun h6 => ?_)
    · subst h6
      simp only [↓WP, WQ, if_true, if_false, eq_self, implies_true, ne_eq, List.nil_append, List.cons_append, ↓reduceIte, Nat.reduceEqDiff, Nat.reduceBEq, reduceCtorEq, Nat.reduceAdd, resA, ret1, qv, lv, ev, boolA, binA, intA, shiftA, cmpA, beqA, lres, decide_eq_true (rfl : (15 : Int) = 15), at_snd gb, hT.idx ep.1 ep.2, hT.at ep.1 ep.2, hT.idx2 ep.1 ep.2 eq'.1 eq'.2, hT.at2 ep.1 ep.2 eq'.1 eq'.2]
      exact ⟨rfl, o.ext'⟩
    simp only [↓WP, WQ, if_true, if_false, eq_self, implies_true, ne_eq, List.nil_append, List.cons_append, ↓reduceIte, Nat.reduceEqDiff, Nat.reduceBEq, reduceCtorEq, Nat.reduceAdd, resA, ret1, qv, lv, ev, boolA, binA, intA, shiftA, cmpA, beqA, lres, decide_eq_false h6, atN_two gb]
    refine simply_c h hm hA ep.1 ep.2 eq'.1 eq'.2 ?_
    simp only [↓WP, WQ, if_true, if_false, eq_self, implies_true, ne_eq, List.nil_append, List.cons_append, ↓reduceIte, Nat.reduceEqDiff, Nat.reduceBEq, reduceCtorEq, Nat.reduceAdd, resA, ret1, qv, lv, ev, boolA, binA, intA, shiftA, cmpA, beqA, lres]
    have e : opF A x p q = impF A p q := by unfold opF; rw [if_neg h4, if_neg h5, if_neg h6]
    rw [e]
    exact ⟨rfl, o.ext'⟩
end Go.AL

/-
  All lists of some numbers, in order.
-/
namespace Go.AL
open Go.Proofs
set_option linter.unusedSimpArgs false
set_option linter.unusedVariables false

theorem fm_congr {α β : Type} {f g : α → List β} {l : List α} (h : ∀ x ∈ l, f x = g x) : l.flatMap f = l.flatMap g := by
  rw [List.flatMap_def, List.flatMap_def, List.map_congr_left h]
/-- All lists of m numbers below n, the lesser first. -/
def en (n : Nat) : Nat → List (List Int)
  | 0 => [[]]
  | m + 1 => (List.range n).flatMap fun y : Nat => (en n m).map fun l => (y : Int) :: l
def tailE (n m : Nat) (y : Nat) : List (List Int) := (List.range (n - 1 - y)).flatMap fun i : Nat => (en n m).map fun l => ((y + 1 + i : Nat) : Int) :: l
/-- Those behind one. -/
def af (n : Nat) : List Int → List (List Int)
  | [] => []
  | y :: l => ((af n l).map fun k => y :: k) ++ tailE n l.length y.toNat
/-- The next one. -/
def nx (n : Nat) : List Int → Option (List Int)
  | [] => none
  | y :: l => match nx n l with
    | some k => some (y :: k)
    | none => if y + 1 < n then some ((y + 1) :: List.replicate l.length 0) else none
def InE (n : Nat) (l : List Int) : Prop := ∀ x ∈ l, 0 ≤ x ∧ x < n

theorem tailE_succ {n m y : Nat} (h : y + 1 < n) : tailE n m y = ((en n m).map fun l => ((y + 1 : Nat) : Int) :: l) ++ tailE n m (y + 1) := by
  unfold tailE
  rw [show n - 1 - y = (n - 1 - (y + 1)) + 1 by omega, List.range_succ_eq_map, List.flatMap_cons, List.flatMap_map]
  congr 1
  refine fm_congr fun i _ => ?_
  rw [show y + 1 + i.succ = y + 1 + 1 + i by omega]
theorem tailE_none {n m y : Nat} (h : ¬ y + 1 < n) : tailE n m y = [] := by
  unfold tailE
  rw [show n - 1 - y = 0 by omega]; rfl
theorem en_first {n : Nat} (hn : 1 ≤ n) : ∀ m, en n m = List.replicate m 0 :: af n (List.replicate m 0)
  | 0 => rfl
  | m + 1 => by
    have ih := en_first hn m
    have h1 : en n (m + 1) = ((en n m).map fun l => (0 : Int) :: l) ++ tailE n m 0 := by
      rw [en, show n = (n - 1) + 1 by omega, List.range_succ_eq_map, List.flatMap_cons, List.flatMap_map, tailE, show n - 1 + 1 - 1 - 0 = n - 1 by omega]
      congr 1
      refine fm_congr fun i _ => ?_
      rw [show 0 + 1 + i = i.succ by omega]
    rw [h1, ih, List.replicate_succ, af, List.length_replicate]
    rfl
theorem af_nx {n : Nat} (hn : 1 ≤ n) : ∀ {l : List Int}, InE n l → af n l = match nx n l with
    | none => []
    | some k => k :: af n k
  | [], _ => rfl
  | y :: l, h => by
    have hl : InE n l := fun x hx => h x (List.mem_cons_of_mem _ hx)
    have hy := h y List.mem_cons_self
    have ih := af_nx hn hl
    have len : ∀ {k : List Int}, nx n l = some k → k.length = l.length := by
      intro k hk
      clear ih hy h
      induction l generalizing k with
      | nil => cases hk
      | cons a l ihl =>
        have hl' : InE n l := fun x hx => hl x (List.mem_cons_of_mem _ hx)
        simp only [nx] at hk
        cases hx : nx n l with
        | some k' => rw [hx] at hk; cases hk; simp [ihl hl' hx]
        | none =>
          rw [hx] at hk
          simp only at hk
          split at hk
          · cases hk; simp
          · cases hk
    cases hx : nx n l with
    | some k =>
      rw [hx] at ih
      simp only [af, nx, hx, ih, List.map_cons, List.cons_append, len hx]
    | none =>
      rw [hx] at ih
      simp only [af, nx, hx, ih, List.map_nil, List.nil_append]
      by_cases hc : y + 1 < n
      · rw [if_pos hc]
        have e1 : (y + 1).toNat = y.toNat + 1 := by omega
        simp only [af, List.length_replicate, e1]
        rw [tailE_succ (by omega), en_first hn]
        simp only [List.map_cons, List.cons_append]
        have e2 : ((y.toNat + 1 : Nat) : Int) = y + 1 := by omega
        rw [e2]
      · rw [if_neg hc, tailE_none (by omega)]
theorem nx_top {n : Nat} : ∀ z : Nat, nx n (List.replicate z ((n : Int) - 1)) = none
  | 0 => rfl
  | z + 1 => by
    rw [List.replicate_succ, nx, nx_top z]
    simp only
    rw [if_neg (by omega)]
theorem nx_mid {n : Nat} {y : Int} {z : Nat} (hy : y + 1 < n) : ∀ a : List Int, nx n (a ++ y :: List.replicate z ((n : Int) - 1)) = some (a ++ (y + 1) :: List.replicate z 0)
  | [] => by
    simp only [List.nil_append, nx, nx_top, List.length_replicate]
    rw [if_pos hy]
  | x :: a => by
    simp only [List.cons_append, nx, nx_mid hy a]
theorem en_mem {n : Nat} : ∀ (m : Nat) {l : List Int}, l ∈ en n m → l.length = m ∧ InE n l
  | 0, l, h => by
    simp only [en, List.mem_singleton] at h; subst h
    exact ⟨rfl, fun x hx => by cases hx⟩
  | m + 1, l, h => by
    simp only [en, List.mem_flatMap, List.mem_range, List.mem_map] at h
    obtain ⟨y, hy, k, hk, rfl⟩ := h
    obtain ⟨h1, h2⟩ := en_mem m hk
    refine ⟨by simp [h1], fun x hx => ?_⟩
    rcases List.mem_cons.1 hx with rfl | hx
    · omega
    · exact h2 x hx
theorem mem_en {n : Nat} : ∀ (m : Nat) {l : List Int}, l.length = m → InE n l → l ∈ en n m
  | 0, l, h, _ => by simp [List.length_eq_zero_iff.1 h, en]
  | m + 1, [], h, _ => by simp at h
  | m + 1, y :: l, h, hI => by
    have hy := hI y List.mem_cons_self
    simp only [en, List.mem_flatMap, List.mem_range, List.mem_map]
    exact ⟨y.toNat, by omega, l, mem_en m (by simpa using h) fun x hx => hI x (List.mem_cons_of_mem _ hx), by rw [Int.toNat_of_nonneg hy.1]⟩
/-- The same lists, made longer at their ends. -/
def ens (n : Nat) : Nat → List (List Int)
  | 0 => [[]]
  | k + 1 => (ens n k).flatMap fun l => (List.range n).map fun x : Nat => l ++ [(x : Int)]
theorem ens_en (n : Nat) : ∀ k, ens n k = en n k
  | 0 => rfl
  | k + 1 => by
    have key : ∀ k, ens n (k + 1) = (List.range n).flatMap fun y : Nat => (ens n k).map fun l => (y : Int) :: l := by
      intro k
      induction k with
      | zero => simp [ens, List.flatMap_singleton', List.map_eq_flatMap]
      | succ k ih =>
        rw [ens]
        conv => lhs; rw [ih]
        rw [List.flatMap_assoc]
        refine fm_congr fun y _ => ?_
        rw [ens, List.flatMap_map, List.map_flatMap]
        refine fm_congr fun l _ => ?_
        simp [List.map_map]
    rw [key, ens_en n k, en]
end Go.AL

/-
  Repeated lists; a function called with all lists.
-/
namespace Go.AL
open Go.Proofs
set_option linter.unusedSimpArgs false
set_option linter.unusedVariables false
variable {w0 : World} {H : Hp}

theorem Mul64_c (m : Nat) (hm : m ≤ 4) {Q : AV → Hp → Prop} (hq : Q (.tup [.int .u64 0, .int .u64 m]) H) : ACalls Try.prog w0 171 [.int .u64 1, .int .u64 m] H Q := by
  refine in171 ?_
  simp only [c171, ↓WP, WQ, if_true, if_false, eq_self, implies_true, ne_eq, List.nil_append, List.cons_append, ↓reduceIte, Nat.reduceEqDiff, Nat.reduceBEq, reduceCtorEq, Nat.reduceAdd, resA, ret1, qv, lv, ev, boolA, binA, intA, shiftA, cmpA, beqA, lres]
  have h0 : ∀ a b : Int, a = 0 → b = m → Q (.tup [.int .u64 a, .int .u64 b]) H := by rintro _ _ rfl rfl; exact hq
  have h : m = 0 ∨ m = 1 ∨ m = 2 ∨ m = 3 ∨ m = 4 := by omega
  rcases h with rfl | rfl | rfl | rfl | rfl
  all_goals exact ⟨by omega, by omega, by omega, by omega, by omega, h0 _ _ (by decide +kernel) (by decide +kernel)⟩
theorem Mul_c (m : Nat) (hm : m ≤ 4) {Q : AV → Hp → Prop} (hq : Q (.tup [.int .u64 0, .int .u64 m]) H) : ACalls Try.prog w0 161 [.int .u64 1, .int .u64 m] H Q := by
  refine in161 ?_
  simp only [c161, ↓WP, WQ, if_true, if_false, eq_self, implies_true, ne_eq, List.nil_append, List.cons_append, ↓reduceIte, Nat.reduceEqDiff, Nat.reduceBEq, reduceCtorEq, Nat.reduceAdd, resA, ret1, qv, lv, ev, boolA, binA, intA, shiftA, cmpA, beqA, lres]
  refine Mul64_c m hm ?_
  simp only [↓WP, WQ, if_true, if_false, eq_self, implies_true, ne_eq, List.nil_append, List.cons_append, ↓reduceIte, Nat.reduceEqDiff, Nat.reduceBEq, reduceCtorEq, Nat.reduceAdd, resA, ret1, qv, lv, ev, boolA, binA, intA, shiftA, cmpA, beqA, lres]
  exact hq

theorem zeros_i' (n : Nat) : zerosA [AV.int .i64 0] n = (List.replicate n (0 : Int)).map (AV.int .i64) := by
  induction n with
  | zero => rfl
  | succ n ih => simp only [zerosA, List.replicate_succ, List.flatten_cons, List.map_cons] at ih ⊢; rw [ih]; rfl

/-! ### copying -/

def CpD (sz : Nat) (d s : AV) (H : Hp) (K : AV → Hp → Prop) (_ : Dep K) : Prop :=
  QB (H.row sz s) fun cs => QB (lenA s) fun m =>
    match d with
    | .nils => K (.int .i64 0) H
    | .emp => K (.int .i64 0) H
    | .sl r o n => QB (H r) fun row => row.own = true ∧ o + n * sz ≤ row.cells.length ∧ K (.int .i64 (min m n : Nat)) (H.set r ⟨row.ty, true, splice row.cells o (cs.take (min m n * sz))⟩)
    | _ => False
theorem W_cp {P : Program} {d : Option Nat} {sz : Nat} {a x : Opd} {k : CC} {Q : Ex → Env → Hp → Prop} {e : Env} :
    W P w0 (.op d none (.e (.copy sz a x)) k) Q e H = CpD sz (ev e a) (ev e x) H (fun v H' => W P w0 k Q (updo e d v) H') (dep _) := (rfl)
theorem WDL_cp {P : Program} {S : Nat → Prop} {id : Nat} {fl : Bool} {fls : List Nat} {dd : Option Nat} {sz : Nat} {a x : Opd} {l : List DOp} {K : Env → Hp → Prop} {e : Env} :
    WDL P w0 S (⟨id, fl, fls, dd, none, .e (.copy sz a x)⟩ :: l) K e H = CpD sz (ev e a) (ev e x) H (fun v H' => (∀ r, S r → H' r = H r) ∧ WDL P w0 S l K (updo e dd v) H') (dep _) := (rfl)
/-- Copying numbers into a list of one's own. -/
theorem cp_li {r o n m : Nat} {l k : List Int} {s : AV} (h : H r = some (LI l)) (hs : Ints H s k) (hn : o + n ≤ l.length) {K : AV → Hp → Prop} {d : Dep K} (hm : min k.length n = m) (hK : K (.int .i64 m) (H.set r (LI (l.take o ++ k.take m ++ l.drop (o + m))))) : CpD 1 (.sl r o n) s H K d := by
  subst hm
  simp only [CpD, hs.1, hs.2, QB_some, h, LI, Nat.mul_one, List.length_map]
  refine ⟨True.intro, hn, ?_⟩
  have e : splice (l.map (AV.int .i64)) o ((k.map (AV.int .i64)).take (min k.length n)) = (l.take o ++ k.take (min k.length n) ++ l.drop (o + min k.length n)).map (AV.int .i64) := by
    simp only [splice, List.map_append, List.map_take, List.map_drop, List.length_take, List.length_map]
    congr 3
    omega
  rw [e]; exact hK

theorem rep_steps (x : Int) : ∀ m : Nat, m ≤ 4 → True := fun _ _ => True.intro

/-- One number, repeated. -/
theorem Repeat_c {v : AV} {x : Int} {m : Nat} (h : Ints H v [x]) (hm : m ≤ 4) {Q : AV → Hp → Prop} (hq : ∀ r H', Own no H H' [(r, LI (List.replicate m x))] → Q (.sl r 0 m) H') :
    ACalls Try.prog w0 131 [v, .int .i64 m] H Q := by
  have hl := h.len
  simp only [List.length_cons, List.length_nil, Nat.zero_add] at hl
  have c0 : ¬ ((m : Int) < 0) := by omega
  have w1 : IntKind.u64.wrap ((1 : Nat) : Int) = 1 := by decide
  have w2 : IntKind.u64.wrap (m : Int) = m := by
    have h : m = 0 ∨ m = 1 ∨ m = 2 ∨ m = 3 ∨ m = 4 := by omega
    rcases h with rfl | rfl | rfl | rfl | rfl <;> decide
  have w3 : IntKind.i64.wrap (m : Int) = m := wrap_id (by omega) (by omega)
  refine in131 ?_
  simp only [c131, ↓WP, WQ, if_true, if_false, eq_self, implies_true, ne_eq, List.nil_append, List.cons_append, ↓reduceIte, Nat.reduceEqDiff, Nat.reduceBEq, reduceCtorEq, Nat.reduceAdd, resA, ret1, qv, lv, ev, boolA, binA, intA, shiftA, cmpA, beqA, lres, c0, hl, w1, w2]
  refine Mul_c m hm ?_
  have c1 : ¬ ((9223372036854775807 : Int) < m) := by omega
  have k0 : (0 : Int) ≤ m := by omega
  have k1 : (m : Int) * ((8 : Nat) : Int) ≤ 140737488355328 := by omega
  have k2 : (m : Int) ≤ 9223372036854775807 := by omega
  simp only [↓WP, WQ, if_true, if_false, eq_self, implies_true, ne_eq, List.nil_append, List.cons_append, ↓reduceIte, Nat.reduceEqDiff, Nat.reduceBEq, reduceCtorEq, Nat.reduceAdd, resA, ret1, qv, lv, ev, boolA, binA, intA, shiftA, cmpA, beqA, lres, Int.lt_irrefl, c1, w3, k0, k1, k2, and_self, zeros_i', Int.toNat_natCast]
  refine NewRowd_in fun r hr => ?_
  have o := Own.nil0.push (x := LI (List.replicate m 0)) hr
  simp only [↓WP, WQ, if_true, if_false, eq_self, implies_true, ne_eq, List.nil_append, List.cons_append, ↓reduceIte, Nat.reduceEqDiff, Nat.reduceBEq, reduceCtorEq, Nat.reduceAdd, resA, ret1, qv, lv, ev, boolA, binA, intA, shiftA, cmpA, beqA, lres, W_cp]
  have row : ∀ (n c : Nat), n + c ≤ m → c ≤ n → (List.replicate n x ++ List.replicate (m - n) 0).take n ++ (List.replicate n x).take c ++ (List.replicate n x ++ List.replicate (m - n) 0).drop (n + c) = List.replicate (n + c) x ++ List.replicate (m - (n + c)) 0 := by
    intro n c h1 h2
    rw [List.take_left' (by simp), List.take_replicate, Nat.min_eq_left h2, ← List.drop_drop, List.drop_left' (by simp), List.drop_replicate, List.replicate_append_replicate, show m - n - c = m - (n + c) by omega]
  have hv := h.ext o.ext'
  refine cp_li (n := m) (m := min 1 m) (o.get (i := 0) rfl) hv (by simp) rfl ?_
  have e0 : (List.replicate m (0 : Int)).take 0 ++ [x].take (min 1 m) ++ (List.replicate m 0).drop (0 + min 1 m) = List.replicate (min 1 m) x ++ List.replicate (m - min 1 m) 0 := by
    by_cases h0 : m = 0
    · subst h0; rfl
    · have : min 1 m = 1 := by omega
      rw [this, List.drop_replicate]; simp
  have o := o.upd (i := 0) (y := LI ((List.replicate m (0 : Int)).take 0 ++ [x].take (min 1 m) ++ (List.replicate m 0).drop (0 + min 1 m))) rfl
  rw [e0] at o ⊢
  simp only [↓WP, WQ, if_true, if_false, eq_self, implies_true, ne_eq, List.nil_append, List.cons_append, ↓reduceIte, Nat.reduceEqDiff, Nat.reduceBEq, reduceCtorEq, Nat.reduceAdd, resA, ret1, qv, lv, ev, boolA, binA, intA, shiftA, cmpA, beqA, lres]
  refine W_loop (fun k e H' => ∃ n : Nat, k = m - n ∧ n ≤ m ∧ (m = 0 ∨ 1 ≤ n) ∧ Sl e [(7, .sl r 0 m), (8, .int .i64 n)] ∧ Own no H H' [(r, LI (List.replicate n x ++ List.replicate (m - n) 0))]) (m - min 1 m) ⟨min 1 m, rfl, by omega, by omega, by simp only [↓WP, WQ, if_true, if_false, eq_self, implies_true, ne_eq, List.nil_append, List.cons_append, ↓reduceIte, Nat.reduceEqDiff, Nat.reduceBEq, reduceCtorEq, Nat.reduceAdd, resA, ret1, qv, lv, ev, boolA, binA, intA, shiftA, cmpA, beqA, lres], o⟩ ?_
  rintro k e H' ⟨n, rfl, n1, n2, hs, o⟩
  simp only [Sl_cons, Sl_nil, and_true] at hs
  refine (Classical.em ((n : Int) < m)).elim (fun hz => ?_) (fun hz => ?_) <;> simp only [↓WP, WQ, if_true, if_false, eq_self, implies_true, ne_eq, List.nil_append, List.cons_append, ↓reduceIte, Nat.reduceEqDiff, Nat.reduceBEq, reduceCtorEq, Nat.reduceAdd, resA, ret1, qv, lv, ev, boolA, binA, intA, shiftA, cmpA, beqA, lres, hs, hz]
  · have e1 : slA 1 (.sl r 0 m) (some (.int .i64 n)) none = some (.sl r n (m - n)) := by
      have a1 : (0 : Int) ≤ n ∧ (n : Int) ≤ m ∧ (m : Int) ≤ m := ⟨by omega, by omega, by omega⟩
      have a2 : ¬ (m : Int) = n := by omega
      simp only [slA, intOfA, lenA_sl, a1, and_self, if_true, a2, if_false, Int.toNat_natCast, Nat.mul_one, Nat.zero_add]
      congr 2; omega
    have e2 : slA 1 (.sl r 0 m) none (some (.int .i64 n)) = some (.sl r 0 n) := by
      have a1 : (0 : Int) ≤ 0 ∧ (0 : Int) ≤ (n : Int) ∧ (n : Int) ≤ m := ⟨by omega, by omega, by omega⟩
      have a2 : ¬ (n : Int) = 0 := by omega
      simp only [slA, intOfA, lenA_sl, a1, and_self, if_true, a2, if_false, Int.sub_zero, Int.toNat_zero, Nat.zero_mul, Nat.zero_add, Int.toNat_natCast]
    have hr := o.get (i := 0) rfl
    have hI : Ints H' (.sl r 0 n) (List.replicate n x) := by
      refine ⟨by simp [lenA], ?_⟩
      simp only [Hp.row, hr, LI, Nat.mul_one, Nat.zero_add, List.length_map, List.length_append, List.length_replicate, List.drop_zero]
      rw [if_pos (by omega), List.map_append, List.take_left' (by simp)]
    have hw : IntKind.i64.wrap ((n : Int) + ((min n (m - n) : Nat) : Int)) = ((n + min n (m - n) : Nat) : Int) := by rw [wrap_id (by omega) (by omega)]; omega
    refine DR_in (fun _ => False) rfl ?_
    simp only [↓WP, WQ, if_true, if_false, eq_self, implies_true, ne_eq, List.nil_append, List.cons_append, ↓reduceIte, Nat.reduceEqDiff, Nat.reduceBEq, reduceCtorEq, Nat.reduceAdd, resA, ret1, qv, lv, ev, boolA, binA, intA, shiftA, cmpA, beqA, lres, hs, Option.map_none, e1, e2, WDL_cp]
    refine cp_li (m := min n (m - n)) hr hI (by simp only [List.length_append, List.length_replicate]; omega) (by simp) ?_
    have o := o.upd (i := 0) (y := LI ((List.replicate n x ++ List.replicate (m - n) 0).take n ++ (List.replicate n x).take (min n (m - n)) ++ (List.replicate n x ++ List.replicate (m - n) 0).drop (n + min n (m - n)))) rfl
    rw [row n (min n (m - n)) (by omega) (by omega)] at o ⊢
    refine ⟨fun _ h => h.elim, ?_⟩
    simp only [↓WP, WQ, if_true, if_false, eq_self, implies_true, ne_eq, List.nil_append, List.cons_append, ↓reduceIte, Nat.reduceEqDiff, Nat.reduceBEq, reduceCtorEq, Nat.reduceAdd, resA, ret1, qv, lv, ev, boolA, binA, intA, shiftA, cmpA, beqA, lres, hs, hw]
    exact ⟨m - (n + min n (m - n)), by omega, n + min n (m - n), rfl, by omega, by omega, rfl, o⟩
  · have hne : n = m := by omega
    subst hne
    rw [Nat.sub_self, List.replicate_zero, List.append_nil] at o
    exact hq r H' o
end Go.AL

/-
  A function called with all lists.
-/
namespace Go.AL
open Go.Proofs
set_option linter.unusedSimpArgs false
set_option linter.unusedVariables false
variable {w0 : World} {H : Hp}

/-- What a function of lists must do that keeps a state. -/
def DoC (w0 : World) (g : Nat) (cap : List AV) (H0 : Hp) (ok : List Int → Prop) {σ : Type} (st : σ → List (Nat × Row) → Prop) (step : σ → List Int → σ) : Prop :=
  ∀ (s : σ) (M : List (Nat × Row)) (H : Hp) (L : List (Nat × Row)) (v : AV) (l : List Int) (Q : AV → Hp → Prop), st s M → Own no H0 H (M ++ L) → Ints H v l → ok l → (∀ H' M', st (step s l) M' → Own no H0 H' (M' ++ L) → Q (.tup []) H') → ACalls Try.prog w0 g (v :: cap) H Q

theorem mid_get {a R : List Int} {y : Int} : (a ++ [y] ++ R).getD a.length 0 = y := by
  rw [List.append_assoc, List.getD_eq_getElem?_getD, List.getElem?_append_right (Nat.le_refl _), Nat.sub_self]; rfl
theorem mid_set {a R : List Int} {y x : Int} : (a ++ [y] ++ R).set a.length x = a ++ [x] ++ R := by
  rw [List.append_assoc, List.set_append_right _ _ (Nat.le_refl _), Nat.sub_self]; simp

theorem Own.upd_mid {X : Nat → Prop} {H0 H : Hp} {A B : List (Nat × Row)} {r : Nat} {x y : Row} (h : Own X H0 H (A ++ (r, x) :: B)) : Own X H0 (H.set r y) (A ++ (r, y) :: B) := by
  have h1 := h.upd (i := A.length) (r := r) (x := x) (y := y) (by simp)
  have h2 : (A ++ (r, x) :: B).set A.length (r, y) = A ++ (r, y) :: B := by rw [List.set_append_right _ _ (Nat.le_refl _)]; simp
  rwa [h2] at h1

theorem eachList_c {H0 : Hp} {n m q g : Nat} {cap : List AV} (hn : 1 ≤ n) (hn' : n ≤ 1000000) (hm : m ≤ 10) {σ : Type} {st : σ → List (Nat × Row) → Prop} {step : σ → List Int → σ} {s : σ} {M L : List (Nat × Row)} (hM : st s M) (o : Own no H0 H (M ++ L)) (hq : (q, LI (List.replicate m ((n : Int) - 1))) ∈ L)
    (D : DoC w0 g cap H0 (fun l => l ∈ en n m) st step) {Q : AV → Hp → Prop} (hQ : ∀ H' M', st ((en n m).foldl step s) M' → Own no H0 H' (M' ++ L) → Q (.tup []) H') :
    ACalls Try.prog w0 132 [.sl q 0 m, .fn g cap] H Q := by
  refine in132 ?_
  have k0 : (0 : Int) ≤ m := by omega
  have k1 : (m : Int) * ((8 : Nat) : Int) ≤ 140737488355328 := by omega
  have k2 : (m : Int) ≤ 9223372036854775807 := by omega
  simp only [c132, ↓WP, WQ, if_true, if_false, eq_self, implies_true, ne_eq, List.nil_append, List.cons_append, ↓reduceIte, Nat.reduceEqDiff, Nat.reduceBEq, reduceCtorEq, Nat.reduceAdd, resA, ret1, qv, lv, ev, boolA, binA, intA, shiftA, cmpA, beqA, lres, k0, k1, k2, and_self, zeros_i', Int.toNat_natCast]
  refine NewRowd_in fun r hr => ?_
  have o : Own no H0 _ (M ++ (r, LI (List.replicate m 0)) :: L) := (o.push (x := LI (List.replicate m 0)) hr).perm List.perm_middle.symm
  simp only [↓WP, WQ, if_true, if_false, eq_self, implies_true, ne_eq, List.nil_append, List.cons_append, ↓reduceIte, Nat.reduceEqDiff, Nat.reduceBEq, reduceCtorEq, Nat.reduceAdd, resA, ret1, qv, lv, ev, boolA, binA, intA, shiftA, cmpA, beqA, lres]
  refine W_loop (fun k e H' => ∃ cur s' M, k = (af n cur).length ∧ Sl e [(0, .sl q 0 m), (1, .fn g cap), (4, .sl r 0 m)] ∧ (∃ pre, en n m = pre ++ cur :: af n cur) ∧ (cur :: af n cur).foldl step s' = (en n m).foldl step s ∧ st s' M ∧ Own no H0 H' (M ++ (r, LI cur) :: L)) (af n (List.replicate m 0)).length
    ⟨List.replicate m 0, s, M, rfl, by simp only [↓WP, WQ, if_true, if_false, eq_self, implies_true, ne_eq, List.nil_append, List.cons_append, ↓reduceIte, Nat.reduceEqDiff, Nat.reduceBEq, reduceCtorEq, Nat.reduceAdd, resA, ret1, qv, lv, ev, boolA, binA, intA, shiftA, cmpA, beqA, lres], ⟨[], en_first hn m⟩, by rw [← en_first hn m], hM, o⟩ ?_
  rintro k e H' ⟨cur, s', M, rfl, hs, ⟨pre, hpre⟩, hfold, hM, o⟩
  simp only [Sl_cons, Sl_nil, and_true] at hs
  have hmem : cur ∈ en n m := by rw [hpre]; simp
  obtain ⟨hcl, hcI⟩ := en_mem m hmem
  have hI := li_ints (o.has (r, LI cur) (by simp))
  rw [hcl] at hI
  have wm : IntKind.i64.wrap ((m : Int) - 1) = m - 1 := wrap_id (by omega) (by omega)
  simp only [↓WP, WQ, if_true, if_false, eq_self, implies_true, ne_eq, List.nil_append, List.cons_append, ↓reduceIte, Nat.reduceEqDiff, Nat.reduceBEq, reduceCtorEq, Nat.reduceAdd, resA, ret1, qv, lv, ev, boolA, binA, intA, shiftA, cmpA, beqA, lres, hs]
  refine D s' M H' ((r, LI cur) :: L) _ cur _ hM o hI hmem fun H2 M2 hM2 o => ?_
  simp only [↓WP, WQ, if_true, if_false, eq_self, implies_true, ne_eq, List.nil_append, List.cons_append, ↓reduceIte, Nat.reduceEqDiff, Nat.reduceBEq, reduceCtorEq, Nat.reduceAdd, resA, ret1, qv, lv, ev, boolA, binA, intA, shiftA, cmpA, beqA, lres, hs, wm]
  refine W_for 0 m (fun z e H'' => ∃ b : List Int, Sl e [(0, .sl q 0 m), (1, .fn g cap), (4, .sl r 0 m), (5, .int .i64 (m - 1 - z))] ∧ cur = b ++ List.replicate z.toNat ((n : Int) - 1) ∧ b.length + z.toNat = m ∧ Own no H0 H'' (M2 ++ (r, LI (b ++ List.replicate z.toNat 0)) :: L)) (by omega) ⟨cur, by simp only [↓WP, WQ, if_true, if_false, eq_self, implies_true, ne_eq, List.nil_append, List.cons_append, ↓reduceIte, Nat.reduceEqDiff, Nat.reduceBEq, reduceCtorEq, Nat.reduceAdd, resA, ret1, qv, lv, ev, boolA, binA, intA, shiftA, cmpA, beqA, lres, hs, Int.sub_zero], by simp, by simp [hcl], by simpa using o⟩ ?_
  rintro z e H'' hz0 hz1 ⟨b, hs, hb, hbl, o⟩
  simp only [Sl_cons, Sl_nil, and_true] at hs
  have gq := o.has (q, LI (List.replicate m ((n : Int) - 1))) (by simp [hq])
  have gr := o.has (r, LI (b ++ List.replicate z.toNat 0)) (by simp)
  have hIq := li_ints gq
  have hIr := li_ints gr
  rw [List.length_replicate] at hIq
  rw [List.length_append, List.length_replicate, hbl] at hIr
  refine (Classical.em (z < m)).elim (fun hz => ?_) (fun hz => ?_)
  · have hz' : (0 : Int) ≤ m - 1 - z := by omega
    have hzneg : ¬ ((m : Int) - 1 - z < 0) := by omega
    have hkm : (m : Int) - 1 - z < m := by omega
    obtain ⟨a, y, rfl⟩ : ∃ a y, b = a ++ [y] := by
      rcases List.eq_nil_or_concat b with rfl | ⟨a, y, h⟩
      · simp at hbl; omega
      · exact ⟨a, y, by simpa using h⟩
    rw [List.length_append, List.length_cons, List.length_nil] at hbl
    have hka : ((m : Int) - 1 - z).toNat = a.length := by omega
    have i1 := hIr.idx (k := .i64) hz' (by simp only [List.length_append, List.length_cons, List.length_nil, List.length_replicate]; omega)
    have a1 := hIr.at (i := ((m : Int) - 1 - z).toNat) (by simp only [List.length_append, List.length_cons, List.length_nil, List.length_replicate]; omega)
    have i2 := hIq.idx (k := .i64) hz' (by rw [List.length_replicate]; omega)
    have a2 := hIq.at (i := ((m : Int) - 1 - z).toNat) (by rw [List.length_replicate]; omega)
    have e2 : (List.replicate m ((n : Int) - 1)).getD a.length 0 = n - 1 := by
      rw [List.getD_eq_getElem?_getD, List.getElem?_replicate, if_pos (by omega)]; rfl
    have ix := sl_idx (r := r) (n := m) (k := .i64) hz' hkm
    rw [hka] at i1 a1 i2 a2 ix
    rw [mid_get] at a1
    rw [e2] at a2
    have hyI : 0 ≤ y ∧ y < n := hcI y (by rw [hb]; simp)
    have elr : elt 1 (.sl r 0 m) a.length = .ptr r a.length := by simp [elt]
    rw [elr] at i1 a1
    have setL : a.length < (a ++ [y] ++ List.replicate z.toNat (0 : Int)).length := by simp only [List.length_append, List.length_cons, List.length_nil]; omega
    simp only [↓WP, WQ, if_true, if_false, eq_self, implies_true, ne_eq, List.nil_append, List.cons_append, ↓reduceIte, Nat.reduceEqDiff, Nat.reduceBEq, reduceCtorEq, Nat.reduceAdd, resA, ret1, qv, lv, ev, boolA, binA, intA, shiftA, cmpA, beqA, lres, hs]
    refine DR_in (fun _ => True) rfl ?_
    refine (Classical.em (y = n - 1)).elim (fun hy => ?_) (fun hy => ?_)
    · have wk : IntKind.i64.wrap ((m : Int) - 1 - z - 1) = m - 1 - (z + 1) := by rw [wrap_id (by omega) (by omega)]; omega
      have st0 := stA_li (z := 0) gr setL
      have o := Own.upd_mid (y := LI ((a ++ [y] ++ List.replicate z.toNat 0).set a.length 0)) o
      rw [mid_set] at o st0
      simp only [↓WP, WQ, if_true, if_false, eq_self, implies_true, ne_eq, List.nil_append, List.cons_append, ↓reduceIte, Nat.reduceEqDiff, Nat.reduceBEq, reduceCtorEq, Nat.reduceAdd, resA, ret1, qv, lv, ev, boolA, binA, intA, shiftA, cmpA, beqA, lres, hs, hz', i1, a1, i2, a2, decide_eq_true hy, st0, wk, hz]
      refine ⟨a, ?_, by omega, ?_⟩
      · rw [hb, hy, show (z + 1).toNat = z.toNat + 1 by omega, List.replicate_succ, List.append_assoc]; rfl
      · have e3 : a ++ [0] ++ List.replicate z.toNat (0 : Int) = a ++ List.replicate (z + 1).toNat 0 := by
          rw [show (z + 1).toNat = z.toNat + 1 by omega, List.replicate_succ, List.append_assoc]; rfl
        rw [e3] at o ⊢
        exact o
    · have wy : IntKind.i64.wrap (y + 1) = y + 1 := wrap_id (by omega) (by omega)
      have st0 := stA_li (z := y + 1) gr setL
      have o := Own.upd_mid (y := LI ((a ++ [y] ++ List.replicate z.toNat 0).set a.length (y + 1))) o
      rw [mid_set] at o st0
      have hnx : nx n cur = some (a ++ (y + 1) :: List.replicate z.toNat 0) := by
        rw [hb, List.append_assoc]
        exact nx_mid (by omega) a
      have haf := af_nx hn hcI
      rw [hnx] at haf
      simp only at haf
      have e3 : a ++ [y + 1] ++ List.replicate z.toNat (0 : Int) = a ++ (y + 1) :: List.replicate z.toNat 0 := by rw [List.append_assoc]; rfl
      rw [e3] at o st0
      simp only [↓WP, WQ, if_true, if_false, eq_self, implies_true, ne_eq, List.nil_append, List.cons_append, ↓reduceIte, Nat.reduceEqDiff, Nat.reduceBEq, reduceCtorEq, Nat.reduceAdd, resA, ret1, qv, lv, ev, boolA, binA, intA, shiftA, cmpA, beqA, lres, hs, hz', i1, a1, i2, a2, decide_eq_false hy, hzneg, wy, st0, ix]
      refine ⟨_, by rw [haf]; exact Nat.lt_succ_self _, a ++ (y + 1) :: List.replicate z.toNat 0, step s' cur, M2, rfl, ⟨pre ++ [cur], by rw [hpre, haf]; simp⟩, ?_, hM2, o⟩
      rw [← hfold, haf]; rfl
  · have hze : z = m := by omega
    have hzneg : (m : Int) - 1 - z < 0 := by omega
    have hz' : ¬ (0 : Int) ≤ m - 1 - z := by omega
    have hb0 : b = [] := List.length_eq_zero_iff.1 (by omega)
    subst hb0
    have hnx : nx n cur = none := by rw [hb]; exact nx_top _
    have haf := af_nx hn hcI
    rw [hnx] at haf
    simp only at haf
    rw [haf] at hfold
    have o : Own no H0 H'' (M2 ++ L) := o.sub (List.Sublist.append (.refl _) (List.sublist_cons_self _ _))
    simp only [↓WP, WQ, if_true, if_false, eq_self, implies_true, ne_eq, List.nil_append, List.cons_append, ↓reduceIte, Nat.reduceEqDiff, Nat.reduceBEq, reduceCtorEq, Nat.reduceAdd, resA, ret1, qv, lv, ev, boolA, binA, intA, shiftA, cmpA, beqA, lres, hs]
    refine DR_in (fun _ => True) rfl ?_
    simp only [↓WP, WQ, if_true, if_false, eq_self, implies_true, ne_eq, List.nil_append, List.cons_append, ↓reduceIte, Nat.reduceEqDiff, Nat.reduceBEq, reduceCtorEq, Nat.reduceAdd, resA, ret1, qv, lv, ev, boolA, binA, intA, shiftA, cmpA, beqA, lres, hs, hz', hzneg]
    have hf2 : step s' cur = (en n m).foldl step s := hfold
    rw [hf2] at hM2
    exact hQ H'' M2 hM2 o
end Go.AL

/-
  All elements for the names.
-/
namespace Go.AL
open Go.Proofs
set_option linter.unusedSimpArgs false
set_option linter.unusedVariables false
variable {w0 : World} {H : Hp}

theorem en_nm {A : Alg} {nm : List Int} (h : nm ∈ en A.up.length 3) : NmOk A nm := by
  obtain ⟨h1, h2⟩ := en_mem 3 h
  refine ⟨h1, fun i i0 i1 => ?_⟩
  have hi : i.toNat < nm.length := by omega
  rw [List.getD_eq_getElem?_getD, List.getElem?_eq_getElem hi, Option.getD_some]
  exact h2 _ (List.getElem_mem hi)

noncomputable def vT (A : Alg) (nm t : List Int) : Int := open Classical in if h : ∃ p, Val A nm t [] p then Classical.choose h else 0
theorem vT_val {A : Alg} {nm t : List Int} (ht : IsTerm t) : Val A nm t [] (vT A nm t) := by
  have h := Val.ex (A := A) (nm := nm) t.length (Nat.le_refl _) ht.2
  unfold vT; rw [dif_pos h]
  exact Classical.choose_spec h

theorem eachNames_c {H0 : Hp} {g : Nat} {cap : List AV} {uv tv : AV} {A : Alg} (h : Ints H0 uv A.up) (hm : Mat H0 tv A.times) (hA : IsAlg A) {σ : Type} {st : σ → List (Nat × Row) → Prop} {step : σ → List Int → σ} {s : σ} {M L : List (Nat × Row)} (hM : st s M) (o : Own no H0 H (M ++ L))
    (D : DoC w0 g cap H0 (fun l => l ∈ en A.up.length 3) st step) {Q : AV → Hp → Prop} (hQ : ∀ H' M', st ((en A.up.length 3).foldl step s) M' → Own no H0 H' (M' ++ L) → Q (.tup []) H') :
    ACalls Try.prog w0 78 [.agg [uv, tv], .fn g cap] H Q := by
  have hn6 := hA.hi
  have hn1 := hA.lo
  have hwl : IntKind.i64.wrap ((A.up.length : Int) - 1) = A.up.length - 1 := wrap_id (by omega) (by omega)
  refine in78 ?_
  simp only [c78, ↓WP, WQ, if_true, if_false, eq_self, implies_true, ne_eq, List.nil_append, List.cons_append, ↓reduceIte, Nat.reduceEqDiff, Nat.reduceBEq, reduceCtorEq, Nat.reduceAdd, resA, ret1, qv, lv, ev, boolA, binA, intA, shiftA, cmpA, beqA, lres, cells_alg h.len hm.len]
  refine NewRowd_in fun b hb => ?_
  have o := o.push (x := ⟨36, true, [uv, tv]⟩) hb
  generalize H.set b ⟨36, true, [uv, tv]⟩ = G at *
  have gb := o.get (i := 0) rfl
  simp only [↓WP, WQ, if_true, if_false, eq_self, implies_true, ne_eq, List.nil_append, List.cons_append, ↓reduceIte, Nat.reduceEqDiff, Nat.reduceBEq, reduceCtorEq, Nat.reduceAdd, resA, ret1, qv, lv, ev, boolA, binA, intA, shiftA, cmpA, beqA, lres, at_fst gb, h.len, hwl, bsl1]
  refine NewRowd_in fun w hw => ?_
  have o := o.push (x := LI [(A.up.length : Int) - 1]) hw
  have e0 : (⟨3, true, [.int .i64 ((A.up.length : Int) - 1)]⟩ : Row) = LI [(A.up.length : Int) - 1] := rfl
  rw [e0]
  generalize G.set w (LI [(A.up.length : Int) - 1]) = G2 at *
  simp only [↓WP, WQ, if_true, if_false, eq_self, implies_true, ne_eq, List.nil_append, List.cons_append, ↓reduceIte, Nat.reduceEqDiff, Nat.reduceBEq, reduceCtorEq, Nat.reduceAdd, resA, ret1, qv, lv, ev, boolA, binA, intA, shiftA, cmpA, beqA, lres]
  refine Repeat_c (m := 3) (li_ints (o.get (i := 0) rfl)) (by omega) fun q G3 o3 => ?_
  have o := o.call o3 (fun _ e => e)
  have o : Own no H0 G3 (M ++ ([(q, LI (List.replicate 3 ((A.up.length : Int) - 1))), (w, LI [(A.up.length : Int) - 1]), (b, ⟨36, true, [uv, tv]⟩)] ++ L)) := o.perm (List.perm_append_comm_assoc [(q, LI (List.replicate 3 ((A.up.length : Int) - 1))), (w, LI [(A.up.length : Int) - 1]), (b, (⟨36, true, [uv, tv]⟩ : Row))] M L)
  simp only [↓WP, WQ, if_true, if_false, eq_self, implies_true, ne_eq, List.nil_append, List.cons_append, ↓reduceIte, Nat.reduceEqDiff, Nat.reduceBEq, reduceCtorEq, Nat.reduceAdd, resA, ret1, qv, lv, ev, boolA, binA, intA, shiftA, cmpA, beqA, lres]
  refine eachList_c hn1 (by omega) (by omega) hM o (by simp) D fun G4 M4 hM4 o => ?_
  simp only [↓WP, WQ, if_true, if_false, eq_self, implies_true, ne_eq, List.nil_append, List.cons_append, ↓reduceIte, Nat.reduceEqDiff, Nat.reduceBEq, reduceCtorEq, Nat.reduceAdd, resA, ret1, qv, lv, ev, boolA, binA, intA, shiftA, cmpA, beqA, lres]
  exact hQ G4 M4 hM4 (o.sub (List.Sublist.append (.refl _) (List.sublist_append_right _ _)))

theorem getD_map_snd {t : List (Nat × List Int)} {i : Nat} (hi : i < t.length) : (t.map Prod.snd).getD i [] = (t[i]).2 := by
  rw [List.getD_eq_getElem?_getD, List.getElem?_map, List.getElem?_eq_getElem hi]; rfl

theorem assignments_c {n : Nat} (hn : n ≤ 6) {Q : AV → Hp → Prop} (hq : ∀ q t H', t.map Prod.snd = en n 3 → Own no H H' ((q, TR t) :: tl t) → Q (.sl q 0 t.length) H') :
    ACalls Try.prog w0 75 [.int .i64 n] H Q := by
  have enl : ∀ k, (ens n k).length ≤ 6 ^ k ∧ ∀ l ∈ ens n k, l.length = k := by
    intro k
    constructor
    · induction k with
      | zero => simp [ens]
      | succ k ih =>
        rw [ens, List.length_flatMap]
        simp only [List.length_map, List.length_range]
        rw [List.map_const', List.sum_replicate_nat, Nat.pow_succ]
        exact Nat.mul_le_mul ih hn
    · intro l hl; rw [ens_en] at hl; exact (en_mem k hl).1
  have h6 : ∀ k, k ≤ 3 → 6 ^ k ≤ 216 := fun k hk => by
    have : 6 ^ k ≤ 6 ^ 3 := Nat.pow_le_pow_right (by omega) hk
    omega
  have e0 : (⟨3, true, []⟩ : Row) = LI [] := rfl
  refine in75 ?_
  simp only [c75, ↓WP, WQ, if_true, if_false, eq_self, implies_true, ne_eq, List.nil_append, List.cons_append, ↓reduceIte, Nat.reduceEqDiff, Nat.reduceBEq, reduceCtorEq, Nat.reduceAdd, resA, ret1, qv, lv, ev, boolA, binA, intA, shiftA, cmpA, beqA, lres, bsl0, e0]
  refine NewRowd_in fun u hu => ?_
  have o := (Own.nil0 (H := H)).push (x := LI []) hu
  generalize H.set u (LI []) = G at *
  simp only [↓WP, WQ, if_true, if_false, eq_self, implies_true, ne_eq, List.nil_append, List.cons_append, ↓reduceIte, Nat.reduceEqDiff, Nat.reduceBEq, reduceCtorEq, Nat.reduceAdd, resA, ret1, qv, lv, ev, boolA, binA, intA, shiftA, cmpA, beqA, lres, bslv (z := .nils) (x := .sl u 0 0) rfl]
  refine NewRowd_in fun q hq0 => ?_
  have o := o.push (x := TR [(u, [])]) hq0
  simp only [↓WP, WQ, if_true, if_false, eq_self, implies_true, ne_eq, List.nil_append, List.cons_append, ↓reduceIte, Nat.reduceEqDiff, Nat.reduceBEq, reduceCtorEq, Nat.reduceAdd, resA, ret1, qv, lv, ev, boolA, binA, intA, shiftA, cmpA, beqA, lres]
  refine W_for 0 3 (fun k e H' => ∃ q t, Sl e [(0, .int .i64 n), (3, .sl q 0 t.length), (4, .int .i64 k)] ∧ t.map Prod.snd = ens n k.toNat ∧ Own no H H' ((q, TR t) :: tl t)) (by omega) ⟨q, [(u, [])], by simp only [↓WP, WQ, if_true, if_false, eq_self, implies_true, ne_eq, List.nil_append, List.cons_append, ↓reduceIte, Nat.reduceEqDiff, Nat.reduceBEq, reduceCtorEq, Nat.reduceAdd, resA, ret1, qv, lv, ev, boolA, binA, intA, shiftA, cmpA, beqA, lres]; rfl, rfl, o⟩ ?_
  rintro k e H' hk0 hk1 ⟨q, t, hs, ht, o⟩
  simp only [Sl_cons, Sl_nil, and_true] at hs
  have hwk : IntKind.i64.wrap (k + 1) = k + 1 := wrap_id (by omega) (by omega)
  have htl : t.length ≤ 216 := by
    have h1 := (enl k.toNat).1
    have h2 := h6 k.toNat (by omega)
    rw [← ht, List.length_map] at h1; omega
  refine (Classical.em (k < 3)).elim (fun hk => ?_) (fun hk => ?_) <;> simp only [↓WP, WQ, if_true, if_false, eq_self, implies_true, ne_eq, List.nil_append, List.cons_append, ↓reduceIte, Nat.reduceEqDiff, Nat.reduceBEq, reduceCtorEq, Nat.reduceAdd, resA, ret1, qv, lv, ev, boolA, binA, intA, shiftA, cmpA, beqA, lres, hs, hk]
  rotate_left
  · have hke : k.toNat = 3 := by omega
    rw [hke, ens_en] at ht
    exact hq q t H' ht o
  simp only [bsl0, ↓WP, WQ, if_true, if_false, eq_self, implies_true, ne_eq, List.nil_append, List.cons_append, ↓reduceIte, Nat.reduceEqDiff, Nat.reduceBEq, reduceCtorEq, Nat.reduceAdd, resA, ret1, qv, lv, ev, boolA, binA, intA, shiftA, cmpA, beqA, lres]
  refine NewRowd_in fun q2 hq2 => ?_
  have o : Own no H _ ((q2, TR []) :: ((q, TR t) :: tl t)) := o.push (x := TR []) hq2
  simp only [↓WP, WQ, if_true, if_false, eq_self, implies_true, ne_eq, List.nil_append, List.cons_append, ↓reduceIte, Nat.reduceEqDiff, Nat.reduceBEq, reduceCtorEq, Nat.reduceAdd, resA, ret1, qv, lv, ev, boolA, binA, intA, shiftA, cmpA, beqA, lres, hs]
  have f := fun l : List Int => (List.range n).map fun x : Nat => l ++ [(x : Int)]
  refine W_for 0 t.length (fun i e H' => ∃ q2 t2, Sl e [(0, .int .i64 n), (3, .sl q 0 t.length), (4, .int .i64 k), (5, .sl q2 0 t2.length), (6, .int .i64 i)] ∧ t2.map Prod.snd = ((t.map Prod.snd).take i.toNat).flatMap (fun l : List Int => (List.range n).map fun x : Nat => l ++ [(x : Int)]) ∧ t2.length ≤ i.toNat * n ∧ Own no H H' ((q2, TR t2) :: ((q, TR t) :: tl t) ++ tl t2)) (by omega) ⟨q2, [], by simp only [↓WP, WQ, if_true, if_false, eq_self, implies_true, ne_eq, List.nil_append, List.cons_append, ↓reduceIte, Nat.reduceEqDiff, Nat.reduceBEq, reduceCtorEq, Nat.reduceAdd, resA, ret1, qv, lv, ev, boolA, binA, intA, shiftA, cmpA, beqA, lres, hs]; rfl, by simp, by simp, by rw [show (tl [] : List (Nat × Row)) = [] from rfl, List.append_nil]; exact o⟩ ?_
  rintro i e H' hi0 hi1 ⟨q2, t2, hs, ht2, hl2, o⟩
  simp only [Sl_cons, Sl_nil, and_true] at hs
  have hwi : IntKind.i64.wrap (i + 1) = i + 1 := wrap_id (by omega) (by omega)
  refine (Classical.em (i < t.length)).elim (fun hi => ?_) (fun hi => ?_) <;> simp only [↓WP, WQ, if_true, if_false, eq_self, implies_true, ne_eq, List.nil_append, List.cons_append, ↓reduceIte, Nat.reduceEqDiff, Nat.reduceBEq, reduceCtorEq, Nat.reduceAdd, resA, ret1, qv, lv, ev, boolA, binA, intA, shiftA, cmpA, beqA, lres, hs, lenA_sl, hi]
  rotate_left
  · have hie : i.toNat = t.length := by omega
    rw [hie, List.take_of_length_le (by simp), ht] at ht2
    simp only [↓WP, WQ, if_true, if_false, eq_self, implies_true, ne_eq, List.nil_append, List.cons_append, ↓reduceIte, Nat.reduceEqDiff, Nat.reduceBEq, reduceCtorEq, Nat.reduceAdd, resA, ret1, qv, lv, ev, boolA, binA, intA, shiftA, cmpA, beqA, lres, hs, hwk, hk]
    refine ⟨q2, t2, rfl, by rw [ht2, show (k + 1).toNat = k.toNat + 1 by omega, ens], o.sub ?_⟩
    exact .cons_cons _ (List.sublist_append_right _ _)
  have hin : i.toNat < t.length := by omega
  refine W_for 0 n (fun x e H' => ∃ q2 t2, Sl e [(0, .int .i64 n), (3, .sl q 0 t.length), (4, .int .i64 k), (5, .sl q2 0 t2.length), (6, .int .i64 i), (7, .int .i64 x)] ∧ t2.map Prod.snd = ((t.map Prod.snd).take i.toNat).flatMap (fun l : List Int => (List.range n).map fun x : Nat => l ++ [(x : Int)]) ++ (List.range x.toNat).map (fun x : Nat => (t[i.toNat]).2 ++ [(x : Int)]) ∧ t2.length ≤ i.toNat * n + x.toNat ∧ Own no H H' ((q2, TR t2) :: ((q, TR t) :: tl t) ++ tl t2)) (by omega) ⟨q2, t2, by simp only [↓WP, WQ, if_true, if_false, eq_self, implies_true, ne_eq, List.nil_append, List.cons_append, ↓reduceIte, Nat.reduceEqDiff, Nat.reduceBEq, reduceCtorEq, Nat.reduceAdd, resA, ret1, qv, lv, ev, boolA, binA, intA, shiftA, cmpA, beqA, lres, hs], by simpa using ht2, by simpa using hl2, o⟩ ?_
  rintro x e H' hx0 hx1 ⟨q2, t2, hs, ht2, hl2, o⟩
  simp only [Sl_cons, Sl_nil, and_true] at hs
  have hwx : IntKind.i64.wrap (x + 1) = x + 1 := wrap_id (by omega) (by omega)
  refine (Classical.em (x < n)).elim (fun hx => ?_) (fun hx => ?_) <;> simp only [↓WP, WQ, if_true, if_false, eq_self, implies_true, ne_eq, List.nil_append, List.cons_append, ↓reduceIte, Nat.reduceEqDiff, Nat.reduceBEq, reduceCtorEq, Nat.reduceAdd, resA, ret1, qv, lv, ev, boolA, binA, intA, shiftA, cmpA, beqA, lres, hs, hx]
  rotate_left
  · have hxe : x.toNat = n := by omega
    rw [hxe] at ht2 hl2
    simp only [↓WP, WQ, if_true, if_false, eq_self, implies_true, ne_eq, List.nil_append, List.cons_append, ↓reduceIte, Nat.reduceEqDiff, Nat.reduceBEq, reduceCtorEq, Nat.reduceAdd, resA, ret1, qv, lv, ev, boolA, binA, intA, shiftA, cmpA, beqA, lres, hs, hwi, hi]
    refine ⟨q2, t2, rfl, ?_, ?_, o⟩
    · have hti : i.toNat < (t.map Prod.snd).length := by simpa using hin
      rw [ht2, show (i + 1).toNat = i.toNat + 1 by omega, List.take_succ_eq_append_getElem hti, List.flatMap_append]
      simp
    · rw [show (i + 1).toNat = i.toNat + 1 by omega, Nat.succ_mul]; exact hl2
  have gq := o.has (q, TR t) (by simp)
  have gt := o.has ((t[i.toNat]).1, LI (t[i.toNat]).2) (by
    simp only [List.cons_append, List.mem_cons, List.mem_append]
    exact Or.inr (Or.inr (Or.inl (List.mem_map.2 ⟨t[i.toNat], List.getElem_mem hin, rfl⟩))))
  have hat := tr_cell gq hin
  have hix := sl_idx (r := q) (n := t.length) (k := .i64) hi0 hi
  have hIt := li_ints gt
  have hl : (t[i.toNat]).2.length = k.toNat := (enl k.toNat).2 _ (by rw [← ht]; exact List.mem_map.2 ⟨_, List.getElem_mem hin, rfl⟩)
  generalize t[i.toNat] = p at *
  simp only [bsl0, e0, ↓WP, WQ, if_true, if_false, eq_self, implies_true, ne_eq, List.nil_append, List.cons_append, ↓reduceIte, Nat.reduceEqDiff, Nat.reduceBEq, reduceCtorEq, Nat.reduceAdd, resA, ret1, qv, lv, ev, boolA, binA, intA, shiftA, cmpA, beqA, lres]
  refine NewRowd_in fun u0 hu0 => ?_
  have o := o.push (x := LI []) hu0
  have hE := Ext.set (x := LI []) hu0
  have hat := hE.at hat
  have hIt := hIt.ext hE
  generalize H'.set u0 (LI []) = G1 at *
  simp only [↓WP, WQ, if_true, if_false, eq_self, implies_true, ne_eq, List.nil_append, List.cons_append, ↓reduceIte, Nat.reduceEqDiff, Nat.reduceBEq, reduceCtorEq, Nat.reduceAdd, resA, ret1, qv, lv, ev, boolA, binA, intA, shiftA, cmpA, beqA, lres, hs, hix, hat]
  refine o.app_copy (i := 0) rfl hIt (by omega) fun u1 G2 o => ?_
  simp only [List.set_cons_zero] at o
  simp only [↓WP, WQ, if_true, if_false, eq_self, implies_true, ne_eq, List.nil_append, List.cons_append, ↓reduceIte, Nat.reduceEqDiff, Nat.reduceBEq, reduceCtorEq, Nat.reduceAdd, resA, ret1, qv, lv, ev, boolA, binA, intA, shiftA, cmpA, beqA, lres, hs, bsl1]
  refine NewRowd_in fun w hw => ?_
  simp only [↓WP, WQ, if_true, if_false, eq_self, implies_true, ne_eq, List.nil_append, List.cons_append, ↓reduceIte, Nat.reduceEqDiff, Nat.reduceBEq, reduceCtorEq, Nat.reduceAdd, resA, ret1, qv, lv, ev, boolA, binA, intA, shiftA, cmpA, beqA, lres, hs]
  refine o.app_num (i := 0) rfl hw rfl (by omega) fun u2 G3 o => ?_
  simp only [List.set_cons_zero] at o
  simp only [↓WP, WQ, if_true, if_false, eq_self, implies_true, ne_eq, List.nil_append, List.cons_append, ↓reduceIte, Nat.reduceEqDiff, Nat.reduceBEq, reduceCtorEq, Nat.reduceAdd, resA, ret1, qv, lv, ev, boolA, binA, intA, shiftA, cmpA, beqA, lres, hs, bslv (z := .nils) (x := .sl u2 0 (p.2.length + 1)) rfl]
  refine NewRowd_in fun w2 hw2 => ?_
  simp only [↓WP, WQ, if_true, if_false, eq_self, implies_true, ne_eq, List.nil_append, List.cons_append, ↓reduceIte, Nat.reduceEqDiff, Nat.reduceBEq, reduceCtorEq, Nat.reduceAdd, resA, ret1, qv, lv, ev, boolA, binA, intA, shiftA, cmpA, beqA, lres, hs]
  have htl2 : t2.length ≤ 216 * 6 + 6 := by
    have : i.toNat * n ≤ 216 * 6 := Nat.mul_le_mul (by omega) hn
    omega
  refine Own.app_tab (r := u2) (l := p.2 ++ [x]) (L := (q, TR t) :: tl t) (by simpa [LT] using o) (Or.inr ⟨q2, rfl⟩) hw2 (by simp) (by omega) fun q3 G4 o => ?_
  simp only [↓WP, WQ, if_true, if_false, eq_self, implies_true, ne_eq, List.nil_append, List.cons_append, ↓reduceIte, Nat.reduceEqDiff, Nat.reduceBEq, reduceCtorEq, Nat.reduceAdd, resA, ret1, qv, lv, ev, boolA, binA, intA, shiftA, cmpA, beqA, lres, hs, hwx, hx]
  refine ⟨q3, t2 ++ [(u2, p.2 ++ [x])], by simp, ?_, by rw [List.length_append, List.length_cons, List.length_nil]; omega, by simpa using o⟩
  rw [List.map_append, ht2, show (x + 1).toNat = x.toNat + 1 by omega, List.range_succ, List.map_append, List.append_assoc]
  simp only [List.map_cons, List.map_nil, Int.toNat_of_nonneg hx0]
end Go.AL

/-
  Whether a term follows from another one.
-/
namespace Go.AL
open Go.Proofs
set_option linter.unusedSimpArgs false
set_option linter.unusedVariables false
variable {w0 : World} {H : Hp}

theorem en_len {n : Nat} (hn : n ≤ 6) : ∀ m, (en n m).length ≤ 6 ^ m
  | 0 => by simp [en]
  | m + 1 => by
    rw [en, List.length_flatMap]
    simp only [List.length_map]
    rw [List.map_const', List.sum_replicate_nat, List.length_range, Nat.pow_succ, Nat.mul_comm (6 ^ m)]
    exact Nat.mul_le_mul hn (en_len hn m)

def Fol (A : Alg) (p t nm : List Int) : Prop := vT A nm p = A.up.length - 1 → vT A nm t = A.up.length - 1
def FolA (A : Alg) (p t : List Int) : Prop := ∀ nm ∈ en A.up.length 3, Fol A p t nm
noncomputable def folS (A : Alg) (p t : List Int) (ok : Bool) (nm : List Int) : Bool := open Classical in ok && decide (Fol A p t nm)
theorem folS_true {A : Alg} {p t nm : List Int} : folS A p t true nm = true ↔ Fol A p t nm := by simp [folS]
theorem folS_fold {A : Alg} {p t : List Int} : ∀ (l : List (List Int)) (ok : Bool), (l.foldl (folS A p t) ok = true ↔ ok = true ∧ ∀ nm ∈ l, Fol A p t nm)
  | [], ok => by simp
  | a :: l, ok => by
    rw [List.foldl_cons, folS_fold l]
    simp only [folS, Bool.and_eq_true, decide_eq_true_eq, List.mem_cons, forall_eq_or_imp]
    exact ⟨fun h => ⟨h.1.1, h.1.2, h.2⟩, fun h => ⟨⟨h.1, h.2.1⟩, h.2.2⟩⟩

theorem Follows1_c {H0 : Hp} {uv tv pv zv : AV} {A : Alg} {p t : List Int} (h : Ints H0 uv A.up) (hm : Mat H0 tv A.times) (hA : IsAlg A) (hp : Ints H0 pv p) (hq : Ints H0 zv t) (tp : IsTerm p) (tt : IsTerm t) (b7 b3 b4 b8 b5 : Nat) :
    DoC w0 79 [.ptr b7 0, .ptr b3 0, .ptr b4 0, .ptr b8 0, .ptr b5 0] H0 (fun l => l ∈ en A.up.length 3)
      (fun (ok : Bool) M => M = [(b7, (⟨4, true, [.bool ok]⟩ : Row)), (b3, ⟨36, true, [uv, tv]⟩), (b4, ⟨30, true, [pv]⟩), (b8, ⟨3, true, [.int .i64 ((A.up.length : Int) - 1)]⟩), (b5, ⟨30, true, [zv]⟩)]) (folS A p t) := by
  intro ok M H L v nm Q hM o hv hnm hQ
  subst hM
  have g7 := o.get (i := 0) rfl
  have g3 := o.get (i := 1) rfl
  have g4 := o.get (i := 2) rfl
  have g8 := o.get (i := 3) rfl
  have g5 := o.get (i := 4) rfl
  have at1 : ∀ {b ty : Nat} {c : AV}, H b = some ⟨ty, true, [c]⟩ → H.at (.ptr b 0) = some c := fun hb => by simp [Hp.at, hb]
  have hn := en_nm hnm
  have h := h.ext o.ext'
  have hm := hm.ext o.ext'
  have hp := hp.ext o.ext'
  have hq := hq.ext o.ext'
  have h78 : b8 ≠ b7 := by
    have := o.nodup
    simp only [List.cons_append, List.map_cons, List.nodup_cons, List.mem_cons] at this
    intro e
    exact this.1 (by simp [e])
  have fin : ∀ ok' : Bool, ok' = folS A p t ok nm → stA H 1 (.ptr b7 0) (.bool ok') = some (H.set b7 ⟨4, true, [.bool (folS A p t ok nm)]⟩) ∧ (∀ r, r = b8 → (H.set b7 ⟨4, true, [.bool (folS A p t ok nm)]⟩) r = H r) ∧ Q (.tup []) (H.set b7 ⟨4, true, [.bool (folS A p t ok nm)]⟩) := by
    rintro _ rfl
    refine ⟨stA_cell' g7 (by simp) rfl, fun r hr => by rw [hr]; simp [Hp.set, h78], hQ _ _ rfl ?_⟩
    exact o.upd (i := 0) rfl
  refine in79 ?_
  simp only [c79, ↓WP, WQ, if_true, if_false, eq_self, implies_true, ne_eq, List.nil_append, List.cons_append, ↓reduceIte, Nat.reduceEqDiff, Nat.reduceBEq, reduceCtorEq, Nat.reduceAdd, resA, ret1, qv, lv, ev, boolA, binA, intA, shiftA, cmpA, beqA, lres]
  refine DR_in (fun r => r = b8) rfl ?_
  cases ok
  · obtain ⟨f1, f2, f3⟩ := fin false (by simp [folS])
    simp only [↓WP, WQ, if_true, if_false, eq_self, implies_true, ne_eq, List.nil_append, List.cons_append, ↓reduceIte, Nat.reduceEqDiff, Nat.reduceBEq, reduceCtorEq, Nat.reduceAdd, resA, ret1, qv, lv, ev, boolA, binA, intA, shiftA, cmpA, beqA, lres, at1 g7, loadS, ev, f1]
    exact ⟨f2, f3⟩
  simp only [↓WP, WQ, if_true, if_false, eq_self, implies_true, ne_eq, List.nil_append, List.cons_append, ↓reduceIte, Nat.reduceEqDiff, Nat.reduceBEq, reduceCtorEq, Nat.reduceAdd, resA, ret1, qv, lv, ev, boolA, binA, intA, shiftA, cmpA, beqA, lres, at1 g7, loadS, ev, atN_two g3, at1 g4, at1 g8]
  refine valueOf_c h hm hA hn hp hv (vT_val tp) ?_
  have key : ∀ b, (b = true ↔ Fol A p t nm) → b = folS A p t true nm := fun b hb => Bool.eq_iff_iff.2 (hb.trans folS_true.symm)
  refine ⟨fun _ _ => rfl, ?_⟩
  refine (Classical.em (vT A nm p = A.up.length - 1)).elim (fun c1 => ?_) (fun c1 => ?_)
  · simp only [↓WP, WQ, if_true, if_false, eq_self, implies_true, ne_eq, List.nil_append, List.cons_append, ↓reduceIte, Nat.reduceEqDiff, Nat.reduceBEq, reduceCtorEq, Nat.reduceAdd, resA, ret1, qv, lv, ev, boolA, binA, intA, shiftA, cmpA, beqA, lres, decide_eq_true c1, loadS, ev, atN_two g3, at1 g5, at1 g8]
    refine valueOf_c h hm hA hn hq hv (vT_val tt) ?_
    refine ⟨fun _ _ => rfl, ?_⟩
    obtain ⟨f1, f2, f3⟩ := fin (decide (vT A nm t = A.up.length - 1)) (key _ (by rw [decide_eq_true_iff]; exact ⟨fun h _ => h, fun h => h c1⟩))
    simp only [↓WP, WQ, if_true, if_false, eq_self, implies_true, ne_eq, List.nil_append, List.cons_append, ↓reduceIte, Nat.reduceEqDiff, Nat.reduceBEq, reduceCtorEq, Nat.reduceAdd, resA, ret1, qv, lv, ev, boolA, binA, intA, shiftA, cmpA, beqA, lres, f1]
    exact ⟨f2, f3⟩
  · obtain ⟨f1, f2, f3⟩ := fin true (key _ ⟨fun _ h => absurd h c1, fun _ => rfl⟩)
    simp only [↓WP, WQ, if_true, if_false, eq_self, implies_true, ne_eq, List.nil_append, List.cons_append, ↓reduceIte, Nat.reduceEqDiff, Nat.reduceBEq, reduceCtorEq, Nat.reduceAdd, resA, ret1, qv, lv, ev, boolA, binA, intA, shiftA, cmpA, beqA, lres, decide_eq_false c1, f1]
    exact ⟨f2, f3⟩

theorem Follows_c {uv tv pv zv : AV} {A : Alg} {p t : List Int} (h : Ints H uv A.up) (hm : Mat H tv A.times) (hS : Small A) (hp : Ints H pv p) (hq : Ints H zv t) (lp : p.length ≤ 1048576) (lt : t.length ≤ 1048576) {Q : AV → Hp → Prop}
    (ht : IsAlg A ∧ IsTerm p ∧ IsTerm t ∧ FolA A p t → Q (.bool true) H) (hf : ¬ (IsAlg A ∧ IsTerm p ∧ IsTerm t ∧ FolA A p t) → Q (.bool false) H) :
    ACalls Try.prog w0 30 [.agg [uv, tv], pv, zv] H Q := by
  refine quietT (fun b hb => ?_) ht hf
  refine in30 ?_
  simp only [c30, ↓WP, WQ, if_true, if_false, eq_self, implies_true, ne_eq, List.nil_append, List.cons_append, ↓reduceIte, Nat.reduceEqDiff, Nat.reduceBEq, reduceCtorEq, Nat.reduceAdd, resA, ret1, qv, lv, ev, boolA, binA, intA, shiftA, cmpA, beqA, lres, cells_alg h.len hm.len, cells_scal (lenA_scal hp.len), cells_scal (lenA_scal hq.len)]
  refine NewRowd_in fun b3 hb3 => ?_
  have o := (Own.nil0 (H := H)).push (x := ⟨36, true, [uv, tv]⟩) hb3
  generalize H.set b3 ⟨36, true, [uv, tv]⟩ = G at *
  simp only [↓WP, WQ, if_true, if_false, eq_self, implies_true, ne_eq, List.nil_append, List.cons_append, ↓reduceIte, Nat.reduceEqDiff, Nat.reduceBEq, reduceCtorEq, Nat.reduceAdd, resA, ret1, qv, lv, ev, boolA, binA, intA, shiftA, cmpA, beqA, lres, cells_scal (lenA_scal hp.len), cells_scal (lenA_scal hq.len)]
  refine NewRowd_in fun b4 hb4 => ?_
  have o := o.push (x := ⟨30, true, [pv]⟩) hb4
  generalize G.set b4 ⟨30, true, [pv]⟩ = G at *
  simp only [↓WP, WQ, if_true, if_false, eq_self, implies_true, ne_eq, List.nil_append, List.cons_append, ↓reduceIte, Nat.reduceEqDiff, Nat.reduceBEq, reduceCtorEq, Nat.reduceAdd, resA, ret1, qv, lv, ev, boolA, binA, intA, shiftA, cmpA, beqA, lres, cells_scal (lenA_scal hp.len), cells_scal (lenA_scal hq.len)]
  refine NewRowd_in fun b5 hb5 => ?_
  have o := o.push (x := ⟨30, true, [zv]⟩) hb5
  generalize G.set b5 ⟨30, true, [zv]⟩ = G at *
  have g3 := o.get (i := 2) rfl
  have g4 := o.get (i := 1) rfl
  have g5 := o.get (i := 0) rfl
  have at1 : ∀ {G : Hp} {b ty : Nat} {c : AV}, G b = some ⟨ty, true, [c]⟩ → G.at (.ptr b 0) = some c := fun hb => by simp [Hp.at, hb]
  have nope : ¬ (IsAlg A ∧ IsTerm p ∧ IsTerm t ∧ FolA A p t) → AV.bool false = AV.bool b ∧ Ext H G := fun hc => ⟨noT hb hc, o.ext'⟩
  simp only [↓WP, WQ, if_true, if_false, eq_self, implies_true, ne_eq, List.nil_append, List.cons_append, ↓reduceIte, Nat.reduceEqDiff, Nat.reduceBEq, reduceCtorEq, Nat.reduceAdd, resA, ret1, qv, lv, ev, boolA, binA, intA, shiftA, cmpA, beqA, lres, atN_two g3]
  refine ValidAlgebra_c (h.ext o.ext') (hm.ext o.ext') hS (fun hA => ?_) (fun hA => ?_)
  rotate_left
  · simp only [↓WP, WQ, if_true, if_false, eq_self, implies_true, ne_eq, List.nil_append, List.cons_append, ↓reduceIte, Nat.reduceEqDiff, Nat.reduceBEq, reduceCtorEq, Nat.reduceAdd, resA, ret1, qv, lv, ev, boolA, binA, intA, shiftA, cmpA, beqA, lres]; exact nope fun hh => hA hh.1
  simp only [↓WP, WQ, if_true, if_false, eq_self, implies_true, ne_eq, List.nil_append, List.cons_append, ↓reduceIte, Nat.reduceEqDiff, Nat.reduceBEq, reduceCtorEq, Nat.reduceAdd, resA, ret1, qv, lv, ev, boolA, binA, intA, shiftA, cmpA, beqA, lres, at1 g4]
  refine ValidTerm_c (hp.ext o.ext') lp (fun tp => ?_) (fun tp => ?_)
  rotate_left
  · simp only [↓WP, WQ, if_true, if_false, eq_self, implies_true, ne_eq, List.nil_append, List.cons_append, ↓reduceIte, Nat.reduceEqDiff, Nat.reduceBEq, reduceCtorEq, Nat.reduceAdd, resA, ret1, qv, lv, ev, boolA, binA, intA, shiftA, cmpA, beqA, lres]; exact nope fun hh => tp hh.2.1
  simp only [↓WP, WQ, if_true, if_false, eq_self, implies_true, ne_eq, List.nil_append, List.cons_append, ↓reduceIte, Nat.reduceEqDiff, Nat.reduceBEq, reduceCtorEq, Nat.reduceAdd, resA, ret1, qv, lv, ev, boolA, binA, intA, shiftA, cmpA, beqA, lres, at1 g5]
  refine ValidTerm_c (hq.ext o.ext') lt (fun tt => ?_) (fun tt => ?_)
  rotate_left
  · simp only [↓WP, WQ, if_true, if_false, eq_self, implies_true, ne_eq, List.nil_append, List.cons_append, ↓reduceIte, Nat.reduceEqDiff, Nat.reduceBEq, reduceCtorEq, Nat.reduceAdd, resA, ret1, qv, lv, ev, boolA, binA, intA, shiftA, cmpA, beqA, lres]; exact nope fun hh => tt hh.2.2.1
  have hn6 := hA.hi
  have hwl : IntKind.i64.wrap ((A.up.length : Int) - 1) = A.up.length - 1 := wrap_id (by omega) (by omega)
  simp only [↓WP, WQ, if_true, if_false, eq_self, implies_true, ne_eq, List.nil_append, List.cons_append, ↓reduceIte, Nat.reduceEqDiff, Nat.reduceBEq, reduceCtorEq, Nat.reduceAdd, resA, ret1, qv, lv, ev, boolA, binA, intA, shiftA, cmpA, beqA, lres]
  refine DR_in (fun r => r = b3) rfl ?_
  simp only [↓WP, WQ, if_true, if_false, eq_self, implies_true, ne_eq, List.nil_append, List.cons_append, ↓reduceIte, Nat.reduceEqDiff, Nat.reduceBEq, reduceCtorEq, Nat.reduceAdd, resA, ret1, qv, lv, ev, boolA, binA, intA, shiftA, cmpA, beqA, lres, loadS, ev, at_fst g3, h.len, hwl]
  refine NewRowd_in fun b7 hb7 => ?_
  have o := o.push (x := ⟨4, true, [.bool false]⟩) hb7
  generalize G.set b7 ⟨4, true, [.bool false]⟩ = G1 at *
  simp only [↓WP, WQ, if_true, if_false, eq_self, implies_true, ne_eq, List.nil_append, List.cons_append, ↓reduceIte, Nat.reduceEqDiff, Nat.reduceBEq, reduceCtorEq, Nat.reduceAdd, resA, ret1, qv, lv, ev, boolA, binA, intA, shiftA, cmpA, beqA, lres]
  refine NewRowd_in fun b8 hb8 => ?_
  have o := o.push (x := ⟨3, true, [.int .i64 0]⟩) hb8
  generalize G1.set b8 ⟨3, true, [.int .i64 0]⟩ = G2 at *
  have st7 := stA_cell' (i := 0) (x := .bool true) (o.get (i := 1) rfl) (by simp) rfl
  have g3 := o.get (i := 4) rfl
  have o := o.upd (i := 1) (y := ⟨4, true, [.bool true]⟩) rfl
  simp only [List.set_cons_succ, List.set_cons_zero] at o st7
  have k7 : ∀ r, r = b3 → (G2.set b7 ⟨4, true, [.bool true]⟩) r = G2 r := fun r hr => by rw [hr, g3]; exact o.get (i := 4) rfl
  simp only [↓WP, WQ, if_true, if_false, eq_self, implies_true, ne_eq, List.nil_append, List.cons_append, ↓reduceIte, Nat.reduceEqDiff, Nat.reduceBEq, reduceCtorEq, Nat.reduceAdd, resA, ret1, qv, lv, ev, boolA, binA, intA, shiftA, cmpA, beqA, lres, st7]
  refine ⟨k7, ?_⟩
  generalize G2.set b7 ⟨4, true, [.bool true]⟩ = G3 at *
  have st8 := stA_cell' (i := 0) (x := .int .i64 ((A.up.length : Int) - 1)) (o.get (i := 0) rfl) (by simp) rfl
  have g3 := o.get (i := 4) rfl
  have o := o.upd (i := 0) (y := ⟨3, true, [.int .i64 ((A.up.length : Int) - 1)]⟩) rfl
  simp only [List.set_cons_succ, List.set_cons_zero] at o st8
  have k8 : ∀ r, r = b3 → (G3.set b8 ⟨3, true, [.int .i64 ((A.up.length : Int) - 1)]⟩) r = G3 r := fun r hr => by rw [hr, g3]; exact o.get (i := 4) rfl
  simp only [↓WP, WQ, if_true, if_false, eq_self, implies_true, ne_eq, List.nil_append, List.cons_append, ↓reduceIte, Nat.reduceEqDiff, Nat.reduceBEq, reduceCtorEq, Nat.reduceAdd, resA, ret1, qv, lv, ev, boolA, binA, intA, shiftA, cmpA, beqA, lres, st8]
  refine ⟨k8, ?_⟩
  generalize G3.set b8 ⟨3, true, [.int .i64 ((A.up.length : Int) - 1)]⟩ = G4 at *
  have g3 := o.get (i := 4) rfl
  simp only [↓WP, WQ, if_true, if_false, eq_self, implies_true, ne_eq, List.nil_append, List.cons_append, ↓reduceIte, Nat.reduceEqDiff, Nat.reduceBEq, reduceCtorEq, Nat.reduceAdd, resA, ret1, qv, lv, ev, boolA, binA, intA, shiftA, cmpA, beqA, lres, atN_two g3]
  have o : Own no H G4 ([(b7, (⟨4, true, [.bool true]⟩ : Row)), (b3, ⟨36, true, [uv, tv]⟩), (b4, ⟨30, true, [pv]⟩), (b8, ⟨3, true, [.int .i64 ((A.up.length : Int) - 1)]⟩), (b5, ⟨30, true, [zv]⟩)] ++ []) := by
    refine o.perm ?_
    rw [List.append_nil]
    refine (List.Perm.swap _ _ _).trans (.cons _ ?_)
    refine (List.Perm.cons _ ((List.Perm.cons _ (List.Perm.swap _ _ _)))).trans ?_
    refine (List.Perm.cons _ (List.Perm.swap _ _ _)).trans ?_
    refine (List.Perm.swap _ _ _).trans (.cons _ ?_)
    refine (List.Perm.cons _ (List.Perm.swap _ _ _)).trans ?_
    exact List.Perm.swap _ _ _
  refine eachNames_c h hm hA (st := fun (ok : Bool) M => M = [(b7, (⟨4, true, [.bool ok]⟩ : Row)), (b3, ⟨36, true, [uv, tv]⟩), (b4, ⟨30, true, [pv]⟩), (b8, ⟨3, true, [.int .i64 ((A.up.length : Int) - 1)]⟩), (b5, ⟨30, true, [zv]⟩)]) (s := true) rfl o (Follows1_c h hm hA hp hq tp tt b7 b3 b4 b8 b5) fun G5 M5 hM5 o => ?_
  subst hM5
  simp only [↓WP, WQ, if_true, if_false, eq_self, implies_true, ne_eq, List.nil_append, List.cons_append, ↓reduceIte, Nat.reduceEqDiff, Nat.reduceBEq, reduceCtorEq, Nat.reduceAdd, resA, ret1, qv, lv, ev, boolA, binA, intA, shiftA, cmpA, beqA, lres, at1 (o.get (i := 0) rfl)]
  refine ⟨?_, o.ext'⟩
  congr 1
  rw [Bool.eq_iff_iff, folS_fold, hb]
  exact ⟨fun hh => ⟨hA, tp, tt, hh.2⟩, fun hh => ⟨rfl, hh.2.2.2⟩⟩

theorem sFollows_c {uv tv pv zv : AV} {A : Alg} {p t : List Int} (h : Ints H uv A.up) (hm : Mat H tv A.times) (hS : Small A) (hp : Ints H pv p) (hq : Ints H zv t) (lp : p.length ≤ 1048576) (lt : t.length ≤ 1048576) {Q : AV → Hp → Prop}
    (ht : IsAlg A ∧ IsTerm p ∧ IsTerm t ∧ FolA A p t → Q (.bool true) H) (hf : ¬ (IsAlg A ∧ IsTerm p ∧ IsTerm t ∧ FolA A p t) → Q (.bool false) H) :
    ACalls Try.prog w0 28 [.agg [uv, tv], pv, zv] H Q := by
  refine quietT (fun b hb => ?_) ht hf
  refine in28 ?_
  simp only [c28, ↓WP, WQ, if_true, if_false, eq_self, implies_true, ne_eq, List.nil_append, List.cons_append, ↓reduceIte, Nat.reduceEqDiff, Nat.reduceBEq, reduceCtorEq, Nat.reduceAdd, resA, ret1, qv, lv, ev, boolA, binA, intA, shiftA, cmpA, beqA, lres, cells_alg h.len hm.len]
  refine NewRowd_in fun b3 hb3 => ?_
  have o := (Own.nil0 (H := H)).push (x := ⟨36, true, [uv, tv]⟩) hb3
  generalize H.set b3 ⟨36, true, [uv, tv]⟩ = G at *
  have g3 := o.get (i := 0) rfl
  have h := h.ext o.ext'
  have hm := hm.ext o.ext'
  have hp := hp.ext o.ext'
  have hq := hq.ext o.ext'
  have nope : ¬ (IsAlg A ∧ IsTerm p ∧ IsTerm t ∧ FolA A p t) → AV.bool false = AV.bool b ∧ Ext H G := fun hc => ⟨noT hb hc, o.ext'⟩
  simp only [↓WP, WQ, if_true, if_false, eq_self, implies_true, ne_eq, List.nil_append, List.cons_append, ↓reduceIte, Nat.reduceEqDiff, Nat.reduceBEq, reduceCtorEq, Nat.reduceAdd, resA, ret1, qv, lv, ev, boolA, binA, intA, shiftA, cmpA, beqA, lres, atN_two g3]
  refine svalidAlgebra_c h hm hS (fun hA => ?_) (fun hA => ?_)
  rotate_left
  · simp only [↓WP, WQ, if_true, if_false, eq_self, implies_true, ne_eq, List.nil_append, List.cons_append, ↓reduceIte, Nat.reduceEqDiff, Nat.reduceBEq, reduceCtorEq, Nat.reduceAdd, resA, ret1, qv, lv, ev, boolA, binA, intA, shiftA, cmpA, beqA, lres]; exact nope fun hh => hA hh.1
  simp only [↓WP, WQ, if_true, if_false, eq_self, implies_true, ne_eq, List.nil_append, List.cons_append, ↓reduceIte, Nat.reduceEqDiff, Nat.reduceBEq, reduceCtorEq, Nat.reduceAdd, resA, ret1, qv, lv, ev, boolA, binA, intA, shiftA, cmpA, beqA, lres]
  refine validTerm_c hp lp (fun tp => ?_) (fun tp => ?_)
  rotate_left
  · simp only [↓WP, WQ, if_true, if_false, eq_self, implies_true, ne_eq, List.nil_append, List.cons_append, ↓reduceIte, Nat.reduceEqDiff, Nat.reduceBEq, reduceCtorEq, Nat.reduceAdd, resA, ret1, qv, lv, ev, boolA, binA, intA, shiftA, cmpA, beqA, lres]; exact nope fun hh => tp hh.2.1
  simp only [↓WP, WQ, if_true, if_false, eq_self, implies_true, ne_eq, List.nil_append, List.cons_append, ↓reduceIte, Nat.reduceEqDiff, Nat.reduceBEq, reduceCtorEq, Nat.reduceAdd, resA, ret1, qv, lv, ev, boolA, binA, intA, shiftA, cmpA, beqA, lres]
  refine validTerm_c hq lt (fun tt => ?_) (fun tt => ?_)
  rotate_left
  · simp only [↓WP, WQ, if_true, if_false, eq_self, implies_true, ne_eq, List.nil_append, List.cons_append, ↓reduceIte, Nat.reduceEqDiff, Nat.reduceBEq, reduceCtorEq, Nat.reduceAdd, resA, ret1, qv, lv, ev, boolA, binA, intA, shiftA, cmpA, beqA, lres]; exact nope fun hh => tt hh.2.2.1
  have hn6 := hA.hi
  have hwl : IntKind.i64.wrap ((A.up.length : Int) - 1) = A.up.length - 1 := wrap_id (by omega) (by omega)
  simp only [↓WP, WQ, if_true, if_false, eq_self, implies_true, ne_eq, List.nil_append, List.cons_append, ↓reduceIte, Nat.reduceEqDiff, Nat.reduceBEq, reduceCtorEq, Nat.reduceAdd, resA, ret1, qv, lv, ev, boolA, binA, intA, shiftA, cmpA, beqA, lres, at_fst g3, h.len, hwl]
  refine assignments_c hn6 fun q T G1 hT o1 => ?_
  have o := o.call o1 (fun _ e => e)
  have hE := o1.ext'
  have g3 := hE.get g3
  have h := h.ext hE
  have hm := hm.ext hE
  have hp := hp.ext hE
  have hq := hq.ext hE
  have pT : 1 ≤ p.length ∧ 1 ≤ t.length := by
    have k : ∀ {t : List Int}, IsTerm t → 1 ≤ t.length := fun {t} ht => by
      cases t with
      | nil => have := ht.2; rw [trm_nil] at this; cases this
      | cons a l => simp
    exact ⟨k tp, k tt⟩
  have hTn : ∀ i (hi : i < T.length), (T[i]).2 ∈ en A.up.length 3 := fun i hi => by
    rw [← hT]; exact List.mem_map.2 ⟨_, List.getElem_mem hi, rfl⟩
  have hTl : T.length ≤ 1000 := by
    have e1 : (en A.up.length 3).length ≤ 216 := en_len hn6 3
    have := congrArg List.length hT
    rw [List.length_map] at this; omega
  simp only [↓WP, WQ, if_true, if_false, eq_self, implies_true, ne_eq, List.nil_append, List.cons_append, ↓reduceIte, Nat.reduceEqDiff, Nat.reduceBEq, reduceCtorEq, Nat.reduceAdd, resA, ret1, qv, lv, ev, boolA, binA, intA, shiftA, cmpA, beqA, lres]
  refine W_for 0 T.length (fun i e H' => H' = G1 ∧ Sl e [(1, pv), (2, zv), (3, .ptr b3 0), (7, .int .i64 ((A.up.length : Int) - 1)), (8, .sl q 0 T.length), (9, .int .i64 i)] ∧ ∀ j (hj : j < T.length), (j : Int) < i → Fol A p t (T[j]).2) (by omega) ⟨rfl, by simp only [↓WP, WQ, if_true, if_false, eq_self, implies_true, ne_eq, List.nil_append, List.cons_append, ↓reduceIte, Nat.reduceEqDiff, Nat.reduceBEq, reduceCtorEq, Nat.reduceAdd, resA, ret1, qv, lv, ev, boolA, binA, intA, shiftA, cmpA, beqA, lres], fun j _ hj => by omega⟩ ?_
  rintro i e H' hi0 hi1 ⟨rfl, hs, hall⟩
  simp only [Sl_cons, Sl_nil, and_true] at hs
  have hw : IntKind.i64.wrap (i + 1) = i + 1 := wrap_id (by omega) (by omega)
  refine (Classical.em (i < T.length)).elim (fun hi => ?_) (fun hi => ?_) <;> simp only [↓WP, WQ, if_true, if_false, eq_self, implies_true, ne_eq, List.nil_append, List.cons_append, ↓reduceIte, Nat.reduceEqDiff, Nat.reduceBEq, reduceCtorEq, Nat.reduceAdd, resA, ret1, qv, lv, ev, boolA, binA, intA, shiftA, cmpA, beqA, lres, hs, lenA_sl, hi]
  · have hin : i.toNat < T.length := by omega
    have hat := tr_cell (o.has (q, TR T) (by simp)) hin
    have hix := sl_idx (r := q) (n := T.length) (k := .i64) hi0 hi
    have hIt := li_ints (o.has ((T[i.toNat]).1, LI (T[i.toNat]).2) (by
      simp only [List.cons_append, List.mem_cons, List.mem_append]
      exact Or.inr (Or.inl (List.mem_map.2 ⟨T[i.toNat], List.getElem_mem hin, rfl⟩))))
    have hnm := en_nm (hTn _ hin)
    have next : Fol A p t (T[i.toNat]).2 → ∀ j (hj : j < T.length), (j : Int) < i + 1 → Fol A p t (T[j]).2 := fun hF j hj hlt => by
      by_cases hji : (j : Int) < i
      · exact hall j hj hji
      · have : j = i.toNat := by omega
        subst this; exact hF
    have bad : ¬ Fol A p t (T[i.toNat]).2 → AV.bool false = AV.bool b ∧ Ext H H' := fun hF => ⟨noT hb fun hh => hF (hh.2.2.2 _ (hTn _ hin)), o.ext'⟩
    refine DR_in (fun _ => True) rfl ?_
    simp only [↓WP, WQ, if_true, if_false, eq_self, implies_true, ne_eq, List.nil_append, List.cons_append, ↓reduceIte, Nat.reduceEqDiff, Nat.reduceBEq, reduceCtorEq, Nat.reduceAdd, resA, ret1, qv, lv, ev, boolA, binA, intA, shiftA, cmpA, beqA, lres, hs, hix, hat, atN_two g3]
    refine svalue_c hA hnm lp (vT_val tp) h hm hp hIt (by omega) (by omega) rfl ?_
    refine (Classical.em (vT A (T[i.toNat]).2 p = A.up.length - 1)).elim (fun c1 => ?_) (fun c1 => ?_)
    · simp only [↓WP, WQ, if_true, if_false, eq_self, implies_true, ne_eq, List.nil_append, List.cons_append, ↓reduceIte, Nat.reduceEqDiff, Nat.reduceBEq, reduceCtorEq, Nat.reduceAdd, resA, ret1, qv, lv, ev, boolA, binA, intA, shiftA, cmpA, beqA, lres, hs, hix, hat, atN_two g3, decide_eq_true c1]
      refine svalue_c hA hnm lt (vT_val tt) h hm hq hIt (by omega) (by omega) rfl ?_
      refine (Classical.em (vT A (T[i.toNat]).2 t = A.up.length - 1)).elim (fun c2 => ?_) (fun c2 => ?_)
      · simp only [↓WP, WQ, if_true, if_false, eq_self, implies_true, ne_eq, List.nil_append, List.cons_append, ↓reduceIte, Nat.reduceEqDiff, Nat.reduceBEq, reduceCtorEq, Nat.reduceAdd, resA, ret1, qv, lv, ev, boolA, binA, intA, shiftA, cmpA, beqA, lres, hs, decide_eq_true c2, hw, hi]
        exact next fun _ => c2
      · simp only [↓WP, WQ, if_true, if_false, eq_self, implies_true, ne_eq, List.nil_append, List.cons_append, ↓reduceIte, Nat.reduceEqDiff, Nat.reduceBEq, reduceCtorEq, Nat.reduceAdd, resA, ret1, qv, lv, ev, boolA, binA, intA, shiftA, cmpA, beqA, lres, hs, decide_eq_false c2]
        exact bad fun hF => c2 (hF c1)
    · simp only [↓WP, WQ, if_true, if_false, eq_self, implies_true, ne_eq, List.nil_append, List.cons_append, ↓reduceIte, Nat.reduceEqDiff, Nat.reduceBEq, reduceCtorEq, Nat.reduceAdd, resA, ret1, qv, lv, ev, boolA, binA, intA, shiftA, cmpA, beqA, lres, hs, decide_eq_false c1, hw, hi]
      exact next fun hc => absurd hc c1
  · refine ⟨yesT hb ⟨hA, tp, tt, fun nm hnm => ?_⟩, o.ext'⟩
    rw [← hT] at hnm
    obtain ⟨x, hx, rfl⟩ := List.mem_map.1 hnm
    obtain ⟨j, hj, rfl⟩ := List.mem_iff_getElem.1 hx
    exact hall j hj (by omega)
end Go.AL
