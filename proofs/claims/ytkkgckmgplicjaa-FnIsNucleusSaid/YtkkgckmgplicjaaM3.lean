/-
  Lemmas that the proofs of the given statements of this seat use. Conditions: none.
-/
import Derived.Test.YtkkgckmgplicjaaM2
import Derived.Test.YtkkgckmgplicjaaM1
import Derived.Test.YtkkgckmgplicjaaK
import GoSem.Claim
import GoSem.ClaimJoined
import Derived.ChangeStays
import Derived.ChangeSlices
import Derived.JoinedOf
import Derived.Handed
import Derived.ProofKit
import Derived.OpenShut
import Derived.ChangeCalls
/-
  Draws of algebras.
-/
namespace Go.AL
open Go.Proofs
set_option linter.unusedSimpArgs false
set_option linter.unusedVariables false
variable {w0 : World} {H : Hp}

theorem NA.Ext {X : Nat → Prop} {H0 H H' : Hp} {v : AV} {l : List Int} {T : List (List Int)} (h : NA X H0 H v l T) (k : Ext H H') : NA X H0 H' v l T := by
  obtain ⟨u, q, t, h1, h2, h3⟩ := h
  exact ⟨u, q, t, h1, h2, h3.Ext k⟩
theorem NA.fxs {X Y : Nat → Prop} {H0 H H' : Hp} {v : AV} {l : List Int} {T : List (List Int)} (h : NA X H0 H v l T) (k : FX Y H H') (hy : ∀ q, Y q → X q) : NA X H0 H' v l T := by
  obtain ⟨u, q, t, h1, h2, h3⟩ := h
  exact ⟨u, q, t, h1, h2, h3.fxs k hy⟩
theorem NA.back {X Y : Nat → Prop} {H0 H1 H : Hp} {v : AV} {l : List Int} {T : List (List Int)} (h : NA X H1 H v l T) (k : FX Y H0 H1) (hy : ∀ q, X q → Y q) (hex : ∀ q, Y q → H0 q ≠ none) : NA Y H0 H v l T := by
  obtain ⟨u, q, t, h1, h2, h3⟩ := h
  exact ⟨u, q, t, h1, h2, h3.back k hy hex⟩
theorem NA.fx {X : Nat → Prop} {H0 H : Hp} {v : AV} {l : List Int} {T : List (List Int)} (h : NA X H0 H v l T) : FX X H0 H := by
  obtain ⟨u, q, t, h1, h2, h3⟩ := h
  exact h3.fx

theorem Rd.set {B H0 H : Hp} {r b : Nat} {K K0 : Int} {x : Row} (h : Rd B H r K) (h0 : Rd B H0 r K0) (hb : H0 b = none) : Rd B (H.set b x) r K :=
  h.step h0 hb fun p hp _ => by simp [Hp.set, hp]
theorem Rd.ex {B H : Hp} {r : Nat} {K : Int} (h : Rd B H r K) : ∀ q, is r q → H q ≠ none := fun q e => by
  have : q = r := e
  rw [this]; exact h.some

/-- What a function that makes an algebra puts into its answer. -/
theorem store_res {X Y : Nat → Prop} {H0 H H' : Hp} {b : Nat} {x y v : AV} {L : List (Nat × Row)} {l : List Int} {T : List (List Int)} (o : Own X H0 H ((b, ⟨36, true, [x, y]⟩) :: L)) (hN : NA Y H H' v l T) (hY : ∀ q, Y q → X q) :
    ∃ uv tv, v = .agg [uv, tv] ∧ stA H' 2 (.ptr b 0) v = some (H'.set b ⟨36, true, [uv, tv]⟩) ∧ NA X H0 (H'.set b ⟨36, true, [uv, tv]⟩) v l T ∧ (H'.set b ⟨36, true, [uv, tv]⟩).atN (.ptr b 0) 2 = some [uv, tv] ∧ H0 b = none := by
  obtain ⟨u, q, t, rfl, h2, h3⟩ := hN
  have o := o.call h3 hY
  have hb : H' b = some ⟨36, true, [x, y]⟩ := o.has (b, ⟨36, true, [x, y]⟩) (by simp)
  refine ⟨_, _, rfl, stA_two hb rfl rfl, ?_, atN_two (Hp.set_same _ _ _), o.new (b, ⟨36, true, [x, y]⟩) (by simp)⟩
  have o := (o.perm (List.perm_middle (l₁ := (u, LI l) :: (q, TR t) :: tl t))).upd (i := 0) (y := ⟨36, true, [.sl u 0 l.length, .sl q 0 t.length]⟩) rfl
  simp only [List.set_cons_zero] at o
  exact ⟨u, q, t, rfl, h2, (o.tail).sub (List.sublist_append_left _ _)⟩

/-- A drawn algebra: of at most N elements. -/
def GA (X : Nat → Prop) (H0 H : Hp) (v : AV) (N : Nat) : Prop := ∃ l T n, NA X H0 H v l T ∧ Sq n l T ∧ 1 ≤ n ∧ n ≤ N

theorem rows62_chain {n : Nat} (hn1 : 1 ≤ n) (hn : n ≤ 6) : Rows62 (chainS n n) := by
  have h := chain_lat hn1 hn
  exact rows62_of h.hi h.rng
theorem rows62_cross (a b : List Int) (h : a.length * b.length ≤ 61) : Rows62 (crossF a b) := by
  intro k k0 k1
  unfold crossF at k1 ⊢
  rw [tab_len] at k1
  rw [tab_get k0 k1]
  have := sumP_rng62 (crossP a b k) h
  omega
theorem sq_of {l : List Int} {f : Int → Int → Int} {n : Nat} (hl : l.length = n) : Sq n l (tab2 f n n) := ⟨hl, tab2_len _ _ _, tab2_rows⟩
theorem Sq.square {n : Nat} {l : List Int} {T : List (List Int)} (h : Sq n l T) : Square ⟨l, T⟩ := by
  obtain ⟨h1, h2, h3⟩ := h
  refine ⟨by simp only [h1, h2], fun x x0 x1 => ?_⟩
  simp only [h1] at x1 ⊢
  exact (SqT.row (n := n) ⟨h2, h3⟩ (by omega))

theorem TA_at {H : Hp} {r n i : Nat} {us : List Nat} {TT : List Tbl} (h : H r = some (TA n us TT)) (hl : us.length = TT.length) (hi : i < TT.length) :
    H.atN (.ptr r (i * 2)) 2 = some [.sl (us[i]'(by omega)) 0 n, .sl (TT[i]).1 0 (TT[i]).2.length] := by
  have h1 : i < (us.zip TT).length := by rw [List.length_zip]; omega
  have h2 := pairs_get (n := n) h1
  have h3 := pairs_len (l := us.zip TT) (n := n)
  have h4 : i * 2 + 2 ≤ (((us.zip TT).map fun p => [AV.sl p.1 0 n, AV.sl p.2.1 0 p.2.2.length]).flatten).length := by rw [h3]; omega
  simp only [Hp.atN, h, TA, h4, if_true]
  rw [show i * 2 = 2 * i by omega, h2]
  simp
theorem idx2_sl {r n : Nat} {k : IntKind} {y : Int} (h0 : 0 ≤ y) (h1 : y < n) : idxA 2 (.sl r 0 n) (.int k y) = some (.ptr r (y.toNat * 2)) := by
  simp [idxA, h0, h1]

theorem algebraOf_c {B : Hp} {r : Nat} {K : Int} (hR : Rd B H r K) (hK : K ≤ 900000000) {most : Nat} (hm2 : 2 ≤ most) (hm6 : most ≤ 6) {Q : AV → Hp → Prop}
    (hq : ∀ v H', Rd B H' r (K + 3) → GA (is r) H H' v most → Q v H') :
    ACalls Try.prog w0 164 [.ptr r 0, .int .i64 most] H Q := by
  refine in164 ?_
  simp only [c164, ↓WP, WQ, if_true, if_false, eq_self, implies_true, ne_eq, List.nil_append, List.cons_append, ↓reduceIte, Nat.reduceEqDiff, Nat.reduceBEq, reduceCtorEq, Nat.reduceAdd, resA, ret1, qv, lv, ev, boolA, binA, intA, shiftA, cmpA, beqA, lres]
  refine NewRowd_in fun b4 hb4 => ?_
  have o := (Own.nil hR.ex).push (x := ⟨36, true, [.nils, .nils]⟩) hb4
  have R0 := hR
  have hR := hR.Ext (Ext.set (x := ⟨36, true, [.nils, .nils]⟩) hb4)
  generalize H.set b4 ⟨36, true, [.nils, .nils]⟩ = H1 at *
  simp only [↓WP, WQ, if_true, if_false, eq_self, implies_true, ne_eq, List.nil_append, List.cons_append, ↓reduceIte, Nat.reduceEqDiff, Nat.reduceBEq, reduceCtorEq, Nat.reduceAdd, resA, ret1, qv, lv, ev, boolA, binA, intA, shiftA, cmpA, beqA, lres]
  refine pick_d hR (by omega) fun v1 H2 v0 v1' _ hR hF => ?_
  have o := o.fxs hF (fun _ e => e)
  obtain ⟨n, hn⟩ : ∃ n : Nat, 1 + v1 = n := ⟨(1 + v1).toNat, by omega⟩
  have hv1 := v1' (by omega)
  have wn : IntKind.i64.wrap (1 + v1) = n := by rw [wrap_id (by omega) (by omega), hn]
  simp only [↓WP, WQ, if_true, if_false, eq_self, implies_true, ne_eq, List.nil_append, List.cons_append, ↓reduceIte, Nat.reduceEqDiff, Nat.reduceBEq, reduceCtorEq, Nat.reduceAdd, resA, ret1, qv, lv, ev, boolA, binA, intA, shiftA, cmpA, beqA, lres, wn]
  refine pick_d hR (by omega) fun v2 H3 w0' w1' _ hR hF => ?_
  have hR3' := hR
  have hR := hR.mono (K' := K + 3) (by omega)
  have hR3 := hR
  have o := o.fxs hF (fun _ e => e)
  have fin : ∀ (Y : Nat → Prop) (G G' : Hp) (v : AV) (l : List Int) (T : List (List Int)) (m : Nat), (∀ q, Y q → is r q) → Own (is r) H G [(b4, ⟨36, true, [.nils, .nils]⟩)] → Rd B G' r (K + 3) → NA Y G G' v l T → Sq m l T → 1 ≤ m → m ≤ most →
      ∃ uv tv G'', v = .agg [uv, tv] ∧ stA G' 2 (.ptr b4 0) v = some G'' ∧ G''.atN (.ptr b4 0) 2 = some [uv, tv] ∧ Q v G'' := by
    intro Y G G' v l T m hY o hR hN hS h1 h2
    obtain ⟨uv, tv, e1, e2, e3, e4, e5⟩ := store_res o hN hY
    exact ⟨uv, tv, _, e1, e2, e4, hq v _ (hR.set R0 e5) ⟨l, T, m, e3, hS, h1, h2⟩⟩
  have hN1 : 1 ≤ n := by omega
  have hNm : n ≤ most := by omega
  have hmin : min (n : Int) 5 = ((min n 5 : Nat) : Int) := by omega
  have last : ∀ e : Env, e 0 = .ptr r 0 → e 4 = .ptr b4 0 → e 5 = .int .i64 n → ACalls Try.prog w0 67 [.int .i64 (min n 5 : Nat)] H3 fun v H' => W Try.prog w0 (
      .op (some 7) none (.q (.mov (.t 57)))
      (.op (some 58) none (.q (.mov (.t 7)))
      (.op (some 59) none (.q (.mov (.t 0)))
      (.op (some 60) none (.q (.mov (.t 7)))
      (.op (some 61) none (.q (.len (.t 60)))
      (.op (some 62) none (.e (.call (.f 117) [.t 59, .t 61]))
      (.op (some 63) none (.q (.idx 2 (.t 58) (.t 62)))
      (.op (some 64) none (.q (.load (some 2) (.t 63)))
      (.op none none (.e (.store 2 (.t 4) (.t 64)))
      .ret))))))))) (retQ [.c (some 2) 4] Q) (updo e (some 57) v) H' := by
    intro e s0 s4 s5
    refine chains_c (n := min n 5) (by omega) (by omega) fun a us TT H4 hc hus hTl hsq o2 => ?_
    have hne : TT ≠ [] := by
      rintro rfl
      exact chainsF_some (n := min n 5) (by omega) (by omega) hc.symm
    have hpos : 1 ≤ TT.length := by
      have := List.length_pos_iff.2 hne
      omega
    simp only [↓WP, WQ, if_true, if_false, eq_self, implies_true, ne_eq, List.nil_append, List.cons_append, ↓reduceIte, Nat.reduceEqDiff, Nat.reduceBEq, reduceCtorEq, Nat.reduceAdd, resA, ret1, qv, lv, ev, boolA, binA, intA, shiftA, cmpA, beqA, lres, s0, s4, s5]
    refine pick_d (hR3'.Ext o2.ext') (by omega) fun i H5 i0 i1 _ hR hF => ?_
    have hi := i1 (by omega)
    have hiN : i.toNat < TT.length := by omega
    have hR := hR.mono (K' := K + 3) (by omega)
    have o2 := (o2.back (Y := is r) (FX.refl _ _) (fun _ e => e.elim) (fun q e => by
      have : q = r := e
      rw [this]; exact hR3.some)).fxs hF (fun _ e => e)
    have hat := TA_at (o2.get (i := 0) rfl) hus hiN
    have hS := hsq _ (List.getElem_mem hiN)
    have hN : NA (is r) H3 H5 (.agg [.sl (us[i.toNat]'(by omega)) 0 (min n 5), .sl (TT[i.toNat]).1 0 (TT[i.toNat]).2.length]) (chainS (min n 5 : Nat) (min n 5)) (tbl TT[i.toNat]) := by
      refine ⟨_, _, (TT[i.toNat]).2, by rw [chainS_len], rfl, ?_⟩
      exact o2.sub (M := ((us[i.toNat]'(by omega), LI (chainS (min n 5 : Nat) (min n 5))) :: ((TT[i.toNat]).1, TR (TT[i.toNat]).2) :: tl (TT[i.toNat]).2)) (by
        refine .cons _ ?_
        refine List.Sublist.append (l₁ := [_]) ?_ ?_
        · exact List.singleton_sublist.2 (List.mem_map.2 ⟨_, List.getElem_mem (by omega), rfl⟩)
        · have := List.sublist_flatten_of_mem (l := ((TT[i.toNat]).1, TR (TT[i.toNat]).2) :: tl (TT[i.toNat]).2) (L := TT.map fun p => (p.1, TR p.2) :: tl p.2) (List.mem_map.2 ⟨_, List.getElem_mem hiN, rfl⟩)
          rwa [← List.flatMap_def] at this)
    obtain ⟨uv, tv, G'', e1, e2, e3, e4⟩ := fin (is r) H3 H5 _ _ _ (min n 5) (fun _ e => e) o hR hN ⟨chainS_len _ _, hS.1, hS.2⟩ (by omega) (by omega)
    simp only [AV.agg.injEq, List.cons.injEq, and_true] at e1
    obtain ⟨rfl, rfl⟩ := e1
    simp only [↓WP, WQ, if_true, if_false, eq_self, implies_true, ne_eq, List.nil_append, List.cons_append, ↓reduceIte, Nat.reduceEqDiff, Nat.reduceBEq, reduceCtorEq, Nat.reduceAdd, resA, ret1, qv, lv, ev, boolA, binA, intA, shiftA, cmpA, beqA, lres, s0, s4, s5, idx2_sl i0 hi, hat, e2, e3]
    exact e4
  refine (Classical.em (v2 = 0)).elim (fun c0 => ?_) (fun c0 => ?_)
  · simp only [↓WP, WQ, if_true, if_false, eq_self, implies_true, ne_eq, List.nil_append, List.cons_append, ↓reduceIte, Nat.reduceEqDiff, Nat.reduceBEq, reduceCtorEq, Nat.reduceAdd, resA, ret1, qv, lv, ev, boolA, binA, intA, shiftA, cmpA, beqA, lres, c0]
    refine sumChain_c (n := n) (by omega) (by omega) fun v H4 hE hN => ?_
    obtain ⟨uv, tv, G'', rfl, e2, e3, e4⟩ := fin no H3 H4 v _ _ n (fun _ e => e.elim) o (hR.Ext hE) hN (by rw [Int.toNat_natCast]; exact sq_of (chainS_len _ _)) hN1 hNm
    simp only [↓WP, WQ, if_true, if_false, eq_self, implies_true, ne_eq, List.nil_append, List.cons_append, ↓reduceIte, Nat.reduceEqDiff, Nat.reduceBEq, reduceCtorEq, Nat.reduceAdd, resA, ret1, qv, lv, ev, boolA, binA, intA, shiftA, cmpA, beqA, lres, e2, e3]
    exact e4
  refine (Classical.em (v2 = 1)).elim (fun c1 => ?_) (fun c1 => ?_)
  · simp only [↓WP, WQ, if_true, if_false, eq_self, implies_true, ne_eq, List.nil_append, List.cons_append, ↓reduceIte, Nat.reduceEqDiff, Nat.reduceBEq, reduceCtorEq, Nat.reduceAdd, resA, ret1, qv, lv, ev, boolA, binA, intA, shiftA, cmpA, beqA, lres, c1, Int.reduceEq]
    refine chain_c (n := n) (by omega) (by omega) fun u H4 hu hE hrow => ?_
    simp only [↓WP, WQ, if_true, if_false, eq_self, implies_true, ne_eq, List.nil_append, List.cons_append, ↓reduceIte, Nat.reduceEqDiff, Nat.reduceBEq, reduceCtorEq, Nat.reduceAdd, resA, ret1, qv, lv, ev, boolA, binA, intA, shiftA, cmpA, beqA, lres]
    have hI : Ints H4 (.sl u 0 n) (chainS n n) := by
      have := li_ints (q := u) (l := chainS n n) (H := H4) (by simpa [LI] using hrow)
      rwa [chainS_len] at this
    rw [Int.toNat_natCast]
    refine meetAlgebra_c hI (rows62_chain hN1 (by omega)) (by rw [chainS_len]; omega) (by rw [chainS_len]; omega) fun v H5 hE2 hN => ?_
    have hN := hN.back (Y := no) (hE.fx) (fun _ e => e) (fun _ e => e.elim)
    obtain ⟨uv, tv, G'', rfl, e2, e3, e4⟩ := fin no H3 H5 v _ _ n (fun _ e => e.elim) o (hR.Ext (hE.trans hE2)) hN (by rw [chainS_len]; exact sq_of (chainS_len _ _)) hN1 hNm
    simp only [↓WP, WQ, if_true, if_false, eq_self, implies_true, ne_eq, List.nil_append, List.cons_append, ↓reduceIte, Nat.reduceEqDiff, Nat.reduceBEq, reduceCtorEq, Nat.reduceAdd, resA, ret1, qv, lv, ev, boolA, binA, intA, shiftA, cmpA, beqA, lres, e2, e3]
    exact e4
  refine (Classical.em (v2 = 2)).elim (fun c2 => ?_) (fun c2 => ?_)
  · refine (Classical.em (2 < (n : Int))).elim (fun h2 => ?_) (fun h2 => ?_) <;> simp only [↓WP, WQ, if_true, if_false, eq_self, implies_true, ne_eq, List.nil_append, List.cons_append, ↓reduceIte, Nat.reduceEqDiff, Nat.reduceBEq, reduceCtorEq, Nat.reduceAdd, resA, ret1, qv, lv, ev, boolA, binA, intA, shiftA, cmpA, beqA, lres, c2, Int.reduceEq, h2, mm_min, hmin]
    · have wn2 : IntKind.i64.wrap ((n : Int) - 2) = n - 2 := wrap_id (by omega) (by omega)
      simp only [wn2]
      refine pick_d hR3' (by omega) fun v3 H4 v30 v31 _ hR hF => ?_
      have hR := hR.mono (K' := K + 3) (by omega)
      have hv3 := v31 (by omega)
      obtain ⟨k, hk⟩ : ∃ k : Nat, 2 + v3 = k := ⟨(2 + v3).toNat, by omega⟩
      have wk : IntKind.i64.wrap (2 + v3) = k := by rw [wrap_id (by omega) (by omega), hk]
      obtain ⟨j, hj⟩ : ∃ j : Nat, (n : Int) - k + 1 = j := ⟨((n : Int) - k + 1).toNat, by omega⟩
      have wj1 : IntKind.i64.wrap ((n : Int) - k) = n - k := wrap_id (by omega) (by omega)
      have wj : IntKind.i64.wrap ((n : Int) - k + 1) = j := by rw [wrap_id (by omega) (by omega), hj]
      have o := o.fxs hF (fun _ e => e)
      simp only [↓WP, WQ, if_true, if_false, eq_self, implies_true, ne_eq, List.nil_append, List.cons_append, ↓reduceIte, Nat.reduceEqDiff, Nat.reduceBEq, reduceCtorEq, Nat.reduceAdd, resA, ret1, qv, lv, ev, boolA, binA, intA, shiftA, cmpA, beqA, lres, wk]
      refine sumChain_c (n := k) (by omega) (by omega) fun va H5 hE1 hNa => ?_
      simp only [↓WP, WQ, if_true, if_false, eq_self, implies_true, ne_eq, List.nil_append, List.cons_append, ↓reduceIte, Nat.reduceEqDiff, Nat.reduceBEq, reduceCtorEq, Nat.reduceAdd, resA, ret1, qv, lv, ev, boolA, binA, intA, shiftA, cmpA, beqA, lres, wj1, wj]
      refine sumChain_c (n := j) (by omega) (by omega) fun vb H6 hE2 hNb => ?_
      obtain ⟨ua, ta, rfl, hua, hta⟩ := (hNa.Ext hE2).open
      obtain ⟨ub, tb, rfl, hub, htb⟩ := hNb.open
      simp only [↓WP, WQ, if_true, if_false, eq_self, implies_true, ne_eq, List.nil_append, List.cons_append, ↓reduceIte, Nat.reduceEqDiff, Nat.reduceBEq, reduceCtorEq, Nat.reduceAdd, resA, ret1, qv, lv, ev, boolA, binA, intA, shiftA, cmpA, beqA, lres]
      refine stack_c (A := ⟨chainS k k, tab2 (sumT k) k k⟩) (B := ⟨chainS j j, tab2 (sumT j) j j⟩) (N := n) hua hta hub htb (sq_tab2 (chainS_len _ _)) (sq_tab2 (chainS_len _ _)) (rows62_chain (by omega) (by omega)) (rows62_chain (by omega) (by omega)) (by simp only [chainS_len]; omega) (by simp only [chainS_len]; omega) (by simp only [chainS_len]; omega) (by omega) fun v H7 hE3 hN => ?_
      have hN := hN.back (Y := no) ((hE1.trans hE2).fx) (fun _ e => e) (fun _ e => e.elim)
      obtain ⟨uv, tv, G'', rfl, e2, e3, e4⟩ := fin no H4 H7 v _ _ n (fun _ e => e.elim) o (((hR.Ext hE1).Ext hE2).Ext hE3) hN (sq_of (tab_len _ _)) hN1 hNm
      simp only [↓WP, WQ, if_true, if_false, eq_self, implies_true, ne_eq, List.nil_append, List.cons_append, ↓reduceIte, Nat.reduceEqDiff, Nat.reduceBEq, reduceCtorEq, Nat.reduceAdd, resA, ret1, qv, lv, ev, boolA, binA, intA, shiftA, cmpA, beqA, lres, e2, e3]
      exact e4
    · refine last _ ?_ ?_ ?_ <;> simp only [↓WP, WQ, if_true, if_false, eq_self, implies_true, ne_eq, List.nil_append, List.cons_append, ↓reduceIte, Nat.reduceEqDiff, Nat.reduceBEq, reduceCtorEq, Nat.reduceAdd, resA, ret1, qv, lv, ev, boolA, binA, intA, shiftA, cmpA, beqA, lres]
  refine (Classical.em (v2 = 3)).elim (fun c3 => ?_) (fun c3 => ?_)
  · refine (Classical.em (4 ≤ (most : Int))).elim (fun h4 => ?_) (fun h4 => ?_) <;> simp only [↓WP, WQ, if_true, if_false, eq_self, implies_true, ne_eq, List.nil_append, List.cons_append, ↓reduceIte, Nat.reduceEqDiff, Nat.reduceBEq, reduceCtorEq, Nat.reduceAdd, resA, ret1, qv, lv, ev, boolA, binA, intA, shiftA, cmpA, beqA, lres, c3, Int.reduceEq, h4, mm_min, hmin]
    · refine chain_c (n := (2 : Nat)) (by omega) (by omega) fun u1 H4 hu1 hE1 hrow1 => ?_
      have d1 : ((most : Int)).tdiv 2 = ((most / 2 : Nat) : Int) := by rw [Int.tdiv_eq_ediv_of_nonneg (by omega)]; omega
      have wd : IntKind.i64.wrap ((most / 2 : Nat) : Int) = ((most / 2 : Nat) : Int) := wrap_id (by omega) (by omega)
      have wd2 : IntKind.i64.wrap (((most / 2 : Nat) : Int) - 1) = ((most / 2 : Nat) : Int) - 1 := wrap_id (by omega) (by omega)
      simp only [↓WP, WQ, if_true, if_false, eq_self, implies_true, ne_eq, List.nil_append, List.cons_append, ↓reduceIte, Nat.reduceEqDiff, Nat.reduceBEq, reduceCtorEq, Nat.reduceAdd, resA, ret1, qv, lv, ev, boolA, binA, intA, shiftA, cmpA, beqA, lres, d1, wd, wd2, mm_min]
      refine ⟨by omega, pick_d (hR3'.Ext hE1) (by omega) fun v3 H5 v30 v31 _ hR hF => ?_⟩
      have hR := hR.mono (K' := K + 3) (by omega)
      have hv3 := v31 (by omega)
      obtain ⟨k, hk⟩ : ∃ k : Nat, 2 + v3 = k := ⟨(2 + v3).toNat, by omega⟩
      have wk : IntKind.i64.wrap (2 + v3) = k := by rw [wrap_id (by omega) (by omega), hk]
      simp only [↓WP, WQ, if_true, if_false, eq_self, implies_true, ne_eq, List.nil_append, List.cons_append, ↓reduceIte, Nat.reduceEqDiff, Nat.reduceBEq, reduceCtorEq, Nat.reduceAdd, resA, ret1, qv, lv, ev, boolA, binA, intA, shiftA, cmpA, beqA, lres, wk]
      refine chain_c (n := k) (by omega) (by omega) fun u2 H6 hu2 hE2 hrow2 => ?_
      have o := o.fxs (Y := is r) (hE1.fx.trans hF (fun _ e => e)) (fun _ e => e)
      have o1 : Own no H3 H4 [(u1, LI (chainS (2 : Nat) 2))] := by
        refine ⟨hE1.fx, fun _ h => h.elim, by simp, ?_, ?_⟩
        · simp only [List.mem_singleton, forall_eq]; exact hrow1
        · simp [hu1]
      have o1 := ((o1.back (Y := is r) (FX.refl _ _) (fun _ e => e.elim) hR3.ex).fxs hF (fun _ e => e)).Ext hE2
      have hI1 := li_ints (o1.get (i := 0) rfl)
      have hI2 : Ints H6 (.sl u2 0 k) (chainS k k) := by
        have := li_ints (q := u2) (l := chainS k k) (H := H6) (by simpa [LI] using hrow2)
        rwa [chainS_len] at this
      rw [chainS_len] at hI1
      simp only [↓WP, WQ, if_true, if_false, eq_self, implies_true, ne_eq, List.nil_append, List.cons_append, ↓reduceIte, Nat.reduceEqDiff, Nat.reduceBEq, reduceCtorEq, Nat.reduceAdd, resA, ret1, qv, lv, ev, boolA, binA, intA, shiftA, cmpA, beqA, lres, Int.toNat_natCast]
      have hl2 : (chainS ((2 : Nat) : Int) 2).length = 2 := chainS_len _ _
      have hlk : (chainS (k : Int) k).length = k := chainS_len _ _
      have hlc : (crossF (chainS (2 : Nat) 2) (chainS k k)).length = 2 * k := by unfold crossF; rw [tab_len, hl2, hlk]
      refine cross_c hI1 hI2 (rows62_chain (by omega) (by omega)) (rows62_chain (by omega) (by omega)) (by omega) (by omega) (by omega) (by omega) (by rw [hl2, hlk]; omega) fun u3 H7 o3 => ?_
      have hI3 := li_ints (o3.get (i := 0) rfl)
      rw [hlc] at hI3
      rw [hl2, hlk]
      simp only [↓WP, WQ, if_true, if_false, eq_self, implies_true, ne_eq, List.nil_append, List.cons_append, ↓reduceIte, Nat.reduceEqDiff, Nat.reduceBEq, reduceCtorEq, Nat.reduceAdd, resA, ret1, qv, lv, ev, boolA, binA, intA, shiftA, cmpA, beqA, lres]
      refine meetAlgebra_c hI3 (rows62_cross _ _ (by rw [hl2, hlk]; omega)) (by rw [hlc]; omega) (by rw [hlc]; omega) fun v H8 hE4 hN => ?_
      have hN := hN.back (Y := no) ((hE2.trans o3.ext').fx) (fun _ e => e) (fun _ e => e.elim)
      rw [hlc] at hN
      obtain ⟨uv, tv, G'', rfl, e2, e3, e4⟩ := fin no H5 H8 v _ _ (2 * k) (fun _ e => e.elim) o (((hR.Ext hE2).Ext o3.ext').Ext hE4) hN (sq_of hlc) (by omega) (by omega)
      simp only [↓WP, WQ, if_true, if_false, eq_self, implies_true, ne_eq, List.nil_append, List.cons_append, ↓reduceIte, Nat.reduceEqDiff, Nat.reduceBEq, reduceCtorEq, Nat.reduceAdd, resA, ret1, qv, lv, ev, boolA, binA, intA, shiftA, cmpA, beqA, lres, e2, e3]
      exact e4
    · refine last _ ?_ ?_ ?_ <;> simp only [↓WP, WQ, if_true, if_false, eq_self, implies_true, ne_eq, List.nil_append, List.cons_append, ↓reduceIte, Nat.reduceEqDiff, Nat.reduceBEq, reduceCtorEq, Nat.reduceAdd, resA, ret1, qv, lv, ev, boolA, binA, intA, shiftA, cmpA, beqA, lres]
  · simp only [↓WP, WQ, if_true, if_false, eq_self, implies_true, ne_eq, List.nil_append, List.cons_append, ↓reduceIte, Nat.reduceEqDiff, Nat.reduceBEq, reduceCtorEq, Nat.reduceAdd, resA, ret1, qv, lv, ev, boolA, binA, intA, shiftA, cmpA, beqA, lres, c0, c1, c2, c3, mm_min, hmin]
    refine last _ ?_ ?_ ?_ <;> simp only [↓WP, WQ, if_true, if_false, eq_self, implies_true, ne_eq, List.nil_append, List.cons_append, ↓reduceIte, Nat.reduceEqDiff, Nat.reduceBEq, reduceCtorEq, Nat.reduceAdd, resA, ret1, qv, lv, ev, boolA, binA, intA, shiftA, cmpA, beqA, lres]
end Go.AL

/-
  Pairs and stacks of algebras, of the reference; good algebras.
-/
namespace Go.AL
open Go.Proofs
set_option linter.unusedSimpArgs false
set_option linter.unusedVariables false
variable {w0 : World} {H : Hp}

/-- Products of pairs. -/
def crossT (A B : Alg) (p q : Int) : Int := A.tm (p / B.up.length) (q / B.up.length) * B.up.length + B.tm (p % B.up.length) (q % B.up.length)

theorem IsAlg.rows62 {A : Alg} (h : IsAlg A) : Rows62 A.up := rows62_of h.hi h.rng

theorem CrossAlgebras_c {ua ta ub tb : AV} {A B : Alg} (ha : Ints H ua A.up) (hta : Mat H ta A.times) (hb : Ints H ub B.up) (htb : Mat H tb B.times) (hSA : Small A) (hSB : Small B) (ha9 : A.up.length ≤ 1000000) (hb9 : B.up.length ≤ 1000000) {Q : AV → Hp → Prop}
    (hy : IsAlg A → IsAlg B → A.up.length * B.up.length ≤ 6 → ∀ v H', Ext H H' → NA no H H' v (crossF A.up B.up) (tab2 (crossT A B) (A.up.length * B.up.length) (A.up.length * B.up.length)) → Q (.tup [v, .bool true]) H')
    (hn : ¬ (IsAlg A ∧ IsAlg B ∧ A.up.length * B.up.length ≤ 6) → ∀ H', Ext H H' → Q (.tup [.agg [.nils, .nils], .bool false]) H') :
    ACalls Try.prog w0 165 [.agg [ua, ta], .agg [ub, tb]] H Q := by
  refine in165 ?_
  simp only [c165, ↓WP, WQ, if_true, if_false, eq_self, implies_true, ne_eq, List.nil_append, List.cons_append, ↓reduceIte, Nat.reduceEqDiff, Nat.reduceBEq, reduceCtorEq, Nat.reduceAdd, resA, ret1, qv, lv, ev, boolA, binA, intA, shiftA, cmpA, beqA, lres, cells_alg ha.len hta.len]
  refine NewRowd_in fun b2 hb2 => ?_
  have o := Own.nil0.push (x := ⟨36, true, [ua, ta]⟩) hb2
  generalize H.set b2 ⟨36, true, [ua, ta]⟩ = G at *
  simp only [↓WP, WQ, if_true, if_false, eq_self, implies_true, ne_eq, List.nil_append, List.cons_append, ↓reduceIte, Nat.reduceEqDiff, Nat.reduceBEq, reduceCtorEq, Nat.reduceAdd, resA, ret1, qv, lv, ev, boolA, binA, intA, shiftA, cmpA, beqA, lres, cells_alg hb.len htb.len]
  refine NewRowd_in fun b3 hb3 => ?_
  have o := o.push (x := ⟨36, true, [ub, tb]⟩) hb3
  generalize G.set b3 ⟨36, true, [ub, tb]⟩ = G at *
  simp only [↓WP, WQ, if_true, if_false, eq_self, implies_true, ne_eq, List.nil_append, List.cons_append, ↓reduceIte, Nat.reduceEqDiff, Nat.reduceBEq, reduceCtorEq, Nat.reduceAdd, resA, ret1, qv, lv, ev, boolA, binA, intA, shiftA, cmpA, beqA, lres]
  refine NewRowd_in fun b4 hb4 => ?_
  have o := o.push (x := ⟨36, true, [.nils, .nils]⟩) hb4
  generalize G.set b4 ⟨36, true, [.nils, .nils]⟩ = G at *
  have g2 := o.get (i := 2) rfl
  have g3 := o.get (i := 1) rfl
  have g4 := o.get (i := 0) rfl
  have hE := o.ext'
  have bad : Ext H (G.set b4 ⟨36, true, [.nils, .nils]⟩) := (o.upd (i := 0) rfl).ext'
  have bad2 : (G.set b4 ⟨36, true, [.nils, .nils]⟩).atN (.ptr b4 0) 2 = some [.nils, .nils] := atN_two (Hp.set_same _ _ _)
  simp only [↓WP, WQ, if_true, if_false, eq_self, implies_true, ne_eq, List.nil_append, List.cons_append, ↓reduceIte, Nat.reduceEqDiff, Nat.reduceBEq, reduceCtorEq, Nat.reduceAdd, resA, ret1, qv, lv, ev, boolA, binA, intA, shiftA, cmpA, beqA, lres, atN_two g2]
  refine svalidAlgebra_c (ha.ext hE) (hta.ext hE) hSA (fun hA => ?_) (fun hA => ?_)
  rotate_left
  · simp only [↓WP, WQ, if_true, if_false, eq_self, implies_true, ne_eq, List.nil_append, List.cons_append, ↓reduceIte, Nat.reduceEqDiff, Nat.reduceBEq, reduceCtorEq, Nat.reduceAdd, resA, ret1, qv, lv, ev, boolA, binA, intA, shiftA, cmpA, beqA, lres, fillA, stA_two (x := .nils) (y := .nils) g4 rfl rfl, bad2]
    exact hn (fun h => hA h.1) _ bad
  simp only [↓WP, WQ, if_true, if_false, eq_self, implies_true, ne_eq, List.nil_append, List.cons_append, ↓reduceIte, Nat.reduceEqDiff, Nat.reduceBEq, reduceCtorEq, Nat.reduceAdd, resA, ret1, qv, lv, ev, boolA, binA, intA, shiftA, cmpA, beqA, lres, atN_two g3]
  refine svalidAlgebra_c (hb.ext hE) (htb.ext hE) hSB (fun hB => ?_) (fun hB => ?_)
  rotate_left
  · simp only [↓WP, WQ, if_true, if_false, eq_self, implies_true, ne_eq, List.nil_append, List.cons_append, ↓reduceIte, Nat.reduceEqDiff, Nat.reduceBEq, reduceCtorEq, Nat.reduceAdd, resA, ret1, qv, lv, ev, boolA, binA, intA, shiftA, cmpA, beqA, lres, fillA, stA_two (x := .nils) (y := .nils) g4 rfl rfl, bad2]
    exact hn (fun h => hB h.2.1) _ bad
  have hmul : (A.up.length : Int) * B.up.length = ((A.up.length * B.up.length : Nat) : Int) := by simp
  have hA6 := hA.hi
  have hA1 := hA.lo
  have hB6 := hB.hi
  have hB1 := hB.lo
  have h36 : A.up.length * B.up.length ≤ 6 * 6 := Nat.mul_le_mul hA6 hB6
  have hwm : IntKind.i64.wrap ((A.up.length : Int) * B.up.length) = ((A.up.length * B.up.length : Nat) : Int) := by rw [hmul]; exact wrap_id (by omega) (by omega)
  have hpos : 1 ≤ A.up.length * B.up.length := Nat.mul_pos hA1 hB1
  generalize hN : A.up.length * B.up.length = N at *
  refine (Classical.em (6 < (N : Int))).elim (fun h6 => ?_) (fun h6 => ?_)
  · simp only [↓WP, WQ, if_true, if_false, eq_self, implies_true, ne_eq, List.nil_append, List.cons_append, ↓reduceIte, Nat.reduceEqDiff, Nat.reduceBEq, reduceCtorEq, Nat.reduceAdd, resA, ret1, qv, lv, ev, boolA, binA, intA, shiftA, cmpA, beqA, lres, at_fst g2, at_fst g3, ha.len, hb.len, hwm, h6, fillA, stA_two (x := .nils) (y := .nils) g4 rfl rfl, bad2]
    exact hn (fun h => by omega) _ bad
  have hN6 : N ≤ 6 := by omega
  simp only [↓WP, WQ, if_true, if_false, eq_self, implies_true, ne_eq, List.nil_append, List.cons_append, ↓reduceIte, Nat.reduceEqDiff, Nat.reduceBEq, reduceCtorEq, Nat.reduceAdd, resA, ret1, qv, lv, ev, boolA, binA, intA, shiftA, cmpA, beqA, lres, at_fst g2, at_fst g3, ha.len, hb.len, hwm, h6]
  refine cross_c (ha.ext hE) (hb.ext hE) hA.rows62 hB.rows62 hA1 hB1 (by omega) (by omega) (by omega) fun u G1 o1 => ?_
  have o := o.call o1 (fun _ e => e)
  rw [hN]
  simp only [↓WP, WQ, if_true, if_false, eq_self, implies_true, ne_eq, List.nil_append, List.cons_append, ↓reduceIte, Nat.reduceEqDiff, Nat.reduceBEq, reduceCtorEq, Nat.reduceAdd, resA, ret1, qv, lv, ev, boolA, binA, intA, shiftA, cmpA, beqA, lres, fillA_a (v := .sl u 0 N) rfl]
  refine NewRowd_in fun b6 hb6 => ?_
  have hS : (G1.set b6 ⟨36, true, [.nils, .nils]⟩) b6 = some ⟨36, true, [.nils, .nils]⟩ := Hp.set_same _ _ _
  simp only [↓WP, WQ, if_true, if_false, eq_self, implies_true, ne_eq, List.nil_append, List.cons_append, ↓reduceIte, Nat.reduceEqDiff, Nat.reduceBEq, reduceCtorEq, Nat.reduceAdd, resA, ret1, qv, lv, ev, boolA, binA, intA, shiftA, cmpA, beqA, lres, stA_two (x := .sl u 0 N) (y := .nils) hS rfl rfl, Hp.set_set]
  have o := o.push (x := ⟨36, true, [.sl u 0 N, .nils]⟩) hb6
  generalize (G1.set b6 ⟨36, true, [.sl u 0 N, .nils]⟩) = G2 at *
  have g3' := o.get (i := 3) rfl
  simp only [↓WP, WQ, if_true, if_false, eq_self, implies_true, ne_eq, List.nil_append, List.cons_append, ↓reduceIte, Nat.reduceEqDiff, Nat.reduceBEq, reduceCtorEq, Nat.reduceAdd, resA, ret1, qv, lv, ev, boolA, binA, intA, shiftA, cmpA, beqA, lres, at_fst g3', hb.len]
  have hTA : Tab H ta A := ⟨hta, hA.toSquare⟩
  have hTB : Tab H tb B := ⟨htb, hB.toSquare⟩
  have hUl : (crossF A.up B.up).length = N := by unfold crossF; rw [tab_len, hN]
  have hNi : (N : Int) = A.up.length * B.up.length := by rw [← hN]; simp
  generalize hU : crossF A.up B.up = U at *
  refine W_for 0 N (fun x e H' => ∃ tv t, TVp tv t ∧ Sl e [(2, .ptr b2 0), (3, .ptr b3 0), (4, .ptr b4 0), (6, .ptr b6 0), (7, .int .i64 B.up.length), (8, .int .i64 x)] ∧ t.map Prod.snd = tab2 (crossT A B) N x.toNat ∧
    Own no H H' (LT tv t ++ ([(b6, ⟨36, true, [.sl u 0 N, tv]⟩), (u, LI U), (b4, ⟨36, true, [.nils, .nils]⟩), (b3, ⟨36, true, [ub, tb]⟩), (b2, ⟨36, true, [ua, ta]⟩)] ++ tl t))) (by omega)
    ⟨.nils, [], Or.inl ⟨rfl, rfl⟩, by simp only [↓WP, WQ, if_true, if_false, eq_self, implies_true, ne_eq, List.nil_append, List.cons_append, ↓reduceIte, Nat.reduceEqDiff, Nat.reduceBEq, reduceCtorEq, Nat.reduceAdd, resA, ret1, qv, lv, ev, boolA, binA, intA, shiftA, cmpA, beqA, lres], rfl, o⟩ ?_
  rintro x e G hx0 hx1 ⟨tv, t, hv, hs, ht, o⟩
  simp only [Sl_cons, Sl_nil, and_true] at hs
  have hw : IntKind.i64.wrap (x + 1) = x + 1 := wrap_id (by omega) (by omega)
  have htl : t.length = x.toNat := by rw [← List.length_map (f := Prod.snd), ht, tab2_len]
  have g6 : G b6 = some ⟨36, true, [.sl u 0 N, tv]⟩ := o.has (b6, ⟨36, true, [.sl u 0 N, tv]⟩) (by simp)
  have hb0 : ¬ (B.up.length : Int) = 0 := by omega
  refine (Classical.em (x < N)).elim (fun hx => ?_) (fun hx => ?_) <;> simp only [↓WP, WQ, if_true, if_false, eq_self, implies_true, ne_eq, List.nil_append, List.cons_append, ↓reduceIte, Nat.reduceEqDiff, Nat.reduceBEq, reduceCtorEq, Nat.reduceAdd, resA, ret1, qv, lv, ev, boolA, binA, intA, shiftA, cmpA, beqA, lres, hs, at_fst g6, hx]
  · simp only [↓WP, WQ, if_true, if_false, eq_self, implies_true, ne_eq, List.nil_append, List.cons_append, ↓reduceIte, Nat.reduceEqDiff, Nat.reduceBEq, reduceCtorEq, Nat.reduceAdd, resA, ret1, qv, lv, ev, boolA, binA, intA, shiftA, cmpA, beqA, lres, bsl0]
    refine NewRowd_in fun r0 hr0 => ?_
    simp only [↓WP, WQ, if_true, if_false, eq_self, implies_true, ne_eq, List.nil_append, List.cons_append, ↓reduceIte, Nat.reduceEqDiff, Nat.reduceBEq, reduceCtorEq, Nat.reduceAdd, resA, ret1, qv, lv, ev, boolA, binA, intA, shiftA, cmpA, beqA, lres, hs]
    have o := o.push (x := LI []) hr0
    refine W_for 0 N (fun y e G => ∃ r, Sl e [(2, .ptr b2 0), (3, .ptr b3 0), (4, .ptr b4 0), (6, .ptr b6 0), (7, .int .i64 B.up.length), (8, .int .i64 x), (9, .sl r 0 y.toNat), (10, .int .i64 y)] ∧
      Own no H G ((r, LI (tab (crossT A B x) y.toNat)) :: (LT tv t ++ ([(b6, ⟨36, true, [.sl u 0 N, tv]⟩), (u, LI U), (b4, ⟨36, true, [.nils, .nils]⟩), (b3, ⟨36, true, [ub, tb]⟩), (b2, ⟨36, true, [ua, ta]⟩)] ++ tl t)))) (by omega)
      ⟨r0, by simp only [↓WP, WQ, if_true, if_false, eq_self, implies_true, ne_eq, List.nil_append, List.cons_append, ↓reduceIte, Nat.reduceEqDiff, Nat.reduceBEq, reduceCtorEq, Nat.reduceAdd, resA, ret1, qv, lv, ev, boolA, binA, intA, shiftA, cmpA, beqA, lres, hs]; rfl, o⟩ ?_
    rintro y e G hy0 hy1 ⟨r, hs, o⟩
    simp only [Sl_cons, Sl_nil, and_true] at hs
    have hwy : IntKind.i64.wrap (y + 1) = y + 1 := wrap_id (by omega) (by omega)
    have g6 : G b6 = some ⟨36, true, [.sl u 0 N, tv]⟩ := o.has (b6, ⟨36, true, [.sl u 0 N, tv]⟩) (by simp)
    have g2 : G b2 = some ⟨36, true, [ua, ta]⟩ := o.has (b2, ⟨36, true, [ua, ta]⟩) (by simp)
    have g3 : G b3 = some ⟨36, true, [ub, tb]⟩ := o.has (b3, ⟨36, true, [ub, tb]⟩) (by simp)
    refine (Classical.em (y < N)).elim (fun hy => ?_) (fun hy => ?_) <;> simp only [↓WP, WQ, if_true, if_false, eq_self, implies_true, ne_eq, List.nil_append, List.cons_append, ↓reduceIte, Nat.reduceEqDiff, Nat.reduceBEq, reduceCtorEq, Nat.reduceAdd, resA, ret1, qv, lv, ev, boolA, binA, intA, shiftA, cmpA, beqA, lres, hs, at_fst g6, hy]
    · refine DR_in (fun _ => False) rfl ?_
      have hTA := hTA.ext o.ext'
      have hTB := hTB.ext o.ext'
      have e1 : x.tdiv B.up.length = x / B.up.length := Int.tdiv_eq_ediv_of_nonneg hx0
      have e2 : y.tdiv B.up.length = y / B.up.length := Int.tdiv_eq_ediv_of_nonneg hy0
      have e3 : x.tmod B.up.length = x % B.up.length := Int.tmod_eq_emod_of_nonneg hx0
      have e4 : y.tmod B.up.length = y % B.up.length := Int.tmod_eq_emod_of_nonneg hy0
      have i0 : 0 ≤ x / B.up.length := Int.ediv_nonneg hx0 (by omega)
      have i1 : x / B.up.length < A.up.length := Int.ediv_lt_of_lt_mul (by omega) (by rw [← hNi]; exact hx)
      have j0 : 0 ≤ y / B.up.length := Int.ediv_nonneg hy0 (by omega)
      have j1 : y / B.up.length < A.up.length := Int.ediv_lt_of_lt_mul (by omega) (by rw [← hNi]; exact hy)
      have k0 := Int.emod_nonneg x hb0
      have k1 := Int.emod_lt_of_pos x (show (0 : Int) < B.up.length by omega)
      have l0 := Int.emod_nonneg y hb0
      have l1 := Int.emod_lt_of_pos y (show (0 : Int) < B.up.length by omega)
      have w1 : IntKind.i64.wrap (x / B.up.length) = x / B.up.length := wrap_id (by omega) (by omega)
      have w2 : IntKind.i64.wrap (y / B.up.length) = y / B.up.length := wrap_id (by omega) (by omega)
      have ra := hA.rng2 _ _ i0 i1 j0 j1
      have rb := hB.rng2 _ _ k0 k1 l0 l1
      have m1 : A.tm (x / B.up.length) (y / B.up.length) * B.up.length ≤ 6 * 6 := Int.mul_le_mul (by omega) (by omega) (by omega) (by omega)
      have m0 : 0 ≤ A.tm (x / B.up.length) (y / B.up.length) * B.up.length := Int.mul_nonneg ra.1 (by omega)
      have w3 : IntKind.i64.wrap (A.tm (x / B.up.length) (y / B.up.length) * B.up.length) = A.tm (x / B.up.length) (y / B.up.length) * B.up.length := wrap_id (by omega) (by omega)
      have w4 : IntKind.i64.wrap (A.tm (x / B.up.length) (y / B.up.length) * B.up.length + B.tm (x % B.up.length) (y % B.up.length)) = crossT A B x y := wrap_id (by omega) (by omega)
      simp only [↓WP, WQ, if_true, if_false, eq_self, implies_true, ne_eq, List.nil_append, List.cons_append, ↓reduceIte, Nat.reduceEqDiff, Nat.reduceBEq, reduceCtorEq, Nat.reduceAdd, resA, ret1, qv, lv, ev, boolA, binA, intA, shiftA, cmpA, beqA, lres, hs, at_snd g2, at_snd g3, e1, e2, e3, e4, hb0, w1, w2, hTA.idx i0 i1, hTA.at i0 i1, hTA.idx2 i0 i1 j0 j1, hTA.at2 i0 i1 j0 j1, hTB.idx k0 k1, hTB.at k0 k1, hTB.idx2 k0 k1 l0 l1, hTB.at2 k0 k1 l0 l1, w3, w4, bsl1]
      refine NewRowd_in fun r2 hr2 => ?_
      simp only [↓WP, WQ, if_true, if_false, eq_self, implies_true, ne_eq, List.nil_append, List.cons_append, ↓reduceIte, Nat.reduceEqDiff, Nat.reduceBEq, reduceCtorEq, Nat.reduceAdd, resA, ret1, qv, lv, ev, boolA, binA, intA, shiftA, cmpA, beqA, lres, ↓WDL_app, hs]
      refine o.app_num (i := 0) rfl hr2 (by rw [tab_len]) (by rw [tab_len]; omega) fun r' G' o => ?_
      have hy' : (y + 1).toNat = y.toNat + 1 := by omega
      refine ⟨fun _ e => e.elim, ?_⟩
      simp only [↓WP, WQ, if_true, if_false, eq_self, implies_true, ne_eq, List.nil_append, List.cons_append, ↓reduceIte, Nat.reduceEqDiff, Nat.reduceBEq, reduceCtorEq, Nat.reduceAdd, resA, ret1, qv, lv, ev, boolA, binA, intA, shiftA, cmpA, beqA, lres, hs, hwy, hy, hy']
      refine ⟨r', rfl, ?_⟩
      rw [tab_succ, Int.toNat_of_nonneg hy0]
      exact o
    · have hye : y.toNat = N := by omega
      simp only [↓WP, WQ, if_true, if_false, eq_self, implies_true, ne_eq, List.nil_append, List.cons_append, ↓reduceIte, Nat.reduceEqDiff, Nat.reduceBEq, reduceCtorEq, Nat.reduceAdd, resA, ret1, qv, lv, ev, boolA, binA, intA, shiftA, cmpA, beqA, lres, hs, at_snd g6, bslv (z := .nils) (x := .sl r 0 y.toNat) rfl]
      refine NewRowd_in fun r2 hr2 => ?_
      simp only [↓WP, WQ, if_true, if_false, eq_self, implies_true, ne_eq, List.nil_append, List.cons_append, ↓reduceIte, Nat.reduceEqDiff, Nat.reduceBEq, reduceCtorEq, Nat.reduceAdd, resA, ret1, qv, lv, ev, boolA, binA, intA, shiftA, cmpA, beqA, lres, hs]
      refine o.app_tab hv hr2 (by rw [tab_len]) (by omega) fun r' G' o => ?_
      have g6 := o.get (i := 1) rfl
      simp only [↓WP, WQ, if_true, if_false, eq_self, implies_true, ne_eq, List.nil_append, List.cons_append, ↓reduceIte, Nat.reduceEqDiff, Nat.reduceBEq, reduceCtorEq, Nat.reduceAdd, resA, ret1, qv, lv, ev, boolA, binA, intA, shiftA, cmpA, beqA, lres, hs, stA_snd (y := .sl r' 0 (t.length + 1)) g6 rfl, hw, hx]
      have o := o.upd (i := 1) (y := ⟨36, true, [.sl u 0 N, .sl r' 0 (t.length + 1)]⟩) rfl
      have hx' : (x + 1).toNat = x.toNat + 1 := by omega
      refine ⟨.sl r' 0 (t.length + 1), t ++ [(r, tab (crossT A B x) y.toNat)], Or.inr ⟨r', by simp⟩, ?_, o⟩
      rw [hx', tab2_succ, List.map_append, ht, Int.toNat_of_nonneg hx0, hye]; rfl
  · have hxe : x.toNat = N := by omega
    rcases hv with ⟨rfl, rfl⟩ | ⟨q, rfl⟩
    · simp at htl; omega
    simp only [LT, List.cons_append, List.nil_append] at o
    have g4 := o.get (i := 3) rfl
    simp only [↓WP, WQ, if_true, if_false, eq_self, implies_true, ne_eq, List.nil_append, List.cons_append, ↓reduceIte, Nat.reduceEqDiff, Nat.reduceBEq, reduceCtorEq, Nat.reduceAdd, resA, ret1, qv, lv, ev, boolA, binA, intA, shiftA, cmpA, beqA, lres, hs, atN_two g6, stA_two (x := .sl u 0 N) (y := .sl q 0 t.length) g4 rfl rfl]
    have o := o.upd (i := 3) (y := ⟨36, true, [.sl u 0 N, .sl q 0 t.length]⟩) rfl
    have g4 := o.get (i := 3) rfl
    simp only [↓WP, WQ, if_true, if_false, eq_self, implies_true, ne_eq, List.nil_append, List.cons_append, ↓reduceIte, Nat.reduceEqDiff, Nat.reduceBEq, reduceCtorEq, Nat.reduceAdd, resA, ret1, qv, lv, ev, boolA, binA, intA, shiftA, cmpA, beqA, lres, atN_two g4]
    refine hy hA hB hN6 _ _ o.ext' ⟨u, q, t, by rw [hUl], by rw [ht, hxe], ?_⟩
    have o := o.sub (M := (q, TR t) :: (u, LI U) :: tl t) (.cons_cons _ (.cons _ (.cons_cons _ (.cons _ (.cons _ (.cons _ (.refl _)))))))
    exact o.perm (List.Perm.swap _ _ _)

theorem StackAlgebras_c {ua ta ub tb : AV} {A B : Alg} (ha : Ints H ua A.up) (hta : Mat H ta A.times) (hb : Ints H ub B.up) (htb : Mat H tb B.times) (hSA : Small A) (hSB : Small B) {Q : AV → Hp → Prop}
    (hy : IsAlg A → IsAlg B → ∀ N : Nat, N + 1 = A.up.length + B.up.length → N ≤ 6 → ∀ v H', Ext H H' → NA no H H' v (stackU A B (A.up.length - 1) N) (tab2 (stackT A B (A.up.length - 1)) N N) → Q (.tup [v, .bool true]) H')
    (hn : ¬ (IsAlg A ∧ IsAlg B ∧ A.up.length + B.up.length ≤ 7) → ∀ H', Ext H H' → Q (.tup [.agg [.nils, .nils], .bool false]) H') :
    ACalls Try.prog w0 166 [.agg [ua, ta], .agg [ub, tb]] H Q := by
  refine in166 ?_
  simp only [c166, ↓WP, WQ, if_true, if_false, eq_self, implies_true, ne_eq, List.nil_append, List.cons_append, ↓reduceIte, Nat.reduceEqDiff, Nat.reduceBEq, reduceCtorEq, Nat.reduceAdd, resA, ret1, qv, lv, ev, boolA, binA, intA, shiftA, cmpA, beqA, lres, cells_alg ha.len hta.len]
  refine NewRowd_in fun b2 hb2 => ?_
  have o := Own.nil0.push (x := ⟨36, true, [ua, ta]⟩) hb2
  generalize H.set b2 ⟨36, true, [ua, ta]⟩ = G at *
  simp only [↓WP, WQ, if_true, if_false, eq_self, implies_true, ne_eq, List.nil_append, List.cons_append, ↓reduceIte, Nat.reduceEqDiff, Nat.reduceBEq, reduceCtorEq, Nat.reduceAdd, resA, ret1, qv, lv, ev, boolA, binA, intA, shiftA, cmpA, beqA, lres, cells_alg hb.len htb.len]
  refine NewRowd_in fun b3 hb3 => ?_
  have o := o.push (x := ⟨36, true, [ub, tb]⟩) hb3
  generalize G.set b3 ⟨36, true, [ub, tb]⟩ = G at *
  simp only [↓WP, WQ, if_true, if_false, eq_self, implies_true, ne_eq, List.nil_append, List.cons_append, ↓reduceIte, Nat.reduceEqDiff, Nat.reduceBEq, reduceCtorEq, Nat.reduceAdd, resA, ret1, qv, lv, ev, boolA, binA, intA, shiftA, cmpA, beqA, lres]
  refine NewRowd_in fun b4 hb4 => ?_
  have o := o.push (x := ⟨36, true, [.nils, .nils]⟩) hb4
  generalize G.set b4 ⟨36, true, [.nils, .nils]⟩ = G at *
  have g2 := o.get (i := 2) rfl
  have g3 := o.get (i := 1) rfl
  have g4 := o.get (i := 0) rfl
  have hE := o.ext'
  have bad : Ext H (G.set b4 ⟨36, true, [.nils, .nils]⟩) := (o.upd (i := 0) rfl).ext'
  have bad2 : (G.set b4 ⟨36, true, [.nils, .nils]⟩).atN (.ptr b4 0) 2 = some [.nils, .nils] := atN_two (Hp.set_same _ _ _)
  simp only [↓WP, WQ, if_true, if_false, eq_self, implies_true, ne_eq, List.nil_append, List.cons_append, ↓reduceIte, Nat.reduceEqDiff, Nat.reduceBEq, reduceCtorEq, Nat.reduceAdd, resA, ret1, qv, lv, ev, boolA, binA, intA, shiftA, cmpA, beqA, lres, atN_two g2]
  refine svalidAlgebra_c (ha.ext hE) (hta.ext hE) hSA (fun hA => ?_) (fun hA => ?_)
  rotate_left
  · simp only [↓WP, WQ, if_true, if_false, eq_self, implies_true, ne_eq, List.nil_append, List.cons_append, ↓reduceIte, Nat.reduceEqDiff, Nat.reduceBEq, reduceCtorEq, Nat.reduceAdd, resA, ret1, qv, lv, ev, boolA, binA, intA, shiftA, cmpA, beqA, lres, fillA, stA_two (x := .nils) (y := .nils) g4 rfl rfl, bad2]
    exact hn (fun h => hA h.1) _ bad
  simp only [↓WP, WQ, if_true, if_false, eq_self, implies_true, ne_eq, List.nil_append, List.cons_append, ↓reduceIte, Nat.reduceEqDiff, Nat.reduceBEq, reduceCtorEq, Nat.reduceAdd, resA, ret1, qv, lv, ev, boolA, binA, intA, shiftA, cmpA, beqA, lres, atN_two g3]
  refine svalidAlgebra_c (hb.ext hE) (htb.ext hE) hSB (fun hB => ?_) (fun hB => ?_)
  rotate_left
  · simp only [↓WP, WQ, if_true, if_false, eq_self, implies_true, ne_eq, List.nil_append, List.cons_append, ↓reduceIte, Nat.reduceEqDiff, Nat.reduceBEq, reduceCtorEq, Nat.reduceAdd, resA, ret1, qv, lv, ev, boolA, binA, intA, shiftA, cmpA, beqA, lres, fillA, stA_two (x := .nils) (y := .nils) g4 rfl rfl, bad2]
    exact hn (fun h => hB h.2.1) _ bad
  have hA6 := hA.hi
  have hA1 := hA.lo
  have hB6 := hB.hi
  have hB1 := hB.lo
  have w1 : IntKind.i64.wrap ((A.up.length : Int) + B.up.length) = A.up.length + B.up.length := wrap_id (by omega) (by omega)
  have w2 : IntKind.i64.wrap ((A.up.length : Int) + B.up.length - 1) = A.up.length + B.up.length - 1 := wrap_id (by omega) (by omega)
  refine (Classical.em (6 < (A.up.length : Int) + B.up.length - 1)).elim (fun h6 => ?_) (fun h6 => ?_)
  · simp only [↓WP, WQ, if_true, if_false, eq_self, implies_true, ne_eq, List.nil_append, List.cons_append, ↓reduceIte, Nat.reduceEqDiff, Nat.reduceBEq, reduceCtorEq, Nat.reduceAdd, resA, ret1, qv, lv, ev, boolA, binA, intA, shiftA, cmpA, beqA, lres, at_fst g2, at_fst g3, ha.len, hb.len, w1, w2, h6, fillA, stA_two (x := .nils) (y := .nils) g4 rfl rfl, bad2]
    exact hn (fun h => by omega) _ bad
  simp only [↓WP, WQ, if_true, if_false, eq_self, implies_true, ne_eq, List.nil_append, List.cons_append, ↓reduceIte, Nat.reduceEqDiff, Nat.reduceBEq, reduceCtorEq, Nat.reduceAdd, resA, ret1, qv, lv, ev, boolA, binA, intA, shiftA, cmpA, beqA, lres, at_fst g2, at_fst g3, ha.len, hb.len, w1, w2, h6, atN_two g2, atN_two g3]
  obtain ⟨N, hN⟩ : ∃ N : Nat, N + 1 = A.up.length + B.up.length := ⟨A.up.length + B.up.length - 1, by omega⟩
  refine stack_c (ha.ext hE) (hta.ext hE) (hb.ext hE) (htb.ext hE) hA.toSquare hB.toSquare hA.rows62 hB.rows62 hA1 hB1 hN (by omega) fun v G1 hE1 hNA => ?_
  obtain ⟨uv, tv, rfl, e2, e3, e4, e5⟩ := store_res o hNA (fun _ e => e)
  simp only [↓WP, WQ, if_true, if_false, eq_self, implies_true, ne_eq, List.nil_append, List.cons_append, ↓reduceIte, Nat.reduceEqDiff, Nat.reduceBEq, reduceCtorEq, Nat.reduceAdd, resA, ret1, qv, lv, ev, boolA, binA, intA, shiftA, cmpA, beqA, lres, e2, e4]
  exact hy hA hB N hN (by omega) _ _ e3.fx.ext e3

theorem Sq.small {n : Nat} {l : List Int} {T : List (List Int)} (h : Sq n l T) (hn : n ≤ 1000) : Small ⟨l, T⟩ := by
  obtain ⟨h1, h2, h3⟩ := h
  refine ⟨by simp only; omega, by simp only; omega, fun x x0 x1 => ?_⟩
  simp only at x1 ⊢
  rw [SqT.row (n := n) ⟨h2, h3⟩ (by omega)]; omega

theorem goodAlgebra_c {B : Hp} {r : Nat} {K : Int} (hR : Rd B H r K) (hK : K ≤ 800000000) {Q : AV → Hp → Prop}
    (hq : ∀ v H', Rd B H' r (K + 12) → GA (is r) H H' v 6 → Q v H') :
    ACalls Try.prog w0 144 [.ptr r 0] H Q := by
  refine in144 ?_
  simp only [c144, ↓WP, WQ, if_true, if_false, eq_self, implies_true, ne_eq, List.nil_append, List.cons_append, ↓reduceIte, Nat.reduceEqDiff, Nat.reduceBEq, reduceCtorEq, Nat.reduceAdd, resA, ret1, qv, lv, ev, boolA, binA, intA, shiftA, cmpA, beqA, lres]
  refine NewRowd_in fun b2 hb2 => ?_
  have o := (Own.nil hR.ex).push (x := ⟨36, true, [.nils, .nils]⟩) hb2
  have R0 := hR
  have hR := hR.Ext (Ext.set (x := ⟨36, true, [.nils, .nils]⟩) hb2)
  generalize H.set b2 ⟨36, true, [.nils, .nils]⟩ = H1 at *
  simp only [↓WP, WQ, if_true, if_false, eq_self, implies_true, ne_eq, List.nil_append, List.cons_append, ↓reduceIte, Nat.reduceEqDiff, Nat.reduceBEq, reduceCtorEq, Nat.reduceAdd, resA, ret1, qv, lv, ev, boolA, binA, intA, shiftA, cmpA, beqA, lres]
  refine pick_d hR (by omega) fun v1 H2 v0 v1' _ hR hF => ?_
  have o := o.fxs hF (fun _ e => e)
  have fin : ∀ (G G' : Hp) (v : AV) (N : Nat) (L : List (Nat × Row)), Own (is r) H G ((b2, ⟨36, true, [.nils, .nils]⟩) :: L) → Rd B G' r (K + 12) → GA (is r) G G' v N → N ≤ 6 →
      ∃ uv tv G'', v = .agg [uv, tv] ∧ stA G' 2 (.ptr b2 0) v = some G'' ∧ G''.atN (.ptr b2 0) 2 = some [uv, tv] ∧ Q v G'' := by
    intro G G' v N L o hR ⟨l, T, n, hN, hS, h1, h2⟩ hN6
    obtain ⟨uv, tv, e1, e2, e3, e4, e5⟩ := store_res o hN (fun _ e => e)
    exact ⟨uv, tv, _, e1, e2, e4, hq v _ (hR.set R0 e5) ⟨l, T, n, e3, hS, h1, by omega⟩⟩
  have last : ∀ (G : Hp) (L : List (Nat × Row)), Own (is r) H G ((b2, ⟨36, true, [.nils, .nils]⟩) :: L) → Rd B G r (K + 8) → ∀ e : Env, e 2 = .ptr b2 0 → 
      ACalls Try.prog w0 164 [.ptr r 0, .int .i64 6] G fun v H' => W Try.prog w0 (.op none none (.e (.store 2 (.t 2) (.t 40))) .ret) (retQ [.c (some 2) 2] Q) (updo e (some 40) v) H' := by
    intro G L o hR e s2
    refine algebraOf_c (most := 6) hR (by omega) (by omega) (by omega) fun v G' hR hG => ?_
    obtain ⟨uv, tv, G'', rfl, e2, e3, e4⟩ := fin G G' v 6 L o (hR.mono (by omega)) hG (by omega)
    simp only [↓WP, WQ, if_true, if_false, eq_self, implies_true, ne_eq, List.nil_append, List.cons_append, ↓reduceIte, Nat.reduceEqDiff, Nat.reduceBEq, reduceCtorEq, Nat.reduceAdd, resA, ret1, qv, lv, ev, boolA, binA, intA, shiftA, cmpA, beqA, lres, s2, e2, e3]
    exact e4
  refine (Classical.em (v1 = 0)).elim (fun c0 => ?_) (fun c0 => ?_)
  · simp only [↓WP, WQ, if_true, if_false, eq_self, implies_true, ne_eq, List.nil_append, List.cons_append, ↓reduceIte, Nat.reduceEqDiff, Nat.reduceBEq, reduceCtorEq, Nat.reduceAdd, resA, ret1, qv, lv, ev, boolA, binA, intA, shiftA, cmpA, beqA, lres, c0]
    refine algebraOf_c (most := 2) hR (by omega) (by omega) (by omega) fun va H3 hR hG => ?_
    obtain ⟨la, Ta, na, hNa, hSa, ha1, ha2⟩ := hG
    have o := o.fxs hNa.fx (fun _ e => e)
    obtain ⟨ua, ta, rfl, hua, hta⟩ := hNa.open
    simp only [↓WP, WQ, if_true, if_false, eq_self, implies_true, ne_eq, List.nil_append, List.cons_append, ↓reduceIte, Nat.reduceEqDiff, Nat.reduceBEq, reduceCtorEq, Nat.reduceAdd, resA, ret1, qv, lv, ev, boolA, binA, intA, shiftA, cmpA, beqA, lres]
    refine NewRowd_in fun b3 hb3 => ?_
    have hS : (H3.set b3 ⟨36, true, [.nils, .nils]⟩) b3 = some ⟨36, true, [.nils, .nils]⟩ := Hp.set_same _ _ _
    simp only [↓WP, WQ, if_true, if_false, eq_self, implies_true, ne_eq, List.nil_append, List.cons_append, ↓reduceIte, Nat.reduceEqDiff, Nat.reduceBEq, reduceCtorEq, Nat.reduceAdd, resA, ret1, qv, lv, ev, boolA, binA, intA, shiftA, cmpA, beqA, lres, stA_two (x := ua) (y := ta) hS (lenA_scal hua.len) (lenA_scal hta.len), Hp.set_set]
    have o := o.push (x := ⟨36, true, [ua, ta]⟩) hb3
    have hE := Ext.set (x := ⟨36, true, [ua, ta]⟩) hb3
    have hR := hR.Ext hE
    have hNa := hNa.Ext hE
    generalize H3.set b3 ⟨36, true, [ua, ta]⟩ = H4 at *
    refine algebraOf_c (most := 3) hR (by omega) (by omega) (by omega) fun vb H5 hR hG => ?_
    obtain ⟨lb, Tb, nb, hNb, hSb, hb1, hb2'⟩ := hG
    have o := o.fxs hNb.fx (fun _ e => e)
    have hNa := hNa.fxs hNb.fx (fun _ e => e)
    obtain ⟨ub, tb, rfl, hub, htb⟩ := hNb.open
    simp only [↓WP, WQ, if_true, if_false, eq_self, implies_true, ne_eq, List.nil_append, List.cons_append, ↓reduceIte, Nat.reduceEqDiff, Nat.reduceBEq, reduceCtorEq, Nat.reduceAdd, resA, ret1, qv, lv, ev, boolA, binA, intA, shiftA, cmpA, beqA, lres]
    refine NewRowd_in fun b4 hb4 => ?_
    have hS : (H5.set b4 ⟨36, true, [.nils, .nils]⟩) b4 = some ⟨36, true, [.nils, .nils]⟩ := Hp.set_same _ _ _
    simp only [↓WP, WQ, if_true, if_false, eq_self, implies_true, ne_eq, List.nil_append, List.cons_append, ↓reduceIte, Nat.reduceEqDiff, Nat.reduceBEq, reduceCtorEq, Nat.reduceAdd, resA, ret1, qv, lv, ev, boolA, binA, intA, shiftA, cmpA, beqA, lres, stA_two (x := ub) (y := tb) hS (lenA_scal hub.len) (lenA_scal htb.len), Hp.set_set]
    have o := o.push (x := ⟨36, true, [ub, tb]⟩) hb4
    have hE := Ext.set (x := ⟨36, true, [ub, tb]⟩) hb4
    have hR := hR.Ext hE
    have hNa := hNa.Ext hE
    have hNb := hNb.Ext hE
    generalize H5.set b4 ⟨36, true, [ub, tb]⟩ = H6 at *
    obtain ⟨ua', ta', ea, hua, hta⟩ := hNa.open
    obtain ⟨ub', tb', eb, hub, htb⟩ := hNb.open
    simp only [AV.agg.injEq, List.cons.injEq, and_true] at ea eb
    obtain ⟨rfl, rfl⟩ := ea
    obtain ⟨rfl, rfl⟩ := eb
    have g3 := o.get (i := 1) rfl
    have g4 := o.get (i := 0) rfl
    simp only [↓WP, WQ, if_true, if_false, eq_self, implies_true, ne_eq, List.nil_append, List.cons_append, ↓reduceIte, Nat.reduceEqDiff, Nat.reduceBEq, reduceCtorEq, Nat.reduceAdd, resA, ret1, qv, lv, ev, boolA, binA, intA, shiftA, cmpA, beqA, lres, atN_two g3, atN_two g4]
    refine CrossAlgebras_c (A := ⟨lb, Tb⟩) (B := ⟨la, Ta⟩) hub htb hua hta (hSb.small (by omega)) (hSa.small (by omega)) (by have := hSb.1; simp only; omega) (by have := hSa.1; simp only; omega) (fun hA hB h6 v H7 hE hN => ?_) (fun _ H7 hE => ?_)
    · obtain ⟨uv, tv, e0, hu', ht'⟩ := hN.open
      subst e0
      simp only [↓WP, WQ, if_true, if_false, eq_self, implies_true, ne_eq, List.nil_append, List.cons_append, ↓reduceIte, Nat.reduceEqDiff, Nat.reduceBEq, reduceCtorEq, Nat.reduceAdd, resA, ret1, qv, lv, ev, boolA, binA, intA, shiftA, cmpA, beqA, lres]
      refine NewRowd_in fun b5 hb5 => ?_
      have hS : (H7.set b5 ⟨36, true, [.nils, .nils]⟩) b5 = some ⟨36, true, [.nils, .nils]⟩ := Hp.set_same _ _ _
      simp only [↓WP, WQ, if_true, if_false, eq_self, implies_true, ne_eq, List.nil_append, List.cons_append, ↓reduceIte, Nat.reduceEqDiff, Nat.reduceBEq, reduceCtorEq, Nat.reduceAdd, resA, ret1, qv, lv, ev, boolA, binA, intA, shiftA, cmpA, beqA, lres, stA_two (x := uv) (y := tv) hS (lenA_scal hu'.len) (lenA_scal ht'.len), Hp.set_set]
      have hE2 := Ext.set (x := ⟨36, true, [uv, tv]⟩) hb5
      have hN := (hN.back (Y := is r) (FX.refl _ _) (fun _ e => e.elim) hR.ex).Ext hE2
      have hR := ((hR.Ext hE).Ext hE2).mono (K' := K + 12) (by omega)
      have h5 : (H7.set b5 ⟨36, true, [uv, tv]⟩).atN (.ptr b5 0) 2 = some [uv, tv] := atN_two (Hp.set_same _ _ _)
      generalize H7.set b5 ⟨36, true, [uv, tv]⟩ = H8 at *
      have hN6 : Sq (lb.length * la.length) (crossF lb la) (tab2 (crossT ⟨lb, Tb⟩ ⟨la, Ta⟩) (lb.length * la.length) (lb.length * la.length)) := sq_of (by unfold crossF; rw [tab_len])
      obtain ⟨uv', tv', G'', e1, e2, e3, e4⟩ := fin H6 H8 _ (lb.length * la.length) _ (o.perm (M := (b2, ⟨36, true, [.nils, .nils]⟩) :: (b4, ⟨36, true, [ub, tb]⟩) :: (b3, ⟨36, true, [ua, ta]⟩) :: []) (List.perm_middle (l₁ := [_, _]) (l₂ := []))) hR ⟨_, _, _, hN, hN6, Nat.mul_pos (by have := hSb.1; omega) (by have := hSa.1; omega), Nat.le_refl _⟩ (by simpa using h6)
      simp only [AV.agg.injEq, List.cons.injEq, and_true] at e1
      obtain ⟨rfl, rfl⟩ := e1
      simp only [↓WP, WQ, if_true, if_false, eq_self, implies_true, ne_eq, List.nil_append, List.cons_append, ↓reduceIte, Nat.reduceEqDiff, Nat.reduceBEq, reduceCtorEq, Nat.reduceAdd, resA, ret1, qv, lv, ev, boolA, binA, intA, shiftA, cmpA, beqA, lres, h5, e2, e3]
      exact e4
    · simp only [↓WP, WQ, if_true, if_false, eq_self, implies_true, ne_eq, List.nil_append, List.cons_append, ↓reduceIte, Nat.reduceEqDiff, Nat.reduceBEq, reduceCtorEq, Nat.reduceAdd, resA, ret1, qv, lv, ev, boolA, binA, intA, shiftA, cmpA, beqA, lres]
      refine NewRowd_in fun b5 hb5 => ?_
      have hS : (H7.set b5 ⟨36, true, [.nils, .nils]⟩) b5 = some ⟨36, true, [.nils, .nils]⟩ := Hp.set_same _ _ _
      simp only [↓WP, WQ, if_true, if_false, eq_self, implies_true, ne_eq, List.nil_append, List.cons_append, ↓reduceIte, Nat.reduceEqDiff, Nat.reduceBEq, reduceCtorEq, Nat.reduceAdd, resA, ret1, qv, lv, ev, boolA, binA, intA, shiftA, cmpA, beqA, lres, stA_two (x := .nils) (y := .nils) hS rfl rfl, Hp.set_set]
      have hE2 := Ext.set (x := ⟨36, true, [.nils, .nils]⟩) hb5
      have hR := ((hR.Ext hE).Ext hE2).mono (K' := K + 8) (by omega)
      have o := (o.Ext hE).Ext hE2
      generalize H7.set b5 ⟨36, true, [.nils, .nils]⟩ = H8 at *
      refine last H8 _ (o.perm (M := (b2, ⟨36, true, [.nils, .nils]⟩) :: (b4, ⟨36, true, [ub, tb]⟩) :: (b3, ⟨36, true, [ua, ta]⟩) :: []) (List.perm_middle (l₁ := [_, _]) (l₂ := []))) hR _ ?_
      simp only [↓WP, WQ, if_true, if_false, eq_self, implies_true, ne_eq, List.nil_append, List.cons_append, ↓reduceIte, Nat.reduceEqDiff, Nat.reduceBEq, reduceCtorEq, Nat.reduceAdd, resA, ret1, qv, lv, ev, boolA, binA, intA, shiftA, cmpA, beqA, lres]
  refine (Classical.em (v1 = 1)).elim (fun c1 => ?_) (fun c1 => ?_)
  · simp only [↓WP, WQ, if_true, if_false, eq_self, implies_true, ne_eq, List.nil_append, List.cons_append, ↓reduceIte, Nat.reduceEqDiff, Nat.reduceBEq, reduceCtorEq, Nat.reduceAdd, resA, ret1, qv, lv, ev, boolA, binA, intA, shiftA, cmpA, beqA, lres, c1, Int.reduceEq]
    refine chain_c (n := (2 : Nat)) (by omega) (by omega) fun u1 H3 hu1 hE1 hrow1 => ?_
    simp only [↓WP, WQ, if_true, if_false, eq_self, implies_true, ne_eq, List.nil_append, List.cons_append, ↓reduceIte, Nat.reduceEqDiff, Nat.reduceBEq, reduceCtorEq, Nat.reduceAdd, resA, ret1, qv, lv, ev, boolA, binA, intA, shiftA, cmpA, beqA, lres]
    refine chain_c (n := (2 : Nat)) (by omega) (by omega) fun u2 H4 hu2 hE2 hrow2 => ?_
    have hl2 : (chainS ((2 : Nat) : Int) 2).length = 2 := chainS_len _ _
    have hI1 := (li_ints (q := u1) (l := chainS (2 : Nat) 2) (H := H3) hrow1).ext hE2
    have hI2 := li_ints (q := u2) (l := chainS (2 : Nat) 2) (H := H4) hrow2
    rw [hl2] at hI1 hI2
    simp only [↓WP, WQ, if_true, if_false, eq_self, implies_true, ne_eq, List.nil_append, List.cons_append, ↓reduceIte, Nat.reduceEqDiff, Nat.reduceBEq, reduceCtorEq, Nat.reduceAdd, resA, ret1, qv, lv, ev, boolA, binA, intA, shiftA, cmpA, beqA, lres, Int.toNat_natCast]
    have hlc : (crossF (chainS (2 : Nat) 2) (chainS (2 : Nat) 2)).length = 4 := by unfold crossF; rw [tab_len, hl2]
    refine cross_c hI1 hI2 (rows62_chain (by omega) (by omega)) (rows62_chain (by omega) (by omega)) (by omega) (by omega) (by omega) (by omega) (by rw [hl2]; omega) fun u3 H5 o3 => ?_
    have hI3 := li_ints (o3.get (i := 0) rfl)
    rw [hlc] at hI3
    rw [hl2]
    simp only [↓WP, WQ, if_true, if_false, eq_self, implies_true, ne_eq, List.nil_append, List.cons_append, ↓reduceIte, Nat.reduceEqDiff, Nat.reduceBEq, reduceCtorEq, Nat.reduceAdd, resA, ret1, qv, lv, ev, boolA, binA, intA, shiftA, cmpA, beqA, lres]
    refine meetAlgebra_c hI3 (rows62_cross _ _ (by rw [hl2]; omega)) (by rw [hlc]; omega) (by rw [hlc]; omega) fun va H6 hE4 hNa => ?_
    rw [hlc] at hNa
    have hEE := ((hE1.trans hE2).trans o3.ext').trans hE4
    have hNa := hNa.back (Y := is r) (((hE1.trans hE2).trans o3.ext').fx) (fun _ e => e.elim) hR.ex
    have hR := hR.Ext hEE
    have o := o.Ext hEE
    have hSa : Sq 4 (crossF (chainS (2 : Nat) 2) (chainS (2 : Nat) 2)) (tab2 (meetF (crossF (chainS (2 : Nat) 2) (chainS (2 : Nat) 2))) 4 4) := sq_of hlc
    generalize crossF (chainS (2 : Nat) 2) (chainS (2 : Nat) 2) = la at *
    generalize tab2 (meetF la) 4 4 = Ta at *
    obtain ⟨ua, ta, rfl, hua, hta⟩ := hNa.open
    simp only [↓WP, WQ, if_true, if_false, eq_self, implies_true, ne_eq, List.nil_append, List.cons_append, ↓reduceIte, Nat.reduceEqDiff, Nat.reduceBEq, reduceCtorEq, Nat.reduceAdd, resA, ret1, qv, lv, ev, boolA, binA, intA, shiftA, cmpA, beqA, lres]
    refine algebraOf_c (most := 3) hR (by omega) (by omega) (by omega) fun vb H7 hR hG => ?_
    obtain ⟨lb, Tb, nb, hNb, hSb, hb1, hb2'⟩ := hG
    have o := o.fxs hNb.fx (fun _ e => e)
    have hNa := hNa.fxs hNb.fx (fun _ e => e)
    obtain ⟨ub, tb, rfl, hub, htb⟩ := hNb.open
    obtain ⟨ua', ta', ea, hua, hta⟩ := hNa.open
    simp only [AV.agg.injEq, List.cons.injEq, and_true] at ea
    obtain ⟨rfl, rfl⟩ := ea
    simp only [↓WP, WQ, if_true, if_false, eq_self, implies_true, ne_eq, List.nil_append, List.cons_append, ↓reduceIte, Nat.reduceEqDiff, Nat.reduceBEq, reduceCtorEq, Nat.reduceAdd, resA, ret1, qv, lv, ev, boolA, binA, intA, shiftA, cmpA, beqA, lres]
    refine StackAlgebras_c (A := ⟨la, Ta⟩) (B := ⟨lb, Tb⟩) hua hta hub htb (hSa.small (by omega)) (hSb.small (by omega)) (fun hA hB N hN1 hN6 v H8 hE hN => ?_) (fun _ H8 hE => ?_)
    · obtain ⟨uv, tv, e0, hu', ht'⟩ := hN.open
      subst e0
      simp only [↓WP, WQ, if_true, if_false, eq_self, implies_true, ne_eq, List.nil_append, List.cons_append, ↓reduceIte, Nat.reduceEqDiff, Nat.reduceBEq, reduceCtorEq, Nat.reduceAdd, resA, ret1, qv, lv, ev, boolA, binA, intA, shiftA, cmpA, beqA, lres]
      refine NewRowd_in fun b5 hb5 => ?_
      have hS : (H8.set b5 ⟨36, true, [.nils, .nils]⟩) b5 = some ⟨36, true, [.nils, .nils]⟩ := Hp.set_same _ _ _
      simp only [↓WP, WQ, if_true, if_false, eq_self, implies_true, ne_eq, List.nil_append, List.cons_append, ↓reduceIte, Nat.reduceEqDiff, Nat.reduceBEq, reduceCtorEq, Nat.reduceAdd, resA, ret1, qv, lv, ev, boolA, binA, intA, shiftA, cmpA, beqA, lres, stA_two (x := uv) (y := tv) hS (lenA_scal hu'.len) (lenA_scal ht'.len), Hp.set_set]
      have hE2 := Ext.set (x := ⟨36, true, [uv, tv]⟩) hb5
      have hN := (hN.back (Y := is r) (FX.refl _ _) (fun _ e => e.elim) hR.ex).Ext hE2
      have hR := ((hR.Ext hE).Ext hE2).mono (K' := K + 12) (by omega)
      have h5 : (H8.set b5 ⟨36, true, [uv, tv]⟩).atN (.ptr b5 0) 2 = some [uv, tv] := atN_two (Hp.set_same _ _ _)
      generalize H8.set b5 ⟨36, true, [uv, tv]⟩ = H9 at *
      obtain ⟨uv', tv', G'', e1, e2, e3, e4⟩ := fin H7 H9 _ N _ o hR ⟨_, _, _, hN, sq_of (tab_len _ _), by have := hSa.1; simp only at hN1; omega, Nat.le_refl _⟩ hN6
      simp only [AV.agg.injEq, List.cons.injEq, and_true] at e1
      obtain ⟨rfl, rfl⟩ := e1
      simp only [↓WP, WQ, if_true, if_false, eq_self, implies_true, ne_eq, List.nil_append, List.cons_append, ↓reduceIte, Nat.reduceEqDiff, Nat.reduceBEq, reduceCtorEq, Nat.reduceAdd, resA, ret1, qv, lv, ev, boolA, binA, intA, shiftA, cmpA, beqA, lres, h5, e2, e3]
      exact e4
    · simp only [↓WP, WQ, if_true, if_false, eq_self, implies_true, ne_eq, List.nil_append, List.cons_append, ↓reduceIte, Nat.reduceEqDiff, Nat.reduceBEq, reduceCtorEq, Nat.reduceAdd, resA, ret1, qv, lv, ev, boolA, binA, intA, shiftA, cmpA, beqA, lres]
      refine NewRowd_in fun b5 hb5 => ?_
      have hS : (H8.set b5 ⟨36, true, [.nils, .nils]⟩) b5 = some ⟨36, true, [.nils, .nils]⟩ := Hp.set_same _ _ _
      simp only [↓WP, WQ, if_true, if_false, eq_self, implies_true, ne_eq, List.nil_append, List.cons_append, ↓reduceIte, Nat.reduceEqDiff, Nat.reduceBEq, reduceCtorEq, Nat.reduceAdd, resA, ret1, qv, lv, ev, boolA, binA, intA, shiftA, cmpA, beqA, lres, stA_two (x := .nils) (y := .nils) hS rfl rfl, Hp.set_set]
      have hE2 := Ext.set (x := ⟨36, true, [.nils, .nils]⟩) hb5
      have hR := ((hR.Ext hE).Ext hE2).mono (K' := K + 8) (by omega)
      have o := (o.Ext hE).Ext hE2
      generalize H8.set b5 ⟨36, true, [.nils, .nils]⟩ = H9 at *
      refine last H9 _ o hR _ ?_
      simp only [↓WP, WQ, if_true, if_false, eq_self, implies_true, ne_eq, List.nil_append, List.cons_append, ↓reduceIte, Nat.reduceEqDiff, Nat.reduceBEq, reduceCtorEq, Nat.reduceAdd, resA, ret1, qv, lv, ev, boolA, binA, intA, shiftA, cmpA, beqA, lres]
  · simp only [↓WP, WQ, if_true, if_false, eq_self, implies_true, ne_eq, List.nil_append, List.cons_append, ↓reduceIte, Nat.reduceEqDiff, Nat.reduceBEq, reduceCtorEq, Nat.reduceAdd, resA, ret1, qv, lv, ev, boolA, binA, intA, shiftA, cmpA, beqA, lres, c0, c1]
    refine last H2 _ o (hR.mono (by omega)) _ ?_
    simp only [↓WP, WQ, if_true, if_false, eq_self, implies_true, ne_eq, List.nil_append, List.cons_append, ↓reduceIte, Nat.reduceEqDiff, Nat.reduceBEq, reduceCtorEq, Nat.reduceAdd, resA, ret1, qv, lv, ev, boolA, binA, intA, shiftA, cmpA, beqA, lres]
end Go.AL

/-
  Regions in which an allocation may come ahead of an effect; algebras that may be bent.
-/
namespace Go.AL
open Go.Proofs
set_option linter.unusedSimpArgs false
set_option linter.unusedVariables false
variable {w0 : World} {H : Hp}

section
variable {P : Program} {S : Nat → Prop}
theorem DR_to {ops : List DOp} {k : CC} {Q : Ex → Env → Hp → Prop} {e : Env} {H : Hp} {d : Dep (ops, k)} {d' : Dep Q} (S : Nat → Prop) (F : Env → Hp → Prop) (h1 : WD P w0 S ops.length ops F e H) (h2 : ∀ e' H', F e' H' → W P w0 k Q e' H') : DR P w0 ops k Q e H d d' := by
  simp only [DR, W]
  exact ⟨S, WD_mono0 h2 _ _ _ _ h1⟩
theorem WD_nil {n : Nat} {K : Env → Hp → Prop} {e : Env} {H : Hp} : WD P w0 S n [] K e H = K e H := by cases n <;> simp only [WD]
theorem WD_one {n : Nat} {x : DOp} {l : List DOp} {K : Env → Hp → Prop} {e : Env} {H : Hp} (hf : x.fls = []) : WD P w0 S (n + 1) (x :: l) K e H = TD P w0 S x (WD P w0 S n l K) e H := by
  simp only [WD, hf]
  exact propext ⟨fun h => h.1, fun h => ⟨h, alts_nil0 _ _⟩⟩
theorem WD_q {n id : Nat} {dd : Option Nat} {o : QOp} {l : List DOp} {K : Env → Hp → Prop} {e : Env} {H : Hp} :
    WD P w0 S (n + 1) (⟨id, false, [], dd, none, .q o⟩ :: l) K e H = QBd (qv e H o) (fun v => WD P w0 S n l K (updo e dd v) H) (dep _) := by
  rw [WD_one rfl]; simp [TD, Wg, WopD, QBd]
theorem WD_ql {n id : Nat} {dd : Option Nat} {o : QOp} {l : List DOp} {K : Env → Hp → Prop} {e : Env} {H : Hp} :
    WD P w0 S (n + 1) (⟨id, true, [], dd, none, .q o⟩ :: l) K e H = (loadS S e o ∧ QBd (qv e H o) (fun v => WD P w0 S n l K (updo e dd v) H) (dep _)) := by
  rw [WD_one rfl]; simp [TD, Wg, WopD, QBd]
theorem WD_l {n id : Nat} {fl : Bool} {dd : Option Nat} {o : LOp} {l : List DOp} {K : Env → Hp → Prop} {e : Env} {H : Hp} :
    WD P w0 S (n + 1) (⟨id, fl, [], dd, none, .l o⟩ :: l) K e H = QBd (lv e o) (fun x => NewRowd H (fun r => WD P w0 S n l K (updo e dd (lres r x.2)) (H.set r x.1)) (dep _)) (dep _) := by
  rw [WD_one rfl]; rfl
theorem TD_l {id : Nat} {fl : Bool} {fls : List Nat} {dd : Option Nat} {o : LOp} {K : Env → Hp → Prop} {e : Env} {H : Hp} :
    TD P w0 S ⟨id, fl, fls, dd, none, .l o⟩ K e H = QBd (lv e o) (fun x => NewRowd H (fun r => K (updo e dd (lres r x.2)) (H.set r x.1)) (dep _)) (dep _) := (rfl)
theorem TD_callf {id : Nat} {fl : Bool} {fls : List Nat} {dd : Option Nat} {g : Nat} {a : List Opd} {K : Env → Hp → Prop} {e : Env} {H : Hp} :
    TD P w0 S ⟨id, fl, fls, dd, none, .e (.call (.f g) a)⟩ K e H = ACallsd P w0 g (a.map (ev e)) H (fun v H' => (∀ r, S r → H' r = H r) ∧ K (updo e dd v) H') (dep _) := by simp only [TD, Wg, WopD, Weff, ev, List.append_nil, ACallsd]
theorem TD_app {id : Nat} {fl : Bool} {fls : List Nat} {dd : Option Nat} {ty sz bytes : Nat} {s x : Opd} {K : Env → Hp → Prop} {e : Env} {H : Hp} :
    TD P w0 S ⟨id, fl, fls, dd, none, .e (.app ty sz bytes s x)⟩ K e H = AppD ty sz bytes (ev e s) (ev e x) H (fun v H' => (∀ r, S r → H' r = H r) ∧ K (updo e dd v) H') (dep _) := (rfl)
theorem WD_callf {n id : Nat} {fl : Bool} {dd : Option Nat} {g : Nat} {a : List Opd} {l : List DOp} {K : Env → Hp → Prop} {e : Env} {H : Hp} :
    WD P w0 S (n + 1) (⟨id, fl, [], dd, none, .e (.call (.f g) a)⟩ :: l) K e H = ACallsd P w0 g (a.map (ev e)) H (fun v H' => (∀ r, S r → H' r = H r) ∧ WD P w0 S n l K (updo e dd v) H') (dep _) := by
  rw [WD_one rfl, TD_callf]
theorem WD_store {n id : Nat} {fl : Bool} {dd : Option Nat} {m : Nat} {a x : Opd} {l : List DOp} {K : Env → Hp → Prop} {e : Env} {H : Hp} :
    WD P w0 S (n + 1) (⟨id, fl, [], dd, none, .e (.store m a x)⟩ :: l) K e H = QBd (stA H m (ev e a) (ev e x)) (fun H' => (∀ r, S r → H' r = H r) ∧ WD P w0 S n l K (updo e dd (.tup [])) H') (dep _) := by
  rw [WD_one rfl]
  have := WDL_store (P := P) (w0 := w0) (S := S) (id := id) (fl := fl) (fls := []) (dd := dd) (n := m) (a := a) (x := x) (l := []) (K := WD P w0 S n l K) (e := e) (H := H)
  exact this
theorem WD_alt {n : Nat} {x : DOp} {l : List DOp} {K : Env → Hp → Prop} {e : Env} {H : Hp} (h1 : TD P w0 S x (WD P w0 S n l K) e H) (h2 : alts x.fls [] l fun y l' => TD P w0 S y (WD P w0 S n (x :: l') K) e H) : WD P w0 S (n + 1) (x :: l) K e H := by
  simp only [WD]; exact ⟨h1, h2⟩
theorem alts_no {fls : List Nat} {pre l : List DOp} {y : DOp} {F : DOp → List DOp → Prop} (h : fls.contains y.id = false) (k : alts fls (pre ++ [y]) l F) : alts fls pre (y :: l) F := by
  simp only [alts]; exact ⟨by rw [h]; simp, k⟩
theorem alts_yes {fls : List Nat} {pre l : List DOp} {y : DOp} {F : DOp → List DOp → Prop} (h : fls.contains y.id = true) (h1 : F y (pre ++ l)) (k : alts fls (pre ++ [y]) l F) : alts fls pre (y :: l) F := by
  simp only [alts]; exact ⟨by rw [if_pos h]; exact h1, k⟩
theorem alts_end {fls : List Nat} {pre : List DOp} {F : DOp → List DOp → Prop} : alts fls pre [] F := by simp only [alts]
end

/-! ### algebras that have been drawn -/

/-- The rows of a slice are new since H0. -/
def NewV (H0 : Hp) (v : AV) : Prop := ∀ q o n, v = .sl q o n → H0 q = none
theorem newV_nils (H0 : Hp) : NewV H0 .nils := fun q o n h => by cases h
theorem newV_emp (H0 : Hp) : NewV H0 .emp := fun q o n h => by cases h
theorem newV_sl {H0 : Hp} {q o n : Nat} (h : H0 q = none) : NewV H0 (.sl q o n) := fun q' o' n' e => by cases e; exact h
theorem NewV.q {H0 : Hp} {q o n : Nat} (h : NewV H0 (.sl q o n)) : H0 q = none := h q o n rfl

theorem at_keep {X : Nat → Prop} {H0 H H' : Hp} {v c : AV} {i : Nat} (hv : NewV H0 v) (k : FX X H H') (hX : ∀ q, X q → H0 q ≠ none) (h : H.at (elt 1 v i) = some c) : H'.at (elt 1 v i) = some c := by
  cases v with
  | sl q o n =>
    simp only [elt, Hp.at] at h ⊢
    have hq := hv.q
    cases hH : H q with
    | none => simp [hH] at h
    | some row => rw [k.keep q (fun e => hX q e hq) (by rw [hH]; simp)]; exact h
  | _ => simp [elt, Hp.at] at h
theorem ints_keep {X : Nat → Prop} {H0 H H' : Hp} {v : AV} {l : List Int} (hv : NewV H0 v) (k : FX X H H') (hX : ∀ q, X q → H0 q ≠ none) (h : Ints H v l) : Ints H' v l := by
  refine ⟨h.1, ?_⟩
  have h2 := h.2
  cases v with
  | sl q o n =>
    simp only [Hp.row] at h2 ⊢
    have hq := hv.q
    cases hH : H q with
    | none => simp [hH] at h2
    | some row => rw [k.keep q (fun e => hX q e hq) (by rw [hH]; simp)]; exact h2
  | nils => exact h2
  | emp => exact h2
  | _ => simp [Hp.row] at h2

/-- What the laws know of a drawn algebra: its memory is new since H0, and it is small. -/
structure RA (H0 H : Hp) (v : AV) (A : Alg) : Prop where
  ex : ∃ uv tv, v = .agg [uv, tv] ∧ Ints H uv A.up ∧ Mat H tv A.times ∧ NewV H0 uv ∧ NewV H0 tv ∧ ∀ i : Int, 0 ≤ i → i < A.times.length → NewV H0 (rowv H tv i)
  up : A.up.length ≤ 7
  times : A.times.length ≤ 6
  rows : ∀ x : Int, 0 ≤ x → x < A.times.length → (A.times.getD x.toNat []).length ≤ 6
theorem RA.small {H0 H : Hp} {v : AV} {A : Alg} (h : RA H0 H v A) : Small A :=
  ⟨by have := h.up; omega, by have := h.times; omega, fun x x0 x1 => by have := h.rows x x0 x1; omega⟩
theorem RA.fxs {X : Nat → Prop} {H0 H H' : Hp} {v : AV} {A : Alg} (h : RA H0 H v A) (k : FX X H H') (hX : ∀ q, X q → H0 q ≠ none) : RA H0 H' v A := by
  obtain ⟨⟨uv, tv, h1, h2, h3, h4, h5, h6⟩, g1, g2, g3⟩ := h
  have hat : ∀ i : Int, 0 ≤ i → i < A.times.length → H'.at (elt 1 tv i.toNat) = some (rowv H tv i) := fun i i0 i1 => at_keep h5 k hX (h3.at i0 i1)
  have hrow : ∀ i : Int, 0 ≤ i → i < A.times.length → rowv H' tv i = rowv H tv i := fun i i0 i1 => by simp only [rowv, hat i i0 i1, Option.getD_some]
  refine ⟨⟨uv, tv, h1, ints_keep h4 k hX h2, ⟨h3.1, fun i hi => ?_⟩, h4, h5, fun i i0 i1 => ?_⟩, g1, g2, g3⟩
  · refine ⟨_, hat i (by omega) (by omega), ints_keep (h6 i (by omega) (by omega)) k hX ?_⟩
    have := h3.row (i := (i : Int)) (by omega) (by omega)
    simpa using this
  · rw [hrow i i0 i1]; exact h6 i i0 i1
theorem RA.Ext {H0 H H' : Hp} {v : AV} {A : Alg} (h : RA H0 H v A) (k : Ext H H') : RA H0 H' v A := h.fxs (X := no) k.fx fun _ e => e.elim
theorem RA.back {H0 H1 H : Hp} {v : AV} {A : Alg} (h : RA H1 H v A) (k : ∀ q, H1 q = none → H0 q = none) : RA H0 H v A := by
  obtain ⟨⟨uv, tv, h1, h2, h3, h4, h5, h6⟩, g1, g2, g3⟩ := h
  exact ⟨⟨uv, tv, h1, h2, h3, fun q o n e => k q (h4 q o n e), fun q o n e => k q (h5 q o n e), fun i i0 i1 q o n e => k q (h6 i i0 i1 q o n e)⟩, g1, g2, g3⟩
theorem RA.open {H0 H : Hp} {v : AV} {A : Alg} (h : RA H0 H v A) : ∃ uv tv, v = .agg [uv, tv] ∧ Ints H uv A.up ∧ Mat H tv A.times := by
  obtain ⟨⟨uv, tv, h1, h2, h3, _⟩, _⟩ := h
  exact ⟨uv, tv, h1, h2, h3⟩

/-- A row of slices of numbers. -/
theorem mat_of {H : Hp} {q o : Nat} {ty : Nat} {cells : List AV} {T : List (List Int)} (h : H q = some ⟨ty, true, cells⟩) (hT : cells.length = o + T.length) (hI : ∀ i (hi : i < T.length), Ints H (cells[o + i]'(by omega)) T[i]) : Mat H (.sl q o T.length) T := by
  refine ⟨rfl, fun i hi => ⟨cells[o + i]'(by omega), ?_, ?_⟩⟩
  · simp only [elt, Hp.at, h, Nat.mul_one]
    rw [List.getElem?_eq_getElem]
  · have := hI i hi
    simpa [hi] using this
theorem rowv_of {H : Hp} {q o : Nat} {ty n : Nat} {cells : List AV} (h : H q = some ⟨ty, true, cells⟩) {i : Int} (hi : o + i.toNat < cells.length) : rowv H (.sl q o n) i = cells[o + i.toNat] := by
  simp only [rowv, elt, Hp.at, h, Nat.mul_one, List.getElem?_eq_getElem hi, Option.getD_some]
theorem stA_cell {H : Hp} {r ty i : Nat} {cells : List AV} {x : AV} (h : H r = some ⟨ty, true, cells⟩) (hi : i < cells.length) (hx : x.scal = true) : stA H 1 (.ptr r i) x = some (H.set r ⟨ty, true, cells.set i x⟩) := by
  have h1 : splice cells i [x] = cells.set i x := by
    simp only [splice, List.length_cons, List.length_nil]
    rw [List.set_eq_take_append_cons_drop, if_pos hi]
    simp
  have h2 : i + 1 ≤ cells.length := hi
  simp [stA, cells_scal hx, h, h1, h2]
/-- The rest of a slice behind its first element. -/
def restV (q n : Nat) : AV := if n = 1 then .emp else .sl q 1 (n - 1)
theorem slA_rest {q n : Nat} (hn : 1 ≤ n) : slA 1 (.sl q 0 n) (some (.int .i64 1)) none = some (restV q n) := by
  have h1 : (0 : Int) ≤ 1 ∧ (1 : Int) ≤ n ∧ (n : Int) ≤ n := ⟨by omega, by omega, by omega⟩
  simp only [slA, lenA_sl, intOfA, h1, and_self, if_true, restV]
  by_cases h2 : n = 1
  · subst h2; simp
  · have h3 : ¬ (n : Int) = 1 := by omega
    simp only [h2, h3, if_false, Option.some.injEq, AV.sl.injEq, true_and]
    simp
theorem restV_scal (q n : Nat) : (restV q n).scal = true := by unfold restV; split <;> rfl
theorem restV_new {H0 : Hp} {q n : Nat} (h : H0 q = none) : NewV H0 (restV q n) := by
  unfold restV; split
  · exact newV_emp _
  · exact newV_sl h
theorem restV_ints {H : Hp} {q n : Nat} {l : List Int} (h : H q = some (LI l)) (hn : n = l.length) (h1 : 1 ≤ n) : Ints H (restV q n) l.tail := by
  subst hn
  cases l with
  | nil => simp at h1
  | cons a l =>
    unfold restV
    split
    · rename_i h2
      have : l = [] := by simpa using h2
      subst this
      exact ⟨rfl, rfl⟩
    · refine ⟨by simp [lenA], ?_⟩
      simp only [Hp.row, h, LI, List.map_cons, List.length_cons, Nat.mul_one, List.length_map, List.tail_cons, Nat.add_sub_cancel]
      rw [if_pos (by omega)]
      simp only [List.drop_succ_cons, List.drop_zero]
      rw [List.take_of_length_le (by simp)]
end Go.AL

/-
  Algebras that may be bent.
-/
namespace Go.AL
open Go.Proofs
set_option linter.unusedSimpArgs false
set_option linter.unusedVariables false
variable {w0 : World} {H : Hp}

/-- A table of one's own, of which some rows may have been cut. -/
theorem ra_cells {X : Nat → Prop} {H0 H1 H : Hp} {L : List (Nat × Row)} {u q off ty : Nat} {l : List Int} {cells : List AV} {T : List (List Int)} (o : Own X H1 H L) (hs : ∀ q, H1 q = none → H0 q = none) (hu : (u, LI l) ∈ L) (hq : (q, (⟨ty, true, cells⟩ : Row)) ∈ L)
    (hT : cells.length = off + T.length) (hI : ∀ i (hi : i < T.length), Ints H (cells[off + i]'(by omega)) T[i] ∧ NewV H0 (cells[off + i]'(by omega))) (h1 : l.length ≤ 7) (h2 : T.length ≤ 6) (h3 : ∀ r ∈ T, r.length ≤ 6) :
    RA H0 H (.agg [.sl u 0 l.length, .sl q off T.length]) ⟨l, T⟩ := by
  have hq' := o.has _ hq
  refine ⟨⟨_, _, rfl, li_ints (o.has _ hu), mat_of hq' hT fun i hi => (hI i hi).1, newV_sl (hs _ (o.new _ hu)), newV_sl (hs _ (o.new _ hq)), fun i i0 i1 => ?_⟩, h1, h2, fun x x0 x1 => ?_⟩
  · rw [rowv_of hq' (by simp only at i1; omega)]
    simp only at i1
    exact (hI i.toNat (by omega)).2
  · simp only at x1 ⊢
    have h4 : x.toNat < T.length := by omega
    simp only [List.getD_eq_getElem?_getD, List.getElem?_eq_getElem h4, Option.getD_some]
    exact h3 _ (List.getElem_mem h4)
theorem ra_tab {X : Nat → Prop} {H0 H1 H : Hp} {L : List (Nat × Row)} {u q : Nat} {l : List Int} {t : List (Nat × List Int)} (o : Own X H1 H L) (hs : ∀ q, H1 q = none → H0 q = none) (hu : (u, LI l) ∈ L) (hq : (q, TR t) ∈ L) (ht : ∀ p ∈ tl t, p ∈ L)
    (h1 : l.length ≤ 7) (h2 : t.length ≤ 6) (h3 : ∀ p ∈ t, p.2.length ≤ 6) : RA H0 H (.agg [.sl u 0 l.length, .sl q 0 t.length]) ⟨l, t.map Prod.snd⟩ := by
  have hm : ∀ i (hi : i < t.length), ((t[i]).1, LI (t[i]).2) ∈ L := fun i hi => ht _ (List.mem_map.2 ⟨t[i], List.getElem_mem hi, rfl⟩)
  have := ra_cells (off := 0) (T := t.map Prod.snd) o hs hu (q := q) (ty := 30) (cells := t.map fun p => .sl p.1 0 p.2.length) (show (q, (⟨30, true, t.map fun p => .sl p.1 0 p.2.length⟩ : Row)) ∈ L from hq) (by simp) (fun i hi => by
    have hi' : i < t.length := by simpa using hi
    simp only [Nat.zero_add, List.getElem_map]
    exact ⟨li_ints (o.has _ (hm i hi')), newV_sl (hs _ (o.new _ (hm i hi')))⟩) h1 (by simpa using h2) (fun r hr => by
    obtain ⟨p, hp, rfl⟩ := List.mem_map.1 hr
    exact h3 p hp)
  simpa using this
theorem NA.ra {X : Nat → Prop} {H0 H : Hp} {v : AV} {l : List Int} {T : List (List Int)} {n : Nat} (h : NA X H0 H v l T) (hS : Sq n l T) (hn : n ≤ 6) : RA H0 H v ⟨l, T⟩ := by
  obtain ⟨u, q, t, rfl, rfl, o⟩ := h
  obtain ⟨s1, s2, s3⟩ := hS
  exact ra_tab o (fun _ h => h) (by simp) (by simp) (fun p hp => by simp [hp]) (by omega) (by simp at s2; omega) (fun p hp => by rw [s3 _ (List.mem_map.2 ⟨p, hp, rfl⟩)]; omega)

theorem bsl3 (a b c : Int) : fillA 1 (zerosA [.int .i64 0] 3) [(0, .int .i64 a), (1, .int .i64 b), (2, .int .i64 c)] = some [.int .i64 a, .int .i64 b, .int .i64 c] := rfl
theorem bsl4 (a b c d : Int) : fillA 1 (zerosA [.int .i64 0] 4) [(0, .int .i64 a), (1, .int .i64 b), (2, .int .i64 c), (3, .int .i64 d)] = some [.int .i64 a, .int .i64 b, .int .i64 c, .int .i64 d] := rfl
theorem Own.app_num2 {X : Nat → Prop} {H0 : Hp} {L : List (Nat × Row)} {i n q : Nat} {l : List Int} {r2 : Nat} {x : Int} {K : AV → Hp → Prop} {d : Dep K} (h : Own X H0 H L) (hi : L[i]? = some (q, LI l)) (hr2 : H r2 = none) (hn : n = l.length) (hl : l.length ≤ 1000000000)
    (hK : ∀ r' H', Own X H0 H' (L.set i (r', LI (l ++ [x]))) → (∀ p, p ≠ q → H p ≠ none → H' p = H p) → K (.sl r' 0 (n + 1)) H') :
    AppD 3 1 8 (.sl q 0 n) (.sl r2 0 1) (H.set r2 ⟨3, true, [.int .i64 x]⟩) K d := by
  subst hn
  refine app_item (n := l.length) (sz := 1) (h.get hi) (by simp) rfl hr2 (by omega) hl fun r' H' h1 h2 h3 => hK r' H' ?_ h3
  exact h.chg hi (by rw [h1]; simp [LI]) (Or.inr h2) h3

theorem bent_c {B H0 : Hp} {r n : Nat} {K K0 : Int} {v : AV} {l : List Int} {T : List (List Int)} (hR : Rd B H r K) (R0 : Rd B H0 r K0) (hK : K ≤ 900000000) (hN : NA (is r) H0 H v l T) (hSq : Sq n l T) (hn1 : 1 ≤ n) (hn : n ≤ 6) {Q : AV → Hp → Prop}
    (hq : ∀ v' A H', Rd B H' r (K + 5) → FX (is r) H H' → RA H0 H' v' A → Q v' H') :
    ACalls Try.prog w0 143 [.ptr r 0, v] H Q := by
  have hsub := hN.fx.sub
  have RH := hR
  obtain ⟨s1, s2, s3⟩ := hSq
  obtain ⟨uv, tv, rfl, hu, ht⟩ := hN.open
  refine in143 ?_
  simp only [c143, ↓WP, WQ, if_true, if_false, eq_self, implies_true, ne_eq, List.nil_append, List.cons_append, ↓reduceIte, Nat.reduceEqDiff, Nat.reduceBEq, reduceCtorEq, Nat.reduceAdd, resA, ret1, qv, lv, ev, boolA, binA, intA, shiftA, cmpA, beqA, lres, cells_alg hu.len ht.len]
  refine NewRowd_in fun b3 hb3 => ?_
  have o := (Own.nil hR.ex).push (x := ⟨36, true, [uv, tv]⟩) hb3
  have hR := hR.Ext (Ext.set (x := ⟨36, true, [uv, tv]⟩) hb3)
  generalize H.set b3 ⟨36, true, [uv, tv]⟩ = H1 at *
  simp only [↓WP, WQ, if_true, if_false, eq_self, implies_true, ne_eq, List.nil_append, List.cons_append, ↓reduceIte, Nat.reduceEqDiff, Nat.reduceBEq, reduceCtorEq, Nat.reduceAdd, resA, ret1, qv, lv, ev, boolA, binA, intA, shiftA, cmpA, beqA, lres]
  refine NewRowd_in fun b4 hb4 => ?_
  have o := o.push (x := ⟨36, true, [.nils, .nils]⟩) hb4
  have hR := hR.Ext (Ext.set (x := ⟨36, true, [.nils, .nils]⟩) hb4)
  generalize H1.set b4 ⟨36, true, [.nils, .nils]⟩ = H2 at *
  simp only [↓WP, WQ, if_true, if_false, eq_self, implies_true, ne_eq, List.nil_append, List.cons_append, ↓reduceIte, Nat.reduceEqDiff, Nat.reduceBEq, reduceCtorEq, Nat.reduceAdd, resA, ret1, qv, lv, ev, boolA, binA, intA, shiftA, cmpA, beqA, lres]
  refine pick_d hR (by omega) fun v1 H3 v0 v1' _ hR hF => ?_
  have o := o.fxs hF (fun _ e => e)
  have g3 := o.get (i := 1) rfl
  have g4 := o.get (i := 0) rfl
  have hb4n : H b4 = none := o.new (b4, ⟨36, true, [.nils, .nils]⟩) (by simp)
  refine (Classical.em (0 < v1)).elim (fun c0 => ?_) (fun c0 => ?_) <;> simp only [↓WP, WQ, if_true, if_false, eq_self, implies_true, ne_eq, List.nil_append, List.cons_append, ↓reduceIte, Nat.reduceEqDiff, Nat.reduceBEq, reduceCtorEq, Nat.reduceAdd, resA, ret1, qv, lv, ev, boolA, binA, intA, shiftA, cmpA, beqA, lres, c0]
  · simp only [↓WP, WQ, if_true, if_false, eq_self, implies_true, ne_eq, List.nil_append, List.cons_append, ↓reduceIte, Nat.reduceEqDiff, Nat.reduceBEq, reduceCtorEq, Nat.reduceAdd, resA, ret1, qv, lv, ev, boolA, binA, intA, shiftA, cmpA, beqA, lres, atN_two g3, stA_two (x := uv) (y := tv) g4 (lenA_scal hu.len) (lenA_scal ht.len)]
    have o' := o.upd (i := 0) (y := ⟨36, true, [uv, tv]⟩) rfl
    simp only [↓WP, WQ, if_true, if_false, eq_self, implies_true, ne_eq, List.nil_append, List.cons_append, ↓reduceIte, Nat.reduceEqDiff, Nat.reduceBEq, reduceCtorEq, Nat.reduceAdd, resA, ret1, qv, lv, ev, boolA, binA, intA, shiftA, cmpA, beqA, lres, atN_two (o'.get (i := 0) rfl)]
    exact hq _ ⟨l, T⟩ _ ((hR.set RH hb4n).mono (by omega)) o'.fx ((hN.ra ⟨s1, s2, s3⟩ hn).fxs o'.fx R0.ex)
  have hu3 : Ints H3 uv l := by
    obtain ⟨uv', tv', e, h1, h2⟩ := (hN.fxs o.fx (fun _ e => e)).open
    simp only [AV.agg.injEq, List.cons.injEq, and_true] at e
    obtain ⟨rfl, rfl⟩ := e
    exact h1
  have ht3 : Mat H3 tv T := by
    obtain ⟨uv', tv', e, h1, h2⟩ := (hN.fxs o.fx (fun _ e => e)).open
    simp only [AV.agg.injEq, List.cons.injEq, and_true] at e
    obtain ⟨rfl, rfl⟩ := e
    exact h2
  have hb3s := some_ne g3
  have keep : ∀ {G G' : Hp}, Ext H3 G → Ext H3 G' → ∀ q, q = b3 → G' q = G q := fun h h' q hq => by
    rw [hq, h' b3 hb3s, h b3 hb3s]
  have hTr : ∀ x : Int, 0 ≤ x → x < T.length → (T.getD x.toNat []).length ≤ 1000000000 := fun x h0 h1 => by rw [SqT.row (n := n) ⟨s2, s3⟩ (by omega)]; omega
  refine DR_to (fun q => q = b3) (fun e' G => (e' 0 = .ptr r 0 ∧ e' 4 = .ptr b4 0) ∧ ∃ b5 u q t, e' 5 = .ptr b5 0 ∧ t.map Prod.snd = T ∧
    Own (is r) H G ((b5, ⟨36, true, [.sl u 0 l.length, .sl q 0 T.length]⟩) :: (u, LI l) :: (q, TR t) :: (tl t ++ [(b4, ⟨36, true, [.nils, .nils]⟩)])) ∧ Rd B G r (K + 1)) ?_ ?_
  · have fin : ∀ (b5 u q : Nat) (t : List (Nat × List Int)) (G : Hp), Own no H3 G ((b5, ⟨36, true, [.nils, .nils]⟩) :: (u, LI l) :: (q, TR t) :: tl t) → 
        stA G 2 (.ptr b5 0) (.agg [.sl u 0 l.length, .sl q 0 T.length]) = some (G.set b5 ⟨36, true, [.sl u 0 l.length, .sl q 0 T.length]⟩) ∧ (∀ x, x = b3 → (G.set b5 ⟨36, true, [.sl u 0 l.length, .sl q 0 T.length]⟩) x = G x) ∧
        Own (is r) H (G.set b5 ⟨36, true, [.sl u 0 l.length, .sl q 0 T.length]⟩) ((b5, ⟨36, true, [.sl u 0 l.length, .sl q 0 T.length]⟩) :: (u, LI l) :: (q, TR t) :: (tl t ++ [(b4, ⟨36, true, [.nils, .nils]⟩)])) ∧
        Rd B (G.set b5 ⟨36, true, [.sl u 0 l.length, .sl q 0 T.length]⟩) r (K + 1) := by
      intro b5 u q t G p
      have p' := p.upd (i := 0) (y := ⟨36, true, [.sl u 0 l.length, .sl q 0 T.length]⟩) rfl
      refine ⟨stA_two (p.get (i := 0) rfl) rfl rfl, fun x hx => ?_, ?_, hR.Ext p'.ext'⟩
      · rw [hx, p'.ext' b3 hb3s, p.ext' b3 hb3s]
      · have := o.call p' (fun _ e => e.elim)
        refine this.sub ?_
        simp only [List.set_cons_zero, List.cons_append]
        exact .cons_cons _ (.cons_cons _ (.cons_cons _ (List.Sublist.append (.refl _) (.cons_cons _ (List.nil_sublist _)))))
    simp only [↓WP, WQ, if_true, if_false, eq_self, implies_true, ne_eq, List.nil_append, List.cons_append, ↓reduceIte, Nat.reduceEqDiff, Nat.reduceBEq, reduceCtorEq, Nat.reduceAdd, resA, ret1, qv, lv, ev, boolA, binA, intA, shiftA, cmpA, beqA, lres, ↓WD_q, ↓WD_ql, ↓WD_l, List.length_cons, List.length_nil, at_fst g3, at_snd g3, loadS, ev, bsl0]
    refine NewRowd_in fun u0 hu0 => ?_
    have p0 := Own.nil0.push (x := LI []) hu0
    have hu3 := hu3.ext p0.ext'
    have e0 : (⟨3, true, []⟩ : Row) = LI [] := rfl
    rw [e0]
    generalize H3.set u0 (LI []) = G0 at *
    simp only [↓WP, WQ, if_true, if_false, eq_self, implies_true, ne_eq, List.nil_append, List.cons_append, ↓reduceIte, Nat.reduceEqDiff, Nat.reduceBEq, reduceCtorEq, Nat.reduceAdd, resA, ret1, qv, lv, ev, boolA, binA, intA, shiftA, cmpA, beqA, lres]
    refine WD_alt ?_ (alts_no rfl (alts_no rfl (alts_yes rfl ?_ (alts_no rfl alts_end))))
    · rw [TD_app]
      simp only [↓WP, WQ, if_true, if_false, eq_self, implies_true, ne_eq, List.nil_append, List.cons_append, ↓reduceIte, Nat.reduceEqDiff, Nat.reduceBEq, reduceCtorEq, Nat.reduceAdd, resA, ret1, qv, lv, ev, boolA, binA, intA, shiftA, cmpA, beqA, lres]
      refine p0.app_copy (i := 0) rfl hu3 (by omega) fun u G1 p1 => ⟨keep p0.ext' p1.ext', ?_⟩
      simp only [List.set_cons_zero] at p1
      refine WD_alt ?_ (alts_no rfl (alts_yes rfl ?_ (alts_no rfl alts_end)))
      · rw [TD_callf]
        simp only [↓WP, WQ, if_true, if_false, eq_self, implies_true, ne_eq, List.nil_append, List.cons_append, ↓reduceIte, Nat.reduceEqDiff, Nat.reduceBEq, reduceCtorEq, Nat.reduceAdd, resA, ret1, qv, lv, ev, boolA, binA, intA, shiftA, cmpA, beqA, lres]
        refine copyTable_c (ht3.ext p1.ext') (by omega) hTr fun q t G2 hmap p2 => ⟨keep p1.ext' (p1.call p2 (fun _ e => e)).ext', ?_⟩
        have p2 := p1.call p2 (fun _ e => e)
        simp only [↓WP, WQ, if_true, if_false, eq_self, implies_true, ne_eq, List.nil_append, List.cons_append, ↓reduceIte, Nat.reduceEqDiff, Nat.reduceBEq, reduceCtorEq, Nat.reduceAdd, resA, ret1, qv, lv, ev, boolA, binA, intA, shiftA, cmpA, beqA, lres, ↓WD_q, ↓WD_ql, ↓WD_l, fillA_ab (a := .sl u 0 l.length) (b := .sl q 0 T.length) rfl rfl]
        refine NewRowd_in fun b5 hb5 => ?_
        have p3 := p2.push (x := ⟨36, true, [.nils, .nils]⟩) hb5
        have p3 := p3.perm (M := (b5, ⟨36, true, [.nils, .nils]⟩) :: (u, LI l) :: (q, TR t) :: tl t) (.cons _ (List.perm_append_singleton _ _))
        obtain ⟨f1, f2, f3, f4⟩ := fin b5 u q t _ p3
        simp only [↓WP, WQ, if_true, if_false, eq_self, implies_true, ne_eq, List.nil_append, List.cons_append, ↓reduceIte, Nat.reduceEqDiff, Nat.reduceBEq, reduceCtorEq, Nat.reduceAdd, resA, ret1, qv, lv, ev, boolA, binA, intA, shiftA, cmpA, beqA, lres, ↓WD_store, f1]
        refine ⟨f2, ?_⟩
        simp only [WD_nil, ↓WP, WQ, if_true, if_false, eq_self, implies_true, ne_eq, List.nil_append, List.cons_append, ↓reduceIte, Nat.reduceEqDiff, Nat.reduceBEq, reduceCtorEq, Nat.reduceAdd, resA, ret1, qv, lv, ev, boolA, binA, intA, shiftA, cmpA, beqA, lres]
        exact ⟨b5, u, q, t, rfl, hmap, f3, f4⟩
      · rw [TD_l]
        simp only [↓WP, WQ, if_true, if_false, eq_self, implies_true, ne_eq, List.nil_append, List.cons_append, ↓reduceIte, Nat.reduceEqDiff, Nat.reduceBEq, reduceCtorEq, Nat.reduceAdd, resA, ret1, qv, lv, ev, boolA, binA, intA, shiftA, cmpA, beqA, lres]
        refine NewRowd_in fun b5 hb5 => ?_
        have p1 := p1.push (x := ⟨36, true, [.nils, .nils]⟩) hb5
        refine WD_alt ?_ (alts_no rfl (alts_no rfl alts_end))
        rw [TD_callf]
        simp only [↓WP, WQ, if_true, if_false, eq_self, implies_true, ne_eq, List.nil_append, List.cons_append, ↓reduceIte, Nat.reduceEqDiff, Nat.reduceBEq, reduceCtorEq, Nat.reduceAdd, resA, ret1, qv, lv, ev, boolA, binA, intA, shiftA, cmpA, beqA, lres]
        refine copyTable_c (ht3.ext p1.ext') (by omega) hTr fun q t G2 hmap p2 => ⟨keep p1.ext' (p1.call p2 (fun _ e => e)).ext', ?_⟩
        have p3 := (p1.call p2 (fun _ e => e)).perm (M := (b5, ⟨36, true, [.nils, .nils]⟩) :: (u, LI l) :: (q, TR t) :: tl t) List.perm_append_comm
        obtain ⟨f1, f2, f3, f4⟩ := fin b5 u q t _ p3
        simp only [↓WP, WQ, if_true, if_false, eq_self, implies_true, ne_eq, List.nil_append, List.cons_append, ↓reduceIte, Nat.reduceEqDiff, Nat.reduceBEq, reduceCtorEq, Nat.reduceAdd, resA, ret1, qv, lv, ev, boolA, binA, intA, shiftA, cmpA, beqA, lres, ↓WD_q, ↓WD_ql, ↓WD_l, ↓WD_store, fillA_ab (a := .sl u 0 l.length) (b := .sl q 0 T.length) rfl rfl, f1]
        refine ⟨f2, ?_⟩
        simp only [WD_nil, ↓WP, WQ, if_true, if_false, eq_self, implies_true, ne_eq, List.nil_append, List.cons_append, ↓reduceIte, Nat.reduceEqDiff, Nat.reduceBEq, reduceCtorEq, Nat.reduceAdd, resA, ret1, qv, lv, ev, boolA, binA, intA, shiftA, cmpA, beqA, lres]
        exact ⟨b5, u, q, t, rfl, hmap, f3, f4⟩
    · rw [TD_l]
      simp only [↓WP, WQ, if_true, if_false, eq_self, implies_true, ne_eq, List.nil_append, List.cons_append, ↓reduceIte, Nat.reduceEqDiff, Nat.reduceBEq, reduceCtorEq, Nat.reduceAdd, resA, ret1, qv, lv, ev, boolA, binA, intA, shiftA, cmpA, beqA, lres]
      refine NewRowd_in fun b5 hb5 => ?_
      have p0 := p0.push (x := ⟨36, true, [.nils, .nils]⟩) hb5
      refine WD_alt ?_ (alts_no rfl (alts_no rfl (alts_no rfl alts_end)))
      rw [TD_app]
      simp only [↓WP, WQ, if_true, if_false, eq_self, implies_true, ne_eq, List.nil_append, List.cons_append, ↓reduceIte, Nat.reduceEqDiff, Nat.reduceBEq, reduceCtorEq, Nat.reduceAdd, resA, ret1, qv, lv, ev, boolA, binA, intA, shiftA, cmpA, beqA, lres]
      refine p0.app_copy (i := 1) rfl (hu3.ext (Ext.set hb5)) (by omega) fun u G1 p1 => ⟨keep p0.ext' p1.ext', ?_⟩
      refine WD_alt ?_ (alts_no rfl (alts_no rfl alts_end))
      rw [TD_callf]
      simp only [↓WP, WQ, if_true, if_false, eq_self, implies_true, ne_eq, List.nil_append, List.cons_append, ↓reduceIte, Nat.reduceEqDiff, Nat.reduceBEq, reduceCtorEq, Nat.reduceAdd, resA, ret1, qv, lv, ev, boolA, binA, intA, shiftA, cmpA, beqA, lres]
      refine copyTable_c (ht3.ext p1.ext') (by omega) hTr fun q t G2 hmap p2 => ⟨keep p1.ext' (p1.call p2 (fun _ e => e)).ext', ?_⟩
      have p3 := (p1.call p2 (fun _ e => e)).perm (M := (b5, ⟨36, true, [.nils, .nils]⟩) :: (u, LI l) :: (q, TR t) :: tl t) List.perm_append_comm
      obtain ⟨f1, f2, f3, f4⟩ := fin b5 u q t _ p3
      simp only [↓WP, WQ, if_true, if_false, eq_self, implies_true, ne_eq, List.nil_append, List.cons_append, ↓reduceIte, Nat.reduceEqDiff, Nat.reduceBEq, reduceCtorEq, Nat.reduceAdd, resA, ret1, qv, lv, ev, boolA, binA, intA, shiftA, cmpA, beqA, lres, ↓WD_q, ↓WD_ql, ↓WD_l, ↓WD_store, fillA_ab (a := .sl u 0 l.length) (b := .sl q 0 T.length) rfl rfl, f1]
      refine ⟨f2, ?_⟩
      simp only [WD_nil, ↓WP, WQ, if_true, if_false, eq_self, implies_true, ne_eq, List.nil_append, List.cons_append, ↓reduceIte, Nat.reduceEqDiff, Nat.reduceBEq, reduceCtorEq, Nat.reduceAdd, resA, ret1, qv, lv, ev, boolA, binA, intA, shiftA, cmpA, beqA, lres]
      exact ⟨b5, u, q, t, rfl, hmap, f3, f4⟩
  · rintro e G ⟨⟨s0, s4⟩, b5, u, q, t, s5, hmap, o, hR⟩
    have htn : t.length = n := by rw [← s2, ← hmap, List.length_map]
    have hSq : SqT n (t.map Prod.snd) := by rw [hmap]; exact ⟨s2, s3⟩
    have hTl : T.length = n := s2
    have g5 := o.get (i := 0) rfl
    simp only [↓WP, WQ, if_true, if_false, eq_self, implies_true, ne_eq, List.nil_append, List.cons_append, ↓reduceIte, Nat.reduceEqDiff, Nat.reduceBEq, reduceCtorEq, Nat.reduceAdd, resA, ret1, qv, lv, ev, boolA, binA, intA, shiftA, cmpA, beqA, lres, s0, s5, at_fst g5]
    refine pick_d hR (by omega) fun k G1 k0 k1 _ hR hF => ?_
    have hk := k1 (by omega)
    have o := o.fxs hF (fun _ e => e)
    simp only [↓WP, WQ, if_true, if_false, eq_self, implies_true, ne_eq, List.nil_append, List.cons_append, ↓reduceIte, Nat.reduceEqDiff, Nat.reduceBEq, reduceCtorEq, Nat.reduceAdd, resA, ret1, qv, lv, ev, boolA, binA, intA, shiftA, cmpA, beqA, lres, s0]
    refine pick_d hR (by omega) fun v5 G2 v50 v51 _ hR hF => ?_
    have hv5 := v51 (by omega)
    have o := o.fxs hF (fun _ e => e)
    have RG2 := hR
    have g5 := o.get (i := 0) rfl
    have gq := o.get (i := 2) rfl
    have hun : H u = none := o.new (u, LI l) (by simp)
    have hkt : k.toNat < t.length := by omega
    have ik : idxA 1 (.sl q 0 n) (.int .i64 k) = some (.ptr q k.toNat) := sl_idx k0 (by omega)
    have ikT : idxA 1 (.sl q 0 T.length) (.int .i64 k) = some (.ptr q k.toNat) := by rw [hTl]; exact ik
    have hrowl := (SqT.of hSq).2 k.toNat hkt
    have last : ∀ (uv tv : AV) (A : Alg) (M : List (Nat × Row)) (G : Hp) (K' : Int), K' ≤ K + 5 → uv.scal = true → tv.scal = true → Own (is r) H G ((b4, ⟨36, true, [.nils, .nils]⟩) :: M) → Rd B G r K' → (∀ G', Own (is r) H G' M → RA H0 G' (.agg [uv, tv]) A) →
        stA G 2 (.ptr b4 0) (.agg [uv, tv]) = some (G.set b4 ⟨36, true, [uv, tv]⟩) ∧ (G.set b4 ⟨36, true, [uv, tv]⟩).atN (.ptr b4 0) 2 = some [uv, tv] ∧ Q (.agg [uv, tv]) (G.set b4 ⟨36, true, [uv, tv]⟩) := by
      intro uv tv A M G K' hK' hu ht o hR hA
      have o' := o.upd (i := 0) (y := ⟨36, true, [uv, tv]⟩) rfl
      exact ⟨stA_two (o.get (i := 0) rfl) hu ht, atN_two (Hp.set_same _ _ _), hq _ A _ ((hR.set RH hb4n).mono (by omega)) o'.fx (hA _ o'.tail)⟩
    have toB4 : ∀ {G : Hp} {a b c : Nat × Row} {L : List (Nat × Row)}, Own (is r) H G (a :: b :: c :: (L ++ [(b4, ⟨36, true, [.nils, .nils]⟩)])) → Own (is r) H G ((b4, ⟨36, true, [.nils, .nils]⟩) :: a :: b :: c :: L) := by
      intro G a b c L o
      exact o.perm (List.perm_append_singleton _ (a :: b :: c :: L))
    have hl7 : l.length ≤ 7 := by omega
    refine (Classical.em (v5 = 0)).elim (fun c0 => ?_) (fun c0 => ?_)
    · simp only [↓WP, WQ, if_true, if_false, eq_self, implies_true, ne_eq, List.nil_append, List.cons_append, ↓reduceIte, Nat.reduceEqDiff, Nat.reduceBEq, reduceCtorEq, Nat.reduceAdd, resA, ret1, qv, lv, ev, boolA, binA, intA, shiftA, cmpA, beqA, lres, c0]
      have gt : G2 (t[k.toNat]).1 = some (LI (t[k.toNat]).2) := o.has ((t[k.toNat]).1, LI (t[k.toNat]).2) (by
        simp only [List.mem_cons, List.mem_append]
        exact Or.inr (Or.inr (Or.inr (Or.inl (List.mem_map.2 ⟨_, List.getElem_mem hkt, rfl⟩)))))
      refine DR_to (fun x => x = b5 ∨ x = q) (fun e' G => (e' 0 = .ptr r 0 ∧ e' 4 = .ptr b4 0 ∧ e' 5 = .ptr b5 0) ∧ ∃ t', SqT n (t'.map Prod.snd) ∧
        Own (is r) H G ((b5, ⟨36, true, [.sl u 0 l.length, .sl q 0 T.length]⟩) :: (u, LI l) :: (q, TR t') :: (tl t' ++ [(b4, ⟨36, true, [.nils, .nils]⟩)])) ∧ Rd B G r (K + 5)) ?_ ?_
      · have kp : ∀ {G G' : Hp} {L L' : List (Nat × Row)}, Own (is r) H G L → Own (is r) H G' L' → (b5, (⟨36, true, [.sl u 0 l.length, .sl q 0 T.length]⟩ : Row)) ∈ L → (b5, (⟨36, true, [.sl u 0 l.length, .sl q 0 T.length]⟩ : Row)) ∈ L' → (q, TR t) ∈ L → (q, TR t) ∈ L' → ∀ x, x = b5 ∨ x = q → G' x = G x := by
          intro G G' L L' o o' h1 h2 h3 h4 x hx
          rcases hx with hx | hx <;> rw [hx]
          · exact (o'.has _ h2).trans (o.has _ h1).symm
          · exact (o'.has _ h4).trans (o.has _ h3).symm
        have fin : ∀ (G : Hp) (j z : Int), 0 ≤ j → j < n → Own (is r) H G ((b5, ⟨36, true, [.sl u 0 l.length, .sl q 0 T.length]⟩) :: (u, LI l) :: (q, TR t) :: (tl t ++ [(b4, ⟨36, true, [.nils, .nils]⟩)])) → Rd B G r (K + 5) →
            ∃ G', idxA 1 (.sl (t[k.toNat]).1 0 (t[k.toNat]).2.length) (.int .i64 j) = some (.ptr (t[k.toNat]).1 j.toNat) ∧ stA G 1 (.ptr (t[k.toNat]).1 j.toNat) (.int .i64 z) = some G' ∧ (∀ x, x = b5 ∨ x = q → G' x = G x) ∧
            ∃ t', SqT n (t'.map Prod.snd) ∧ Own (is r) H G' ((b5, ⟨36, true, [.sl u 0 l.length, .sl q 0 T.length]⟩) :: (u, LI l) :: (q, TR t') :: (tl t' ++ [(b4, ⟨36, true, [.nils, .nils]⟩)])) ∧ Rd B G' r (K + 5) := by
          intro G j z j0 j1 o hR
          have hj : j.toNat < (t[k.toNat]).2.length := by omega
          obtain ⟨p1, p2⟩ := Own.put (A := [(b5, ⟨36, true, [.sl u 0 l.length, .sl q 0 T.length]⟩), (u, LI l)]) (M := [(b4, ⟨36, true, [.nils, .nils]⟩)]) (z := z) o hkt hj
          have hTR : TR (t.set k.toNat ((t[k.toNat]).1, (t[k.toNat]).2.set j.toNat z)) = TR t := by
            have e := p2.has (q, TR (t.set k.toNat ((t[k.toNat]).1, (t[k.toNat]).2.set j.toNat z))) (by simp)
            have hne : q ≠ (t[k.toNat]).1 := by
              intro e
              have h1 := o.has (q, TR t) (by simp)
              have h2 := o.has ((t[k.toNat]).1, LI (t[k.toNat]).2) (by
                simp only [List.mem_cons, List.mem_append]
                exact Or.inr (Or.inr (Or.inr (Or.inl (List.mem_map.2 ⟨_, List.getElem_mem hkt, rfl⟩)))))
              simp only at h1 h2
              rw [← e, h1] at h2
              have := congrArg (fun x => x.map Row.ty) h2
              simp [TR, LI] at this
            have h1 := o.has (q, TR t) (by simp)
            simp only [Hp.set, hne, if_false] at e h1
            rw [h1] at e
            exact (Option.some.inj e).symm
          refine ⟨_, sl_idx j0 (by omega), p1, ?_, _, ?_, p2, hR.set RH (o.new ((t[k.toNat]).1, LI (t[k.toNat]).2) (by
                simp only [List.mem_cons, List.mem_append]
                exact Or.inr (Or.inr (Or.inr (Or.inl (List.mem_map.2 ⟨_, List.getElem_mem hkt, rfl⟩))))))⟩
          · refine kp o p2 (by simp) (by simp) (by simp) ?_
            rw [hTR]; simp
          · rw [snd_set hkt]
            exact hSq.put (by omega)
        simp only [↓WP, WQ, if_true, if_false, eq_self, implies_true, ne_eq, List.nil_append, List.cons_append, ↓reduceIte, Nat.reduceEqDiff, Nat.reduceBEq, reduceCtorEq, Nat.reduceAdd, resA, ret1, qv, lv, ev, boolA, binA, intA, shiftA, cmpA, beqA, lres, ↓WD_q, ↓WD_ql, ↓WD_l, List.length_cons, List.length_nil, s0, s4, s5, at_fst g5, at_snd g5, loadS, ev, ikT, tr_cell gq hkt, true_or, or_true]
        refine WD_alt ?_ (alts_yes rfl ?_ (alts_no rfl (alts_no rfl (alts_no rfl alts_end))))
        · rw [TD_callf]
          simp only [↓WP, WQ, if_true, if_false, eq_self, implies_true, ne_eq, List.nil_append, List.cons_append, ↓reduceIte, Nat.reduceEqDiff, Nat.reduceBEq, reduceCtorEq, Nat.reduceAdd, resA, ret1, qv, lv, ev, boolA, binA, intA, shiftA, cmpA, beqA, lres]
          refine pick_d hR (by omega) fun j G3 j0 j1 _ hR hF => ?_
          have o3 := o.fxs hF (fun _ e => e)
          refine ⟨kp o o3 (by simp) (by simp) (by simp) (by simp), ?_⟩
          simp only [↓WP, WQ, if_true, if_false, eq_self, implies_true, ne_eq, List.nil_append, List.cons_append, ↓reduceIte, Nat.reduceEqDiff, Nat.reduceBEq, reduceCtorEq, Nat.reduceAdd, resA, ret1, qv, lv, ev, boolA, binA, intA, shiftA, cmpA, beqA, lres, ↓WD_q, ↓WD_ql, ↓WD_l, bsl4]
          refine NewRowd_in fun r2 hr2 => ?_
          have o4 := o3.push (x := LI [0, 1, -1, 6]) hr2
          have hr2r := hR.ne hr2
          have hR := hR.Ext (Ext.set (x := LI [0, 1, -1, 6]) hr2)
          simp only [↓WP, WQ, if_true, if_false, eq_self, implies_true, ne_eq, List.nil_append, List.cons_append, ↓reduceIte, Nat.reduceEqDiff, Nat.reduceBEq, reduceCtorEq, Nat.reduceAdd, resA, ret1, qv, lv, ev, boolA, binA, intA, shiftA, cmpA, beqA, lres, ↓WD_callf]
          refine one_d (l := [0, 1, -1, 6]) hR (by omega) ⟨r2, rfl, Hp.set_same _ _ _, hr2r⟩ (by simp) fun i G4 i0 i1 hR hF => ?_
          have o5 := (o4.fxs hF (fun _ e => e)).tail
          refine ⟨kp o4 o5 (by simp) (by simp) (by simp) (by simp), ?_⟩
          obtain ⟨G', f1, f2, f3, f4⟩ := fin G4 j ([0, 1, -1, 6].getD i.toNat 0) j0 (by have := j1 (by omega); omega) o5 (hR.mono (by omega))
          simp only [↓WP, WQ, if_true, if_false, eq_self, implies_true, ne_eq, List.nil_append, List.cons_append, ↓reduceIte, Nat.reduceEqDiff, Nat.reduceBEq, reduceCtorEq, Nat.reduceAdd, resA, ret1, qv, lv, ev, boolA, binA, intA, shiftA, cmpA, beqA, lres, ↓WD_q, ↓WD_ql, ↓WD_l, ↓WD_store, f1, f2]
          refine ⟨f3, ?_⟩
          simp only [WD_nil, ↓WP, WQ, if_true, if_false, eq_self, implies_true, ne_eq, List.nil_append, List.cons_append, ↓reduceIte, Nat.reduceEqDiff, Nat.reduceBEq, reduceCtorEq, Nat.reduceAdd, resA, ret1, qv, lv, ev, boolA, binA, intA, shiftA, cmpA, beqA, lres, s0, s4, s5]
          exact f4
        · rw [TD_l]
          simp only [↓WP, WQ, if_true, if_false, eq_self, implies_true, ne_eq, List.nil_append, List.cons_append, ↓reduceIte, Nat.reduceEqDiff, Nat.reduceBEq, reduceCtorEq, Nat.reduceAdd, resA, ret1, qv, lv, ev, boolA, binA, intA, shiftA, cmpA, beqA, lres, bsl4]
          refine NewRowd_in fun r2 hr2 => ?_
          have o4 := o.push (x := LI [0, 1, -1, 6]) hr2
          have hr2r := hR.ne hr2
          have hR := hR.Ext (Ext.set (x := LI [0, 1, -1, 6]) hr2)
          refine WD_alt ?_ (alts_no rfl (alts_no rfl (alts_no rfl alts_end)))
          rw [TD_callf]
          simp only [↓WP, WQ, if_true, if_false, eq_self, implies_true, ne_eq, List.nil_append, List.cons_append, ↓reduceIte, Nat.reduceEqDiff, Nat.reduceBEq, reduceCtorEq, Nat.reduceAdd, resA, ret1, qv, lv, ev, boolA, binA, intA, shiftA, cmpA, beqA, lres]
          refine pick_d hR (by omega) fun j G3 j0 j1 _ hR hF => ?_
          have o3 := o4.fxs hF (fun _ e => e)
          refine ⟨kp o4 o3 (by simp) (by simp) (by simp) (by simp), ?_⟩
          simp only [↓WP, WQ, if_true, if_false, eq_self, implies_true, ne_eq, List.nil_append, List.cons_append, ↓reduceIte, Nat.reduceEqDiff, Nat.reduceBEq, reduceCtorEq, Nat.reduceAdd, resA, ret1, qv, lv, ev, boolA, binA, intA, shiftA, cmpA, beqA, lres, ↓WD_callf]
          refine one_d (l := [0, 1, -1, 6]) hR (by omega) ⟨r2, rfl, o3.get (i := 0) rfl, hr2r⟩ (by simp) fun i G4 i0 i1 hR hF => ?_
          have o5 := (o3.fxs hF (fun _ e => e)).tail
          refine ⟨kp o3 o5 (by simp) (by simp) (by simp) (by simp), ?_⟩
          obtain ⟨G', f1, f2, f3, f4⟩ := fin G4 j ([0, 1, -1, 6].getD i.toNat 0) j0 (by have := j1 (by omega); omega) o5 (hR.mono (by omega))
          simp only [↓WP, WQ, if_true, if_false, eq_self, implies_true, ne_eq, List.nil_append, List.cons_append, ↓reduceIte, Nat.reduceEqDiff, Nat.reduceBEq, reduceCtorEq, Nat.reduceAdd, resA, ret1, qv, lv, ev, boolA, binA, intA, shiftA, cmpA, beqA, lres, ↓WD_q, ↓WD_ql, ↓WD_l, ↓WD_store, f1, f2]
          refine ⟨f3, ?_⟩
          simp only [WD_nil, ↓WP, WQ, if_true, if_false, eq_self, implies_true, ne_eq, List.nil_append, List.cons_append, ↓reduceIte, Nat.reduceEqDiff, Nat.reduceBEq, reduceCtorEq, Nat.reduceAdd, resA, ret1, qv, lv, ev, boolA, binA, intA, shiftA, cmpA, beqA, lres, s0, s4, s5]
          exact f4
      · rintro e G ⟨⟨s0, s4, s5⟩, t', hSq', o, hR⟩
        have htn' : t'.length = n := (SqT.of hSq').1
        obtain ⟨l1, l2, l3⟩ := last (.sl u 0 l.length) (.sl q 0 T.length) ⟨l, t'.map Prod.snd⟩ _ _ (K + 5) (by omega) rfl rfl (toB4 o) hR (fun G' o' => by
          have := ra_tab (u := u) (l := l) (q := q) (t := t') o' hsub (by simp) (by simp) (fun p hp => by simp [hp]) hl7 (by omega) (fun p hp => by rw [hSq'.2 _ (List.mem_map.2 ⟨p, hp, rfl⟩)]; omega)
          rwa [htn', ← hTl] at this)
        simp only [↓WP, WQ, if_true, if_false, eq_self, implies_true, ne_eq, List.nil_append, List.cons_append, ↓reduceIte, Nat.reduceEqDiff, Nat.reduceBEq, reduceCtorEq, Nat.reduceAdd, resA, ret1, qv, lv, ev, boolA, binA, intA, shiftA, cmpA, beqA, lres, s5, s4, atN_two (o.get (i := 0) rfl), l1, l2]
        exact l3
    refine (Classical.em (v5 = 1)).elim (fun c1 => ?_) (fun c1 => ?_)
    · simp only [↓WP, WQ, if_true, if_false, eq_self, implies_true, ne_eq, List.nil_append, List.cons_append, ↓reduceIte, Nat.reduceEqDiff, Nat.reduceBEq, reduceCtorEq, Nat.reduceAdd, resA, ret1, qv, lv, ev, boolA, binA, intA, shiftA, cmpA, beqA, lres, c1, Int.reduceEq]
      refine DR_in (fun x => x = b5) rfl ?_
      simp only [↓WP, WQ, if_true, if_false, eq_self, implies_true, ne_eq, List.nil_append, List.cons_append, ↓reduceIte, Nat.reduceEqDiff, Nat.reduceBEq, reduceCtorEq, Nat.reduceAdd, resA, ret1, qv, lv, ev, boolA, binA, intA, shiftA, cmpA, beqA, lres, loadS, ev, s5, s0, at_fst g5, bsl3]
      refine NewRowd_in fun r2 hr2 => ?_
      have o4 := o.push (x := LI [0, 3, -1]) hr2
      have hr2r := hR.ne hr2
      have hR := hR.Ext (Ext.set (x := LI [0, 3, -1]) hr2)
      simp only [↓WP, WQ, if_true, if_false, eq_self, implies_true, ne_eq, List.nil_append, List.cons_append, ↓reduceIte, Nat.reduceEqDiff, Nat.reduceBEq, reduceCtorEq, Nat.reduceAdd, resA, ret1, qv, lv, ev, boolA, binA, intA, shiftA, cmpA, beqA, lres, s0]
      refine one_d (l := [0, 3, -1]) hR (by omega) ⟨r2, rfl, Hp.set_same _ _ _, hr2r⟩ (by simp) fun i G4 i0 i1 hR hF => ?_
      have o5 := (o4.fxs hF (fun _ e => e)).tail
      have h5 := o5.get (i := 0) rfl
      refine ⟨fun x hx => by rw [hx]; exact h5.trans (o4.get (i := 1) rfl).symm, ?_⟩
      have st := stA_li (z := [0, 3, -1].getD i.toNat 0) (o5.get (i := 1) rfl) (show k.toNat < l.length by omega)
      have o6 := o5.upd (i := 1) (y := LI (l.set k.toNat ([0, 3, -1].getD i.toNat 0))) rfl
      have h6 := o6.get (i := 0) rfl
      have hR := hR.set (x := LI (l.set k.toNat ([0, 3, -1].getD i.toNat 0))) RH (o5.new (u, LI l) (by simp))
      simp only [↓WP, WQ, if_true, if_false, eq_self, implies_true, ne_eq, List.nil_append, List.cons_append, ↓reduceIte, Nat.reduceEqDiff, Nat.reduceBEq, reduceCtorEq, Nat.reduceAdd, resA, ret1, qv, lv, ev, boolA, binA, intA, shiftA, cmpA, beqA, lres, s0, s5, sl_idx k0 hk, st]
      refine ⟨fun x hx => by rw [hx]; exact h6.trans h5.symm, ?_⟩
      have hll : (l.set k.toNat ([0, 3, -1].getD i.toNat 0)).length = l.length := List.length_set
      generalize l.set k.toNat ([0, 3, -1].getD i.toNat 0) = l' at *
      simp only [List.set_cons_succ, List.set_cons_zero] at o6
      obtain ⟨l1, l2, l3⟩ := last (.sl u 0 l.length) (.sl q 0 T.length) ⟨l', T⟩ _ _ (K + 5) (by omega) rfl rfl (toB4 o6) (hR.mono (by omega)) (fun G' o' => by
        have := ra_tab (u := u) (l := l') (q := q) (t := t) o' hsub (by simp) (by simp) (fun p hp => by simp [hp]) (by omega) (by omega) (fun p hp => by rw [hSq.2 _ (List.mem_map.2 ⟨p, hp, rfl⟩)]; omega)
        rwa [htn, ← hTl, hmap, hll] at this)
      simp only [↓WP, WQ, if_true, if_false, eq_self, implies_true, ne_eq, List.nil_append, List.cons_append, ↓reduceIte, Nat.reduceEqDiff, Nat.reduceBEq, reduceCtorEq, Nat.reduceAdd, resA, ret1, qv, lv, ev, boolA, binA, intA, shiftA, cmpA, beqA, lres, s5, s4, atN_two h6, l1, l2]
      exact l3
    refine (Classical.em (v5 = 2)).elim (fun c2 => ?_) (fun c2 => ?_)
    · have st := stA_snd (y := restV q n) g5 (restV_scal q n)
      rw [hTl] at g5
      simp only [↓WP, WQ, if_true, if_false, eq_self, implies_true, ne_eq, List.nil_append, List.cons_append, ↓reduceIte, Nat.reduceEqDiff, Nat.reduceBEq, reduceCtorEq, Nat.reduceAdd, resA, ret1, qv, lv, ev, boolA, binA, intA, shiftA, cmpA, beqA, lres, c2, Int.reduceEq, s5, at_snd g5, Option.map_some, Option.map_none, ev, slA_rest hn1, st]
      have o := o.upd (i := 0) (y := ⟨36, true, [.sl u 0 l.length, restV q n]⟩) rfl
      simp only [List.set_cons_zero] at o
      have hR := hR.step (H' := G2.set b5 ⟨36, true, [.sl u 0 l.length, restV q n]⟩) (q := b5) RH (o.new (b5, ⟨36, true, [.sl u 0 l.length, restV q n]⟩) (by simp)) (fun p hp _ => by simp [Hp.set, hp])
      obtain ⟨l1, l2, l3⟩ := last (.sl u 0 l.length) (restV q n) ⟨l, T.tail⟩ _ _ (K + 3) (by omega) rfl (restV_scal _ _) (toB4 o) (hR.mono (by omega)) (fun G' o' => by
        have hTt : ∀ r ∈ T.tail, r.length ≤ 6 := fun r hr => by rw [s3 r (List.mem_of_mem_tail hr)]; omega
        unfold restV
        split
        · rename_i hn1
          have e : T.tail = [] := by
            apply List.eq_nil_of_length_eq_zero
            rw [List.length_tail]; omega
          rw [e]
          exact ⟨⟨_, _, rfl, li_ints (o'.has (u, LI l) (by simp)), ⟨rfl, fun i hi => by simp at hi⟩, newV_sl (hsub _ (o'.new (u, LI l) (by simp))), newV_emp _, fun i i0 i1 => by simp at i1; omega⟩, hl7, by simp, fun x x0 x1 => by simp at x1; omega⟩
        · have hm : ∀ i (hi : i < t.length), ((t[i]).1, LI (t[i]).2) ∈ ((b5, (⟨36, true, [.sl u 0 l.length, restV q n]⟩ : Row)) :: (u, LI l) :: (q, TR t) :: tl t) := fun i hi => by
            simp only [List.mem_cons]
            exact Or.inr (Or.inr (Or.inr (List.mem_map.2 ⟨t[i], List.getElem_mem hi, rfl⟩)))
          have := ra_cells (H0 := H0) (off := 1) (T := T.tail) (u := u) (l := l) (q := q) o' hsub (by simp) (ty := 30) (cells := t.map fun p => .sl p.1 0 p.2.length) (by simp [TR]) (by simp; omega) (fun i hi => by
            have hi' : 1 + i < t.length := by rw [List.length_tail] at hi; omega
            have e : (T.tail)[i] = (t[1 + i]).2 := by
              simp only [List.getElem_tail, ← hmap, List.getElem_map, Nat.add_comm]
            rw [e]
            simp only [List.getElem_map]
            exact ⟨li_ints (o'.has _ (hm _ hi')), newV_sl (hsub _ (o'.new _ (hm _ hi')))⟩) hl7 (by rw [List.length_tail]; omega) hTt
          have e2 : T.tail.length = n - 1 := by rw [List.length_tail]; omega
          rwa [e2] at this)
      simp only [↓WP, WQ, if_true, if_false, eq_self, implies_true, ne_eq, List.nil_append, List.cons_append, ↓reduceIte, Nat.reduceEqDiff, Nat.reduceBEq, reduceCtorEq, Nat.reduceAdd, resA, ret1, qv, lv, ev, boolA, binA, intA, shiftA, cmpA, beqA, lres, s5, s4, atN_two (o.get (i := 0) rfl), l1, l2]
      exact l3
    refine (Classical.em (v5 = 3)).elim (fun c3 => ?_) (fun c3 => ?_)
    · simp only [↓WP, WQ, if_true, if_false, eq_self, implies_true, ne_eq, List.nil_append, List.cons_append, ↓reduceIte, Nat.reduceEqDiff, Nat.reduceBEq, reduceCtorEq, Nat.reduceAdd, resA, ret1, qv, lv, ev, boolA, binA, intA, shiftA, cmpA, beqA, lres, c3, Int.reduceEq]
      refine DR_in (fun _ => False) rfl ?_
      have st := stA_cell (H := G2) (r := q) (ty := 30) (cells := t.map fun p => .sl p.1 0 p.2.length) (i := k.toNat) (x := restV (t[k.toNat]).1 n) (show G2 q = some ⟨30, true, t.map fun p => AV.sl p.1 0 p.2.length⟩ from gq) (by simpa using hkt) (restV_scal _ _)
      have o6 := o.upd (i := 2) (y := ⟨30, true, (t.map fun p => AV.sl p.1 0 p.2.length).set k.toNat (restV (t[k.toNat]).1 n)⟩) rfl
      have hR := hR.set (x := ⟨30, true, (t.map fun p => AV.sl p.1 0 p.2.length).set k.toNat (restV (t[k.toNat]).1 n)⟩) RH (o.new (q, TR t) (by simp))
      rw [hTl] at g5
      simp only [↓WP, WQ, if_true, if_false, eq_self, implies_true, ne_eq, List.nil_append, List.cons_append, ↓reduceIte, Nat.reduceEqDiff, Nat.reduceBEq, reduceCtorEq, Nat.reduceAdd, resA, ret1, qv, lv, ev, boolA, binA, intA, shiftA, cmpA, beqA, lres, s0, s5, at_snd g5, ik, tr_cell gq hkt, hrowl, Option.map_some, Option.map_none, ev, slA_rest hn1, st]
      refine ⟨fun _ e => e.elim, ?_⟩
      simp only [List.set_cons_succ, List.set_cons_zero] at o6
      rw [hTl] at o6
      have h6 := o6.get (i := 0) rfl
      obtain ⟨l1, l2, l3⟩ := last (.sl u 0 l.length) (.sl q 0 n) ⟨l, T.set k.toNat (T.getD k.toNat []).tail⟩ _ _ (K + 3) (by omega) rfl rfl (toB4 o6) (hR.mono (by omega)) (fun G' o' => by
        have hm : ∀ i (hi : i < t.length), G' (t[i]).1 = some (LI (t[i]).2) ∧ H0 (t[i]).1 = none := fun i hi => by
          have hmem : ((t[i]).1, LI (t[i]).2) ∈ tl t := List.mem_map.2 ⟨t[i], List.getElem_mem hi, rfl⟩
          exact ⟨o'.has ((t[i]).1, LI (t[i]).2) (by simp only [List.mem_cons]; exact Or.inr (Or.inr (Or.inr hmem))), hsub _ (o'.new ((t[i]).1, LI (t[i]).2) (by simp only [List.mem_cons]; exact Or.inr (Or.inr (Or.inr hmem))))⟩
        have hTi : ∀ i (hi : i < t.length), T[i]'(by omega) = (t[i]).2 := fun i hi => by simp only [← hmap, List.getElem_map]
        have := ra_cells (H0 := H0) (off := 0) (T := T.set k.toNat (T.getD k.toNat []).tail) (u := u) (l := l) (q := q) o' hsub (by simp) (ty := 30) (cells := (t.map fun p => AV.sl p.1 0 p.2.length).set k.toNat (restV (t[k.toNat]).1 n)) (by simp) (by simp; omega) (fun i hi => by
          have hi' : i < t.length := by rw [List.length_set] at hi; omega
          simp only [Nat.zero_add, List.getElem_set]
          by_cases hki : k.toNat = i
          · subst hki
            simp only [if_true]
            have e : (T.getD k.toNat []) = (t[k.toNat]).2 := by
              rw [List.getD_eq_getElem?_getD, List.getElem?_eq_getElem (by omega), Option.getD_some, hTi _ hkt]
            rw [e]
            exact ⟨restV_ints (hm _ hkt).1 hrowl.symm hn1, restV_new (hm _ hkt).2⟩
          · simp only [hki, if_false, List.getElem_map]
            rw [hTi _ hi']
            exact ⟨li_ints (hm _ hi').1, newV_sl (hm _ hi').2⟩) hl7 (by rw [List.length_set]; omega) (fun r hr => by
          rcases List.mem_or_eq_of_mem_set hr with hr | rfl
          · rw [s3 r hr]; omega
          · rw [List.length_tail, SqT.row (n := n) ⟨s2, s3⟩ (by omega)]; omega)
        have e2 : (T.set k.toNat (T.getD k.toNat []).tail).length = n := by rw [List.length_set]; omega
        rwa [e2] at this)
      simp only [↓WP, WQ, if_true, if_false, eq_self, implies_true, ne_eq, List.nil_append, List.cons_append, ↓reduceIte, Nat.reduceEqDiff, Nat.reduceBEq, reduceCtorEq, Nat.reduceAdd, resA, ret1, qv, lv, ev, boolA, binA, intA, shiftA, cmpA, beqA, lres, s5, s4, hTl, atN_two h6, l1, l2]
      exact l3
    · simp only [↓WP, WQ, if_true, if_false, eq_self, implies_true, ne_eq, List.nil_append, List.cons_append, ↓reduceIte, Nat.reduceEqDiff, Nat.reduceBEq, reduceCtorEq, Nat.reduceAdd, resA, ret1, qv, lv, ev, boolA, binA, intA, shiftA, cmpA, beqA, lres, c0, c1, c2, c3, s5, at_fst g5, bsl1]
      refine NewRowd_in fun r2 hr2 => ?_
      simp only [↓WP, WQ, if_true, if_false, eq_self, implies_true, ne_eq, List.nil_append, List.cons_append, ↓reduceIte, Nat.reduceEqDiff, Nat.reduceBEq, reduceCtorEq, Nat.reduceAdd, resA, ret1, qv, lv, ev, boolA, binA, intA, shiftA, cmpA, beqA, lres, s5]
      have RG := hR
      refine o.app_num2 (i := 1) rfl hr2 rfl (by omega) fun u' G3 o hk2 => ?_
      have hR := hR.step (H' := G3) (q := u) RH (by have := o.fx; exact hun) hk2
      have g5 := o.get (i := 0) rfl
      have st := stA_fst (y := .sl u' 0 (l.length + 1)) g5 rfl
      have o6 := o.upd (i := 0) (y := ⟨36, true, [.sl u' 0 (l.length + 1), .sl q 0 T.length]⟩) rfl
      have hR := hR.set (x := ⟨36, true, [.sl u' 0 (l.length + 1), .sl q 0 T.length]⟩) RH (o.new (b5, ⟨36, true, [.sl u 0 l.length, .sl q 0 T.length]⟩) (by simp))
      simp only [↓WP, WQ, if_true, if_false, eq_self, implies_true, ne_eq, List.nil_append, List.cons_append, ↓reduceIte, Nat.reduceEqDiff, Nat.reduceBEq, reduceCtorEq, Nat.reduceAdd, resA, ret1, qv, lv, ev, boolA, binA, intA, shiftA, cmpA, beqA, lres, s5, st]
      simp only [List.set_cons_succ, List.set_cons_zero] at o6
      have h6 := o6.get (i := 0) rfl
      obtain ⟨l1, l2, l3⟩ := last (.sl u' 0 (l.length + 1)) (.sl q 0 T.length) ⟨l ++ [64], T⟩ _ _ (K + 3) (by omega) rfl rfl (toB4 o6) (hR.mono (by omega)) (fun G' o' => by
        have := ra_tab (u := u') (l := l ++ [64]) (q := q) (t := t) o' hsub (by simp) (by simp) (fun p hp => by simp [hp]) (by simp; omega) (by omega) (fun p hp => by rw [hSq.2 _ (List.mem_map.2 ⟨p, hp, rfl⟩)]; omega)
        rw [htn, ← hTl, hmap] at this
        simpa using this)
      simp only [↓WP, WQ, if_true, if_false, eq_self, implies_true, ne_eq, List.nil_append, List.cons_append, ↓reduceIte, Nat.reduceEqDiff, Nat.reduceBEq, reduceCtorEq, Nat.reduceAdd, resA, ret1, qv, lv, ev, boolA, binA, intA, shiftA, cmpA, beqA, lres, s5, s4, atN_two h6, l1, l2]
      exact l3
end Go.AL

/-
  Drawn algebras and elements.
-/
namespace Go.AL
open Go.Proofs
set_option linter.unusedSimpArgs false
set_option linter.unusedVariables false
variable {w0 : World} {H : Hp}

theorem RA.scal {H0 H : Hp} {v : AV} {A : Alg} (h : RA H0 H v A) : ∃ uv tv, v = .agg [uv, tv] ∧ uv.scal = true ∧ tv.scal = true := by
  obtain ⟨uv, tv, e, h1, h2⟩ := h.open
  exact ⟨uv, tv, e, lenA_scal h1.len, lenA_scal h2.len⟩

theorem someAlgebra_c {B : Hp} {r : Nat} {K : Int} (hR : Rd B H r K) (hK : K ≤ 800000000) {Q : AV → Hp → Prop}
    (hq : ∀ v A H', Rd B H' r (K + 17) → FX (is r) H H' → RA H H' v A → Q v H') :
    ACalls Try.prog w0 98 [.ptr r 0] H Q := by
  refine in98 ?_
  simp only [c98, ↓WP, WQ, if_true, if_false, eq_self, implies_true, ne_eq, List.nil_append, List.cons_append, ↓reduceIte, Nat.reduceEqDiff, Nat.reduceBEq, reduceCtorEq, Nat.reduceAdd, resA, ret1, qv, lv, ev, boolA, binA, intA, shiftA, cmpA, beqA, lres]
  refine NewRowd_in fun b2 hb2 => ?_
  have o := (Own.nil hR.ex).push (x := ⟨36, true, [.nils, .nils]⟩) hb2
  have hE := Ext.set (x := ⟨36, true, [.nils, .nils]⟩) hb2
  have R0 := hR
  have hR := hR.Ext hE
  generalize H.set b2 ⟨36, true, [.nils, .nils]⟩ = H1 at *
  have R1 := hR
  have hb : H1 b2 ≠ none := some_ne (o.get (i := 0) rfl)
  simp only [↓WP, WQ, if_true, if_false, eq_self, implies_true, ne_eq, List.nil_append, List.cons_append, ↓reduceIte, Nat.reduceEqDiff, Nat.reduceBEq, reduceCtorEq, Nat.reduceAdd, resA, ret1, qv, lv, ev, boolA, binA, intA, shiftA, cmpA, beqA, lres]
  refine goodAlgebra_c hR (by omega) fun v H2 hR hG => ?_
  obtain ⟨l, T, n, hN, hS, h1, h2⟩ := hG
  have o := o.fxs hN.fx (fun _ e => e)
  simp only [↓WP, WQ, if_true, if_false, eq_self, implies_true, ne_eq, List.nil_append, List.cons_append, ↓reduceIte, Nat.reduceEqDiff, Nat.reduceBEq, reduceCtorEq, Nat.reduceAdd, resA, ret1, qv, lv, ev, boolA, binA, intA, shiftA, cmpA, beqA, lres]
  refine bent_c hR R1 (by omega) hN hS h1 h2 fun v' A H3 hR hF hA => ?_
  have o := o.fxs hF (fun _ e => e)
  obtain ⟨uv, tv, rfl, s1, s2⟩ := hA.scal
  have g2 := o.get (i := 0) rfl
  have o' := o.upd (i := 0) (y := ⟨36, true, [uv, tv]⟩) rfl
  simp only [↓WP, WQ, if_true, if_false, eq_self, implies_true, ne_eq, List.nil_append, List.cons_append, ↓reduceIte, Nat.reduceEqDiff, Nat.reduceBEq, reduceCtorEq, Nat.reduceAdd, resA, ret1, qv, lv, ev, boolA, binA, intA, shiftA, cmpA, beqA, lres, stA_two (x := uv) (y := tv) g2 s1 s2, atN_two (Hp.set_same H3 b2 ⟨36, true, [uv, tv]⟩)]
  refine hq _ A _ ((hR.set R0 hb2).mono (by omega)) o'.fx ?_
  exact (hA.fxs (X := fun q => q = b2) ⟨fun q hq h0 => by simp [Hp.set, hq], fun q hq => (set_none hq).2⟩ (fun q e => by rw [e]; exact hb)).back fun q h => hE.nn h


/-- What the draws begin with: a reader, an algebra in a box. -/
theorem drawBox {B H : Hp} {r : Nat} {K : Int} {v : AV} {A : Alg} {b : Nat} {B0 : Hp} (hR : Rd B H r K) (hA : RA B0 H v A) (hb : H b = none) :
    ∃ uv tv, v = .agg [uv, tv] ∧ uv.scal = true ∧ tv.scal = true ∧ Rd B (H.set b ⟨36, true, [uv, tv]⟩) r K ∧ RA B0 (H.set b ⟨36, true, [uv, tv]⟩) v A := by
  obtain ⟨uv, tv, rfl, s1, s2⟩ := hA.scal
  exact ⟨uv, tv, rfl, s1, s2, hR.Ext (Ext.set hb), hA.Ext (Ext.set hb)⟩
end Go.AL

/-
  What the laws of seat A draw.
-/
namespace Go.AL
open Go.Proofs
set_option linter.unusedSimpArgs false
set_option linter.unusedVariables false
variable {w0 : World} {H : Hp}

/-- Where a drawing function stands: its answer's box b2, its algebra in the box b5, the reader r. -/
structure DS (H H1 H' : Hp) (r b2 b5 : Nat) (K : Int) (uv tv : AV) (A : Alg) : Prop where
  hb2 : H b2 = none
  eB : Ext H H1
  rd : ∃ B, Rd B H' r K ∧ Ext H B
  b1 : H1 b2 = some ⟨36, true, [.nils, .nils]⟩
  r1 : H1 r ≠ none
  g2 : H' b2 = some ⟨36, true, [.nils, .nils]⟩
  g5 : H' b5 = some ⟨36, true, [uv, tv]⟩
  n5 : b5 ≠ r
  n25 : b5 ≠ b2
  n2 : b2 ≠ r
  s1 : uv.scal = true
  s2 : tv.scal = true
  ra : RA H1 H' (.agg [uv, tv]) A
theorem RA.cases {H0 H : Hp} {uv tv : AV} {A : Alg} (h : RA H0 H (.agg [uv, tv]) A) : Ints H uv A.up ∧ Mat H tv A.times := by
  obtain ⟨uv', tv', e, h1, h2⟩ := h.open
  simp only [AV.agg.injEq, List.cons.injEq, and_true] at e
  obtain ⟨rfl, rfl⟩ := e
  exact ⟨h1, h2⟩
section
variable {H1 H' H'' : Hp} {r b2 b5 : Nat} {K K' : Int} {uv tv : AV} {A : Alg}
theorem DS.up (h : DS H H1 H' r b2 b5 K uv tv A) : Ints H' uv A.up := h.ra.cases.1
theorem DS.mat (h : DS H H1 H' r b2 b5 K uv tv A) : Mat H' tv A.times := h.ra.cases.2
theorem DS.step {B : Hp} (h : DS H H1 H' r b2 b5 K uv tv A) (hB : Ext H B) (hR : Rd B H'' r K') (hF : FX (is r) H' H'') : DS H H1 H'' r b2 b5 K' uv tv A ∧ ∀ x, x = b5 → H'' x = H' x := by
  have h5 := hF.get (q := b5) (fun e => h.n5 e) h.g5
  have h2 := hF.get (q := b2) (fun e => h.n2 e) h.g2
  exact ⟨⟨h.hb2, h.eB, ⟨B, hR, hB⟩, h.b1, h.r1, h2, h5, h.n5, h.n25, h.n2, h.s1, h.s2, h.ra.fxs hF (fun q e => by rw [show q = r from e]; exact h.r1)⟩, fun x hx => by rw [hx, h5, h.g5]⟩
theorem DS.fin (h : DS H H1 H' r b2 b5 K uv tv A) : ∃ G, stA H' 2 (.ptr b2 0) (.agg [uv, tv]) = some G ∧ (∀ x, x = b5 → G x = H' x) ∧ G.atN (.ptr b2 0) 2 = some [uv, tv] ∧ Ext H G ∧ RA H G (.agg [uv, tv]) A := by
  refine ⟨_, stA_two h.g2 h.s1 h.s2, fun x hx => by rw [hx]; simp [Hp.set, h.n25], atN_two (Hp.set_same _ _ _), ?_, ?_⟩
  · obtain ⟨B, hR, hB⟩ := h.rd
    exact (hB.trans hR.ext).step h.hb2 fun q hq _ => by simp [Hp.set, hq]
  · exact (h.ra.fxs (X := fun q => q = b2) ⟨fun q hq h0 => by simp [Hp.set, hq], fun q hq => (set_none hq).2⟩ (fun q e => by rw [e, h.b1]; simp)).back fun q hq => h.eB.nn hq
theorem DS.mk0 {B : Hp} {v : AV} (hb2 : H b2 = none) (hB : Ext H B) (g2 : B b2 = some ⟨36, true, [.nils, .nils]⟩) (hR1 : Rd B H1 r 0) (hR : Rd B H' r K) (hF : FX (is r) H1 H') (hA : RA H1 H' v A) (hb5 : H' b5 = none) :
    ∃ uv tv, v = .agg [uv, tv] ∧ stA (H'.set b5 ⟨36, true, [.nils, .nils]⟩) 2 (.ptr b5 0) v = some (H'.set b5 ⟨36, true, [uv, tv]⟩) ∧ DS H H1 (H'.set b5 ⟨36, true, [uv, tv]⟩) r b2 b5 K uv tv A := by
  obtain ⟨uv, tv, rfl, s1, s2⟩ := hA.scal
  have hE := Ext.set (x := ⟨36, true, [uv, tv]⟩) hb5
  have h2 := hR.ext.get g2
  have n5 := hR.ne hb5
  have n25 : b5 ≠ b2 := Ne.symm (ne_new h2 hb5)
  refine ⟨uv, tv, rfl, ?_, ⟨hb2, hB.trans hR1.ext, ⟨B, hR.Ext hE, hB⟩, hR1.ext.get g2, hR1.some, hE.get h2, Hp.set_same _ _ _, n5, n25, ne_new g2 hR1.new, s1, s2, hA.Ext hE⟩⟩
  rw [stA_two (Hp.set_same _ _ _) s1 s2, Hp.set_set]
end

end Go.AL

/-
  Plain laws of lattices and of algebras: meets, joins, products, implications.
-/
namespace Go.AL
open Go.Proofs
set_option linter.unusedSimpArgs false
set_option linter.unusedVariables false

/-- An element. -/
def El (A : Alg) (x : Int) : Prop := 0 ≤ x ∧ x < A.up.length

section
variable {A : Alg} (h : IsAlg A)
include h
theorem IsAlg.e0 : El A 0 := ⟨by omega, by have := h.lo; omega⟩
theorem IsAlg.e1 : El A (A.up.length - 1) := ⟨by have := h.lo; omega, by omega⟩
theorem IsAlg.r {x : Int} (hx : El A x) : bl A.up x x := h.refl x hx.1 hx.2
theorem IsAlg.b {x : Int} (hx : El A x) : bl A.up 0 x := h.bot x hx.1 hx.2
theorem IsAlg.t {x : Int} (hx : El A x) : bl A.up x (A.up.length - 1) := h.top x hx.1 hx.2
theorem IsAlg.as {x y : Int} (hx : El A x) (hy : El A y) (h1 : bl A.up x y) (h2 : bl A.up y x) : x = y := Classical.byContradiction fun hne => h.anti x y hx.1 hx.2 hy.1 hy.2 hne h1 h2
theorem IsAlg.tr {x y z : Int} (hx : El A x) (hy : El A y) (hz : El A z) (h1 : bl A.up x y) (h2 : bl A.up y z) : bl A.up x z := h.trans x y z hx.1 hx.2 hy.1 hy.2 hz.1 hz.2 h1 h2
theorem IsAlg.te {x y : Int} (hx : El A x) (hy : El A y) : El A (A.tm x y) := h.rng2 x y hx.1 hx.2 hy.1 hy.2
theorem IsAlg.je {x y : Int} (hx : El A x) (hy : El A y) : El A (joinF A.up x y) := joinF_rng h.toIsLat hx.1 hx.2 hy.1 hy.2
theorem IsAlg.me {x y : Int} (hx : El A x) (hy : El A y) : El A (meetF A.up x y) := meetF_rng h.toIsLat hx.1 hx.2 hy.1 hy.2
theorem IsAlg.js {x y : Int} (hx : El A x) (hy : El A y) : joinP A.up x y (joinF A.up x y) := by
  rcases firstI_spec (n := A.up.length) (p := joinP A.up x y) with ⟨_, _, h2, _⟩ | ⟨h1, _⟩
  · exact h2
  · have := (h.je hx hy).1; unfold joinF at this; omega
theorem IsAlg.ms {x y : Int} (hx : El A x) (hy : El A y) : meetP A.up x y (meetF A.up x y) := by
  rcases firstI_spec (n := A.up.length) (p := meetP A.up x y) with ⟨_, _, h2, _⟩ | ⟨h1, _⟩
  · exact h2
  · have := (h.me hx hy).1; unfold meetF at this; omega
theorem IsAlg.j1 {x y : Int} (hx : El A x) (hy : El A y) : bl A.up x (joinF A.up x y) := (h.js hx hy).1
theorem IsAlg.j2 {x y : Int} (hx : El A x) (hy : El A y) : bl A.up y (joinF A.up x y) := (h.js hx hy).2.1
theorem IsAlg.j3 {x y z : Int} (hx : El A x) (hy : El A y) (hz : El A z) (h1 : bl A.up x z) (h2 : bl A.up y z) : bl A.up (joinF A.up x y) z := (h.js hx hy).2.2 z hz.1 hz.2 h1 h2
theorem IsAlg.m1 {x y : Int} (hx : El A x) (hy : El A y) : bl A.up (meetF A.up x y) x := (h.ms hx hy).1
theorem IsAlg.m2 {x y : Int} (hx : El A x) (hy : El A y) : bl A.up (meetF A.up x y) y := (h.ms hx hy).2.1
theorem IsAlg.m3 {x y z : Int} (hx : El A x) (hy : El A y) (hz : El A z) (h1 : bl A.up z x) (h2 : bl A.up z y) : bl A.up z (meetF A.up x y) := (h.ms hx hy).2.2 z hz.1 hz.2 h1 h2
theorem IsAlg.j_le {x y : Int} (hx : El A x) (hy : El A y) (h1 : bl A.up x y) : joinF A.up x y = y := h.as (h.je hx hy) hy (h.j3 hx hy hy h1 (h.r hy)) (h.j2 hx hy)
theorem IsAlg.m_le {x y : Int} (hx : El A x) (hy : El A y) (h1 : bl A.up x y) : meetF A.up x y = x := h.as (h.me hx hy) hx (h.m1 hx hy) (h.m3 hx hy hx (h.r hx) h1)
theorem IsAlg.tc {x y : Int} (hx : El A x) (hy : El A y) : A.tm x y = A.tm y x := h.comm x y hx.1 hx.2 hy.1 hy.2
theorem IsAlg.ta {x y z : Int} (hx : El A x) (hy : El A y) (hz : El A z) : A.tm (A.tm x y) z = A.tm x (A.tm y z) := h.assoc x y z hx.1 hx.2 hy.1 hy.2 hz.1 hz.2
theorem IsAlg.t1 {x : Int} (hx : El A x) : A.tm x (A.up.length - 1) = x := h.one x hx.1 hx.2
theorem IsAlg.t1' {x : Int} (hx : El A x) : A.tm (A.up.length - 1) x = x := by rw [h.tc h.e1 hx, h.t1 hx]
theorem IsAlg.t0 {x : Int} (hx : El A x) : A.tm x 0 = 0 := h.zero x hx.1 hx.2
theorem IsAlg.t0' {x : Int} (hx : El A x) : A.tm 0 x = 0 := by rw [h.tc h.e0 hx, h.t0 hx]
theorem IsAlg.mono {x y z : Int} (hx : El A x) (hy : El A y) (hz : El A z) (h1 : bl A.up x y) : bl A.up (A.tm z x) (A.tm z y) := by
  have h2 := h.dist z x y hz.1 hz.2 hx.1 hx.2 hy.1 hy.2
  rw [h.j_le hx hy h1] at h2
  rw [h2]
  exact h.j1 (h.te hz hx) (h.te hz hy)
theorem IsAlg.mono' {x y z : Int} (hx : El A x) (hy : El A y) (hz : El A z) (h1 : bl A.up x y) : bl A.up (A.tm x z) (A.tm y z) := by
  rw [h.tc hx hz, h.tc hy hz]; exact h.mono hx hy hz h1
theorem IsAlg.mono2 {x y u v : Int} (hx : El A x) (hy : El A y) (hu : El A u) (hv : El A v) (h1 : bl A.up x y) (h2 : bl A.up u v) : bl A.up (A.tm x u) (A.tm y v) :=
  h.tr (h.te hx hu) (h.te hy hu) (h.te hy hv) (h.mono' hx hy hu h1) (h.mono hu hv hy h2)
theorem IsAlg.tl {x y : Int} (hx : El A x) (hy : El A y) : bl A.up (A.tm x y) x := by
  have := h.mono hy h.e1 hx (h.t hy)
  rwa [h.t1 hx] at this
theorem IsAlg.tr' {x y : Int} (hx : El A x) (hy : El A y) : bl A.up (A.tm x y) y := by rw [h.tc hx hy]; exact h.tl hy hx
theorem IsAlg.bot_eq {x : Int} (hx : El A x) (h1 : bl A.up x 0) : x = 0 := h.as hx h.e0 h1 (h.b hx)
theorem IsAlg.top_eq {x : Int} (hx : El A x) (h1 : bl A.up (A.up.length - 1) x) : x = A.up.length - 1 := h.as hx h.e1 (h.t hx) h1
theorem IsAlg.ie (x y : Int) : El A (impF A x y) := impF_rng h x y

theorem IsAlg.imp_le {x y : Int} (hx : El A x) (hy : El A y) : bl A.up (A.tm x (impF A x y)) y := by
  suffices H : ∀ m : Nat, m ≤ A.up.length → bl A.up (A.tm x (impS A x y m)) y from H _ (Nat.le_refl _)
  intro m
  induction m with
  | zero => intro _; simp only [impS]; rw [h.t0 hx]; exact h.b hy
  | succ m ih =>
    intro hm
    have ih := ih (by omega)
    have hz : El A (m : Int) := ⟨by omega, by omega⟩
    have hs : El A (impS A x y m) := impS_rng h m (by omega)
    by_cases hc : bl A.up (A.tm x m) y
    · have e := impS_yes (A := A) (x := x) (y := y) (z := (m : Int)) (by omega) hc
      rw [show ((m : Int) + 1).toNat = m + 1 by omega, Int.toNat_natCast] at e
      rw [e, h.dist x _ _ hx.1 hx.2 hs.1 hs.2 hz.1 hz.2]
      exact h.j3 (h.te hx hs) (h.te hx hz) hy ih hc
    · have e := impS_no (A := A) (x := x) (y := y) (z := (m : Int)) (by omega) hc
      rw [show ((m : Int) + 1).toNat = m + 1 by omega, Int.toNat_natCast] at e
      rw [e]; exact ih
theorem IsAlg.le_imp {x y z : Int} (hx : El A x) (hy : El A y) (hz : El A z) (hc : bl A.up (A.tm x z) y) : bl A.up z (impF A x y) := by
  suffices H : ∀ m : Nat, m ≤ A.up.length → z < m → bl A.up z (impS A x y m) from H _ (Nat.le_refl _) hz.2
  intro m
  induction m with
  | zero => intro _ h0; have := hz.1; omega
  | succ m ih =>
    intro hm hzm
    have hm' : El A (m : Int) := ⟨by omega, by omega⟩
    have hs : El A (impS A x y m) := impS_rng h m (by omega)
    by_cases hzz : z = m
    · subst hzz
      have e := impS_yes (A := A) (x := x) (y := y) (z := (m : Int)) (by omega) hc
      rw [show ((m : Int) + 1).toNat = m + 1 by omega, Int.toNat_natCast] at e
      rw [e]; exact h.j2 hs hm'
    · have ih := ih (by omega) (by omega)
      by_cases hc' : bl A.up (A.tm x m) y
      · have e := impS_yes (A := A) (x := x) (y := y) (z := (m : Int)) (by omega) hc'
        rw [show ((m : Int) + 1).toNat = m + 1 by omega, Int.toNat_natCast] at e
        rw [e]; exact h.tr hz hs (h.je hs hm') ih (h.j1 hs hm')
      · have e := impS_no (A := A) (x := x) (y := y) (z := (m : Int)) (by omega) hc'
        rw [show ((m : Int) + 1).toNat = m + 1 by omega, Int.toNat_natCast] at e
        rw [e]; exact ih
/-- Products and implications are neighbours. -/
theorem IsAlg.adj {x y z : Int} (hx : El A x) (hy : El A y) (hz : El A z) : bl A.up (A.tm x z) y ↔ bl A.up z (impF A x y) :=
  ⟨h.le_imp hx hy hz, fun hc => h.tr (h.te hx hz) (h.te hx (h.ie x y)) hy (h.mono hz (h.ie x y) hx hc) (h.imp_le hx hy)⟩
theorem IsAlg.imp_top {x y : Int} (hx : El A x) (hy : El A y) : impF A x y = A.up.length - 1 ↔ bl A.up x y := by
  constructor
  · intro e
    have := h.imp_le hx hy
    rwa [e, h.t1 hx] at this
  · intro hc
    exact h.top_eq (h.ie x y) (h.le_imp hx hy h.e1 (by rw [h.t1 hx]; exact hc))
theorem IsAlg.imp_mono {x y z : Int} (hx : El A x) (hy : El A y) (hz : El A z) (hc : bl A.up y z) : bl A.up (impF A x y) (impF A x z) :=
  h.le_imp hx hz (h.ie x y) (h.tr (h.te hx (h.ie x y)) hy hz (h.imp_le hx hy) hc)
theorem IsAlg.imp_anti {x y z : Int} (hx : El A x) (hy : El A y) (hz : El A z) (hc : bl A.up x y) : bl A.up (impF A y z) (impF A x z) :=
  h.le_imp hx hz (h.ie y z) (h.tr (h.te hx (h.ie y z)) (h.te hy (h.ie y z)) hz (h.mono' hx hy (h.ie y z) hc) (h.imp_le hy hz))
/-- x is at most not not x; not x times x is the least. -/
theorem IsAlg.not_mul {x : Int} (hx : El A x) : A.tm x (impF A x 0) = 0 := h.bot_eq (h.te hx (h.ie x 0)) (h.imp_le hx h.e0)
theorem IsAlg.le_not_not {x : Int} (hx : El A x) : bl A.up x (impF A (impF A x 0) 0) :=
  h.le_imp (h.ie x 0) h.e0 hx (by rw [h.tc (h.ie x 0) hx, h.not_mul hx]; exact h.r h.e0)
theorem IsAlg.not3 {x : Int} (hx : El A x) : impF A (impF A (impF A x 0) 0) 0 = impF A x 0 :=
  h.as (h.ie _ 0) (h.ie x 0) (h.imp_anti hx (h.ie _ 0) h.e0 (h.le_not_not hx)) (h.le_not_not (h.ie x 0))
theorem IsAlg.near_e {x y : Int} : El A (nearF A x y) := h.te (h.ie x y) (h.ie y x)
theorem IsAlg.near_sym {x y : Int} : nearF A x y = nearF A y x := h.tc (h.ie x y) (h.ie y x)
theorem IsAlg.near_top {x y : Int} (hx : El A x) (hy : El A y) : nearF A x y = A.up.length - 1 ↔ x = y := by
  constructor
  · intro e
    have h1 : impF A x y = A.up.length - 1 := h.top_eq (h.ie x y) (by rw [← e]; exact h.tl (h.ie x y) (h.ie y x))
    have h2 : impF A y x = A.up.length - 1 := h.top_eq (h.ie y x) (by rw [← e]; exact h.tr' (h.ie x y) (h.ie y x))
    exact h.as hx hy ((h.imp_top hx hy).1 h1) ((h.imp_top hy hx).1 h2)
  · rintro rfl
    have h1 := (h.imp_top hx hx).2 (h.r hx)
    unfold nearF
    rw [h1, h.t1 h.e1]
theorem IsAlg.imp_comp {x y z : Int} (hx : El A x) (hy : El A y) (hz : El A z) : bl A.up (A.tm (impF A x y) (impF A y z)) (impF A x z) := by
  refine h.le_imp hx hz (h.te (h.ie x y) (h.ie y z)) ?_
  rw [← h.ta hx (h.ie x y) (h.ie y z)]
  exact h.tr (h.te (h.te hx (h.ie x y)) (h.ie y z)) (h.te hy (h.ie y z)) hz (h.mono' (h.te hx (h.ie x y)) hy (h.ie y z) (h.imp_le hx hy)) (h.imp_le hy hz)
theorem IsAlg.t4 {a b c d : Int} (ha : El A a) (hb : El A b) (hc : El A c) (hd : El A d) : A.tm (A.tm a b) (A.tm c d) = A.tm (A.tm a c) (A.tm b d) := by
  rw [h.ta ha hb (h.te hc hd), ← h.ta hb hc hd, h.tc hb hc, h.ta hc hb hd, ← h.ta ha hc (h.te hb hd)]
theorem IsAlg.near_comp {x y z : Int} (hx : El A x) (hy : El A y) (hz : El A z) : bl A.up (A.tm (nearF A x y) (nearF A y z)) (nearF A x z) := by
  unfold nearF
  rw [h.t4 (h.ie x y) (h.ie y x) (h.ie y z) (h.ie z y), h.tc (h.ie y x) (h.ie z y)]
  exact h.mono2 (h.te (h.ie x y) (h.ie y z)) (h.ie x z) (h.te (h.ie z y) (h.ie y x)) (h.ie z x) (h.imp_comp hx hy hz) (h.imp_comp hz hy hx)
end
end Go.AL

/-
  From the abstract contract of a law over bytes to its row.
-/
namespace Go.AL
open Go.ChangeShapes Go.WideShapes Go.RowKit
set_option linter.unusedSimpArgs false
set_option linter.unusedVariables false

theorem Same.sameAt {W W' : World} (h : Same W W') {p : MemPlace} (hp : p.block < W.heap.size) : W.sameAt W' p := by
  cases p with
  | cell b o =>
    have := h.block b hp
    simp only [World.sameAt]
    simp [World.cell?, this]
  | map b =>
    have := h.block b hp
    simp only [World.sameAt]
    simp [this]

/-- A heap of one row that is only read. -/
def lentH (cells : List AV) : Hp := fun r => if r = 0 then some ⟨0, false, cells⟩ else none
def noH : Hp := fun _ => none

theorem cell_lt {w : World} {a : Addr} {v : Value} (h : w.cell? a = some v) : a.block < w.heap.size := by
  unfold World.cell? at h
  cases hb : w.heap[a.block]? with
  | none => simp [hb] at h
  | some o => exact (Array.getElem?_eq_some_iff.1 hb).1

theorem rel_noH (P : Program) (W : World) (κ : Nat → KB) : Rel P W κ noH W :=
  ⟨⟨rfl, rfl, rfl, Nat.le_refl _, fun _ _ => rfl⟩, fun r row h => by simp [noH] at h, fun r r' row row' h => by simp [noH] at h, ⟨0, fun r _ => rfl⟩⟩

theorem rel_lentH (P : Program) (W : World) (b off n sz : Nat) (cells : List AV) (hs : ∀ c ∈ cells, c.scal = true)
    (hc : ∀ (i : Nat) (c : AV), cells[i]? = some c → ∃ v, W.cell? ⟨b, off + i, none⟩ = some v ∧ VR (fun _ => ⟨b, off, n, sz⟩) (dom (lentH cells)) c v) : Rel P W (fun _ => ⟨b, off, n, sz⟩) (lentH cells) W := by
  refine ⟨⟨rfl, rfl, rfl, Nat.le_refl _, fun _ _ => rfl⟩, fun r row h => ?_, fun r r' row row' h1 h2 h3 => ?_, ⟨1, fun r hr => by simp [lentH]; omega⟩⟩
  · unfold lentH at h
    split at h
    · cases h
      refine ⟨hs, (fun h => by cases h), fun _ i c hi => ?_⟩
      obtain ⟨v, h1, h2⟩ := hc i c hi
      exact ⟨cell_lt h1, v, h1, h2⟩
    · cases h
  · unfold lentH at h1
    split at h1
    · cases h1; cases h3
    · cases h1

/-- A law over bytes: its abstract contract is enough. -/
theorem calls_bytes {P : Program} {f : FuncId} (law : ∀ (w0 : World) (bv : AV) (n : Nat) (H : Hp), Byt H bv n → n ≤ 9223372036854775807 → ACalls P w0 f [bv] H fun v _ => v = .bool true)
    {t e : TypeId} (ht : P.underlying t = some (.slice e)) (he : P.underlying e = some (.int .u8)) (hc : P.cellsOf e = 1)
    {X : Type} {enc : TypeId × Value → X} {W : World} {base : Nat} {v0 : Value} {d : DataW X} {ps : List MemPlace} (hok : Value.okWide P W .any base t v0) (h : DataW.Trod enc P W 0 (fun _ => true) true t v0 d ps) :
    Calls P f #[v0] W fun en w' => en = .returned (.bool true) ∧ Same W w' := by
  obtain ⟨a0, len, cap, rfl⟩ := okWide_slice ht hok
  obtain ⟨fuel, hf⟩ := h
  have main : ∀ (bv : AV) (n : Nat) (H : Hp) (κ : Nat → KB), Byt H bv n → n ≤ 9223372036854775807 → Rel P W κ H W → VR κ (dom H) bv (.slice a0 len cap) → Calls P f #[.slice a0 len cap] W fun en w' => en = .returned (.bool true) ∧ Same W w' := by
    intro bv n H κ hb hn hr hv
    refine ((law W bv n H hb hn).2 0 κ W [.slice a0 len cap] hr ⟨_, _, rfl, hv, rfl⟩).mono fun en w' ⟨v, rv, κ', H', he, hv, hvr, hr', _⟩ => ⟨?_, hr'.same⟩
    subst hv
    rw [he, show rv = .bool true from hvr]
  have hcs : (Value.slice a0 len cap).cells.toList = [.slice a0 len cap] := rfl
  rw [hcs] at hf
  rcases open_ints ht he hc hf with ⟨h1, _⟩ | ⟨a, len', cap', zs, h1, _, hle, hmax, hlen, _, hcell, hwf⟩
  · simp only [List.cons.injEq, Value.slice.injEq, and_true] at h1
    obtain ⟨rfl, rfl, rfl⟩ := h1
    exact main .nils 0 noH (fun _ => default) ⟨rfl, fun i hi => by omega⟩ (by omega) (rel_noH P W _) rfl
  · simp only [List.cons.injEq, Value.slice.injEq, and_true] at h1
    obtain ⟨rfl, rfl, rfl⟩ := h1
    simp only [if_true] at hlen
    unfold maxLen at hmax
    by_cases h0 : len = 0
    · subst h0
      exact main .emp 0 noH (fun _ => default) ⟨rfl, fun i hi => by omega⟩ (by omega) (rel_noH P W _) ⟨a, cap, rfl⟩
    · obtain ⟨b, off, rfl, hc'⟩ := ints_at hcell (by omega)
      have hcells : ∀ (i : Nat) (c : AV), ((zs.take len).map (AV.int .u8))[i]? = some c → i < len ∧ c = .int .u8 (zs.getD i 0) := by
        intro i c hi
        obtain ⟨h1, h2⟩ := List.getElem?_eq_some_iff.1 hi
        simp only [List.length_map, List.length_take] at h1
        simp only [List.getElem_map, List.getElem_take] at h2
        refine ⟨by omega, ?_⟩
        rw [← h2, List.getD_eq_getElem?_getD, List.getElem?_eq_getElem (by omega), Option.getD_some]
      refine main (.sl 0 0 len) len (lentH ((zs.take len).map (AV.int .u8))) (fun _ => ⟨b, off, cap, 1⟩) ⟨rfl, fun i hi => ?_⟩ (by omega) (rel_lentH P W b off cap 1 _ ?_ ?_) ⟨by simp [dom, lentH], cap, rfl, hle, by unfold maxLen; exact hmax, fun _ => by simp⟩
      · refine ⟨zs.getD i 0, ?_, ?_⟩
        · have : i < zs.length := by omega
          simp [elt, Hp.at, lentH, hi, this]
        · have hw := bounds_u8 (hwf (zs.getD i 0) (by
            rw [List.getD_eq_getElem?_getD, List.getElem?_eq_getElem (by omega), Option.getD_some]
            exact List.getElem_mem _))
          exact hw
      · intro c hc
        simp only [List.mem_map] at hc
        obtain ⟨x, _, rfl⟩ := hc
        rfl
      · intro i c hi
        obtain ⟨h1, rfl⟩ := hcells i c hi
        have := hc' i (by omega)
        exact ⟨_, this, rfl⟩

/-- What the caller hands over reads as it did. -/
theorem trodAll_same {X : Type} {enc : TypeId × Value → X} {P : Program} (K : Kids P (· < P.types.size)) (hz : ∀ t e, t < P.types.size → P.underlying t = some (.slice e) → 0 < P.cellsOf e) {W W' : World} (hs : Same W W') {sp : Nat → Bool} :
    ∀ {ts : List TypeId} {vs : List Value} {ds : List (DataW X)} {ps : List MemPlace}, (∀ t ∈ ts, t < P.types.size) → DataW.TrodAll enc P W 0 (fun _ => true) true ts vs ds ps → (∀ p ∈ ps, sp p.block = true) → DataW.TrodAll enc P W' 0 sp true ts vs ds ps
  | [], [], [], ps, _, h, _ => h
  | t :: ts, v :: vs, d :: ds, ps, ht, h, hp => by
    obtain ⟨p, q, ⟨n, h1⟩, h2, rfl⟩ := h
    have lt1 := DataW.trod_lt n t _ _ h1
    refine ⟨p, q, ⟨n, DataW.trod_stays K (fun {t e} => hz t e) (fun h => by cases h) (ht t (by simp)) h1 (fun x hx => hs.sameAt (lt1 x hx)) (fun x hx => hp x (List.mem_append_left _ hx))⟩, ?_, rfl⟩
    exact trodAll_same K hz hs (fun t ht' => ht t (by simp [ht'])) h2 (fun x hx => hp x (List.mem_append_right _ hx))
  | [], _ :: _, _, _, _, h, _ => by cases h
  | [], [], _ :: _, _, _, h, _ => by cases h
  | _ :: _, [], _, _, _, h, _ => by cases h
  | _ :: _, _ :: _, [], _, _, h, _ => by cases h

theorem keptBut_same {W W' : World} (h : Same W W') (may : MemPlace → Prop) : W.keptBut W' may := by
  refine ⟨h.os, h.output, fun i hi => ?_⟩
  rw [h.block i hi]
  cases W.heap[i]? with
  | none => rfl
  | some o =>
    cases o with
    | cells c t fr => exact ⟨rfl, rfl, rfl, fun _ _ => rfl⟩
    | map es clock => exact Or.inr ⟨rfl, rfl⟩
    | _ => rfl

/-- A law that answers true and leaves memory as it was. -/
theorem post_true {X : Type} {enc : TypeId × Value → X} {P : Program} {fn : Func} {s : ChangeSpec} {apart fresh handsOn : Bool} {W W' : World} {args : Array Value} {ds gs : List (DataW X)} {before : List MemPlace} {tb : TypeId}
    (K : Kids P (· < P.types.size)) (hz : ∀ t e, t < P.types.size → P.underlying t = some (.slice e) → 0 < P.cellsOf e) (hts : ∀ t ∈ fn.params.toList, t < P.types.size)
    (hv : s.vars = []) (hres : fn.resultTypes = #[tb]) (hb : P.underlying tb = some .bool) (hs : ∀ ds : List (DataW X), ds.length = fn.params.size → s.fn X ds = { results := [.lit (.bool true)], args := ds })
    (hW : DataW.Whole enc P fn.params.toList s.vars apart W args.toList ds gs before) (h : Same W W') : s.post enc P fn apart fresh handsOn false W args (.bool true) W' := by
  have hW' := hW
  obtain ⟨p, q, hA, hV, rfl, _, _⟩ := hW'
  rw [hv] at hV
  have hg : gs = [] ∧ q = [] := by
    cases gs with
    | nil => exact ⟨rfl, hV⟩
    | cons _ _ => cases hV
  obtain ⟨rfl, rfl⟩ := hg
  have hlen : ds.length = fn.params.size := by
    have := (trodAll_length hA).2
    simpa using this
  have hfn := hs ds hlen
  have hlt := hW.lt
  refine ⟨ds, [], p ++ [], [], p, [], hW, ?_, ?_, ?_, keptBut_same h _, fun h => by cases h⟩
  · rw [List.append_nil, hfn, hres]
    refine trodAll_mk1 ⟨1, ?_⟩
    simp [DataW.trod, hb, Value.cells]
  · rw [List.append_nil, hfn]
    exact trodAll_same K hz h hts hA fun x hx => by simpa using hlt x (by simpa using hx)
  · rw [List.append_nil, hfn, hv]
    rfl

/-- The row of a law over bytes, but for its closed facts. -/
theorem handed_bytes {X : Type} {enc : TypeId × Value → X} {C : Checked} {os : Os} {f : FuncId} {fn : Func} {s : ChangeSpec} {conds : List PathCond} {apart fresh handsOn : Bool} {t e tb : TypeId} (own : ownKnob C.prog.godebug = none) (started : os.Started)
    (noInit : C.prog.inits.idxOf? f = none) (hfn : C.prog.funcs[f]? = some fn)
    (witness : ∃ (w : World) (tape : Tape) (i : Input), w.os = os ∧ (w.forCall tape i).Shaped C.prog ∧ i.vars = [] ∧ Input.okWide C.prog (w.forCall tape i) .any w.heap.size f i ∧
      s.pre6 enc C.prog fn conds apart (w.forCall tape i).memory i.args ∧ Assume.holds {} C.prog (lone (Frame.enter C.prog f i.args .normal) [] (w.forCall tape i)))
    (K : Kids C.prog (· < C.prog.types.size)) (hz : ∀ t e, t < C.prog.types.size → C.prog.underlying t = some (.slice e) → 0 < C.prog.cellsOf e)
    (hp : fn.params = #[t]) (htt : t < C.prog.types.size) (ht : C.prog.underlying t = some (.slice e)) (he : C.prog.underlying e = some (.int .u8)) (hc : C.prog.cellsOf e = 1)
    (hv : s.vars = []) (hres : fn.resultTypes = #[tb]) (hb : C.prog.underlying tb = some .bool) (hs : ∀ d : DataW X, s.fn X [d] = { results := [.lit (.bool true)], args := [d] })
    (law : ∀ (w0 : World) (bv : AV) (n : Nat) (H : Hp), Byt H bv n → n ≤ 9223372036854775807 → ACalls C.prog w0 f [bv] H fun v _ => v = .bool true) :
    ReturnsInHanded {} C os f .any (s.pre6 enc C.prog fn conds apart) (s.post enc C.prog fn apart fresh handsOn false) := by
  refine returnsInHanded_of_change own started noInit hfn witness fun W base args ds gs before hval hW _ _ => ?_
  have hW' := hW
  obtain ⟨p, q, hA, hV, rfl, _, _⟩ := hW'
  rw [hp] at hA
  obtain ⟨v0, d0, rfl, rfl, h0⟩ := trodAll_one hA
  refine (calls_bytes law ht he hc (hval 0 t v0 (by rw [hp]; rfl) rfl) h0).mono fun en w' ⟨h1, h2⟩ => ⟨_, h1, ?_⟩
  refine post_true K hz (by rw [hp]; simpa using htt) hv hres hb (fun ds hl => ?_) hW h2
  rw [hp] at hl
  match ds, hl with
  | [d], _ => exact hs d
end Go.AL
