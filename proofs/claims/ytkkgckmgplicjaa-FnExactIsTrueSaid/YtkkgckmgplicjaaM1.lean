/-
  Lemmas that the proofs of the given statements of this seat use. Conditions: none.
-/
import Derived.Test.YtkkgckmgplicjaaK
import Derived.Test.YtkkgckmgplicjaaCodeB1
import Derived.Test.YtkkgckmgplicjaaCodeB2
/-
  Words for the proofs over W: how the predicate transformer unfolds; what slices and structs hold.
-/
namespace Go.AL
set_option linter.unusedSimpArgs false
set_option linter.unusedVariables false

/-- Nothing, but its type names a: so simp leaves a as it is. -/
inductive Dep {α : Type} (a : α) : Type
  | mk
def dep {α : Type} (a : α) : Dep a := .mk

def QBd {α : Type} (o : Option α) (K : α → Prop) (_ : Dep K) : Prop := QB o K
def Brd (b : Bool) (p q : Prop) (_ : Dep p) (_ : Dep q) : Prop := Br b p q
def NewRowd (H : Hp) (K : Nat → Prop) (_ : Dep K) : Prop := NewRow H K

theorem QBd_some {α : Type} (v : α) (K : α → Prop) (d : Dep K) : QBd (some v) K d = K v := QB_some v K
theorem QBd_none {α : Type} (K : α → Prop) (d : Dep K) : QBd (none : Option α) K d = False := QB_none K
theorem QBd_ite {α : Type} (c : Prop) [Decidable c] (v : α) (K : α → Prop) (d : Dep K) : QBd (if c then some v else none) K d = (c ∧ QBd (some v) K d) := by rw [QBd_some]; exact QB_ite c v K
theorem QBd_ite' {α : Type} (c : Prop) [Decidable c] (v : α) (K : α → Prop) (d : Dep K) : QBd (if c then none else some v) K d = (¬ c ∧ QBd (some v) K d) := by rw [QBd_some]; exact QB_ite' c v K
theorem Brd_true (p q : Prop) (d : Dep p) (d' : Dep q) : Brd true p q d d' = p := (rfl)
theorem Brd_false (p q : Prop) (d : Dep p) (d' : Dep q) : Brd false p q d d' = q := Br_false p q
theorem Brd_not {b : Bool} {p q : Prop} (d : Dep p) (d' : Dep q) : Brd (!b) p q d d' = Brd b q p d' d := by cases b <;> simp [Br, Brd]

section
variable {P : Program} {w0 : World}

def ACallsd (P : Program) (w0 : World) (f : Nat) (args : List AV) (H : Hp) (Q : AV → Hp → Prop) (_ : Dep Q) : Prop := ACalls P w0 f args H Q
def WL (P : Program) (w0 : World) (c : CC) (Q : Ex → Env → Hp → Prop) (e : Env) (H : Hp) (_ : Dep c) (_ : Dep Q) : Prop := W P w0 (.loop c) Q e H

theorem upd_apply (e : Env) (i : Nat) (v : AV) (j : Nat) : upd e i v j = if j = i then v else e j := (rfl)
theorem updo_some (e : Env) (i : Nat) (v : AV) : updo e (some i) v = upd e i v := (rfl)
theorem updo_none (e : Env) (v : AV) : updo e none v = e := (rfl)
theorem env0_apply (args : List AV) (t : Nat) : env0 args t = (args[t]?).getD (.tup []) := (rfl)
theorem thenQ_norm (n : Env → Hp → Prop) (Q : Ex → Env → Hp → Prop) (e : Env) (H : Hp) : thenQ n Q .norm e H = n e H := (rfl)
theorem thenQ_exit (n : Env → Hp → Prop) (Q : Ex → Env → Hp → Prop) (i : Nat) (e : Env) (H : Hp) : thenQ n Q (.exit i) e H = Q (.exit i) e H := (rfl)
theorem thenQ_ret (n : Env → Hp → Prop) (Q : Ex → Env → Hp → Prop) (e : Env) (H : Hp) : thenQ n Q .ret e H = Q .ret e H := (rfl)
theorem blockQ_norm (id : Nat) (n : Env → Hp → Prop) (Q : Ex → Env → Hp → Prop) (e : Env) (H : Hp) : blockQ id n Q .norm e H = n e H := (rfl)
theorem blockQ_exit_eq (id : Nat) (n : Env → Hp → Prop) (Q : Ex → Env → Hp → Prop) (e : Env) (H : Hp) : blockQ id n Q (.exit id) e H = n e H := by simp [blockQ]
theorem blockQ_exit_ne (id i : Nat) (n : Env → Hp → Prop) (Q : Ex → Env → Hp → Prop) (e : Env) (H : Hp) (h : (i == id) = false) : blockQ id n Q (.exit i) e H = Q (.exit i) e H := by
  have h' : i ≠ id := by simpa using h
  simp [blockQ, h']
theorem blockQ_ret (id : Nat) (n : Env → Hp → Prop) (Q : Ex → Env → Hp → Prop) (e : Env) (H : Hp) : blockQ id n Q .ret e H = Q .ret e H := (rfl)
theorem loopQ_norm (I : Nat → Env → Hp → Prop) (m : Nat) (Q : Ex → Env → Hp → Prop) (e : Env) (H : Hp) : loopQ I m Q .norm e H = ∃ k, k < m ∧ I k e H := (rfl)
theorem loopQ_exit (I : Nat → Env → Hp → Prop) (m : Nat) (Q : Ex → Env → Hp → Prop) (i : Nat) (e : Env) (H : Hp) : loopQ I m Q (.exit i) e H = Q (.exit i) e H := (rfl)
theorem loopQ_ret (I : Nat → Env → Hp → Prop) (m : Nat) (Q : Ex → Env → Hp → Prop) (e : Env) (H : Hp) : loopQ I m Q .ret e H = Q .ret e H := (rfl)
theorem retQ_norm (rs : List RV) (Q : AV → Hp → Prop) (e : Env) (H : Hp) : retQ rs Q .norm e H = QBd (resA e H rs) (fun vs => Q (ret1 vs) H) (dep _) := (rfl)
theorem retQ_ret (rs : List RV) (Q : AV → Hp → Prop) (e : Env) (H : Hp) : retQ rs Q .ret e H = QBd (resA e H rs) (fun vs => Q (ret1 vs) H) (dep _) := (rfl)

theorem W_q {d : Option Nat} {o : QOp} {k : CC} {Q : Ex → Env → Hp → Prop} {e : Env} {H : Hp} : W P w0 (.op d none (.q o) k) Q e H = QBd (qv e H o) (fun v => W P w0 k Q (updo e d v) H) (dep _) := (rfl)
theorem W_mkf {d f : Nat} {l : List Opd} {k : CC} {Q : Ex → Env → Hp → Prop} {e : Env} {H : Hp} : W P w0 (.op (some d) none (.q (.mkf f l)) k) Q e H = QBd (some (AV.fn f (l.map (ev e)))) (fun v => W P w0 k Q (upd e d v) H) (dep _) := by rw [QBd_some]; simp [W, Wg, Wop, qv, QB_some, updo]
theorem W_gd {d : Option Nat} {j : Nat} {b : Bool} {o : AOp} {k : CC} {Q : Ex → Env → Hp → Prop} {e : Env} {H : Hp} :
    W P w0 (.op d (some (j, b)) o k) Q e H = QBd (gdA (e j) b) (fun c => Brd c (W P w0 (.op d none o k) Q e H) (W P w0 k Q (updo e d (.tup [])) H) (dep _) (dep _)) (dep _) := (rfl)
theorem W_l {d : Option Nat} {o : LOp} {k : CC} {Q : Ex → Env → Hp → Prop} {e : Env} {H : Hp} : W P w0 (.op d none (.l o) k) Q e H = QBd (lv e o) (fun x => NewRowd H (fun r => W P w0 k Q (updo e d (lres r x.2)) (H.set r x.1)) (dep _)) (dep _) := (rfl)
theorem W_callf {d : Option Nat} {g : Nat} {l : List Opd} {k : CC} {Q : Ex → Env → Hp → Prop} {e : Env} {H : Hp} :
    W P w0 (.op d none (.e (.call (.f g) l)) k) Q e H = ACallsd P w0 g (l.map (ev e)) H (fun v H' => W P w0 k Q (updo e d v) H') (dep _) := by simp only [W, Wg, Wop, Weff, ev, List.append_nil, ACallsd]
/-- A call of a closure. -/
def CallV (P : Program) (w0 : World) (f : AV) (args : List AV) (H : Hp) (Q : AV → Hp → Prop) (_ : Dep Q) : Prop := match f with | .fn g cap => ACalls P w0 g (args ++ cap) H Q | _ => False
theorem W_callt {d : Option Nat} {t : Nat} {l : List Opd} {k : CC} {Q : Ex → Env → Hp → Prop} {e : Env} {H : Hp} :
    W P w0 (.op d none (.e (.call (.t t) l)) k) Q e H = CallV P w0 (ev e (.t t)) (l.map (ev e)) H (fun v H' => W P w0 k Q (updo e d v) H') (dep _) := by
  simp only [W, Wg, Wop, Weff, CallV]
  cases ev e (Opd.t t) <;> rfl
theorem CallV_fn {g : Nat} {cap args : List AV} {H : Hp} {Q : AV → Hp → Prop} {d : Dep Q} : CallV P w0 (.fn g cap) args H Q d = ACallsd P w0 g (args ++ cap) H Q d := (rfl)
theorem gdA_t {b : Bool} : gdA (.bool b) true = some b := by simp [gdA]
theorem gdA_f {b : Bool} : gdA (.bool b) false = some (!b) := by simp [gdA]
theorem gdA_n {b : Bool} : gdA (.tup []) b = some false := (rfl)
theorem lenA_sl (r o n : Nat) : lenA (.sl r o n) = some n := (rfl)
theorem lenA_nils : lenA .nils = some 0 := (rfl)
theorem lenA_emp : lenA .emp = some 0 := (rfl)
theorem W_cond {c : Opd} {x y k : CC} {Q : Ex → Env → Hp → Prop} {e : Env} {H : Hp} :
    W P w0 (.cond c x y k) Q e H = QBd (boolA (ev e c)) (fun b => Brd b (W P w0 x (thenQ (W P w0 k Q) Q) e H) (W P w0 y (thenQ (W P w0 k Q) Q) e H) (dep _) (dep _)) (dep _) := (rfl)
theorem W_block {id : Nat} {c k : CC} {Q : Ex → Env → Hp → Prop} {e : Env} {H : Hp} : W P w0 (.block id c k) Q e H = W P w0 c (blockQ id (W P w0 k Q) Q) e H := (rfl)
theorem W_done {Q : Ex → Env → Hp → Prop} {e : Env} {H : Hp} : W P w0 .done Q e H = Q .norm e H := (rfl)
theorem W_exit {id : Nat} {Q : Ex → Env → Hp → Prop} {e : Env} {H : Hp} : W P w0 (.exit id) Q e H = Q (.exit id) e H := (rfl)
theorem W_ret {Q : Ex → Env → Hp → Prop} {e : Env} {H : Hp} : W P w0 .ret Q e H = Q .ret e H := (rfl)
theorem W_lp {c : CC} {Q : Ex → Env → Hp → Prop} {e : Env} {H : Hp} : W P w0 (.loop c) Q e H = WL P w0 c Q e H (dep _) (dep _) := (rfl)

theorem W_loop {c : CC} {Q : Ex → Env → Hp → Prop} {e : Env} {H : Hp} {d : Dep c} {d' : Dep Q} (I : Nat → Env → Hp → Prop) (n : Nat) (h0 : I n e H) (h : ∀ n e H, I n e H → W P w0 c (loopQ I n Q) e H) : WL P w0 c Q e H d d' := by
  simp only [WL, W]; exact ⟨I, n, h0, h⟩
end

/-! ### slices -/

/-- The pointer to an element. -/
def elt (sz : Nat) (v : AV) (i : Nat) : AV :=
  match v with
  | .sl r o _ => .ptr r (o + i * sz)
  | _ => .junk

/-- A slice of ints that reads as a list. -/
def Ints (H : Hp) (v : AV) (l : List Int) : Prop := lenA v = some l.length ∧ H.row 1 v = some (l.map (AV.int .i64))

theorem Ints.len {H : Hp} {v : AV} {l : List Int} (h : Ints H v l) : lenA v = some l.length := h.1

theorem Ints.idx {H : Hp} {v : AV} {l : List Int} (h : Ints H v l) {k : IntKind} {i : Int} (h0 : 0 ≤ i) (h1 : i < l.length) : idxA 1 v (.int k i) = some (elt 1 v i.toNat) := by
  obtain ⟨h2, _⟩ := h
  cases v <;> simp [lenA] at h2
  · omega
  · omega
  · subst h2
    simp [idxA, elt, h0, h1]

theorem Ints.at {H : Hp} {v : AV} {l : List Int} (h : Ints H v l) {i : Nat} (h1 : i < l.length) : H.at (elt 1 v i) = some (.int .i64 (l.getD i 0)) := by
  obtain ⟨h2, h3⟩ := h
  cases v <;> simp [lenA] at h2
  · omega
  · omega
  · rename_i r o n
    subst h2
    simp only [Hp.row] at h3
    cases hH : H r with
    | none => simp [hH] at h3
    | some row =>
      simp only [hH] at h3
      split at h3
      · rename_i hle
        simp only [Option.some.injEq, Nat.mul_one] at h3
        simp only [elt, Hp.at, hH, Nat.mul_one]
        have h4 : ((row.cells.drop o).take l.length)[i]? = (l.map (AV.int .i64))[i]? := by rw [h3]
        rw [List.getElem?_take_of_lt h1, List.getElem?_drop] at h4
        rw [h4]
        simp [h1]
      · cases h3

/-- What was there is as it was. -/
def Ext (H H' : Hp) : Prop := ∀ r, H r ≠ none → H' r = H r

theorem Ext.refl (H : Hp) : Ext H H := fun _ _ => rfl
theorem Ext.trans {H1 H2 H3 : Hp} (h : Ext H1 H2) (k : Ext H2 H3) : Ext H1 H3 := fun r hr => by rw [k r (by rw [h r hr]; exact hr), h r hr]
theorem Ext.set {H : Hp} {r : Nat} {x : Row} (h : H r = none) : Ext H (H.set r x) := fun q hq => by
  have : q ≠ r := fun e => by subst e; exact hq h
  simp [Hp.set, this]
theorem Ext.set' {H0 H : Hp} {r : Nat} {x : Row} (h : Ext H0 H) (hr : H0 r = none) : Ext H0 (H.set r x) := fun q hq => by
  have : q ≠ r := fun e => by subst e; exact hq hr
  simp only [Hp.set, this, if_false]
  exact h q hq

theorem Ext.row {H H' : Hp} (h : Ext H H') {sz : Nat} {v : AV} {l : List AV} (hr : H.row sz v = some l) : H'.row sz v = some l := by
  cases v with
  | sl r o n =>
    simp only [Hp.row] at hr ⊢
    cases hH : H r with
    | none => simp [hH] at hr
    | some row => rw [h r (by rw [hH]; simp)]; exact hr
  | nils => exact hr
  | emp => exact hr
  | _ => simp [Hp.row] at hr

theorem Ints.ext {H H' : Hp} {v : AV} {l : List Int} (h : Ints H v l) (he : Ext H H') : Ints H' v l := ⟨h.1, he.row h.2⟩

theorem Ext.at {H H' : Hp} (h : Ext H H') {p v : AV} (hp : H.at p = some v) : H'.at p = some v := by
  cases p with
  | ptr r o =>
    simp only [Hp.at] at hp ⊢
    cases hH : H r with
    | none => simp [hH] at hp
    | some row => rw [h r (by rw [hH]; simp)]; exact hp
  | _ => simp [Hp.at] at hp

theorem Ext.atN {H H' : Hp} (h : Ext H H') {p : AV} {n : Nat} {v : List AV} (hp : H.atN p n = some v) : H'.atN p n = some v := by
  cases p with
  | ptr r o =>
    simp only [Hp.atN] at hp ⊢
    cases hH : H r with
    | none => simp [hH] at hp
    | some row => rw [h r (by rw [hH]; simp)]; exact hp
  | _ => simp [Hp.atN] at hp

/-- The bit of a number: never set in a negative one. -/
def tb (a y : Int) : Bool := decide ((a.fdiv (2 ^ min y.toNat 64)).tmod 2 = 1)

end Go.AL

/-
  Calls that leave the heap as it was; small arithmetic for the walks.
-/
namespace Go.AL
set_option linter.unusedSimpArgs false
set_option linter.unusedVariables false

mutual
/-- No reference to memory. -/
def AV.pure : AV → Bool
  | .int _ _ | .bool _ | .str _ => true
  | .tup l => AV.pures l
  | .nils => true
  | .agg l => AV.pures l
  | _ => false
def AV.pures : List AV → Bool
  | [] => true
  | a :: l => a.pure && AV.pures l
end

section
variable {κ κ' : Nat → KB} {D D' : Nat → Prop}
mutual
theorem VR.pure : ∀ (a : AV) (v : Value), a.pure = true → VR κ D a v → VR κ' D' a v
  | .int _ _, _, _, hv => hv
  | .bool _, _, _, hv => hv
  | .str _, _, _, hv => hv
  | .nilp, _, h, _ => by simp [AV.pure] at h
  | .ptr _ _, _, h, _ => by simp [AV.pure] at h
  | .nils, _, _, hv => hv
  | .emp, _, h, _ => by simp [AV.pure] at h
  | .sl _ _ _, _, h, _ => by simp [AV.pure] at h
  | .fn _ _, _, h, _ => by simp [AV.pure] at h
  | .nilf, _, h, _ => by simp [AV.pure] at h
  | .agg l, v, h, hv => by
    simp only [AV.pure] at h
    simp only [VR] at hv ⊢
    obtain ⟨cs, h1, h2⟩ := hv
    exact ⟨cs, h1, VRs.pure l cs h h2⟩
  | .tup l, v, h, hv => by
    simp only [AV.pure] at h
    simp only [VR] at hv ⊢
    obtain ⟨cs, h1, h2⟩ := hv
    exact ⟨cs, h1, VRs.pure l cs h h2⟩
  | .junk, _, h, _ => by simp [AV.pure] at h
theorem VRs.pure : ∀ (l : List AV) (vs : List Value), AV.pures l = true → VRs κ D l vs → VRs κ' D' l vs
  | [], vs, _, hv => hv
  | a :: l, vs, h, hv => by
    simp only [AV.pures, Bool.and_eq_true] at h
    simp only [VRs] at hv ⊢
    obtain ⟨v, r, h1, h2, h3⟩ := hv
    exact ⟨v, r, h1, VR.pure a v h.1 h2, VRs.pure l r h.2 h3⟩
end

mutual
/-- A value whose references were known before is told with them alone. -/
theorem VR.back : ∀ (a : AV) (v0 v : Value), VR κ D a v0 → VR κ' D' a v → VR κ' D a v
  | .int _ _, _, _, _, hv => hv
  | .bool _, _, _, _, hv => hv
  | .str _, _, _, _, hv => hv
  | .nilp, _, _, _, hv => hv
  | .ptr _ _, _, _, h, hv => by simp only [VR] at h hv ⊢; exact ⟨h.1, hv.2⟩
  | .nils, _, _, _, hv => hv
  | .emp, _, _, _, hv => hv
  | .sl _ _ _, _, _, h, hv => by simp only [VR] at h hv ⊢; exact ⟨h.1, hv.2⟩
  | .fn _ l, v0, v, h, hv => by
    simp only [VR] at h hv ⊢
    obtain ⟨c0, _, h2⟩ := h
    obtain ⟨cs, h3, h4⟩ := hv
    exact ⟨cs, h3, VRs.back l c0 cs h2 h4⟩
  | .nilf, _, _, _, hv => hv
  | .agg l, v0, v, h, hv => by
    simp only [VR] at h hv ⊢
    obtain ⟨c0, _, h2⟩ := h
    obtain ⟨cs, h3, h4⟩ := hv
    exact ⟨cs, h3, VRs.back l c0 cs h2 h4⟩
  | .tup l, v0, v, h, hv => by
    simp only [VR] at h hv ⊢
    obtain ⟨c0, _, h2⟩ := h
    obtain ⟨cs, h3, h4⟩ := hv
    exact ⟨cs, h3, VRs.back l c0 cs h2 h4⟩
  | .junk, _, _, _, _ => by simp only [VR]
theorem VRs.back : ∀ (l : List AV) (v0 vs : List Value), VRs κ D l v0 → VRs κ' D' l vs → VRs κ' D l vs
  | [], _, vs, _, hv => hv
  | a :: l, v0, vs, h, hv => by
    simp only [VRs] at h hv ⊢
    obtain ⟨u, s, h1, h2, h3⟩ := h
    obtain ⟨v, r, h4, h5, h6⟩ := hv
    exact ⟨v, r, h4, VR.back a u v h2 h5, VRs.back l s r h3 h6⟩
end
end

section
variable {P : Program} {w0 : World}

/-- What a call has made and nobody holds is forgotten. -/
theorem ACalls.drop {f : Nat} {args : List AV} {H : Hp} {Q : AV → Prop} (h : ACalls P w0 f args H fun v H' => Ext H H' ∧ v.pure = true ∧ Q v) : ACalls P w0 f args H fun v H' => H' = H ∧ Q v := by
  refine ⟨h.1, fun B κ w vs hr hv => (h.2 B κ w vs hr hv).mono fun en w' ⟨v, rv, κ', H', hen, ⟨hx, hp, hQ⟩, hv', hr', ht⟩ => ?_⟩
  refine ⟨v, rv, κ', H, hen, ⟨rfl, hQ⟩, VR.pure v rv hp hv', ⟨hr'.same, fun r row hrow => ?_, ?_, hr.fin⟩, ?_⟩
  · have hrow' : H' r = some row := by rw [hx r (by rw [hrow]; simp)]; exact hrow
    obtain ⟨a, b, c⟩ := hr'.rows r row hrow'
    obtain ⟨a0, b0, c0⟩ := hr.rows r row hrow
    refine ⟨a, fun ho => ?_, fun ho i x hi => ?_⟩
    · obtain ⟨cur, b1, b2, b3, b4, b5, b6, b7⟩ := b ho
      obtain ⟨cur0, _, _, _, _, _, _, d7⟩ := b0 ho
      refine ⟨cur, b1, b2, b3, b4, b5, b6, fun i x hi => ?_⟩
      obtain ⟨u, hu1, hu2⟩ := b7 i x hi
      obtain ⟨u0, _, hu3⟩ := d7 i x hi
      exact ⟨u, hu1, VR.back x u0 u hu3 hu2⟩
    · obtain ⟨c1, u, c2, c3⟩ := c ho i x hi
      obtain ⟨_, u0, _, d3⟩ := c0 ho i x hi
      exact ⟨c1, u, c2, VR.back x u0 u d3 c3⟩
  · intro r r' row row' h1 h2 h3 h4 h5
    exact hr'.inj r r' row row' (by rw [hx r (by rw [h1]; simp)]; exact h1) (by rw [hx r' (by rw [h2]; simp)]; exact h2) h3 h4 h5
  · refine ⟨fun r hr' => ⟨(ht.kext r hr').1, hr'⟩, fun r row row' h1 h2 h3 => (by rw [h1] at h2; cases h2; exact h3), fun r _ h => h, fun r row h1 h2 => (by rw [h1] at h2; cases h2), ht.frame, ht.size⟩

/-- A call that only computes. -/
theorem quiet {f : Nat} {args : List AV} {H : Hp} {Q : AV → Hp → Prop} (v : AV) (hp : v.pure = true) (h : ACalls P w0 f args H fun v' H' => v' = v ∧ Ext H H') (hq : Q v H) : ACalls P w0 f args H Q :=
  (ACalls.drop (Q := fun v' => v' = v) (h.mono fun v' H' ⟨h1, h2⟩ => ⟨h2, by rw [h1]; exact hp, h1⟩)).mono fun v' H' ⟨h1, h2⟩ => by rw [h1, h2]; exact hq

theorem wrap_id {x : Int} (h0 : -9223372036854775808 ≤ x) (h1 : x < 9223372036854775808) : IntKind.i64.wrap x = x := by
  simp only [IntKind.wrap, IntKind.bits, IntKind.signed, Bool.true_and]
  have h2 : (2 : Int) ^ 64 = 18446744073709551616 := by decide
  have h3 : (2 : Int) ^ (64 - 1) = 9223372036854775808 := by decide
  simp only [h2, h3, decide_eq_true_eq]
  split <;> omega

theorem wrap_of {x : Int} (h : -9223372036854775808 ≤ x ∧ x < 9223372036854775808) : IntKind.i64.wrap x = x := wrap_id h.1 h.2
end
end Go.AL

/-
  More words for the proofs over W: counted loops, regions that draw their order, effects.
-/
namespace Go.AL
set_option linter.unusedSimpArgs false
set_option linter.unusedVariables false

section
variable {P : Program} {w0 : World}

theorem TD_mono0 {S : Nat → Prop} {x : DOp} {K K' : Env → Hp → Prop} {e : Env} {H : Hp} (h : TD P w0 S x K e H) (hk : ∀ e' H', K e' H' → K' e' H') : TD P w0 S x K' e H := by
  rw [TD_md] at h ⊢
  refine QB_mono h fun b hb => ?_
  cases b with
  | true =>
    simp only [if_true] at hb ⊢
    obtain ⟨id, fl, fls, d, g, o⟩ := x
    cases o with
    | q o => simp only [WopD] at hb ⊢; exact ⟨hb.1, QB_mono hb.2 fun v hv => hk _ _ hv⟩
    | l o => simp only [WopD] at hb ⊢; exact QB_mono hb fun x hx r hr => hk _ _ (hx r hr)
    | e o => simp only [WopD] at hb ⊢; exact Weff_mono hb fun v H' ⟨a, c⟩ => ⟨a, hk _ _ c⟩
  | false => simp only [Bool.false_eq_true, if_false] at hb ⊢; exact hk _ _ hb

theorem alts_mono0 {fls : List Nat} {F F' : DOp → List DOp → Prop} (h : ∀ y l, F y l → F' y l) : ∀ (l pre : List DOp), alts fls pre l F → alts fls pre l F'
  | [], _, _ => by simp [alts]
  | y :: l, pre, hx => by
    simp only [alts] at hx ⊢
    refine ⟨?_, alts_mono0 h l _ hx.2⟩
    have h1 := hx.1
    split at h1
    · rename_i hc; rw [if_pos hc]; exact h _ _ h1
    · rename_i hc; rw [if_neg hc]; trivial

theorem WD_mono0 {S : Nat → Prop} {K K' : Env → Hp → Prop} (hk : ∀ e' H', K e' H' → K' e' H') : ∀ (n : Nat) (l : List DOp) (e : Env) (H : Hp), WD P w0 S n l K e H → WD P w0 S n l K' e H
  | 0, l, e, H, h => by cases l <;> (simp only [WD] at h ⊢; exact hk _ _ h)
  | n + 1, [], e, H, h => by simp only [WD] at h ⊢; exact hk _ _ h
  | n + 1, x :: l, e, H, h => by
    simp only [WD] at h ⊢
    exact ⟨TD_mono0 h.1 fun e' H' h' => WD_mono0 hk n l e' H' h', alts_mono0 (fun y l' hy => TD_mono0 hy fun e' H' h' => WD_mono0 hk n _ e' H' h') _ _ h.2⟩

theorem W_mono0 : ∀ (c : CC) (Q Q' : Ex → Env → Hp → Prop) (e : Env) (H : Hp), (∀ x e' H', Q x e' H' → Q' x e' H') → W P w0 c Q e H → W P w0 c Q' e H
  | .done, Q, Q', e, H, hq, h => by simp only [W] at h ⊢; exact hq _ _ _ h
  | .ret, Q, Q', e, H, hq, h => by simp only [W] at h ⊢; exact hq _ _ _ h
  | .exit i, Q, Q', e, H, hq, h => by simp only [W] at h ⊢; exact hq _ _ _ h
  | .block i c k, Q, Q', e, H, hq, h => by
    simp only [W] at h ⊢
    refine W_mono0 c _ _ _ _ (fun x e' H' hx => ?_) h
    cases x with
    | norm => exact W_mono0 k _ _ _ _ hq hx
    | exit j =>
      simp only [blockQ] at hx ⊢
      split at hx
      · rename_i hj; rw [if_pos hj]; exact W_mono0 k _ _ _ _ hq hx
      · rename_i hj; rw [if_neg hj]; exact hq _ _ _ hx
    | ret => exact hq _ _ _ hx
  | .cond c x y k, Q, Q', e, H, hq, h => by
    simp only [W] at h ⊢
    have ht : ∀ z e' H', thenQ (W P w0 k Q) Q z e' H' → thenQ (W P w0 k Q') Q' z e' H' := fun z e' H' hz => by
      cases z with
      | norm => exact W_mono0 k _ _ _ _ hq hz
      | exit j => exact hq _ _ _ hz
      | ret => exact hq _ _ _ hz
    refine QB_mono h fun b hb => ?_
    cases b with
    | true => exact W_mono0 x _ _ _ _ ht hb
    | false => simp only [Br, Bool.false_eq_true, if_false] at hb ⊢; exact W_mono0 y _ _ _ _ ht hb
  | .loop c, Q, Q', e, H, hq, h => by
    simp only [W] at h ⊢
    obtain ⟨I, n, h0, h1⟩ := h
    refine ⟨I, n, h0, fun m e' H' hI => W_mono0 c _ _ _ _ (fun x e2 H2 hx => ?_) (h1 m e' H' hI)⟩
    cases x with
    | norm => exact hx
    | exit j => exact hq _ _ _ hx
    | ret => exact hq _ _ _ hx
  | .draws ops k, Q, Q', e, H, hq, h => by
    simp only [W] at h ⊢
    obtain ⟨S, h⟩ := h
    exact ⟨S, WD_mono0 (fun e' H' h' => W_mono0 k _ _ _ _ hq h') _ _ _ _ h⟩
  | .op d g o k, Q, Q', e, H, hq, h => by
    simp only [W] at h ⊢
    rw [Wg_md] at h ⊢
    refine QB_mono h fun b hb => ?_
    cases b with
    | true =>
      simp only [if_true] at hb ⊢
      cases o with
      | q o => simp only [Wop] at hb ⊢; exact QB_mono hb fun v hv => W_mono0 k _ _ _ _ hq hv
      | l o => simp only [Wop] at hb ⊢; exact QB_mono hb fun x hx r hr => W_mono0 k _ _ _ _ hq (hx r hr)
      | e o => simp only [Wop] at hb ⊢; exact Weff_mono hb fun v H' hv => W_mono0 k _ _ _ _ hq hv
    | false => simp only [Bool.false_eq_true, if_false] at hb ⊢; exact W_mono0 k _ _ _ _ hq hb

/-- What the body of a counted loop must end with. -/
def forQ (J : Int → Env → Hp → Prop) (z n : Int) (Q : Ex → Env → Hp → Prop) : Ex → Env → Hp → Prop
  | .norm, e, H => z < n ∧ J (z + 1) e H
  | x, e, H => Q x e H
theorem forQ_norm (J : Int → Env → Hp → Prop) (z n : Int) (Q : Ex → Env → Hp → Prop) (e : Env) (H : Hp) : forQ J z n Q .norm e H = (z < n ∧ J (z + 1) e H) := (rfl)
theorem forQ_exit (J : Int → Env → Hp → Prop) (z n : Int) (Q : Ex → Env → Hp → Prop) (i : Nat) (e : Env) (H : Hp) : forQ J z n Q (.exit i) e H = Q (.exit i) e H := (rfl)
theorem forQ_ret (J : Int → Env → Hp → Prop) (z n : Int) (Q : Ex → Env → Hp → Prop) (e : Env) (H : Hp) : forQ J z n Q .ret e H = Q .ret e H := (rfl)

theorem W_for {c : CC} {Q : Ex → Env → Hp → Prop} {e : Env} {H : Hp} {d : Dep c} {d' : Dep Q} (z0 n : Int) (J : Int → Env → Hp → Prop) (hz : z0 ≤ n) (h0 : J z0 e H) (h : ∀ z e H, z0 ≤ z → z ≤ n → J z e H → W P w0 c (forQ J z n Q) e H) : WL P w0 c Q e H d d' := by
  refine W_loop (fun m e H => ∃ z : Int, m = (n - z).toNat ∧ z0 ≤ z ∧ z ≤ n ∧ J z e H) (n - z0).toNat ⟨z0, rfl, by omega, hz, h0⟩ ?_
  rintro m e H ⟨z, rfl, h1, h2, h3⟩
  refine W_mono0 c _ _ _ _ (fun x e' H' hx => ?_) (h z e H h1 h2 h3)
  cases x with
  | norm => obtain ⟨hx, hy⟩ := hx; exact ⟨_, by omega, z + 1, rfl, by omega, by omega, hy⟩
  | exit j => exact hx
  | ret => exact hx

/-- What some slots hold. -/
def Sl (e : Env) (l : List (Nat × AV)) : Prop := ∀ p ∈ l, e p.1 = p.2
theorem Sl_nil (e : Env) : Sl e [] = True := by simp [Sl]
theorem Sl_cons (e : Env) (i : Nat) (v : AV) (l : List (Nat × AV)) : Sl e ((i, v) :: l) = (e i = v ∧ Sl e l) := by simp [Sl]

/-! ### regions that draw their order -/

def DR (P : Program) (w0 : World) (ops : List DOp) (k : CC) (Q : Ex → Env → Hp → Prop) (e : Env) (H : Hp) (_ : Dep (ops, k)) (_ : Dep Q) : Prop := W P w0 (.draws ops k) Q e H
theorem W_dr {ops : List DOp} {k : CC} {Q : Ex → Env → Hp → Prop} {e : Env} {H : Hp} : W P w0 (.draws ops k) Q e H = DR P w0 ops k Q e H (dep _) (dep _) := (rfl)

def WDL (P : Program) (w0 : World) (S : Nat → Prop) : List DOp → (Env → Hp → Prop) → Env → Hp → Prop
  | [], K, e, H => K e H
  | x :: l, K, e, H => TD P w0 S x (WDL P w0 S l K) e H

theorem alts_nil0 {F : DOp → List DOp → Prop} : ∀ (l pre : List DOp), alts [] pre l F
  | [], _ => by simp [alts]
  | y :: l, pre => by simp only [alts]; exact ⟨by simp, alts_nil0 l _⟩

theorem WDL_WD {S : Nat → Prop} {K : Env → Hp → Prop} : ∀ (l : List DOp) (e : Env) (H : Hp), (l.all fun x => x.fls.isEmpty) = true → WDL P w0 S l K e H → WD P w0 S l.length l K e H
  | [], e, H, _, h => by simpa only [WDL, WD, List.length_nil] using h
  | x :: l, e, H, hl, h => by
    simp only [List.all_cons, Bool.and_eq_true] at hl
    simp only [WDL, List.length_cons, WD] at h ⊢
    refine ⟨TD_mono0 h fun e' H' h' => WDL_WD l e' H' hl.2 h', ?_⟩
    have hf : x.fls = [] := by simpa using hl.1
    rw [hf]
    exact alts_nil0 _ _

theorem DR_in {ops : List DOp} {k : CC} {Q : Ex → Env → Hp → Prop} {e : Env} {H : Hp} {d : Dep (ops, k)} {d' : Dep Q} (S : Nat → Prop) (hf : (ops.all fun x => x.fls.isEmpty) = true) (h : WDL P w0 S ops (W P w0 k Q) e H) : DR P w0 ops k Q e H d d' := by
  simp only [DR, W]
  exact ⟨S, WDL_WD ops e H hf h⟩

variable {S : Nat → Prop}
theorem WDL_nil {K : Env → Hp → Prop} {e : Env} {H : Hp} : WDL P w0 S [] K e H = K e H := (rfl)
theorem WDL_g {id j : Nat} {fl b : Bool} {fls : List Nat} {dd : Option Nat} {o : AOp} {l : List DOp} {K : Env → Hp → Prop} {e : Env} {H : Hp} :
    WDL P w0 S (⟨id, fl, fls, dd, some (j, b), o⟩ :: l) K e H = QBd (gdA (e j) b) (fun c => Brd c (WDL P w0 S (⟨id, fl, fls, dd, none, o⟩ :: l) K e H) (WDL P w0 S l K (updo e dd (.tup [])) H) (dep _) (dep _)) (dep _) := (rfl)
theorem WDL_q {id : Nat} {fls : List Nat} {dd : Option Nat} {o : QOp} {l : List DOp} {K : Env → Hp → Prop} {e : Env} {H : Hp} :
    WDL P w0 S (⟨id, false, fls, dd, none, .q o⟩ :: l) K e H = QBd (qv e H o) (fun v => WDL P w0 S l K (updo e dd v) H) (dep _) := by simp [WDL, TD, Wg, WopD, QBd]
theorem WDL_ql {id : Nat} {fls : List Nat} {dd : Option Nat} {o : QOp} {l : List DOp} {K : Env → Hp → Prop} {e : Env} {H : Hp} :
    WDL P w0 S (⟨id, true, fls, dd, none, .q o⟩ :: l) K e H = (loadS S e o ∧ QBd (qv e H o) (fun v => WDL P w0 S l K (updo e dd v) H) (dep _)) := by simp [WDL, TD, Wg, WopD, QBd]
theorem WDL_l {id : Nat} {fl : Bool} {fls : List Nat} {dd : Option Nat} {o : LOp} {l : List DOp} {K : Env → Hp → Prop} {e : Env} {H : Hp} :
    WDL P w0 S (⟨id, fl, fls, dd, none, .l o⟩ :: l) K e H = QBd (lv e o) (fun x => NewRowd H (fun r => WDL P w0 S l K (updo e dd (lres r x.2)) (H.set r x.1)) (dep _)) (dep _) := (rfl)
theorem WDL_callf {id : Nat} {fl : Bool} {fls : List Nat} {dd : Option Nat} {g : Nat} {a : List Opd} {l : List DOp} {K : Env → Hp → Prop} {e : Env} {H : Hp} :
    WDL P w0 S (⟨id, fl, fls, dd, none, .e (.call (.f g) a)⟩ :: l) K e H = ACallsd P w0 g (a.map (ev e)) H (fun v H' => (∀ r, S r → H' r = H r) ∧ WDL P w0 S l K (updo e dd v) H') (dep _) := by simp only [WDL, TD, Wg, WopD, Weff, ev, List.append_nil, ACallsd]
theorem WDL_callt {id : Nat} {fl : Bool} {fls : List Nat} {dd : Option Nat} {t : Nat} {a : List Opd} {l : List DOp} {K : Env → Hp → Prop} {e : Env} {H : Hp} :
    WDL P w0 S (⟨id, fl, fls, dd, none, .e (.call (.t t) a)⟩ :: l) K e H = CallV P w0 (ev e (.t t)) (a.map (ev e)) H (fun v H' => (∀ r, S r → H' r = H r) ∧ WDL P w0 S l K (updo e dd v) H') (dep _) := by
  simp only [WDL, TD, Wg, WopD, Weff, CallV]
  cases ev e (Opd.t t) <;> rfl

theorem loadS_true {e : Env} {o : QOp} : loadS (fun _ => True) e o = True := by
  cases o <;> simp only [loadS]
  split <;> rfl

/-! ### stores -/

def stA (H : Hp) (n : Nat) (p x : AV) : Option Hp :=
  match x.cells?, p with
  | some cs, .ptr r o => match H r with
    | some row => if cs.length = n ∧ row.own = true ∧ o + n ≤ row.cells.length then some (H.set r ⟨row.ty, true, splice row.cells o cs⟩) else none
    | none => none
  | _, _ => none

theorem W_store {d : Option Nat} {n : Nat} {a x : Opd} {k : CC} {Q : Ex → Env → Hp → Prop} {e : Env} {H : Hp} :
    W P w0 (.op d none (.e (.store n a x)) k) Q e H = QBd (stA H n (ev e a) (ev e x)) (fun H' => W P w0 k Q (updo e d (.tup [])) H') (dep _) := by
  simp only [W, Wg, Wop, Weff, QBd, stA]
  generalize ev e a = p
  generalize (ev e x).cells? = c
  cases c with
  | none => simp [QB]
  | some cs =>
    cases p with
    | ptr r o =>
      cases hr : H r with
      | none => simp [QB, hr]
      | some row =>
        by_cases h1 : cs.length = n <;> by_cases h2 : row.own = true <;> by_cases h3 : o + n ≤ row.cells.length <;> simp [QB, hr, h1, h2, h3]
    | _ => simp [QB]

theorem WDL_store {id : Nat} {fl : Bool} {fls : List Nat} {dd : Option Nat} {n : Nat} {a x : Opd} {l : List DOp} {K : Env → Hp → Prop} {e : Env} {H : Hp} :
    WDL P w0 S (⟨id, fl, fls, dd, none, .e (.store n a x)⟩ :: l) K e H = QBd (stA H n (ev e a) (ev e x)) (fun H' => (∀ r, S r → H' r = H r) ∧ WDL P w0 S l K (updo e dd (.tup [])) H') (dep _) := by
  simp only [WDL, TD, Wg, WopD, Weff, QBd, stA]
  generalize ev e a = p
  generalize (ev e x).cells? = c
  cases c with
  | none => simp [QB]
  | some cs =>
    cases p with
    | ptr r o =>
      cases hr : H r with
      | none => simp [QB, hr]
      | some row =>
        by_cases h1 : cs.length = n <;> by_cases h2 : row.own = true <;> by_cases h3 : o + n ≤ row.cells.length <;> simp [QB, hr, h1, h2, h3]
    | _ => simp [QB]

/-- An append. -/
def AppD (ty sz bytes : Nat) (s x : AV) (H : Hp) (K : AV → Hp → Prop) (_ : Dep K) : Prop :=
  QB (H.row sz x) fun cs => QB (lenA x) fun m =>
    match s with
    | .nils => (m = 0 → K .nils H) ∧ (m ≠ 0 → m * bytes ≤ 140737488355328 ∧ m ≤ maxLen ∧ NewRow H fun r => K (.sl r 0 m) (H.set r ⟨ty, true, cs⟩))
    | .sl r o n => QB (H r) fun row => row.own = true ∧ o = 0 ∧ row.ty = ty ∧ row.cells.length = n * sz ∧ (n + m) * bytes ≤ 140737488355328 ∧ n + m ≤ maxLen ∧
        NewRow H fun r' => K (.sl r' 0 (n + m)) ((H.set r dead).set r' ⟨ty, true, row.cells ++ cs⟩)
    | _ => False

theorem W_app {d : Option Nat} {ty sz bytes : Nat} {s x : Opd} {k : CC} {Q : Ex → Env → Hp → Prop} {e : Env} {H : Hp} :
    W P w0 (.op d none (.e (.app ty sz bytes s x)) k) Q e H = AppD ty sz bytes (ev e s) (ev e x) H (fun v H' => W P w0 k Q (updo e d v) H') (dep _) := (rfl)

theorem app_own {ty sz bytes r n m : Nat} {x : AV} {H : Hp} {cells cs : List AV} {K : AV → Hp → Prop} {d : Dep K} (hr : H r = some ⟨ty, true, cells⟩) (hc : cells.length = n * sz) (hx : H.row sz x = some cs) (hm : lenA x = some m)
    (hb : (n + m) * bytes ≤ 140737488355328) (hl : n + m ≤ maxLen) (h : ∀ r', H r' = none → K (.sl r' 0 (n + m)) ((H.set r dead).set r' ⟨ty, true, cells ++ cs⟩)) : AppD ty sz bytes (.sl r 0 n) x H K d := by
  simp only [AppD, hx, hm, QB_some, hr]
  exact ⟨trivial, trivial, trivial, hc, hb, hl, h⟩

theorem Hp.set_same (H : Hp) (r : Nat) (x : Row) : (H.set r x) r = some x := by simp [Hp.set]
theorem Hp.set_set (H : Hp) (r : Nat) (x y : Row) : (H.set r x).set r y = H.set r y := by
  funext q; simp only [Hp.set]; split <;> rfl
theorem at_same {H : Hp} {r o : Nat} {x : Row} {c : AV} (h : x.cells[o]? = some c) : (H.set r x).at (.ptr r o) = some c := by simp only [Hp.at, Hp.set_same, h]
theorem NewRowd_in {H : Hp} {K : Nat → Prop} {d : Dep K} (h : ∀ r, H r = none → K r) : NewRowd H K d := h

end
end Go.AL

/-
  The rewriting rules of the walks, in two bundles.
-/
namespace Go.AL
set_option linter.defProp false
def WP := And.intro @W_mkf (And.intro @W_q (And.intro @W_gd (And.intro @W_l (And.intro @W_callf (And.intro @W_callt (And.intro @W_cond (And.intro @W_block (And.intro @W_done (And.intro @W_exit (And.intro @W_ret (And.intro @W_lp (And.intro @thenQ_norm (And.intro @thenQ_exit (And.intro @thenQ_ret (And.intro @blockQ_norm (And.intro @blockQ_exit_eq (And.intro @blockQ_exit_ne (And.intro @blockQ_ret (And.intro @loopQ_norm (And.intro @loopQ_exit (And.intro @loopQ_ret (And.intro @retQ_norm (And.intro @retQ_ret (And.intro @forQ_norm (And.intro @forQ_exit (And.intro @forQ_ret (And.intro @W_dr (And.intro @WDL_nil (And.intro @WDL_g (And.intro @WDL_q (And.intro @WDL_ql (And.intro @WDL_l (And.intro @WDL_callf (And.intro @WDL_callt (And.intro @W_store (And.intro @W_app (@WDL_store)))))))))))))))))))))))))))))))))))))
def WQ := And.intro @CallV_fn (And.intro @QBd_some (And.intro @QBd_ite (And.intro @QBd_ite' (And.intro @updo_some (And.intro @updo_none (And.intro @upd_apply (And.intro @env0_apply (And.intro @gdA_t (And.intro @gdA_f (And.intro @gdA_n (And.intro @Brd_not (And.intro @Brd_true (And.intro @Brd_false (And.intro @lenA_sl (And.intro @lenA_nils (And.intro @lenA_emp (And.intro @Option.bind_some.{0,0} (And.intro @Option.map_some.{0,0} (And.intro @List.map_cons.{0,0} (And.intro @List.map_nil.{0,0} (And.intro @List.nil_append.{0} (And.intro @List.cons_append.{0} (And.intro @List.getElem?_cons_zero.{0} (And.intro @List.getElem?_cons_succ.{0} (And.intro @Option.getD_some.{0} (And.intro @decide_true (And.intro @decide_false (And.intro @Bool.false_eq_true (And.intro @Bool.not_true (And.intro @Bool.not_false (And.intro @Sl_nil (And.intro @Sl_cons (And.intro @and_true (And.intro @true_and (And.intro @loadS_true (And.intro @decide_not (And.intro @not_false_eq_true (And.intro @not_true_eq_false (@Nat.zero_add)))))))))))))))))))))))))))))))))))))))
end Go.AL

/-
  The contracts of the functions on lattices: bits, orders, meets and joins.
-/
namespace Go.AL
open Go.Proofs
set_option linter.unusedSimpArgs false
set_option linter.unusedVariables false
variable {w0 : World} {H : Hp}

theorem within_c (n a b : Int) {Q : AV → Hp → Prop} (ht : a ≤ n ∧ n ≤ b → Q (.bool true) H) (hf : ¬ (a ≤ n ∧ n ≤ b) → Q (.bool false) H) : ACalls Try.prog w0 62 [.int .i64 n, .int .i64 a, .int .i64 b] H Q := by
  refine in62 ?_
  simp only [c62, ↓WP, WQ, if_true, if_false, eq_self, implies_true, ne_eq, List.nil_append, List.cons_append, ↓reduceIte, Nat.reduceEqDiff, Nat.reduceBEq, reduceCtorEq, Nat.reduceAdd, resA, ret1, qv, lv, ev, boolA, binA, intA, shiftA, cmpA, beqA, lres]
  refine Br_dec (fun h1 => ?_) (fun h1 => ?_)
  · simp only [↓WP, WQ, if_true, if_false, eq_self, implies_true, ne_eq, List.nil_append, List.cons_append, ↓reduceIte, Nat.reduceEqDiff, Nat.reduceBEq, reduceCtorEq, Nat.reduceAdd, resA, ret1, qv, lv, ev, boolA, binA, intA, shiftA, cmpA, beqA, lres, decide_eq_true h1]
    by_cases h2 : n ≤ b
    · rw [decide_eq_true h2]; exact ht ⟨h1, h2⟩
    · rw [decide_eq_false h2]; exact hf (fun h => h2 h.2)
  · simp only [↓WP, WQ, if_true, if_false, eq_self, implies_true, ne_eq, List.nil_append, List.cons_append, ↓reduceIte, Nat.reduceEqDiff, Nat.reduceBEq, reduceCtorEq, Nat.reduceAdd, resA, ret1, qv, lv, ev, boolA, binA, intA, shiftA, cmpA, beqA, lres, decide_eq_false h1]
    exact hf (fun h => h1 h.1)

theorem inRange_c (n a b : Int) {Q : AV → Hp → Prop} (ht : a ≤ n ∧ n ≤ b → Q (.bool true) H) (hf : ¬ (a ≤ n ∧ n ≤ b) → Q (.bool false) H) : ACalls Try.prog w0 66 [.int .i64 n, .int .i64 a, .int .i64 b] H Q := by
  refine in66 ?_
  simp only [c66, ↓WP, WQ, if_true, if_false, eq_self, implies_true, ne_eq, List.nil_append, List.cons_append, ↓reduceIte, Nat.reduceEqDiff, Nat.reduceBEq, reduceCtorEq, Nat.reduceAdd, resA, ret1, qv, lv, ev, boolA, binA, intA, shiftA, cmpA, beqA, lres]
  refine Br_dec (fun h1 => ?_) (fun h1 => ?_)
  · simp only [↓WP, WQ, if_true, if_false, eq_self, implies_true, ne_eq, List.nil_append, List.cons_append, ↓reduceIte, Nat.reduceEqDiff, Nat.reduceBEq, reduceCtorEq, Nat.reduceAdd, resA, ret1, qv, lv, ev, boolA, binA, intA, shiftA, cmpA, beqA, lres, decide_eq_true h1]
    by_cases h2 : n ≤ b
    · rw [decide_eq_true h2]; exact ht ⟨h1, h2⟩
    · rw [decide_eq_false h2]; exact hf (fun h => h2 h.2)
  · simp only [↓WP, WQ, if_true, if_false, eq_self, implies_true, ne_eq, List.nil_append, List.cons_append, ↓reduceIte, Nat.reduceEqDiff, Nat.reduceBEq, reduceCtorEq, Nat.reduceAdd, resA, ret1, qv, lv, ev, boolA, binA, intA, shiftA, cmpA, beqA, lres, decide_eq_false h1]
    exact hf (fun h => h1 h.1)

/-- Is y at least x? -/
def bl (up : List Int) (x y : Int) : Prop := tb (up.getD x.toNat 0) y = true

theorem below_c {v : AV} {up : List Int} {x y : Int} (h : Ints H v up) (hx0 : 0 ≤ x) (hx1 : x < up.length) (hy : 0 ≤ y) {Q : AV → Hp → Prop} (ht : bl up x y → Q (.bool true) H) (hf : ¬ bl up x y → Q (.bool false) H) :
    ACalls Try.prog w0 96 [v, .int .i64 x, .int .i64 y] H Q := by
  have hx2 : x.toNat < up.length := by omega
  have hy' : ¬ y < 0 := by omega
  refine in96 ?_
  simp only [c96, ↓WP, WQ, if_true, if_false, eq_self, implies_true, ne_eq, List.nil_append, List.cons_append, ↓reduceIte, Nat.reduceEqDiff, Nat.reduceBEq, reduceCtorEq, Nat.reduceAdd, resA, ret1, qv, lv, ev, boolA, binA, intA, shiftA, cmpA, beqA, lres, h.idx hx0 hx1, h.at hx2, hy']
  refine ⟨by omega, ?_⟩
  show Q (.bool (tb _ _)) H
  by_cases hb : bl up x y
  · rw [show tb _ _ = true from hb]; exact ht hb
  · rw [show tb (up.getD x.toNat 0) y = false from by simpa [bl] using hb]; exact hf hb

theorem power_c (n : Int) (hn : n ≤ 62) {Q : AV → Hp → Prop} (hq : Q (.int .i64 (2 ^ n.toNat)) H) : ACalls Try.prog w0 82 [.int .i64 n] H Q := by
  refine in82 ?_
  simp only [c82, ↓WP, WQ, if_true, if_false, eq_self, implies_true, ne_eq, List.nil_append, List.cons_append, ↓reduceIte, Nat.reduceEqDiff, Nat.reduceBEq, reduceCtorEq, Nat.reduceAdd, resA, ret1, qv, lv, ev, boolA, binA, intA, shiftA, cmpA, beqA, lres]
  refine W_loop (fun m e H' => H' = H ∧ ∃ k : Int, m = k.toNat ∧ e 0 = .int .i64 k ∧ k ≤ n ∧ (n < 0 → k < 0) ∧ e 3 = .int .i64 (2 ^ (n.toNat - m))) n.toNat ?_ ?_
  · exact ⟨rfl, n, rfl, rfl, by omega, by omega, by simp [upd_apply]⟩
  · rintro m e H' ⟨rfl, k, rfl, h0, hk, hk', h3⟩
    simp only [↓WP, WQ, if_true, if_false, eq_self, implies_true, ne_eq, List.nil_append, List.cons_append, ↓reduceIte, Nat.reduceEqDiff, Nat.reduceBEq, reduceCtorEq, Nat.reduceAdd, resA, ret1, qv, lv, ev, boolA, binA, intA, shiftA, cmpA, beqA, lres, h0, h3]
    refine Br_dec (fun h1 => ?_) (fun h1 => ?_) <;> simp only [↓WP, WQ, if_true, if_false, eq_self, implies_true, ne_eq, List.nil_append, List.cons_append, ↓reduceIte, Nat.reduceEqDiff, Nat.reduceBEq, reduceCtorEq, Nat.reduceAdd, resA, ret1, qv, lv, ev, boolA, binA, intA, shiftA, cmpA, beqA, lres, h0, h3]
    · have hb : (2 : Int) ^ (n.toNat - k.toNat) ≤ 2 ^ 61 := by exact_mod_cast Nat.pow_le_pow_right (by omega) (by omega)
      have hb0 : (0 : Int) < 2 ^ (n.toNat - k.toNat) := by exact_mod_cast Nat.pow_pos (by omega)
      rw [wrap_id (by omega) (by omega), wrap_id (by omega) (by omega)]
      refine ⟨_, by omega, k - 1, rfl, rfl, by omega, by omega, ?_⟩
      congr 1
      rw [show n.toNat - (k - 1).toNat = (n.toNat - k.toNat) + 1 by omega, Int.pow_succ]; omega
    · have : k.toNat = 0 := by omega
      simpa [this] using hq

/-- The first of n numbers that fulfils a condition, -1 if none does. -/
noncomputable def firstI (n : Int) (p : Int → Prop) : Int :=
  open Classical in if h : ∃ z : Int, 0 ≤ z ∧ z < n ∧ p z ∧ ∀ k, 0 ≤ k → k < z → ¬ p k then Classical.choose h else -1

theorem firstI_eq {n : Int} {p : Int → Prop} {z : Int} (h0 : 0 ≤ z) (h1 : z < n) (h2 : p z) (h3 : ∀ k, 0 ≤ k → k < z → ¬ p k) : firstI n p = z := by
  have h : ∃ z : Int, 0 ≤ z ∧ z < n ∧ p z ∧ ∀ k, 0 ≤ k → k < z → ¬ p k := ⟨z, h0, h1, h2, h3⟩
  unfold firstI
  rw [dif_pos h]
  obtain ⟨c0, c1, c2, c3⟩ := Classical.choose_spec h
  generalize Classical.choose h = c at *
  rcases Int.lt_trichotomy c z with h4 | h4 | h4
  · exact absurd c2 (h3 c c0 h4)
  · exact h4
  · exact absurd h2 (c3 z h0 h4)

theorem firstI_none {n : Int} {p : Int → Prop} (h : ∀ k, 0 ≤ k → k < n → ¬ p k) : firstI n p = -1 := by
  unfold firstI
  rw [dif_neg]
  rintro ⟨z, h0, h1, h2, _⟩
  exact h z h0 h1 h2

/-- What there is. -/
theorem firstI_spec {n : Int} {p : Int → Prop} : (0 ≤ firstI n p ∧ firstI n p < n ∧ p (firstI n p) ∧ ∀ k, 0 ≤ k → k < firstI n p → ¬ p k) ∨ (firstI n p = -1 ∧ ∀ k, 0 ≤ k → k < n → ¬ p k) := by
  by_cases h : ∃ z : Int, 0 ≤ z ∧ z < n ∧ p z ∧ ∀ k, 0 ≤ k → k < z → ¬ p k
  · obtain ⟨z, h0, h1, h2, h3⟩ := h
    rw [firstI_eq h0 h1 h2 h3]
    exact Or.inl ⟨h0, h1, h2, h3⟩
  · refine Or.inr ⟨by unfold firstI; rw [dif_neg h], fun k hk0 hk1 hp => h ?_⟩
    have : ∀ m : Nat, ∀ k : Int, k.toNat = m → 0 ≤ k → k < n → p k → ∃ z : Int, 0 ≤ z ∧ z < n ∧ p z ∧ ∀ k, 0 ≤ k → k < z → ¬ p k := by
      intro m
      induction m using Nat.strongRecOn with
      | _ m ih =>
        intro k hm hk0 hk1 hp
        by_cases hq : ∃ j, 0 ≤ j ∧ j < k ∧ p j
        · obtain ⟨j, j0, j1, j2⟩ := hq
          exact ih j.toNat (by omega) j rfl j0 (by omega) j2
        · exact ⟨k, hk0, hk1, hp, fun j j0 j1 j2 => hq ⟨j, j0, j1, j2⟩⟩
    exact this k.toNat k rfl hk0 hk1 hp

/-- For all numbers below n. -/
def allI (n : Int) (p : Int → Prop) : Prop := ∀ k, 0 ≤ k → k < n → p k
theorem allI_zero {p : Int → Prop} : allI 0 p := fun k h0 h1 => by omega
theorem allI_succ {n : Int} {p : Int → Prop} (h0 : 0 ≤ n) : allI (n + 1) p ↔ allI n p ∧ p n := by
  constructor
  · exact fun h => ⟨fun k k0 k1 => h k k0 (by omega), h n h0 (by omega)⟩
  · rintro ⟨h1, h2⟩ k k0 k1
    by_cases hk : k = n
    · rw [hk]; exact h2
    · exact h1 k k0 (by omega)

/-- z is the greatest below x and y. -/
def meetP (up : List Int) (x y z : Int) : Prop := bl up z x ∧ bl up z y ∧ allI up.length fun w => bl up w x → bl up w y → bl up w z
/-- z is the least above x and y. -/
def joinP (up : List Int) (x y z : Int) : Prop := bl up x z ∧ bl up y z ∧ allI up.length fun w => bl up x w → bl up y w → bl up z w
noncomputable def meetF (up : List Int) (x y : Int) : Int := firstI up.length (meetP up x y)
noncomputable def joinF (up : List Int) (x y : Int) : Int := firstI up.length (joinP up x y)

theorem meet_c {v : AV} {up : List Int} {x y : Int} (h : Ints H v up) (hn : up.length ≤ 62) (hx0 : 0 ≤ x) (hx1 : x < up.length) (hy0 : 0 ≤ y) (hy1 : y < up.length) {Q : AV → Hp → Prop} (hq : Q (.int .i64 (meetF up x y)) H) :
    ACalls Try.prog w0 153 [v, .int .i64 x, .int .i64 y] H Q := by
  refine in153 ?_
  simp only [c153, ↓WP, WQ, if_true, if_false, eq_self, implies_true, ne_eq, List.nil_append, List.cons_append, ↓reduceIte, Nat.reduceEqDiff, Nat.reduceBEq, reduceCtorEq, Nat.reduceAdd, resA, ret1, qv, lv, ev, boolA, binA, intA, shiftA, cmpA, beqA, lres, h.len]
  refine W_for 0 up.length (fun z e H' => H' = H ∧ Sl e [(0, v), (1, .int .i64 x), (2, .int .i64 y), (11, .int .i64 up.length), (12, .int .i64 z)] ∧ allI z fun k => ¬ meetP up x y k) (by omega) ⟨rfl, by simp only [↓WP, WQ, if_true, if_false, eq_self, implies_true, ne_eq, List.nil_append, List.cons_append, ↓reduceIte, Nat.reduceEqDiff, Nat.reduceBEq, reduceCtorEq, Nat.reduceAdd, resA, ret1, qv, lv, ev, boolA, binA, intA, shiftA, cmpA, beqA, lres], allI_zero⟩ ?_
  rintro z e H' hz0 hzn ⟨rfl, hs, hno⟩
  simp only [Sl_cons, Sl_nil, and_true] at hs
  have hw : IntKind.i64.wrap (z + 1) = z + 1 := wrap_id (by omega) (by omega)
  simp only [↓WP, WQ, if_true, if_false, eq_self, implies_true, ne_eq, List.nil_append, List.cons_append, ↓reduceIte, Nat.reduceEqDiff, Nat.reduceBEq, reduceCtorEq, Nat.reduceAdd, resA, ret1, qv, lv, ev, boolA, binA, intA, shiftA, cmpA, beqA, lres, hs]
  refine Br_dec (fun hz => ?_) (fun hz => ?_) <;> simp only [↓WP, WQ, if_true, if_false, eq_self, implies_true, ne_eq, List.nil_append, List.cons_append, ↓reduceIte, Nat.reduceEqDiff, Nat.reduceBEq, reduceCtorEq, Nat.reduceAdd, resA, ret1, qv, lv, ev, boolA, binA, intA, shiftA, cmpA, beqA, lres, hs]
  · refine below_c h hz0 hz hx0 (fun ha => ?_) (fun ha => ?_) <;> simp only [↓WP, WQ, if_true, if_false, eq_self, implies_true, ne_eq, List.nil_append, List.cons_append, ↓reduceIte, Nat.reduceEqDiff, Nat.reduceBEq, reduceCtorEq, Nat.reduceAdd, resA, ret1, qv, lv, ev, boolA, binA, intA, shiftA, cmpA, beqA, lres, hs, hw, hz]
    · refine below_c h hz0 hz hy0 (fun hb => ?_) (fun hb => ?_) <;> simp only [↓WP, WQ, if_true, if_false, eq_self, implies_true, ne_eq, List.nil_append, List.cons_append, ↓reduceIte, Nat.reduceEqDiff, Nat.reduceBEq, reduceCtorEq, Nat.reduceAdd, resA, ret1, qv, lv, ev, boolA, binA, intA, shiftA, cmpA, beqA, lres, hs, h.len, hw, hz]
      · refine W_for 0 up.length (fun w e H'' => H'' = H' ∧ Sl e [(0, v), (1, .int .i64 x), (2, .int .i64 y), (11, .int .i64 up.length), (12, .int .i64 z), (7, .int .i64 z), (28, .int .i64 up.length), (29, .int .i64 w)] ∧ ∃ b, e 8 = .bool b ∧ (b = true ↔ allI w fun w => bl up w x → bl up w y → bl up w z)) (by omega) ⟨rfl, by simp only [↓WP, WQ, if_true, if_false, eq_self, implies_true, ne_eq, List.nil_append, List.cons_append, ↓reduceIte, Nat.reduceEqDiff, Nat.reduceBEq, reduceCtorEq, Nat.reduceAdd, resA, ret1, qv, lv, ev, boolA, binA, intA, shiftA, cmpA, beqA, lres, hs], true, rfl, by simp [allI_zero]⟩ ?_
        rintro w e' H'' hw0 hw1 ⟨rfl, gs, b, g8, gb⟩
        simp only [Sl_cons, Sl_nil, and_true] at gs
        have hww : IntKind.i64.wrap (w + 1) = w + 1 := wrap_id (by omega) (by omega)
        simp only [↓WP, WQ, if_true, if_false, eq_self, implies_true, ne_eq, List.nil_append, List.cons_append, ↓reduceIte, Nat.reduceEqDiff, Nat.reduceBEq, reduceCtorEq, Nat.reduceAdd, resA, ret1, qv, lv, ev, boolA, binA, intA, shiftA, cmpA, beqA, lres, gs, g8]
        refine Br_dec (fun hwn => ?_) (fun hwn => ?_) <;> simp only [↓WP, WQ, if_true, if_false, eq_self, implies_true, ne_eq, List.nil_append, List.cons_append, ↓reduceIte, Nat.reduceEqDiff, Nat.reduceBEq, reduceCtorEq, Nat.reduceAdd, resA, ret1, qv, lv, ev, boolA, binA, intA, shiftA, cmpA, beqA, lres, gs, g8]
        · cases b <;> simp only [↓WP, WQ, if_true, if_false, eq_self, implies_true, ne_eq, List.nil_append, List.cons_append, ↓reduceIte, Nat.reduceEqDiff, Nat.reduceBEq, reduceCtorEq, Nat.reduceAdd, resA, ret1, qv, lv, ev, boolA, binA, intA, shiftA, cmpA, beqA, lres, gs, hww, hwn]
          · exact ⟨_, rfl, by rw [allI_succ hw0, ← gb]; simp⟩
          · refine below_c h hw0 hwn hx0 (fun hc => ?_) (fun hc => ?_) <;> simp only [↓WP, WQ, if_true, if_false, eq_self, implies_true, ne_eq, List.nil_append, List.cons_append, ↓reduceIte, Nat.reduceEqDiff, Nat.reduceBEq, reduceCtorEq, Nat.reduceAdd, resA, ret1, qv, lv, ev, boolA, binA, intA, shiftA, cmpA, beqA, lres, gs, hww, hwn]
            · refine below_c h hw0 hwn hy0 (fun hd => ?_) (fun hd => ?_) <;> simp only [↓WP, WQ, if_true, if_false, eq_self, implies_true, ne_eq, List.nil_append, List.cons_append, ↓reduceIte, Nat.reduceEqDiff, Nat.reduceBEq, reduceCtorEq, Nat.reduceAdd, resA, ret1, qv, lv, ev, boolA, binA, intA, shiftA, cmpA, beqA, lres, gs, hww, hwn]
              · refine below_c h hw0 hwn hz0 (fun he => ?_) (fun he => ?_) <;> simp only [↓WP, WQ, if_true, if_false, eq_self, implies_true, ne_eq, List.nil_append, List.cons_append, ↓reduceIte, Nat.reduceEqDiff, Nat.reduceBEq, reduceCtorEq, Nat.reduceAdd, resA, ret1, qv, lv, ev, boolA, binA, intA, shiftA, cmpA, beqA, lres, gs, hww, hwn]
                · exact ⟨_, rfl, by rw [allI_succ hw0, ← gb]; simp [hc, hd, he]⟩
                · exact ⟨_, rfl, by rw [allI_succ hw0, ← gb]; simp [hc, hd, he]⟩
              · exact ⟨_, rfl, by rw [allI_succ hw0, ← gb]; simp [hc, hd]⟩
            · exact ⟨_, rfl, by rw [allI_succ hw0, ← gb]; simp [hc]⟩
        · have hwe : w = up.length := by omega
          subst hwe
          cases b <;> simp only [↓WP, WQ, if_true, if_false, eq_self, implies_true, ne_eq, List.nil_append, List.cons_append, ↓reduceIte, Nat.reduceEqDiff, Nat.reduceBEq, reduceCtorEq, Nat.reduceAdd, resA, ret1, qv, lv, ev, boolA, binA, intA, shiftA, cmpA, beqA, lres, gs, hw, hz]
          · exact (allI_succ hz0).2 ⟨hno, fun hm => absurd (gb.2 hm.2.2) (by simp)⟩
          · have : meetF up x y = z := firstI_eq hz0 hz ⟨ha, hb, gb.1 rfl⟩ hno
            rw [this] at hq; exact hq
      · exact (allI_succ hz0).2 ⟨hno, fun hm => hb hm.2.1⟩
    · exact (allI_succ hz0).2 ⟨hno, fun hm => ha hm.1⟩
  · have : meetF up x y = -1 := firstI_none fun k k0 k1 => hno k k0 (by omega)
    rw [this] at hq; exact hq

/-! ### bits -/

theorem tb_testBit {a y : Int} (ha : 0 ≤ a) (hy1 : y.toNat ≤ 64) : tb a y = a.toNat.testBit y.toNat := by
  obtain ⟨n, rfl⟩ : ∃ n : Nat, a = n := ⟨a.toNat, by omega⟩
  unfold tb
  rw [Nat.min_eq_left hy1, Nat.testBit_eq_decide_div_mod_eq]
  congr 1
  have h1 : Int.fdiv (n : Int) (2 ^ y.toNat) = ((n / 2 ^ y.toNat : Nat) : Int) := by
    rw [Int.fdiv_eq_ediv_of_nonneg _ (by exact_mod_cast Nat.zero_le _)]
    push_cast; rfl
  rw [h1]
  simp only [Int.toNat_natCast]
  generalize n / 2 ^ y.toNat = m
  rw [Int.tmod_eq_emod_of_nonneg (by omega)]
  simp only [eq_iff_iff]
  omega

theorem tb_neg {a y : Int} (ha : a < 0) : tb a y = false := by
  unfold tb
  simp only [decide_eq_false_iff_not]
  intro h
  have h2 : a.fdiv (2 ^ min y.toNat 64) < 0 := by
    apply Int.fdiv_neg_of_neg_of_pos ha
    exact_mod_cast Nat.pow_pos (by omega)
  generalize a.fdiv (2 ^ min y.toNat 64) = c at *
  obtain ⟨m, rfl⟩ : ∃ m : Nat, c = -(m : Int) := ⟨(-c).toNat, by omega⟩
  rw [Int.neg_tmod, Int.tmod_eq_emod_of_nonneg (by omega)] at h
  omega

theorem bit_c (a j : Int) (ha0 : 0 ≤ a) (ha1 : a < 4611686018427387904) (hj0 : 0 ≤ j) (hj1 : j ≤ 62) {Q : AV → Hp → Prop} (ht : tb a j = true → Q (.int .i64 1) H) (hf : tb a j = false → Q (.int .i64 0) H) :
    ACalls Try.prog w0 138 [.int .i64 a, .int .i64 j] H Q := by
  refine in138 ?_
  simp only [c138, ↓WP, WQ, if_true, if_false, eq_self, implies_true, ne_eq, List.nil_append, List.cons_append, ↓reduceIte, Nat.reduceEqDiff, Nat.reduceBEq, reduceCtorEq, Nat.reduceAdd, resA, ret1, qv, lv, ev, boolA, binA, intA, shiftA, cmpA, beqA, lres]
  refine power_c j hj1 ?_
  obtain ⟨n, rfl⟩ : ∃ n : Nat, a = n := ⟨a.toNat, by omega⟩
  have hp : (0 : Int) < 2 ^ j.toNat := by exact_mod_cast Nat.pow_pos (by omega)
  have h1 : Int.tdiv (n : Int) (2 ^ j.toNat) = ((n / 2 ^ j.toNat : Nat) : Int) := by
    rw [Int.tdiv_eq_ediv_of_nonneg (by omega)]; push_cast; rfl
  have h2 : n / 2 ^ j.toNat ≤ n := Nat.div_le_self _ _
  generalize hm : n / 2 ^ j.toNat = m at *
  have h3 : IntKind.i64.wrap (m : Int) = (m : Int) := wrap_id (by omega) (by omega)
  simp only [↓WP, WQ, if_true, if_false, eq_self, implies_true, ne_eq, List.nil_append, List.cons_append, ↓reduceIte, Nat.reduceEqDiff, Nat.reduceBEq, reduceCtorEq, Nat.reduceAdd, resA, ret1, qv, lv, ev, boolA, binA, intA, shiftA, cmpA, beqA, lres, h1, h3]
  refine ⟨by omega, by omega, ?_⟩
  rw [Int.tmod_eq_emod_of_nonneg (by omega)]
  have h4 : tb (n : Int) j = n.testBit j.toNat := tb_testBit (by omega) (by omega)
  rw [Nat.testBit_eq_decide_div_mod_eq, hm] at h4
  by_cases h5 : m % 2 = 1
  · rw [show (m : Int) % 2 = 1 by omega]; exact ht (by rw [h4]; simpa using h5)
  · rw [show (m : Int) % 2 = 0 by omega]; exact hf (by rw [h4]; simpa using h5)

/-- All rows are numbers of at least 0 that are not too great. -/
def Rows62 (up : List Int) : Prop := ∀ k : Int, 0 ≤ k → k < up.length → 0 ≤ up.getD k.toNat 0 ∧ up.getD k.toNat 0 < 4611686018427387904

theorem sbelow_c {v : AV} {up : List Int} {x y : Int} (h : Ints H v up) (hr : Rows62 up) (hx0 : 0 ≤ x) (hx1 : x < up.length) (hy : 0 ≤ y) (hy1 : y ≤ 62) {Q : AV → Hp → Prop} (ht : bl up x y → Q (.bool true) H) (hf : ¬ bl up x y → Q (.bool false) H) :
    ACalls Try.prog w0 93 [v, .int .i64 x, .int .i64 y] H Q := by
  have hx2 : x.toNat < up.length := by omega
  refine in93 ?_
  simp only [c93, ↓WP, WQ, if_true, if_false, eq_self, implies_true, ne_eq, List.nil_append, List.cons_append, ↓reduceIte, Nat.reduceEqDiff, Nat.reduceBEq, reduceCtorEq, Nat.reduceAdd, resA, ret1, qv, lv, ev, boolA, binA, intA, shiftA, cmpA, beqA, lres, h.idx hx0 hx1, h.at hx2]
  refine bit_c _ _ (hr x hx0 hx1).1 (hr x hx0 hx1).2 hy hy1 (fun hb => ?_) (fun hb => ?_) <;> simp only [↓WP, WQ, if_true, if_false, eq_self, implies_true, ne_eq, List.nil_append, List.cons_append, ↓reduceIte, Nat.reduceEqDiff, Nat.reduceBEq, reduceCtorEq, Nat.reduceAdd, resA, ret1, qv, lv, ev, boolA, binA, intA, shiftA, cmpA, beqA, lres]
  · exact ht hb
  · exact hf (by unfold bl; rw [hb]; simp)

theorem has_c {f x : Int} (hx : 0 ≤ x) {Q : AV → Hp → Prop} (ht : tb f x = true → Q (.bool true) H) (hf : tb f x = false → Q (.bool false) H) :
    ACalls Try.prog w0 89 [.int .i64 f, .int .i64 x] H Q := by
  have hx' : ¬ x < 0 := by omega
  refine in89 ?_
  simp only [c89, ↓WP, WQ, if_true, if_false, eq_self, implies_true, ne_eq, List.nil_append, List.cons_append, ↓reduceIte, Nat.reduceEqDiff, Nat.reduceBEq, reduceCtorEq, Nat.reduceAdd, resA, ret1, qv, lv, ev, boolA, binA, intA, shiftA, cmpA, beqA, lres, hx']
  refine ⟨by omega, ?_⟩
  show Q (.bool (tb f x)) H
  cases hb : tb f x
  · exact hf hb
  · exact ht hb
end Go.AL

/-
  The contracts of meets and joins of the reference.
-/
namespace Go.AL
open Go.Proofs
set_option linter.unusedSimpArgs false
set_option linter.unusedVariables false
variable {w0 : World} {H : Hp}

theorem smeet_c {v : AV} {up : List Int} {x y : Int} (h : Ints H v up) (hr : Rows62 up) (hn : up.length ≤ 62) (hx0 : 0 ≤ x) (hx1 : x < up.length) (hy0 : 0 ≤ y) (hy1 : y < up.length) {Q : AV → Hp → Prop} (hq : Q (.int .i64 (meetF up x y)) H) :
    ACalls Try.prog w0 125 [v, .int .i64 x, .int .i64 y] H Q := by
  refine in125 ?_
  simp only [c125, ↓WP, WQ, if_true, if_false, eq_self, implies_true, ne_eq, List.nil_append, List.cons_append, ↓reduceIte, Nat.reduceEqDiff, Nat.reduceBEq, reduceCtorEq, Nat.reduceAdd, resA, ret1, qv, lv, ev, boolA, binA, intA, shiftA, cmpA, beqA, lres]
  refine W_for 0 up.length (fun z e H' => H' = H ∧ Sl e [(0, v), (1, .int .i64 x), (2, .int .i64 y), (7, .int .i64 z)] ∧ allI z fun k => ¬ meetP up x y k) (by omega) ⟨rfl, by simp only [↓WP, WQ, if_true, if_false, eq_self, implies_true, ne_eq, List.nil_append, List.cons_append, ↓reduceIte, Nat.reduceEqDiff, Nat.reduceBEq, reduceCtorEq, Nat.reduceAdd, resA, ret1, qv, lv, ev, boolA, binA, intA, shiftA, cmpA, beqA, lres], allI_zero⟩ ?_
  rintro z e H' hz0 hzn ⟨rfl, hs, hno⟩
  simp only [Sl_cons, Sl_nil, and_true] at hs
  have hw : IntKind.i64.wrap (z + 1) = z + 1 := wrap_id (by omega) (by omega)
  simp only [↓WP, WQ, if_true, if_false, eq_self, implies_true, ne_eq, List.nil_append, List.cons_append, ↓reduceIte, Nat.reduceEqDiff, Nat.reduceBEq, reduceCtorEq, Nat.reduceAdd, resA, ret1, qv, lv, ev, boolA, binA, intA, shiftA, cmpA, beqA, lres, hs, h.len]
  refine Br_dec (fun hz => ?_) (fun hz => ?_) <;> simp only [↓WP, WQ, if_true, if_false, eq_self, implies_true, ne_eq, List.nil_append, List.cons_append, ↓reduceIte, Nat.reduceEqDiff, Nat.reduceBEq, reduceCtorEq, Nat.reduceAdd, resA, ret1, qv, lv, ev, boolA, binA, intA, shiftA, cmpA, beqA, lres, hs]
  · refine sbelow_c h hr hz0 hz hx0 (by omega) (fun ha => ?ta) (fun ha => ?fa) <;> simp only [↓WP, WQ, if_true, if_false, eq_self, implies_true, ne_eq, List.nil_append, List.cons_append, ↓reduceIte, Nat.reduceEqDiff, Nat.reduceBEq, reduceCtorEq, Nat.reduceAdd, resA, ret1, qv, lv, ev, boolA, binA, intA, shiftA, cmpA, beqA, lres, hs, hw, hz]
    case' ta => refine sbelow_c h hr hz0 hz hy0 (by omega) (fun hb => ?_) (fun hb => ?_) <;> simp only [↓WP, WQ, if_true, if_false, eq_self, implies_true, ne_eq, List.nil_append, List.cons_append, ↓reduceIte, Nat.reduceEqDiff, Nat.reduceBEq, reduceCtorEq, Nat.reduceAdd, resA, ret1, qv, lv, ev, boolA, binA, intA, shiftA, cmpA, beqA, lres, hs, hw, hz]
    all_goals
      refine W_for 0 up.length (fun w e H'' => H'' = H' ∧ Sl e [(0, v), (1, .int .i64 x), (2, .int .i64 y), (7, .int .i64 z), (9, .int .i64 w)] ∧ ∃ b, e 8 = .bool b ∧ (b = true ↔ bl up z x ∧ bl up z y ∧ allI w fun w => bl up w x → bl up w y → bl up w z)) (by omega) ⟨rfl, by simp only [↓WP, WQ, if_true, if_false, eq_self, implies_true, ne_eq, List.nil_append, List.cons_append, ↓reduceIte, Nat.reduceEqDiff, Nat.reduceBEq, reduceCtorEq, Nat.reduceAdd, resA, ret1, qv, lv, ev, boolA, binA, intA, shiftA, cmpA, beqA, lres, hs], _, rfl, by simp [*, allI_zero]⟩ ?_
      rintro w e' H'' hw0 hw1 ⟨rfl, gs, b, g8, gb⟩
      simp only [Sl_cons, Sl_nil, and_true] at gs
      have hww : IntKind.i64.wrap (w + 1) = w + 1 := wrap_id (by omega) (by omega)
      simp only [↓WP, WQ, if_true, if_false, eq_self, implies_true, ne_eq, List.nil_append, List.cons_append, ↓reduceIte, Nat.reduceEqDiff, Nat.reduceBEq, reduceCtorEq, Nat.reduceAdd, resA, ret1, qv, lv, ev, boolA, binA, intA, shiftA, cmpA, beqA, lres, gs, g8, h.len]
      refine Br_dec (fun hwn => ?_) (fun hwn => ?_) <;> simp only [↓WP, WQ, if_true, if_false, eq_self, implies_true, ne_eq, List.nil_append, List.cons_append, ↓reduceIte, Nat.reduceEqDiff, Nat.reduceBEq, reduceCtorEq, Nat.reduceAdd, resA, ret1, qv, lv, ev, boolA, binA, intA, shiftA, cmpA, beqA, lres, gs, g8, hwn]
      · cases b <;> simp only [↓WP, WQ, if_true, if_false, eq_self, implies_true, ne_eq, List.nil_append, List.cons_append, ↓reduceIte, Nat.reduceEqDiff, Nat.reduceBEq, reduceCtorEq, Nat.reduceAdd, resA, ret1, qv, lv, ev, boolA, binA, intA, shiftA, cmpA, beqA, lres, gs, hww, hwn, hw, hz, g8]
        · exact (allI_succ hz0).2 ⟨hno, fun hm => absurd (gb.2 ⟨hm.1, hm.2.1, fun k k0 k1 => hm.2.2 k k0 (by omega)⟩) (by simp)⟩
        · refine sbelow_c h hr hw0 hwn hx0 (by omega) (fun hc => ?_) (fun hc => ?_) <;> simp only [↓WP, WQ, if_true, if_false, eq_self, implies_true, ne_eq, List.nil_append, List.cons_append, ↓reduceIte, Nat.reduceEqDiff, Nat.reduceBEq, reduceCtorEq, Nat.reduceAdd, resA, ret1, qv, lv, ev, boolA, binA, intA, shiftA, cmpA, beqA, lres, gs, hww, hwn]
          · refine sbelow_c h hr hw0 hwn hy0 (by omega) (fun hd => ?_) (fun hd => ?_) <;> simp only [↓WP, WQ, if_true, if_false, eq_self, implies_true, ne_eq, List.nil_append, List.cons_append, ↓reduceIte, Nat.reduceEqDiff, Nat.reduceBEq, reduceCtorEq, Nat.reduceAdd, resA, ret1, qv, lv, ev, boolA, binA, intA, shiftA, cmpA, beqA, lres, gs, hww, hwn]
            · refine sbelow_c h hr hw0 hwn hz0 (by omega) (fun he => ?_) (fun he => ?_) <;> simp only [↓WP, WQ, if_true, if_false, eq_self, implies_true, ne_eq, List.nil_append, List.cons_append, ↓reduceIte, Nat.reduceEqDiff, Nat.reduceBEq, reduceCtorEq, Nat.reduceAdd, resA, ret1, qv, lv, ev, boolA, binA, intA, shiftA, cmpA, beqA, lres, gs, hww, hwn]
              · exact ⟨_, rfl, by rw [allI_succ hw0, ← and_assoc, ← and_assoc, and_assoc (a := bl up z x), ← gb]; simp [hc, hd, he]⟩
              · exact ⟨_, rfl, by rw [allI_succ hw0, ← and_assoc, ← and_assoc, and_assoc (a := bl up z x), ← gb]; simp [hc, hd, he]⟩
            · exact ⟨_, rfl, by rw [allI_succ hw0, ← and_assoc, ← and_assoc, and_assoc (a := bl up z x), ← gb]; simp [hc, hd]⟩
          · exact ⟨_, rfl, by rw [allI_succ hw0, ← and_assoc, ← and_assoc, and_assoc (a := bl up z x), ← gb]; simp [hc]⟩
      · have hwe : w = up.length := by omega
        subst hwe
        cases b <;> simp only [↓WP, WQ, if_true, if_false, eq_self, implies_true, ne_eq, List.nil_append, List.cons_append, ↓reduceIte, Nat.reduceEqDiff, Nat.reduceBEq, reduceCtorEq, Nat.reduceAdd, resA, ret1, qv, lv, ev, boolA, binA, intA, shiftA, cmpA, beqA, lres, gs, hw, hz, g8]
        · exact (allI_succ hz0).2 ⟨hno, fun hm => absurd (gb.2 hm) (by simp)⟩
        · have : meetF up x y = z := firstI_eq hz0 hz (gb.1 rfl) hno
          rw [this] at hq; exact hq
  · have : meetF up x y = -1 := firstI_none fun k k0 k1 => hno k k0 (by omega)
    rw [this] at hq; exact hq

theorem sjoin_c {v : AV} {up : List Int} {x y : Int} (h : Ints H v up) (hr : Rows62 up) (hn : up.length ≤ 62) (hx0 : 0 ≤ x) (hx1 : x < up.length) (hy0 : 0 ≤ y) (hy1 : y < up.length) {Q : AV → Hp → Prop} (hq : Q (.int .i64 (joinF up x y)) H) :
    ACalls Try.prog w0 123 [v, .int .i64 x, .int .i64 y] H Q := by
  refine in123 ?_
  simp only [c123, ↓WP, WQ, if_true, if_false, eq_self, implies_true, ne_eq, List.nil_append, List.cons_append, ↓reduceIte, Nat.reduceEqDiff, Nat.reduceBEq, reduceCtorEq, Nat.reduceAdd, resA, ret1, qv, lv, ev, boolA, binA, intA, shiftA, cmpA, beqA, lres]
  refine W_for 0 up.length (fun z e H' => H' = H ∧ Sl e [(0, v), (1, .int .i64 x), (2, .int .i64 y), (7, .int .i64 z)] ∧ allI z fun k => ¬ joinP up x y k) (by omega) ⟨rfl, by simp only [↓WP, WQ, if_true, if_false, eq_self, implies_true, ne_eq, List.nil_append, List.cons_append, ↓reduceIte, Nat.reduceEqDiff, Nat.reduceBEq, reduceCtorEq, Nat.reduceAdd, resA, ret1, qv, lv, ev, boolA, binA, intA, shiftA, cmpA, beqA, lres], allI_zero⟩ ?_
  rintro z e H' hz0 hzn ⟨rfl, hs, hno⟩
  simp only [Sl_cons, Sl_nil, and_true] at hs
  have hw : IntKind.i64.wrap (z + 1) = z + 1 := wrap_id (by omega) (by omega)
  simp only [↓WP, WQ, if_true, if_false, eq_self, implies_true, ne_eq, List.nil_append, List.cons_append, ↓reduceIte, Nat.reduceEqDiff, Nat.reduceBEq, reduceCtorEq, Nat.reduceAdd, resA, ret1, qv, lv, ev, boolA, binA, intA, shiftA, cmpA, beqA, lres, hs, h.len]
  refine Br_dec (fun hz => ?_) (fun hz => ?_) <;> simp only [↓WP, WQ, if_true, if_false, eq_self, implies_true, ne_eq, List.nil_append, List.cons_append, ↓reduceIte, Nat.reduceEqDiff, Nat.reduceBEq, reduceCtorEq, Nat.reduceAdd, resA, ret1, qv, lv, ev, boolA, binA, intA, shiftA, cmpA, beqA, lres, hs]
  · refine sbelow_c h hr hx0 hx1 hz0 (by omega) (fun ha => ?ta) (fun ha => ?fa) <;> simp only [↓WP, WQ, if_true, if_false, eq_self, implies_true, ne_eq, List.nil_append, List.cons_append, ↓reduceIte, Nat.reduceEqDiff, Nat.reduceBEq, reduceCtorEq, Nat.reduceAdd, resA, ret1, qv, lv, ev, boolA, binA, intA, shiftA, cmpA, beqA, lres, hs, hw, hz]
    case' ta => refine sbelow_c h hr hy0 hy1 hz0 (by omega) (fun hb => ?_) (fun hb => ?_) <;> simp only [↓WP, WQ, if_true, if_false, eq_self, implies_true, ne_eq, List.nil_append, List.cons_append, ↓reduceIte, Nat.reduceEqDiff, Nat.reduceBEq, reduceCtorEq, Nat.reduceAdd, resA, ret1, qv, lv, ev, boolA, binA, intA, shiftA, cmpA, beqA, lres, hs, hw, hz]
    all_goals
      refine W_for 0 up.length (fun w e H'' => H'' = H' ∧ Sl e [(0, v), (1, .int .i64 x), (2, .int .i64 y), (7, .int .i64 z), (9, .int .i64 w)] ∧ ∃ b, e 8 = .bool b ∧ (b = true ↔ bl up x z ∧ bl up y z ∧ allI w fun w => bl up x w → bl up y w → bl up z w)) (by omega) ⟨rfl, by simp only [↓WP, WQ, if_true, if_false, eq_self, implies_true, ne_eq, List.nil_append, List.cons_append, ↓reduceIte, Nat.reduceEqDiff, Nat.reduceBEq, reduceCtorEq, Nat.reduceAdd, resA, ret1, qv, lv, ev, boolA, binA, intA, shiftA, cmpA, beqA, lres, hs], _, rfl, by simp [*, allI_zero]⟩ ?_
      rintro w e' H'' hw0 hw1 ⟨rfl, gs, b, g8, gb⟩
      simp only [Sl_cons, Sl_nil, and_true] at gs
      have hww : IntKind.i64.wrap (w + 1) = w + 1 := wrap_id (by omega) (by omega)
      simp only [↓WP, WQ, if_true, if_false, eq_self, implies_true, ne_eq, List.nil_append, List.cons_append, ↓reduceIte, Nat.reduceEqDiff, Nat.reduceBEq, reduceCtorEq, Nat.reduceAdd, resA, ret1, qv, lv, ev, boolA, binA, intA, shiftA, cmpA, beqA, lres, gs, g8, h.len]
      refine Br_dec (fun hwn => ?_) (fun hwn => ?_) <;> simp only [↓WP, WQ, if_true, if_false, eq_self, implies_true, ne_eq, List.nil_append, List.cons_append, ↓reduceIte, Nat.reduceEqDiff, Nat.reduceBEq, reduceCtorEq, Nat.reduceAdd, resA, ret1, qv, lv, ev, boolA, binA, intA, shiftA, cmpA, beqA, lres, gs, g8, hwn]
      · cases b <;> simp only [↓WP, WQ, if_true, if_false, eq_self, implies_true, ne_eq, List.nil_append, List.cons_append, ↓reduceIte, Nat.reduceEqDiff, Nat.reduceBEq, reduceCtorEq, Nat.reduceAdd, resA, ret1, qv, lv, ev, boolA, binA, intA, shiftA, cmpA, beqA, lres, gs, hww, hwn, hw, hz, g8]
        · exact (allI_succ hz0).2 ⟨hno, fun hm => absurd (gb.2 ⟨hm.1, hm.2.1, fun k k0 k1 => hm.2.2 k k0 (by omega)⟩) (by simp)⟩
        · refine sbelow_c h hr hx0 hx1 hw0 (by omega) (fun hc => ?_) (fun hc => ?_) <;> simp only [↓WP, WQ, if_true, if_false, eq_self, implies_true, ne_eq, List.nil_append, List.cons_append, ↓reduceIte, Nat.reduceEqDiff, Nat.reduceBEq, reduceCtorEq, Nat.reduceAdd, resA, ret1, qv, lv, ev, boolA, binA, intA, shiftA, cmpA, beqA, lres, gs, hww, hwn]
          · refine sbelow_c h hr hy0 hy1 hw0 (by omega) (fun hd => ?_) (fun hd => ?_) <;> simp only [↓WP, WQ, if_true, if_false, eq_self, implies_true, ne_eq, List.nil_append, List.cons_append, ↓reduceIte, Nat.reduceEqDiff, Nat.reduceBEq, reduceCtorEq, Nat.reduceAdd, resA, ret1, qv, lv, ev, boolA, binA, intA, shiftA, cmpA, beqA, lres, gs, hww, hwn]
            · refine sbelow_c h hr hz0 hz hw0 (by omega) (fun he => ?_) (fun he => ?_) <;> simp only [↓WP, WQ, if_true, if_false, eq_self, implies_true, ne_eq, List.nil_append, List.cons_append, ↓reduceIte, Nat.reduceEqDiff, Nat.reduceBEq, reduceCtorEq, Nat.reduceAdd, resA, ret1, qv, lv, ev, boolA, binA, intA, shiftA, cmpA, beqA, lres, gs, hww, hwn]
              · exact ⟨_, rfl, by rw [allI_succ hw0, ← and_assoc, ← and_assoc, and_assoc (a := bl up x z), ← gb]; simp [hc, hd, he]⟩
              · exact ⟨_, rfl, by rw [allI_succ hw0, ← and_assoc, ← and_assoc, and_assoc (a := bl up x z), ← gb]; simp [hc, hd, he]⟩
            · exact ⟨_, rfl, by rw [allI_succ hw0, ← and_assoc, ← and_assoc, and_assoc (a := bl up x z), ← gb]; simp [hc, hd]⟩
          · exact ⟨_, rfl, by rw [allI_succ hw0, ← and_assoc, ← and_assoc, and_assoc (a := bl up x z), ← gb]; simp [hc]⟩
      · have hwe : w = up.length := by omega
        subst hwe
        cases b <;> simp only [↓WP, WQ, if_true, if_false, eq_self, implies_true, ne_eq, List.nil_append, List.cons_append, ↓reduceIte, Nat.reduceEqDiff, Nat.reduceBEq, reduceCtorEq, Nat.reduceAdd, resA, ret1, qv, lv, ev, boolA, binA, intA, shiftA, cmpA, beqA, lres, gs, hw, hz, g8]
        · exact (allI_succ hz0).2 ⟨hno, fun hm => absurd (gb.2 hm) (by simp)⟩
        · have : joinF up x y = z := firstI_eq hz0 hz (gb.1 rfl) hno
          rw [this] at hq; exact hq
  · have : joinF up x y = -1 := firstI_none fun k k0 k1 => hno k k0 (by omega)
    rw [this] at hq; exact hq

end Go.AL

/-
  Orders and lattices: bits, and the contracts that look whether rows are an order.
-/
namespace Go.AL
open Go.Proofs
set_option linter.unusedSimpArgs false
set_option linter.unusedVariables false
variable {w0 : World} {H : Hp}

theorem pow_le62 {n : Nat} (hn : n ≤ 62) : (2 : Int) ^ n ≤ 4611686018427387904 := by
  have : (2 : Int) ^ n ≤ 2 ^ 62 := by exact_mod_cast Nat.pow_le_pow_right (by omega) hn
  simpa using this

/-- What is an order with a least and a greatest element. -/
structure IsOrd (up : List Int) : Prop where
  lo : 1 ≤ up.length
  hi : up.length ≤ 6
  rng : ∀ x : Int, 0 ≤ x → x < up.length → 0 ≤ up.getD x.toNat 0 ∧ up.getD x.toNat 0 ≤ 2 ^ up.length - 1
  refl : ∀ x : Int, 0 ≤ x → x < up.length → bl up x x
  bot : ∀ x : Int, 0 ≤ x → x < up.length → bl up 0 x
  top : ∀ x : Int, 0 ≤ x → x < up.length → bl up x (up.length - 1)
  anti : ∀ x y : Int, 0 ≤ x → x < up.length → 0 ≤ y → y < up.length → x ≠ y → bl up x y → ¬ bl up y x
  trans : ∀ x y z : Int, 0 ≤ x → x < up.length → 0 ≤ y → y < up.length → 0 ≤ z → z < up.length → bl up x y → bl up y z → bl up x z

/-- What is a lattice. -/
structure IsLat (up : List Int) : Prop extends IsOrd up where
  meet : ∀ x y : Int, 0 ≤ x → x < up.length → 0 ≤ y → y < up.length → 0 ≤ meetF up x y
  join : ∀ x y : Int, 0 ≤ x → x < up.length → 0 ≤ y → y < up.length → 0 ≤ joinF up x y

theorem rows62_of {up : List Int} (hn : up.length ≤ 6) (h : ∀ x : Int, 0 ≤ x → x < up.length → 0 ≤ up.getD x.toNat 0 ∧ up.getD x.toNat 0 ≤ 2 ^ up.length - 1) : Rows62 up := by
  intro k k0 k1
  have h1 := h k k0 k1
  have h2 := pow_le62 (n := up.length) (by omega)
  omega

theorem validOrder_c {v : AV} {up : List Int} (h : Ints H v up) (hn : up.length < 4611686018427387904) {Q : AV → Hp → Prop} (ht : IsOrd up → Q (.bool true) H) (hf : ¬ IsOrd up → Q (.bool false) H) :
    ACalls Try.prog w0 160 [v] H Q := by
  refine in160 ?_
  simp only [c160, ↓WP, WQ, if_true, if_false, eq_self, implies_true, ne_eq, List.nil_append, List.cons_append, ↓reduceIte, Nat.reduceEqDiff, Nat.reduceBEq, reduceCtorEq, Nat.reduceAdd, resA, ret1, qv, lv, ev, boolA, binA, intA, shiftA, cmpA, beqA, lres, h.len]
  refine inRange_c _ _ _ (fun hl => ?_) (fun hl => ?_) <;> simp only [↓WP, WQ, if_true, if_false, eq_self, implies_true, ne_eq, List.nil_append, List.cons_append, ↓reduceIte, Nat.reduceEqDiff, Nat.reduceBEq, reduceCtorEq, Nat.reduceAdd, resA, ret1, qv, lv, ev, boolA, binA, intA, shiftA, cmpA, beqA, lres]
  rotate_left
  · exact hf fun ho => hl ⟨by have := ho.lo; omega, by have := ho.hi; omega⟩
  have hp := pow_le62 (n := up.length) (by omega)
  have hp0 : (1 : Int) ≤ 2 ^ up.length := by exact_mod_cast Nat.pow_pos (by omega)
  refine W_for 0 up.length (fun x e H' => H' = H ∧ Sl e [(0, v), (3, .int .i64 up.length), (4, .int .i64 x)] ∧ allI x fun x => 0 ≤ up.getD x.toNat 0 ∧ up.getD x.toNat 0 ≤ 2 ^ up.length - 1) (by omega) ⟨rfl, by simp only [↓WP, WQ, if_true, if_false, eq_self, implies_true, ne_eq, List.nil_append, List.cons_append, ↓reduceIte, Nat.reduceEqDiff, Nat.reduceBEq, reduceCtorEq, Nat.reduceAdd, resA, ret1, qv, lv, ev, boolA, binA, intA, shiftA, cmpA, beqA, lres], allI_zero⟩ ?_
  rintro x e H' hx0 hx1 ⟨rfl, hs, hr⟩
  simp only [Sl_cons, Sl_nil, and_true] at hs
  have hw : IntKind.i64.wrap (x + 1) = x + 1 := wrap_id (by omega) (by omega)
  simp only [↓WP, WQ, if_true, if_false, eq_self, implies_true, ne_eq, List.nil_append, List.cons_append, ↓reduceIte, Nat.reduceEqDiff, Nat.reduceBEq, reduceCtorEq, Nat.reduceAdd, resA, ret1, qv, lv, ev, boolA, binA, intA, shiftA, cmpA, beqA, lres, hs]
  refine Br_dec (fun hx => ?_) (fun hx => ?_) <;> simp only [↓WP, WQ, if_true, if_false, eq_self, implies_true, ne_eq, List.nil_append, List.cons_append, ↓reduceIte, Nat.reduceEqDiff, Nat.reduceBEq, reduceCtorEq, Nat.reduceAdd, resA, ret1, qv, lv, ev, boolA, binA, intA, shiftA, cmpA, beqA, lres, hs, hx]
  · refine DR_in (fun _ => True) rfl ?_
    simp only [↓WP, WQ, if_true, if_false, eq_self, implies_true, ne_eq, List.nil_append, List.cons_append, ↓reduceIte, Nat.reduceEqDiff, Nat.reduceBEq, reduceCtorEq, Nat.reduceAdd, resA, ret1, qv, lv, ev, boolA, binA, intA, shiftA, cmpA, beqA, lres, hs, h.idx hx0 hx, h.at (show x.toNat < up.length by omega)]
    refine power_c _ (by omega) ?_
    have hw2 : IntKind.i64.wrap ((2 : Int) ^ up.length - 1) = 2 ^ up.length - 1 := wrap_id (by omega) (by omega)
    simp only [↓WP, WQ, if_true, if_false, eq_self, implies_true, ne_eq, List.nil_append, List.cons_append, ↓reduceIte, Nat.reduceEqDiff, Nat.reduceBEq, reduceCtorEq, Nat.reduceAdd, resA, ret1, qv, lv, ev, boolA, binA, intA, shiftA, cmpA, beqA, lres, hs, Int.toNat_natCast, hw2]
    refine inRange_c _ _ _ (fun hg => ?_) (fun hg => ?_) <;> simp only [↓WP, WQ, if_true, if_false, eq_self, implies_true, ne_eq, List.nil_append, List.cons_append, ↓reduceIte, Nat.reduceEqDiff, Nat.reduceBEq, reduceCtorEq, Nat.reduceAdd, resA, ret1, qv, lv, ev, boolA, binA, intA, shiftA, cmpA, beqA, lres, hs, hw, hx]
    · exact (allI_succ hx0).2 ⟨hr, hg⟩
    · exact hf fun ho => hg (ho.rng x hx0 hx)
  · have hxe : x = up.length := by omega
    subst hxe
    have hrr := rows62_of (by omega) hr
    have hwl : IntKind.i64.wrap ((up.length : Int) - 1) = up.length - 1 := wrap_id (by omega) (by omega)
    refine W_for 0 up.length (fun x e H'' => H'' = H' ∧ Sl e [(0, v), (3, .int .i64 up.length), (5, .int .i64 x)] ∧ allI x fun x => (bl up x x ∧ bl up 0 x ∧ bl up x (up.length - 1)) ∧ allI up.length fun y => (x ≠ y → bl up x y → ¬ bl up y x) ∧ allI up.length fun z => bl up x y → bl up y z → bl up x z) (by omega) ⟨rfl, by simp only [↓WP, WQ, if_true, if_false, eq_self, implies_true, ne_eq, List.nil_append, List.cons_append, ↓reduceIte, Nat.reduceEqDiff, Nat.reduceBEq, reduceCtorEq, Nat.reduceAdd, resA, ret1, qv, lv, ev, boolA, binA, intA, shiftA, cmpA, beqA, lres, hs], allI_zero⟩ ?_
    rintro x e H'' hx0 hx1 ⟨rfl, hs, hr2⟩
    simp only [Sl_cons, Sl_nil, and_true] at hs
    have hw : IntKind.i64.wrap (x + 1) = x + 1 := wrap_id (by omega) (by omega)
    simp only [↓WP, WQ, if_true, if_false, eq_self, implies_true, ne_eq, List.nil_append, List.cons_append, ↓reduceIte, Nat.reduceEqDiff, Nat.reduceBEq, reduceCtorEq, Nat.reduceAdd, resA, ret1, qv, lv, ev, boolA, binA, intA, shiftA, cmpA, beqA, lres, hs]
    refine Br_dec (fun hx => ?_) (fun hx => ?_) <;> simp only [↓WP, WQ, if_true, if_false, eq_self, implies_true, ne_eq, List.nil_append, List.cons_append, ↓reduceIte, Nat.reduceEqDiff, Nat.reduceBEq, reduceCtorEq, Nat.reduceAdd, resA, ret1, qv, lv, ev, boolA, binA, intA, shiftA, cmpA, beqA, lres, hs, hx]
    · refine sbelow_c h hrr hx0 hx hx0 (by omega) (fun ha => ?_) (fun ha => ?_) <;> simp only [↓WP, WQ, if_true, if_false, eq_self, implies_true, ne_eq, List.nil_append, List.cons_append, ↓reduceIte, Nat.reduceEqDiff, Nat.reduceBEq, reduceCtorEq, Nat.reduceAdd, resA, ret1, qv, lv, ev, boolA, binA, intA, shiftA, cmpA, beqA, lres, hs]
      rotate_left
      · exact hf fun ho => ha (ho.refl x hx0 hx)
      refine sbelow_c h hrr (by omega) (by omega) hx0 (by omega) (fun hb => ?_) (fun hb => ?_) <;> simp only [↓WP, WQ, if_true, if_false, eq_self, implies_true, ne_eq, List.nil_append, List.cons_append, ↓reduceIte, Nat.reduceEqDiff, Nat.reduceBEq, reduceCtorEq, Nat.reduceAdd, resA, ret1, qv, lv, ev, boolA, binA, intA, shiftA, cmpA, beqA, lres, hs, hwl]
      rotate_left
      · exact hf fun ho => hb (ho.bot x hx0 hx)
      refine sbelow_c h hrr hx0 hx (by omega) (by omega) (fun hc => ?_) (fun hc => ?_) <;> simp only [↓WP, WQ, if_true, if_false, eq_self, implies_true, ne_eq, List.nil_append, List.cons_append, ↓reduceIte, Nat.reduceEqDiff, Nat.reduceBEq, reduceCtorEq, Nat.reduceAdd, resA, ret1, qv, lv, ev, boolA, binA, intA, shiftA, cmpA, beqA, lres, hs]
      rotate_left
      · exact hf fun ho => hc (ho.top x hx0 hx)
      refine W_for 0 up.length (fun y e H' => H' = H'' ∧ Sl e [(0, v), (3, .int .i64 up.length), (5, .int .i64 x), (6, .int .i64 y)] ∧ allI y fun y => (x ≠ y → bl up x y → ¬ bl up y x) ∧ allI up.length fun z => bl up x y → bl up y z → bl up x z) (by omega) ⟨rfl, by simp only [↓WP, WQ, if_true, if_false, eq_self, implies_true, ne_eq, List.nil_append, List.cons_append, ↓reduceIte, Nat.reduceEqDiff, Nat.reduceBEq, reduceCtorEq, Nat.reduceAdd, resA, ret1, qv, lv, ev, boolA, binA, intA, shiftA, cmpA, beqA, lres, hs], allI_zero⟩ ?_
      rintro y e H' hy0 hy1 ⟨rfl, gs, hr3⟩
      simp only [Sl_cons, Sl_nil, and_true] at gs
      have hwy : IntKind.i64.wrap (y + 1) = y + 1 := wrap_id (by omega) (by omega)
      simp only [↓WP, WQ, if_true, if_false, eq_self, implies_true, ne_eq, List.nil_append, List.cons_append, ↓reduceIte, Nat.reduceEqDiff, Nat.reduceBEq, reduceCtorEq, Nat.reduceAdd, resA, ret1, qv, lv, ev, boolA, binA, intA, shiftA, cmpA, beqA, lres, gs]
      refine Br_dec (fun hy => ?_) (fun hy => ?_)
      · refine (Classical.em (x = y)).elim (fun hne => ?eq) (fun hne => ?ne)
        case' eq => simp only [↓WP, WQ, if_true, if_false, eq_self, implies_true, ne_eq, List.nil_append, List.cons_append, ↓reduceIte, Nat.reduceEqDiff, Nat.reduceBEq, reduceCtorEq, Nat.reduceAdd, resA, ret1, qv, lv, ev, boolA, binA, intA, shiftA, cmpA, beqA, lres, gs, hy, hw, hx, decide_eq_true hne]
        case' ne => simp only [↓WP, WQ, if_true, if_false, eq_self, implies_true, ne_eq, List.nil_append, List.cons_append, ↓reduceIte, Nat.reduceEqDiff, Nat.reduceBEq, reduceCtorEq, Nat.reduceAdd, resA, ret1, qv, lv, ev, boolA, binA, intA, shiftA, cmpA, beqA, lres, gs, hy, hw, hx, decide_eq_false hne]
        case' ne => refine sbelow_c h hrr hx0 hx hy0 (by omega) (fun hd => ?nd) (fun hd => ?ne2) <;> simp only [↓WP, WQ, if_true, if_false, eq_self, implies_true, ne_eq, List.nil_append, List.cons_append, ↓reduceIte, Nat.reduceEqDiff, Nat.reduceBEq, reduceCtorEq, Nat.reduceAdd, resA, ret1, qv, lv, ev, boolA, binA, intA, shiftA, cmpA, beqA, lres, gs, hy, hw, hx]
        case' nd => refine sbelow_c h hrr hy0 hy hx0 (by omega) (fun he => ?bad) (fun he => ?ok) <;> simp only [↓WP, WQ, if_true, if_false, eq_self, implies_true, ne_eq, List.nil_append, List.cons_append, ↓reduceIte, Nat.reduceEqDiff, Nat.reduceBEq, reduceCtorEq, Nat.reduceAdd, resA, ret1, qv, lv, ev, boolA, binA, intA, shiftA, cmpA, beqA, lres, gs, hy, hw, hx]
        case bad => exact hf fun ho => ho.anti x y hx0 hx hy0 hy hne hd he
        case' eq => have hk : x ≠ y → bl up x y → ¬ bl up y x := fun h => absurd hne h
        case' ne2 => have hk : x ≠ y → bl up x y → ¬ bl up y x := fun _ h => absurd h hd
        case' ok => have hk : x ≠ y → bl up x y → ¬ bl up y x := fun _ _ => he
        all_goals
          refine W_for 0 up.length (fun z e H'' => H'' = H' ∧ Sl e [(0, v), (3, .int .i64 up.length), (5, .int .i64 x), (6, .int .i64 y), (7, .int .i64 z)] ∧ allI z fun z => bl up x y → bl up y z → bl up x z) (by omega) ⟨rfl, by simp only [↓WP, WQ, if_true, if_false, eq_self, implies_true, ne_eq, List.nil_append, List.cons_append, ↓reduceIte, Nat.reduceEqDiff, Nat.reduceBEq, reduceCtorEq, Nat.reduceAdd, resA, ret1, qv, lv, ev, boolA, binA, intA, shiftA, cmpA, beqA, lres, gs], allI_zero⟩ ?_
          rintro z e H'' hz0 hz1 ⟨rfl, ks, hr4⟩
          simp only [Sl_cons, Sl_nil, and_true] at ks
          have hwz : IntKind.i64.wrap (z + 1) = z + 1 := wrap_id (by omega) (by omega)
          simp only [↓WP, WQ, if_true, if_false, eq_self, implies_true, ne_eq, List.nil_append, List.cons_append, ↓reduceIte, Nat.reduceEqDiff, Nat.reduceBEq, reduceCtorEq, Nat.reduceAdd, resA, ret1, qv, lv, ev, boolA, binA, intA, shiftA, cmpA, beqA, lres, ks]
          refine Br_dec (fun hz => ?_) (fun hz => ?_) <;> simp only [↓WP, WQ, if_true, if_false, eq_self, implies_true, ne_eq, List.nil_append, List.cons_append, ↓reduceIte, Nat.reduceEqDiff, Nat.reduceBEq, reduceCtorEq, Nat.reduceAdd, resA, ret1, qv, lv, ev, boolA, binA, intA, shiftA, cmpA, beqA, lres, ks, hz, hwy, hy]
          · refine sbelow_c h hrr hx0 hx hy0 (by omega) (fun hf1 => ?_) (fun hf1 => ?_) <;> simp only [↓WP, WQ, if_true, if_false, eq_self, implies_true, ne_eq, List.nil_append, List.cons_append, ↓reduceIte, Nat.reduceEqDiff, Nat.reduceBEq, reduceCtorEq, Nat.reduceAdd, resA, ret1, qv, lv, ev, boolA, binA, intA, shiftA, cmpA, beqA, lres, ks, hwz, hz]
            · refine sbelow_c h hrr hy0 hy hz0 (by omega) (fun hf2 => ?_) (fun hf2 => ?_) <;> simp only [↓WP, WQ, if_true, if_false, eq_self, implies_true, ne_eq, List.nil_append, List.cons_append, ↓reduceIte, Nat.reduceEqDiff, Nat.reduceBEq, reduceCtorEq, Nat.reduceAdd, resA, ret1, qv, lv, ev, boolA, binA, intA, shiftA, cmpA, beqA, lres, ks, hwz, hz]
              · refine sbelow_c h hrr hx0 hx hz0 (by omega) (fun hf3 => ?_) (fun hf3 => ?_) <;> simp only [↓WP, WQ, if_true, if_false, eq_self, implies_true, ne_eq, List.nil_append, List.cons_append, ↓reduceIte, Nat.reduceEqDiff, Nat.reduceBEq, reduceCtorEq, Nat.reduceAdd, resA, ret1, qv, lv, ev, boolA, binA, intA, shiftA, cmpA, beqA, lres, ks, hwz, hz]
                · exact (allI_succ hz0).2 ⟨hr4, fun _ _ => hf3⟩
                · exact hf fun ho => hf3 (ho.trans x y z hx0 hx hy0 hy hz0 hz hf1 hf2)
              · exact (allI_succ hz0).2 ⟨hr4, fun _ h => absurd h hf2⟩
            · exact (allI_succ hz0).2 ⟨hr4, fun h => absurd h hf1⟩
          · have hze : z = up.length := by omega
            subst hze
            exact (allI_succ hy0).2 ⟨hr3, hk, hr4⟩
      · simp only [↓WP, WQ, if_true, if_false, eq_self, implies_true, ne_eq, List.nil_append, List.cons_append, ↓reduceIte, Nat.reduceEqDiff, Nat.reduceBEq, reduceCtorEq, Nat.reduceAdd, resA, ret1, qv, lv, ev, boolA, binA, intA, shiftA, cmpA, beqA, lres, gs, hy, hw, hx]
        have hye : y = up.length := by omega
        subst hye
        exact (allI_succ hx0).2 ⟨hr2, ⟨ha, hb, hc⟩, hr3⟩
    · have hxe : x = up.length := by omega
      subst hxe
      exact ht {
        lo := by omega
        hi := by omega
        rng := hr
        refl := fun x h0 h1 => (hr2 x h0 h1).1.1
        bot := fun x h0 h1 => (hr2 x h0 h1).1.2.1
        top := fun x h0 h1 => (hr2 x h0 h1).1.2.2
        anti := fun x y h0 h1 g0 g1 => ((hr2 x h0 h1).2 y g0 g1).1
        trans := fun x y z h0 h1 g0 g1 k0 k1 => ((hr2 x h0 h1).2 y g0 g1).2 z k0 k1 }

theorem svalidLattice_c {v : AV} {up : List Int} (h : Ints H v up) (hn : up.length < 4611686018427387904) {Q : AV → Hp → Prop} (ht : IsLat up → Q (.bool true) H) (hf : ¬ IsLat up → Q (.bool false) H) :
    ACalls Try.prog w0 128 [v] H Q := by
  refine in128 ?_
  simp only [c128, ↓WP, WQ, if_true, if_false, eq_self, implies_true, ne_eq, List.nil_append, List.cons_append, ↓reduceIte, Nat.reduceEqDiff, Nat.reduceBEq, reduceCtorEq, Nat.reduceAdd, resA, ret1, qv, lv, ev, boolA, binA, intA, shiftA, cmpA, beqA, lres]
  refine validOrder_c h hn (fun ho => ?_) (fun ho => ?_) <;> simp only [↓WP, WQ, if_true, if_false, eq_self, implies_true, ne_eq, List.nil_append, List.cons_append, ↓reduceIte, Nat.reduceEqDiff, Nat.reduceBEq, reduceCtorEq, Nat.reduceAdd, resA, ret1, qv, lv, ev, boolA, binA, intA, shiftA, cmpA, beqA, lres]
  rotate_left
  · exact hf fun hl => ho hl.toIsOrd
  have hi := ho.hi
  have hrr := rows62_of ho.hi ho.rng
  refine W_for 0 up.length (fun x e H' => H' = H ∧ Sl e [(0, v), (3, .int .i64 x)] ∧ allI x fun x => allI up.length fun y => 0 ≤ meetF up x y ∧ 0 ≤ joinF up x y) (by omega) ⟨rfl, by simp only [↓WP, WQ, if_true, if_false, eq_self, implies_true, ne_eq, List.nil_append, List.cons_append, ↓reduceIte, Nat.reduceEqDiff, Nat.reduceBEq, reduceCtorEq, Nat.reduceAdd, resA, ret1, qv, lv, ev, boolA, binA, intA, shiftA, cmpA, beqA, lres], allI_zero⟩ ?_
  rintro x e H' hx0 hx1 ⟨rfl, hs, hr⟩
  simp only [Sl_cons, Sl_nil, and_true] at hs
  have hw : IntKind.i64.wrap (x + 1) = x + 1 := wrap_id (by omega) (by omega)
  simp only [↓WP, WQ, if_true, if_false, eq_self, implies_true, ne_eq, List.nil_append, List.cons_append, ↓reduceIte, Nat.reduceEqDiff, Nat.reduceBEq, reduceCtorEq, Nat.reduceAdd, resA, ret1, qv, lv, ev, boolA, binA, intA, shiftA, cmpA, beqA, lres, hs, h.len]
  refine Br_dec (fun hx => ?_) (fun hx => ?_) <;> simp only [↓WP, WQ, if_true, if_false, eq_self, implies_true, ne_eq, List.nil_append, List.cons_append, ↓reduceIte, Nat.reduceEqDiff, Nat.reduceBEq, reduceCtorEq, Nat.reduceAdd, resA, ret1, qv, lv, ev, boolA, binA, intA, shiftA, cmpA, beqA, lres, hs, hx]
  · refine W_for 0 up.length (fun y e H'' => H'' = H' ∧ Sl e [(0, v), (3, .int .i64 x), (4, .int .i64 y)] ∧ allI y fun y => 0 ≤ meetF up x y ∧ 0 ≤ joinF up x y) (by omega) ⟨rfl, by simp only [↓WP, WQ, if_true, if_false, eq_self, implies_true, ne_eq, List.nil_append, List.cons_append, ↓reduceIte, Nat.reduceEqDiff, Nat.reduceBEq, reduceCtorEq, Nat.reduceAdd, resA, ret1, qv, lv, ev, boolA, binA, intA, shiftA, cmpA, beqA, lres, hs], allI_zero⟩ ?_
    rintro y e H'' hy0 hy1 ⟨rfl, gs, hr2⟩
    simp only [Sl_cons, Sl_nil, and_true] at gs
    have hwy : IntKind.i64.wrap (y + 1) = y + 1 := wrap_id (by omega) (by omega)
    simp only [↓WP, WQ, if_true, if_false, eq_self, implies_true, ne_eq, List.nil_append, List.cons_append, ↓reduceIte, Nat.reduceEqDiff, Nat.reduceBEq, reduceCtorEq, Nat.reduceAdd, resA, ret1, qv, lv, ev, boolA, binA, intA, shiftA, cmpA, beqA, lres, gs, h.len]
    refine Br_dec (fun hy => ?_) (fun hy => ?_) <;> simp only [↓WP, WQ, if_true, if_false, eq_self, implies_true, ne_eq, List.nil_append, List.cons_append, ↓reduceIte, Nat.reduceEqDiff, Nat.reduceBEq, reduceCtorEq, Nat.reduceAdd, resA, ret1, qv, lv, ev, boolA, binA, intA, shiftA, cmpA, beqA, lres, gs, hy, hw, hx]
    · refine smeet_c h hrr (by omega) hx0 hx hy0 hy ?_
      refine (Classical.em (meetF up x y < 0)).elim (fun hm => ?_) (fun hm => ?_) <;> simp only [↓WP, WQ, if_true, if_false, eq_self, implies_true, ne_eq, List.nil_append, List.cons_append, ↓reduceIte, Nat.reduceEqDiff, Nat.reduceBEq, reduceCtorEq, Nat.reduceAdd, resA, ret1, qv, lv, ev, boolA, binA, intA, shiftA, cmpA, beqA, lres, gs, hy, hm]
      · exact hf fun hl => by have := hl.meet x y hx0 hx hy0 hy; omega
      refine sjoin_c h hrr (by omega) hx0 hx hy0 hy ?_
      refine (Classical.em (joinF up x y < 0)).elim (fun hj => ?_) (fun hj => ?_) <;> simp only [↓WP, WQ, if_true, if_false, eq_self, implies_true, ne_eq, List.nil_append, List.cons_append, ↓reduceIte, Nat.reduceEqDiff, Nat.reduceBEq, reduceCtorEq, Nat.reduceAdd, resA, ret1, qv, lv, ev, boolA, binA, intA, shiftA, cmpA, beqA, lres, gs, hy, hj, hwy]
      · exact hf fun hl => by have := hl.join x y hx0 hx hy0 hy; omega
      · exact (allI_succ hy0).2 ⟨hr2, by omega, by omega⟩
    · have hye : y = up.length := by omega
      subst hye
      exact (allI_succ hx0).2 ⟨hr, hr2⟩
  · have hxe : x = up.length := by omega
    subst hxe
    exact ht { toIsOrd := ho, meet := fun x y h0 h1 g0 g1 => (hr x h0 h1 y g0 g1).1, join := fun x y h0 h1 g0 g1 => (hr x h0 h1 y g0 g1).2 }
end Go.AL

/-
  Bits of numbers, as the walks meet them.
-/
namespace Go.AL
open Go.Proofs
set_option linter.unusedSimpArgs false
set_option linter.unusedVariables false

theorem bitA_and {a b : Int} (ha0 : 0 ≤ a) (ha1 : a < 4611686018427387904) (hb0 : 0 ≤ b) (hb1 : b < 4611686018427387904) :
    bitA (fun _ x y => x &&& y) .i64 a b = ((a.toNat &&& b.toNat : Nat) : Int) := by
  obtain ⟨m, rfl⟩ : ∃ m : Nat, a = m := ⟨a.toNat, by omega⟩
  obtain ⟨n, rfl⟩ : ∃ n : Nat, b = n := ⟨b.toNat, by omega⟩
  have h1 : m &&& n ≤ m := Nat.and_le_left
  show IntKind.i64.wrap ((BitVec.ofInt 64 (m : Int) &&& BitVec.ofInt 64 (n : Int)).toNat : Nat) = _
  simp only [BitVec.ofInt_natCast, BitVec.toNat_and, BitVec.toNat_ofNat, Int.toNat_natCast]
  rw [Nat.mod_eq_of_lt (by omega), Nat.mod_eq_of_lt (by omega)]
  exact wrap_id (by omega) (by omega)

/-- What a has and b has not. -/
def an (a b : Int) : Int := bitA (fun _ x y => x &&& ~~~y) .i64 a b

theorem an_zero {a b : Int} (ha0 : 0 ≤ a) (ha1 : a < 4611686018427387904) (hb0 : 0 ≤ b) (hb1 : b < 4611686018427387904) :
    an a b = 0 ↔ ∀ w : Int, 0 ≤ w → w < 64 → tb a w = true → tb b w = true := by
  obtain ⟨m, rfl⟩ : ∃ m : Nat, a = m := ⟨a.toNat, by omega⟩
  obtain ⟨n, rfl⟩ : ∃ n : Nat, b = n := ⟨b.toNat, by omega⟩
  have h1 : an m n = IntKind.i64.wrap ((BitVec.ofNat 64 m &&& ~~~ BitVec.ofNat 64 n).toNat : Nat) := by
    show IntKind.i64.wrap ((BitVec.ofInt 64 (m : Int) &&& ~~~ BitVec.ofInt 64 (n : Int)).toNat : Nat) = _
    simp only [BitVec.ofInt_natCast]
  have h2 : (BitVec.ofNat 64 m &&& ~~~ BitVec.ofNat 64 n).toNat ≤ m := by
    rw [BitVec.toNat_and, BitVec.toNat_ofNat, Nat.mod_eq_of_lt (by omega)]
    exact Nat.and_le_left
  rw [h1, wrap_id (by omega) (by omega)]
  constructor
  · intro h w hw0 hw1 ht
    have h3 : (BitVec.ofNat 64 m &&& ~~~ BitVec.ofNat 64 n) = 0#64 := BitVec.eq_of_toNat_eq (by simpa using h)
    have h4 := congrArg (fun x => x.getLsbD w.toNat) h3
    rw [tb_testBit (by omega) (by omega)] at ht ⊢
    simp only [Int.toNat_natCast] at ht ⊢
    simp only [BitVec.getLsbD_and, BitVec.getLsbD_not, BitVec.getLsbD_ofNat, BitVec.getLsbD_zero] at h4
    have hw2 : w.toNat < 64 := by omega
    simpa [hw2, ht] using h4
  · intro h
    have h3 : (BitVec.ofNat 64 m &&& ~~~ BitVec.ofNat 64 n) = 0#64 := by
      apply BitVec.eq_of_getLsbD_eq
      intro i hi
      simp only [BitVec.getLsbD_and, BitVec.getLsbD_not, BitVec.getLsbD_ofNat, BitVec.getLsbD_zero]
      have h4 := h i (by omega) (by omega)
      rw [tb_testBit (by omega) (by omega), tb_testBit (by omega) (by omega)] at h4
      simp only [Int.toNat_natCast] at h4
      simp only [hi, decide_true, Bool.true_and]
      cases hm : m.testBit i
      · simp
      · rw [h4 hm]; simp
    rw [h3]; rfl

theorem tb_and {a b w : Int} (ha : 0 ≤ a) (hb : 0 ≤ b) (hw1 : w.toNat ≤ 64) : tb ((a.toNat &&& b.toNat : Nat) : Int) w = (tb a w && tb b w) := by
  rw [tb_testBit (by omega) hw1, tb_testBit ha hw1, tb_testBit hb hw1]
  simp

theorem tb_big {a w : Int} {n : Nat} (ha : 0 ≤ a) (h : a ≤ 2 ^ n - 1) (hw : (n : Int) ≤ w) (hw1 : w ≤ 64) : tb a w = false := by
  rw [tb_testBit ha (by omega)]
  apply Nat.testBit_lt_two_pow
  have h2 : (2 : Nat) ^ n ≤ 2 ^ w.toNat := Nat.pow_le_pow_right (by omega) (by omega)
  have h3 : ((a.toNat : Nat) : Int) < ((2 ^ n : Nat) : Int) := by push_cast; omega
  omega
end Go.AL

/-
  The program's joins, and how it looks whether rows are a lattice.
-/
namespace Go.AL
open Go.Proofs
set_option linter.unusedSimpArgs false
set_option linter.unusedVariables false
variable {w0 : World} {H : Hp}

/-- All rows are sets of elements. -/
def Rng (up : List Int) : Prop := ∀ x : Int, 0 ≤ x → x < up.length → 0 ≤ up.getD x.toNat 0 ∧ up.getD x.toNat 0 ≤ 2 ^ up.length - 1

theorem an_rows {up : List Int} (hn : up.length ≤ 6) (hr : Rng up) {x y : Int} (hx0 : 0 ≤ x) (hx1 : x < up.length) (hy0 : 0 ≤ y) (hy1 : y < up.length) :
    an (up.getD x.toNat 0) (up.getD y.toNat 0) = 0 ↔ allI up.length fun w => bl up x w → bl up y w := by
  have hrr := rows62_of hn hr
  rw [an_zero (hrr x hx0 hx1).1 (hrr x hx0 hx1).2 (hrr y hy0 hy1).1 (hrr y hy0 hy1).2]
  constructor
  · exact fun h w h0 h1 => h w h0 (by omega)
  · intro h w h0 h1 ht
    by_cases hw : w < up.length
    · exact h w h0 hw ht
    · rw [tb_big (hr x hx0 hx1).1 (hr x hx0 hx1).2 (by omega) (by omega)] at ht; cases ht

theorem join_c {v : AV} {up : List Int} {x y : Int} (h : Ints H v up) (hn : up.length ≤ 6) (hr : Rng up) (hx0 : 0 ≤ x) (hx1 : x < up.length) (hy0 : 0 ≤ y) (hy1 : y < up.length) {Q : AV → Hp → Prop} (hq : Q (.int .i64 (joinF up x y)) H) :
    ACalls Try.prog w0 114 [v, .int .i64 x, .int .i64 y] H Q := by
  have hrr := rows62_of hn hr
  refine in114 ?_
  simp only [c114, ↓WP, WQ, if_true, if_false, eq_self, implies_true, ne_eq, List.nil_append, List.cons_append, ↓reduceIte, Nat.reduceEqDiff, Nat.reduceBEq, reduceCtorEq, Nat.reduceAdd, resA, ret1, qv, lv, ev, boolA, binA, intA, shiftA, cmpA, beqA, lres]
  refine DR_in (fun _ => True) rfl ?_
  have hxx := hrr x hx0 hx1
  have hyy := hrr y hy0 hy1
  simp only [↓WP, WQ, if_true, if_false, eq_self, implies_true, ne_eq, List.nil_append, List.cons_append, ↓reduceIte, Nat.reduceEqDiff, Nat.reduceBEq, reduceCtorEq, Nat.reduceAdd, resA, ret1, qv, lv, ev, boolA, binA, intA, shiftA, cmpA, beqA, lres, h.idx hx0 hx1, h.idx hy0 hy1, h.at (show x.toNat < up.length by omega), h.at (show y.toNat < up.length by omega), h.len, bitA_and hxx.1 hxx.2 hyy.1 hyy.2]
  generalize hb : (((up.getD x.toNat 0).toNat &&& (up.getD y.toNat 0).toNat : Nat) : Int) = both
  have hb0 : 0 ≤ both := by omega
  have hb1 : both < 4611686018427387904 := by
    have : (up.getD x.toNat 0).toNat &&& (up.getD y.toNat 0).toNat ≤ (up.getD x.toNat 0).toNat := Nat.and_le_left
    omega
  have hbt : ∀ w : Int, 0 ≤ w → w < 64 → (tb both w = true ↔ bl up x w ∧ bl up y w) := fun w w0 w1 => by
    rw [← hb, tb_and hxx.1 hyy.1 (by omega)]; simp [bl]
  refine W_for 0 up.length (fun z e H' => H' = H ∧ Sl e [(0, v), (7, .int .i64 both), (19, .int .i64 up.length), (20, .int .i64 z)] ∧ allI z fun k => ¬ joinP up x y k) (by omega) ⟨rfl, by simp only [↓WP, WQ, if_true, if_false, eq_self, implies_true, ne_eq, List.nil_append, List.cons_append, ↓reduceIte, Nat.reduceEqDiff, Nat.reduceBEq, reduceCtorEq, Nat.reduceAdd, resA, ret1, qv, lv, ev, boolA, binA, intA, shiftA, cmpA, beqA, lres], allI_zero⟩ ?_
  rintro z e H' hz0 hzn ⟨rfl, hs, hno⟩
  simp only [Sl_cons, Sl_nil, and_true] at hs
  have hw : IntKind.i64.wrap (z + 1) = z + 1 := wrap_id (by omega) (by omega)
  have hz' : ¬ z < 0 := by omega
  simp only [↓WP, WQ, if_true, if_false, eq_self, implies_true, ne_eq, List.nil_append, List.cons_append, ↓reduceIte, Nat.reduceEqDiff, Nat.reduceBEq, reduceCtorEq, Nat.reduceAdd, resA, ret1, qv, lv, ev, boolA, binA, intA, shiftA, cmpA, beqA, lres, hs]
  refine Br_dec (fun hz => ?_) (fun hz => ?_)
  · have hzz := hrr z hz0 hz
    have e1 : decide ((both.fdiv (2 ^ min z.toNat IntKind.i64.bits)).tmod 2 = 1) = tb both z := rfl
    have e2 : bitA (fun x x_1 y => x_1 &&& ~~~y) .i64 both (up.getD z.toNat 0) = an both (up.getD z.toNat 0) := rfl
    have hbz := hbt z hz0 (by omega)
    cases ht : tb both z
    · simp only [↓WP, WQ, if_true, if_false, eq_self, implies_true, ne_eq, List.nil_append, List.cons_append, ↓reduceIte, Nat.reduceEqDiff, Nat.reduceBEq, reduceCtorEq, Nat.reduceAdd, resA, ret1, qv, lv, ev, boolA, binA, intA, shiftA, cmpA, beqA, lres, hs, hz, hz', e1, ht, hw]
      refine ⟨by omega, ?_⟩
      exact (allI_succ hz0).2 ⟨hno, fun hj => by rw [hbz.2 ⟨hj.1, hj.2.1⟩] at ht; cases ht⟩
    · refine (Classical.em (an both (up.getD z.toNat 0) = 0)).elim (fun ha => ?_) (fun ha => ?_)
      · simp only [↓WP, WQ, if_true, if_false, eq_self, implies_true, ne_eq, List.nil_append, List.cons_append, ↓reduceIte, Nat.reduceEqDiff, Nat.reduceBEq, reduceCtorEq, Nat.reduceAdd, resA, ret1, qv, lv, ev, boolA, binA, intA, shiftA, cmpA, beqA, lres, hs, hz, hz', e1, ht, h.idx hz0 hz, h.at (show z.toNat < up.length by omega), e2, ha]
        refine ⟨by omega, ?_⟩
        have hj : joinF up x y = z := firstI_eq hz0 hz ⟨(hbz.1 ht).1, (hbz.1 ht).2, fun w w0 w1 h1 h2 => (an_zero hb0 hb1 hzz.1 hzz.2).1 ha w w0 (by omega) ((hbt w w0 (by omega)).2 ⟨h1, h2⟩)⟩ hno
        rw [hj] at hq; exact hq
      · simp only [↓WP, WQ, if_true, if_false, eq_self, implies_true, ne_eq, List.nil_append, List.cons_append, ↓reduceIte, Nat.reduceEqDiff, Nat.reduceBEq, reduceCtorEq, Nat.reduceAdd, resA, ret1, qv, lv, ev, boolA, binA, intA, shiftA, cmpA, beqA, lres, hs, hz, hz', e1, ht, h.idx hz0 hz, h.at (show z.toNat < up.length by omega), e2, ha, hw]
        refine ⟨by omega, ?_⟩
        refine (allI_succ hz0).2 ⟨hno, fun hj => ha ((an_zero hb0 hb1 hzz.1 hzz.2).2 fun w w0 w1 h1 => ?_)⟩
        have h2 := (hbt w w0 w1).1 h1
        by_cases hwn : w < up.length
        · exact hj.2.2 w w0 hwn h2.1 h2.2
        · have h3 := h2.1
          unfold bl at h3
          rw [tb_big (hr x hx0 hx1).1 (hr x hx0 hx1).2 (by omega) (by omega)] at h3; cases h3
  · simp only [↓WP, WQ, if_true, if_false, eq_self, implies_true, ne_eq, List.nil_append, List.cons_append, ↓reduceIte, Nat.reduceEqDiff, Nat.reduceBEq, reduceCtorEq, Nat.reduceAdd, resA, ret1, qv, lv, ev, boolA, binA, intA, shiftA, cmpA, beqA, lres, hs, hz]
    have : joinF up x y = -1 := firstI_none fun k k0 k1 => hno k k0 (by omega)
    rw [this] at hq; exact hq

theorem shl_one {n : Nat} (hn : n ≤ 62) : IntKind.i64.wrap (1 * 2 ^ min ((n : Int).toNat) IntKind.i64.bits) = 2 ^ n := by
  have h1 : min ((n : Int).toNat) IntKind.i64.bits = n := by simp only [Int.toNat_natCast, IntKind.bits]; omega
  have h2 := pow_le62 hn
  have h3 : (0 : Int) < 2 ^ n := by exact_mod_cast Nat.pow_pos (by omega)
  rw [h1, Int.one_mul]; exact wrap_id (by omega) (by omega)

theorem ValidLattice_c {v : AV} {up : List Int} (h : Ints H v up) (hn : up.length < 4611686018427387904) {Q : AV → Hp → Prop} (ht : IsLat up → Q (.bool true) H) (hf : ¬ IsLat up → Q (.bool false) H) :
    ACalls Try.prog w0 111 [v] H Q := by
  refine in111 ?_
  simp only [c111, ↓WP, WQ, if_true, if_false, eq_self, implies_true, ne_eq, List.nil_append, List.cons_append, ↓reduceIte, Nat.reduceEqDiff, Nat.reduceBEq, reduceCtorEq, Nat.reduceAdd, resA, ret1, qv, lv, ev, boolA, binA, intA, shiftA, cmpA, beqA, lres, h.len]
  refine within_c _ _ _ (fun hl => ?_) (fun hl => ?_) <;> simp only [↓WP, WQ, if_true, if_false, eq_self, implies_true, ne_eq, List.nil_append, List.cons_append, ↓reduceIte, Nat.reduceEqDiff, Nat.reduceBEq, reduceCtorEq, Nat.reduceAdd, resA, ret1, qv, lv, ev, boolA, binA, intA, shiftA, cmpA, beqA, lres, h.len]
  rotate_left
  · exact hf fun ho => hl ⟨by have := ho.lo; omega, by have := ho.hi; omega⟩
  have hp := pow_le62 (n := up.length) (by omega)
  have hp0 : (1 : Int) ≤ 2 ^ up.length := by exact_mod_cast Nat.pow_pos (by omega)
  have hn0 : ¬ ((up.length : Int) < 0) := by omega
  have hsh := shl_one (n := up.length) (by omega)
  have hw2 : IntKind.i64.wrap ((2 : Int) ^ up.length - 1) = 2 ^ up.length - 1 := wrap_id (by omega) (by omega)
  have hwl : IntKind.i64.wrap ((up.length : Int) - 1) = up.length - 1 := wrap_id (by omega) (by omega)
  refine W_for 0 up.length (fun x e H' => H' = H ∧ Sl e [(0, v), (3, .int .i64 up.length), (14, v), (15, .int .i64 up.length), (16, .int .i64 x)] ∧ allI x fun x => ((0 ≤ up.getD x.toNat 0 ∧ up.getD x.toNat 0 ≤ 2 ^ up.length - 1) ∧ bl up x x ∧ bl up x (up.length - 1) ∧ bl up 0 x) ∧ allI up.length fun y => bl up x y → (y ≠ x → ¬ bl up y x) ∧ an (up.getD y.toNat 0) (up.getD x.toNat 0) = 0) (by omega) ⟨rfl, by simp only [↓WP, WQ, if_true, if_false, eq_self, implies_true, ne_eq, List.nil_append, List.cons_append, ↓reduceIte, Nat.reduceEqDiff, Nat.reduceBEq, reduceCtorEq, Nat.reduceAdd, resA, ret1, qv, lv, ev, boolA, binA, intA, shiftA, cmpA, beqA, lres], allI_zero⟩ ?_
  rintro x e H' hx0 hx1 ⟨rfl, hs, hr⟩
  simp only [Sl_cons, Sl_nil, and_true] at hs
  have hw : IntKind.i64.wrap (x + 1) = x + 1 := wrap_id (by omega) (by omega)
  simp only [↓WP, WQ, if_true, if_false, eq_self, implies_true, ne_eq, List.nil_append, List.cons_append, ↓reduceIte, Nat.reduceEqDiff, Nat.reduceBEq, reduceCtorEq, Nat.reduceAdd, resA, ret1, qv, lv, ev, boolA, binA, intA, shiftA, cmpA, beqA, lres, hs]
  refine Br_dec (fun hx => ?_) (fun hx => ?_)
  · have hix := h.idx (k := .i64) hx0 hx
    have hax := h.at (show x.toNat < up.length by omega)
    simp only [↓WP, WQ, if_true, if_false, eq_self, implies_true, ne_eq, List.nil_append, List.cons_append, ↓reduceIte, Nat.reduceEqDiff, Nat.reduceBEq, reduceCtorEq, Nat.reduceAdd, resA, ret1, qv, lv, ev, boolA, binA, intA, shiftA, cmpA, beqA, lres, hs, hx, hix, hax, hn0, hsh, hw2]
    refine within_c _ _ _ (fun hg => ?_) (fun hg => ?_) <;> simp only [↓WP, WQ, if_true, if_false, eq_self, implies_true, ne_eq, List.nil_append, List.cons_append, ↓reduceIte, Nat.reduceEqDiff, Nat.reduceBEq, reduceCtorEq, Nat.reduceAdd, resA, ret1, qv, lv, ev, boolA, binA, intA, shiftA, cmpA, beqA, lres, hs]
    rotate_left
    · exact hf fun ho => hg (ho.rng x hx0 hx)
    refine below_c h hx0 hx hx0 (fun ha => ?_) (fun ha => ?_) <;> simp only [↓WP, WQ, if_true, if_false, eq_self, implies_true, ne_eq, List.nil_append, List.cons_append, ↓reduceIte, Nat.reduceEqDiff, Nat.reduceBEq, reduceCtorEq, Nat.reduceAdd, resA, ret1, qv, lv, ev, boolA, binA, intA, shiftA, cmpA, beqA, lres, hs, hwl]
    rotate_left
    · exact hf fun ho => ha (ho.refl x hx0 hx)
    refine below_c h hx0 hx (by omega) (fun hb => ?_) (fun hb => ?_) <;> simp only [↓WP, WQ, if_true, if_false, eq_self, implies_true, ne_eq, List.nil_append, List.cons_append, ↓reduceIte, Nat.reduceEqDiff, Nat.reduceBEq, reduceCtorEq, Nat.reduceAdd, resA, ret1, qv, lv, ev, boolA, binA, intA, shiftA, cmpA, beqA, lres, hs]
    rotate_left
    · exact hf fun ho => hb (ho.top x hx0 hx)
    refine below_c h (by omega) (by omega) hx0 (fun hc => ?_) (fun hc => ?_) <;> simp only [↓WP, WQ, if_true, if_false, eq_self, implies_true, ne_eq, List.nil_append, List.cons_append, ↓reduceIte, Nat.reduceEqDiff, Nat.reduceBEq, reduceCtorEq, Nat.reduceAdd, resA, ret1, qv, lv, ev, boolA, binA, intA, shiftA, cmpA, beqA, lres, hs, h.len]
    rotate_left
    · exact hf fun ho => hc (ho.bot x hx0 hx)
    refine W_for 0 up.length (fun y e H'' => H'' = H' ∧ Sl e [(0, v), (3, .int .i64 up.length), (14, v), (15, .int .i64 up.length), (16, .int .i64 x), (4, .int .i64 x), (5, .int .i64 (up.getD x.toNat 0)), (49, .int .i64 up.length), (50, .int .i64 y)] ∧ allI y fun y => bl up x y → (y ≠ x → ¬ bl up y x) ∧ an (up.getD y.toNat 0) (up.getD x.toNat 0) = 0) (by omega) ⟨rfl, by simp only [↓WP, WQ, if_true, if_false, eq_self, implies_true, ne_eq, List.nil_append, List.cons_append, ↓reduceIte, Nat.reduceEqDiff, Nat.reduceBEq, reduceCtorEq, Nat.reduceAdd, resA, ret1, qv, lv, ev, boolA, binA, intA, shiftA, cmpA, beqA, lres, hs], allI_zero⟩ ?_
    rintro y e H'' hy0 hy1 ⟨rfl, gs, hr3⟩
    simp only [Sl_cons, Sl_nil, and_true] at gs
    have hwy : IntKind.i64.wrap (y + 1) = y + 1 := wrap_id (by omega) (by omega)
    simp only [↓WP, WQ, if_true, if_false, eq_self, implies_true, ne_eq, List.nil_append, List.cons_append, ↓reduceIte, Nat.reduceEqDiff, Nat.reduceBEq, reduceCtorEq, Nat.reduceAdd, resA, ret1, qv, lv, ev, boolA, binA, intA, shiftA, cmpA, beqA, lres, gs]
    refine Br_dec (fun hy => ?_) (fun hy => ?_)
    · have hiy := h.idx (k := .i64) hy0 hy
      have hay := h.at (show y.toNat < up.length by omega)
      have e2 : bitA (fun x x_1 y => x_1 &&& ~~~y) .i64 (up.getD y.toNat 0) (up.getD x.toNat 0) = an (up.getD y.toNat 0) (up.getD x.toNat 0) := rfl
      simp only [↓WP, WQ, if_true, if_false, eq_self, implies_true, ne_eq, List.nil_append, List.cons_append, ↓reduceIte, Nat.reduceEqDiff, Nat.reduceBEq, reduceCtorEq, Nat.reduceAdd, resA, ret1, qv, lv, ev, boolA, binA, intA, shiftA, cmpA, beqA, lres, gs, hy]
      refine below_c h hx0 hx hy0 (fun hd => ?d) (fun hd => ?nd)
      case nd =>
        simp only [↓WP, WQ, if_true, if_false, eq_self, implies_true, ne_eq, List.nil_append, List.cons_append, ↓reduceIte, Nat.reduceEqDiff, Nat.reduceBEq, reduceCtorEq, Nat.reduceAdd, resA, ret1, qv, lv, ev, boolA, binA, intA, shiftA, cmpA, beqA, lres, gs, hy, hwy]
        exact (allI_succ hy0).2 ⟨hr3, fun h => absurd h hd⟩
      refine (Classical.em (an (up.getD y.toNat 0) (up.getD x.toNat 0) = 0)).elim (fun ha => ?za) (fun ha => ?nza)
      case nza =>
        have hbad : ¬ IsLat up := fun ho => ha ((an_rows (by omega) ho.rng hy0 hy hx0 hx).2 fun w w0 w1 h1 => ho.trans x y w hx0 hx hy0 hy w0 w1 hd h1)
        refine (Classical.em (y = x)).elim (fun hne => ?_) (fun hne => ?_)
        · simp only [↓WP, WQ, if_true, if_false, eq_self, implies_true, ne_eq, List.nil_append, List.cons_append, ↓reduceIte, Nat.reduceEqDiff, Nat.reduceBEq, reduceCtorEq, Nat.reduceAdd, resA, ret1, qv, lv, ev, boolA, binA, intA, shiftA, cmpA, beqA, lres, gs, hy, decide_eq_true hne, hiy, hay, e2, ha]
          exact hf hbad
        · simp only [↓WP, WQ, if_true, if_false, eq_self, implies_true, ne_eq, List.nil_append, List.cons_append, ↓reduceIte, Nat.reduceEqDiff, Nat.reduceBEq, reduceCtorEq, Nat.reduceAdd, resA, ret1, qv, lv, ev, boolA, binA, intA, shiftA, cmpA, beqA, lres, gs, hy, decide_eq_false hne, hiy, hay, e2, ha]
          refine below_c h hy0 hy hx0 (fun he => ?_) (fun he => ?_) <;> simp only [↓WP, WQ, if_true, if_false, eq_self, implies_true, ne_eq, List.nil_append, List.cons_append, ↓reduceIte, Nat.reduceEqDiff, Nat.reduceBEq, reduceCtorEq, Nat.reduceAdd, resA, ret1, qv, lv, ev, boolA, binA, intA, shiftA, cmpA, beqA, lres, gs, hy, decide_eq_false hne, hiy, hay, e2, ha]
          · exact hf hbad
          · exact hf hbad
      refine (Classical.em (y = x)).elim (fun hne => ?_) (fun hne => ?_)
      · simp only [↓WP, WQ, if_true, if_false, eq_self, implies_true, ne_eq, List.nil_append, List.cons_append, ↓reduceIte, Nat.reduceEqDiff, Nat.reduceBEq, reduceCtorEq, Nat.reduceAdd, resA, ret1, qv, lv, ev, boolA, binA, intA, shiftA, cmpA, beqA, lres, gs, hy, decide_eq_true hne, hiy, hay, e2, ha, hwy]
        exact (allI_succ hy0).2 ⟨hr3, fun _ => ⟨fun h => absurd hne h, ha⟩⟩
      · simp only [↓WP, WQ, if_true, if_false, eq_self, implies_true, ne_eq, List.nil_append, List.cons_append, ↓reduceIte, Nat.reduceEqDiff, Nat.reduceBEq, reduceCtorEq, Nat.reduceAdd, resA, ret1, qv, lv, ev, boolA, binA, intA, shiftA, cmpA, beqA, lres, gs, hy, decide_eq_false hne, hiy, hay, e2, ha]
        refine below_c h hy0 hy hx0 (fun he => ?_) (fun he => ?_) <;> simp only [↓WP, WQ, if_true, if_false, eq_self, implies_true, ne_eq, List.nil_append, List.cons_append, ↓reduceIte, Nat.reduceEqDiff, Nat.reduceBEq, reduceCtorEq, Nat.reduceAdd, resA, ret1, qv, lv, ev, boolA, binA, intA, shiftA, cmpA, beqA, lres, gs, hy, decide_eq_false hne, hiy, hay, e2, ha, hwy]
        · exact hf fun ho => ho.anti y x hy0 hy hx0 hx hne he hd
        · exact (allI_succ hy0).2 ⟨hr3, fun _ => ⟨fun _ => he, ha⟩⟩
    · simp only [↓WP, WQ, if_true, if_false, eq_self, implies_true, ne_eq, List.nil_append, List.cons_append, ↓reduceIte, Nat.reduceEqDiff, Nat.reduceBEq, reduceCtorEq, Nat.reduceAdd, resA, ret1, qv, lv, ev, boolA, binA, intA, shiftA, cmpA, beqA, lres, gs, hy, hw, hx]
      have hye : y = up.length := by omega
      subst hye
      exact (allI_succ hx0).2 ⟨hr, ⟨hg, ha, hb, hc⟩, hr3⟩
  · simp only [↓WP, WQ, if_true, if_false, eq_self, implies_true, ne_eq, List.nil_append, List.cons_append, ↓reduceIte, Nat.reduceEqDiff, Nat.reduceBEq, reduceCtorEq, Nat.reduceAdd, resA, ret1, qv, lv, ev, boolA, binA, intA, shiftA, cmpA, beqA, lres, hs, hx, h.len]
    have hxe : x = up.length := by omega
    subst hxe
    have hrng : Rng up := fun x h0 h1 => (hr x h0 h1).1.1
    have ho : IsOrd up := {
      lo := by omega
      hi := by omega
      rng := hrng
      refl := fun x h0 h1 => (hr x h0 h1).1.2.1
      top := fun x h0 h1 => (hr x h0 h1).1.2.2.1
      bot := fun x h0 h1 => (hr x h0 h1).1.2.2.2
      anti := fun x y h0 h1 g0 g1 hne hxy => ((hr x h0 h1).2 y g0 g1 hxy).1 (Ne.symm hne)
      trans := fun x y z h0 h1 g0 g1 k0 k1 hxy hyz => (an_rows (by omega) hrng g0 g1 h0 h1).1 ((hr x h0 h1).2 y g0 g1 hxy).2 z k0 k1 hyz }
    refine W_for 0 up.length (fun x e H'' => H'' = H' ∧ Sl e [(0, v), (80, .int .i64 up.length), (81, .int .i64 x)] ∧ allI x fun x => allI up.length fun y => 0 ≤ meetF up x y ∧ 0 ≤ joinF up x y) (by omega) ⟨rfl, by simp only [↓WP, WQ, if_true, if_false, eq_self, implies_true, ne_eq, List.nil_append, List.cons_append, ↓reduceIte, Nat.reduceEqDiff, Nat.reduceBEq, reduceCtorEq, Nat.reduceAdd, resA, ret1, qv, lv, ev, boolA, binA, intA, shiftA, cmpA, beqA, lres, hs], allI_zero⟩ ?_
    rintro x e H'' hx0 hx1 ⟨rfl, hs, hr⟩
    simp only [Sl_cons, Sl_nil, and_true] at hs
    have hw : IntKind.i64.wrap (x + 1) = x + 1 := wrap_id (by omega) (by omega)
    simp only [↓WP, WQ, if_true, if_false, eq_self, implies_true, ne_eq, List.nil_append, List.cons_append, ↓reduceIte, Nat.reduceEqDiff, Nat.reduceBEq, reduceCtorEq, Nat.reduceAdd, resA, ret1, qv, lv, ev, boolA, binA, intA, shiftA, cmpA, beqA, lres, hs]
    refine Br_dec (fun hx => ?_) (fun hx => ?_) <;> simp only [↓WP, WQ, if_true, if_false, eq_self, implies_true, ne_eq, List.nil_append, List.cons_append, ↓reduceIte, Nat.reduceEqDiff, Nat.reduceBEq, reduceCtorEq, Nat.reduceAdd, resA, ret1, qv, lv, ev, boolA, binA, intA, shiftA, cmpA, beqA, lres, hs, hx, h.len]
    · refine W_for 0 up.length (fun y e H' => H' = H'' ∧ Sl e [(0, v), (80, .int .i64 up.length), (81, .int .i64 x), (7, .int .i64 x), (85, .int .i64 up.length), (86, .int .i64 y)] ∧ allI y fun y => 0 ≤ meetF up x y ∧ 0 ≤ joinF up x y) (by omega) ⟨rfl, by simp only [↓WP, WQ, if_true, if_false, eq_self, implies_true, ne_eq, List.nil_append, List.cons_append, ↓reduceIte, Nat.reduceEqDiff, Nat.reduceBEq, reduceCtorEq, Nat.reduceAdd, resA, ret1, qv, lv, ev, boolA, binA, intA, shiftA, cmpA, beqA, lres, hs], allI_zero⟩ ?_
      rintro y e H' hy0 hy1 ⟨rfl, gs, hr2⟩
      simp only [Sl_cons, Sl_nil, and_true] at gs
      have hwy : IntKind.i64.wrap (y + 1) = y + 1 := wrap_id (by omega) (by omega)
      simp only [↓WP, WQ, if_true, if_false, eq_self, implies_true, ne_eq, List.nil_append, List.cons_append, ↓reduceIte, Nat.reduceEqDiff, Nat.reduceBEq, reduceCtorEq, Nat.reduceAdd, resA, ret1, qv, lv, ev, boolA, binA, intA, shiftA, cmpA, beqA, lres, gs]
      refine Br_dec (fun hy => ?_) (fun hy => ?_) <;> simp only [↓WP, WQ, if_true, if_false, eq_self, implies_true, ne_eq, List.nil_append, List.cons_append, ↓reduceIte, Nat.reduceEqDiff, Nat.reduceBEq, reduceCtorEq, Nat.reduceAdd, resA, ret1, qv, lv, ev, boolA, binA, intA, shiftA, cmpA, beqA, lres, gs, hy, hw, hx]
      · refine meet_c h (by omega) hx0 hx hy0 hy ?_
        refine (Classical.em (meetF up x y < 0)).elim (fun hm => ?_) (fun hm => ?_) <;> simp only [↓WP, WQ, if_true, if_false, eq_self, implies_true, ne_eq, List.nil_append, List.cons_append, ↓reduceIte, Nat.reduceEqDiff, Nat.reduceBEq, reduceCtorEq, Nat.reduceAdd, resA, ret1, qv, lv, ev, boolA, binA, intA, shiftA, cmpA, beqA, lres, gs, hy, hm]
        · exact hf fun hl => by have := hl.meet x y hx0 hx hy0 hy; omega
        refine join_c h (by omega) hrng hx0 hx hy0 hy ?_
        refine (Classical.em (joinF up x y < 0)).elim (fun hj => ?_) (fun hj => ?_) <;> simp only [↓WP, WQ, if_true, if_false, eq_self, implies_true, ne_eq, List.nil_append, List.cons_append, ↓reduceIte, Nat.reduceEqDiff, Nat.reduceBEq, reduceCtorEq, Nat.reduceAdd, resA, ret1, qv, lv, ev, boolA, binA, intA, shiftA, cmpA, beqA, lres, gs, hy, hj, hwy]
        · exact hf fun hl => by have := hl.join x y hx0 hx hy0 hy; omega
        · exact (allI_succ hy0).2 ⟨hr2, by omega, by omega⟩
      · have hye : y = up.length := by omega
        subst hye
        exact (allI_succ hx0).2 ⟨hr, hr2⟩
    · have hxe : x = up.length := by omega
      subst hxe
      exact ht { toIsOrd := ho, meet := fun x y h0 h1 g0 g1 => (hr x h0 h1 y g0 g1).1, join := fun x y h0 h1 g0 g1 => (hr x h0 h1 y g0 g1).2 }
end Go.AL

/-
  Tables of numbers and algebras, as the heap holds them.
-/
namespace Go.AL
open Go.Proofs
set_option linter.unusedSimpArgs false
set_option linter.unusedVariables false

/-- The row of a table. -/
def rowv (H : Hp) (v : AV) (x : Int) : AV := (H.at (elt 1 v x.toNat)).getD .junk

/-- A slice of slices of ints that reads as a list of lists. -/
def Mat (H : Hp) (v : AV) (t : List (List Int)) : Prop :=
  lenA v = some t.length ∧ ∀ i, i < t.length → ∃ rv, H.at (elt 1 v i) = some rv ∧ Ints H rv (t.getD i [])

theorem Mat.len {H : Hp} {v : AV} {t : List (List Int)} (h : Mat H v t) : lenA v = some t.length := h.1
theorem idxA_elt {v : AV} {n : Nat} {k : IntKind} {i : Int} (hl : lenA v = some n) (h0 : 0 ≤ i) (h1 : i < n) : idxA 1 v (.int k i) = some (elt 1 v i.toNat) := by
  cases v <;> simp [lenA] at hl
  · omega
  · omega
  · subst hl; simp [idxA, elt, h0, h1]
theorem Mat.idx {H : Hp} {v : AV} {t : List (List Int)} (h : Mat H v t) {k : IntKind} {i : Int} (h0 : 0 ≤ i) (h1 : i < t.length) : idxA 1 v (.int k i) = some (elt 1 v i.toNat) := idxA_elt h.1 h0 h1
theorem Mat.at {H : Hp} {v : AV} {t : List (List Int)} (h : Mat H v t) {i : Int} (h0 : 0 ≤ i) (h1 : i < t.length) : H.at (elt 1 v i.toNat) = some (rowv H v i) := by
  obtain ⟨rv, h2, _⟩ := h.2 i.toNat (by omega)
  simp [rowv, h2]
theorem Mat.row {H : Hp} {v : AV} {t : List (List Int)} (h : Mat H v t) {i : Int} (h0 : 0 ≤ i) (h1 : i < t.length) : Ints H (rowv H v i) (t.getD i.toNat []) := by
  obtain ⟨rv, h2, h3⟩ := h.2 i.toNat (by omega)
  simpa only [rowv, h2, Option.getD_some] using h3
theorem Mat.ext {H H' : Hp} {v : AV} {t : List (List Int)} (h : Mat H v t) (he : Ext H H') : Mat H' v t :=
  ⟨h.1, fun i hi => let ⟨rv, h2, h3⟩ := h.2 i hi; ⟨rv, he.at h2, h3.ext he⟩⟩

/-- Ext with the cells of the rows that there were. -/
theorem Hp.at_ne {H : Hp} {r q o : Nat} {x : Row} (h : q ≠ r) : (H.set r x).at (.ptr q o) = H.at (.ptr q o) := by simp [Hp.at, Hp.set, h]

theorem at_put {H : Hp} {r o : Nat} {x : Row} : (H.set r x).at (.ptr r o) = x.cells[o]? := by simp only [Hp.at, Hp.set_same]
theorem lenA_scal {v : AV} {n : Nat} (h : lenA v = some n) : v.scal = true := by
  cases v <;> simp [lenA] at h <;> rfl
theorem cells_alg {uv tv : AV} {n m : Nat} (h : lenA uv = some n) (h' : lenA tv = some m) : (AV.agg [uv, tv]).cells? = some [uv, tv] := by
  simp [AV.cells?, lenA_scal h, lenA_scal h']
theorem stA_int {H : Hp} {r ty : Nat} {c : AV} {k : IntKind} {n : Int} : stA (H.set r ⟨ty, true, [c]⟩) 1 (.ptr r 0) (.int k n) = some (H.set r ⟨ty, true, [.int k n]⟩) := by
  simp [stA, AV.cells?, AV.scal, Hp.set_same, splice, Hp.set_set]
theorem set_none {H : Hp} {r q : Nat} {x : Row} (h : (H.set r x) q = none) : q ≠ r ∧ H q = none := by
  by_cases hq : q = r
  · subst hq; simp [Hp.set] at h
  · exact ⟨hq, by simpa [Hp.set, hq] using h⟩

/-- An algebra: the sets of what is at least an element, and the products. -/
structure Alg where
  up : List Int
  times : List (List Int)

/-- The product. -/
def Alg.tm (A : Alg) (x y : Int) : Int := (A.times.getD x.toNat []).getD y.toNat 0
def Alg.n (A : Alg) : Int := A.up.length

structure Square (A : Alg) : Prop where
  len : A.times.length = A.up.length
  rows : ∀ x : Int, 0 ≤ x → x < A.up.length → (A.times.getD x.toNat []).length = A.up.length

structure IsAlg (A : Alg) : Prop extends IsLat A.up, Square A where
  rng2 : ∀ x y : Int, 0 ≤ x → x < A.up.length → 0 ≤ y → y < A.up.length → 0 ≤ A.tm x y ∧ A.tm x y < A.up.length
  one : ∀ x : Int, 0 ≤ x → x < A.up.length → A.tm x (A.up.length - 1) = x
  zero : ∀ x : Int, 0 ≤ x → x < A.up.length → A.tm x 0 = 0
  comm : ∀ x y : Int, 0 ≤ x → x < A.up.length → 0 ≤ y → y < A.up.length → A.tm x y = A.tm y x
  assoc : ∀ x y z : Int, 0 ≤ x → x < A.up.length → 0 ≤ y → y < A.up.length → 0 ≤ z → z < A.up.length → A.tm (A.tm x y) z = A.tm x (A.tm y z)
  dist : ∀ x y z : Int, 0 ≤ x → x < A.up.length → 0 ≤ y → y < A.up.length → 0 ≤ z → z < A.up.length → A.tm x (joinF A.up y z) = joinF A.up (A.tm x y) (A.tm x z)

/-- What the walks know about a square table. -/
structure Tab (H : Hp) (v : AV) (A : Alg) : Prop where
  mat : Mat H v A.times
  sq : Square A

theorem Tab.len {H : Hp} {v : AV} {A : Alg} (h : Tab H v A) : lenA v = some A.up.length := by rw [h.mat.1, h.sq.len]
theorem Tab.idx {H : Hp} {v : AV} {A : Alg} (h : Tab H v A) {k : IntKind} {x : Int} (h0 : 0 ≤ x) (h1 : x < A.up.length) : idxA 1 v (.int k x) = some (elt 1 v x.toNat) := h.mat.idx h0 (by rw [h.sq.len]; exact h1)
theorem Tab.at {H : Hp} {v : AV} {A : Alg} (h : Tab H v A) {x : Int} (h0 : 0 ≤ x) (h1 : x < A.up.length) : H.at (elt 1 v x.toNat) = some (rowv H v x) := h.mat.at h0 (by rw [h.sq.len]; exact h1)
theorem Tab.idx2 {H : Hp} {v : AV} {A : Alg} (h : Tab H v A) {k : IntKind} {x y : Int} (h0 : 0 ≤ x) (h1 : x < A.up.length) (g0 : 0 ≤ y) (g1 : y < A.up.length) : idxA 1 (rowv H v x) (.int k y) = some (elt 1 (rowv H v x) y.toNat) :=
  (h.mat.row h0 (by rw [h.sq.len]; exact h1)).idx g0 (by rw [h.sq.rows x h0 h1]; exact g1)
theorem Tab.at2 {H : Hp} {v : AV} {A : Alg} (h : Tab H v A) {x y : Int} (h0 : 0 ≤ x) (h1 : x < A.up.length) (g0 : 0 ≤ y) (g1 : y < A.up.length) : H.at (elt 1 (rowv H v x) y.toNat) = some (.int .i64 (A.tm x y)) :=
  (h.mat.row h0 (by rw [h.sq.len]; exact h1)).at (by rw [h.sq.rows x h0 h1]; omega)
theorem Tab.ext {H H' : Hp} {v : AV} {A : Alg} (h : Tab H v A) (he : Ext H H') : Tab H' v A := ⟨h.mat.ext he, h.sq⟩
end Go.AL

/-
  Searches with a function; whether tables are an algebra.
-/
namespace Go.AL
open Go.Proofs
set_option linter.unusedSimpArgs false
set_option linter.unusedVariables false
variable {w0 : World} {H : Hp}

/-- What a function of one number that says yes or no must keep. -/
def Pred (w0 : World) (g : Nat) (cap : List AV) (H : Hp) (p : Int → Prop) : Prop :=
  ∀ (x : Int) (Q : AV → Hp → Prop), (p x → Q (.bool true) H) → (¬ p x → Q (.bool false) H) → ACalls Try.prog w0 g (.int .i64 x :: cap) H Q

theorem IndexFunc_c {v : AV} {l : List Int} {g : Nat} {cap : List AV} {p : Int → Prop} (h : Ints H v l) (hn : l.length < 4611686018427387904) (hp : Pred w0 g cap H p) {Q : AV → Hp → Prop} (hq : Q (.int .i64 (firstI l.length fun i => p (l.getD i.toNat 0))) H) :
    ACalls Try.prog w0 154 [v, .fn g cap] H Q := by
  refine in154 ?_
  simp only [c154, ↓WP, WQ, if_true, if_false, eq_self, implies_true, ne_eq, List.nil_append, List.cons_append, ↓reduceIte, Nat.reduceEqDiff, Nat.reduceBEq, reduceCtorEq, Nat.reduceAdd, resA, ret1, qv, lv, ev, boolA, binA, intA, shiftA, cmpA, beqA, lres, h.len]
  refine W_for 0 l.length (fun z e H' => H' = H ∧ Sl e [(0, v), (1, .fn g cap), (7, .int .i64 l.length), (8, .int .i64 z)] ∧ allI z fun i => ¬ p (l.getD i.toNat 0)) (by omega) ⟨rfl, by simp only [↓WP, WQ, if_true, if_false, eq_self, implies_true, ne_eq, List.nil_append, List.cons_append, ↓reduceIte, Nat.reduceEqDiff, Nat.reduceBEq, reduceCtorEq, Nat.reduceAdd, resA, ret1, qv, lv, ev, boolA, binA, intA, shiftA, cmpA, beqA, lres], allI_zero⟩ ?_
  rintro z e H' hz0 hzn ⟨rfl, hs, hno⟩
  simp only [Sl_cons, Sl_nil, and_true] at hs
  have hw : IntKind.i64.wrap (z + 1) = z + 1 := wrap_id (by omega) (by omega)
  simp only [↓WP, WQ, if_true, if_false, eq_self, implies_true, ne_eq, List.nil_append, List.cons_append, ↓reduceIte, Nat.reduceEqDiff, Nat.reduceBEq, reduceCtorEq, Nat.reduceAdd, resA, ret1, qv, lv, ev, boolA, binA, intA, shiftA, cmpA, beqA, lres, hs]
  refine Br_dec (fun hz => ?_) (fun hz => ?_) <;> simp only [↓WP, WQ, if_true, if_false, eq_self, implies_true, ne_eq, List.nil_append, List.cons_append, ↓reduceIte, Nat.reduceEqDiff, Nat.reduceBEq, reduceCtorEq, Nat.reduceAdd, resA, ret1, qv, lv, ev, boolA, binA, intA, shiftA, cmpA, beqA, lres, hs, hz]
  · simp only [↓WP, WQ, if_true, if_false, eq_self, implies_true, ne_eq, List.nil_append, List.cons_append, ↓reduceIte, Nat.reduceEqDiff, Nat.reduceBEq, reduceCtorEq, Nat.reduceAdd, resA, ret1, qv, lv, ev, boolA, binA, intA, shiftA, cmpA, beqA, lres, hs, h.idx hz0 hz, h.at (show z.toNat < l.length by omega)]
    refine hp _ _ (fun ha => ?_) (fun ha => ?_) <;> simp only [↓WP, WQ, if_true, if_false, eq_self, implies_true, ne_eq, List.nil_append, List.cons_append, ↓reduceIte, Nat.reduceEqDiff, Nat.reduceBEq, reduceCtorEq, Nat.reduceAdd, resA, ret1, qv, lv, ev, boolA, binA, intA, shiftA, cmpA, beqA, lres, hs, hz, hw]
    · rw [firstI_eq (p := fun i => p (l.getD i.toNat 0)) hz0 hz ha hno] at hq; exact hq
    · exact (allI_succ hz0).2 ⟨hno, ha⟩
  · rw [firstI_none fun k k0 k1 => hno k k0 (by omega)] at hq; exact hq

theorem ContainsFunc_c {v : AV} {l : List Int} {g : Nat} {cap : List AV} {p : Int → Prop} (h : Ints H v l) (hn : l.length < 4611686018427387904) (hp : Pred w0 g cap H p) {Q : AV → Hp → Prop} (ht : ∀ i : Int, 0 ≤ i → i < l.length → p (l.getD i.toNat 0) → Q (.bool true) H) (hf : (∀ i : Int, 0 ≤ i → i < l.length → ¬ p (l.getD i.toNat 0)) → Q (.bool false) H) :
    ACalls Try.prog w0 112 [v, .fn g cap] H Q := by
  refine in112 ?_
  simp only [c112, ↓WP, WQ, if_true, if_false, eq_self, implies_true, ne_eq, List.nil_append, List.cons_append, ↓reduceIte, Nat.reduceEqDiff, Nat.reduceBEq, reduceCtorEq, Nat.reduceAdd, resA, ret1, qv, lv, ev, boolA, binA, intA, shiftA, cmpA, beqA, lres]
  refine IndexFunc_c h hn hp ?_
  rcases firstI_spec (n := l.length) (p := fun i => p (l.getD i.toNat 0)) with ⟨h0, h1, h2, _⟩ | ⟨h0, h1⟩
  · generalize firstI l.length (fun i => p (l.getD i.toNat 0)) = i at *
    simp only [↓WP, WQ, if_true, if_false, eq_self, implies_true, ne_eq, List.nil_append, List.cons_append, ↓reduceIte, Nat.reduceEqDiff, Nat.reduceBEq, reduceCtorEq, Nat.reduceAdd, resA, ret1, qv, lv, ev, boolA, binA, intA, shiftA, cmpA, beqA, lres, h0]
    exact ht i h0 h1 h2
  · simp only [↓WP, WQ, if_true, if_false, eq_self, implies_true, ne_eq, List.nil_append, List.cons_append, ↓reduceIte, Nat.reduceEqDiff, Nat.reduceBEq, reduceCtorEq, Nat.reduceAdd, resA, ret1, qv, lv, ev, boolA, binA, intA, shiftA, cmpA, beqA, lres, h0]
    exact hf h1

theorem ValidAlgebra1_c {q : AV} {n : Int} (hn0 : 0 ≤ n) (hn : n < 4611686018427387904) (hq : H.at q = some (.int .i64 n)) : Pred w0 113 [q] H (fun x => ¬ (0 ≤ x ∧ x ≤ n - 1)) := by
  intro x Q ht hf
  have hw : IntKind.i64.wrap (n - 1) = n - 1 := wrap_id (by omega) (by omega)
  refine in113 ?_
  simp only [c113, ↓WP, WQ, if_true, if_false, eq_self, implies_true, ne_eq, List.nil_append, List.cons_append, ↓reduceIte, Nat.reduceEqDiff, Nat.reduceBEq, reduceCtorEq, Nat.reduceAdd, resA, ret1, qv, lv, ev, boolA, binA, intA, shiftA, cmpA, beqA, lres, hq, hw]
  refine within_c _ _ _ (fun h => ?_) (fun h => ?_) <;> simp only [↓WP, WQ, if_true, if_false, eq_self, implies_true, ne_eq, List.nil_append, List.cons_append, ↓reduceIte, Nat.reduceEqDiff, Nat.reduceBEq, reduceCtorEq, Nat.reduceAdd, resA, ret1, qv, lv, ev, boolA, binA, intA, shiftA, cmpA, beqA, lres]
  · exact hf fun h' => h' h
  · exact ht h

theorem joinF_rng {up : List Int} (h : IsLat up) {x y : Int} (hx0 : 0 ≤ x) (hx1 : x < up.length) (hy0 : 0 ≤ y) (hy1 : y < up.length) : 0 ≤ joinF up x y ∧ joinF up x y < up.length := by
  have h0 := h.join x y hx0 hx1 hy0 hy1
  rcases firstI_spec (n := up.length) (p := joinP up x y) with ⟨h1, h2, _⟩ | ⟨h1, _⟩
  · exact ⟨h1, h2⟩
  · unfold joinF at h0; omega
theorem meetF_rng {up : List Int} (h : IsLat up) {x y : Int} (hx0 : 0 ≤ x) (hx1 : x < up.length) (hy0 : 0 ≤ y) (hy1 : y < up.length) : 0 ≤ meetF up x y ∧ meetF up x y < up.length := by
  have h0 := h.meet x y hx0 hx1 hy0 hy1
  rcases firstI_spec (n := up.length) (p := meetP up x y) with ⟨h1, h2, _⟩ | ⟨h1, _⟩
  · exact ⟨h1, h2⟩
  · unfold meetF at h0; omega

/-- Nothing of it is too long. -/
structure Small (A : Alg) : Prop where
  up : A.up.length < 4611686018427387904
  times : A.times.length < 4611686018427387904
  rows : ∀ x : Int, 0 ≤ x → x < A.times.length → (A.times.getD x.toNat []).length < 4611686018427387904

theorem ValidAlgebra_c0 {uv tv : AV} {A : Alg} (h : Ints H uv A.up) (hm : Mat H tv A.times) (hS : Small A) {Q : AV → Hp → Prop} (ht : IsAlg A → ∀ H', Ext H H' → Q (.bool true) H') (hf : ¬ IsAlg A → ∀ H', Ext H H' → Q (.bool false) H') :
    ACalls Try.prog w0 53 [.agg [uv, tv]] H Q := by
  refine in53 ?_
  simp only [c53, ↓WP, WQ, if_true, if_false, eq_self, implies_true, ne_eq, List.nil_append, List.cons_append, ↓reduceIte, Nat.reduceEqDiff, Nat.reduceBEq, reduceCtorEq, Nat.reduceAdd, resA, ret1, qv, lv, ev, boolA, binA, intA, shiftA, cmpA, beqA, lres, cells_alg h.len hm.len]
  refine NewRowd_in fun r1 hr1 => ?_
  simp only [↓WP, WQ, if_true, if_false, eq_self, implies_true, ne_eq, List.nil_append, List.cons_append, ↓reduceIte, Nat.reduceEqDiff, Nat.reduceBEq, reduceCtorEq, Nat.reduceAdd, resA, ret1, qv, lv, ev, boolA, binA, intA, shiftA, cmpA, beqA, lres, at_put, h.len]
  refine NewRowd_in fun r3 hr3 => ?_
  obtain ⟨h31, hr3'⟩ := set_none hr3
  simp only [↓WP, WQ, if_true, if_false, eq_self, implies_true, ne_eq, List.nil_append, List.cons_append, ↓reduceIte, Nat.reduceEqDiff, Nat.reduceBEq, reduceCtorEq, Nat.reduceAdd, resA, ret1, qv, lv, ev, boolA, binA, intA, shiftA, cmpA, beqA, lres, stA_int]
  have hE : Ext H ((H.set r1 ⟨36, true, [uv, tv]⟩).set r3 ⟨3, true, [.int .i64 A.up.length]⟩) := Ext.set' (Ext.set hr1) hr3'
  have hu1 : ((H.set r1 ⟨36, true, [uv, tv]⟩).set r3 ⟨3, true, [.int .i64 A.up.length]⟩).at (.ptr r1 0) = some uv := by rw [Hp.at_ne (Ne.symm h31), at_put]; rfl
  have hu2 : ((H.set r1 ⟨36, true, [uv, tv]⟩).set r3 ⟨3, true, [.int .i64 A.up.length]⟩).at (.ptr r1 1) = some tv := by rw [Hp.at_ne (Ne.symm h31), at_put]; rfl
  have hu3 : ((H.set r1 ⟨36, true, [uv, tv]⟩).set r3 ⟨3, true, [.int .i64 A.up.length]⟩).at (.ptr r3 0) = some (.int .i64 A.up.length) := by rw [at_put]; rfl
  generalize ((H.set r1 ⟨36, true, [uv, tv]⟩).set r3 ⟨3, true, [.int .i64 A.up.length]⟩) = G at *
  have h := h.ext hE
  have hm := hm.ext hE
  have ht : IsAlg A → Q (.bool true) G := fun ha => ht ha G hE
  have hf : ¬ IsAlg A → Q (.bool false) G := fun ha => hf ha G hE
  have hSu := hS.up
  have hSt := hS.times
  simp only [↓WP, WQ, if_true, if_false, eq_self, implies_true, ne_eq, List.nil_append, List.cons_append, ↓reduceIte, Nat.reduceEqDiff, Nat.reduceBEq, reduceCtorEq, Nat.reduceAdd, resA, ret1, qv, lv, ev, boolA, binA, intA, shiftA, cmpA, beqA, lres, hu1]
  refine ValidLattice_c h hS.up (fun hL => ?_) (fun hL => ?_) <;> simp only [↓WP, WQ, if_true, if_false, eq_self, implies_true, ne_eq, List.nil_append, List.cons_append, ↓reduceIte, Nat.reduceEqDiff, Nat.reduceBEq, reduceCtorEq, Nat.reduceAdd, resA, ret1, qv, lv, ev, boolA, binA, intA, shiftA, cmpA, beqA, lres]
  rotate_left
  · exact hf fun ha => hL ha.toIsLat
  refine (Classical.em ((A.times.length : Int) = A.up.length)).elim (fun hl => ?_) (fun hl => ?_)
  rotate_left
  · simp only [↓WP, WQ, if_true, if_false, eq_self, implies_true, ne_eq, List.nil_append, List.cons_append, ↓reduceIte, Nat.reduceEqDiff, Nat.reduceBEq, reduceCtorEq, Nat.reduceAdd, resA, ret1, qv, lv, ev, boolA, binA, intA, shiftA, cmpA, beqA, lres, hu2, hm.len, hu3, decide_eq_false hl]
    exact hf fun ha => hl (by rw [ha.len])
  simp only [↓WP, WQ, if_true, if_false, eq_self, implies_true, ne_eq, List.nil_append, List.cons_append, ↓reduceIte, Nat.reduceEqDiff, Nat.reduceBEq, reduceCtorEq, Nat.reduceAdd, resA, ret1, qv, lv, ev, boolA, binA, intA, shiftA, cmpA, beqA, lres, hu2, hm.len, hu3, decide_eq_true hl]
  have hn6 := hL.hi
  have hn1 := hL.lo
  have hwl : IntKind.i64.wrap ((A.up.length : Int) - 1) = A.up.length - 1 := wrap_id (by omega) (by omega)
  refine W_for 0 A.up.length (fun x e H' => H' = G ∧ Sl e [(1, .ptr r1 0), (3, .ptr r3 0), (24, tv), (25, .int .i64 A.up.length), (26, .int .i64 x)] ∧ allI x fun x => (A.times.getD x.toNat []).length = A.up.length ∧ allI A.up.length fun y => 0 ≤ A.tm x y ∧ A.tm x y < A.up.length) (by omega) ⟨rfl, by simp only [↓WP, WQ, if_true, if_false, eq_self, implies_true, ne_eq, List.nil_append, List.cons_append, ↓reduceIte, Nat.reduceEqDiff, Nat.reduceBEq, reduceCtorEq, Nat.reduceAdd, resA, ret1, qv, lv, ev, boolA, binA, intA, shiftA, cmpA, beqA, lres, hl], allI_zero⟩ ?_
  rintro x e H' hx0 hx1 ⟨rfl, hs, hr⟩
  simp only [Sl_cons, Sl_nil, and_true] at hs
  have hw : IntKind.i64.wrap (x + 1) = x + 1 := wrap_id (by omega) (by omega)
  simp only [↓WP, WQ, if_true, if_false, eq_self, implies_true, ne_eq, List.nil_append, List.cons_append, ↓reduceIte, Nat.reduceEqDiff, Nat.reduceBEq, reduceCtorEq, Nat.reduceAdd, resA, ret1, qv, lv, ev, boolA, binA, intA, shiftA, cmpA, beqA, lres, hs]
  refine Br_dec (fun hx => ?_) (fun hx => ?_)
  · have hxt : x < A.times.length := by omega
    have hrow := hm.row hx0 hxt
    refine (Classical.em (((A.times.getD x.toNat []).length : Int) = A.up.length)).elim (fun hlr => ?_) (fun hlr => ?_)
    rotate_left
    · simp only [↓WP, WQ, if_true, if_false, eq_self, implies_true, ne_eq, List.nil_append, List.cons_append, ↓reduceIte, Nat.reduceEqDiff, Nat.reduceBEq, reduceCtorEq, Nat.reduceAdd, resA, ret1, qv, lv, ev, boolA, binA, intA, shiftA, cmpA, beqA, lres, hs, hx, hm.idx hx0 hxt, hm.at hx0 hxt, hrow.len, hu3, decide_eq_false hlr]
      exact hf fun ha => hlr (by rw [ha.rows x hx0 hx])
    simp only [↓WP, WQ, if_true, if_false, eq_self, implies_true, ne_eq, List.nil_append, List.cons_append, ↓reduceIte, Nat.reduceEqDiff, Nat.reduceBEq, reduceCtorEq, Nat.reduceAdd, resA, ret1, qv, lv, ev, boolA, binA, intA, shiftA, cmpA, beqA, lres, hs, hx, hm.idx hx0 hxt, hm.at hx0 hxt, hrow.len, hu3, decide_eq_true hlr]
    refine ContainsFunc_c hrow (hS.rows x hx0 hxt) (ValidAlgebra1_c (n := A.up.length) (by omega) (by omega) hu3) (fun i hi0 hi1 hi => ?_) (fun hi => ?_) <;> simp only [↓WP, WQ, if_true, if_false, eq_self, implies_true, ne_eq, List.nil_append, List.cons_append, ↓reduceIte, Nat.reduceEqDiff, Nat.reduceBEq, reduceCtorEq, Nat.reduceAdd, resA, ret1, qv, lv, ev, boolA, binA, intA, shiftA, cmpA, beqA, lres, hs, hx, hw]
    · exact hf fun ha => hi ⟨(ha.rng2 x i hx0 hx hi0 (by omega)).1, by have := (ha.rng2 x i hx0 hx hi0 (by omega)).2; unfold Alg.tm at this; omega⟩
    · refine (allI_succ hx0).2 ⟨hr, by omega, fun y hy0 hy1 => ?_⟩
      have h1 := Classical.not_not.1 (hi y hy0 (by omega))
      unfold Alg.tm; omega
  simp only [↓WP, WQ, if_true, if_false, eq_self, implies_true, ne_eq, List.nil_append, List.cons_append, ↓reduceIte, Nat.reduceEqDiff, Nat.reduceBEq, reduceCtorEq, Nat.reduceAdd, resA, ret1, qv, lv, ev, boolA, binA, intA, shiftA, cmpA, beqA, lres, hs, hx, hu1, h.len]
  have hxe : x = A.up.length := by omega
  subst hxe
  have hsq : Square A := ⟨by omega, fun x h0 h1 => (hr x h0 h1).1⟩
  have hrng : ∀ x y : Int, 0 ≤ x → x < A.up.length → 0 ≤ y → y < A.up.length → 0 ≤ A.tm x y ∧ A.tm x y < A.up.length := fun x y h0 h1 g0 g1 => (hr x h0 h1).2 y g0 g1
  have hT : Tab H' tv A := ⟨hm, hsq⟩
  refine W_for 0 A.up.length (fun x e H'' => H'' = H' ∧ Sl e [(1, .ptr r1 0), (3, .ptr r3 0), (42, .int .i64 A.up.length), (43, .int .i64 x)] ∧ allI x fun x => (A.tm x (A.up.length - 1) = x ∧ A.tm x 0 = 0) ∧ allI A.up.length fun y => A.tm x y = A.tm y x ∧ allI A.up.length fun z => A.tm (A.tm x y) z = A.tm x (A.tm y z) ∧ A.tm x (joinF A.up y z) = joinF A.up (A.tm x y) (A.tm x z)) (by omega) ⟨rfl, by simp only [↓WP, WQ, if_true, if_false, eq_self, implies_true, ne_eq, List.nil_append, List.cons_append, ↓reduceIte, Nat.reduceEqDiff, Nat.reduceBEq, reduceCtorEq, Nat.reduceAdd, resA, ret1, qv, lv, ev, boolA, binA, intA, shiftA, cmpA, beqA, lres, hs], allI_zero⟩ ?_
  rintro x e H'' hx0 hx1 ⟨rfl, hs, hr⟩
  simp only [Sl_cons, Sl_nil, and_true] at hs
  have hw : IntKind.i64.wrap (x + 1) = x + 1 := wrap_id (by omega) (by omega)
  simp only [↓WP, WQ, if_true, if_false, eq_self, implies_true, ne_eq, List.nil_append, List.cons_append, ↓reduceIte, Nat.reduceEqDiff, Nat.reduceBEq, reduceCtorEq, Nat.reduceAdd, resA, ret1, qv, lv, ev, boolA, binA, intA, shiftA, cmpA, beqA, lres, hs]
  refine Br_dec (fun hx => ?_) (fun hx => ?_) <;> simp only [↓WP, WQ, if_true, if_false, eq_self, implies_true, ne_eq, List.nil_append, List.cons_append, ↓reduceIte, Nat.reduceEqDiff, Nat.reduceBEq, reduceCtorEq, Nat.reduceAdd, resA, ret1, qv, lv, ev, boolA, binA, intA, shiftA, cmpA, beqA, lres, hs, hx]
  rotate_left
  · have hxe : x = A.up.length := by omega
    subst hxe
    exact ht { toIsLat := hL, toSquare := hsq, rng2 := hrng, one := fun x h0 h1 => (hr x h0 h1).1.1, zero := fun x h0 h1 => (hr x h0 h1).1.2, comm := fun x y h0 h1 g0 g1 => ((hr x h0 h1).2 y g0 g1).1, assoc := fun x y z h0 h1 g0 g1 k0 k1 => (((hr x h0 h1).2 y g0 g1).2 z k0 k1).1, dist := fun x y z h0 h1 g0 g1 k0 k1 => (((hr x h0 h1).2 y g0 g1).2 z k0 k1).2 }
  have hm0 : (0 : Int) ≤ A.up.length - 1 := by omega
  have hm1 : (A.up.length : Int) - 1 < A.up.length := by omega
  have hz1 : (0 : Int) < A.up.length := by omega
  refine DR_in (fun _ => True) rfl ?_
  refine (Classical.em (A.tm x (A.up.length - 1) = x)).elim (fun ho => ?_) (fun ho => ?_)
  rotate_left
  · simp only [↓WP, WQ, if_true, if_false, eq_self, implies_true, ne_eq, List.nil_append, List.cons_append, ↓reduceIte, Nat.reduceEqDiff, Nat.reduceBEq, reduceCtorEq, Nat.reduceAdd, resA, ret1, qv, lv, ev, boolA, binA, intA, shiftA, cmpA, beqA, lres, hs, hu2, hu3, hwl, hT.idx hx0 hx, hT.at hx0 hx, hT.idx2 hx0 hx hm0 hm1, hT.at2 hx0 hx hm0 hm1, decide_eq_false ho]
    exact hf fun ha => ho (ha.one x hx0 hx)
  refine (Classical.em (A.tm x 0 = 0)).elim (fun hz => ?_) (fun hz => ?_)
  rotate_left
  · simp only [↓WP, WQ, if_true, if_false, eq_self, implies_true, ne_eq, List.nil_append, List.cons_append, ↓reduceIte, Nat.reduceEqDiff, Nat.reduceBEq, reduceCtorEq, Nat.reduceAdd, resA, ret1, qv, lv, ev, boolA, binA, intA, shiftA, cmpA, beqA, lres, hs, hu2, hu3, hwl, hT.idx hx0 hx, hT.at hx0 hx, hT.idx2 hx0 hx hm0 hm1, hT.at2 hx0 hx hm0 hm1, decide_eq_true ho, hT.idx2 hx0 hx (Int.le_refl 0) hz1, hT.at2 hx0 hx (Int.le_refl 0) hz1, decide_eq_false hz]
    exact hf fun ha => hz (ha.zero x hx0 hx)
  simp only [↓WP, WQ, if_true, if_false, eq_self, implies_true, ne_eq, List.nil_append, List.cons_append, ↓reduceIte, Nat.reduceEqDiff, Nat.reduceBEq, reduceCtorEq, Nat.reduceAdd, resA, ret1, qv, lv, ev, boolA, binA, intA, shiftA, cmpA, beqA, lres, hs, hu1, h.len, hu2, hu3, hwl, hT.idx hx0 hx, hT.at hx0 hx, hT.idx2 hx0 hx hm0 hm1, hT.at2 hx0 hx hm0 hm1, decide_eq_true ho, hT.idx2 hx0 hx (Int.le_refl 0) hz1, hT.at2 hx0 hx (Int.le_refl 0) hz1, decide_eq_true hz]
  refine W_for 0 A.up.length (fun y e H' => H' = H'' ∧ Sl e [(1, .ptr r1 0), (3, .ptr r3 0), (42, .int .i64 A.up.length), (43, .int .i64 x), (6, .int .i64 x), (69, .int .i64 A.up.length), (70, .int .i64 y)] ∧ allI y fun y => A.tm x y = A.tm y x ∧ allI A.up.length fun z => A.tm (A.tm x y) z = A.tm x (A.tm y z) ∧ A.tm x (joinF A.up y z) = joinF A.up (A.tm x y) (A.tm x z)) (by omega) ⟨rfl, by simp only [↓WP, WQ, if_true, if_false, eq_self, implies_true, ne_eq, List.nil_append, List.cons_append, ↓reduceIte, Nat.reduceEqDiff, Nat.reduceBEq, reduceCtorEq, Nat.reduceAdd, resA, ret1, qv, lv, ev, boolA, binA, intA, shiftA, cmpA, beqA, lres, hs], allI_zero⟩ ?_
  rintro y e H' hy0 hy1 ⟨rfl, gs, hr2⟩
  simp only [Sl_cons, Sl_nil, and_true] at gs
  have hwy : IntKind.i64.wrap (y + 1) = y + 1 := wrap_id (by omega) (by omega)
  simp only [↓WP, WQ, if_true, if_false, eq_self, implies_true, ne_eq, List.nil_append, List.cons_append, ↓reduceIte, Nat.reduceEqDiff, Nat.reduceBEq, reduceCtorEq, Nat.reduceAdd, resA, ret1, qv, lv, ev, boolA, binA, intA, shiftA, cmpA, beqA, lres, gs]
  refine Br_dec (fun hy => ?_) (fun hy => ?_) <;> simp only [↓WP, WQ, if_true, if_false, eq_self, implies_true, ne_eq, List.nil_append, List.cons_append, ↓reduceIte, Nat.reduceEqDiff, Nat.reduceBEq, reduceCtorEq, Nat.reduceAdd, resA, ret1, qv, lv, ev, boolA, binA, intA, shiftA, cmpA, beqA, lres, gs, hy, hx, hw]
  rotate_left
  · have hye : y = A.up.length := by omega
    subst hye
    exact (allI_succ hx0).2 ⟨hr, ⟨ho, hz⟩, hr2⟩
  refine DR_in (fun _ => True) rfl ?_
  refine (Classical.em (A.tm x y = A.tm y x)).elim (fun hc => ?_) (fun hc => ?_)
  rotate_left
  · simp only [↓WP, WQ, if_true, if_false, eq_self, implies_true, ne_eq, List.nil_append, List.cons_append, ↓reduceIte, Nat.reduceEqDiff, Nat.reduceBEq, reduceCtorEq, Nat.reduceAdd, resA, ret1, qv, lv, ev, boolA, binA, intA, shiftA, cmpA, beqA, lres, gs, hu2, hT.idx hx0 hx, hT.at hx0 hx, hT.idx hy0 hy, hT.at hy0 hy, hT.idx2 hx0 hx hy0 hy, hT.at2 hx0 hx hy0 hy, hT.idx2 hy0 hy hx0 hx, hT.at2 hy0 hy hx0 hx, decide_eq_false hc]
    exact hf fun ha => hc (ha.comm x y hx0 hx hy0 hy)
  simp only [↓WP, WQ, if_true, if_false, eq_self, implies_true, ne_eq, List.nil_append, List.cons_append, ↓reduceIte, Nat.reduceEqDiff, Nat.reduceBEq, reduceCtorEq, Nat.reduceAdd, resA, ret1, qv, lv, ev, boolA, binA, intA, shiftA, cmpA, beqA, lres, gs, hu1, h.len, hu2, hT.idx hx0 hx, hT.at hx0 hx, hT.idx hy0 hy, hT.at hy0 hy, hT.idx2 hx0 hx hy0 hy, hT.at2 hx0 hx hy0 hy, hT.idx2 hy0 hy hx0 hx, hT.at2 hy0 hy hx0 hx, decide_eq_true hc]
  refine W_for 0 A.up.length (fun z e H'' => H'' = H' ∧ Sl e [(1, .ptr r1 0), (3, .ptr r3 0), (42, .int .i64 A.up.length), (43, .int .i64 x), (6, .int .i64 x), (69, .int .i64 A.up.length), (70, .int .i64 y), (7, .int .i64 y), (92, .int .i64 A.up.length), (93, .int .i64 z)] ∧ allI z fun z => A.tm (A.tm x y) z = A.tm x (A.tm y z) ∧ A.tm x (joinF A.up y z) = joinF A.up (A.tm x y) (A.tm x z)) (by omega) ⟨rfl, by simp only [↓WP, WQ, if_true, if_false, eq_self, implies_true, ne_eq, List.nil_append, List.cons_append, ↓reduceIte, Nat.reduceEqDiff, Nat.reduceBEq, reduceCtorEq, Nat.reduceAdd, resA, ret1, qv, lv, ev, boolA, binA, intA, shiftA, cmpA, beqA, lres, gs], allI_zero⟩ ?_
  rintro z e H'' hz0 hz1' ⟨rfl, ks, hr3⟩
  simp only [Sl_cons, Sl_nil, and_true] at ks
  have hwz : IntKind.i64.wrap (z + 1) = z + 1 := wrap_id (by omega) (by omega)
  simp only [↓WP, WQ, if_true, if_false, eq_self, implies_true, ne_eq, List.nil_append, List.cons_append, ↓reduceIte, Nat.reduceEqDiff, Nat.reduceBEq, reduceCtorEq, Nat.reduceAdd, resA, ret1, qv, lv, ev, boolA, binA, intA, shiftA, cmpA, beqA, lres, ks]
  refine Br_dec (fun hzn => ?_) (fun hzn => ?_) <;> simp only [↓WP, WQ, if_true, if_false, eq_self, implies_true, ne_eq, List.nil_append, List.cons_append, ↓reduceIte, Nat.reduceEqDiff, Nat.reduceBEq, reduceCtorEq, Nat.reduceAdd, resA, ret1, qv, lv, ev, boolA, binA, intA, shiftA, cmpA, beqA, lres, ks, hzn, hy, hwy]
  rotate_left
  · have hze : z = A.up.length := by omega
    subst hze
    exact (allI_succ hy0).2 ⟨hr2, hc, hr3⟩
  obtain ⟨hxy0, hxy1⟩ := hrng x y hx0 hx hy0 hy
  obtain ⟨hxz0, hxz1⟩ := hrng x z hx0 hx hz0 hzn
  obtain ⟨hyz0, hyz1⟩ := hrng y z hy0 hy hz0 hzn
  obtain ⟨hj0, hj1⟩ := joinF_rng hL hy0 hy hz0 hzn
  refine DR_in (fun _ => True) rfl ?_
  refine (Classical.em (A.tm (A.tm x y) z = A.tm x (A.tm y z))).elim (fun hA => ?_) (fun hA => ?_)
  rotate_left
  · simp only [↓WP, WQ, if_true, if_false, eq_self, implies_true, ne_eq, List.nil_append, List.cons_append, ↓reduceIte, Nat.reduceEqDiff, Nat.reduceBEq, reduceCtorEq, Nat.reduceAdd, resA, ret1, qv, lv, ev, boolA, binA, intA, shiftA, cmpA, beqA, lres, ks, hu2, hT.idx hx0 hx, hT.at hx0 hx, hT.idx hy0 hy, hT.at hy0 hy, hT.idx2 hx0 hx hy0 hy, hT.at2 hx0 hx hy0 hy, hT.idx hxy0 hxy1, hT.at hxy0 hxy1, hT.idx2 hxy0 hxy1 hz0 hzn, hT.at2 hxy0 hxy1 hz0 hzn, hT.idx2 hy0 hy hz0 hzn, hT.at2 hy0 hy hz0 hzn, hT.idx2 hx0 hx hyz0 hyz1, hT.at2 hx0 hx hyz0 hyz1, decide_eq_false hA]
    exact hf fun ha => hA (ha.assoc x y z hx0 hx hy0 hy hz0 hzn)
  simp only [↓WP, WQ, if_true, if_false, eq_self, implies_true, ne_eq, List.nil_append, List.cons_append, ↓reduceIte, Nat.reduceEqDiff, Nat.reduceBEq, reduceCtorEq, Nat.reduceAdd, resA, ret1, qv, lv, ev, boolA, binA, intA, shiftA, cmpA, beqA, lres, ks, hu1, hu2, hT.idx hx0 hx, hT.at hx0 hx, hT.idx hy0 hy, hT.at hy0 hy, hT.idx2 hx0 hx hy0 hy, hT.at2 hx0 hx hy0 hy, hT.idx hxy0 hxy1, hT.at hxy0 hxy1, hT.idx2 hxy0 hxy1 hz0 hzn, hT.at2 hxy0 hxy1 hz0 hzn, hT.idx2 hy0 hy hz0 hzn, hT.at2 hy0 hy hz0 hzn, hT.idx2 hx0 hx hyz0 hyz1, hT.at2 hx0 hx hyz0 hyz1, hT.idx2 hx0 hx hz0 hzn, hT.at2 hx0 hx hz0 hzn, decide_eq_true hA]
  refine join_c h hn6 hL.rng hy0 hy hz0 hzn ?_
  simp only [↓WP, WQ, if_true, if_false, eq_self, implies_true, ne_eq, List.nil_append, List.cons_append, ↓reduceIte, Nat.reduceEqDiff, Nat.reduceBEq, reduceCtorEq, Nat.reduceAdd, resA, ret1, qv, lv, ev, boolA, binA, intA, shiftA, cmpA, beqA, lres, ks, hu1, hu2, hT.idx2 hx0 hx hj0 hj1, hT.at2 hx0 hx hj0 hj1, hT.idx hx0 hx, hT.at hx0 hx, hT.idx2 hx0 hx hy0 hy, hT.at2 hx0 hx hy0 hy, hT.idx2 hx0 hx hz0 hzn, hT.at2 hx0 hx hz0 hzn]
  refine join_c h hn6 hL.rng hxy0 hxy1 hxz0 hxz1 ?_
  refine (Classical.em (A.tm x (joinF A.up y z) = joinF A.up (A.tm x y) (A.tm x z))).elim (fun hD => ?_) (fun hD => ?_)
  · simp only [↓WP, WQ, if_true, if_false, eq_self, implies_true, ne_eq, List.nil_append, List.cons_append, ↓reduceIte, Nat.reduceEqDiff, Nat.reduceBEq, reduceCtorEq, Nat.reduceAdd, resA, ret1, qv, lv, ev, boolA, binA, intA, shiftA, cmpA, beqA, lres, ks, decide_eq_true hD, decide_eq_true hA, hwz, hzn]
    exact (allI_succ hz0).2 ⟨hr3, hA, hD⟩
  · simp only [↓WP, WQ, if_true, if_false, eq_self, implies_true, ne_eq, List.nil_append, List.cons_append, ↓reduceIte, Nat.reduceEqDiff, Nat.reduceBEq, reduceCtorEq, Nat.reduceAdd, resA, ret1, qv, lv, ev, boolA, binA, intA, shiftA, cmpA, beqA, lres, ks, decide_eq_false hD, decide_eq_true hA, hwz, hzn]
    exact hf fun ha => hD (ha.dist x y z hx0 hx hy0 hy hz0 hzn)

theorem ValidAlgebra_c {uv tv : AV} {A : Alg} (h : Ints H uv A.up) (hm : Mat H tv A.times) (hS : Small A) {Q : AV → Hp → Prop} (ht : IsAlg A → Q (.bool true) H) (hf : ¬ IsAlg A → Q (.bool false) H) :
    ACalls Try.prog w0 53 [.agg [uv, tv]] H Q := by
  by_cases ha : IsAlg A
  · exact quiet (.bool true) rfl (ValidAlgebra_c0 h hm hS (fun _ H' he => ⟨rfl, he⟩) (fun hn => absurd ha hn)) (ht ha)
  · exact quiet (.bool false) rfl (ValidAlgebra_c0 h hm hS (fun hn => absurd hn ha) (fun _ H' he => ⟨rfl, he⟩)) (hf ha)

theorem at1_c {q0 : Nat} {uv : AV} {up : List Int} (h : Ints H uv up) (hn : up.length < 4611686018427387904) (hq : H.at (.ptr q0 0) = some uv) : Pred w0 147 [.ptr q0 0] H (fun x => ¬ (0 ≤ x ∧ x ≤ up.length - 1)) := by
  intro x Q ht hf
  have hw : IntKind.i64.wrap ((up.length : Int) - 1) = up.length - 1 := wrap_id (by omega) (by omega)
  refine in147 ?_
  simp only [c147, ↓WP, WQ, if_true, if_false, eq_self, implies_true, ne_eq, List.nil_append, List.cons_append, ↓reduceIte, Nat.reduceEqDiff, Nat.reduceBEq, reduceCtorEq, Nat.reduceAdd, resA, ret1, qv, lv, ev, boolA, binA, intA, shiftA, cmpA, beqA, lres, hq, h.len, hw]
  refine within_c _ _ _ (fun h => ?_) (fun h => ?_) <;> simp only [↓WP, WQ, if_true, if_false, eq_self, implies_true, ne_eq, List.nil_append, List.cons_append, ↓reduceIte, Nat.reduceEqDiff, Nat.reduceBEq, reduceCtorEq, Nat.reduceAdd, resA, ret1, qv, lv, ev, boolA, binA, intA, shiftA, cmpA, beqA, lres]
  · exact hf fun h' => h' h
  · exact ht h

/-- Are all numbers of a list elements? -/
theorem at_c {uv tv sv : AV} {A : Alg} {l : List Int} (h : Ints H uv A.up) (hm : Mat H tv A.times) (hS : Small A) (hl : Ints H sv l) (hln : l.length < 4611686018427387904) {Q : AV → Hp → Prop}
    (ht : IsAlg A → (∀ i : Int, 0 ≤ i → i < l.length → 0 ≤ l.getD i.toNat 0 ∧ l.getD i.toNat 0 < A.up.length) → Q (.bool true) H)
    (hf : ¬ (IsAlg A ∧ ∀ i : Int, 0 ≤ i → i < l.length → 0 ≤ l.getD i.toNat 0 ∧ l.getD i.toNat 0 < A.up.length) → Q (.bool false) H) :
    ACalls Try.prog w0 102 [.agg [uv, tv], sv] H Q := by
  have key : ∀ b : Bool, (b = true ↔ (IsAlg A ∧ ∀ i : Int, 0 ≤ i → i < l.length → 0 ≤ l.getD i.toNat 0 ∧ l.getD i.toNat 0 < A.up.length)) → ACalls Try.prog w0 102 [.agg [uv, tv], sv] H fun v' H' => v' = .bool b ∧ Ext H H' := by
    intro b hb
    refine in102 ?_
    simp only [c102, ↓WP, WQ, if_true, if_false, eq_self, implies_true, ne_eq, List.nil_append, List.cons_append, ↓reduceIte, Nat.reduceEqDiff, Nat.reduceBEq, reduceCtorEq, Nat.reduceAdd, resA, ret1, qv, lv, ev, boolA, binA, intA, shiftA, cmpA, beqA, lres, cells_alg h.len hm.len]
    refine NewRowd_in fun r hr => ?_
    have hE : Ext H (H.set r ⟨36, true, [uv, tv]⟩) := Ext.set hr
    have hu : (H.set r ⟨36, true, [uv, tv]⟩).atN (.ptr r 0) 2 = some [uv, tv] := by simp [Hp.atN, Hp.set]
    have hu1 : (H.set r ⟨36, true, [uv, tv]⟩).at (.ptr r 0) = some uv := by rw [at_put]; rfl
    generalize H.set r ⟨36, true, [uv, tv]⟩ = G at *
    simp only [↓WP, WQ, if_true, if_false, eq_self, implies_true, ne_eq, List.nil_append, List.cons_append, ↓reduceIte, Nat.reduceEqDiff, Nat.reduceBEq, reduceCtorEq, Nat.reduceAdd, resA, ret1, qv, lv, ev, boolA, binA, intA, shiftA, cmpA, beqA, lres, hu]
    refine ValidAlgebra_c (h.ext hE) (hm.ext hE) hS (fun ha => ?_) (fun ha => ?_) <;> simp only [↓WP, WQ, if_true, if_false, eq_self, implies_true, ne_eq, List.nil_append, List.cons_append, ↓reduceIte, Nat.reduceEqDiff, Nat.reduceBEq, reduceCtorEq, Nat.reduceAdd, resA, ret1, qv, lv, ev, boolA, binA, intA, shiftA, cmpA, beqA, lres]
    · refine ContainsFunc_c (hl.ext hE) hln (at1_c (h.ext hE) hS.up hu1) (fun i h0 h1 hi => ?_) (fun hi => ?_) <;> simp only [↓WP, WQ, if_true, if_false, eq_self, implies_true, ne_eq, List.nil_append, List.cons_append, ↓reduceIte, Nat.reduceEqDiff, Nat.reduceBEq, reduceCtorEq, Nat.reduceAdd, resA, ret1, qv, lv, ev, boolA, binA, intA, shiftA, cmpA, beqA, lres]
      · refine ⟨?_, hE⟩
        cases b
        · rfl
        · exact absurd ((hb.1 rfl).2 i h0 h1) fun hh => hi ⟨hh.1, by omega⟩
      · refine ⟨?_, hE⟩
        rw [hb.2 ⟨ha, fun i h0 h1 => by have := Classical.not_not.1 (hi i h0 h1); omega⟩]
    · refine ⟨?_, hE⟩
      cases b
      · rfl
      · exact absurd (hb.1 rfl).1 ha
  by_cases hc : IsAlg A ∧ ∀ i : Int, 0 ≤ i → i < l.length → 0 ≤ l.getD i.toNat 0 ∧ l.getD i.toNat 0 < A.up.length
  · exact quiet (.bool true) rfl (key true (by simpa using hc)) (ht hc.1 hc.2)
  · exact quiet (.bool false) rfl (key false (by simpa using hc)) (hf hc)
end Go.AL

/-
  Whether tables are an algebra, as the reference looks.
-/
namespace Go.AL
open Go.Proofs
set_option linter.unusedSimpArgs false
set_option linter.unusedVariables false
variable {w0 : World} {H : Hp}

theorem svalidAlgebra_c0 {uv tv : AV} {A : Alg} (h : Ints H uv A.up) (hm : Mat H tv A.times) (hS : Small A) {Q : AV → Hp → Prop} (ht : IsAlg A → ∀ H', Ext H H' → Q (.bool true) H') (hf : ¬ IsAlg A → ∀ H', Ext H H' → Q (.bool false) H') :
    ACalls Try.prog w0 70 [.agg [uv, tv]] H Q := by
  refine in70 ?_
  simp only [c70, ↓WP, WQ, if_true, if_false, eq_self, implies_true, ne_eq, List.nil_append, List.cons_append, ↓reduceIte, Nat.reduceEqDiff, Nat.reduceBEq, reduceCtorEq, Nat.reduceAdd, resA, ret1, qv, lv, ev, boolA, binA, intA, shiftA, cmpA, beqA, lres, cells_alg h.len hm.len]
  refine NewRowd_in fun r1 hr1 => ?_
  have hE : Ext H (H.set r1 ⟨36, true, [uv, tv]⟩) := Ext.set hr1
  have hu1 : (H.set r1 ⟨36, true, [uv, tv]⟩).at (.ptr r1 0) = some uv := by rw [at_put]; rfl
  have hu2 : (H.set r1 ⟨36, true, [uv, tv]⟩).at (.ptr r1 1) = some tv := by rw [at_put]; rfl
  generalize H.set r1 ⟨36, true, [uv, tv]⟩ = G at *
  have h := h.ext hE
  have hm := hm.ext hE
  have ht : IsAlg A → Q (.bool true) G := fun ha => ht ha G hE
  have hf : ¬ IsAlg A → Q (.bool false) G := fun ha => hf ha G hE
  have hSu := hS.up
  have hSt := hS.times
  simp only [↓WP, WQ, if_true, if_false, eq_self, implies_true, ne_eq, List.nil_append, List.cons_append, ↓reduceIte, Nat.reduceEqDiff, Nat.reduceBEq, reduceCtorEq, Nat.reduceAdd, resA, ret1, qv, lv, ev, boolA, binA, intA, shiftA, cmpA, beqA, lres, hu1, h.len]
  refine svalidLattice_c h hS.up (fun hL => ?_) (fun hL => ?_) <;> simp only [↓WP, WQ, if_true, if_false, eq_self, implies_true, ne_eq, List.nil_append, List.cons_append, ↓reduceIte, Nat.reduceEqDiff, Nat.reduceBEq, reduceCtorEq, Nat.reduceAdd, resA, ret1, qv, lv, ev, boolA, binA, intA, shiftA, cmpA, beqA, lres]
  rotate_left
  · exact hf fun ha => hL ha.toIsLat
  refine (Classical.em ((A.times.length : Int) = A.up.length)).elim (fun hl => ?_) (fun hl => ?_)
  rotate_left
  · simp only [↓WP, WQ, if_true, if_false, eq_self, implies_true, ne_eq, List.nil_append, List.cons_append, ↓reduceIte, Nat.reduceEqDiff, Nat.reduceBEq, reduceCtorEq, Nat.reduceAdd, resA, ret1, qv, lv, ev, boolA, binA, intA, shiftA, cmpA, beqA, lres, hu2, hm.len, decide_eq_false hl]
    exact hf fun ha => hl (by rw [ha.len])
  simp only [↓WP, WQ, if_true, if_false, eq_self, implies_true, ne_eq, List.nil_append, List.cons_append, ↓reduceIte, Nat.reduceEqDiff, Nat.reduceBEq, reduceCtorEq, Nat.reduceAdd, resA, ret1, qv, lv, ev, boolA, binA, intA, shiftA, cmpA, beqA, lres, hu2, hm.len, decide_eq_true hl]
  have hn6 := hL.hi
  have hn1 := hL.lo
  have hrr := rows62_of hL.hi hL.rng
  have hwl : IntKind.i64.wrap ((A.up.length : Int) - 1) = A.up.length - 1 := wrap_id (by omega) (by omega)
  refine W_for 0 A.up.length (fun x e H' => H' = G ∧ Sl e [(1, .ptr r1 0), (3, .int .i64 A.up.length), (4, .int .i64 x)] ∧ allI x fun x => (A.times.getD x.toNat []).length = A.up.length ∧ allI A.up.length fun y => 0 ≤ A.tm x y ∧ A.tm x y < A.up.length) (by omega) ⟨rfl, by simp only [↓WP, WQ, if_true, if_false, eq_self, implies_true, ne_eq, List.nil_append, List.cons_append, ↓reduceIte, Nat.reduceEqDiff, Nat.reduceBEq, reduceCtorEq, Nat.reduceAdd, resA, ret1, qv, lv, ev, boolA, binA, intA, shiftA, cmpA, beqA, lres], allI_zero⟩ ?_
  rintro x e H' hx0 hx1 ⟨rfl, hs, hr⟩
  simp only [Sl_cons, Sl_nil, and_true] at hs
  have hw : IntKind.i64.wrap (x + 1) = x + 1 := wrap_id (by omega) (by omega)
  simp only [↓WP, WQ, if_true, if_false, eq_self, implies_true, ne_eq, List.nil_append, List.cons_append, ↓reduceIte, Nat.reduceEqDiff, Nat.reduceBEq, reduceCtorEq, Nat.reduceAdd, resA, ret1, qv, lv, ev, boolA, binA, intA, shiftA, cmpA, beqA, lres, hs]
  refine Br_dec (fun hx => ?_) (fun hx => ?_)
  · have hxt : x < A.times.length := by omega
    have hrow := hm.row hx0 hxt
    refine (Classical.em (((A.times.getD x.toNat []).length : Int) = A.up.length)).elim (fun hlr => ?_) (fun hlr => ?_)
    rotate_left
    · simp only [↓WP, WQ, if_true, if_false, eq_self, implies_true, ne_eq, List.nil_append, List.cons_append, ↓reduceIte, Nat.reduceEqDiff, Nat.reduceBEq, reduceCtorEq, Nat.reduceAdd, resA, ret1, qv, lv, ev, boolA, binA, intA, shiftA, cmpA, beqA, lres, hs, hx, hu2, hm.idx hx0 hxt, hm.at hx0 hxt, hrow.len, decide_eq_false hlr]
      exact hf fun ha => hlr (by rw [ha.rows x hx0 hx])
    simp only [↓WP, WQ, if_true, if_false, eq_self, implies_true, ne_eq, List.nil_append, List.cons_append, ↓reduceIte, Nat.reduceEqDiff, Nat.reduceBEq, reduceCtorEq, Nat.reduceAdd, resA, ret1, qv, lv, ev, boolA, binA, intA, shiftA, cmpA, beqA, lres, hs, hx, hu2, hm.idx hx0 hxt, hm.at hx0 hxt, hrow.len, decide_eq_true hlr]
    refine W_for 0 A.up.length (fun y e H'' => H'' = H' ∧ Sl e [(1, .ptr r1 0), (3, .int .i64 A.up.length), (4, .int .i64 x), (5, .int .i64 y)] ∧ allI y fun y => 0 ≤ A.tm x y ∧ A.tm x y < A.up.length) (by omega) ⟨rfl, by simp only [↓WP, WQ, if_true, if_false, eq_self, implies_true, ne_eq, List.nil_append, List.cons_append, ↓reduceIte, Nat.reduceEqDiff, Nat.reduceBEq, reduceCtorEq, Nat.reduceAdd, resA, ret1, qv, lv, ev, boolA, binA, intA, shiftA, cmpA, beqA, lres, hs], allI_zero⟩ ?_
    rintro y e H'' hy0 hy1 ⟨rfl, gs, hr2⟩
    simp only [Sl_cons, Sl_nil, and_true] at gs
    have hwy : IntKind.i64.wrap (y + 1) = y + 1 := wrap_id (by omega) (by omega)
    simp only [↓WP, WQ, if_true, if_false, eq_self, implies_true, ne_eq, List.nil_append, List.cons_append, ↓reduceIte, Nat.reduceEqDiff, Nat.reduceBEq, reduceCtorEq, Nat.reduceAdd, resA, ret1, qv, lv, ev, boolA, binA, intA, shiftA, cmpA, beqA, lres, gs]
    refine Br_dec (fun hy => ?_) (fun hy => ?_) <;> simp only [↓WP, WQ, if_true, if_false, eq_self, implies_true, ne_eq, List.nil_append, List.cons_append, ↓reduceIte, Nat.reduceEqDiff, Nat.reduceBEq, reduceCtorEq, Nat.reduceAdd, resA, ret1, qv, lv, ev, boolA, binA, intA, shiftA, cmpA, beqA, lres, gs, hy, hx, hw]
    · simp only [↓WP, WQ, if_true, if_false, eq_self, implies_true, ne_eq, List.nil_append, List.cons_append, ↓reduceIte, Nat.reduceEqDiff, Nat.reduceBEq, reduceCtorEq, Nat.reduceAdd, resA, ret1, qv, lv, ev, boolA, binA, intA, shiftA, cmpA, beqA, lres, gs, hy, hu2, hm.idx hx0 hxt, hm.at hx0 hxt, hrow.idx hy0 (show y < (A.times.getD x.toNat []).length by omega), hrow.at (show y.toNat < (A.times.getD x.toNat []).length by omega), hwl]
      refine inRange_c _ _ _ (fun hg => ?_) (fun hg => ?_) <;> simp only [↓WP, WQ, if_true, if_false, eq_self, implies_true, ne_eq, List.nil_append, List.cons_append, ↓reduceIte, Nat.reduceEqDiff, Nat.reduceBEq, reduceCtorEq, Nat.reduceAdd, resA, ret1, qv, lv, ev, boolA, binA, intA, shiftA, cmpA, beqA, lres, gs, hy, hwy]
      · exact (allI_succ hy0).2 ⟨hr2, by unfold Alg.tm; omega⟩
      · exact hf fun ha => hg (by have := ha.rng2 x y hx0 hx hy0 hy; unfold Alg.tm at this; omega)
    · have hye : y = A.up.length := by omega
      subst hye
      exact (allI_succ hx0).2 ⟨hr, by omega, hr2⟩
  simp only [↓WP, WQ, if_true, if_false, eq_self, implies_true, ne_eq, List.nil_append, List.cons_append, ↓reduceIte, Nat.reduceEqDiff, Nat.reduceBEq, reduceCtorEq, Nat.reduceAdd, resA, ret1, qv, lv, ev, boolA, binA, intA, shiftA, cmpA, beqA, lres, hs, hx]
  have hxe : x = A.up.length := by omega
  subst hxe
  have hsq : Square A := ⟨by omega, fun x h0 h1 => (hr x h0 h1).1⟩
  have hrng : ∀ x y : Int, 0 ≤ x → x < A.up.length → 0 ≤ y → y < A.up.length → 0 ≤ A.tm x y ∧ A.tm x y < A.up.length := fun x y h0 h1 g0 g1 => (hr x h0 h1).2 y g0 g1
  have hT : Tab H' tv A := ⟨hm, hsq⟩
  refine W_for 0 A.up.length (fun x e H'' => H'' = H' ∧ Sl e [(1, .ptr r1 0), (3, .int .i64 A.up.length), (6, .int .i64 x)] ∧ allI x fun x => (A.tm x (A.up.length - 1) = x ∧ A.tm x 0 = 0) ∧ allI A.up.length fun y => A.tm x y = A.tm y x ∧ allI A.up.length fun z => A.tm (A.tm x y) z = A.tm x (A.tm y z) ∧ A.tm x (joinF A.up y z) = joinF A.up (A.tm x y) (A.tm x z)) (by omega) ⟨rfl, by simp only [↓WP, WQ, if_true, if_false, eq_self, implies_true, ne_eq, List.nil_append, List.cons_append, ↓reduceIte, Nat.reduceEqDiff, Nat.reduceBEq, reduceCtorEq, Nat.reduceAdd, resA, ret1, qv, lv, ev, boolA, binA, intA, shiftA, cmpA, beqA, lres, hs], allI_zero⟩ ?_
  rintro x e H'' hx0 hx1 ⟨rfl, hs, hr⟩
  simp only [Sl_cons, Sl_nil, and_true] at hs
  have hw : IntKind.i64.wrap (x + 1) = x + 1 := wrap_id (by omega) (by omega)
  simp only [↓WP, WQ, if_true, if_false, eq_self, implies_true, ne_eq, List.nil_append, List.cons_append, ↓reduceIte, Nat.reduceEqDiff, Nat.reduceBEq, reduceCtorEq, Nat.reduceAdd, resA, ret1, qv, lv, ev, boolA, binA, intA, shiftA, cmpA, beqA, lres, hs]
  refine Br_dec (fun hx => ?_) (fun hx => ?_)
  rotate_left
  · simp only [↓WP, WQ, if_true, if_false, eq_self, implies_true, ne_eq, List.nil_append, List.cons_append, ↓reduceIte, Nat.reduceEqDiff, Nat.reduceBEq, reduceCtorEq, Nat.reduceAdd, resA, ret1, qv, lv, ev, boolA, binA, intA, shiftA, cmpA, beqA, lres, hs, hx]
    have hxe : x = A.up.length := by omega
    subst hxe
    exact ht { toIsLat := hL, toSquare := hsq, rng2 := hrng, one := fun x h0 h1 => (hr x h0 h1).1.1, zero := fun x h0 h1 => (hr x h0 h1).1.2, comm := fun x y h0 h1 g0 g1 => ((hr x h0 h1).2 y g0 g1).1, assoc := fun x y z h0 h1 g0 g1 k0 k1 => (((hr x h0 h1).2 y g0 g1).2 z k0 k1).1, dist := fun x y z h0 h1 g0 g1 k0 k1 => (((hr x h0 h1).2 y g0 g1).2 z k0 k1).2 }
  have hm0 : (0 : Int) ≤ A.up.length - 1 := by omega
  have hm1 : (A.up.length : Int) - 1 < A.up.length := by omega
  have hz1 : (0 : Int) < A.up.length := by omega
  refine (Classical.em (A.tm x (A.up.length - 1) = x)).elim (fun ho => ?_) (fun ho => ?_)
  rotate_left
  · simp only [↓WP, WQ, if_true, if_false, eq_self, implies_true, ne_eq, List.nil_append, List.cons_append, ↓reduceIte, Nat.reduceEqDiff, Nat.reduceBEq, reduceCtorEq, Nat.reduceAdd, resA, ret1, qv, lv, ev, boolA, binA, intA, shiftA, cmpA, beqA, lres, hs, hx, hu2, hwl, hT.idx hx0 hx, hT.at hx0 hx, hT.idx2 hx0 hx hm0 hm1, hT.at2 hx0 hx hm0 hm1, decide_eq_false ho]
    exact hf fun ha => ho (ha.one x hx0 hx)
  refine (Classical.em (A.tm x 0 = 0)).elim (fun hz => ?_) (fun hz => ?_)
  rotate_left
  · simp only [↓WP, WQ, if_true, if_false, eq_self, implies_true, ne_eq, List.nil_append, List.cons_append, ↓reduceIte, Nat.reduceEqDiff, Nat.reduceBEq, reduceCtorEq, Nat.reduceAdd, resA, ret1, qv, lv, ev, boolA, binA, intA, shiftA, cmpA, beqA, lres, hs, hx, hu2, hwl, hT.idx hx0 hx, hT.at hx0 hx, hT.idx2 hx0 hx hm0 hm1, hT.at2 hx0 hx hm0 hm1, decide_eq_true ho, hT.idx2 hx0 hx (Int.le_refl 0) hz1, hT.at2 hx0 hx (Int.le_refl 0) hz1, decide_eq_false hz]
    exact hf fun ha => hz (ha.zero x hx0 hx)
  simp only [↓WP, WQ, if_true, if_false, eq_self, implies_true, ne_eq, List.nil_append, List.cons_append, ↓reduceIte, Nat.reduceEqDiff, Nat.reduceBEq, reduceCtorEq, Nat.reduceAdd, resA, ret1, qv, lv, ev, boolA, binA, intA, shiftA, cmpA, beqA, lres, hs, hx, hu2, hwl, hT.idx hx0 hx, hT.at hx0 hx, hT.idx2 hx0 hx hm0 hm1, hT.at2 hx0 hx hm0 hm1, decide_eq_true ho, hT.idx2 hx0 hx (Int.le_refl 0) hz1, hT.at2 hx0 hx (Int.le_refl 0) hz1, decide_eq_true hz]
  refine W_for 0 A.up.length (fun y e H' => H' = H'' ∧ Sl e [(1, .ptr r1 0), (3, .int .i64 A.up.length), (6, .int .i64 x), (7, .int .i64 y)] ∧ allI y fun y => A.tm x y = A.tm y x ∧ allI A.up.length fun z => A.tm (A.tm x y) z = A.tm x (A.tm y z) ∧ A.tm x (joinF A.up y z) = joinF A.up (A.tm x y) (A.tm x z)) (by omega) ⟨rfl, by simp only [↓WP, WQ, if_true, if_false, eq_self, implies_true, ne_eq, List.nil_append, List.cons_append, ↓reduceIte, Nat.reduceEqDiff, Nat.reduceBEq, reduceCtorEq, Nat.reduceAdd, resA, ret1, qv, lv, ev, boolA, binA, intA, shiftA, cmpA, beqA, lres, hs], allI_zero⟩ ?_
  rintro y e H' hy0 hy1 ⟨rfl, gs, hr2⟩
  simp only [Sl_cons, Sl_nil, and_true] at gs
  have hwy : IntKind.i64.wrap (y + 1) = y + 1 := wrap_id (by omega) (by omega)
  simp only [↓WP, WQ, if_true, if_false, eq_self, implies_true, ne_eq, List.nil_append, List.cons_append, ↓reduceIte, Nat.reduceEqDiff, Nat.reduceBEq, reduceCtorEq, Nat.reduceAdd, resA, ret1, qv, lv, ev, boolA, binA, intA, shiftA, cmpA, beqA, lres, gs]
  refine Br_dec (fun hy => ?_) (fun hy => ?_) <;> simp only [↓WP, WQ, if_true, if_false, eq_self, implies_true, ne_eq, List.nil_append, List.cons_append, ↓reduceIte, Nat.reduceEqDiff, Nat.reduceBEq, reduceCtorEq, Nat.reduceAdd, resA, ret1, qv, lv, ev, boolA, binA, intA, shiftA, cmpA, beqA, lres, gs, hy, hx, hw]
  rotate_left
  · have hye : y = A.up.length := by omega
    subst hye
    exact (allI_succ hx0).2 ⟨hr, ⟨ho, hz⟩, hr2⟩
  refine DR_in (fun _ => True) rfl ?_
  refine (Classical.em (A.tm x y = A.tm y x)).elim (fun hc => ?_) (fun hc => ?_)
  rotate_left
  · simp only [↓WP, WQ, if_true, if_false, eq_self, implies_true, ne_eq, List.nil_append, List.cons_append, ↓reduceIte, Nat.reduceEqDiff, Nat.reduceBEq, reduceCtorEq, Nat.reduceAdd, resA, ret1, qv, lv, ev, boolA, binA, intA, shiftA, cmpA, beqA, lres, gs, hu2, hT.idx hx0 hx, hT.at hx0 hx, hT.idx hy0 hy, hT.at hy0 hy, hT.idx2 hx0 hx hy0 hy, hT.at2 hx0 hx hy0 hy, hT.idx2 hy0 hy hx0 hx, hT.at2 hy0 hy hx0 hx, decide_eq_false hc]
    exact hf fun ha => hc (ha.comm x y hx0 hx hy0 hy)
  simp only [↓WP, WQ, if_true, if_false, eq_self, implies_true, ne_eq, List.nil_append, List.cons_append, ↓reduceIte, Nat.reduceEqDiff, Nat.reduceBEq, reduceCtorEq, Nat.reduceAdd, resA, ret1, qv, lv, ev, boolA, binA, intA, shiftA, cmpA, beqA, lres, gs, hu1, h.len, hu2, hT.idx hx0 hx, hT.at hx0 hx, hT.idx hy0 hy, hT.at hy0 hy, hT.idx2 hx0 hx hy0 hy, hT.at2 hx0 hx hy0 hy, hT.idx2 hy0 hy hx0 hx, hT.at2 hy0 hy hx0 hx, decide_eq_true hc]
  refine W_for 0 A.up.length (fun z e H'' => H'' = H' ∧ Sl e [(1, .ptr r1 0), (3, .int .i64 A.up.length), (6, .int .i64 x), (7, .int .i64 y), (8, .int .i64 z)] ∧ allI z fun z => A.tm (A.tm x y) z = A.tm x (A.tm y z) ∧ A.tm x (joinF A.up y z) = joinF A.up (A.tm x y) (A.tm x z)) (by omega) ⟨rfl, by simp only [↓WP, WQ, if_true, if_false, eq_self, implies_true, ne_eq, List.nil_append, List.cons_append, ↓reduceIte, Nat.reduceEqDiff, Nat.reduceBEq, reduceCtorEq, Nat.reduceAdd, resA, ret1, qv, lv, ev, boolA, binA, intA, shiftA, cmpA, beqA, lres, gs], allI_zero⟩ ?_
  rintro z e H'' hz0 hz1' ⟨rfl, ks, hr3⟩
  simp only [Sl_cons, Sl_nil, and_true] at ks
  have hwz : IntKind.i64.wrap (z + 1) = z + 1 := wrap_id (by omega) (by omega)
  simp only [↓WP, WQ, if_true, if_false, eq_self, implies_true, ne_eq, List.nil_append, List.cons_append, ↓reduceIte, Nat.reduceEqDiff, Nat.reduceBEq, reduceCtorEq, Nat.reduceAdd, resA, ret1, qv, lv, ev, boolA, binA, intA, shiftA, cmpA, beqA, lres, ks]
  refine Br_dec (fun hzn => ?_) (fun hzn => ?_) <;> simp only [↓WP, WQ, if_true, if_false, eq_self, implies_true, ne_eq, List.nil_append, List.cons_append, ↓reduceIte, Nat.reduceEqDiff, Nat.reduceBEq, reduceCtorEq, Nat.reduceAdd, resA, ret1, qv, lv, ev, boolA, binA, intA, shiftA, cmpA, beqA, lres, ks, hzn, hy, hwy]
  rotate_left
  · have hze : z = A.up.length := by omega
    subst hze
    exact (allI_succ hy0).2 ⟨hr2, hc, hr3⟩
  obtain ⟨hxy0, hxy1⟩ := hrng x y hx0 hx hy0 hy
  obtain ⟨hxz0, hxz1⟩ := hrng x z hx0 hx hz0 hzn
  obtain ⟨hyz0, hyz1⟩ := hrng y z hy0 hy hz0 hzn
  obtain ⟨hj0, hj1⟩ := joinF_rng hL hy0 hy hz0 hzn
  refine DR_in (fun _ => True) rfl ?_
  refine (Classical.em (A.tm (A.tm x y) z = A.tm x (A.tm y z))).elim (fun hA => ?_) (fun hA => ?_)
  rotate_left
  · simp only [↓WP, WQ, if_true, if_false, eq_self, implies_true, ne_eq, List.nil_append, List.cons_append, ↓reduceIte, Nat.reduceEqDiff, Nat.reduceBEq, reduceCtorEq, Nat.reduceAdd, resA, ret1, qv, lv, ev, boolA, binA, intA, shiftA, cmpA, beqA, lres, ks, hu2, hT.idx hx0 hx, hT.at hx0 hx, hT.idx hy0 hy, hT.at hy0 hy, hT.idx2 hx0 hx hy0 hy, hT.at2 hx0 hx hy0 hy, hT.idx hxy0 hxy1, hT.at hxy0 hxy1, hT.idx2 hxy0 hxy1 hz0 hzn, hT.at2 hxy0 hxy1 hz0 hzn, hT.idx2 hy0 hy hz0 hzn, hT.at2 hy0 hy hz0 hzn, hT.idx2 hx0 hx hyz0 hyz1, hT.at2 hx0 hx hyz0 hyz1, decide_eq_false hA]
    exact hf fun ha => hA (ha.assoc x y z hx0 hx hy0 hy hz0 hzn)
  simp only [↓WP, WQ, if_true, if_false, eq_self, implies_true, ne_eq, List.nil_append, List.cons_append, ↓reduceIte, Nat.reduceEqDiff, Nat.reduceBEq, reduceCtorEq, Nat.reduceAdd, resA, ret1, qv, lv, ev, boolA, binA, intA, shiftA, cmpA, beqA, lres, ks, hu1, hu2, hT.idx hx0 hx, hT.at hx0 hx, hT.idx hy0 hy, hT.at hy0 hy, hT.idx2 hx0 hx hy0 hy, hT.at2 hx0 hx hy0 hy, hT.idx hxy0 hxy1, hT.at hxy0 hxy1, hT.idx2 hxy0 hxy1 hz0 hzn, hT.at2 hxy0 hxy1 hz0 hzn, hT.idx2 hy0 hy hz0 hzn, hT.at2 hy0 hy hz0 hzn, hT.idx2 hx0 hx hyz0 hyz1, hT.at2 hx0 hx hyz0 hyz1, hT.idx2 hx0 hx hz0 hzn, hT.at2 hx0 hx hz0 hzn, decide_eq_true hA]
  refine sjoin_c h hrr (by omega) hy0 hy hz0 hzn ?_
  simp only [↓WP, WQ, if_true, if_false, eq_self, implies_true, ne_eq, List.nil_append, List.cons_append, ↓reduceIte, Nat.reduceEqDiff, Nat.reduceBEq, reduceCtorEq, Nat.reduceAdd, resA, ret1, qv, lv, ev, boolA, binA, intA, shiftA, cmpA, beqA, lres, ks, hu1, hu2, hT.idx2 hx0 hx hj0 hj1, hT.at2 hx0 hx hj0 hj1, hT.idx hx0 hx, hT.at hx0 hx, hT.idx2 hx0 hx hy0 hy, hT.at2 hx0 hx hy0 hy, hT.idx2 hx0 hx hz0 hzn, hT.at2 hx0 hx hz0 hzn]
  refine sjoin_c h hrr (by omega) hxy0 hxy1 hxz0 hxz1 ?_
  refine (Classical.em (A.tm x (joinF A.up y z) = joinF A.up (A.tm x y) (A.tm x z))).elim (fun hD => ?_) (fun hD => ?_)
  · simp only [↓WP, WQ, if_true, if_false, eq_self, implies_true, ne_eq, List.nil_append, List.cons_append, ↓reduceIte, Nat.reduceEqDiff, Nat.reduceBEq, reduceCtorEq, Nat.reduceAdd, resA, ret1, qv, lv, ev, boolA, binA, intA, shiftA, cmpA, beqA, lres, ks, decide_eq_true hD, decide_eq_true hA, hwz, hzn]
    exact (allI_succ hz0).2 ⟨hr3, hA, hD⟩
  · simp only [↓WP, WQ, if_true, if_false, eq_self, implies_true, ne_eq, List.nil_append, List.cons_append, ↓reduceIte, Nat.reduceEqDiff, Nat.reduceBEq, reduceCtorEq, Nat.reduceAdd, resA, ret1, qv, lv, ev, boolA, binA, intA, shiftA, cmpA, beqA, lres, ks, decide_eq_false hD, decide_eq_true hA, hwz, hzn]
    exact hf fun ha => hD (ha.dist x y z hx0 hx hy0 hy hz0 hzn)

theorem svalidAlgebra_c {uv tv : AV} {A : Alg} (h : Ints H uv A.up) (hm : Mat H tv A.times) (hS : Small A) {Q : AV → Hp → Prop} (ht : IsAlg A → Q (.bool true) H) (hf : ¬ IsAlg A → Q (.bool false) H) :
    ACalls Try.prog w0 70 [.agg [uv, tv]] H Q := by
  by_cases ha : IsAlg A
  · exact quiet (.bool true) rfl (svalidAlgebra_c0 h hm hS (fun _ H' he => ⟨rfl, he⟩) (fun hn => absurd ha hn)) (ht ha)
  · exact quiet (.bool false) rfl (svalidAlgebra_c0 h hm hS (fun hn => absurd hn ha) (fun _ H' he => ⟨rfl, he⟩)) (hf ha)
end Go.AL

/-
  Implications.
-/
namespace Go.AL
open Go.Proofs
set_option linter.unusedSimpArgs false
set_option linter.unusedVariables false
variable {w0 : World} {H : Hp}

theorem box_facts {H : Hp} {r ty : Nat} {uv tv : AV} (hr : H r = none) : Ext H (H.set r ⟨ty, true, [uv, tv]⟩) ∧ (H.set r ⟨ty, true, [uv, tv]⟩).atN (.ptr r 0) 2 = some [uv, tv] ∧
    (H.set r ⟨ty, true, [uv, tv]⟩).at (.ptr r 0) = some uv ∧ (H.set r ⟨ty, true, [uv, tv]⟩).at (.ptr r 1) = some tv :=
  ⟨Ext.set hr, by simp [Hp.atN, Hp.set], by rw [at_put]; rfl, by rw [at_put]; rfl⟩

/-- The join of the first elements whose product with x is at most y. -/
noncomputable def impS (A : Alg) (x y : Int) : Nat → Int
  | 0 => 0
  | m + 1 => open Classical in if bl A.up (A.tm x m) y then joinF A.up (impS A x y m) m else impS A x y m
noncomputable def impF (A : Alg) (x y : Int) : Int := impS A x y A.up.length

theorem impS_yes {A : Alg} {x y z : Int} (h0 : 0 ≤ z) (h : bl A.up (A.tm x z) y) : impS A x y (z + 1).toNat = joinF A.up (impS A x y z.toNat) z := by
  rw [show (z + 1).toNat = z.toNat + 1 by omega, impS, show ((z.toNat : Nat) : Int) = z by omega, if_pos h]
theorem impS_no {A : Alg} {x y z : Int} (h0 : 0 ≤ z) (h : ¬ bl A.up (A.tm x z) y) : impS A x y (z + 1).toNat = impS A x y z.toNat := by
  rw [show (z + 1).toNat = z.toNat + 1 by omega, impS, show ((z.toNat : Nat) : Int) = z by omega, if_neg h]
theorem impS_rng {A : Alg} (hA : IsAlg A) {x y : Int} : ∀ m : Nat, m ≤ A.up.length → 0 ≤ impS A x y m ∧ impS A x y m < A.up.length
  | 0, _ => by have := hA.lo; simp only [impS]; omega
  | m + 1, hm => by
    have h := impS_rng hA (x := x) (y := y) m (by omega)
    simp only [impS]
    split
    · exact joinF_rng hA.toIsLat h.1 h.2 (by omega) (by omega)
    · exact h
theorem impF_rng {A : Alg} (hA : IsAlg A) (x y : Int) : 0 ≤ impF A x y ∧ impF A x y < A.up.length := impS_rng hA _ (Nat.le_refl _)

theorem imply_c {uv tv : AV} {A : Alg} {x y : Int} (h : Ints H uv A.up) (hm : Mat H tv A.times) (hA : IsAlg A) (hx0 : 0 ≤ x) (hx : x < A.up.length) (hy0 : 0 ≤ y) (hy : y < A.up.length) {Q : AV → Hp → Prop} (hq : Q (.int .i64 (impF A x y)) H) :
    ACalls Try.prog w0 90 [.agg [uv, tv], .int .i64 x, .int .i64 y] H Q := by
  refine quiet (.int .i64 (impF A x y)) rfl ?_ hq
  refine in90 ?_
  simp only [c90, ↓WP, WQ, if_true, if_false, eq_self, implies_true, ne_eq, List.nil_append, List.cons_append, ↓reduceIte, Nat.reduceEqDiff, Nat.reduceBEq, reduceCtorEq, Nat.reduceAdd, resA, ret1, qv, lv, ev, boolA, binA, intA, shiftA, cmpA, beqA, lres, cells_alg h.len hm.len]
  refine NewRowd_in fun r hr => ?_
  obtain ⟨hE, hu, hu1, hu2⟩ := box_facts (ty := 36) (uv := uv) (tv := tv) hr
  generalize H.set r ⟨36, true, [uv, tv]⟩ = G at *
  have h := h.ext hE
  have hT : Tab G tv A := ⟨hm.ext hE, hA.toSquare⟩
  have hn6 := hA.hi
  simp only [↓WP, WQ, if_true, if_false, eq_self, implies_true, ne_eq, List.nil_append, List.cons_append, ↓reduceIte, Nat.reduceEqDiff, Nat.reduceBEq, reduceCtorEq, Nat.reduceAdd, resA, ret1, qv, lv, ev, boolA, binA, intA, shiftA, cmpA, beqA, lres, hu1, h.len]
  refine W_for 0 A.up.length (fun z e H' => H' = G ∧ Sl e [(1, .int .i64 x), (2, .int .i64 y), (3, .ptr r 0), (7, .int .i64 (impS A x y z.toNat)), (11, .int .i64 A.up.length), (12, .int .i64 z)]) (by omega) ⟨rfl, by simp only [↓WP, WQ, if_true, if_false, eq_self, implies_true, ne_eq, List.nil_append, List.cons_append, ↓reduceIte, Nat.reduceEqDiff, Nat.reduceBEq, reduceCtorEq, Nat.reduceAdd, resA, ret1, qv, lv, ev, boolA, binA, intA, shiftA, cmpA, beqA, lres]; rfl⟩ ?_
  rintro z e H' hz0 hz1 ⟨rfl, hs⟩
  simp only [Sl_cons, Sl_nil, and_true] at hs
  have hw : IntKind.i64.wrap (z + 1) = z + 1 := wrap_id (by omega) (by omega)
  simp only [↓WP, WQ, if_true, if_false, eq_self, implies_true, ne_eq, List.nil_append, List.cons_append, ↓reduceIte, Nat.reduceEqDiff, Nat.reduceBEq, reduceCtorEq, Nat.reduceAdd, resA, ret1, qv, lv, ev, boolA, binA, intA, shiftA, cmpA, beqA, lres, hs]
  refine Br_dec (fun hz => ?_) (fun hz => ?_) <;> simp only [↓WP, WQ, if_true, if_false, eq_self, implies_true, ne_eq, List.nil_append, List.cons_append, ↓reduceIte, Nat.reduceEqDiff, Nat.reduceBEq, reduceCtorEq, Nat.reduceAdd, resA, ret1, qv, lv, ev, boolA, binA, intA, shiftA, cmpA, beqA, lres, hs, hz]
  · refine DR_in (fun _ => True) rfl ?_
    simp only [↓WP, WQ, if_true, if_false, eq_self, implies_true, ne_eq, List.nil_append, List.cons_append, ↓reduceIte, Nat.reduceEqDiff, Nat.reduceBEq, reduceCtorEq, Nat.reduceAdd, resA, ret1, qv, lv, ev, boolA, binA, intA, shiftA, cmpA, beqA, lres, hs, hu1, hu2, hT.idx hx0 hx, hT.at hx0 hx, hT.idx2 hx0 hx hz0 hz, hT.at2 hx0 hx hz0 hz]
    obtain ⟨t0, t1⟩ := hA.rng2 x z hx0 hx hz0 hz
    obtain ⟨i0, i1⟩ := impS_rng hA (x := x) (y := y) z.toNat (by omega)
    refine below_c h t0 t1 hy0 (fun hb => ?_) (fun hb => ?_) <;> simp only [↓WP, WQ, if_true, if_false, eq_self, implies_true, ne_eq, List.nil_append, List.cons_append, ↓reduceIte, Nat.reduceEqDiff, Nat.reduceBEq, reduceCtorEq, Nat.reduceAdd, resA, ret1, qv, lv, ev, boolA, binA, intA, shiftA, cmpA, beqA, lres, hs, hu1]
    · refine join_c h hn6 hA.rng i0 i1 hz0 hz ?_
      simp only [↓WP, WQ, if_true, if_false, eq_self, implies_true, ne_eq, List.nil_append, List.cons_append, ↓reduceIte, Nat.reduceEqDiff, Nat.reduceBEq, reduceCtorEq, Nat.reduceAdd, resA, ret1, qv, lv, ev, boolA, binA, intA, shiftA, cmpA, beqA, lres, hs, hw, hz, impS_yes hz0 hb]
    · simp only [↓WP, WQ, if_true, if_false, eq_self, implies_true, ne_eq, List.nil_append, List.cons_append, ↓reduceIte, Nat.reduceEqDiff, Nat.reduceBEq, reduceCtorEq, Nat.reduceAdd, resA, ret1, qv, lv, ev, boolA, binA, intA, shiftA, cmpA, beqA, lres, hs, hw, hz, impS_no hz0 hb]
  · have hze : z = A.up.length := by omega
    subst hze
    exact ⟨rfl, hE⟩

theorem simply_c {uv tv : AV} {A : Alg} {x y : Int} (h : Ints H uv A.up) (hm : Mat H tv A.times) (hA : IsAlg A) (hx0 : 0 ≤ x) (hx : x < A.up.length) (hy0 : 0 ≤ y) (hy : y < A.up.length) {Q : AV → Hp → Prop} (hq : Q (.int .i64 (impF A x y)) H) :
    ACalls Try.prog w0 124 [.agg [uv, tv], .int .i64 x, .int .i64 y] H Q := by
  refine quiet (.int .i64 (impF A x y)) rfl ?_ hq
  refine in124 ?_
  simp only [c124, ↓WP, WQ, if_true, if_false, eq_self, implies_true, ne_eq, List.nil_append, List.cons_append, ↓reduceIte, Nat.reduceEqDiff, Nat.reduceBEq, reduceCtorEq, Nat.reduceAdd, resA, ret1, qv, lv, ev, boolA, binA, intA, shiftA, cmpA, beqA, lres, cells_alg h.len hm.len]
  refine NewRowd_in fun r hr => ?_
  obtain ⟨hE, hu, hu1, hu2⟩ := box_facts (ty := 36) (uv := uv) (tv := tv) hr
  generalize H.set r ⟨36, true, [uv, tv]⟩ = G at *
  have h := h.ext hE
  have hT : Tab G tv A := ⟨hm.ext hE, hA.toSquare⟩
  have hn6 := hA.hi
  have hrr := rows62_of hA.hi hA.rng
  simp only [↓WP, WQ, if_true, if_false, eq_self, implies_true, ne_eq, List.nil_append, List.cons_append, ↓reduceIte, Nat.reduceEqDiff, Nat.reduceBEq, reduceCtorEq, Nat.reduceAdd, resA, ret1, qv, lv, ev, boolA, binA, intA, shiftA, cmpA, beqA, lres, hu1, h.len]
  refine W_for 0 A.up.length (fun z e H' => H' = G ∧ Sl e [(1, .int .i64 x), (2, .int .i64 y), (3, .ptr r 0), (7, .int .i64 (impS A x y z.toNat)), (8, .int .i64 z)]) (by omega) ⟨rfl, by simp only [↓WP, WQ, if_true, if_false, eq_self, implies_true, ne_eq, List.nil_append, List.cons_append, ↓reduceIte, Nat.reduceEqDiff, Nat.reduceBEq, reduceCtorEq, Nat.reduceAdd, resA, ret1, qv, lv, ev, boolA, binA, intA, shiftA, cmpA, beqA, lres]; rfl⟩ ?_
  rintro z e H' hz0 hz1 ⟨rfl, hs⟩
  simp only [Sl_cons, Sl_nil, and_true] at hs
  have hw : IntKind.i64.wrap (z + 1) = z + 1 := wrap_id (by omega) (by omega)
  simp only [↓WP, WQ, if_true, if_false, eq_self, implies_true, ne_eq, List.nil_append, List.cons_append, ↓reduceIte, Nat.reduceEqDiff, Nat.reduceBEq, reduceCtorEq, Nat.reduceAdd, resA, ret1, qv, lv, ev, boolA, binA, intA, shiftA, cmpA, beqA, lres, hs, hu1, h.len]
  refine Br_dec (fun hz => ?_) (fun hz => ?_) <;> simp only [↓WP, WQ, if_true, if_false, eq_self, implies_true, ne_eq, List.nil_append, List.cons_append, ↓reduceIte, Nat.reduceEqDiff, Nat.reduceBEq, reduceCtorEq, Nat.reduceAdd, resA, ret1, qv, lv, ev, boolA, binA, intA, shiftA, cmpA, beqA, lres, hs, hz]
  · refine DR_in (fun _ => True) rfl ?_
    simp only [↓WP, WQ, if_true, if_false, eq_self, implies_true, ne_eq, List.nil_append, List.cons_append, ↓reduceIte, Nat.reduceEqDiff, Nat.reduceBEq, reduceCtorEq, Nat.reduceAdd, resA, ret1, qv, lv, ev, boolA, binA, intA, shiftA, cmpA, beqA, lres, hs, hu1, hu2, hT.idx hx0 hx, hT.at hx0 hx, hT.idx2 hx0 hx hz0 hz, hT.at2 hx0 hx hz0 hz]
    obtain ⟨t0, t1⟩ := hA.rng2 x z hx0 hx hz0 hz
    obtain ⟨i0, i1⟩ := impS_rng hA (x := x) (y := y) z.toNat (by omega)
    refine sbelow_c h hrr t0 t1 hy0 (by omega) (fun hb => ?_) (fun hb => ?_) <;> simp only [↓WP, WQ, if_true, if_false, eq_self, implies_true, ne_eq, List.nil_append, List.cons_append, ↓reduceIte, Nat.reduceEqDiff, Nat.reduceBEq, reduceCtorEq, Nat.reduceAdd, resA, ret1, qv, lv, ev, boolA, binA, intA, shiftA, cmpA, beqA, lres, hs, hu1]
    · refine sjoin_c h hrr (by omega) i0 i1 hz0 hz ?_
      simp only [↓WP, WQ, if_true, if_false, eq_self, implies_true, ne_eq, List.nil_append, List.cons_append, ↓reduceIte, Nat.reduceEqDiff, Nat.reduceBEq, reduceCtorEq, Nat.reduceAdd, resA, ret1, qv, lv, ev, boolA, binA, intA, shiftA, cmpA, beqA, lres, hs, hw, hz, impS_yes hz0 hb]
    · simp only [↓WP, WQ, if_true, if_false, eq_self, implies_true, ne_eq, List.nil_append, List.cons_append, ↓reduceIte, Nat.reduceEqDiff, Nat.reduceBEq, reduceCtorEq, Nat.reduceAdd, resA, ret1, qv, lv, ev, boolA, binA, intA, shiftA, cmpA, beqA, lres, hs, hw, hz, impS_no hz0 hb]
  · have hze : z = A.up.length := by omega
    subst hze
    exact ⟨rfl, hE⟩
end Go.AL

/-
  The functions that answer about elements: implications, opposites, nearness, order.
-/
namespace Go.AL
open Go.Proofs
set_option linter.unusedSimpArgs false
set_option linter.unusedVariables false
variable {w0 : World} {H : Hp}

theorem ints_new {H : Hp} {r ty : Nat} (l : List Int) : Ints (H.set r ⟨ty, true, l.map (AV.int .i64)⟩) (.sl r 0 l.length) l := by
  refine ⟨rfl, ?_⟩
  simp only [Hp.row, Hp.set_same, Nat.mul_one, Nat.zero_add, List.length_map, Nat.le_refl, if_true, List.drop_zero]
  rw [List.take_of_length_le (by simp)]
theorem bsl1 (x : Int) : fillA 1 (zerosA [.int .i64 0] 1) [(0, .int .i64 x)] = some [.int .i64 x] := rfl
theorem bsl2 (x y : Int) : fillA 1 (zerosA [.int .i64 0] 2) [(0, .int .i64 x), (1, .int .i64 y)] = some [.int .i64 x, .int .i64 y] := rfl

/-- An algebra, and two of its elements. -/
def Has (A : Alg) (x y : Int) : Prop := IsAlg A ∧ (0 ≤ x ∧ x < A.up.length) ∧ (0 ≤ y ∧ y < A.up.length)

theorem ImplyOf_c {uv tv : AV} {A : Alg} {x y : Int} (h : Ints H uv A.up) (hm : Mat H tv A.times) (hS : Small A) {Q : AV → Hp → Prop} (ht : Has A x y → Q (.int .i64 (impF A x y)) H) (hf : ¬ Has A x y → Q (.int .i64 (-1)) H) :
    ACalls Try.prog w0 46 [.agg [uv, tv], .int .i64 x, .int .i64 y] H Q := by
  have key : ∀ b : Int, (Has A x y → b = impF A x y) → (¬ Has A x y → b = -1) → ACalls Try.prog w0 46 [.agg [uv, tv], .int .i64 x, .int .i64 y] H fun v' H' => v' = .int .i64 b ∧ Ext H H' := by
    intro b hb1 hb2
    refine in46 ?_
    simp only [c46, ↓WP, WQ, if_true, if_false, eq_self, implies_true, ne_eq, List.nil_append, List.cons_append, ↓reduceIte, Nat.reduceEqDiff, Nat.reduceBEq, reduceCtorEq, Nat.reduceAdd, resA, ret1, qv, lv, ev, boolA, binA, intA, shiftA, cmpA, beqA, lres, cells_alg h.len hm.len]
    refine NewRowd_in fun r hr => ?_
    obtain ⟨hE, hu, hu1, hu2⟩ := box_facts (ty := 36) (uv := uv) (tv := tv) hr
    generalize H.set r ⟨36, true, [uv, tv]⟩ = G at *
    simp only [↓WP, WQ, if_true, if_false, eq_self, implies_true, ne_eq, List.nil_append, List.cons_append, ↓reduceIte, Nat.reduceEqDiff, Nat.reduceBEq, reduceCtorEq, Nat.reduceAdd, resA, ret1, qv, lv, ev, boolA, binA, intA, shiftA, cmpA, beqA, lres, hu, bsl2]
    refine NewRowd_in fun r2 hr2 => ?_
    have hE2 : Ext G (G.set r2 ⟨3, true, [.int .i64 x, .int .i64 y]⟩) := Ext.set hr2
    have hl : Ints (G.set r2 ⟨3, true, [.int .i64 x, .int .i64 y]⟩) (.sl r2 0 2) [x, y] := ints_new [x, y]
    have hu := hE2.atN hu
    have hE := hE.trans hE2
    generalize G.set r2 ⟨3, true, [.int .i64 x, .int .i64 y]⟩ = G2 at *
    have h := h.ext hE
    have hm := hm.ext hE
    simp only [↓WP, WQ, if_true, if_false, eq_self, implies_true, ne_eq, List.nil_append, List.cons_append, ↓reduceIte, Nat.reduceEqDiff, Nat.reduceBEq, reduceCtorEq, Nat.reduceAdd, resA, ret1, qv, lv, ev, boolA, binA, intA, shiftA, cmpA, beqA, lres, hu]
    refine at_c h hm hS hl (by simp) (fun ha hi => ?_) (fun ha => ?_) <;> simp only [↓WP, WQ, if_true, if_false, eq_self, implies_true, ne_eq, List.nil_append, List.cons_append, ↓reduceIte, Nat.reduceEqDiff, Nat.reduceBEq, reduceCtorEq, Nat.reduceAdd, resA, ret1, qv, lv, ev, boolA, binA, intA, shiftA, cmpA, beqA, lres, hu]
    · have h0 := hi 0 (by omega) (by simp)
      have h1 := hi 1 (by omega) (by simp)
      simp at h0 h1
      refine imply_c h hm ha h0.1 h0.2 h1.1 h1.2 ?_
      simp only [↓WP, WQ, if_true, if_false, eq_self, implies_true, ne_eq, List.nil_append, List.cons_append, ↓reduceIte, Nat.reduceEqDiff, Nat.reduceBEq, reduceCtorEq, Nat.reduceAdd, resA, ret1, qv, lv, ev, boolA, binA, intA, shiftA, cmpA, beqA, lres, hb1 ⟨ha, h0, h1⟩]
      exact hE
    · have hn : ¬ Has A x y := fun hh => ha ⟨hh.1, fun i h0 h1 => by
        have : i = 0 ∨ i = 1 := by simp at h1; omega
        rcases this with rfl | rfl
        · exact hh.2.1
        · exact hh.2.2⟩
      rw [hb2 hn]; exact ⟨rfl, hE⟩
  by_cases hc : Has A x y
  · exact quiet (.int .i64 (impF A x y)) rfl (key _ (fun _ => rfl) (fun hn => absurd hc hn)) (ht hc)
  · exact quiet (.int .i64 (-1)) rfl (key _ (fun hn => absurd hn hc) (fun _ => rfl)) (hf hc)
end Go.AL

/-
  The functions that answer about elements of a lattice.
-/
namespace Go.AL
open Go.Proofs
set_option linter.unusedSimpArgs false
set_option linter.unusedVariables false
variable {w0 : World} {H : Hp}

theorem cells_sl {v : AV} {n : Nat} (h : lenA v = some n) : v.cells? = some [v] := by
  cases v <;> simp [lenA] at h <;> rfl

/-- A lattice, and two of its elements. -/
def LHas (up : List Int) (x y : Int) : Prop := IsLat up ∧ (0 ≤ x ∧ x < up.length) ∧ (0 ≤ y ∧ y < up.length)

theorem two_list {x y n : Int} (h : ∀ i : Int, 0 ≤ i → i < ([x, y] : List Int).length → 0 ≤ [x, y].getD i.toNat 0 ∧ [x, y].getD i.toNat 0 < n) : (0 ≤ x ∧ x < n) ∧ (0 ≤ y ∧ y < n) := by
  have h0 := h 0 (by omega) (by simp)
  have h1 := h 1 (by omega) (by simp)
  simp at h0 h1
  exact ⟨h0, h1⟩
theorem two_list' {x y n : Int} (h : (0 ≤ x ∧ x < n) ∧ (0 ≤ y ∧ y < n)) : ∀ i : Int, 0 ≤ i → i < ([x, y] : List Int).length → 0 ≤ [x, y].getD i.toNat 0 ∧ [x, y].getD i.toNat 0 < n := by
  intro i h0 h1
  have : i = 0 ∨ i = 1 := by simp at h1; omega
  rcases this with rfl | rfl
  · exact h.1
  · exact h.2

end Go.AL

/-
  Nearness and opposites.
-/
namespace Go.AL
open Go.Proofs
set_option linter.unusedSimpArgs false
set_option linter.unusedVariables false
variable {w0 : World} {H : Hp}

/-- How near two elements are. -/
noncomputable def nearF (A : Alg) (x y : Int) : Int := A.tm (impF A x y) (impF A y x)

theorem near_c {uv tv : AV} {A : Alg} {x y : Int} (h : Ints H uv A.up) (hm : Mat H tv A.times) (hA : IsAlg A) (hx0 : 0 ≤ x) (hx : x < A.up.length) (hy0 : 0 ≤ y) (hy : y < A.up.length) {Q : AV → Hp → Prop} (hq : Q (.int .i64 (nearF A x y)) H) :
    ACalls Try.prog w0 142 [.agg [uv, tv], .int .i64 x, .int .i64 y] H Q := by
  refine quiet (.int .i64 (nearF A x y)) rfl ?_ hq
  refine in142 ?_
  simp only [c142, ↓WP, WQ, if_true, if_false, eq_self, implies_true, ne_eq, List.nil_append, List.cons_append, ↓reduceIte, Nat.reduceEqDiff, Nat.reduceBEq, reduceCtorEq, Nat.reduceAdd, resA, ret1, qv, lv, ev, boolA, binA, intA, shiftA, cmpA, beqA, lres, cells_alg h.len hm.len]
  refine NewRowd_in fun r hr => ?_
  obtain ⟨hE, hu, hu1, hu2⟩ := box_facts (ty := 36) (uv := uv) (tv := tv) hr
  generalize H.set r ⟨36, true, [uv, tv]⟩ = G at *
  have h := h.ext hE
  have hm := hm.ext hE
  have hT : Tab G tv A := ⟨hm, hA.toSquare⟩
  obtain ⟨i0, i1⟩ := impF_rng hA x y
  obtain ⟨j0, j1⟩ := impF_rng hA y x
  simp only [↓WP, WQ, if_true, if_false, eq_self, implies_true, ne_eq, List.nil_append, List.cons_append, ↓reduceIte, Nat.reduceEqDiff, Nat.reduceBEq, reduceCtorEq, Nat.reduceAdd, resA, ret1, qv, lv, ev, boolA, binA, intA, shiftA, cmpA, beqA, lres]
  refine DR_in (fun _ => True) rfl ?_
  simp only [↓WP, WQ, if_true, if_false, eq_self, implies_true, ne_eq, List.nil_append, List.cons_append, ↓reduceIte, Nat.reduceEqDiff, Nat.reduceBEq, reduceCtorEq, Nat.reduceAdd, resA, ret1, qv, lv, ev, boolA, binA, intA, shiftA, cmpA, beqA, lres, hu, hu2]
  refine imply_c h hm hA hx0 hx hy0 hy ?_
  simp only [↓WP, WQ, if_true, if_false, eq_self, implies_true, ne_eq, List.nil_append, List.cons_append, ↓reduceIte, Nat.reduceEqDiff, Nat.reduceBEq, reduceCtorEq, Nat.reduceAdd, resA, ret1, qv, lv, ev, boolA, binA, intA, shiftA, cmpA, beqA, lres, hu, hT.idx i0 i1, hT.at i0 i1]
  refine imply_c h hm hA hy0 hy hx0 hx ?_
  simp only [↓WP, WQ, if_true, if_false, eq_self, implies_true, ne_eq, List.nil_append, List.cons_append, ↓reduceIte, Nat.reduceEqDiff, Nat.reduceBEq, reduceCtorEq, Nat.reduceAdd, resA, ret1, qv, lv, ev, boolA, binA, intA, shiftA, cmpA, beqA, lres, hT.idx2 i0 i1 j0 j1, hT.at2 i0 i1 j0 j1]
  exact ⟨rfl, hE⟩

theorem snear_c {uv tv : AV} {A : Alg} {x y : Int} (h : Ints H uv A.up) (hm : Mat H tv A.times) (hA : IsAlg A) (hx0 : 0 ≤ x) (hx : x < A.up.length) (hy0 : 0 ≤ y) (hy : y < A.up.length) {Q : AV → Hp → Prop} (hq : Q (.int .i64 (nearF A x y)) H) :
    ACalls Try.prog w0 172 [.agg [uv, tv], .int .i64 x, .int .i64 y] H Q := by
  refine quiet (.int .i64 (nearF A x y)) rfl ?_ hq
  refine in172 ?_
  simp only [c172, ↓WP, WQ, if_true, if_false, eq_self, implies_true, ne_eq, List.nil_append, List.cons_append, ↓reduceIte, Nat.reduceEqDiff, Nat.reduceBEq, reduceCtorEq, Nat.reduceAdd, resA, ret1, qv, lv, ev, boolA, binA, intA, shiftA, cmpA, beqA, lres, cells_alg h.len hm.len]
  refine NewRowd_in fun r hr => ?_
  obtain ⟨hE, hu, hu1, hu2⟩ := box_facts (ty := 36) (uv := uv) (tv := tv) hr
  generalize H.set r ⟨36, true, [uv, tv]⟩ = G at *
  have h := h.ext hE
  have hm := hm.ext hE
  have hT : Tab G tv A := ⟨hm, hA.toSquare⟩
  obtain ⟨i0, i1⟩ := impF_rng hA x y
  obtain ⟨j0, j1⟩ := impF_rng hA y x
  simp only [↓WP, WQ, if_true, if_false, eq_self, implies_true, ne_eq, List.nil_append, List.cons_append, ↓reduceIte, Nat.reduceEqDiff, Nat.reduceBEq, reduceCtorEq, Nat.reduceAdd, resA, ret1, qv, lv, ev, boolA, binA, intA, shiftA, cmpA, beqA, lres]
  refine DR_in (fun _ => True) rfl ?_
  simp only [↓WP, WQ, if_true, if_false, eq_self, implies_true, ne_eq, List.nil_append, List.cons_append, ↓reduceIte, Nat.reduceEqDiff, Nat.reduceBEq, reduceCtorEq, Nat.reduceAdd, resA, ret1, qv, lv, ev, boolA, binA, intA, shiftA, cmpA, beqA, lres, hu, hu2]
  refine simply_c h hm hA hx0 hx hy0 hy ?_
  simp only [↓WP, WQ, if_true, if_false, eq_self, implies_true, ne_eq, List.nil_append, List.cons_append, ↓reduceIte, Nat.reduceEqDiff, Nat.reduceBEq, reduceCtorEq, Nat.reduceAdd, resA, ret1, qv, lv, ev, boolA, binA, intA, shiftA, cmpA, beqA, lres, hu, hT.idx i0 i1, hT.at i0 i1]
  refine simply_c h hm hA hy0 hy hx0 hx ?_
  simp only [↓WP, WQ, if_true, if_false, eq_self, implies_true, ne_eq, List.nil_append, List.cons_append, ↓reduceIte, Nat.reduceEqDiff, Nat.reduceBEq, reduceCtorEq, Nat.reduceAdd, resA, ret1, qv, lv, ev, boolA, binA, intA, shiftA, cmpA, beqA, lres, hT.idx2 i0 i1 j0 j1, hT.at2 i0 i1 j0 j1]
  exact ⟨rfl, hE⟩

end Go.AL

/-
  Opposites, and joins of the program.
-/
namespace Go.AL
open Go.Proofs
set_option linter.unusedSimpArgs false
set_option linter.unusedVariables false
variable {w0 : World} {H : Hp}

theorem not_c {uv tv : AV} {A : Alg} {x : Int} (h : Ints H uv A.up) (hm : Mat H tv A.times) (hA : IsAlg A) (hx0 : 0 ≤ x) (hx : x < A.up.length) {Q : AV → Hp → Prop} (hq : Q (.int .i64 (impF A x 0)) H) :
    ACalls Try.prog w0 158 [.agg [uv, tv], .int .i64 x] H Q := by
  refine quiet (.int .i64 (impF A x 0)) rfl ?_ hq
  refine in158 ?_
  simp only [c158, ↓WP, WQ, if_true, if_false, eq_self, implies_true, ne_eq, List.nil_append, List.cons_append, ↓reduceIte, Nat.reduceEqDiff, Nat.reduceBEq, reduceCtorEq, Nat.reduceAdd, resA, ret1, qv, lv, ev, boolA, binA, intA, shiftA, cmpA, beqA, lres, cells_alg h.len hm.len]
  refine NewRowd_in fun r hr => ?_
  obtain ⟨hE, hu, hu1, hu2⟩ := box_facts (ty := 36) (uv := uv) (tv := tv) hr
  generalize H.set r ⟨36, true, [uv, tv]⟩ = G at *
  have hlo := hA.lo
  simp only [↓WP, WQ, if_true, if_false, eq_self, implies_true, ne_eq, List.nil_append, List.cons_append, ↓reduceIte, Nat.reduceEqDiff, Nat.reduceBEq, reduceCtorEq, Nat.reduceAdd, resA, ret1, qv, lv, ev, boolA, binA, intA, shiftA, cmpA, beqA, lres, hu]
  refine imply_c (h.ext hE) (hm.ext hE) hA hx0 hx (Int.le_refl 0) (by omega) ?_
  simp only [↓WP, WQ, if_true, if_false, eq_self, implies_true, ne_eq, List.nil_append, List.cons_append, ↓reduceIte, Nat.reduceEqDiff, Nat.reduceBEq, reduceCtorEq, Nat.reduceAdd, resA, ret1, qv, lv, ev, boolA, binA, intA, shiftA, cmpA, beqA, lres]
  exact hE

end Go.AL

/-
  Powers.
-/
namespace Go.AL
open Go.Proofs
set_option linter.unusedSimpArgs false
set_option linter.unusedVariables false
variable {w0 : World} {H : Hp}

/-- The power of an element. -/
def powF (A : Alg) (x : Int) : Nat → Int
  | 0 => A.up.length - 1
  | m + 1 => A.tm (powF A x m) x
theorem powF_succ {A : Alg} {x z : Int} (h : 0 ≤ z) : powF A x (z + 1).toNat = A.tm (powF A x z.toNat) x := by
  rw [show (z + 1).toNat = z.toNat + 1 by omega, powF]
theorem powF_rng {A : Alg} (hA : IsAlg A) {x : Int} (hx0 : 0 ≤ x) (hx : x < A.up.length) : ∀ m : Nat, 0 ≤ powF A x m ∧ powF A x m < A.up.length
  | 0 => by have := hA.lo; simp only [powF]; omega
  | m + 1 => by have h := powF_rng hA hx0 hx m; exact hA.rng2 _ _ h.1 h.2 hx0 hx

theorem ipower_c {uv tv : AV} {A : Alg} {x k : Int} (h : Ints H uv A.up) (hm : Mat H tv A.times) (hA : IsAlg A) (hx0 : 0 ≤ x) (hx : x < A.up.length) (hk : k < 4611686018427387904) (hk0 : 0 ≤ k) {Q : AV → Hp → Prop} (hq : Q (.int .i64 (powF A x k.toNat)) H) :
    ACalls Try.prog w0 97 [.agg [uv, tv], .int .i64 x, .int .i64 k] H Q := by
  refine quiet (.int .i64 (powF A x k.toNat)) rfl ?_ hq
  refine in97 ?_
  simp only [c97, ↓WP, WQ, if_true, if_false, eq_self, implies_true, ne_eq, List.nil_append, List.cons_append, ↓reduceIte, Nat.reduceEqDiff, Nat.reduceBEq, reduceCtorEq, Nat.reduceAdd, resA, ret1, qv, lv, ev, boolA, binA, intA, shiftA, cmpA, beqA, lres, cells_alg h.len hm.len]
  refine NewRowd_in fun r hr => ?_
  obtain ⟨hE, hu, hu1, hu2⟩ := box_facts (ty := 36) (uv := uv) (tv := tv) hr
  generalize H.set r ⟨36, true, [uv, tv]⟩ = G at *
  have h := h.ext hE
  have hT : Tab G tv A := ⟨hm.ext hE, hA.toSquare⟩
  have hn6 := hA.hi
  have hn1 := hA.lo
  have hwl : IntKind.i64.wrap ((A.up.length : Int) - 1) = A.up.length - 1 := wrap_id (by omega) (by omega)
  simp only [↓WP, WQ, if_true, if_false, eq_self, implies_true, ne_eq, List.nil_append, List.cons_append, ↓reduceIte, Nat.reduceEqDiff, Nat.reduceBEq, reduceCtorEq, Nat.reduceAdd, resA, ret1, qv, lv, ev, boolA, binA, intA, shiftA, cmpA, beqA, lres, hu1, h.len, hwl]
  refine W_for 0 k (fun z e H' => H' = G ∧ Sl e [(1, .int .i64 x), (2, .int .i64 (k - z)), (3, .ptr r 0), (7, .int .i64 (powF A x z.toNat))]) hk0 ⟨rfl, by simp only [↓WP, WQ, if_true, if_false, eq_self, implies_true, ne_eq, List.nil_append, List.cons_append, ↓reduceIte, Nat.reduceEqDiff, Nat.reduceBEq, reduceCtorEq, Nat.reduceAdd, resA, ret1, qv, lv, ev, boolA, binA, intA, shiftA, cmpA, beqA, lres, Int.sub_zero]; rfl⟩ ?_
  rintro z e H' hz0 hz1 ⟨rfl, hs⟩
  simp only [Sl_cons, Sl_nil, and_true] at hs
  have hw : IntKind.i64.wrap (k - z - 1) = k - (z + 1) := by rw [wrap_id (by omega) (by omega)]; omega
  obtain ⟨p0, p1⟩ := powF_rng hA hx0 hx z.toNat
  have hp := powF_succ (A := A) (x := x) hz0
  simp only [↓WP, WQ, if_true, if_false, eq_self, implies_true, ne_eq, List.nil_append, List.cons_append, ↓reduceIte, Nat.reduceEqDiff, Nat.reduceBEq, reduceCtorEq, Nat.reduceAdd, resA, ret1, qv, lv, ev, boolA, binA, intA, shiftA, cmpA, beqA, lres, hs]
  refine (Classical.em (0 < k - z)).elim (fun hz => ?_) (fun hz => ?_)
  · have hz' : z < k := by omega
    simp only [↓WP, WQ, if_true, if_false, eq_self, implies_true, ne_eq, List.nil_append, List.cons_append, ↓reduceIte, Nat.reduceEqDiff, Nat.reduceBEq, reduceCtorEq, Nat.reduceAdd, resA, ret1, qv, lv, ev, boolA, binA, intA, shiftA, cmpA, beqA, lres, hs, hz, hz', hu1, hu2, hT.idx p0 p1, hT.at p0 p1, hT.idx2 p0 p1 hx0 hx, hT.at2 p0 p1 hx0 hx, hw, hp]
  · have hze : z = k := by omega
    subst hze
    simp only [↓WP, WQ, if_true, if_false, eq_self, implies_true, ne_eq, List.nil_append, List.cons_append, ↓reduceIte, Nat.reduceEqDiff, Nat.reduceBEq, reduceCtorEq, Nat.reduceAdd, resA, ret1, qv, lv, ev, boolA, binA, intA, shiftA, cmpA, beqA, lres, hs, hz]
    exact hE

theorem spow_c {uv tv : AV} {A : Alg} {x k : Int} (h : Ints H uv A.up) (hm : Mat H tv A.times) (hA : IsAlg A) (hx0 : 0 ≤ x) (hx : x < A.up.length) (hk : k < 4611686018427387904) (hk0 : 0 ≤ k) {Q : AV → Hp → Prop} (hq : Q (.int .i64 (powF A x k.toNat)) H) :
    ACalls Try.prog w0 94 [.agg [uv, tv], .int .i64 x, .int .i64 k] H Q := by
  refine quiet (.int .i64 (powF A x k.toNat)) rfl ?_ hq
  refine in94 ?_
  simp only [c94, ↓WP, WQ, if_true, if_false, eq_self, implies_true, ne_eq, List.nil_append, List.cons_append, ↓reduceIte, Nat.reduceEqDiff, Nat.reduceBEq, reduceCtorEq, Nat.reduceAdd, resA, ret1, qv, lv, ev, boolA, binA, intA, shiftA, cmpA, beqA, lres, cells_alg h.len hm.len]
  refine NewRowd_in fun r hr => ?_
  obtain ⟨hE, hu, hu1, hu2⟩ := box_facts (ty := 36) (uv := uv) (tv := tv) hr
  generalize H.set r ⟨36, true, [uv, tv]⟩ = G at *
  have h := h.ext hE
  have hT : Tab G tv A := ⟨hm.ext hE, hA.toSquare⟩
  have hn6 := hA.hi
  have hn1 := hA.lo
  have hwl : IntKind.i64.wrap ((A.up.length : Int) - 1) = A.up.length - 1 := wrap_id (by omega) (by omega)
  simp only [↓WP, WQ, if_true, if_false, eq_self, implies_true, ne_eq, List.nil_append, List.cons_append, ↓reduceIte, Nat.reduceEqDiff, Nat.reduceBEq, reduceCtorEq, Nat.reduceAdd, resA, ret1, qv, lv, ev, boolA, binA, intA, shiftA, cmpA, beqA, lres, hu1, h.len, hwl]
  refine W_for 0 k (fun z e H' => H' = G ∧ Sl e [(1, .int .i64 x), (2, .int .i64 (k - z)), (3, .ptr r 0), (7, .int .i64 (powF A x z.toNat))]) hk0 ⟨rfl, by simp only [↓WP, WQ, if_true, if_false, eq_self, implies_true, ne_eq, List.nil_append, List.cons_append, ↓reduceIte, Nat.reduceEqDiff, Nat.reduceBEq, reduceCtorEq, Nat.reduceAdd, resA, ret1, qv, lv, ev, boolA, binA, intA, shiftA, cmpA, beqA, lres, Int.sub_zero]; rfl⟩ ?_
  rintro z e H' hz0 hz1 ⟨rfl, hs⟩
  simp only [Sl_cons, Sl_nil, and_true] at hs
  have hw : IntKind.i64.wrap (k - z - 1) = k - (z + 1) := by rw [wrap_id (by omega) (by omega)]; omega
  obtain ⟨p0, p1⟩ := powF_rng hA hx0 hx z.toNat
  have hp := powF_succ (A := A) (x := x) hz0
  simp only [↓WP, WQ, if_true, if_false, eq_self, implies_true, ne_eq, List.nil_append, List.cons_append, ↓reduceIte, Nat.reduceEqDiff, Nat.reduceBEq, reduceCtorEq, Nat.reduceAdd, resA, ret1, qv, lv, ev, boolA, binA, intA, shiftA, cmpA, beqA, lres, hs]
  refine (Classical.em (0 < k - z)).elim (fun hz => ?_) (fun hz => ?_)
  · have hz' : z < k := by omega
    simp only [↓WP, WQ, if_true, if_false, eq_self, implies_true, ne_eq, List.nil_append, List.cons_append, ↓reduceIte, Nat.reduceEqDiff, Nat.reduceBEq, reduceCtorEq, Nat.reduceAdd, resA, ret1, qv, lv, ev, boolA, binA, intA, shiftA, cmpA, beqA, lres, hs, hz, hz', hu1, hu2, hT.idx p0 p1, hT.at p0 p1, hT.idx2 p0 p1 hx0 hx, hT.at2 p0 p1 hx0 hx, hw, hp]
  · have hze : z = k := by omega
    subst hze
    simp only [↓WP, WQ, if_true, if_false, eq_self, implies_true, ne_eq, List.nil_append, List.cons_append, ↓reduceIte, Nat.reduceEqDiff, Nat.reduceBEq, reduceCtorEq, Nat.reduceAdd, resA, ret1, qv, lv, ev, boolA, binA, intA, shiftA, cmpA, beqA, lres, hs, hz]
    exact hE
end Go.AL

/-
  PowerOf of the program.
-/
namespace Go.AL
open Go.Proofs
set_option linter.unusedSimpArgs false
set_option linter.unusedVariables false
variable {w0 : World} {H : Hp}

theorem one_list {x n : Int} (h : ∀ i : Int, 0 ≤ i → i < ([x] : List Int).length → 0 ≤ [x].getD i.toNat 0 ∧ [x].getD i.toNat 0 < n) : 0 ≤ x ∧ x < n := by
  have h0 := h 0 (by omega) (by simp)
  simpa using h0
theorem one_list' {x n : Int} (h : 0 ≤ x ∧ x < n) : ∀ i : Int, 0 ≤ i → i < ([x] : List Int).length → 0 ≤ [x].getD i.toNat 0 ∧ [x].getD i.toNat 0 < n := by
  intro i h0 h1
  have : i = 0 := by simp at h1; omega
  subst this
  exact h

/-- An algebra, an element and a number of at most 20. -/
def PHas (A : Alg) (x k : Int) : Prop := IsAlg A ∧ (0 ≤ x ∧ x < A.up.length) ∧ (0 ≤ k ∧ k ≤ 20)

end Go.AL

/-
  DepthOf, of the program and of the reference.
-/
namespace Go.AL
open Go.Proofs
set_option linter.unusedSimpArgs false
set_option linter.unusedVariables false
variable {w0 : World} {H : Hp}

/-- The first of N powers that is the least element, and whether there is one. -/
noncomputable def depV (A : Alg) (x N : Int) : AV :=
  open Classical in if IsAlg A ∧ (0 ≤ x ∧ x < A.up.length) ∧ 0 ≤ firstI N (fun k => powF A x k.toNat = 0) then .tup [.int .i64 (firstI N (fun k => powF A x k.toNat = 0)), .bool true] else .tup [.int .i64 0, .bool false]
theorem depV_pure (A : Alg) (x N : Int) : (depV A x N).pure = true := by unfold depV; split <;> rfl
theorem depV_yes {A : Alg} {x N z : Int} (ha : IsAlg A) (h0 : 0 ≤ x ∧ x < A.up.length) (hz0 : 0 ≤ z) (hz : z < N) (hp : powF A x z.toNat = 0) (hno : allI z fun k => ¬ powF A x k.toNat = 0) : depV A x N = .tup [.int .i64 z, .bool true] := by
  have h1 : firstI N (fun k => powF A x k.toNat = 0) = z := firstI_eq hz0 hz hp hno
  unfold depV; rw [h1, if_pos ⟨ha, h0, hz0⟩]
theorem depV_none {A : Alg} {x N : Int} (ha : IsAlg A) (h0 : 0 ≤ x ∧ x < A.up.length) (hno : allI N fun k => ¬ powF A x k.toNat = 0) : depV A x N = .tup [.int .i64 0, .bool false] := by
  have h1 : firstI N (fun k => powF A x k.toNat = 0) = -1 := firstI_none hno
  unfold depV; rw [h1, if_neg]; intro h; omega
theorem depV_not {A : Alg} {x N : Int} (h : ¬ (IsAlg A ∧ (0 ≤ x ∧ x < A.up.length))) : depV A x N = .tup [.int .i64 0, .bool false] := by
  unfold depV; rw [if_neg]; exact fun hh => h ⟨hh.1, hh.2.1⟩

end Go.AL

/-
  The small functions of the laws: powers of two, bits, lists.
-/
namespace Go.AL
open Go.Proofs
set_option linter.unusedSimpArgs false
set_option linter.unusedVariables false
variable {w0 : World} {H : Hp}

theorem lpower_c (n : Int) (hn : n ≤ 62) {Q : AV → Hp → Prop} (hq : Q (.int .i64 (2 ^ n.toNat)) H) : ACalls Try.prog w0 18 [.int .i64 n] H Q := by
  refine in18 ?_
  simp only [c18, ↓WP, WQ, if_true, if_false, eq_self, implies_true, ne_eq, List.nil_append, List.cons_append, ↓reduceIte, Nat.reduceEqDiff, Nat.reduceBEq, reduceCtorEq, Nat.reduceAdd, resA, ret1, qv, lv, ev, boolA, binA, intA, shiftA, cmpA, beqA, lres]
  refine W_loop (fun m e H' => H' = H ∧ ∃ k : Int, m = k.toNat ∧ e 0 = .int .i64 k ∧ k ≤ n ∧ (n < 0 → k < 0) ∧ e 3 = .int .i64 (2 ^ (n.toNat - m))) n.toNat ?_ ?_
  · exact ⟨rfl, n, rfl, rfl, by omega, by omega, by simp [upd_apply]⟩
  · rintro m e H' ⟨rfl, k, rfl, h0, hk, hk', h3⟩
    simp only [↓WP, WQ, if_true, if_false, eq_self, implies_true, ne_eq, List.nil_append, List.cons_append, ↓reduceIte, Nat.reduceEqDiff, Nat.reduceBEq, reduceCtorEq, Nat.reduceAdd, resA, ret1, qv, lv, ev, boolA, binA, intA, shiftA, cmpA, beqA, lres, h0, h3]
    refine Br_dec (fun h1 => ?_) (fun h1 => ?_) <;> simp only [↓WP, WQ, if_true, if_false, eq_self, implies_true, ne_eq, List.nil_append, List.cons_append, ↓reduceIte, Nat.reduceEqDiff, Nat.reduceBEq, reduceCtorEq, Nat.reduceAdd, resA, ret1, qv, lv, ev, boolA, binA, intA, shiftA, cmpA, beqA, lres, h0, h3]
    · have hb : (2 : Int) ^ (n.toNat - k.toNat) ≤ 2 ^ 61 := by exact_mod_cast Nat.pow_le_pow_right (by omega) (by omega)
      have hb0 : (0 : Int) < 2 ^ (n.toNat - k.toNat) := by exact_mod_cast Nat.pow_pos (by omega)
      rw [wrap_id (by omega) (by omega), wrap_id (by omega) (by omega)]
      refine ⟨_, by omega, k - 1, rfl, rfl, by omega, by omega, ?_⟩
      congr 1
      rw [show n.toNat - (k - 1).toNat = (n.toNat - k.toNat) + 1 by omega, Int.pow_succ]; omega
    · have : k.toNat = 0 := by omega
      simpa [this] using hq

theorem isIn_c {v : AV} {l : List Int} {n : Int} (h : Ints H v l) (hn : l.length < 4611686018427387904) {Q : AV → Hp → Prop} (ht : ∀ i : Int, 0 ≤ i → i < l.length → l.getD i.toNat 0 = n → Q (.bool true) H) (hf : (∀ i : Int, 0 ≤ i → i < l.length → l.getD i.toNat 0 ≠ n) → Q (.bool false) H) :
    ACalls Try.prog w0 54 [v, .int .i64 n] H Q := by
  refine in54 ?_
  simp only [c54, ↓WP, WQ, if_true, if_false, eq_self, implies_true, ne_eq, List.nil_append, List.cons_append, ↓reduceIte, Nat.reduceEqDiff, Nat.reduceBEq, reduceCtorEq, Nat.reduceAdd, resA, ret1, qv, lv, ev, boolA, binA, intA, shiftA, cmpA, beqA, lres]
  refine W_for 0 l.length (fun z e H' => H' = H ∧ Sl e [(0, v), (1, .int .i64 n), (5, .int .i64 z)] ∧ allI z fun i => l.getD i.toNat 0 ≠ n) (by omega) ⟨rfl, by simp only [↓WP, WQ, if_true, if_false, eq_self, implies_true, ne_eq, List.nil_append, List.cons_append, ↓reduceIte, Nat.reduceEqDiff, Nat.reduceBEq, reduceCtorEq, Nat.reduceAdd, resA, ret1, qv, lv, ev, boolA, binA, intA, shiftA, cmpA, beqA, lres], allI_zero⟩ ?_
  rintro z e H' hz0 hzn ⟨rfl, hs, hno⟩
  simp only [Sl_cons, Sl_nil, and_true] at hs
  have hw : IntKind.i64.wrap (z + 1) = z + 1 := wrap_id (by omega) (by omega)
  simp only [↓WP, WQ, if_true, if_false, eq_self, implies_true, ne_eq, List.nil_append, List.cons_append, ↓reduceIte, Nat.reduceEqDiff, Nat.reduceBEq, reduceCtorEq, Nat.reduceAdd, resA, ret1, qv, lv, ev, boolA, binA, intA, shiftA, cmpA, beqA, lres, hs, h.len]
  refine Br_dec (fun hz => ?_) (fun hz => ?_) <;> simp only [↓WP, WQ, if_true, if_false, eq_self, implies_true, ne_eq, List.nil_append, List.cons_append, ↓reduceIte, Nat.reduceEqDiff, Nat.reduceBEq, reduceCtorEq, Nat.reduceAdd, resA, ret1, qv, lv, ev, boolA, binA, intA, shiftA, cmpA, beqA, lres, hs, hz]
  · refine (Classical.em (l.getD z.toNat 0 = n)).elim (fun ha => ?_) (fun ha => ?_)
    · simp only [↓WP, WQ, if_true, if_false, eq_self, implies_true, ne_eq, List.nil_append, List.cons_append, ↓reduceIte, Nat.reduceEqDiff, Nat.reduceBEq, reduceCtorEq, Nat.reduceAdd, resA, ret1, qv, lv, ev, boolA, binA, intA, shiftA, cmpA, beqA, lres, hs, hz, h.idx hz0 hz, h.at (show z.toNat < l.length by omega), decide_eq_true ha]
      exact ht z hz0 hz ha
    · simp only [↓WP, WQ, if_true, if_false, eq_self, implies_true, ne_eq, List.nil_append, List.cons_append, ↓reduceIte, Nat.reduceEqDiff, Nat.reduceBEq, reduceCtorEq, Nat.reduceAdd, resA, ret1, qv, lv, ev, boolA, binA, intA, shiftA, cmpA, beqA, lres, hs, hz, h.idx hz0 hz, h.at (show z.toNat < l.length by omega), decide_eq_false ha, hw]
      exact (allI_succ hz0).2 ⟨hno, ha⟩
  · exact hf fun i h0 h1 => hno i h0 (by omega)

theorem list_ext {a b : List Int} (hl : a.length = b.length) (h : ∀ i : Int, 0 ≤ i → i < a.length → a.getD i.toNat 0 = b.getD i.toNat 0) : a = b := by
  apply List.ext_getElem hl
  intro i h1 h2
  have := h i (by omega) (by omega)
  simpa [h1, h2] using this

theorem equalInts_c {v w : AV} {a b : List Int} (h : Ints H v a) (g : Ints H w b) (hn : a.length < 4611686018427387904) (hn' : b.length < 4611686018427387904) {Q : AV → Hp → Prop} (ht : a = b → Q (.bool true) H) (hf : a ≠ b → Q (.bool false) H) :
    ACalls Try.prog w0 51 [v, w] H Q := by
  refine in51 ?_
  refine (Classical.em ((a.length : Int) = b.length)).elim (fun hl => ?_) (fun hl => ?_)
  rotate_left
  · simp only [c51, ↓WP, WQ, if_true, if_false, eq_self, implies_true, ne_eq, List.nil_append, List.cons_append, ↓reduceIte, Nat.reduceEqDiff, Nat.reduceBEq, reduceCtorEq, Nat.reduceAdd, resA, ret1, qv, lv, ev, boolA, binA, intA, shiftA, cmpA, beqA, lres, h.len, g.len, decide_eq_false hl]
    exact hf fun hab => hl (by rw [hab])
  simp only [c51, ↓WP, WQ, if_true, if_false, eq_self, implies_true, ne_eq, List.nil_append, List.cons_append, ↓reduceIte, Nat.reduceEqDiff, Nat.reduceBEq, reduceCtorEq, Nat.reduceAdd, resA, ret1, qv, lv, ev, boolA, binA, intA, shiftA, cmpA, beqA, lres, h.len, g.len, decide_eq_true hl]
  refine W_for 0 a.length (fun z e H' => H' = H ∧ Sl e [(0, v), (1, w), (5, .int .i64 z)] ∧ allI z fun i => a.getD i.toNat 0 = b.getD i.toNat 0) (by omega) ⟨rfl, by simp only [↓WP, WQ, if_true, if_false, eq_self, implies_true, ne_eq, List.nil_append, List.cons_append, ↓reduceIte, Nat.reduceEqDiff, Nat.reduceBEq, reduceCtorEq, Nat.reduceAdd, resA, ret1, qv, lv, ev, boolA, binA, intA, shiftA, cmpA, beqA, lres], allI_zero⟩ ?_
  rintro z e H' hz0 hzn ⟨rfl, hs, hno⟩
  simp only [Sl_cons, Sl_nil, and_true] at hs
  have hw : IntKind.i64.wrap (z + 1) = z + 1 := wrap_id (by omega) (by omega)
  simp only [↓WP, WQ, if_true, if_false, eq_self, implies_true, ne_eq, List.nil_append, List.cons_append, ↓reduceIte, Nat.reduceEqDiff, Nat.reduceBEq, reduceCtorEq, Nat.reduceAdd, resA, ret1, qv, lv, ev, boolA, binA, intA, shiftA, cmpA, beqA, lres, hs, h.len]
  refine Br_dec (fun hz => ?_) (fun hz => ?_) <;> simp only [↓WP, WQ, if_true, if_false, eq_self, implies_true, ne_eq, List.nil_append, List.cons_append, ↓reduceIte, Nat.reduceEqDiff, Nat.reduceBEq, reduceCtorEq, Nat.reduceAdd, resA, ret1, qv, lv, ev, boolA, binA, intA, shiftA, cmpA, beqA, lres, hs, hz]
  · have hzb : z < b.length := by omega
    refine DR_in (fun _ => True) rfl ?_
    refine (Classical.em (a.getD z.toNat 0 = b.getD z.toNat 0)).elim (fun ha => ?_) (fun ha => ?_)
    · simp only [↓WP, WQ, if_true, if_false, eq_self, implies_true, ne_eq, List.nil_append, List.cons_append, ↓reduceIte, Nat.reduceEqDiff, Nat.reduceBEq, reduceCtorEq, Nat.reduceAdd, resA, ret1, qv, lv, ev, boolA, binA, intA, shiftA, cmpA, beqA, lres, hs, hz, h.idx hz0 hz, h.at (show z.toNat < a.length by omega), g.idx hz0 hzb, g.at (show z.toNat < b.length by omega), decide_eq_true ha, hw]
      exact (allI_succ hz0).2 ⟨hno, ha⟩
    · simp only [↓WP, WQ, if_true, if_false, eq_self, implies_true, ne_eq, List.nil_append, List.cons_append, ↓reduceIte, Nat.reduceEqDiff, Nat.reduceBEq, reduceCtorEq, Nat.reduceAdd, resA, ret1, qv, lv, ev, boolA, binA, intA, shiftA, cmpA, beqA, lres, hs, hz, h.idx hz0 hz, h.at (show z.toNat < a.length by omega), g.idx hz0 hzb, g.at (show z.toNat < b.length by omega), decide_eq_false ha]
      exact hf fun hab => ha (by rw [hab])
  · exact ht (list_ext (by omega) fun i h0 h1 => hno i h0 (by omega))
end Go.AL

/-
  Plain laws of lattices and of algebras: meets, joins, products, implications.
-/
namespace Go.AL
open Go.Proofs
set_option linter.unusedSimpArgs false
set_option linter.unusedVariables false

/-- An element. -/
def El (A : Alg) (x : Int) : Prop := 0 ≤ x ∧ x < A.up.length

section
variable {A : Alg} (h : IsAlg A)
include h
theorem IsAlg.e0 : El A 0 := ⟨by omega, by have := h.lo; omega⟩
theorem IsAlg.e1 : El A (A.up.length - 1) := ⟨by have := h.lo; omega, by omega⟩
theorem IsAlg.r {x : Int} (hx : El A x) : bl A.up x x := h.refl x hx.1 hx.2
theorem IsAlg.b {x : Int} (hx : El A x) : bl A.up 0 x := h.bot x hx.1 hx.2
theorem IsAlg.t {x : Int} (hx : El A x) : bl A.up x (A.up.length - 1) := h.top x hx.1 hx.2
theorem IsAlg.as {x y : Int} (hx : El A x) (hy : El A y) (h1 : bl A.up x y) (h2 : bl A.up y x) : x = y := Classical.byContradiction fun hne => h.anti x y hx.1 hx.2 hy.1 hy.2 hne h1 h2
theorem IsAlg.tr {x y z : Int} (hx : El A x) (hy : El A y) (hz : El A z) (h1 : bl A.up x y) (h2 : bl A.up y z) : bl A.up x z := h.trans x y z hx.1 hx.2 hy.1 hy.2 hz.1 hz.2 h1 h2
theorem IsAlg.te {x y : Int} (hx : El A x) (hy : El A y) : El A (A.tm x y) := h.rng2 x y hx.1 hx.2 hy.1 hy.2
theorem IsAlg.je {x y : Int} (hx : El A x) (hy : El A y) : El A (joinF A.up x y) := joinF_rng h.toIsLat hx.1 hx.2 hy.1 hy.2
theorem IsAlg.me {x y : Int} (hx : El A x) (hy : El A y) : El A (meetF A.up x y) := meetF_rng h.toIsLat hx.1 hx.2 hy.1 hy.2
theorem IsAlg.js {x y : Int} (hx : El A x) (hy : El A y) : joinP A.up x y (joinF A.up x y) := by
  rcases firstI_spec (n := A.up.length) (p := joinP A.up x y) with ⟨_, _, h2, _⟩ | ⟨h1, _⟩
  · exact h2
  · have := (h.je hx hy).1; unfold joinF at this; omega
theorem IsAlg.ms {x y : Int} (hx : El A x) (hy : El A y) : meetP A.up x y (meetF A.up x y) := by
  rcases firstI_spec (n := A.up.length) (p := meetP A.up x y) with ⟨_, _, h2, _⟩ | ⟨h1, _⟩
  · exact h2
  · have := (h.me hx hy).1; unfold meetF at this; omega
theorem IsAlg.j1 {x y : Int} (hx : El A x) (hy : El A y) : bl A.up x (joinF A.up x y) := (h.js hx hy).1
theorem IsAlg.j2 {x y : Int} (hx : El A x) (hy : El A y) : bl A.up y (joinF A.up x y) := (h.js hx hy).2.1
theorem IsAlg.j3 {x y z : Int} (hx : El A x) (hy : El A y) (hz : El A z) (h1 : bl A.up x z) (h2 : bl A.up y z) : bl A.up (joinF A.up x y) z := (h.js hx hy).2.2 z hz.1 hz.2 h1 h2
theorem IsAlg.m1 {x y : Int} (hx : El A x) (hy : El A y) : bl A.up (meetF A.up x y) x := (h.ms hx hy).1
theorem IsAlg.m2 {x y : Int} (hx : El A x) (hy : El A y) : bl A.up (meetF A.up x y) y := (h.ms hx hy).2.1
theorem IsAlg.m3 {x y z : Int} (hx : El A x) (hy : El A y) (hz : El A z) (h1 : bl A.up z x) (h2 : bl A.up z y) : bl A.up z (meetF A.up x y) := (h.ms hx hy).2.2 z hz.1 hz.2 h1 h2
theorem IsAlg.j_le {x y : Int} (hx : El A x) (hy : El A y) (h1 : bl A.up x y) : joinF A.up x y = y := h.as (h.je hx hy) hy (h.j3 hx hy hy h1 (h.r hy)) (h.j2 hx hy)
theorem IsAlg.m_le {x y : Int} (hx : El A x) (hy : El A y) (h1 : bl A.up x y) : meetF A.up x y = x := h.as (h.me hx hy) hx (h.m1 hx hy) (h.m3 hx hy hx (h.r hx) h1)
theorem IsAlg.tc {x y : Int} (hx : El A x) (hy : El A y) : A.tm x y = A.tm y x := h.comm x y hx.1 hx.2 hy.1 hy.2
theorem IsAlg.ta {x y z : Int} (hx : El A x) (hy : El A y) (hz : El A z) : A.tm (A.tm x y) z = A.tm x (A.tm y z) := h.assoc x y z hx.1 hx.2 hy.1 hy.2 hz.1 hz.2
theorem IsAlg.t1 {x : Int} (hx : El A x) : A.tm x (A.up.length - 1) = x := h.one x hx.1 hx.2
theorem IsAlg.t1' {x : Int} (hx : El A x) : A.tm (A.up.length - 1) x = x := by rw [h.tc h.e1 hx, h.t1 hx]
theorem IsAlg.t0 {x : Int} (hx : El A x) : A.tm x 0 = 0 := h.zero x hx.1 hx.2
theorem IsAlg.t0' {x : Int} (hx : El A x) : A.tm 0 x = 0 := by rw [h.tc h.e0 hx, h.t0 hx]
theorem IsAlg.mono {x y z : Int} (hx : El A x) (hy : El A y) (hz : El A z) (h1 : bl A.up x y) : bl A.up (A.tm z x) (A.tm z y) := by
  have h2 := h.dist z x y hz.1 hz.2 hx.1 hx.2 hy.1 hy.2
  rw [h.j_le hx hy h1] at h2
  rw [h2]
  exact h.j1 (h.te hz hx) (h.te hz hy)
theorem IsAlg.mono' {x y z : Int} (hx : El A x) (hy : El A y) (hz : El A z) (h1 : bl A.up x y) : bl A.up (A.tm x z) (A.tm y z) := by
  rw [h.tc hx hz, h.tc hy hz]; exact h.mono hx hy hz h1
theorem IsAlg.mono2 {x y u v : Int} (hx : El A x) (hy : El A y) (hu : El A u) (hv : El A v) (h1 : bl A.up x y) (h2 : bl A.up u v) : bl A.up (A.tm x u) (A.tm y v) :=
  h.tr (h.te hx hu) (h.te hy hu) (h.te hy hv) (h.mono' hx hy hu h1) (h.mono hu hv hy h2)
theorem IsAlg.tl {x y : Int} (hx : El A x) (hy : El A y) : bl A.up (A.tm x y) x := by
  have := h.mono hy h.e1 hx (h.t hy)
  rwa [h.t1 hx] at this
theorem IsAlg.tr' {x y : Int} (hx : El A x) (hy : El A y) : bl A.up (A.tm x y) y := by rw [h.tc hx hy]; exact h.tl hy hx
theorem IsAlg.bot_eq {x : Int} (hx : El A x) (h1 : bl A.up x 0) : x = 0 := h.as hx h.e0 h1 (h.b hx)
theorem IsAlg.top_eq {x : Int} (hx : El A x) (h1 : bl A.up (A.up.length - 1) x) : x = A.up.length - 1 := h.as hx h.e1 (h.t hx) h1
theorem IsAlg.ie (x y : Int) : El A (impF A x y) := impF_rng h x y

theorem IsAlg.imp_le {x y : Int} (hx : El A x) (hy : El A y) : bl A.up (A.tm x (impF A x y)) y := by
  suffices H : ∀ m : Nat, m ≤ A.up.length → bl A.up (A.tm x (impS A x y m)) y from H _ (Nat.le_refl _)
  intro m
  induction m with
  | zero => intro _; simp only [impS]; rw [h.t0 hx]; exact h.b hy
  | succ m ih =>
    intro hm
    have ih := ih (by omega)
    have hz : El A (m : Int) := ⟨by omega, by omega⟩
    have hs : El A (impS A x y m) := impS_rng h m (by omega)
    by_cases hc : bl A.up (A.tm x m) y
    · have e := impS_yes (A := A) (x := x) (y := y) (z := (m : Int)) (by omega) hc
      rw [show ((m : Int) + 1).toNat = m + 1 by omega, Int.toNat_natCast] at e
      rw [e, h.dist x _ _ hx.1 hx.2 hs.1 hs.2 hz.1 hz.2]
      exact h.j3 (h.te hx hs) (h.te hx hz) hy ih hc
    · have e := impS_no (A := A) (x := x) (y := y) (z := (m : Int)) (by omega) hc
      rw [show ((m : Int) + 1).toNat = m + 1 by omega, Int.toNat_natCast] at e
      rw [e]; exact ih
theorem IsAlg.le_imp {x y z : Int} (hx : El A x) (hy : El A y) (hz : El A z) (hc : bl A.up (A.tm x z) y) : bl A.up z (impF A x y) := by
  suffices H : ∀ m : Nat, m ≤ A.up.length → z < m → bl A.up z (impS A x y m) from H _ (Nat.le_refl _) hz.2
  intro m
  induction m with
  | zero => intro _ h0; have := hz.1; omega
  | succ m ih =>
    intro hm hzm
    have hm' : El A (m : Int) := ⟨by omega, by omega⟩
    have hs : El A (impS A x y m) := impS_rng h m (by omega)
    by_cases hzz : z = m
    · subst hzz
      have e := impS_yes (A := A) (x := x) (y := y) (z := (m : Int)) (by omega) hc
      rw [show ((m : Int) + 1).toNat = m + 1 by omega, Int.toNat_natCast] at e
      rw [e]; exact h.j2 hs hm'
    · have ih := ih (by omega) (by omega)
      by_cases hc' : bl A.up (A.tm x m) y
      · have e := impS_yes (A := A) (x := x) (y := y) (z := (m : Int)) (by omega) hc'
        rw [show ((m : Int) + 1).toNat = m + 1 by omega, Int.toNat_natCast] at e
        rw [e]; exact h.tr hz hs (h.je hs hm') ih (h.j1 hs hm')
      · have e := impS_no (A := A) (x := x) (y := y) (z := (m : Int)) (by omega) hc'
        rw [show ((m : Int) + 1).toNat = m + 1 by omega, Int.toNat_natCast] at e
        rw [e]; exact ih
/-- Products and implications are neighbours. -/
theorem IsAlg.adj {x y z : Int} (hx : El A x) (hy : El A y) (hz : El A z) : bl A.up (A.tm x z) y ↔ bl A.up z (impF A x y) :=
  ⟨h.le_imp hx hy hz, fun hc => h.tr (h.te hx hz) (h.te hx (h.ie x y)) hy (h.mono hz (h.ie x y) hx hc) (h.imp_le hx hy)⟩
theorem IsAlg.imp_top {x y : Int} (hx : El A x) (hy : El A y) : impF A x y = A.up.length - 1 ↔ bl A.up x y := by
  constructor
  · intro e
    have := h.imp_le hx hy
    rwa [e, h.t1 hx] at this
  · intro hc
    exact h.top_eq (h.ie x y) (h.le_imp hx hy h.e1 (by rw [h.t1 hx]; exact hc))
theorem IsAlg.imp_mono {x y z : Int} (hx : El A x) (hy : El A y) (hz : El A z) (hc : bl A.up y z) : bl A.up (impF A x y) (impF A x z) :=
  h.le_imp hx hz (h.ie x y) (h.tr (h.te hx (h.ie x y)) hy hz (h.imp_le hx hy) hc)
theorem IsAlg.imp_anti {x y z : Int} (hx : El A x) (hy : El A y) (hz : El A z) (hc : bl A.up x y) : bl A.up (impF A y z) (impF A x z) :=
  h.le_imp hx hz (h.ie y z) (h.tr (h.te hx (h.ie y z)) (h.te hy (h.ie y z)) hz (h.mono' hx hy (h.ie y z) hc) (h.imp_le hy hz))
/-- x is at most not not x; not x times x is the least. -/
theorem IsAlg.not_mul {x : Int} (hx : El A x) : A.tm x (impF A x 0) = 0 := h.bot_eq (h.te hx (h.ie x 0)) (h.imp_le hx h.e0)
theorem IsAlg.le_not_not {x : Int} (hx : El A x) : bl A.up x (impF A (impF A x 0) 0) :=
  h.le_imp (h.ie x 0) h.e0 hx (by rw [h.tc (h.ie x 0) hx, h.not_mul hx]; exact h.r h.e0)
theorem IsAlg.not3 {x : Int} (hx : El A x) : impF A (impF A (impF A x 0) 0) 0 = impF A x 0 :=
  h.as (h.ie _ 0) (h.ie x 0) (h.imp_anti hx (h.ie _ 0) h.e0 (h.le_not_not hx)) (h.le_not_not (h.ie x 0))
theorem IsAlg.near_e {x y : Int} : El A (nearF A x y) := h.te (h.ie x y) (h.ie y x)
theorem IsAlg.near_sym {x y : Int} : nearF A x y = nearF A y x := h.tc (h.ie x y) (h.ie y x)
theorem IsAlg.near_top {x y : Int} (hx : El A x) (hy : El A y) : nearF A x y = A.up.length - 1 ↔ x = y := by
  constructor
  · intro e
    have h1 : impF A x y = A.up.length - 1 := h.top_eq (h.ie x y) (by rw [← e]; exact h.tl (h.ie x y) (h.ie y x))
    have h2 : impF A y x = A.up.length - 1 := h.top_eq (h.ie y x) (by rw [← e]; exact h.tr' (h.ie x y) (h.ie y x))
    exact h.as hx hy ((h.imp_top hx hy).1 h1) ((h.imp_top hy hx).1 h2)
  · rintro rfl
    have h1 := (h.imp_top hx hx).2 (h.r hx)
    unfold nearF
    rw [h1, h.t1 h.e1]
theorem IsAlg.imp_comp {x y z : Int} (hx : El A x) (hy : El A y) (hz : El A z) : bl A.up (A.tm (impF A x y) (impF A y z)) (impF A x z) := by
  refine h.le_imp hx hz (h.te (h.ie x y) (h.ie y z)) ?_
  rw [← h.ta hx (h.ie x y) (h.ie y z)]
  exact h.tr (h.te (h.te hx (h.ie x y)) (h.ie y z)) (h.te hy (h.ie y z)) hz (h.mono' (h.te hx (h.ie x y)) hy (h.ie y z) (h.imp_le hx hy)) (h.imp_le hy hz)
theorem IsAlg.t4 {a b c d : Int} (ha : El A a) (hb : El A b) (hc : El A c) (hd : El A d) : A.tm (A.tm a b) (A.tm c d) = A.tm (A.tm a c) (A.tm b d) := by
  rw [h.ta ha hb (h.te hc hd), ← h.ta hb hc hd, h.tc hb hc, h.ta hc hb hd, ← h.ta ha hc (h.te hb hd)]
theorem IsAlg.near_comp {x y z : Int} (hx : El A x) (hy : El A y) (hz : El A z) : bl A.up (A.tm (nearF A x y) (nearF A y z)) (nearF A x z) := by
  unfold nearF
  rw [h.t4 (h.ie x y) (h.ie y x) (h.ie y z) (h.ie z y), h.tc (h.ie y x) (h.ie z y)]
  exact h.mono2 (h.te (h.ie x y) (h.ie y z)) (h.ie x z) (h.te (h.ie z y) (h.ie y x)) (h.ie z x) (h.imp_comp hx hy hz) (h.imp_comp hz hy hx)
end
end Go.AL
