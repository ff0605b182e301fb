/-
  Lemmas that the proofs of the given statements of this seat use. Conditions: none.
-/
import Derived.Orders
import Derived.Laws.OwnMore
import Derived.Laws.MakeOwn
/-
  Abstract values, abstract heaps, abstract operations and the predicate transformer W over a compact code type.
  Everything in this file is plain Lean: no world, no schedule, no capacity.
-/
namespace Go.AL

/-- Abstract values. A slice `sl r o n` begins at cell `o` of row `r` and has `n` elements. `emp` is a non-nil slice of length 0, wherever it lies. `junk` is any value. -/
inductive AV where
  | int (k : IntKind) (n : Int)
  | bool (b : Bool)
  | str (s : ByteArray)
  | nilp
  | ptr (r o : Nat)
  | nils
  | emp
  | sl (r o n : Nat)
  | fn (f : Nat) (cap : List AV)
  | nilf
  | agg (l : List AV)
  | tup (l : List AV)
  | junk
  deriving Inhabited

/-- One cell. -/
def AV.scal : AV → Bool
  | .agg _ | .tup _ | .junk => false
  | _ => true

/-- The cells that a value takes. -/
def AV.cells : AV → List AV
  | .agg l => l
  | v => [v]

/-- The cells that a value takes, if all of them are known cells. -/
def AV.cells? : AV → Option (List AV)
  | .agg l => if l.all AV.scal then some l else none
  | v => if v.scal then some [v] else none

abbrev Env := Nat → AV
def upd (e : Env) (i : Nat) (v : AV) : Env := fun j => if j = i then v else e j
def updo (e : Env) (i : Option Nat) (v : AV) : Env := match i with | some i => upd e i v | none => e

/-- A row of cells: the type of its elements, whether the calls may write it, its cells. -/
structure Row where
  ty : Nat
  own : Bool
  cells : List AV
  deriving Inhabited

abbrev Hp := Nat → Option Row
def Hp.set (H : Hp) (r : Nat) (x : Row) : Hp := fun q => if q = r then some x else H q
/-- A row that has been handed on (by append): nothing can be read from it. -/
def dead : Row := ⟨0, false, []⟩

inductive Opd where
  | t (i : Nat)
  | k (v : AV)
  | f (n : Nat)
  deriving Inhabited

def ev (e : Env) : Opd → AV
  | .t i => e i
  | .k v => v
  | .f n => .fn n []

/-- The cell at a pointer. -/
def Hp.at (H : Hp) : AV → Option AV
  | .ptr r o => match H r with
    | some row => row.cells[o]?
    | none => none
  | _ => none

/-- The `n` cells from a pointer on. -/
def Hp.atN (H : Hp) (p : AV) (n : Nat) : Option (List AV) :=
  match p with
  | .ptr r o => match H r with
    | some row => if o + n ≤ row.cells.length then some ((row.cells.drop o).take n) else none
    | none => none
  | _ => none

/-- Cells written at a place. -/
def splice {α : Type} (l : List α) (o : Nat) (cs : List α) : List α := l.take o ++ cs ++ l.drop (o + cs.length)

inductive Bin where
  | add | sub | mul | quo | rem | and | or | xor | andNot | shl | shr | eql | neq | lss | leq | gtr | geq
  deriving DecidableEq, Inhabited

def bitA (f : ∀ n : Nat, BitVec n → BitVec n → BitVec n) (k : IntKind) (a b : Int) : Int :=
  k.wrap (f k.bits (BitVec.ofInt k.bits a) (BitVec.ofInt k.bits b)).toNat

def cmpA (op : Bin) (a b : Int) : Option AV :=
  match op with
  | .eql => some (.bool (decide (a = b)))
  | .neq => some (.bool (decide (a ≠ b)))
  | .lss => some (.bool (decide (a < b)))
  | .leq => some (.bool (decide (a ≤ b)))
  | .gtr => some (.bool (decide (b < a)))
  | .geq => some (.bool (decide (b ≤ a)))
  | _ => none

def intA (op : Bin) (k : IntKind) (a b : Int) : Option AV :=
  match op with
  | .add => some (.int k (k.wrap (a + b)))
  | .sub => some (.int k (k.wrap (a - b)))
  | .mul => some (.int k (k.wrap (a * b)))
  | .quo => if b = 0 then none else some (.int k (k.wrap (a.tdiv b)))
  | .rem => if b = 0 then none else some (.int k (a.tmod b))
  | .and => some (.int k (bitA (fun _ x y => x &&& y) k a b))
  | .or => some (.int k (bitA (fun _ x y => x ||| y) k a b))
  | .xor => some (.int k (bitA (fun _ x y => x ^^^ y) k a b))
  | .andNot => some (.int k (bitA (fun _ x y => x &&& ~~~y) k a b))
  | op => cmpA op a b

def shiftA (op : Bin) (k : IntKind) (a b : Int) : Option AV :=
  if b < 0 then none else
  match op with
  | .shl => some (.int k (k.wrap (a * 2 ^ min b.toNat k.bits)))
  | .shr => some (.int k (a.fdiv (2 ^ min b.toNat k.bits)))
  | _ => none

def binA (op : Bin) (x y : AV) : Option AV :=
  match x, y with
  | .int k a, .int k' b =>
    match op with
    | .shl => shiftA .shl k a b
    | .shr => shiftA .shr k a b
    | op => if k = k' then intA op k a b else none
  | .str a, .str b =>
    match op with
    | .eql => some (.bool (a.toList == b.toList))
    | .neq => some (.bool (!(a.toList == b.toList)))
    | _ => none
  | _, _ => none

def beqA (ne : Bool) (x y : AV) : Option AV :=
  match x, y with
  | .bool a, .bool b => some (.bool (if ne then a != b else a == b))
  | _, _ => none

/-- A slice held against nil. -/
def snilA (ne : Bool) (x y : AV) : Option AV :=
  match x, y with
  | .sl _ _ _, .nils => some (.bool ne)
  | .emp, .nils => some (.bool ne)
  | .nils, .nils => some (.bool !ne)
  | _, _ => none

def idxA (sz : Nat) (x i : AV) : Option AV :=
  match x, i with
  | .sl r o n, .int _ i => if 0 ≤ i ∧ i < n then some (.ptr r (o + i.toNat * sz)) else none
  | _, _ => none

def lenA : AV → Option Nat
  | .nils | .emp => some 0
  | .sl _ _ n => some n
  | _ => none

def intOfA : AV → Option Int
  | .int _ n => some n
  | _ => none

/-- A slice expression without a third index. -/
def slA (sz : Nat) (x : AV) (lo hi : Option AV) : Option AV :=
  match lenA x with
  | none => none
  | some n =>
    match (match hi with | some v => intOfA v | none => some (n : Int)), (match lo with | some v => intOfA v | none => some 0) with
    | some h, some l =>
      if 0 ≤ l ∧ l ≤ h ∧ h ≤ n then
        match x with
        | .sl r o _ => some (if h = l then .emp else .sl r (o + l.toNat * sz) (h - l).toNat)
        | v => some v
      else none
    | _, _ => none

def mmStep (mx : Bool) : Option AV → AV → Option AV
  | some (.int k a), .int _ b => some (.int k (if mx then (if b > a then b else a) else (if b < a then b else a)))
  | _, _ => none

def mmA (mx : Bool) : List AV → Option AV
  | .int k a :: rest => rest.foldl (mmStep mx) (some (.int k a))
  | _ => none

/-- Parts laid into cells. -/
def fillA (sz : Nat) (cells : List AV) : List (Nat × AV) → Option (List AV)
  | [] => some cells
  | (i, v) :: rest =>
    match v.cells? with
    | none => none
    | some cs => if cs.length = sz ∧ i * sz + sz ≤ cells.length then fillA sz (splice cells (i * sz) cs) rest else none

/-- Operations whose value is a function of the frame and the heap. -/
inductive QOp where
  | mov (x : Opd)
  | pick (c a b : Opd)
  | build (zs : List AV) (parts : List (Nat × Opd))
  | load (n : Option Nat) (a : Opd)
  | nilc (x : Opd)
  | bin (op : Bin) (x y : Opd)
  | beq (ne : Bool) (x y : Opd)
  | snil (ne : Bool) (x y : Opd)
  | bad
  | not (x : Opd)
  | conv (k : IntKind) (x : Opd)
  | mkf (f : Nat) (cap : List Opd)
  | slc (sz : Nat) (x : Opd) (lo hi : Option Opd)
  | fld (off : Nat) (x : Opd)
  | idx (sz : Nat) (x i : Opd)
  | ext (x : Opd) (i : Nat)
  | len (x : Opd)
  | mm (mx : Bool) (xs : List Opd)
  deriving Inhabited

def qv (e : Env) (H : Hp) : QOp → Option AV
  | .mov x => some (ev e x)
  | .pick c a b => match ev e c with
    | .bool t => some (if t then ev e a else ev e b)
    | _ => none
  | .build zs parts => match fillA 1 zs (parts.map fun p => (p.1, ev e p.2)) with
    | some cs => some (.agg cs)
    | none => none
  | .load none a => H.at (ev e a)
  | .load (some n) a => match H.atN (ev e a) n with
    | some cs => some (.agg cs)
    | none => none
  | .nilc x => match ev e x with
    | .ptr r o => some (.ptr r o)
    | _ => none
  | .bin op x y => binA op (ev e x) (ev e y)
  | .beq ne x y => beqA ne (ev e x) (ev e y)
  | .snil ne x y => snilA ne (ev e x) (ev e y)
  | .bad => none
  | .not x => match ev e x with
    | .bool b => some (.bool !b)
    | _ => none
  | .conv k x => match ev e x with
    | .int _ n => some (.int k (k.wrap n))
    | _ => none
  | .mkf f cap => some (.fn f (cap.map (ev e)))
  | .slc sz x lo hi => slA sz (ev e x) (lo.map (ev e)) (hi.map (ev e))
  | .fld off x => match ev e x with
    | .ptr r o => some (.ptr r (o + off))
    | _ => none
  | .idx sz x i => idxA sz (ev e x) (ev e i)
  | .ext x i => match ev e x with
    | .tup l => l[i]?
    | _ => none
  | .len x => match lenA (ev e x) with
    | some n => some (.int .i64 n)
    | none => none
  | .mm mx xs => mmA mx (xs.map (ev e))

/-- Operations that make one new row and hand back its pointer or slice. -/
inductive LOp where
  | alloc (ty : Nat) (zs : List AV)
  | box (ty : Nat) (x : Opd)
  | bsl (ty sz : Nat) (zs : List AV) (len : Nat) (parts : List (Nat × Opd))
  | mk (ty bytes : Nat) (zs : List AV) (n c : Opd)
  deriving Inhabited

def zerosA (zs : List AV) (n : Nat) : List AV := (List.replicate n zs).flatten

/-- The row that is made, and the length of the slice (none: a pointer). -/
def lv (e : Env) : LOp → Option (Row × Option Nat)
  | .alloc ty zs => some (⟨ty, true, zs⟩, none)
  | .box ty x => match (ev e x).cells? with
    | some cs => some (⟨ty, true, cs⟩, none)
    | none => none
  | .bsl ty sz zs len parts => match fillA sz (zerosA zs len) (parts.map fun p => (p.1, ev e p.2)) with
    | some cs => some (⟨ty, true, cs⟩, some len)
    | none => none
  | .mk ty bytes zs n c => match ev e n, ev e c with
    | .int .i64 a, .int .i64 b => if a = b ∧ 0 ≤ a ∧ a * bytes ≤ 140737488355328 ∧ a ≤ 9223372036854775807 then some (⟨ty, true, zerosA zs a.toNat⟩, some a.toNat) else none
    | _, _ => none

def lres (r : Nat) : Option Nat → AV
  | none => .ptr r 0
  | some n => .sl r 0 n

/-- Operations with an effect. -/
inductive EOp where
  | store (n : Nat) (a x : Opd)
  | app (ty sz bytes : Nat) (s x : Opd)
  | copy (sz : Nat) (d s : Opd)
  | clr (zs : List AV) (x : Opd)
  | call (f : Opd) (args : List Opd)
  deriving Inhabited

inductive AOp where
  | q (o : QOp)
  | l (o : LOp)
  | e (o : EOp)
  deriving Inhabited

def Opd.reads : Opd → List Nat
  | .t i => [i]
  | _ => []
def oreads (l : List Opd) : List Nat := l.flatMap Opd.reads
def QOp.reads : QOp → List Nat
  | .mov x | .load _ x | .nilc x | .not x | .conv _ x | .fld _ x | .ext x _ | .len x => x.reads
  | .pick c a b => c.reads ++ a.reads ++ b.reads
  | .build _ ps => oreads (ps.map (·.2))
  | .bin _ x y | .beq _ x y | .snil _ x y | .idx _ x y => x.reads ++ y.reads
  | .bad => []
  | .mkf _ l | .mm _ l => oreads l
  | .slc _ x lo hi => x.reads ++ oreads lo.toList ++ oreads hi.toList
def LOp.reads : LOp → List Nat
  | .alloc _ _ => []
  | .box _ x => x.reads
  | .bsl _ _ _ _ ps => oreads (ps.map (·.2))
  | .mk _ _ _ n c => n.reads ++ c.reads
def EOp.reads : EOp → List Nat
  | .store _ a x => a.reads ++ x.reads
  | .app _ _ _ a x => a.reads ++ x.reads
  | .copy _ a x => a.reads ++ x.reads
  | .clr _ x => x.reads
  | .call f l => f.reads ++ oreads l
def AOp.reads : AOp → List Nat
  | .q o => o.reads
  | .l o => o.reads
  | .e o => o.reads

/-- The cells of a slice that is read. -/
def Hp.row (H : Hp) (sz : Nat) : AV → Option (List AV)
  | .nils | .emp => some []
  | .sl r o n => match H r with
    | some row => if o + n * sz ≤ row.cells.length then some ((row.cells.drop o).take (n * sz)) else none
    | none => none
  | _ => none

inductive Ex where
  | norm
  | exit (id : Nat)
  | ret
  deriving DecidableEq, Inhabited

/-- An operation of a region that draws its order: its number, may it be overtaken by an effect, the allocations that may come ahead of it, where it writes, its guard, the operation. -/
structure DOp where
  id : Nat
  fl : Bool
  fls : List Nat
  d : Option Nat
  g : Option (Nat × Bool)
  o : AOp
  deriving Inhabited

inductive CC where
  | done
  | op (d : Option Nat) (g : Option (Nat × Bool)) (o : AOp) (k : CC)
  | draws (ops : List DOp) (k : CC)
  | cond (c : Opd) (x y k : CC)
  | block (id : Nat) (c k : CC)
  | loop (c : CC)
  | exit (id : Nat)
  | ret
  deriving Inhabited

/-- `o` is a value, and it is good. -/
def QB {α : Type} (o : Option α) (K : α → Prop) : Prop := ∃ v, o = some v ∧ K v
theorem QB_some {α : Type} (v : α) (K : α → Prop) : QB (some v) K = K v := by simp [QB]
theorem QB_none {α : Type} (K : α → Prop) : QB (none : Option α) K = False := by simp [QB]
theorem QB_ite {α : Type} (c : Prop) [Decidable c] (v : α) (K : α → Prop) : QB (if c then some v else none) K = (c ∧ K v) := by by_cases h : c <;> simp [QB, h]
theorem QB_ite' {α : Type} (c : Prop) [Decidable c] (v : α) (K : α → Prop) : QB (if c then none else some v) K = (¬ c ∧ K v) := by by_cases h : c <;> simp [QB, h]
@[congr] theorem QB_congr {α : Type} {o o' : Option α} {K : α → Prop} (h : o = o') : QB o K = QB o' K := by rw [h]

/-- A branch. -/
def Br (b : Bool) (p q : Prop) : Prop := if b = true then p else q
theorem Br_true (p q : Prop) : Br true p q = p := rfl
theorem Br_false (p q : Prop) : Br false p q = q := by simp [Br]
theorem Br_split {b : Bool} {p q : Prop} (h1 : b = true → p) (h2 : b = false → q) : Br b p q := by cases b <;> simp_all [Br]
theorem Br_dec {c : Prop} [Decidable c] {p q : Prop} (h1 : c → p) (h2 : ¬ c → q) : Br (decide c) p q := by by_cases h : c <;> simp_all [Br]
@[congr] theorem Br_congr {b b' : Bool} {p q : Prop} (h : b = b') : Br b p q = Br b' p q := by rw [h]

/-- A new row. -/
def NewRow (H : Hp) (K : Nat → Prop) : Prop := ∀ r, H r = none → K r

end Go.AL

/-
  How abstract values and heaps stand to the model's values and worlds; what a call is in abstract terms; the predicate transformer W; the translation of code.
-/
namespace Go.AL

/-- Where a row lies: block, first cell, the number of cells up to the end of its capacity, the size of an element. -/
structure KB where
  blk : Nat
  off : Nat
  n : Nat
  sz : Nat
  deriving Inhabited

mutual
def VR (κ : Nat → KB) (D : Nat → Prop) : AV → Value → Prop
  | .int k n, v => v = .int k n
  | .bool b, v => v = .bool b
  | .str s, v => v = .string s
  | .nilp, v => v = .pointer none
  | .ptr r o, v => D r ∧ v = .pointer (some ⟨(κ r).blk, (κ r).off + o, none⟩)
  | .nils, v => v = .slice none 0 0
  | .emp, v => ∃ a c, v = .slice (some a) 0 c
  | .sl r o n, v => D r ∧ ∃ c, v = .slice (some ⟨(κ r).blk, (κ r).off + o, none⟩) n c ∧ n ≤ c ∧ c ≤ maxLen ∧ (o = 0 → c * (κ r).sz = (κ r).n)
  | .fn f l, v => ∃ cs : List Value, v = .func (.func f) #[] cs.toArray ∧ VRs κ D l cs
  | .nilf, v => v = .nilFunc
  | .agg l, v => ∃ cs : List Value, v = .agg cs.toArray ∧ VRs κ D l cs
  | .tup l, v => ∃ cs : List Value, v = .tuple cs.toArray ∧ VRs κ D l cs
  | .junk, _ => True
def VRs (κ : Nat → KB) (D : Nat → Prop) : List AV → List Value → Prop
  | [], vs => vs = []
  | a :: l, vs => ∃ v r, vs = v :: r ∧ VR κ D a v ∧ VRs κ D l r
end

def dom (H : Hp) : Nat → Prop := fun r => H r ≠ none

def sizeA (P : Program) (t : TypeId) : Option Nat := (P.info? t).map (·.size)

structure RowRel (P : Program) (w0 : World) (κ : Nat → KB) (H : Hp) (w : World) (r : Nat) (row : Row) : Prop where
  scal : ∀ c ∈ row.cells, c.scal = true
  own : row.own = true → ∃ cur : Array Value, w.heap[(κ r).blk]? = some (.cells cur row.ty (0, 0)) ∧ (κ r).off = 0 ∧ w0.heap.size ≤ (κ r).blk ∧ cur.size = (κ r).n ∧ sizeA P row.ty = some (κ r).sz ∧
    row.cells.length ≤ cur.size ∧ ∀ (i : Nat) (c : AV), row.cells[i]? = some c → ∃ v : Value, cur[i]? = some v ∧ VR κ (dom H) c v
  lent : row.own = false → ∀ (i : Nat) (c : AV), row.cells[i]? = some c → (κ r).blk < w0.heap.size ∧ ∃ v, w0.cell? ⟨(κ r).blk, (κ r).off + i, none⟩ = some v ∧ VR κ (dom H) c v

/-- Below block number B the world w' is as w was; the streams are as they were; no block has gone. -/
structure Same (w w' : World) : Prop where
  os : w'.os = w.os
  tape : w'.tape = w.tape
  output : w'.output = w.output
  size : w.heap.size ≤ w'.heap.size
  block : ∀ k, k < w.heap.size → w'.heap[k]? = w.heap[k]?

structure Rel (P : Program) (w0 : World) (κ : Nat → KB) (H : Hp) (w : World) : Prop where
  same : Same w0 w
  rows : ∀ r row, H r = some row → RowRel P w0 κ H w r row
  inj : ∀ r r' row row', H r = some row → H r' = some row' → row.own = true → row'.own = true → (κ r).blk = (κ r').blk → r = r'
  fin : ∃ n, ∀ r, n ≤ r → H r = none

structure Trans (B : Nat) (κ : Nat → KB) (H : Hp) (w : World) (κ' : Nat → KB) (H' : Hp) (w' : World) : Prop where
  kext : ∀ r, H r ≠ none → κ' r = κ r ∧ H' r ≠ none
  own : ∀ r row row', H r = some row → H' r = some row' → row'.own = true → row.own = true
  avoid : ∀ r, r < B → H r = none → H' r = none
  fresh : ∀ r row, H r = none → H' r = some row → row.own = true → w.heap.size ≤ (κ' r).blk ∨ ∃ q rq, H q = some rq ∧ rq.own = true ∧ (κ' r).blk = (κ q).blk
  frame : ∀ b, b < w.heap.size → (∀ r row, H r = some row → row.own = true → (κ r).blk ≠ b) → w'.heap[b]? = w.heap[b]?
  size : w.heap.size ≤ w'.heap.size

def EnvRel (κ : Nat → KB) (D : Nat → Prop) (N : Nat) (e : Env) (tmps : Array Value) : Prop :=
  N ≤ tmps.size ∧ ∀ t, VR κ D (e t) (tmps.getD t undef)

def Enterable (P : Program) (f : Nat) : Prop := ∃ fn, P.funcs[f]? = some fn ∧ fn.body.isNone = false ∧ (fn.name == "runtime.NumGoroutine") = false

/-- What a call does, in abstract terms: it returns a value and leaves a heap that are as Q says. -/
def ACalls (P : Program) (w0 : World) (f : Nat) (args : List AV) (H : Hp) (Q : AV → Hp → Prop) : Prop :=
  Enterable P f ∧ ∀ (B : Nat) κ w vs, Rel P w0 κ H w → VRs κ (dom H) args vs →
    Calls P f vs.toArray w fun en w' => ∃ v rv κ' H', en = .returned rv ∧ Q v H' ∧ VR κ' (dom H') v rv ∧ Rel P w0 κ' H' w' ∧ Trans B κ H w κ' H' w'

theorem ACalls.mono {P : Program} {w0 : World} {f : Nat} {args : List AV} {H : Hp} {Q Q' : AV → Hp → Prop} (h : ACalls P w0 f args H Q)
    (hq : ∀ v H', Q v H' → Q' v H') : ACalls P w0 f args H Q' :=
  ⟨h.1, fun B κ w vs hr hv => (h.2 B κ w vs hr hv).mono fun _ _ ⟨v, rv, κ', H', he, hQ, rest⟩ => ⟨v, rv, κ', H', he, hq _ _ hQ, rest⟩⟩

section
variable (P : Program) (w0 : World)

def Weff (o : EOp) (K : AV → Hp → Prop) (e : Env) (H : Hp) : Prop :=
  match o with
  | .store n a x => QB (ev e x).cells? fun cs => cs.length = n ∧
      match ev e a with
      | .ptr r o => QB (H r) fun row => row.own = true ∧ o + n ≤ row.cells.length ∧ K (.tup []) (H.set r ⟨row.ty, true, splice row.cells o cs⟩)
      | _ => False
  | .app ty sz bytes s x => QB (H.row sz (ev e x)) fun cs => QB (lenA (ev e x)) fun m =>
      match ev e s with
      | .nils => (m = 0 → K .nils H) ∧ (m ≠ 0 → m * bytes ≤ 140737488355328 ∧ m ≤ maxLen ∧ NewRow H fun r => K (.sl r 0 m) (H.set r ⟨ty, true, cs⟩))
      | .sl r o n => QB (H r) fun row => row.own = true ∧ o = 0 ∧ row.ty = ty ∧ row.cells.length = n * sz ∧ (n + m) * bytes ≤ 140737488355328 ∧ n + m ≤ maxLen ∧
          NewRow H fun r' => K (.sl r' 0 (n + m)) ((H.set r dead).set r' ⟨ty, true, row.cells ++ cs⟩)
      | _ => False
  | .copy sz d s => QB (H.row sz (ev e s)) fun cs => QB (lenA (ev e s)) fun m =>
      match ev e d with
      | .nils => K (.int .i64 0) H
      | .emp => K (.int .i64 0) H
      | .sl r o n => QB (H r) fun row => row.own = true ∧ o + n * sz ≤ row.cells.length ∧ K (.int .i64 (min m n : Nat)) (H.set r ⟨row.ty, true, splice row.cells o (cs.take (min m n * sz))⟩)
      | _ => False
  | .clr zs x =>
      match ev e x with
      | .nils => K (.tup []) H
      | .emp => K (.tup []) H
      | .sl r o n => QB (H r) fun row => row.own = true ∧ o + n * zs.length ≤ row.cells.length ∧ K (.tup []) (H.set r ⟨row.ty, true, splice row.cells o (zerosA zs n)⟩)
      | _ => False
  | .call f args =>
      match ev e f with
      | .fn g cap => ACalls P w0 g (args.map (ev e) ++ cap) H K
      | _ => False

def Wop (o : AOp) (K : AV → Hp → Prop) (e : Env) (H : Hp) : Prop :=
  match o with
  | .q o => QB (qv e H o) fun v => K v H
  | .l o => QB (lv e o) fun x => NewRow H fun r => K (lres r x.2) (H.set r x.1)
  | .e o => Weff P w0 o K e H

def gdA (v : AV) (want : Bool) : Option Bool :=
  match v with
  | .bool b => some (b == want)
  | .tup [] => some false
  | _ => none

def Wg (g : Option (Nat × Bool)) (e : Env) (p q : Prop) : Prop :=
  match g with
  | none => p
  | some (j, want) => QB (gdA (e j) want) fun b => Br b p q

def loadS (S : Nat → Prop) (e : Env) : QOp → Prop
  | .load _ a => match ev e a with
    | .ptr r _ => S r
    | _ => True
  | _ => True

def WopD (S : Nat → Prop) (x : DOp) (K : AV → Hp → Prop) (e : Env) (H : Hp) : Prop :=
  match x.o with
  | .q o => (x.fl = true → loadS S e o) ∧ QB (qv e H o) fun v => K v H
  | .l o => QB (lv e o) fun y => NewRow H fun r => K (lres r y.2) (H.set r y.1)
  | .e o => Weff P w0 o (fun v H' => (∀ r, S r → H' r = H r) ∧ K v H') e H

/-- One operation of a region that draws its order. -/
def TD (S : Nat → Prop) (x : DOp) (K : Env → Hp → Prop) (e : Env) (H : Hp) : Prop :=
  Wg x.g e (WopD P w0 S x (fun v H' => K (updo e x.d v) H') e H) (K (updo e x.d (.tup [])) H)

/-- For each operation of a list whose number is told: it, and the others. -/
def alts (fls : List Nat) : List DOp → List DOp → (DOp → List DOp → Prop) → Prop
  | _, [], _ => True
  | pre, y :: l, F => (if fls.contains y.id = true then F y (pre ++ l) else True) ∧ alts fls (pre ++ [y]) l F

def WD (S : Nat → Prop) : Nat → List DOp → (Env → Hp → Prop) → Env → Hp → Prop
  | 0, _, K, e, H => K e H
  | _ + 1, [], K, e, H => K e H
  | n + 1, x :: rest, K, e, H => TD P w0 S x (WD S n rest K) e H ∧ alts x.fls [] rest fun y l => TD P w0 S y (WD S n (x :: l) K) e H

def boolA : AV → Option Bool
  | .bool b => some b
  | _ => none

def thenQ (n : Env → Hp → Prop) (Q : Ex → Env → Hp → Prop) : Ex → Env → Hp → Prop
  | .norm, e, H => n e H
  | x, e, H => Q x e H

def blockQ (id : Nat) (n : Env → Hp → Prop) (Q : Ex → Env → Hp → Prop) : Ex → Env → Hp → Prop
  | .norm, e, H => n e H
  | .exit i, e, H => if i = id then n e H else Q (.exit i) e H
  | .ret, e, H => Q .ret e H

def loopQ (I : Nat → Env → Hp → Prop) (n : Nat) (Q : Ex → Env → Hp → Prop) : Ex → Env → Hp → Prop
  | .norm, e, H => ∃ m, m < n ∧ I m e H
  | x, e, H => Q x e H

def W : CC → (Ex → Env → Hp → Prop) → Env → Hp → Prop
  | .done, Q, e, H => Q .norm e H
  | .op d g o k, Q, e, H => Wg g e (Wop P w0 o (fun v H' => W k Q (updo e d v) H') e H) (W k Q (updo e d (.tup [])) H)
  | .draws ops k, Q, e, H => ∃ S : Nat → Prop, WD P w0 S ops.length ops (W k Q) e H
  | .cond c x y k, Q, e, H => QB (boolA (ev e c)) fun b => Br b (W x (thenQ (W k Q) Q) e H) (W y (thenQ (W k Q) Q) e H)
  | .block id c k, Q, e, H => W c (blockQ id (W k Q) Q) e H
  | .loop c, Q, e, H => ∃ (I : Nat → Env → Hp → Prop) (n : Nat), I n e H ∧ ∀ n e H, I n e H → W c (loopQ I n Q) e H
  | .exit id, Q, e, H => Q (.exit id) e H
  | .ret, Q, e, H => Q .ret e H
end

/-! ### the translation -/

def toAV0 : Value → AV
  | .bool b => .bool b
  | .int k n => .int k n
  | .string s => .str s
  | .pointer none => .nilp
  | .slice none 0 0 => .nils
  | .nilFunc => .nilf
  | _ => .junk

def toAV : Value → AV
  | .agg cs => .agg (cs.toList.map toAV0)
  | v => toAV0 v

def trO : Operand → Option Opd
  | .tmp t => some (.t t)
  | .const v => some (.k (toAV v))
  | .func f => some (.f f)
  | .global _ => none

def trOs : List Operand → Option (List Opd)
  | [] => some []
  | x :: l => (trO x).bind fun y => (trOs l).bind fun r => some (y :: r)

def trPs : List (Nat × Operand) → Option (List (Nat × Opd))
  | [] => some []
  | x :: l => (trO x.2).bind fun y => (trPs l).bind fun r => some ((x.1, y) :: r)

def trB : BinOp → Bin
  | .add => .add | .sub => .sub | .mul => .mul | .quo => .quo | .rem => .rem | .and => .and | .or => .or | .xor => .xor
  | .shl => .shl | .shr => .shr | .andNot => .andNot | .eql => .eql | .neq => .neq | .lss => .lss | .leq => .leq | .gtr => .gtr | .geq => .geq

def elemOfSl (P : Program) (t : TypeId) : Option Nat :=
  match P.underlying t with
  | some (.slice e) => some e
  | _ => none

/-- The cells of a type's zero value, if the table tells them and they are known cells. -/
def zeros (P : Program) (t : TypeId) : Option (List AV) :=
  match P.info? t with
  | some i => match i.zero with
    | some z => if ((toAV z).cells.all AV.scal) && z.cells.size == i.size && (toAV z).cells.length == i.size then some (toAV z).cells else none
    | none => none
  | none => none

def flatField (P : Program) (f : Field) (i : Nat) : Bool := f.offset == i && sizeA P f.type == some 1

def flatFields (P : Program) : List Field → Nat → Bool
  | [], _ => true
  | f :: l, i => flatField P f i && flatFields P l (i + 1)

def trCall (P : Program) (c : Call) : Option AOp :=
  match c.callee with
  | .value f => (trO f).bind fun f => (trOs c.args.toList).bind fun l => some (.e (.call f l))
  | .builtin b =>
    (trOs c.args.toList).bind fun l =>
    match b, l, c.argTypes.toList with
    | .len, [x], [t] => (elemOfSl P t).bind fun _ => some (.q (.len x))
    | .append, [s, x], [t, u] => (elemOfSl P t).bind fun e => (zeros P e).bind fun zs => if t = u ∧ 0 < zs.length then (P.info? e).bind fun i => some (.e (.app e zs.length i.bytes s x)) else none
    | .copy, [d, s], [t, u] => (elemOfSl P t).bind fun e => (sizeA P e).bind fun n => if t = u then some (.e (.copy n d s)) else none
    | .clear, [x], [t] => (elemOfSl P t).bind fun e => (zeros P e).bind fun zs => if zs.length = 1 then some (.e (.clr zs x)) else none
    | .max, x :: y :: l, _ => some (.q (.mm true (x :: y :: l)))
    | .min, x :: y :: l, _ => some (.q (.mm false (x :: y :: l)))
    | _, _, _ => none
  | _ => none

def trOp? (P : Program) : Op → Option AOp
  | .move x | .assign x => (trO x).bind fun x => some (.q (.mov x))
  | .pick c a b => (trO c).bind fun c => (trO a).bind fun a => (trO b).bind fun b => some (.q (.pick c a b))
  | .alloc t => (zeros P t).bind fun zs => some (.l (.alloc t zs))
  | .box t x => (trO x).bind fun x => (sizeA P t).bind fun _ => some (.l (.box t x))
  | .build t ps => match P.underlying t with
    | some (.struct fs) => if flatFields P fs.toList 0 then (zeros P t).bind fun zs => (trPs ps.toList).bind fun ps => if zs.length = fs.size then some (.q (.build zs ps)) else none else none
    | _ => none
  | .buildSlice t n ps => (elemOfSl P t).bind fun e => (zeros P e).bind fun zs => (trPs ps.toList).bind fun ps => if 0 < zs.length ∧ n * zs.length ≤ 16777216 then some (.l (.bsl e zs.length zs n ps)) else none
  | .load t a => (trO a).bind fun a => match P.underlying t with
    | some (.struct _) => (sizeA P t).bind fun n => some (.q (.load (some n) a))
    | some (.array _ _) => none
    | some _ => some (.q (.load none a))
    | none => none
  | .store t a x => (trO a).bind fun a => (trO x).bind fun x => (sizeA P t).bind fun n => some (.e (.store n a x))
  | .nilCheck x => (trO x).bind fun x => some (.q (.nilc x))
  | .binOp op t x y _ => (trO x).bind fun x => (trO y).bind fun y => match P.underlying t, op with
    | some .bool, .eql => some (.q (.beq false x y))
    | some .bool, .neq => some (.q (.beq true x y))
    | some (.slice _), .eql => some (.q (.snil false x y))
    | some (.slice _), .neq => some (.q (.snil true x y))
    | _, op => some (.q (.bin (trB op) x y))
  | .unOp .not _ x => (trO x).bind fun x => some (.q (.not x))
  | .convert s d x => (trO x).bind fun x => match P.underlying s, P.underlying d with
    | some _, some (.int k) => some (.q (.conv k x))
    | _, _ => none
  | .makeFunc (.func f) first cap => if first.size = 0 then (trOs cap.toList).bind fun l => some (.q (.mkf f l)) else none
  | .makeSlice t n c => (elemOfSl P t).bind fun e => (zeros P e).bind fun zs => (P.info? e).bind fun i => (trO n).bind fun n => (trO c).bind fun c => if 0 < zs.length then some (.l (.mk e i.bytes zs n c)) else none
  | .slice t x lo hi mx => (elemOfSl P t).bind fun e => (sizeA P e).bind fun n => (trO x).bind fun x =>
    (match lo with | some v => (trO v).map some | none => some none).bind fun lo => (match hi with | some v => (trO v).map some | none => some none).bind fun hi =>
      if mx.isNone ∧ 0 < n then some (.q (.slc n x lo hi)) else none
  | .fieldAddr t x f => match P.underlying t with
    | some (.struct fs) => match fs[f]? with
      | some fd => if sizeA P fd.type = some 1 then (trO x).bind fun x => some (.q (.fld fd.offset x)) else none
      | none => none
    | _ => none
  | .indexAddr t x i => (elemOfSl P t).bind fun e => (sizeA P e).bind fun n => (trO x).bind fun x => (trO i).bind fun i => some (.q (.idx n x i))
  | .extract x i => (trO x).bind fun x => some (.q (.ext x i))
  | .call c => trCall P c
  | _ => none

def trOp (P : Program) (o : Op) : AOp := (trOp? P o).getD (.q .bad)

/-- The slot that an operation's guard reads. -/
def trG (ops : Array Oper) : Option (Nat × Bool) → Option (Option (Nat × Bool))
  | none => some none
  | some (j, want) => match (ops[j]?).bind (·.dst) with
    | some d => some (some (d, want))
    | none => none

def bad : CC := .op none none (.q .bad) .done

def dstOk (N : Nat) (d : Option Nat) : Bool := match d with | some d => decide (d < N) | none => true

def trRow (P : Program) (N : Nat) (ops : Array Oper) : List Oper → CC → CC
  | [], k => k
  | o :: l, k => match trG ops o.guard with
    | some g => if dstOk N o.dst = true then .op o.dst g (trOp P o.op) (trRow P N ops l k) else bad
    | none => bad

/-! #### a region that draws its order -/

def directs (o : Oper) : List Nat := (o.after.toList.filter (Region.binds .any)).map (·.on)

/-- What must have been done before, a bit for each operation, told along an order. -/
def maskGo (ops : Array Oper) : List Nat → List (Nat × Nat) → Option (List (Nat × Nat))
  | [], m => some m
  | i :: l, m => match ops[i]? with
    | none => none
    | some o => maskGo ops l ((i, (directs o).foldl (fun s j => s ||| 2 ^ j ||| ((m.lookup j).getD 0)) 0) :: m)

inductive Kd where | pure | load | alloc | eff
  deriving DecidableEq
def kdOf : AOp → Kd
  | .q (.load _ _) => .load
  | .q _ => .pure
  | .l _ => .alloc
  | .e _ => .eff

/-- May `x`, which stands first, be overtaken by `y`? -/
def ovt (x y : DOp) : Bool :=
  (match x.d with | some d => !y.o.reads.contains d && y.d != some d && (match y.g with | some (k, _) => k != d | none => true) | none => true) &&
  (match y.d with | some d => !x.o.reads.contains d && (match x.g with | some (k, _) => k != d | none => true) | none => true) &&
  (match kdOf x.o, kdOf y.o with
    | .pure, _ => true
    | .load, .eff => x.fl
    | .load, _ => true
    | .alloc, .alloc => true
    | _, _ => false)

def maskOf (m : List (Nat × Nat)) (i : Nat) : Nat := (m.lookup i).getD 0

def pairsB (m : List (Nat × Nat)) : List DOp → Bool
  | [] => true
  | x :: l => l.all (fun y => (maskOf m y.id).testBit x.id || ovt x y || x.fls.contains y.id) && (kdOf x.o == .eff || x.fls.isEmpty) && pairsB m l

/-- The operations along an order. -/
def mkDops (P : Program) (N : Nat) (ops : Array Oper) (m : List (Nat × Nat)) : List Nat → Option (List DOp)
  | [] => some []
  | i :: l => match ops[i]? with
    | some o => match trG ops o.guard with
      | some g => if dstOk N o.dst = true then
          let ao := trOp P o.op
          let fl := kdOf ao == .load && l.any fun j => match ops[j]? with
            | some b => kdOf (trOp P b.op) == .eff && !(maskOf m j).testBit i
            | none => false
          let fls := if kdOf ao = .eff then l.filter (fun j => match ops[j]? with
            | some b => kdOf (trOp P b.op) == .alloc && !(maskOf m j).testBit i
            | none => false) else []
          (mkDops P N ops m l).bind fun r => some (⟨i, fl, fls, o.dst, g, ao⟩ :: r)
        else none
      | none => none
    | none => none

/-- Whatever must stand ahead of an operation stands ahead of it. -/
def topoB (ops : Array Oper) : List Nat → List Nat → Bool
  | _, [] => true
  | pre, i :: l => (match ops[i]? with | some o => (directs o).all (fun j => pre.contains j) | none => false) && topoB ops (i :: pre) l

def trDraws (P : Program) (N : Nat) (ops : Array Oper) (c : List Nat) : Option (List DOp) :=
  match maskGo ops c [] with
  | some m => (mkDops P N ops m c).bind fun l =>
    if pairsB m l && topoB ops [] c && decide c.Nodup && (List.range ops.size).all (fun i => c.contains i) then some l else none
  | none => none

def tr (P : Program) (ρ : Nat → List Nat) (N : Nat) : Code → CC → CC
  | .skip, k => k
  | .region _ ops false, k => trRow P N ops ops.toList k
  | .region id ops true, k => match trDraws P N ops (ρ id) with
    | some l => .draws l k
    | none => bad
  | .seq x y, k => tr P ρ N x (tr P ρ N y k)
  | .cond c x y, k => match trO c with
    | some c => .cond c (tr P ρ N x .done) (tr P ρ N y .done) k
    | none => bad
  | .block id c, k => .block id (tr P ρ N c .done) k
  | .loop c, _ => .loop (tr P ρ N c .done)
  | .exit id, _ => .exit id
  | .ret, _ => .ret
  | _, _ => bad

inductive RV where
  | t (i : Nat)
  | c (n : Option Nat) (i : Nat)
  deriving Inhabited

def trR (P : Program) : List ResultVar → Option (List RV)
  | [] => some []
  | .tmp t :: l => (trR P l).bind fun r => some (.t t :: r)
  | .cell a t :: l => (match P.underlying t with
      | some (.struct _) => (sizeA P t).map some
      | some (.array _ _) => none
      | some _ => some none
      | none => none).bind fun n => (trR P l).bind fun r => some (.c n a :: r)

def resA (e : Env) (H : Hp) : List RV → Option (List AV)
  | [] => some []
  | .t i :: l => (resA e H l).bind fun r => some (e i :: r)
  | .c none i :: l => (H.at (e i)).bind fun v => (resA e H l).bind fun r => some (v :: r)
  | .c (some n) i :: l => (H.atN (e i) n).bind fun v => (resA e H l).bind fun r => some (.agg v :: r)

def ret1 : List AV → AV
  | [v] => v
  | l => .tup l

def retQ (rs : List RV) (Q : AV → Hp → Prop) : Ex → Env → Hp → Prop
  | .exit _, _, _ => False
  | _, e, H => QB (resA e H rs) fun vs => Q (ret1 vs) H

def env0 (args : List AV) : Env := fun t => (args[t]?).getD (.tup [])

end Go.AL

/-
  The operations whose value is a function of the frame and the heap do in the model what they do here.
-/
namespace Go.AL
set_option linter.unusedSimpArgs false
set_option linter.unusedVariables false

section vr
variable {κ κ' : Nat → KB} {D D' : Nat → Prop}

mutual
theorem VR.mono (h : ∀ r, D r → κ' r = κ r ∧ D' r) : ∀ (a : AV) (v : Value), VR κ D a v → VR κ' D' a v
  | .int _ _, _, hv => hv
  | .bool _, _, hv => hv
  | .str _, _, hv => hv
  | .nilp, _, hv => hv
  | .ptr r o, v, hv => by simp only [VR] at hv ⊢; obtain ⟨h1, h2⟩ := hv; obtain ⟨h3, h4⟩ := h r h1; exact ⟨h4, by rw [h3]; exact h2⟩
  | .nils, _, hv => hv
  | .emp, _, hv => hv
  | .sl r o n, v, hv => by simp only [VR] at hv ⊢; obtain ⟨h1, h2⟩ := hv; obtain ⟨h3, h4⟩ := h r h1; exact ⟨h4, by rw [h3]; exact h2⟩
  | .fn f l, v, hv => by simp only [VR] at hv ⊢; obtain ⟨cs, h1, h2⟩ := hv; exact ⟨cs, h1, VRs.mono h l cs h2⟩
  | .nilf, _, hv => hv
  | .agg l, v, hv => by simp only [VR] at hv ⊢; obtain ⟨cs, h1, h2⟩ := hv; exact ⟨cs, h1, VRs.mono h l cs h2⟩
  | .tup l, v, hv => by simp only [VR] at hv ⊢; obtain ⟨cs, h1, h2⟩ := hv; exact ⟨cs, h1, VRs.mono h l cs h2⟩
  | .junk, _, _ => by simp only [VR]
theorem VRs.mono (h : ∀ r, D r → κ' r = κ r ∧ D' r) : ∀ (l : List AV) (vs : List Value), VRs κ D l vs → VRs κ' D' l vs
  | [], vs, hv => hv
  | a :: l, vs, hv => by
    simp only [VRs] at hv ⊢
    obtain ⟨v, r, h1, h2, h3⟩ := hv
    exact ⟨v, r, h1, VR.mono h a v h2, VRs.mono h l r h3⟩
end

theorem VRs.length : ∀ {l : List AV} {vs : List Value}, VRs κ D l vs → vs.length = l.length
  | [], vs, h => by simp only [VRs] at h; simp [h]
  | a :: l, vs, h => by
    simp only [VRs] at h
    obtain ⟨v, r, rfl, _, h3⟩ := h
    simp [VRs.length h3]

theorem VRs.get : ∀ {l : List AV} {vs : List Value}, VRs κ D l vs → ∀ (i : Nat) (a : AV), l[i]? = some a → ∃ v, vs[i]? = some v ∧ VR κ D a v
  | [], vs, h, i, a, hi => by simp at hi
  | b :: l, vs, h, i, a, hi => by
    simp only [VRs] at h
    obtain ⟨v, r, rfl, h2, h3⟩ := h
    cases i with
    | zero => simp at hi; subst hi; exact ⟨v, by simp, h2⟩
    | succ i => simp at hi ⊢; exact VRs.get h3 i a hi

theorem VRs.of_get : ∀ {l : List AV} {vs : List Value}, vs.length = l.length → (∀ (i : Nat) (a : AV), l[i]? = some a → ∃ v, vs[i]? = some v ∧ VR κ D a v) → VRs κ D l vs
  | [], vs, hl, h => by simp only [VRs]; exact List.eq_nil_of_length_eq_zero (by simpa using hl)
  | b :: l, [], hl, h => by simp at hl
  | b :: l, v :: vs, hl, h => by
    simp only [VRs]
    refine ⟨v, vs, rfl, ?_, VRs.of_get (by simpa using hl) fun i a hi => ?_⟩
    · obtain ⟨v', h1, h2⟩ := h 0 b (by simp)
      simp at h1; subst h1; exact h2
    · have := h (i + 1) a (by simpa using hi)
      simpa using this

theorem VRs.append {l1 l2 : List AV} {v1 v2 : List Value} (h1 : VRs κ D l1 v1) (h2 : VRs κ D l2 v2) : VRs κ D (l1 ++ l2) (v1 ++ v2) := by
  induction l1 generalizing v1 with
  | nil => simp only [VRs] at h1; subst h1; simpa using h2
  | cons a l ih =>
    simp only [VRs] at h1
    obtain ⟨v, r, rfl, h3, h4⟩ := h1
    simp only [List.cons_append, VRs]
    exact ⟨v, r ++ v2, rfl, h3, ih h4⟩

theorem VR_toAV0 (v : Value) : VR κ D (toAV0 v) v := by
  cases v with
  | pointer a => cases a <;> simp [toAV0, VR]
  | slice a n c =>
    cases a with
    | some a => simp [toAV0, VR]
    | none => cases n <;> cases c <;> simp [toAV0, VR]
  | _ => simp [toAV0, VR]

theorem VRs_toAV0 : ∀ (l : List Value), VRs κ D (l.map toAV0) l
  | [] => by simp [VRs]
  | v :: l => by simp only [List.map_cons, VRs]; exact ⟨v, l, rfl, VR_toAV0 v, VRs_toAV0 l⟩

theorem VR_toAV (v : Value) : VR κ D (toAV v) v := by
  cases v with
  | agg cs => simp only [toAV, VR]; exact ⟨cs.toList, by simp, VRs_toAV0 _⟩
  | _ => simp only [toAV]; exact VR_toAV0 _

theorem VRs_cells (z : Value) : VRs κ D (toAV z).cells z.cells.toList := by
  have h0 : ∀ v : Value, (toAV0 v).cells = [toAV0 v] := by
    intro v
    cases v with
    | pointer a => cases a <;> simp [toAV0, AV.cells]
    | slice a n c =>
      cases a with
      | some a => simp [toAV0, AV.cells]
      | none => cases n <;> cases c <;> simp [toAV0, AV.cells]
    | _ => simp [toAV0, AV.cells]
  cases z with
  | agg cs => simpa [toAV, AV.cells, Value.cells] using VRs_toAV0 cs.toList
  | _ =>
    simp only [toAV, Value.cells]
    rw [h0]
    simp only [VRs]
    exact ⟨_, _, rfl, VR_toAV0 _, rfl⟩

/-- A known cell is one cell of the model's. -/
theorem VR.oneCell {c : AV} {v : Value} (h : VR κ D c v) (hs : c.scal = true) : v.oneCell' = true := by
  cases c <;> simp [AV.scal] at hs <;> simp only [VR] at h
  case int => subst h; rfl
  case bool => subst h; rfl
  case str => subst h; rfl
  case nilp => subst h; rfl
  case ptr => rw [h.2]; rfl
  case nils => subst h; rfl
  case emp => obtain ⟨a, c, rfl⟩ := h; rfl
  case sl => obtain ⟨_, c, rfl, _⟩ := h; rfl
  case fn => obtain ⟨cs, rfl, _⟩ := h; rfl
  case nilf => subst h; rfl

theorem VR.cells1 {c : AV} {v : Value} (h : VR κ D c v) (hs : c.scal = true) : v.cells = #[v] := by
  cases c <;> simp [AV.scal] at hs <;> simp only [VR] at h
  case int => subst h; rfl
  case bool => subst h; rfl
  case str => subst h; rfl
  case nilp => subst h; rfl
  case ptr => rw [h.2]; rfl
  case nils => subst h; rfl
  case emp => obtain ⟨a, c, rfl⟩ := h; rfl
  case sl => obtain ⟨_, c, rfl, _⟩ := h; rfl
  case fn => obtain ⟨cs, rfl, _⟩ := h; rfl
  case nilf => subst h; rfl

theorem AV.cells?_scal {a : AV} {cs : List AV} (h : a.cells? = some cs) : ∀ c ∈ cs, c.scal = true := by
  cases a <;> simp [AV.cells?, AV.scal] at h <;> first
    | (obtain ⟨h1, rfl⟩ := h; exact h1)
    | (subst h; intro c hc; simp at hc; subst hc; rfl)

/-- The cells of a value. -/
theorem VR.cells {a : AV} {v : Value} {cs : List AV} (h : VR κ D a v) (hc : a.cells? = some cs) : VRs κ D cs v.cells.toList := by
  cases a with
  | agg l =>
    simp [AV.cells?] at hc
    obtain ⟨_, rfl⟩ := hc
    simp only [VR] at h
    obtain ⟨vs, rfl, h2⟩ := h
    simpa [Value.cells] using h2
  | junk => simp [AV.cells?, AV.scal] at hc
  | tup l => simp [AV.cells?, AV.scal] at hc
  | _ =>
    simp [AV.cells?, AV.scal] at hc
    subst hc
    rw [VR.cells1 h rfl]
    simp only [VRs]
    exact ⟨v, [], rfl, h, rfl⟩
end vr

section ops
variable {P : Program} {w0 : World} {κ : Nat → KB} {H : Hp} {w : World} {N : Nat} {e : Env} {a : Act}

theorem EnvRel.eval {D : Nat → Prop} (he : EnvRel κ D N e a.tmps) {x : Operand} {y : Opd} (h : trO x = some y) : VR κ D (ev e y) (a.eval x) := by
  cases x with
  | tmp t => simp [trO] at h; subst h; exact he.2 t
  | const v => simp [trO] at h; subst h; exact VR_toAV v
  | global g => simp [trO] at h
  | func f => simp [trO] at h; subst h; simp only [ev, Act.eval, VR, VRs]; exact ⟨[], rfl, rfl⟩

theorem EnvRel.evals {D : Nat → Prop} (he : EnvRel κ D N e a.tmps) : ∀ {xs : List Operand} {ys : List Opd}, trOs xs = some ys → VRs κ D (ys.map (ev e)) (xs.map a.eval)
  | [], ys, h => by simp [trOs] at h; subst h; simp [VRs]
  | x :: xs, ys, h => by
    simp only [trOs, Option.bind_eq_some_iff] at h
    obtain ⟨y, h1, r, h2, h3⟩ := h
    simp at h3; subst h3
    simp only [List.map_cons, VRs]
    exact ⟨_, _, rfl, he.eval h1, EnvRel.evals he h2⟩

theorem at_sound (hr : Rel P w0 κ H w) {r o : Nat} {v : AV} (h : H.at (.ptr r o) = some v) :
    ∃ rv, w.cell? ⟨(κ r).blk, (κ r).off + o, none⟩ = some rv ∧ VR κ (dom H) v rv ∧ v.scal = true := by
  simp only [Hp.at] at h
  cases hH : H r with
  | none => simp [hH] at h
  | some row =>
    simp only [hH] at h
    have hrow := hr.rows r row hH
    have hs := hrow.scal v (List.mem_of_getElem? h)
    cases ho : row.own with
    | true =>
      obtain ⟨cur, h1, h2, _, h4, _, h5, h6⟩ := hrow.own ho
      obtain ⟨rv, h7, h8⟩ := h6 o v h
      exact ⟨rv, by simp [World.cell?, h1, h2, h7], h8, hs⟩
    | false =>
      obtain ⟨h1, rv, h2, h3⟩ := hrow.lent ho o v h
      refine ⟨rv, ?_, h3, hs⟩
      rw [← h2]
      exact World.cell?_of_block (w := w0) (hr.same.block _ h1)

theorem atN_get {p : AV} {n : Nat} {cs : List AV} (h : H.atN p n = some cs) : ∃ r o, p = .ptr r o ∧ cs.length = n ∧ ∀ (i : Nat) (c : AV), cs[i]? = some c → H.at (.ptr r (o + i)) = some c := by
  cases p with
  | ptr r o =>
    simp only [Hp.atN] at h
    cases hH : H r with
    | none => simp [hH] at h
    | some row =>
      simp only [hH] at h
      split at h
      · rename_i hle
        simp at h; subst h
        refine ⟨r, o, rfl, by simp; omega, fun i c hi => ?_⟩
        simp only [Hp.at, hH]
        rw [List.getElem?_take] at hi
        split at hi
        · rw [List.getElem?_drop] at hi; exact hi
        · cases hi
      · cases h
  | _ => simp [Hp.atN] at h

theorem add_off (b o n : Nat) : (⟨b, o, none⟩ : Addr).add n = ⟨b, o + n, none⟩ := by unfold Addr.add; split <;> simp_all

/-- A run of cells that is read. -/
theorem cells_sound (hr : Rel P w0 κ H w) {r o : Nat} {cs : List AV} (h : ∀ (i : Nat) (c : AV), cs[i]? = some c → H.at (.ptr r (o + i)) = some c) :
    ∃ vs : List Value, VRs κ (dom H) cs vs ∧ (∀ (j : Nat) (v : Value), vs[j]? = some v → w.cell? ((⟨(κ r).blk, (κ r).off + o, none⟩ : Addr).add j) = some v) ∧ ∀ v ∈ vs, v.oneCell' = true := by
  induction cs generalizing o with
  | nil => exact ⟨[], by simp [VRs], by simp, by simp⟩
  | cons c cs ih =>
    obtain ⟨rv, h1, h2, h3⟩ := at_sound hr (h 0 c (by simp))
    obtain ⟨vs, h4, h5, h6⟩ := ih (o := o + 1) (fun i c' hi => by have := h (i + 1) c' (by simpa using hi); rw [show o + 1 + i = o + (i + 1) by omega]; exact this)
    refine ⟨rv :: vs, by simp only [VRs]; exact ⟨_, _, rfl, h2, h4⟩, fun j v hj => ?_, fun v hv => ?_⟩
    · cases j with
      | zero => simp at hj; subst hj; rw [add_off]; simpa using h1
      | succ j =>
        simp at hj
        have := h5 j v hj
        rw [add_off] at this ⊢
        rw [← this]
        congr 1
        simp only [Addr.mk.injEq, true_and, and_true]
        omega
    · simp only [List.mem_cons] at hv
      rcases hv with rfl | hv
      · exact VR.oneCell h2 h3
      · exact h6 v hv

theorem elemOfSl_eq {t : TypeId} {x : Nat} (h : elemOfSl P t = some x) : P.underlying t = some (.slice x) := by
  unfold elemOfSl at h
  split at h
  · simp at h; subst h; assumption
  · cases h

theorem run_und {t : TypeId} {d : TypeDesc} (h : P.underlying t = some d) (w : World) : (underlying t).run P w = .ok d w := run_underlying h w

theorem run_size {t : TypeId} {n : Nat} (h : sizeA P t = some n) (w : World) : (sizeOf t).run P w = .ok n w := by
  simp only [sizeA, Option.map_eq_some_iff] at h
  obtain ⟨i, h1, h2⟩ := h
  simp [sizeOf, typeInfo, h1, h2]

theorem zeros_spec {t : TypeId} {zs : List AV} (h : zeros P t = some zs) :
    ∃ i z, P.info? t = some i ∧ i.zero = some z ∧ z.cells.size = zs.length ∧ i.size = zs.length ∧ (∀ c ∈ zs, c.scal = true) ∧ ∀ (κ : Nat → KB) (D : Nat → Prop), VRs κ D zs z.cells.toList := by
  unfold zeros at h
  split at h
  · rename_i i hi
    split at h
    · rename_i z hz
      split at h
      · rename_i hc
        simp at h
        simp only [Bool.and_eq_true, beq_iff_eq] at hc
        obtain ⟨⟨h1, h2⟩, h3⟩ := hc
        refine ⟨i, z, hi, hz, ?_, ?_, ?_, ?_⟩
        · rw [← h]; omega
        · rw [← h]; omega
        · rw [← h]; intro c hc; exact List.all_eq_true.1 h1 c hc
        · intro κ D
          rw [← h]
          exact VRs_cells z
      · cases h
    · cases h
  · cases h

theorem run_sliceBound {k : IntKind} {i : Int} {y : Nat} {code : BoundsCode} (h0 : 0 ≤ i) (h1 : i ≤ y) {w : World} : (Instr.sliceBound (.int k i) y code).run P w = .ok i.toNat w := by
  simp [Instr.sliceBound, asIntOf, h0, h1]

theorem intOfA_eq {v : AV} {n : Int} (h : intOfA v = some n) : ∃ k, v = .int k n := by
  cases v <;> simp [intOfA] at h
  subst h; exact ⟨_, rfl⟩

theorem eqGuard_int (op : Go.BinOp) (t : TypeId) (x y : Operand) (k k' : IntKind) (m n : Int) (w : World) : (eqGuard op t x y (.int k m) (.int k' n)).run P w = .ok () w := by
  simp only [eqGuard]; split <;> rfl
theorem eqGuard_str (op : Go.BinOp) (t : TypeId) (x y : Operand) (m n : ByteArray) (w : World) : (eqGuard op t x y (.string m) (.string n)).run P w = .ok () w := by
  simp only [eqGuard]; split <;> rfl
theorem eqGuard_bool (op : Go.BinOp) (t : TypeId) (x y : Operand) (m n : Bool) (w : World) : (eqGuard op t x y (.bool m) (.bool n)).run P w = .ok () w := by
  simp only [eqGuard]; split <;> rfl
theorem eqGuard_slice (op : Go.BinOp) (t : TypeId) (x y : Operand) (m n : Option Addr) (p q r s : Nat) (w : World) : (eqGuard op t x y (.slice m p q) (.slice n r s)).run P w = .ok () w := by
  simp only [eqGuard]; split <;> rfl

theorem beq_dec (m n : Int) : (m == n) = decide (m = n) := by rw [Bool.eq_iff_iff]; simp
theorem bne_dec (m n : Int) : (m != n) = !decide (m = n) := by rw [Bool.eq_iff_iff]; simp

def rvOf : AV → Value
  | .int k n => .int k n
  | .bool b => .bool b
  | _ => undef

theorem bin_sound {op : Go.BinOp} {t : TypeId} {xo yo : Operand} {x y : AV} {rx ry : Value} {v : AV} {D : Nat → Prop} (hx : VR κ D x rx) (hy : VR κ D y ry) (h : binA (trB op) x y = some v) (w : World) :
    ∃ rv, (do eqGuard op t xo yo rx ry; binOp op t rx ry : Sem Value).run P w = .ok rv w ∧ VR κ D v rv := by
  simp only [binA] at h
  split at h
  · rename_i k m k' n
    simp only [VR] at hx hy
    subst hx hy
    simp only [Sem.run_bind, eqGuard_int]
    refine ⟨rvOf v, ?_, ?_⟩
    · cases op <;> simp only [trB, shiftA, intA, cmpA] at h <;> simp only [binOp, Result.andThen] <;>
      (repeat' (split at h <;> try (cases h; done))) <;>
      (try simp only [Option.some.injEq] at h) <;> (try subst h) <;> (try subst_vars) <;>
      (simp_all [rvOf, Op.intArith, Op.intDiv, Op.intBits, Op.intCmp, Op.shift, bitA, beq_dec, bne_dec] <;> (intro hneg; omega))
    · cases op <;> simp only [trB, shiftA, intA, cmpA] at h <;> 
      (repeat' (split at h <;> try (cases h; done))) <;>
      (try simp only [Option.some.injEq] at h) <;> (try subst h) <;> (simp only [rvOf, VR]; done)
  · simp only [VR] at hx hy
    subst hx hy
    simp only [Sem.run_bind, eqGuard_str]
    split at h
    · rename_i heq
      cases op <;> simp [trB] at heq
      simp only [Option.some.injEq] at h; subst h
      exact ⟨.bool (_ == _), by simp [binOp, Op.stringOp]; rfl, by simp only [VR]⟩
    · rename_i heq
      cases op <;> simp [trB] at heq
      simp only [Option.some.injEq] at h; subst h
      exact ⟨.bool (!(_ == _)), by simp [binOp, Op.stringOp]; rfl, by simp only [VR]⟩
    · cases h
  · cases h

theorem maxDepth_succ : Op.maxDepth = 9999 + 1 := rfl

theorem beq_sound {ne : Bool} {op : Go.BinOp} {t : TypeId} {xo yo : Operand} {x y : AV} {rx ry : Value} {v : AV} {D : Nat → Prop} (ht : P.underlying t = some .bool) (hop : op = if ne then .neq else .eql)
    (hx : VR κ D x rx) (hy : VR κ D y ry) (h : beqA ne x y = some v) (w : World) :
    ∃ rv, (do eqGuard op t xo yo rx ry; binOp op t rx ry : Sem Value).run P w = .ok rv w ∧ VR κ D v rv := by
  simp only [beqA] at h
  split at h
  · rename_i m n
    simp only [VR] at hx hy
    subst hx hy
    simp only [Sem.run_bind, eqGuard_bool]
    simp only [Option.some.injEq] at h; subst h
    have he : (Op.equal t (.bool m) (.bool n)).run P w = .ok (m == n) w := by
      unfold Op.equal; rw [maxDepth_succ, Op.equalIn]; simp [run_und ht]
    cases ne
    · simp at hop; subst hop
      exact ⟨.bool (m == n), by simp [binOp, he], by simp only [VR]; simp⟩
    · simp at hop; subst hop
      refine ⟨.bool (!(m == n)), by simp [binOp, he], by simp only [VR]; simp [bne]⟩
  · cases h

theorem snil_sound {ne : Bool} {op : Go.BinOp} {t : TypeId} {el : TypeId} {xo yo : Operand} {x y : AV} {rx ry : Value} {v : AV} {D : Nat → Prop} (ht : P.underlying t = some (.slice el)) (hop : op = if ne then .neq else .eql)
    (hx : VR κ D x rx) (hy : VR κ D y ry) (h : snilA ne x y = some v) (w : World) :
    ∃ rv, (do eqGuard op t xo yo rx ry; binOp op t rx ry : Sem Value).run P w = .ok rv w ∧ VR κ D v rv := by
  have key : ∀ (ax : Option Addr) (p q : Nat), rx = .slice ax p q → y = .nils → v = .bool (if ne then ax.isSome else ax.isNone) →
      ∃ rv, (do eqGuard op t xo yo rx ry; binOp op t rx ry : Sem Value).run P w = .ok rv w ∧ VR κ D v rv := by
    intro ax p q hrx hyn hv
    subst hyn
    simp only [VR] at hy
    subst hrx hy hv
    simp only [Sem.run_bind, eqGuard_slice]
    have he : (Op.equal t (.slice ax p q) (.slice none 0 0)).run P w = .ok ax.isNone w := by
      unfold Op.equal; rw [maxDepth_succ, Op.equalIn]; cases ax <;> simp [run_und ht]
    cases ne
    · simp at hop; subst hop
      exact ⟨.bool ax.isNone, by simp [binOp, he], by simp only [VR]; simp⟩
    · simp at hop; subst hop
      exact ⟨.bool (!ax.isNone), by simp [binOp, he], by simp only [VR]; cases ax <;> simp⟩
  cases x <;> cases y <;> simp [snilA] at h
  · simp only [VR] at hx; subst h; exact key none 0 0 hx rfl (by cases ne <;> simp)
  · simp only [VR] at hx; obtain ⟨a, c, hx⟩ := hx; subst h; exact key (some a) 0 c hx rfl (by cases ne <;> simp)
  · simp only [VR] at hx; obtain ⟨_, c, hx, _⟩ := hx; subst h; exact key (some _) _ c hx rfl (by cases ne <;> simp)

theorem mm_none (mx : Bool) : ∀ l : List AV, l.foldl (mmStep mx) none = none
  | [] => rfl
  | x :: l => by simp only [List.foldl_cons, mmStep]; exact mm_none mx l

theorem mm_fold (mx : Bool) {D : Nat → Prop} {w : World} : ∀ (l : List AV) (vs : List Value) (k : IntKind) (s : Int) (v : AV), VRs κ D l vs →
    l.foldl (mmStep mx) (some (.int k s)) = some v →
    ∃ rv, (vs.foldlM (if mx = true then Builtin.max2 else Builtin.min2) (.int k s)).run P w = .ok rv w ∧ VR κ D v rv
  | [], vs, k, s, v, hv, h => by
    simp only [VRs] at hv; subst hv
    simp at h; subst h
    exact ⟨.int k s, by simp, by simp only [VR]⟩
  | y :: l, vs, k, s, v, hv, h => by
    simp only [VRs] at hv
    obtain ⟨rv, r, rfl, h1, h2⟩ := hv
    simp only [List.foldl_cons] at h
    cases y with
    | int k' b =>
      simp only [mmStep] at h
      simp only [VR] at h1; subst h1
      obtain ⟨rv, h3, h4⟩ := mm_fold mx l r k _ v h2 h
      refine ⟨rv, ?_, h4⟩
      simp only [List.foldlM_cons, Sem.run_bind]
      cases mx
      · simp only [Bool.false_eq_true, if_false] at h3 ⊢
        simp only [Builtin.min2, Sem.run_pure, Result.andThen]
        exact h3
      · simp only [if_true] at h3 ⊢
        simp only [Builtin.max2, Sem.run_pure, Result.andThen]
        exact h3
    | _ => simp only [mmStep, mm_none] at h; cases h

theorem mm_sound (mx : Bool) {D : Nat → Prop} {w : World} {l : List AV} {vs : List Value} {v : AV} (hv : VRs κ D l vs) (h : mmA mx l = some v) :
    ∃ x rest rv, vs = x :: rest ∧ (rest.foldlM (if mx = true then Builtin.max2 else Builtin.min2) x).run P w = .ok rv w ∧ VR κ D v rv := by
  cases l with
  | nil => simp [mmA] at h
  | cons x l =>
    cases x with
    | int k s =>
      simp only [VRs] at hv
      obtain ⟨rv, r, rfl, h1, h2⟩ := hv
      simp only [VR] at h1; subst h1
      simp only [mmA] at h
      obtain ⟨rv, h3, h4⟩ := mm_fold mx l r k s v h2 h
      exact ⟨_, r, rv, rfl, h3, h4⟩
    | _ => simp [mmA] at h

/-- The operations whose value is a function of the frame and the heap. -/
theorem qop_sound {o : Oper} {qo : QOp} {v : AV} (h : trOp? P o.op = some (.q qo)) (hq : qv e H qo = some v) (hr : Rel P w0 κ H w) (he : EnvRel κ (dom H) N e a.tmps)
    (hnb : ∀ t ps, o.op ≠ .build t ps) : ∃ rv, (execOp a.eval o).run P w = .ok (.value rv) w ∧ VR κ (dom H) v rv := by
  obtain ⟨dst, op, ty, pos, after, guard⟩ := o
  cases op with
  | move x =>
    simp only [trOp?, Option.bind_eq_some_iff] at h
    obtain ⟨y, h1, h2⟩ := h
    simp at h2; subst h2
    simp [qv] at hq; subst hq
    exact ⟨_, by simp [execOp], he.eval h1⟩
  | assign x =>
    simp only [trOp?, Option.bind_eq_some_iff] at h
    obtain ⟨y, h1, h2⟩ := h
    simp at h2; subst h2
    simp [qv] at hq; subst hq
    exact ⟨_, by simp [execOp], he.eval h1⟩
  | pick c x y =>
    simp only [trOp?, Option.bind_eq_some_iff] at h
    obtain ⟨c', h1, x', h2, y', h3, h4⟩ := h
    simp at h4; subst h4
    have hc := he.eval h1
    simp only [qv] at hq
    split at hq
    · rename_i t ht
      rw [ht] at hc
      simp only [VR] at hc
      simp at hq; subst hq
      cases t
      · exact ⟨a.eval y, by simp [execOp, hc, asBool], by simpa using he.eval h3⟩
      · exact ⟨a.eval x, by simp [execOp, hc, asBool], by simpa using he.eval h2⟩
    · cases hq
  | load t x =>
    simp only [trOp?, Option.bind_eq_some_iff] at h
    obtain ⟨x', h1, h2⟩ := h
    have hx := he.eval h1
    split at h2
    · rename_i fs hu
      simp only [Option.bind_eq_some_iff] at h2
      obtain ⟨n, h3, h4⟩ := h2
      simp at h4; subst h4
      simp only [qv] at hq
      split at hq
      · rename_i cs hcs
        simp at hq; subst hq
        obtain ⟨r, o, hp, hl, hget⟩ := atN_get hcs
        rw [hp] at hx
        simp only [VR] at hx
        obtain ⟨vs, h5, h6, _⟩ := cells_sound hr hget
        refine ⟨.agg vs.toArray, ?_, by simp only [VR]; exact ⟨vs, rfl, h5⟩⟩
        have hlc := run_loadCells_list (P := P) w ⟨(κ r).blk, (κ r).off + o, none⟩ vs h6
        rw [VRs.length h5, hl] at hlc
        simp [execOp, Instr.loadAt, hx.2, Instr.sureAddr, loadVar, isAgg, run_und hu, run_size h3, hlc]
      · cases hq
    · cases h2
    · rename_i d hn1 hn2 hu
      simp at h2; subst h2
      simp only [qv] at hq
      have hp : ∃ r o, ev e x' = .ptr r o := by
        cases hv : ev e x' <;> simp [hv, Hp.at] at hq
        exact ⟨_, _, rfl⟩
      obtain ⟨r, o, hp⟩ := hp
      rw [hp] at hq hx
      simp only [VR] at hx
      obtain ⟨rv, h3, h4, _⟩ := at_sound hr hq
      refine ⟨rv, ?_, h4⟩
      have hagg : (isAgg t).run P w = .ok false w := by
        simp only [isAgg, Sem.run_bind, run_und hu]
        cases d with
        | struct fs => exact absurd rfl (hn1 fs)
        | array n x => exact absurd rfl (hn2 n x)
        | _ => rfl
      simp [execOp, Instr.loadAt, hx.2, Instr.sureAddr, loadVar, hagg, h3]
    · cases h2
  | nilCheck x =>
    simp only [trOp?, Option.bind_eq_some_iff] at h
    obtain ⟨y, h1, h2⟩ := h
    simp at h2; subst h2
    have hx := he.eval h1
    simp only [qv] at hq
    split at hq
    · rename_i r o hp
      rw [hp] at hx
      simp at hq; subst hq
      refine ⟨a.eval x, ?_, hx⟩
      simp only [VR] at hx
      simp [execOp, hx.2]
    · cases hq
  | binOp op t x y yt =>
    simp only [trOp?, Option.bind_eq_some_iff] at h
    obtain ⟨x', h1, y', h2, h3⟩ := h
    have hx := he.eval h1
    have hy := he.eval h2
    have hrun : ∀ rv, (do eqGuard op t x y (a.eval x) (a.eval y); binOp op t (a.eval x) (a.eval y) : Sem Value).run P w = .ok rv w →
        (execOp a.eval { dst, op := .binOp op t x y yt, type := ty, pos, after, guard }).run P w = .ok (.value rv) w := by
      intro rv hrv
      simp only [execOp]
      rw [Sem.run_bind, hrv]
      rfl
    split at h3
    · simp at h3; subst h3
      obtain ⟨rv, h4, h5⟩ := beq_sound (P := P) (ne := false) (op := .eql) (t := t) (xo := x) (yo := y) ‹_› rfl hx hy hq w
      exact ⟨rv, hrun rv h4, h5⟩
    · simp at h3; subst h3
      obtain ⟨rv, h4, h5⟩ := beq_sound (P := P) (ne := true) (op := .neq) (t := t) (xo := x) (yo := y) ‹_› rfl hx hy hq w
      exact ⟨rv, hrun rv h4, h5⟩
    · simp at h3; subst h3
      obtain ⟨rv, h4, h5⟩ := snil_sound (P := P) (ne := false) (op := .eql) (t := t) (xo := x) (yo := y) ‹_› rfl hx hy hq w
      exact ⟨rv, hrun rv h4, h5⟩
    · simp at h3; subst h3
      obtain ⟨rv, h4, h5⟩ := snil_sound (P := P) (ne := true) (op := .neq) (t := t) (xo := x) (yo := y) ‹_› rfl hx hy hq w
      exact ⟨rv, hrun rv h4, h5⟩
    · simp at h3; subst h3
      obtain ⟨rv, h4, h5⟩ := bin_sound (P := P) (t := t) (xo := x) (yo := y) hx hy hq w
      exact ⟨rv, hrun rv h4, h5⟩
  | unOp u t x =>
    cases u <;> simp only [trOp?, Option.bind_eq_some_iff] at h <;> try (cases h; done)
    obtain ⟨y, h1, h2⟩ := h
    simp at h2; subst h2
    have hx := he.eval h1
    simp only [qv] at hq
    split at hq
    · rename_i b hb
      rw [hb] at hx
      simp at hq; subst hq
      simp only [VR] at hx
      exact ⟨.bool !b, by simp [execOp, hx, Op.unary], by simp only [VR]⟩
    · cases hq
  | convert s d x =>
    simp only [trOp?, Option.bind_eq_some_iff] at h
    obtain ⟨y, h1, h2⟩ := h
    split at h2
    · rename_i ds k hs hd
      simp at h2; subst h2
      have hx := he.eval h1
      simp only [qv] at hq
      split at hq
      · rename_i k0 n hn
        rw [hn] at hx
        simp at hq; subst hq
        simp only [VR] at hx
        exact ⟨.int k (k.wrap n), by simp [execOp, convert, run_und hs, run_und hd, hx, Conv.intToInt], by simp only [VR]⟩
      · cases hq
    · cases h2
  | makeFunc fn first cap =>
    cases fn with
    | func f =>
      simp only [trOp?] at h
      split at h
      · rename_i hz
        simp only [Option.bind_eq_some_iff] at h
        obtain ⟨l, h1, h2⟩ := h
        simp at h2; subst h2
        simp [qv] at hq; subst hq
        have hl := he.evals h1
        refine ⟨.func (.func f) #[] (cap.map a.eval), ?_, ?_⟩
        · have : first = #[] := Array.eq_empty_of_size_eq_zero hz
          subst this
          simp [execOp, Instr.makeFunc]
        · simp only [VR]
          exact ⟨cap.toList.map a.eval, by simp [← Array.toList_map], hl⟩
      · cases h
    | _ => simp [trOp?] at h
  | fieldAddr t x f =>
    simp only [trOp?] at h
    split at h
    · rename_i fs hu
      split at h
      · rename_i fd hf
        split at h
        · rename_i hsz
          simp only [Option.bind_eq_some_iff] at h
          obtain ⟨y, h1, h2⟩ := h
          simp at h2; subst h2
          have hx := he.eval h1
          simp only [qv] at hq
          split at hq
          · rename_i r o hp
            rw [hp] at hx
            simp at hq; subst hq
            simp only [VR] at hx ⊢
            refine ⟨.pointer (some ⟨(κ r).blk, (κ r).off + o + fd.offset, none⟩), ?_, hx.1, by rw [Nat.add_assoc]⟩
            simp [execOp, Instr.fieldAt, run_und hu, hf, hx.2, Instr.sureAddr, fieldPlace, run_size hsz, add_off]
          · cases hq
        · cases h
      · cases h
    · cases h
  | indexAddr t x i =>
    simp only [trOp?, Option.bind_eq_some_iff] at h
    obtain ⟨el, h1, n, h2, x', h3, i', h4, h5⟩ := h
    simp at h5; subst h5
    have hx := he.eval h3
    have hi := he.eval h4
    simp only [qv, idxA] at hq
    split at hq
    · rename_i r o m k ii hxe hie
      rw [hxe] at hx
      rw [hie] at hi
      split at hq
      · rename_i hb
        simp at hq; subst hq
        simp only [VR] at hx hi ⊢
        obtain ⟨hd, c, hx, hle, _⟩ := hx
        refine ⟨.pointer (some ⟨(κ r).blk, (κ r).off + o + ii.toNat * n, none⟩), ?_, hd, by rw [Nat.add_assoc]⟩
        simp [execOp, Instr.indexAt, hi, hx, asIntOf, run_und (elemOfSl_eq h1), hb.1, hb.2, run_size h2, add_off]
      · cases hq
    · cases hq
  | extract x i =>
    simp only [trOp?, Option.bind_eq_some_iff] at h
    obtain ⟨y, h1, h2⟩ := h
    simp at h2; subst h2
    have hx := he.eval h1
    simp only [qv] at hq
    split at hq
    · rename_i l hl
      rw [hl] at hx
      simp only [VR] at hx
      obtain ⟨cs, hx, hcs⟩ := hx
      obtain ⟨rv, h3, h4⟩ := hcs.get i v hq
      exact ⟨rv, by simp [execOp, Instr.extract, hx, h3], h4⟩
    · cases hq
  | slice t x lo hi mx =>
    simp only [trOp?, Option.bind_eq_some_iff] at h
    obtain ⟨el, h1, sz, h2, x', h3, lo', h4, hi', h5, h6⟩ := h
    split at h6
    · rename_i hmx
      obtain ⟨hmx, hsz⟩ := hmx
      simp only [Option.some.injEq, AOp.q.injEq] at h6; subst h6
      have hmx' : mx = none := by cases mx <;> simp at hmx ⊢
      subst hmx'
      have hx := he.eval h3
      simp only [qv] at hq
      have hlo : ∀ l, (match lo'.map (ev e) with | some v => intOfA v | none => some 0) = some l → (lo = none ∧ l = 0) ∨ ∃ y k, lo = some y ∧ a.eval y = .int k l := by
        intro l hl
        cases lo with
        | none => simp at h4; subst h4; simp at hl; exact .inl ⟨rfl, hl.symm⟩
        | some y =>
          simp only [Option.map_eq_some_iff] at h4
          obtain ⟨y', h7, h8⟩ := h4
          subst h8
          simp only [Option.map_some] at hl
          obtain ⟨k, hk⟩ := intOfA_eq hl
          have hy := he.eval h7
          rw [hk] at hy
          simp only [VR] at hy
          exact .inr ⟨y, k, rfl, hy⟩
      have hhi : ∀ n l, (match hi'.map (ev e) with | some v => intOfA v | none => some n) = some l → (hi = none ∧ l = n) ∨ ∃ y k, hi = some y ∧ a.eval y = .int k l := by
        intro n l hl
        cases hi with
        | none => simp at h5; subst h5; simp at hl; exact .inl ⟨rfl, hl.symm⟩
        | some y =>
          simp only [Option.map_eq_some_iff] at h5
          obtain ⟨y', h7, h8⟩ := h5
          subst h8
          simp only [Option.map_some] at hl
          obtain ⟨k, hk⟩ := intOfA_eq hl
          have hy := he.eval h7
          rw [hk] at hy
          simp only [VR] at hy
          exact .inr ⟨y, k, rfl, hy⟩
      have key : ∀ (ad : Option Addr) (n c : Nat), a.eval x = .slice ad n c → n ≤ c → ∀ (h l : Int), 
          (match hi'.map (ev e) with | some v => intOfA v | none => some (n : Int)) = some h → (match lo'.map (ev e) with | some v => intOfA v | none => some 0) = some l →
          0 ≤ l → l ≤ h → h ≤ n → (execOp a.eval { dst, op := .slice t x lo hi none, type := ty, pos, after, guard }).run P w =
            .ok (.value (.slice (if c = l.toNat then ad else ad.map (·.add (l.toNat * sz))) (h.toNat - l.toNat) (c - l.toNat))) w := by
        intro ad n c hxe hnc h l hh hl h0 h01 h02
        have hsb : (Instr.sliceBounds true n c (lo.map a.eval) (hi.map a.eval) none).run P w = .ok (l.toNat, h.toNat, c) w := by
          have hh' := hhi _ _ hh
          have hl' := hlo _ hl
          rcases hh' with ⟨rfl, rfl⟩ | ⟨y, k, rfl, hy⟩ <;> rcases hl' with ⟨rfl, rfl⟩ | ⟨z, k', rfl, hz⟩
          · simp [Instr.sliceBounds]
          · simp [Instr.sliceBounds, hz, run_sliceBound h0 h01]
          · simp [Instr.sliceBounds, hy, run_sliceBound (y := c) (show 0 ≤ h by omega) (by omega)]
          · simp [Instr.sliceBounds, hy, hz, run_sliceBound (y := c) (show 0 ≤ h by omega) (by omega), run_sliceBound (y := h.toNat) h0 (by omega)]
        simp [execOp, Instr.sliceAt, run_und (elemOfSl_eq h1), Instr.slice, hxe, hsb, run_size h2]
      simp only [slA] at hq
      split at hq
      · cases hq
      · rename_i n hn
        split at hq
        · rename_i hh l hhh hll
          split at hq
          · rename_i hb
            obtain ⟨hb0, hb1, hb2⟩ := hb
            split at hq
            · rename_i r o m hxe
              rw [hxe] at hx hn
              simp only [lenA, Option.some.injEq] at hn; subst hn
              simp only [VR] at hx
              obtain ⟨hd, c, hxv, hmc, hcm, hoc⟩ := hx
              have hrun := key _ _ _ hxv hmc hh l hhh hll hb0 hb1 hb2
              refine ⟨_, hrun, ?_⟩
              simp only [Option.some.injEq] at hq; subst hq
              by_cases hhl : hh = l
              · rw [if_pos hhl, hhl, Nat.sub_self]
                split
                · simp only [VR]; exact ⟨_, _, rfl⟩
                · simp only [VR, Option.map_some]; exact ⟨_, _, rfl⟩
              · rw [if_neg hhl, if_neg (by omega)]
                simp only [VR, Option.map_some, add_off]
                refine ⟨hd, c - l.toNat, ?_, by omega, by omega, fun ho => ?_⟩
                · have : (hh - l).toNat = hh.toNat - l.toNat := by omega
                  rw [this, Nat.add_assoc]
                · have ho1 : o = 0 := by omega
                  have ho2 : l.toNat * sz = 0 := by omega
                  have hl0 : l.toNat = 0 := by
                    rcases Nat.mul_eq_zero.1 ho2 with h | h
                    · exact h
                    · omega
                  rw [hl0, Nat.sub_zero]
                  exact hoc ho1
            · rename_i hns
              simp only [Option.some.injEq] at hq; subst hq
              have hcase : (ev e x' = .nils ∧ n = 0) ∨ (ev e x' = .emp ∧ n = 0) := by
                cases hv : ev e x' <;> simp [hv, lenA] at hn hns ⊢ <;> omega
              rcases hcase with ⟨hv, rfl⟩ | ⟨hv, rfl⟩
              · rw [hv] at hx ⊢
                simp only [VR] at hx
                have hrun := key _ _ _ hx (Nat.le_refl _) hh l hhh hll hb0 hb1 hb2
                have h0 : l.toNat = 0 := by omega
                have h1' : hh.toNat = 0 := by omega
                rw [h0, h1'] at hrun
                exact ⟨_, hrun, by simp [VR]⟩
              · rw [hv] at hx ⊢
                simp only [VR] at hx
                obtain ⟨ad, c, hx⟩ := hx
                have hrun := key _ _ _ hx (Nat.zero_le _) hh l hhh hll hb0 hb1 hb2
                refine ⟨_, hrun, ?_⟩
                have h1' : hh.toNat - l.toNat = 0 := by omega
                simp only [VR]
                rw [h1']
                split
                · exact ⟨_, _, rfl⟩
                · exact ⟨_, _, rfl⟩
          · cases hq
        · cases hq
    · cases h6
  | build t ps => exact absurd rfl (hnb t ps)
  | call c =>
    obtain ⟨callee, args, tys⟩ := c
    cases callee with
    | value f =>
      simp only [trOp?, trCall, Option.bind_eq_some_iff] at h
      obtain ⟨_, _, _, _, h2⟩ := h
      simp at h2
    | invoke r m => simp [trOp?, trCall] at h
    | builtin b =>
      simp only [trOp?, trCall, Option.bind_eq_some_iff] at h
      obtain ⟨l, h1, h2⟩ := h
      have hl := he.evals h1
      split at h2
      · rename_i x t htys
        simp only [Option.bind_eq_some_iff] at h2
        obtain ⟨el, h3, h4⟩ := h2
        simp at h4; subst h4
        simp only [List.map_cons, List.map_nil, VRs] at hl
        obtain ⟨rv, r, h5, h6, rfl⟩ := hl
        simp only [qv] at hq
        split at hq
        · rename_i n hn
          simp only [Option.some.injEq] at hq; subst hq
          have hav : args.map a.eval = #[rv] := by apply Array.ext'; simpa using h5
          have htv : tys = #[t] := by apply Array.ext'; simpa using htys
          have hrv : ∃ ad c, rv = .slice ad n c := by
            cases hx : ev e x <;> simp [hx, lenA] at hn h6 <;> simp only [VR] at h6
            · subst hn; exact ⟨_, _, h6⟩
            · subst hn; obtain ⟨ad, c, h6⟩ := h6; exact ⟨_, _, h6⟩
            · subst hn; obtain ⟨_, c, h6, _⟩ := h6; exact ⟨_, _, h6⟩
          obtain ⟨ad, c, rfl⟩ := hrv
          refine ⟨goInt n, ?_, by simp only [VR, goInt]⟩
          simp [execOp, resolve, invoke, builtin, hav, htv, Builtin.len_, run_und (elemOfSl_eq h3)]
        · cases hq
      · simp only [Option.bind_eq_some_iff] at h2
        obtain ⟨_, _, _, _, h2⟩ := h2
        split at h2
        · simp only [Option.bind_eq_some_iff] at h2
          obtain ⟨_, _, h2⟩ := h2
          simp at h2
        · cases h2
      · simp only [Option.bind_eq_some_iff] at h2
        obtain ⟨_, _, _, _, h2⟩ := h2
        split at h2 <;> simp at h2
      · simp only [Option.bind_eq_some_iff] at h2
        obtain ⟨_, _, _, _, h2⟩ := h2
        split at h2 <;> simp at h2
      · simp at h2; subst h2
        simp only [qv] at hq
        obtain ⟨x, rest, rv, h5, h3, h4⟩ := mm_sound (P := P) (w := w) true hl hq
        refine ⟨rv, ?_, h4⟩
        simp only [if_true] at h3
        simp [execOp, resolve, invoke, builtin, Builtin.max_, h5, h3]
      · simp at h2; subst h2
        simp only [qv] at hq
        obtain ⟨x, rest, rv, h5, h3, h4⟩ := mm_sound (P := P) (w := w) false hl hq
        refine ⟨rv, ?_, h4⟩
        simp only [Bool.false_eq_true, if_false] at h3
        simp [execOp, resolve, invoke, builtin, Builtin.min_, h5, h3]
      · cases h2
  | alloc t => simp only [trOp?, Option.bind_eq_some_iff] at h; obtain ⟨_, _, h2⟩ := h; simp at h2
  | box t x => simp only [trOp?, Option.bind_eq_some_iff] at h; obtain ⟨_, _, _, _, h2⟩ := h; simp at h2
  | buildSlice t n ps =>
    simp only [trOp?, Option.bind_eq_some_iff] at h
    obtain ⟨_, _, _, _, _, _, h2⟩ := h
    split at h2 <;> simp at h2
  | store t x y => simp only [trOp?, Option.bind_eq_some_iff] at h; obtain ⟨_, _, _, _, _, _, h2⟩ := h; simp at h2
  | makeSlice t x y =>
    simp only [trOp?, Option.bind_eq_some_iff] at h
    obtain ⟨_, _, _, _, _, _, _, _, _, _, h2⟩ := h
    split at h2 <;> simp at h2
  | _ => simp [trOp?] at h
end ops
end Go.AL

/-
  Parts laid into cells; the operations that make one new row.
-/
namespace Go.AL
set_option linter.unusedSimpArgs false
set_option linter.unusedVariables false

theorem splice_get {α : Type} {l cs : List α} {o : Nat} (h : o + cs.length ≤ l.length) (i : Nat) :
    (splice l o cs)[i]? = if o ≤ i ∧ i < o + cs.length then cs[i - o]? else l[i]? := by
  unfold splice
  by_cases h1 : i < o
  · rw [if_neg (by omega), List.append_assoc, List.getElem?_append_left (by simp; omega), List.getElem?_take_of_lt h1]
  · by_cases h2 : i < o + cs.length
    · rw [if_pos ⟨by omega, h2⟩, List.getElem?_append_left (by simp; omega), List.getElem?_append_right (by simp; omega)]
      congr 1; simp; omega
    · rw [if_neg (by omega), List.getElem?_append_right (by simp; omega), List.getElem?_drop]
      congr 1; simp; omega

theorem splice_length {α : Type} {l cs : List α} {o : Nat} (h : o + cs.length ≤ l.length) : (splice l o cs).length = l.length := by
  unfold splice; simp; omega

theorem foldl_set (off : Nat) : ∀ (l : List Value) (k : Nat) (cells : Array Value),
    ((l.zipIdx k).foldl (fun cs x => cs.setIfInBounds (off + x.2) x.1) cells).size = cells.size ∧
    ∀ i, ((l.zipIdx k).foldl (fun cs x => cs.setIfInBounds (off + x.2) x.1) cells)[i]? = if off + k ≤ i ∧ i < off + k + l.length ∧ i < cells.size then l[i - (off + k)]? else cells[i]?
  | [], k, cells => by simp; intro i h1 h2; omega
  | v :: l, k, cells => by
    obtain ⟨h1, h2⟩ := foldl_set off l (k + 1) (cells.setIfInBounds (off + k) v)
    simp only [List.zipIdx_cons, List.foldl_cons]
    refine ⟨by rw [h1]; simp, fun i => ?_⟩
    rw [h2]
    simp only [Array.size_setIfInBounds, List.length_cons]
    by_cases hi : i = off + k
    · subst hi
      rw [if_neg (by omega)]
      by_cases hs : off + k < cells.size
      · rw [if_pos ⟨by omega, by omega, hs⟩]; simp [hs]
      · rw [if_neg (by omega)]; simp [Array.getElem?_setIfInBounds, hs]
    · by_cases hc : off + (k + 1) ≤ i ∧ i < off + (k + 1) + l.length ∧ i < cells.size
      · rw [if_pos hc, if_pos ⟨by omega, by omega, hc.2.2⟩]
        have : i - (off + k) = (i - (off + (k + 1))) + 1 := by omega
        rw [this, List.getElem?_cons_succ]
      · rw [if_neg hc, if_neg (by omega), Array.getElem?_setIfInBounds_ne (by omega)]

theorem fill_sound {κ : Nat → KB} {D : Nat → Prop} {sz : Nat} (hsz : 0 < sz) (place : Nat → Option (Nat × Nat)) (L : Nat) (hplace : ∀ i, i * sz + sz ≤ L → place i = some (i * sz, sz)) :
    ∀ (parts : List (Nat × AV)) (rparts : List (Nat × Value)) (cells : List AV) (rc : Array Value) (out : List AV),
      parts.length = rparts.length → (∀ (j : Nat) p, parts[j]? = some p → ∃ q, rparts[j]? = some q ∧ q.1 = p.1 ∧ VR κ D p.2 q.2) →
      cells.length = L → VRs κ D cells rc.toList → (∀ c ∈ cells, c.scal = true) → fillA sz cells parts = some out →
      ∃ ro, Instr.fill place rc rparts = some ro ∧ VRs κ D out ro.toList ∧ (∀ c ∈ out, c.scal = true) ∧ out.length = L
  | [], rp, cells, rc, out, hl, _, hL, hv, hs, h => by
    have : rp = [] := List.eq_nil_of_length_eq_zero (by simpa using hl.symm)
    subst this
    simp only [fillA, Option.some.injEq] at h
    subst h
    exact ⟨rc, by simp [Instr.fill], hv, hs, hL⟩
  | (i, v) :: parts, [], cells, rc, out, hl, _, hL, hv, hs, h => by simp at hl
  | (i, v) :: parts, (i', rv) :: rp, cells, rc, out, hl, hm, hL, hv, hs, h => by
    obtain ⟨q, hq, hq1, hq2⟩ := hm 0 (i, v) (by simp)
    simp at hq; subst hq
    simp at hq1; subst hq1
    simp only [fillA] at h
    split at h
    · cases h
    · rename_i cs hcs
      split at h
      · rename_i hc
        obtain ⟨hc1, hc2⟩ := hc
        have hvc := hq2.cells hcs
        have hvl := hvc.length
        simp only [Array.length_toList] at hvl
        have hrl := hv.length
        simp only [Array.length_toList] at hrl
        obtain ⟨hf1, hf2⟩ := foldl_set (i' * sz) rv.cells.toList 0 rc
        have hnew : VRs κ D (splice cells (i' * sz) cs) (((rv.cells.toList.zipIdx 0).foldl (fun cs x => cs.setIfInBounds (i' * sz + x.2) x.1) rc).toList) := by
          refine VRs.of_get ?_ fun j a hj => ?_
          · rw [Array.length_toList, hf1, splice_length (by omega)]; omega
          · rw [splice_get (by omega)] at hj
            rw [Array.getElem?_toList, hf2]
            split at hj
            · rename_i hin
              rw [if_pos (by simp; omega)]
              obtain ⟨u, hu1, hu2⟩ := hvc.get _ _ hj
              exact ⟨u, by simpa using hu1, hu2⟩
            · rename_i hin
              rw [if_neg (by simp; omega)]
              obtain ⟨u, hu1, hu2⟩ := hv.get _ _ hj
              exact ⟨u, by simpa using hu1, hu2⟩
        have hscal : ∀ c ∈ splice cells (i' * sz) cs, c.scal = true := by
          intro c hcm
          simp only [splice, List.mem_append] at hcm
          rcases hcm with (hcm | hcm) | hcm
          · exact hs c (List.mem_of_mem_take hcm)
          · exact AV.cells?_scal hcs c hcm
          · exact hs c (List.mem_of_mem_drop hcm)
        obtain ⟨ro, hr1, hr2, hr3, hr4⟩ := fill_sound hsz place L hplace parts rp _ _ out (by simpa using hl) (fun j p hj => by have := hm (j + 1) p (by simpa using hj); simpa using this)
          (by rw [splice_length (by omega)]; exact hL) hnew hscal h
        refine ⟨ro, ?_, hr2, hr3, hr4⟩
        simp only [Instr.fill, hplace i' (by omega)]
        rw [if_neg (by simp; omega)]
        rw [← hr1, ← Array.foldl_toList]
        congr 2
        simp
      · cases h

section ops
variable {P : Program} {w0 : World} {κ : Nat → KB} {H : Hp} {w : World} {N : Nat} {e : Env} {a : Act}

theorem EnvRel.parts {D : Nat → Prop} (he : EnvRel κ D N e a.tmps) : ∀ {xs : List (Nat × Operand)} {ys : List (Nat × Opd)}, trPs xs = some ys →
    (ys.map fun p => (p.1, ev e p.2)).length = (xs.map fun p => (p.1, a.eval p.2)).length ∧
    ∀ (j : Nat) p, (ys.map fun p => (p.1, ev e p.2))[j]? = some p → ∃ q, (xs.map fun p => (p.1, a.eval p.2))[j]? = some q ∧ q.1 = p.1 ∧ VR κ D p.2 q.2
  | [], ys, h => by simp [trPs] at h; subst h; simp
  | x :: xs, ys, h => by
    simp only [trPs, Option.bind_eq_some_iff] at h
    obtain ⟨y, h1, r, h2, h3⟩ := h
    simp at h3; subst h3
    obtain ⟨h4, h5⟩ := EnvRel.parts he h2
    refine ⟨by simp at h4 ⊢; exact h4, fun j p hj => ?_⟩
    cases j with
    | zero => simp at hj; subst hj; exact ⟨(x.1, a.eval x.2), by simp, rfl, he.eval h1⟩
    | succ j => simp only [List.map_cons, List.getElem?_cons_succ] at hj ⊢; exact h5 j p hj

theorem flatFields_get : ∀ (l : List Field) (k : Nat), flatFields P l k = true → ∀ (i : Nat) f, l[i]? = some f → f.offset = k + i ∧ sizeA P f.type = some 1
  | [], k, _, i, f, hf => by simp at hf
  | g :: l, k, h, i, f, hf => by
    simp only [flatFields, Bool.and_eq_true, flatField, beq_iff_eq] at h
    cases i with
    | zero => simp at hf; subst hf; exact ⟨by omega, h.1.2⟩
    | succ i =>
      simp at hf
      obtain ⟨h1, h2⟩ := flatFields_get l (k + 1) h.2 i f hf
      exact ⟨by omega, h2⟩

theorem run_mapM_ok {α β : Type} (f : α → Sem β) (g : α → β) (w : World) : ∀ (l : List α), (∀ x ∈ l, (f x).run P w = .ok (g x) w) → (l.mapM f).run P w = .ok (l.map g) w
  | [], _ => by simp
  | x :: l, h => by
    rw [List.mapM_cons]
    simp only [Sem.run_bind]
    rw [h x (by simp)]
    simp only [Result.andThen]
    rw [run_mapM_ok f g w l fun y hy => h y (by simp [hy])]
    simp [Result.andThen]

theorem build_sound {dst : Option Tmp} {ty : TypeId} {pos : String} {after : Array Edge} {guard : Option (Nat × Bool)} {t : TypeId} {ps : Array (Nat × Operand)} {qo : QOp} {v : AV}
    (h : trOp? P (.build t ps) = some (.q qo)) (hq : qv e H qo = some v) (he : EnvRel κ (dom H) N e a.tmps) :
    ∃ rv, (execOp a.eval { dst, op := .build t ps, type := ty, pos, after, guard }).run P w = .ok (.value rv) w ∧ VR κ (dom H) v rv := by
  simp only [trOp?] at h
  split at h
  · rename_i fs hu
    split at h
    · rename_i hflat
      simp only [Option.bind_eq_some_iff] at h
      obtain ⟨zs, h1, ps', h2, h3⟩ := h
      split at h3
      · rename_i hlen
        simp only [Option.some.injEq, AOp.q.injEq] at h3; subst h3
        simp only [qv] at hq
        split at hq
        · rename_i cs hcs
          simp only [Option.some.injEq] at hq; subst hq
          obtain ⟨i, z, hi, hz, hzs, hisz, hscal, hzv⟩ := zeros_spec h1
          obtain ⟨hp1, hp2⟩ := he.parts h2
          have hplaces : (fs.mapM (fun f => do pure (f.offset, ← sizeOf f.type) : Field → Sem (Nat × Nat))).run P w = .ok (fs.map fun f => (f.offset, 1)) w := by
            rw [Array.mapM_eq_mapM_toList, map_eq_pure_bind, Sem.run_bind,
              run_mapM_ok _ (fun f : Field => (f.offset, 1)) w fs.toList fun f hf => by
                obtain ⟨i, hi⟩ := List.getElem?_of_mem hf
                simp [run_size (flatFields_get _ 0 hflat i f hi).2]]
            simp only [Result.andThen, Function.comp, Sem.run_pure]
            rw [← Array.toList_map, Array.toArray_toList]
          have hplace : ∀ i, i * 1 + 1 ≤ zs.length → (fs.map fun f => (f.offset, 1))[i]? = some (i * 1, 1) := by
            intro i hi
            have hlt : i < fs.size := by omega
            obtain ⟨h4, _⟩ := flatFields_get _ 0 hflat i fs[i] (by simp [hlt])
            simp [hlt, h4]
          obtain ⟨ro, hr1, hr2, _, _⟩ := fill_sound (κ := κ) (D := dom H) (sz := 1) (by omega) _ zs.length hplace _ _ zs z.cells cs hp1 hp2 rfl (hzv κ (dom H)) hscal hcs
          refine ⟨.agg ro, ?_, by simp only [VR]; exact ⟨ro.toList, by simp, hr2⟩⟩
          have hz0 : (zeroValue t).run P w = .ok z w := by simp [zeroValue, typeInfo, hi, hz]
          have hparts : (ps.map fun x => (x.1, a.eval x.2)).toList = ps.toList.map fun p => (p.1, a.eval p.2) := by simp
          simp only [execOp, Instr.build, Sem.run_bind, hz0, Result.andThen, run_und hu, hplaces]
          simp only [hparts]
          have hr1' : Instr.fill (fun x => (fs.map fun f => (f.offset, 1))[x]?) z.cells (ps.toList.map fun p => (p.1, a.eval p.2)) = some ro := hr1
          rw [hr1']
          rfl
        · cases hq
      · cases h3
    · cases h
  · cases h
end ops
end Go.AL

/-
  Heaps that change: a new row, a row that is written, a row that is handed on.
-/
namespace Go.AL
set_option linter.unusedSimpArgs false
set_option linter.unusedVariables false

def updk (κ : Nat → KB) (r : Nat) (b : KB) : Nat → KB := fun q => if q = r then b else κ q

theorem updk_self (κ : Nat → KB) (r : Nat) (b : KB) : updk κ r b r = b := by simp [updk]
theorem updk_ne {κ : Nat → KB} {r q : Nat} {b : KB} (h : q ≠ r) : updk κ r b q = κ q := by simp [updk, h]
theorem Hp.set_self (H : Hp) (r : Nat) (x : Row) : H.set r x r = some x := by simp [Hp.set]
theorem Hp.set_ne {H : Hp} {r q : Nat} {x : Row} (h : q ≠ r) : H.set r x q = H q := by simp [Hp.set, h]

theorem dom_set {H : Hp} {r : Nat} {x : Row} : ∀ q, dom H q → dom (H.set r x) q := by
  intro q hq
  by_cases h : q = r
  · subst h; simp [dom, Hp.set]
  · simpa [dom, Hp.set, h] using hq

theorem Same.refl (w : World) : Same w w := ⟨rfl, rfl, rfl, Nat.le_refl _, fun _ _ => rfl⟩

section
variable {P : Program} {w0 : World} {κ : Nat → KB} {H : Hp} {w : World}

theorem Trans.refl (B : Nat) (κ : Nat → KB) (H : Hp) (w : World) : Trans B κ H w κ H w :=
  ⟨fun r h => ⟨rfl, h⟩, fun r row row' h h' ho => by rw [h] at h'; cases h'; exact ho, fun r _ h => h, fun r row h h' => (by rw [h] at h'; cases h'), fun _ _ _ => rfl, Nat.le_refl _⟩

theorem Trans.trans {B : Nat} {κ1 κ2 κ3 : Nat → KB} {H1 H2 H3 : Hp} {w1 w2 w3 : World} (h : Trans B κ1 H1 w1 κ2 H2 w2) (k : Trans B κ2 H2 w2 κ3 H3 w3) : Trans B κ1 H1 w1 κ3 H3 w3 := by
  refine ⟨fun r hr => ?_, fun r row row' h1 h3 ho => ?_, fun r hb hn => ?_, fun r row hn h3 ho => ?_, fun b hb hf => ?_, Nat.le_trans h.size k.size⟩
  · obtain ⟨a, b⟩ := h.kext r hr
    obtain ⟨c, d⟩ := k.kext r b
    exact ⟨c.trans a, d⟩
  · obtain ⟨a, b⟩ := h.kext r (by rw [h1]; simp)
    cases h2 : H2 r with
    | none => exact absurd h2 b
    | some row2 => exact h.own r row row2 h1 h2 (k.own r row2 row' h2 h3 ho)
  · exact k.avoid r hb (h.avoid r hb hn)
  · cases h2 : H2 r with
    | none =>
      rcases k.fresh r row h2 h3 ho with hs | ⟨q, rq, hq, hqo, hqb⟩
      · exact .inl (Nat.le_trans h.size hs)
      · cases h1 : H1 q with
        | none =>
          rcases h.fresh q rq h1 hq hqo with hs | ⟨p, rp, hp, hpo, hpb⟩
          · exact .inl (by rw [hqb]; exact hs)
          · exact .inr ⟨p, rp, hp, hpo, hqb.trans hpb⟩
        | some rq1 =>
          refine .inr ⟨q, rq1, h1, h.own q rq1 rq h1 hq hqo, ?_⟩
          rw [hqb, (h.kext q (by rw [h1]; simp)).1]
    | some row2 =>
      obtain ⟨a, b⟩ := k.kext r (by rw [h2]; simp)
      have ho2 := k.own r row2 row h2 h3 ho
      rw [a]
      exact h.fresh r row2 hn h2 ho2
  · have h2 : ∀ r row, H2 r = some row → row.own = true → (κ2 r).blk ≠ b := by
      intro r row hr ho
      cases h1 : H1 r with
      | none =>
        rcases h.fresh r row h1 hr ho with hs | ⟨q, rq, hq, hqo, hqb⟩
        · omega
        · rw [hqb]; exact hf q rq hq hqo
      | some row1 =>
        rw [(h.kext r (by rw [h1]; simp)).1]
        exact hf r row1 h1 (h.own r row1 row h1 hr ho)
    rw [k.frame b (Nat.lt_of_lt_of_le hb h.size) h2]
    exact h.frame b hb hf

theorem Trans.vr {B : Nat} {κ' : Nat → KB} {H' : Hp} {w' : World} (h : Trans B κ H w κ' H' w') {a : AV} {v : Value} (hv : VR κ (dom H) a v) : VR κ' (dom H') a v :=
  VR.mono (fun r hr => h.kext r hr) a v hv

theorem Trans.env {B : Nat} {κ' : Nat → KB} {H' : Hp} {w' : World} (h : Trans B κ H w κ' H' w') {N : Nat} {e : Env} {t : Array Value} (he : EnvRel κ (dom H) N e t) : EnvRel κ' (dom H') N e t :=
  ⟨he.1, fun i => h.vr (he.2 i)⟩

theorem Rel.lt (hr : Rel P w0 κ H w) {r : Nat} {row : Row} (h : H r = some row) (ho : row.own = true) : (κ r).blk < w.heap.size := by
  obtain ⟨cur, h1, _⟩ := (hr.rows r row h).own ho
  exact (Array.getElem?_eq_some_iff.1 h1).1

/-- The program has drawn an answer. -/
theorem Rel.drew (hr : Rel P w0 κ H w) {w' : World} (h1 : w'.heap = w.heap) (h2 : w'.os = w.os) (h3 : w'.tape = w.tape) (h4 : w'.output = w.output) (B : Nat) :
    Rel P w0 κ H w' ∧ Trans B κ H w κ H w' := by
  refine ⟨⟨⟨h2.trans hr.same.os, h3.trans hr.same.tape, h4.trans hr.same.output, by rw [h1]; exact hr.same.size, fun k hk => by rw [h1]; exact hr.same.block k hk⟩, fun r row hrow => ?_, hr.inj, hr.fin⟩, ?_⟩
  · obtain ⟨a, b, c⟩ := hr.rows r row hrow
    exact ⟨a, fun ho => by rw [h1]; exact b ho, c⟩
  · exact ⟨fun r h => ⟨rfl, h⟩, fun r row row' h h' ho => by rw [h] at h'; cases h'; exact ho, fun r _ h => h, fun r row h h' => (by rw [h] at h'; cases h'), fun _ _ _ => by rw [h1], by rw [h1]; exact Nat.le_refl _⟩

/-- A new row of the calls' own, in a new block. -/
theorem Rel.new (hr : Rel P w0 κ H w) {w' : World} {g : Nat} {cur : Array Value} {row : Row} {sz : Nat} {r : Nat} (hfr : H r = none)
    (hg : w.heap.size ≤ g) (hb : w'.heap[g]? = some (.cells cur row.ty (0, 0))) (hoth : ∀ k, k < w.heap.size → w'.heap[k]? = w.heap[k]?) (hsize : w.heap.size ≤ w'.heap.size)
    (h2 : w'.os = w.os) (h3 : w'.tape = w.tape) (h4 : w'.output = w.output)
    (hown : row.own = true) (hsz : sizeA P row.ty = some sz) (hlen : row.cells.length ≤ cur.size) (hscal : ∀ c ∈ row.cells, c.scal = true)
    (hcells : ∀ (i : Nat) (c : AV), row.cells[i]? = some c → ∃ v : Value, cur[i]? = some v ∧ VR κ (dom H) c v) (B : Nat) (hB : B ≤ r) :
    Rel P w0 (updk κ r ⟨g, 0, cur.size, sz⟩) (H.set r row) w' ∧ Trans B κ H w (updk κ r ⟨g, 0, cur.size, sz⟩) (H.set r row) w' := by
  have hext : ∀ q, dom H q → updk κ r ⟨g, 0, cur.size, sz⟩ q = κ q ∧ dom (H.set r row) q := by
    intro q hq
    refine ⟨updk_ne fun e => ?_, dom_set q hq⟩
    subst e; exact hq hfr
  refine ⟨⟨⟨h2.trans hr.same.os, h3.trans hr.same.tape, h4.trans hr.same.output, Nat.le_trans hr.same.size hsize, fun k hk => ?_⟩, fun q rq hq => ?_, ?_, ?_⟩, ?_⟩
  · rw [hoth k (Nat.lt_of_lt_of_le hk hr.same.size)]; exact hr.same.block k hk
  · by_cases hqr : q = r
    · subst hqr
      rw [Hp.set_self] at hq; cases hq
      refine ⟨hscal, fun _ => ⟨cur, ?_, ?_, ?_, ?_, ?_, hlen, fun i c hi => ?_⟩, fun h => by rw [hown] at h; cases h⟩
      · rw [updk_self]; exact hb
      · rw [updk_self]
      · rw [updk_self]; exact Nat.le_trans hr.same.size hg
      · rw [updk_self]
      · rw [updk_self]; exact hsz
      · obtain ⟨v, hv, hvr⟩ := hcells i c hi
        exact ⟨v, hv, VR.mono hext c v hvr⟩
    · rw [Hp.set_ne hqr] at hq
      obtain ⟨a, b, c⟩ := hr.rows q rq hq
      have hκ : updk κ r ⟨g, 0, cur.size, sz⟩ q = κ q := updk_ne hqr
      refine ⟨a, fun ho => ?_, fun ho i x hi => ?_⟩
      · obtain ⟨cur', b1, b2, b3, b4, b5, b6, b7⟩ := b ho
        rw [hκ]
        refine ⟨cur', ?_, b2, b3, b4, b5, b6, fun i x hi => ?_⟩
        · rw [hoth _ (Array.getElem?_eq_some_iff.1 b1).1]; exact b1
        · obtain ⟨v, hv, hvr⟩ := b7 i x hi
          exact ⟨v, hv, VR.mono hext x v hvr⟩
      · rw [hκ]
        obtain ⟨c1, v, c2, c3⟩ := c ho i x hi
        exact ⟨c1, v, c2, VR.mono hext x v c3⟩
  · intro q q' rq rq' hq hq' ho ho' hblk
    by_cases h1 : q = r <;> by_cases h1' : q' = r
    · rw [h1, h1']
    · subst h1
      rw [Hp.set_ne h1'] at hq'
      rw [updk_self, updk_ne h1'] at hblk
      have := hr.lt hq' ho'
      simp only at hblk
      omega
    · subst h1'
      rw [Hp.set_ne h1] at hq
      rw [updk_self, updk_ne h1] at hblk
      have := hr.lt hq ho
      simp only at hblk
      omega
    · rw [Hp.set_ne h1] at hq
      rw [Hp.set_ne h1'] at hq'
      rw [updk_ne h1, updk_ne h1'] at hblk
      exact hr.inj q q' rq rq' hq hq' ho ho' hblk
  · obtain ⟨n, hn⟩ := hr.fin
    refine ⟨max n (r + 1), fun q hq => ?_⟩
    rw [Hp.set_ne (by omega)]
    exact hn q (by omega)
  · refine ⟨fun q hq => hext q hq, fun q rq rq' hq hq' ho => ?_, fun q hb' hq => ?_, fun q rq hq hq' ho => ?_, fun b hb' _ => hoth b hb', hsize⟩
    · have hqr : q ≠ r := fun e => by subst e; rw [hfr] at hq; cases hq
      rw [Hp.set_ne hqr, hq] at hq'; cases hq'; exact ho
    · have hqr : q ≠ r := by omega
      rw [Hp.set_ne hqr]; exact hq
    · by_cases hqr : q = r
      · subst hqr; rw [updk_self]; exact .inl hg
      · rw [Hp.set_ne hqr, hq] at hq'; cases hq'

/-- A row of the calls' own is written. -/
theorem Rel.write (hr : Rel P w0 κ H w) {w' : World} {cur cur' : Array Value} {row : Row} {cells : List AV} {r : Nat} (hH : H r = some row) (hown : row.own = true)
    (hcur : w.heap[(κ r).blk]? = some (.cells cur row.ty (0, 0)))
    (hb : w'.heap[(κ r).blk]? = some (.cells cur' row.ty (0, 0))) (hoth : ∀ k, k ≠ (κ r).blk → w'.heap[k]? = w.heap[k]?) (hsize : w'.heap.size = w.heap.size)
    (h2 : w'.os = w.os) (h3 : w'.tape = w.tape) (h4 : w'.output = w.output) (hcs : cur'.size = cur.size)
    (hlen : cells.length ≤ cur'.size) (hscal : ∀ c ∈ cells, c.scal = true)
    (hcells : ∀ (i : Nat) (c : AV), cells[i]? = some c → ∃ v : Value, cur'[i]? = some v ∧ VR κ (dom H) c v) (B : Nat) :
    Rel P w0 κ (H.set r ⟨row.ty, true, cells⟩) w' ∧ Trans B κ H w κ (H.set r ⟨row.ty, true, cells⟩) w' := by
  have hext : ∀ q, dom H q → κ q = κ q ∧ dom (H.set r ⟨row.ty, true, cells⟩) q := fun q hq => ⟨rfl, dom_set q hq⟩
  obtain ⟨cur0, o1, o2, o3, o4, o5, o6, o7⟩ := (hr.rows r row hH).own hown
  rw [hcur] at o1
  injection o1 with o1; injection o1 with o1; subst o1
  refine ⟨⟨⟨h2.trans hr.same.os, h3.trans hr.same.tape, h4.trans hr.same.output, by rw [hsize]; exact hr.same.size, fun k hk => ?_⟩, fun q rq hq => ?_, ?_, ?_⟩, ?_⟩
  · rw [hoth k (by omega)]; exact hr.same.block k hk
  · by_cases hqr : q = r
    · subst hqr
      rw [Hp.set_self] at hq; cases hq
      refine ⟨hscal, fun _ => ⟨cur', hb, o2, o3, by omega, o5, hlen, fun i c hi => ?_⟩, fun h => by cases h⟩
      obtain ⟨v, hv, hvr⟩ := hcells i c hi
      exact ⟨v, hv, VR.mono hext c v hvr⟩
    · rw [Hp.set_ne hqr] at hq
      obtain ⟨a, b, c⟩ := hr.rows q rq hq
      refine ⟨a, fun ho => ?_, fun ho i x hi => ?_⟩
      · obtain ⟨cur', b1, b2, b3, b4, b5, b6, b7⟩ := b ho
        refine ⟨cur', ?_, b2, b3, b4, b5, b6, fun i x hi => ?_⟩
        · rw [hoth _ fun e => hqr (hr.inj q r rq row hq hH ho hown e)]; exact b1
        · obtain ⟨v, hv, hvr⟩ := b7 i x hi
          exact ⟨v, hv, VR.mono hext x v hvr⟩
      · obtain ⟨c1, v, c2, c3⟩ := c ho i x hi
        exact ⟨c1, v, c2, VR.mono hext x v c3⟩
  · intro q q' rq rq' hq hq' ho ho' hblk
    have fix : ∀ p rp, (H.set r ⟨row.ty, true, cells⟩) p = some rp → rp.own = true → ∃ rp', H p = some rp' ∧ rp'.own = true := by
      intro p rp hp hpo
      by_cases h : p = r
      · subst h; exact ⟨row, hH, hown⟩
      · rw [Hp.set_ne h] at hp; exact ⟨rp, hp, hpo⟩
    obtain ⟨a, ha, hao⟩ := fix q rq hq ho
    obtain ⟨b, hb, hbo⟩ := fix q' rq' hq' ho'
    exact hr.inj q q' a b ha hb hao hbo hblk
  · obtain ⟨n, hn⟩ := hr.fin
    refine ⟨max n (r + 1), fun q hq => ?_⟩
    rw [Hp.set_ne (by omega)]
    exact hn q (by omega)
  · refine ⟨fun q hq => hext q hq, fun q rq rq' hq hq' ho => ?_, fun q hb' hq => ?_, fun q rq hq hq' ho => ?_, fun b hb' hf => hoth b (Ne.symm (hf r row hH hown)), by rw [hsize]; exact Nat.le_refl _⟩
    · by_cases h : q = r
      · subst h; rw [hH] at hq; cases hq; exact hown
      · rw [Hp.set_ne h, hq] at hq'; cases hq'; exact ho
    · rw [Hp.set_ne (fun e => by subst e; rw [hH] at hq; cases hq)]; exact hq
    · rw [Hp.set_ne (fun e => by subst e; rw [hH] at hq; cases hq), hq] at hq'; cases hq'

/-- A row is handed on. -/
theorem Rel.kill (hr : Rel P w0 κ H w) {row : Row} {r : Nat} (hH : H r = some row) (B : Nat) :
    Rel P w0 κ (H.set r dead) w ∧ Trans B κ H w κ (H.set r dead) w := by
  have hext : ∀ q, dom H q → κ q = κ q ∧ dom (H.set r dead) q := fun q hq => ⟨rfl, dom_set q hq⟩
  refine ⟨⟨hr.same, fun q rq hq => ?_, ?_, ?_⟩, ?_⟩
  · by_cases hqr : q = r
    · subst hqr
      rw [Hp.set_self] at hq; cases hq
      exact ⟨by simp [dead], fun h => by simp [dead] at h, fun _ i c hi => by simp [dead] at hi⟩
    · rw [Hp.set_ne hqr] at hq
      obtain ⟨a, b, c⟩ := hr.rows q rq hq
      refine ⟨a, fun ho => ?_, fun ho i x hi => ?_⟩
      · obtain ⟨cur', b1, b2, b3, b4, b5, b6, b7⟩ := b ho
        refine ⟨cur', b1, b2, b3, b4, b5, b6, fun i x hi => ?_⟩
        obtain ⟨v, hv, hvr⟩ := b7 i x hi
        exact ⟨v, hv, VR.mono hext x v hvr⟩
      · obtain ⟨c1, v, c2, c3⟩ := c ho i x hi
        exact ⟨c1, v, c2, VR.mono hext x v c3⟩
  · intro q q' rq rq' hq hq' ho ho' hblk
    have fix : ∀ p rp, (H.set r dead) p = some rp → rp.own = true → H p = some rp := by
      intro p rp hp hpo
      by_cases h : p = r
      · subst h; rw [Hp.set_self] at hp; cases hp; simp [dead] at hpo
      · rwa [Hp.set_ne h] at hp
    exact hr.inj q q' rq rq' (fix q rq hq ho) (fix q' rq' hq' ho') ho ho' hblk
  · obtain ⟨n, hn⟩ := hr.fin
    refine ⟨max n (r + 1), fun q hq => ?_⟩
    rw [Hp.set_ne (by omega)]
    exact hn q (by omega)
  · refine ⟨fun q hq => hext q hq, fun q rq rq' hq hq' ho => ?_, fun q hb' hq => ?_, fun q rq hq hq' ho => ?_, fun _ _ _ => rfl, Nat.le_refl _⟩
    · by_cases h : q = r
      · subst h; rw [Hp.set_self] at hq'; cases hq'; simp [dead] at ho
      · rw [Hp.set_ne h, hq] at hq'; cases hq'; exact ho
    · rw [Hp.set_ne (fun e => by subst e; rw [hH] at hq; cases hq)]; exact hq
    · rw [Hp.set_ne (fun e => by subst e; rw [hH] at hq; cases hq), hq] at hq'; cases hq'

/-- A row is handed on under a new number, where it lies. -/
theorem Rel.rename (hr : Rel P w0 κ H w) {row : Row} {r r' : Nat} (hH : H r = some row) (hown : row.own = true) (hfr : H r' = none) (B : Nat) (hB : B ≤ r') :
    Rel P w0 (updk κ r' (κ r)) ((H.set r dead).set r' row) w ∧ Trans B κ H w (updk κ r' (κ r)) ((H.set r dead).set r' row) w := by
  have hne : r ≠ r' := fun e => by subst e; rw [hH] at hfr; cases hfr
  have hext : ∀ q, dom H q → updk κ r' (κ r) q = κ q ∧ dom ((H.set r dead).set r' row) q := by
    intro q hq
    refine ⟨updk_ne fun e => ?_, dom_set q (dom_set q hq)⟩
    subst e; exact hq hfr
  have look : ∀ q rq, ((H.set r dead).set r' row) q = some rq → (q = r' ∧ rq = row) ∨ (q = r ∧ rq = dead) ∨ (q ≠ r' ∧ q ≠ r ∧ H q = some rq) := by
    intro q rq hq
    by_cases h1 : q = r'
    · subst h1; rw [Hp.set_self] at hq; cases hq; exact .inl ⟨rfl, rfl⟩
    · rw [Hp.set_ne h1] at hq
      by_cases h2 : q = r
      · subst h2; rw [Hp.set_self] at hq; cases hq; exact .inr (.inl ⟨rfl, rfl⟩)
      · rw [Hp.set_ne h2] at hq; exact .inr (.inr ⟨h1, h2, hq⟩)
  refine ⟨⟨hr.same, fun q rq hq => ?_, ?_, ?_⟩, ?_⟩
  · rcases look q rq hq with ⟨rfl, rfl⟩ | ⟨rfl, rfl⟩ | ⟨h1, h2, h3⟩
    · obtain ⟨a, b, c⟩ := hr.rows r rq hH
      refine ⟨a, fun ho => ?_, fun ho => by rw [hown] at ho; cases ho⟩
      obtain ⟨cur', b1, b2, b3, b4, b5, b6, b7⟩ := b ho
      rw [updk_self]
      refine ⟨cur', b1, b2, b3, b4, b5, b6, fun i x hi => ?_⟩
      obtain ⟨v, hv, hvr⟩ := b7 i x hi
      exact ⟨v, hv, VR.mono hext x v hvr⟩
    · exact ⟨by simp [dead], fun h => by simp [dead] at h, fun _ i c hi => by simp [dead] at hi⟩
    · obtain ⟨a, b, c⟩ := hr.rows q rq h3
      have hκ : updk κ r' (κ r) q = κ q := updk_ne h1
      refine ⟨a, fun ho => ?_, fun ho i x hi => ?_⟩
      · obtain ⟨cur', b1, b2, b3, b4, b5, b6, b7⟩ := b ho
        rw [hκ]
        refine ⟨cur', b1, b2, b3, b4, b5, b6, fun i x hi => ?_⟩
        obtain ⟨v, hv, hvr⟩ := b7 i x hi
        exact ⟨v, hv, VR.mono hext x v hvr⟩
      · obtain ⟨c1, v, c2, c3⟩ := c ho i x hi
        rw [hκ]
        exact ⟨c1, v, c2, VR.mono hext x v c3⟩
  · intro q q' rq rq' hq hq' ho ho' hblk
    rcases look q rq hq with ⟨rfl, rfl⟩ | ⟨rfl, rfl⟩ | ⟨h1, h2, h3⟩
    · rcases look q' rq' hq' with ⟨rfl, rfl⟩ | ⟨rfl, rfl⟩ | ⟨h1', h2', h3'⟩
      · rfl
      · simp [dead] at ho'
      · rw [updk_self, updk_ne h1'] at hblk
        exact absurd (hr.inj r q' _ _ hH h3' hown ho' hblk).symm h2'
    · simp [dead] at ho
    · rcases look q' rq' hq' with ⟨rfl, rfl⟩ | ⟨rfl, rfl⟩ | ⟨h1', h2', h3'⟩
      · rw [updk_self, updk_ne h1] at hblk
        exact absurd (hr.inj q r _ _ h3 hH ho hown hblk) h2
      · simp [dead] at ho'
      · rw [updk_ne h1, updk_ne h1'] at hblk
        exact hr.inj q q' rq rq' h3 h3' ho ho' hblk
  · obtain ⟨n, hn⟩ := hr.fin
    refine ⟨max n (max (r + 1) (r' + 1)), fun q hq => ?_⟩
    rw [Hp.set_ne (by omega), Hp.set_ne (by omega)]
    exact hn q (by omega)
  · refine ⟨fun q hq => hext q hq, fun q rq rq' hq hq' ho => ?_, fun q hb' hq => ?_, fun q rq hq hq' ho => ?_, fun _ _ _ => rfl, Nat.le_refl _⟩
    · rcases look q rq' hq' with ⟨rfl, rfl⟩ | ⟨rfl, rfl⟩ | ⟨h1, h2, h3⟩
      · rw [hfr] at hq; cases hq
      · simp [dead] at ho
      · rw [hq] at h3; cases h3; exact ho
    · rw [Hp.set_ne (by omega), Hp.set_ne (fun e => by subst e; rw [hH] at hq; cases hq)]; exact hq
    · rcases look q rq hq' with ⟨rfl, rfl⟩ | ⟨rfl, rfl⟩ | ⟨h1, h2, h3⟩
      · rw [updk_self]; exact .inr ⟨r, rq, hH, hown, rfl⟩
      · rw [hH] at hq; cases hq
      · rw [hq] at h3; cases h3

theorem Rel.fresh (hr : Rel P w0 κ H w) (B : Nat) : ∃ r, H r = none ∧ B ≤ r := by
  obtain ⟨n, hn⟩ := hr.fin
  exact ⟨max n B, hn _ (by omega), by omega⟩
end
end Go.AL

/-
  One operation of a region: what the predicate transformer says of it holds in the model.
-/
namespace Go.AL
set_option linter.unusedSimpArgs false
set_option linter.unusedVariables false

def rres (g : Nat) : Option Nat → Value
  | none => .pointer (some ⟨g, 0, none⟩)
  | some n => .slice (some ⟨g, 0, none⟩) n n

theorem zerosA_length (zs : List AV) (n : Nat) : (zerosA zs n).length = n * zs.length := by
  simp [zerosA, List.length_flatten]

theorem zerosA_succ (zs : List AV) (n : Nat) : zerosA zs (n + 1) = zs ++ zerosA zs n := by simp [zerosA, List.replicate_succ]

theorem zerosA_get (zs : List AV) (hz : 0 < zs.length) : ∀ (n i : Nat), i < n * zs.length → (zerosA zs n)[i]? = zs[i % zs.length]?
  | 0, i, h => by omega
  | n + 1, i, h => by
    rw [zerosA_succ]
    by_cases hi : i < zs.length
    · rw [List.getElem?_append_left hi, Nat.mod_eq_of_lt hi]
    · rw [List.getElem?_append_right (by omega), zerosA_get zs hz n _ (by rw [Nat.add_mul] at h; omega)]
      congr 1
      rw [← Nat.mod_eq_sub_mod (by omega)]

theorem zerosA_scal {zs : List AV} (h : ∀ c ∈ zs, c.scal = true) (n : Nat) : ∀ c ∈ zerosA zs n, c.scal = true := by
  intro c hc
  simp only [zerosA, List.mem_flatten, List.mem_replicate] at hc
  obtain ⟨l, ⟨_, rfl⟩, hc⟩ := hc
  exact h c hc

theorem VRs_made {κ : Nat → KB} {D : Nat → Prop} {zs : List AV} {z : Array Value} (h : VRs κ D zs z.toList) (n : Nat) : VRs κ D (zerosA zs n) (madeCells z (n * zs.length)).toList := by
  have hl := h.length
  rw [Array.length_toList] at hl
  refine VRs.of_get (by rw [Array.length_toList, size_madeCells, zerosA_length]) fun i a hi => ?_
  have hlt : i < n * zs.length := by
    have := (List.getElem?_eq_some_iff.1 hi).1
    rwa [zerosA_length] at this
  have hz : 0 < zs.length := by
    rcases Nat.eq_zero_or_pos zs.length with h0 | h0
    · rw [h0] at hlt; omega
    · exact h0
  rw [zerosA_get zs hz n i hlt] at hi
  obtain ⟨v, h1, h2⟩ := h.get _ _ hi
  refine ⟨v, ?_, h2⟩
  simp only [madeCells, Array.toList_map, List.getElem?_map, Array.getElem?_toList]
  rw [Array.getElem?_eq_getElem (by simpa using hlt)]
  simp only [Array.getElem_range, Option.map_some, Option.some.injEq, hl]
  rw [Array.getElem?_toList] at h1
  rw [getElem!_def, h1]

section ops
variable {P : Program} {w0 : World} {κ : Nat → KB} {H : Hp} {w : World} {N : Nat} {e : Env} {a : Act}

theorem run_zero {t : TypeId} {zs : List AV} (h : zeros P t = some zs) : ∃ i z, P.info? t = some i ∧ i.zero = some z ∧ (∀ w, (zeroValue t).run P w = .ok z w) ∧ z.cells.size = zs.length ∧ i.size = zs.length ∧
    sizeA P t = some zs.length ∧ (∀ c ∈ zs, c.scal = true) ∧ ∀ (κ : Nat → KB) (D : Nat → Prop), VRs κ D zs z.cells.toList := by
  obtain ⟨i, z, h1, h2, h3, h4, h5, h6⟩ := zeros_spec h
  exact ⟨i, z, h1, h2, fun w => by simp [zeroValue, typeInfo, h1, h2], h3, h4, by simp [sizeA, h1, h4], h5, h6⟩

/-- An operation that makes one row. -/
theorem lop_sound {o : Oper} {lo : LOp} {x : Row × Option Nat} (h : trOp? P o.op = some (.l lo)) (hv : lv e lo = some x) (he : EnvRel κ (dom H) N e a.tmps) :
    ∃ (cells : Array Value) (sz : Nat), (execOp a.eval o).run P w = .ok (.value (rres w.heap.size x.2)) (w.alloc (.cells cells x.1.ty)) ∧
      VRs κ (dom H) x.1.cells cells.toList ∧ (∀ c ∈ x.1.cells, c.scal = true) ∧ x.1.own = true ∧ sizeA P x.1.ty = some sz ∧ ∀ n, x.2 = some n → n * sz = cells.size ∧ n ≤ maxLen := by
  obtain ⟨dst, op, ty, pos, after, guard⟩ := o
  cases op with
  | alloc t =>
    simp only [trOp?, Option.bind_eq_some_iff] at h
    obtain ⟨zs, h1, h2⟩ := h
    simp at h2; subst h2
    simp only [lv, Option.some.injEq] at hv; subst hv
    obtain ⟨i, z, _, _, hz, hzs, _, hsz, hscal, hvr⟩ := run_zero h1
    exact ⟨z.cells, _, by simp [execOp, Instr.alloc, hz, newVar, newRow, rres], hvr _ _, hscal, rfl, hsz, fun n hn => by cases hn⟩
  | box t x =>
    simp only [trOp?, Option.bind_eq_some_iff] at h
    obtain ⟨y, h1, sz, h2, h3⟩ := h
    simp at h3; subst h3
    simp only [lv] at hv
    split at hv
    · rename_i cs hcs
      simp only [Option.some.injEq] at hv; subst hv
      exact ⟨(a.eval x).cells, sz, by simp [execOp, Instr.box, newVar, newRow, rres], (he.eval h1).cells hcs, AV.cells?_scal hcs, rfl, h2, fun n hn => by cases hn⟩
    · cases hv
  | buildSlice t n ps =>
    simp only [trOp?, Option.bind_eq_some_iff] at h
    obtain ⟨el, h1, zs, h2, ps', h3, h4⟩ := h
    split at h4
    · rename_i hc
      simp only [Option.some.injEq, AOp.l.injEq] at h4; subst h4
      simp only [lv] at hv
      split at hv
      · rename_i cs hcs
        simp only [Option.some.injEq] at hv; subst hv
        obtain ⟨i, z, hi, hiz, hz, hzs, _, hsz, hscal, hvr⟩ := run_zero h2
        obtain ⟨hp1, hp2⟩ := he.parts h3
        have hz0 : VRs κ (dom H) (zerosA zs n) (madeCells z.cells (n * zs.length)).toList := VRs_made (hvr _ _) n
        obtain ⟨ro, hr1, hr2, hr3, hr4⟩ := fill_sound (κ := κ) (D := dom H) hc.1 (fun i => some (i * zs.length, zs.length)) (n * zs.length) (fun i _ => rfl) _ _ (zerosA zs n) _ cs hp1 hp2
          (zerosA_length zs n) hz0 (zerosA_scal hscal n) hcs
        refine ⟨ro, zs.length, ?_, hr2, hr3, rfl, hsz, fun m hm => ?_⟩
        · have hparts : (ps.map fun x => (x.1, a.eval x.2)).toList = ps.toList.map fun p => (p.1, a.eval p.2) := by simp
          have hno : ¬ (16777216 < n * zs.length) := by omega
          simp only [execOp, Instr.buildSlice, Sem.run_bind, run_und (elemOfSl_eq h1), Result.andThen, run_size hsz]
          rw [if_neg (by simpa using hno)]
          simp only [hparts]
          have hr1' : Instr.fill (fun i => some (i * zs.length, zs.length)) (madeCells z.cells (n * zs.length)) (ps.toList.map fun p => (p.1, a.eval p.2)) = some ro := hr1
          by_cases h0 : n * zs.length = 0
          · have hm : madeCells z.cells (n * zs.length) = #[] := by rw [h0]; simp [madeCells]
            rw [hm] at hr1'
            have hr0 : Array.range 0 = #[] := rfl
            simp [h0, hr0, hr1', newRow, rres]
          · simp only [madeCells] at hr1'
            simp [h0, hz, hr1', newRow, rres]
        · simp only [Option.some.injEq] at hm; subst hm
          have := hr2.length
          rw [Array.length_toList] at this
          refine ⟨by omega, ?_⟩
          have h1' : n ≤ n * zs.length := Nat.le_mul_of_pos_right n hc.1
          simp only [maxLen]; omega
      · cases hv
    · cases h4
  | makeSlice t n c =>
    simp only [trOp?, Option.bind_eq_some_iff] at h
    obtain ⟨el, h1, zs, h2, i, h3, n', h4, c', h5, h6⟩ := h
    split at h6
    · rename_i hpos
      simp only [Option.some.injEq, AOp.l.injEq] at h6; subst h6
      have hn := he.eval h4
      have hcp := he.eval h5
      simp only [lv] at hv
      split at hv
      · rename_i x y hx hy
        rw [hx] at hn
        rw [hy] at hcp
        simp only [VR] at hn hcp
        split at hv
        · rename_i hb
          simp only [Option.some.injEq] at hv; subst hv
          obtain ⟨rfl, hb1, hb2, hb3⟩ := hb
          obtain ⟨i', z, hi, hiz, hz, hzs, hisz, hsz, hscal, hvr⟩ := run_zero h2
          rw [h3] at hi; cases hi
          obtain ⟨m, rfl⟩ : ∃ m : Nat, x = m := ⟨x.toNat, by omega⟩
          have hbb : (i.bytes : Int) * (m : Int) ≤ 281474976710656 := by
            rw [Int.mul_comm]; exact Int.le_trans hb2 (by decide)
          have hrun := run_make (P := P) w t el i z (elemOfSl_eq h1) h3 hiz .i64 .i64 m m (by omega) (Int.le_refl _) hbb hb3
          simp only [Int.toNat_natCast] at hrun
          refine ⟨madeCells z.cells (m * zs.length), zs.length, ?_, ?_, zerosA_scal hscal _, rfl, hsz, fun k hk => ?_⟩
          · simp only [execOp, hn, hcp, Sem.run_bind, hrun, Result.andThen, Int.toNat_natCast, hisz]
            rfl
          · simp only [Int.toNat_natCast]
            exact VRs_made (hvr _ _) m
          · simp only [Option.some.injEq, Int.toNat_natCast] at hk; subst hk
            refine ⟨by rw [size_madeCells], ?_⟩
            simp only [maxLen]; omega
        · cases hv
      · cases hv
    · cases h6
  | move x => simp only [trOp?, Option.bind_eq_some_iff] at h; obtain ⟨_, _, h2⟩ := h; simp at h2
  | assign x => simp only [trOp?, Option.bind_eq_some_iff] at h; obtain ⟨_, _, h2⟩ := h; simp at h2
  | pick x y z => simp only [trOp?, Option.bind_eq_some_iff] at h; obtain ⟨_, _, _, _, _, _, h2⟩ := h; simp at h2
  | build t ps =>
    simp only [trOp?] at h
    split at h
    · split at h
      · simp only [Option.bind_eq_some_iff] at h
        obtain ⟨_, _, _, _, h⟩ := h
        split at h <;> simp at h
      · cases h
    · cases h
  | load t x =>
    simp only [trOp?, Option.bind_eq_some_iff] at h
    obtain ⟨_, _, h2⟩ := h
    split at h2
    · simp only [Option.bind_eq_some_iff] at h2; obtain ⟨_, _, h2⟩ := h2; simp at h2
    · cases h2
    · simp at h2
    · cases h2
  | store t x y => simp only [trOp?, Option.bind_eq_some_iff] at h; obtain ⟨_, _, _, _, _, _, h2⟩ := h; simp at h2
  | nilCheck x => simp only [trOp?, Option.bind_eq_some_iff] at h; obtain ⟨_, _, h2⟩ := h; simp at h2
  | binOp op t x y yt =>
    simp only [trOp?, Option.bind_eq_some_iff] at h
    obtain ⟨_, _, _, _, h2⟩ := h
    split at h2 <;> simp at h2
  | unOp u t x => cases u <;> simp only [trOp?, Option.bind_eq_some_iff] at h <;> first | (cases h; done) | (obtain ⟨_, _, h2⟩ := h; simp at h2)
  | convert s d x => simp only [trOp?, Option.bind_eq_some_iff] at h; obtain ⟨_, _, h2⟩ := h; split at h2 <;> simp at h2
  | makeFunc fn first cap =>
    cases fn with
    | func f =>
      simp only [trOp?] at h
      split at h
      · simp only [Option.bind_eq_some_iff] at h; obtain ⟨_, _, h2⟩ := h; simp at h2
      · cases h
    | _ => simp [trOp?] at h
  | fieldAddr t x f =>
    simp only [trOp?] at h
    split at h
    · split at h
      · split at h
        · simp only [Option.bind_eq_some_iff] at h; obtain ⟨_, _, h2⟩ := h; simp at h2
        · cases h
      · cases h
    · cases h
  | indexAddr t x i => simp only [trOp?, Option.bind_eq_some_iff] at h; obtain ⟨_, _, _, _, _, _, _, _, h2⟩ := h; simp at h2
  | extract x i => simp only [trOp?, Option.bind_eq_some_iff] at h; obtain ⟨_, _, h2⟩ := h; simp at h2
  | slice t x lo hi mx =>
    simp only [trOp?, Option.bind_eq_some_iff] at h
    obtain ⟨_, _, _, _, _, _, _, _, _, _, h2⟩ := h
    split at h2 <;> simp at h2
  | call c =>
    obtain ⟨callee, args, tys⟩ := c
    cases callee with
    | value f => simp only [trOp?, trCall, Option.bind_eq_some_iff] at h; obtain ⟨_, _, _, _, h2⟩ := h; simp at h2
    | invoke r m => simp [trOp?, trCall] at h
    | builtin b =>
      simp only [trOp?, trCall, Option.bind_eq_some_iff] at h
      obtain ⟨l, h1, h2⟩ := h
      split at h2
      · simp only [Option.bind_eq_some_iff] at h2; obtain ⟨_, _, h2⟩ := h2; simp at h2
      · simp only [Option.bind_eq_some_iff] at h2; obtain ⟨_, _, _, _, h2⟩ := h2
        split at h2
        · simp only [Option.bind_eq_some_iff] at h2; obtain ⟨_, _, h2⟩ := h2; simp at h2
        · cases h2
      · simp only [Option.bind_eq_some_iff] at h2; obtain ⟨_, _, _, _, h2⟩ := h2
        split at h2 <;> simp at h2
      · simp only [Option.bind_eq_some_iff] at h2; obtain ⟨_, _, _, _, h2⟩ := h2
        split at h2 <;> simp at h2
      · simp at h2
      · simp at h2
      · cases h2
  | _ => simp [trOp?] at h

theorem Hp.row_sound (hr : Rel P w0 κ H w) {sz : Nat} {x : AV} {rx : Value} {cs : List AV} {m : Nat} (hx : VR κ (dom H) x rx) (h : H.row sz x = some cs) (hm : lenA x = some m) :
    cs.length = m * sz ∧ (∀ c ∈ cs, c.scal = true) ∧ ∃ (ad : Option Addr) (cap : Nat) (vs : List Value), rx = .slice ad m cap ∧ VRs κ (dom H) cs vs ∧ (∀ v ∈ vs, v.oneCell' = true) ∧
      (ad = none → m = 0 ∧ cap = 0) ∧ ∀ b, ad = some b → ∀ (j : Nat) (v : Value), vs[j]? = some v → w.cell? (b.add j) = some v := by
  cases x with
  | nils =>
    simp only [Hp.row, Option.some.injEq] at h; subst h
    simp only [lenA, Option.some.injEq] at hm; subst hm
    simp only [VR] at hx
    exact ⟨by simp, by simp, none, 0, [], hx, by simp [VRs], by simp, fun _ => ⟨rfl, rfl⟩, fun b hb => by cases hb⟩
  | emp =>
    simp only [Hp.row, Option.some.injEq] at h; subst h
    simp only [lenA, Option.some.injEq] at hm; subst hm
    simp only [VR] at hx
    obtain ⟨ad, c, hx⟩ := hx
    exact ⟨by simp, by simp, some ad, c, [], hx, by simp [VRs], by simp, (fun hb => by cases hb), fun b hb j v hv => by simp at hv⟩
  | sl r o n =>
    simp only [lenA, Option.some.injEq] at hm; subst hm
    simp only [Hp.row] at h
    cases hH : H r with
    | none => simp [hH] at h
    | some row =>
      simp only [hH] at h
      split at h
      · rename_i hle
        simp only [Option.some.injEq] at h; subst h
        simp only [VR] at hx
        obtain ⟨_, c, hx, _⟩ := hx
        have hget : ∀ (i : Nat) (c : AV), ((row.cells.drop o).take (n * sz))[i]? = some c → H.at (.ptr r (o + i)) = some c := by
          intro i c hi
          rw [List.getElem?_take] at hi
          split at hi
          · rw [List.getElem?_drop] at hi
            simpa [Hp.at, hH] using hi
          · cases hi
        obtain ⟨vs, h1, h2, h3⟩ := cells_sound hr hget
        refine ⟨by simp; omega, fun c hc => ?_, some _, c, vs, hx, h1, h3, (fun hb => by cases hb), fun b hb => ?_⟩
        · exact (hr.rows r row hH).scal c (List.mem_of_mem_drop (List.mem_of_mem_take hc))
        · cases hb; exact h2
      · cases h
  | _ => simp [lenA] at hm

theorem splice_vr {D : Nat → Prop} {cells cs : List AV} {cur vs : List Value} {o : Nat} (h1 : cells.length ≤ cur.length) (h2 : o + cs.length ≤ cells.length) (hv : VRs κ D cs vs)
    (hc : ∀ (i : Nat) (c : AV), cells[i]? = some c → ∃ v : Value, cur[i]? = some v ∧ VR κ D c v) :
    ∀ (i : Nat) (c : AV), (splice cells o cs)[i]? = some c → ∃ v : Value, (splice cur o vs)[i]? = some v ∧ VR κ D c v := by
  intro i c hi
  have hl := hv.length
  rw [splice_get h2] at hi
  rw [splice_get (by omega), hl]
  split at hi
  · rename_i hin; rw [if_pos hin]; exact hv.get _ _ hi
  · rename_i hin; rw [if_neg hin]; exact hc i c hi

theorem splice_mem {α : Type} {p : α → Prop} {l cs : List α} {o : Nat} (h1 : ∀ c ∈ l, p c) (h2 : ∀ c ∈ cs, p c) : ∀ c ∈ splice l o cs, p c := by
  intro c hc
  simp only [splice, List.mem_append] at hc
  rcases hc with (hc | hc) | hc
  · exact h1 c (List.mem_of_mem_take hc)
  · exact h2 c hc
  · exact h1 c (List.mem_of_mem_drop hc)

/-- Cells stored into a row of the calls' own. -/
theorem store_sound (hr : Rel P w0 κ H w) {r : Nat} {row : Row} (hH : H r = some row) (hown : row.own = true) {o : Nat} {cs : List AV} {vs : List Value} (hfit : o + cs.length ≤ row.cells.length)
    (hv : VRs κ (dom H) cs vs) (hs : ∀ c ∈ cs, c.scal = true) (h1 : ∀ v ∈ vs, v.oneCell' = true) (B : Nat) :
    ∃ w', (storeCells ⟨(κ r).blk, (κ r).off + o, none⟩ vs).run P w = .ok () w' ∧ Rel P w0 κ (H.set r ⟨row.ty, true, splice row.cells o cs⟩) w' ∧ Trans B κ H w κ (H.set r ⟨row.ty, true, splice row.cells o cs⟩) w' := by
  obtain ⟨cur, o1, o2, o3, o4, o5, o6, o7⟩ := (hr.rows r row hH).own hown
  have hl := hv.length
  have hrun := run_storeCells_at P (κ r).blk o row.ty vs 0 cur w o1 (by omega) h1
  rw [o2, Nat.zero_add]
  refine ⟨_, hrun, ?_⟩
  have hcur : cur.toList.take (o + 0) ++ vs ++ cur.toList.drop (o + 0 + vs.length) = splice cur.toList o vs := by simp [splice]
  rw [hcur]
  have hcl : cur.toList.length = cur.size := Array.length_toList
  have hfitc : o + vs.length ≤ cur.toList.length := by omega
  refine hr.write (cur' := (splice cur.toList o vs).toArray) hH hown o1 (setRow_heap w _ cur _ row.ty (0, 0) o1) (fun k hk => setRow_other w _ k _ hk) (by simp [World.setRow]) rfl rfl rfl
    (by rw [List.size_toArray, splice_length hfitc, hcl]) (by rw [splice_length hfit, List.size_toArray, splice_length hfitc, hcl]; exact o6) (splice_mem (fun c hc => (hr.rows r row hH).scal c hc) hs) ?_ B
  intro i c hi
  have := splice_vr (κ := κ) (D := dom H) (cur := cur.toList) (by omega) hfit hv (fun i c hi => by simpa using o7 i c hi) i c hi
  simpa using this

theorem callee_sound {dst : Option Tmp} {ty : TypeId} {pos : String} {after : Array Edge} {guard : Option (Nat × Bool)} {f : Operand} {args : Array Operand} {tys : Array TypeId} {g : Nat} {cs : List Value}
    (hf : a.eval f = .func (.func g) #[] cs.toArray) (hen : Enterable P g) :
    (execOp a.eval { dst, op := .call { callee := .value f, args, argTypes := tys }, type := ty, pos, after, guard }).run P w = .ok (.enter g (args.toList.map a.eval ++ cs).toArray) w := by
  obtain ⟨fn, h1, h2, h3⟩ := hen
  have harr : args.map a.eval ++ cs.toArray = (args.toList.map a.eval ++ cs).toArray := by
    apply Array.ext'; simp
  have h3' : ¬ (fn.name = "runtime.NumGoroutine") := by simpa using h3
  have h2' : fn.body ≠ none := by intro e; rw [e] at h2; cases h2
  simp [execOp, resolve, hf, Deferred.ofValue, invoke, callFunc, h1, h2', h3', harr]

theorem row_at {r : Nat} {row : Row} (hH : H r = some row) : ∀ (i : Nat) (c : AV), row.cells[i]? = some c → H.at (.ptr r (0 + i)) = some c := by
  intro i c hi
  simpa [Hp.at, hH] using hi

theorem set_set (H : Hp) (r : Nat) (x y : Row) : (H.set r x).set r y = H.set r y := by
  funext q; by_cases h : q = r <;> simp [Hp.set, h]

theorem append_zero {t ty : TypeId} {el : Nat} {i : TypeInfo} (ht : P.underlying t = some (.slice el)) (hi : P.info? el = some i) {rx : Value} {ad bs : Option Addr} {cap n c : Nat} (hx : rx = .slice ad 0 cap) (hnc : n ≤ c) :
    (Builtin.append_ #[t, t] ty #[.slice bs n c, rx]).run P w = .ok (.slice bs n c) w := by
  subst hx
  cases ad <;> cases bs <;> simp [Builtin.append_, run_und ht, sizeOf, typeInfo, hi, Builtin.lenOf, hnc, Builtin.firstCells, loadCells, loadCellsFrom, storeCells]

/-- append onto nil. -/
theorem append_nil_sound {t ty : TypeId} {el : Nat} {i : TypeInfo} {zs : List AV} (ht : P.underlying t = some (.slice el)) (hi : P.info? el = some i) (hzs : zeros P el = some zs) (hpos : 0 < zs.length)
    (hr : Rel P w0 κ H w) {x : AV} {rx : Value} {cs : List AV} {m : Nat} (hx : VR κ (dom H) x rx) (hcs : H.row zs.length x = some cs) (hm : lenA x = some m) (h0 : m ≠ 0)
    (hb : m * i.bytes ≤ 140737488355328) (hml : m ≤ maxLen) (B : Nat) {r : Nat} (hfr : H r = none) (hB : B ≤ r) :
    ∃ rv w' κ', (Builtin.append_ #[t, t] ty #[.slice none 0 0, rx]).run P w = .ok rv w' ∧ VR κ' (dom (H.set r ⟨el, true, cs⟩)) (.sl r 0 m) rv ∧
      Rel P w0 κ' (H.set r ⟨el, true, cs⟩) w' ∧ Trans B κ H w κ' (H.set r ⟨el, true, cs⟩) w' := by
  obtain ⟨i', z, hi', hiz, _, hzl, hisz, hsz, hscal, hvr⟩ := run_zero hzs
  rw [hi] at hi'; cases hi'
  obtain ⟨hl, hsc, ad, cap, vs, rfl, hvs, h1, hnone, hsome⟩ := Hp.row_sound hr hx hcs hm
  cases ad with
  | none => exact absurd (hnone rfl).1 h0
  | some b =>
    have hvl := hvs.length
    have hrun := run_append_nil (P := P) w t ty el i z ht hi hiz b m cap vs (by rw [hvl, hl, hisz]) (hsome b rfl) (by omega) (by simp only [maxLen] at hml; omega) (by omega)
    obtain ⟨hr', htr⟩ := hr.new (w' := w.drew.alloc (.cells (vs.toArray ++ Builtin.zeroCells z.cells (grownCap w m 0 el - m)) el)) (row := ⟨el, true, cs⟩) (sz := zs.length) (r := r) hfr (Nat.le_refl w.heap.size)
      (heap_alloc_new w.drew _) (fun k hk => heap_alloc_old w.drew _ k hk) (by simp) rfl rfl rfl rfl hsz (by simp; omega) hsc (fun j c hj => by
        obtain ⟨v, hv1, hv2⟩ := hvs.get j c hj
        exact ⟨v, by rw [Array.getElem?_append_left (by simpa using (List.getElem?_eq_some_iff.1 hv1).1)]; simpa using hv1, hv2⟩) B hB
    refine ⟨_, _, _, hrun, ?_, hr', htr⟩
    simp only [VR, updk_self]
    have hge := grownCap_ge w m 0 el
    refine ⟨by simp [dom, Hp.set], _, rfl, hge, grownCap_le_maxLen w m 0 el hml, fun _ => ?_⟩
    simp only [Array.size_append, List.size_toArray, size_zeroCells, hvl, hl, hzl]
    rw [← Nat.add_mul]; congr 1; omega

/-- append onto a row of the calls' own. -/
theorem append_own_sound {t ty : TypeId} {el : Nat} {i : TypeInfo} {zs : List AV} (ht : P.underlying t = some (.slice el)) (hi : P.info? el = some i) (hzs : zeros P el = some zs) (hpos : 0 < zs.length)
    (hr : Rel P w0 κ H w) {x : AV} {rx rs : Value} {cs : List AV} {m n r : Nat} {row : Row} (hs : VR κ (dom H) (.sl r 0 n) rs) (hH : H r = some row) (hown : row.own = true) (hty : row.ty = el)
    (hrl : row.cells.length = n * zs.length) (hx : VR κ (dom H) x rx) (hcs : H.row zs.length x = some cs) (hm : lenA x = some m)
    (hb : (n + m) * i.bytes ≤ 140737488355328) (hml : n + m ≤ maxLen) (B : Nat) {r' : Nat} (hfr : H r' = none) (hB : B ≤ r') :
    ∃ rv w' κ', (Builtin.append_ #[t, t] ty #[rs, rx]).run P w = .ok rv w' ∧ VR κ' (dom ((H.set r dead).set r' ⟨el, true, row.cells ++ cs⟩)) (.sl r' 0 (n + m)) rv ∧
      Rel P w0 κ' ((H.set r dead).set r' ⟨el, true, row.cells ++ cs⟩) w' ∧ Trans B κ H w κ' ((H.set r dead).set r' ⟨el, true, row.cells ++ cs⟩) w' := by
  obtain ⟨i', z, hi', hiz, _, hzl, hisz, hsz, hscal, hvr⟩ := run_zero hzs
  rw [hi] at hi'; cases hi'
  obtain ⟨hl, hsc, ad, cap, vs, rfl, hvs, h1, hnone, hsome⟩ := Hp.row_sound hr hx hcs hm
  have hne : r ≠ r' := fun e => by subst e; rw [hH] at hfr; cases hfr
  have hvl := hvs.length
  simp only [VR] at hs
  obtain ⟨_, c, rfl, hnc, hcm, hcn⟩ := hs
  obtain ⟨cur, o1, o2, o3, o4, o5, o6, o7⟩ := (hr.rows r row hH).own hown
  have hszr : (κ r).sz = zs.length := by rw [hty, hsz] at o5; simpa using o5.symm
  have hcs' : c * zs.length = cur.size := by rw [o4, ← hszr]; exact hcn trivial
  have hrowscal := (hr.rows r row hH).scal
  rw [o2, Nat.zero_add]
  subst hty
  by_cases hroom : n + m ≤ c
  · -- there is room
    have hmul : n * zs.length + m * zs.length ≤ cur.size := by
      rw [← hcs', ← Nat.add_mul]; exact Nat.mul_le_mul_right _ hroom
    have hcl : cur.toList.length = cur.size := Array.length_toList
    have hw : ∃ w', (Builtin.append_ #[t, t] ty #[.slice (some ⟨(κ r).blk, 0, none⟩) n c, .slice ad m cap]).run P w = .ok (.slice (some ⟨(κ r).blk, 0, none⟩) (n + m) c) w' ∧
        Rel P w0 κ (H.set r ⟨row.ty, true, row.cells ++ cs⟩) w' ∧ Trans B κ H w κ (H.set r ⟨row.ty, true, row.cells ++ cs⟩) w' := by
      cases ad with
      | none =>
        obtain ⟨rfl, rfl⟩ := hnone rfl
        have hcs0 : cs = [] := List.eq_nil_of_length_eq_zero (by simpa using hl)
        subst hcs0
        have := append_zero (P := P) (w := w) (ty := ty) ht hi (rx := .slice none 0 0) (ad := none) (bs := some ⟨(κ r).blk, 0, none⟩) rfl hnc
        refine ⟨w, by simpa using this, ?_⟩
        have hset : H.set r ⟨row.ty, true, row.cells ++ []⟩ = H := by
          funext q
          by_cases h : q = r
          · subst h; rw [Hp.set_self, hH, List.append_nil, ← hown]
          · rw [Hp.set_ne h]
        rw [hset]
        exact ⟨hr, Trans.refl _ _ _ _⟩
      | some b =>
        have hrun := run_append_room (P := P) w t ty row.ty i ht hi (κ r).blk n c cur o1 b m cap vs (by rw [hvl, hl, hisz]) (hsome b rfl) h1 hroom (by rw [hvl, hl, hisz]; exact hmul)
        rw [hisz] at hrun
        have hcur : cur.toList.take (n * zs.length) ++ vs ++ cur.toList.drop (n * zs.length + vs.length) = splice cur.toList (n * zs.length) vs := rfl
        rw [hcur] at hrun
        have hfitc : n * zs.length + vs.length ≤ cur.toList.length := by omega
        refine ⟨_, hrun, hr.write (cur' := (splice cur.toList (n * zs.length) vs).toArray) hH hown o1 (setRow_heap w _ cur _ row.ty (0, 0) o1) (fun k hk => setRow_other w _ k _ hk) (by simp [World.setRow]) rfl rfl rfl
          (by rw [List.size_toArray, splice_length hfitc, hcl]) (by rw [List.size_toArray, splice_length hfitc, hcl, List.length_append]; omega)
          (fun c hc => by rcases List.mem_append.1 hc with h | h; exact hrowscal c h; exact hsc c h) (fun j a hj => ?_) B⟩
        rw [List.getElem?_toArray, splice_get hfitc]
        by_cases hlt : j < row.cells.length
        · rw [List.getElem?_append_left hlt] at hj
          rw [if_neg (by omega), Array.getElem?_toList]
          exact o7 j a hj
        · rw [List.getElem?_append_right (by omega)] at hj
          have hj2 := (List.getElem?_eq_some_iff.1 hj).1
          rw [if_pos (by omega), ← hrl]
          exact hvs.get _ _ hj
    obtain ⟨w', hrun, hr1, ht1⟩ := hw
    have hfr1 : (H.set r ⟨row.ty, true, row.cells ++ cs⟩) r' = none := by rw [Hp.set_ne (Ne.symm hne)]; exact hfr
    obtain ⟨hr2, ht2⟩ := hr1.rename (Hp.set_self _ _ _) rfl hfr1 B hB
    rw [set_set] at hr2 ht2
    refine ⟨_, w', _, hrun, ?_, hr2, ht1.trans ht2⟩
    simp only [VR, updk_self]
    refine ⟨by simp [dom, Hp.set], c, by rw [o2], hroom, hcm, fun _ => ?_⟩
    rw [hszr, hcs', o4]
  · -- a new block
    have hm0 : m ≠ 0 := by omega
    cases ad with
    | none => exact absurd (hnone rfl).1 hm0
    | some b =>
      obtain ⟨olds, p1, p2, p3⟩ := cells_sound hr (row_at hH)
      rw [o2, Nat.zero_add] at p2
      have hol := p1.length
      have hfit := growslice_fits (bytes := i.bytes) (show c < n + m by omega) hb
      have hrun := run_append_grow (P := P) w t ty row.ty i z ht hi hiz ⟨(κ r).blk, 0, none⟩ n c olds (by rw [hol, hrl, hisz]) p2 b m cap vs (by rw [hvl, hl, hisz]) (hsome b rfl) (by omega)
        (by simp only [maxLen] at hml; omega) hfit
      obtain ⟨hr1, ht1⟩ := hr.kill hH B
      have hfr1 : (H.set r dead) r' = none := by rw [Hp.set_ne (Ne.symm hne)]; exact hfr
      have hge := grownCap_ge w (n + m) c row.ty
      obtain ⟨hr2, ht2⟩ := hr1.new (w' := w.drew.alloc (.cells (olds.toArray ++ vs.toArray ++ Builtin.zeroCells z.cells (grownCap w (n + m) c row.ty - (n + m))) row.ty)) (row := ⟨row.ty, true, row.cells ++ cs⟩) (sz := zs.length) (r := r') hfr1 (Nat.le_refl w.heap.size)
        (heap_alloc_new w.drew _) (fun k hk => heap_alloc_old w.drew _ k hk) (by simp) rfl rfl rfl rfl hsz (by simp; omega)
        (fun c hc => by rcases List.mem_append.1 hc with h | h; exact hrowscal c h; exact hsc c h) (fun j a hj => by
          have hap := (p1.append hvs).get j a hj
          obtain ⟨v, hv1, hv2⟩ := hap
          refine ⟨v, ?_, VR.mono (fun q hq => ht1.kext q hq) a v hv2⟩
          rw [Array.getElem?_append_left (by simpa using (List.getElem?_eq_some_iff.1 hv1).1)]
          simpa using hv1) B hB
      refine ⟨_, _, _, hrun, ?_, hr2, ht1.trans ht2⟩
      simp only [VR, updk_self]
      refine ⟨by simp [dom, Hp.set], _, rfl, hge, grownCap_le_maxLen w (n + m) c row.ty hml, fun _ => ?_⟩
      simp only [Array.size_append, List.size_toArray, size_zeroCells, hvl, hl, hol, hrl, hzl]
      rw [← Nat.add_mul, ← Nat.add_mul]; congr 1; omega

/-- What an operation with an effect does. -/
theorem eop_sound {o : Oper} {eo : EOp} {K : AV → Hp → Prop} {next : Act → World → Prop} {Qx : Exit → Act → World → Prop} (h : trOp? P o.op = some (.e eo)) (hW : Weff P w0 eo K e H)
    (hr : Rel P w0 κ H w) (he : EnvRel κ (dom H) N e a.tmps) (B : Nat)
    (hn : ∀ v rv κ' H' w', K v H' → VR κ' (dom H') v rv → Rel P w0 κ' H' w' → Trans B κ H w κ' H' w' → next (a.put o.dst rv) w') : o.wp P a w next Qx := by
  obtain ⟨dst, op, ty, pos, after, guard⟩ := o
  simp only [Oper.wp]
  cases op with
  | store t x y =>
    simp only [trOp?, Option.bind_eq_some_iff] at h
    obtain ⟨x', h1, y', h2, n, h3, h4⟩ := h
    simp at h4; subst h4
    have hx := he.eval h1
    have hy := he.eval h2
    simp only [Weff, QB] at hW
    obtain ⟨cs, hcs, hn1, hW⟩ := hW
    split at hW
    · rename_i r o hp
      rw [hp] at hx
      simp only [VR] at hx
      obtain ⟨row, hH, hown, hfit, hK⟩ := hW
      have hvs := hy.cells hcs
      obtain ⟨w', hrun, hr', htr⟩ := store_sound (o := o) hr hH hown (by omega) hvs (AV.cells?_scal hcs) (fun v hv => by
        obtain ⟨i, hi⟩ := List.getElem?_of_mem hv
        have hl := hvs.length
        have hlt := (List.getElem?_eq_some_iff.1 hi).1
        obtain ⟨u, hu1, hu2⟩ := hvs.get i (cs[i]'(by omega)) (by simp)
        rw [hi] at hu1; cases hu1
        exact hu2.oneCell (AV.cells?_scal hcs _ (List.getElem_mem _))) B
      have hsz : ¬ (a.eval y).cells.size ≠ n := by
        have := hvs.length
        rw [Array.length_toList] at this
        omega
      have : (execOp a.eval { dst, op := .store t x y, type := ty, pos, after, guard }).run P w = .ok .skip w' := by
        simp only [execOp, Instr.storeAt, Sem.run_bind, hx.2, Instr.sureAddr, Sem.run_pure, Result.andThen, storeVar, run_size h3]
        rw [if_neg hsz, hrun]
      rw [this, Oper.upon_skip]
      exact hn (.tup []) undef κ _ w' hK (by simp only [VR, VRs]; exact ⟨[], rfl, rfl⟩) hr' htr
    · exact hW.elim
  | call c =>
    obtain ⟨callee, args, tys⟩ := c
    cases callee with
    | invoke r m => simp [trOp?, trCall] at h
    | value f =>
      simp only [trOp?, trCall, Option.bind_eq_some_iff] at h
      obtain ⟨f', h1, l, h2, h3⟩ := h
      simp at h3; subst h3
      have hf := he.eval h1
      have hl := he.evals h2
      simp only [Weff] at hW
      split at hW
      · rename_i g cap hg
        rw [hg] at hf
        simp only [VR] at hf
        obtain ⟨cs, hf, hcs⟩ := hf
        rw [callee_sound hf hW.1, Oper.upon_enter]
        refine (hW.2 B κ w _ hr (hl.append hcs)).mono fun en w' ⟨v, rv, κ', H', hen, hK, hv, hr', htr⟩ => ?_
        subst hen
        exact hn v rv κ' H' w' hK hv hr' htr
      · exact hW.elim
    | builtin b =>
      simp only [trOp?, trCall, Option.bind_eq_some_iff] at h
      obtain ⟨l, h1, h2⟩ := h
      have hl := he.evals h1
      split at h2
      · simp only [Option.bind_eq_some_iff] at h2; obtain ⟨_, _, h2⟩ := h2; simp at h2
      · -- append
        rename_i s x t u htys
        simp only [Option.bind_eq_some_iff] at h2; obtain ⟨el, h3, zs, h4, h2⟩ := h2
        split at h2
        · rename_i hc
          obtain ⟨rfl, hpos⟩ := hc
          simp only [Option.bind_eq_some_iff] at h2; obtain ⟨i, h5, h2⟩ := h2
          simp only [Option.some.injEq, AOp.e.injEq] at h2; subst h2
          simp only [Weff, QB] at hW
          obtain ⟨cs, hcs, m, hm, hW⟩ := hW
          simp only [List.map_cons, List.map_nil, VRs] at hl
          obtain ⟨rs, r1, q1, hrs, rx, r2, q2, hrx, q3⟩ := hl
          subst q3 q2
          have hav : args.map a.eval = #[rs, rx] := by apply Array.ext'; simpa using q1
          have htv : tys = #[t, t] := by apply Array.ext'; simpa using htys
          have hun := elemOfSl_eq h3
          have hex : ∀ rv w', (Builtin.append_ #[t, t] ty #[rs, rx]).run P w = .ok rv w' →
              (execOp a.eval { dst, op := .call { callee := .builtin .append, args, argTypes := tys }, type := ty, pos, after, guard }).run P w = .ok (.value rv) w' := by
            intro rv w' hrun
            simp [execOp, resolve, invoke, builtin, hav, htv, hrun]
          split at hW
          · rename_i hsn
            rw [hsn] at hrs
            simp only [VR] at hrs; subst hrs
            by_cases h0 : m = 0
            · subst h0
              obtain ⟨_, _, ad, cap, vs, hrx', _⟩ := Hp.row_sound hr hrx hcs hm
              rw [hex _ _ (append_zero (P := P) (w := w) (ty := ty) hun h5 hrx' (Nat.le_refl 0)), Oper.upon_value]
              exact hn .nils _ κ H w (hW.1 rfl) (by simp only [VR]) hr (Trans.refl _ _ _ _)
            · obtain ⟨hb, hml, hK⟩ := hW.2 h0
              obtain ⟨r, hfr, hB⟩ := hr.fresh B
              obtain ⟨rv, w', κ', hrun, hv, hr', htr⟩ := append_nil_sound (ty := ty) hun h5 h4 hpos hr hrx hcs hm h0 hb hml B hfr hB
              rw [hex _ _ hrun, Oper.upon_value]
              exact hn _ _ κ' _ w' (hK r hfr) hv hr' htr
          · rename_i r o n hsl
            rw [hsl] at hrs
            obtain ⟨row, hH, hown, ho, hty, hrl, hb, hml, hK⟩ := hW
            subst ho
            obtain ⟨r', hfr, hB⟩ := hr.fresh B
            obtain ⟨rv, w', κ', hrun, hv, hr', htr⟩ := append_own_sound (ty := ty) hun h5 h4 hpos hr hrs hH hown hty hrl hrx hcs hm hb hml B hfr hB
            rw [hex _ _ hrun, Oper.upon_value]
            exact hn _ _ κ' _ w' (hK r' hfr) hv hr' htr
          · exact hW.elim
        · cases h2
      · -- copy
        rename_i d s t u htys
        simp only [Option.bind_eq_some_iff] at h2; obtain ⟨el, h3, n, h4, h2⟩ := h2
        split at h2
        · rename_i hc
          subst hc
          simp only [Option.some.injEq, AOp.e.injEq] at h2; subst h2
          simp only [Weff, QB] at hW
          obtain ⟨cs, hcs, m, hm, hW⟩ := hW
          simp only [List.map_cons, List.map_nil, VRs] at hl
          obtain ⟨rd, r1, q1, hrd, rs, r2, q2, hrs, q3⟩ := hl
          subst q3 q2
          have hav : args.map a.eval = #[rd, rs] := by apply Array.ext'; simpa using q1
          have htv : tys = #[t, t] := by apply Array.ext'; simpa using htys
          have hun := elemOfSl_eq h3
          obtain ⟨hcl, hsc, ad, cap, vs, hrx', hvs, h1v, hnone, hsome⟩ := Hp.row_sound hr hrs hcs hm
          have hvl := hvs.length
          have hex : ∀ rv w', (Builtin.copy_ #[t, t] ty #[rd, rs]).run P w = .ok rv w' →
              (execOp a.eval { dst, op := .call { callee := .builtin .copy, args, argTypes := tys }, type := ty, pos, after, guard }).run P w = .ok (.value rv) w' := by
            intro rv w' hrun
            simp [execOp, resolve, invoke, builtin, hav, htv, hrun]
          have hfirst : ∀ k, k ≤ m → (Builtin.firstCells n k rs).run P w = .ok (vs.take (k * n)).toArray w := by
            intro k hk
            subst hrx'
            cases ad with
            | none =>
              have : vs = [] := List.eq_nil_of_length_eq_zero (by rw [hvl, hcl, (hnone rfl).1, Nat.zero_mul])
              subst this
              rw [run_firstCells_none]; simp
            | some b =>
              have hkm : k * n ≤ m * n := Nat.mul_le_mul_right _ hk
              have := run_firstCells_some (P := P) w n k b m cap (vs.take (k * n)) (by rw [List.length_take, hvl, hcl]; omega) (fun j v hj => by
                rw [List.getElem?_take] at hj
                split at hj
                · exact hsome b rfl j v hj
                · cases hj)
              simpa [Builtin.firstCells] using this
          split at hW
          · rename_i hdn
            rw [hdn] at hrd
            simp only [VR] at hrd; subst hrd
            have hf := hfirst 0 (Nat.zero_le _)
            have hrun : (Builtin.copy_ #[t, t] ty #[.slice none 0 0, rs]).run P w = .ok (goInt 0) w := by
              subst hrx'
              simp [Builtin.copy_, run_und hun, Builtin.lenOf, run_size h4] at hf ⊢
              rw [hf]
              rfl
            rw [hex _ _ hrun, Oper.upon_value]
            exact hn _ _ κ H w hW (by simp only [VR, goInt]) hr (Trans.refl _ _ _ _)
          · rename_i hdn
            rw [hdn] at hrd
            simp only [VR] at hrd
            obtain ⟨ad', c', hrd⟩ := hrd
            subst hrd
            have hf := hfirst 0 (Nat.zero_le _)
            have hrun : (Builtin.copy_ #[t, t] ty #[.slice (some ad') 0 c', rs]).run P w = .ok (goInt 0) w := by
              subst hrx'
              simp [Builtin.copy_, run_und hun, Builtin.lenOf, run_size h4] at hf ⊢
              rw [hf]
              simp [storeCells]
            rw [hex _ _ hrun, Oper.upon_value]
            exact hn _ _ κ H w hW (by simp only [VR, goInt]) hr (Trans.refl _ _ _ _)
          · rename_i r o k hdn
            rw [hdn] at hrd
            simp only [VR] at hrd
            obtain ⟨_, c', hrd, _⟩ := hrd
            subst hrd
            obtain ⟨row, hH, hown, hfit, hK⟩ := hW
            have hmk : min m k * n ≤ m * n := Nat.mul_le_mul_right _ (Nat.min_le_left _ _)
            have hmk2 : min m k * n ≤ k * n := Nat.mul_le_mul_right _ (Nat.min_le_right _ _)
            have hvt : VRs κ (dom H) (cs.take (min m k * n)) (vs.take (min m k * n)) := by
              refine VRs.of_get (by simp [hvl]) fun j x hj => ?_
              rw [List.getElem?_take] at hj ⊢
              split at hj
              · rename_i hlt; rw [if_pos hlt]; exact hvs.get j x hj
              · cases hj
            obtain ⟨w', hrun, hr', htr⟩ := store_sound (o := o) hr hH hown (by rw [List.length_take]; omega) hvt (fun c hc => hsc c (List.mem_of_mem_take hc)) (fun v hv => h1v v (List.mem_of_mem_take hv)) B
            have hf := hfirst (min m k) (Nat.min_le_left _ _)
            have hrun' : (Builtin.copy_ #[t, t] ty #[.slice (some ⟨(κ r).blk, (κ r).off + o, none⟩) k c', rs]).run P w = .ok (goInt (min m k : Nat)) w' := by
              subst hrx'
              simp only [Builtin.copy_, Sem.run_bind, run_und hun, Result.andThen, Builtin.lenOf, Sem.run_pure, run_size h4, List.getElem?_toArray, List.getElem?_cons_zero, List.getElem?_cons_succ]
              rw [show Nat.min m k = min m k from rfl, hf]
              simp only [hrun]
            rw [hex _ _ hrun', Oper.upon_value]
            exact hn _ _ κ _ w' hK (by simp only [VR, goInt]) hr' htr
          · exact hW.elim
        · cases h2
      · -- clear
        rename_i x t htys
        simp only [Option.bind_eq_some_iff] at h2; obtain ⟨el, h3, zs, h4, h2⟩ := h2
        split at h2
        · rename_i hc
          simp only [Option.some.injEq, AOp.e.injEq] at h2; subst h2
          simp only [Weff] at hW
          simp only [List.map_cons, List.map_nil, VRs] at hl
          obtain ⟨rx, r1, q1, hrx, q2⟩ := hl
          subst q2
          have hav : args.map a.eval = #[rx] := by apply Array.ext'; simpa using q1
          have htv : tys = #[t] := by apply Array.ext'; simpa using htys
          have hun := elemOfSl_eq h3
          obtain ⟨i, z, hi, hiz, hz, hzl, hisz, hsz, hscal, hvr⟩ := run_zero h4
          have hex : ∀ rv w', (Builtin.clear_ #[t] ty #[rx]).run P w = .ok rv w' →
              (execOp a.eval { dst, op := .call { callee := .builtin .clear, args, argTypes := tys }, type := ty, pos, after, guard }).run P w = .ok (.value rv) w' := by
            intro rv w' hrun
            simp [execOp, resolve, invoke, builtin, hav, htv, hrun]
          split at hW
          · rename_i hdn
            rw [hdn] at hrx
            simp only [VR] at hrx; subst hrx
            have hrun : (Builtin.clear_ #[t] ty #[.slice none 0 0]).run P w = .ok (.tuple #[]) w := by simp [Builtin.clear_, run_und hun]
            rw [hex _ _ hrun, Oper.upon_value]
            exact hn _ _ κ H w hW (by simp only [VR, VRs]; exact ⟨[], rfl, rfl⟩) hr (Trans.refl _ _ _ _)
          · rename_i hdn
            rw [hdn] at hrx
            simp only [VR] at hrx
            obtain ⟨ad', c', hrx⟩ := hrx; subst hrx
            have hrun : (Builtin.clear_ #[t] ty #[.slice (some ad') 0 c']).run P w = .ok (.tuple #[]) w := by simp [Builtin.clear_, run_und hun]
            rw [hex _ _ hrun, Oper.upon_value]
            exact hn _ _ κ H w hW (by simp only [VR, VRs]; exact ⟨[], rfl, rfl⟩) hr (Trans.refl _ _ _ _)
          · rename_i r o k hdn
            rw [hdn] at hrx
            simp only [VR] at hrx
            obtain ⟨_, c', hrx, _⟩ := hrx; subst hrx
            simp only [QB] at hW
            obtain ⟨row, hH, hown, hfit, hK⟩ := hW
            have hzc : ∀ k, (Builtin.zeroCells z.cells k) = madeCells z.cells (k * zs.length) := by intro k; simp only [Builtin.zeroCells, madeCells, hzl]
            have hvt : VRs κ (dom H) (zerosA zs k) (Builtin.zeroCells z.cells k).toList := by rw [hzc]; exact VRs_made (hvr _ _) k
            have hsc := zerosA_scal hscal k
            obtain ⟨w', hrun, hr', htr⟩ := store_sound (o := o) hr hH hown (by rw [zerosA_length]; omega) hvt hsc (fun v hv => by
              obtain ⟨j, hj⟩ := List.getElem?_of_mem hv
              have hl' := hvt.length
              have hlt := (List.getElem?_eq_some_iff.1 hj).1
              obtain ⟨u, hu1, hu2⟩ := hvt.get j ((zerosA zs k)[j]'(by omega)) (by simp)
              rw [hj] at hu1; cases hu1
              exact hu2.oneCell (hsc _ (List.getElem_mem _))) B
            have hrun' : (Builtin.clear_ #[t] ty #[.slice (some ⟨(κ r).blk, (κ r).off + o, none⟩) k c']).run P w = .ok (.tuple #[]) w' := by
              cases k with
              | zero =>
                have hz0 : Builtin.zeroCells z.cells 0 = #[] := by simp [Builtin.zeroCells]
                rw [hz0] at hrun
                simp [storeCells] at hrun
                subst hrun
                simp [Builtin.clear_, run_und hun]
              | succ k => simp [Builtin.clear_, run_und hun, hz, hrun]
            rw [hex _ _ hrun', Oper.upon_value]
            exact hn _ _ κ _ w' hK (by simp only [VR, VRs]; exact ⟨[], rfl, rfl⟩) hr' htr
          · exact hW.elim
        · cases h2
      · simp at h2
      · simp at h2
      · cases h2
  | alloc t => simp only [trOp?, Option.bind_eq_some_iff] at h; obtain ⟨_, _, h2⟩ := h; simp at h2
  | box t x => simp only [trOp?, Option.bind_eq_some_iff] at h; obtain ⟨_, _, _, _, h2⟩ := h; simp at h2
  | buildSlice t n ps =>
    simp only [trOp?, Option.bind_eq_some_iff] at h
    obtain ⟨_, _, _, _, _, _, h2⟩ := h
    split at h2 <;> simp at h2
  | makeSlice t x y =>
    simp only [trOp?, Option.bind_eq_some_iff] at h
    obtain ⟨_, _, _, _, _, _, _, _, _, _, h2⟩ := h
    split at h2 <;> simp at h2
  | move x => simp only [trOp?, Option.bind_eq_some_iff] at h; obtain ⟨_, _, h2⟩ := h; simp at h2
  | assign x => simp only [trOp?, Option.bind_eq_some_iff] at h; obtain ⟨_, _, h2⟩ := h; simp at h2
  | pick x y z => simp only [trOp?, Option.bind_eq_some_iff] at h; obtain ⟨_, _, _, _, _, _, h2⟩ := h; simp at h2
  | build t ps =>
    simp only [trOp?] at h
    split at h
    · split at h
      · simp only [Option.bind_eq_some_iff] at h
        obtain ⟨_, _, _, _, h⟩ := h
        split at h <;> simp at h
      · cases h
    · cases h
  | load t x =>
    simp only [trOp?, Option.bind_eq_some_iff] at h
    obtain ⟨_, _, h2⟩ := h
    split at h2
    · simp only [Option.bind_eq_some_iff] at h2; obtain ⟨_, _, h2⟩ := h2; simp at h2
    · cases h2
    · simp at h2
    · cases h2
  | nilCheck x => simp only [trOp?, Option.bind_eq_some_iff] at h; obtain ⟨_, _, h2⟩ := h; simp at h2
  | binOp op t x y yt =>
    simp only [trOp?, Option.bind_eq_some_iff] at h
    obtain ⟨_, _, _, _, h2⟩ := h
    split at h2 <;> simp at h2
  | unOp u t x => cases u <;> simp only [trOp?, Option.bind_eq_some_iff] at h <;> first | (cases h; done) | (obtain ⟨_, _, h2⟩ := h; simp at h2)
  | convert s d x => simp only [trOp?, Option.bind_eq_some_iff] at h; obtain ⟨_, _, h2⟩ := h; split at h2 <;> simp at h2
  | makeFunc fn first cap =>
    cases fn with
    | func f =>
      simp only [trOp?] at h
      split at h
      · simp only [Option.bind_eq_some_iff] at h; obtain ⟨_, _, h2⟩ := h; simp at h2
      · cases h
    | _ => simp [trOp?] at h
  | fieldAddr t x f =>
    simp only [trOp?] at h
    split at h
    · split at h
      · split at h
        · simp only [Option.bind_eq_some_iff] at h; obtain ⟨_, _, h2⟩ := h; simp at h2
        · cases h
      · cases h
    · cases h
  | indexAddr t x i => simp only [trOp?, Option.bind_eq_some_iff] at h; obtain ⟨_, _, _, _, _, _, _, _, h2⟩ := h; simp at h2
  | extract x i => simp only [trOp?, Option.bind_eq_some_iff] at h; obtain ⟨_, _, h2⟩ := h; simp at h2
  | slice t x lo hi mx =>
    simp only [trOp?, Option.bind_eq_some_iff] at h
    obtain ⟨_, _, _, _, _, _, _, _, _, _, h2⟩ := h
    split at h2 <;> simp at h2
  | _ => simp [trOp?] at h
end ops
end Go.AL

/-
  Code: what the predicate transformer says of it holds in the model; calls; the frame rule for calls.
-/
namespace Go.AL
set_option linter.unusedSimpArgs false
set_option linter.unusedVariables false

section
variable {P : Program} {w0 : World} {κ : Nat → KB} {H : Hp} {w : World} {N : Nat} {e : Env} {a : Act}

theorem EnvRel.put {D : Nat → Prop} (he : EnvRel κ D N e a.tmps) {d : Option Nat} {v : AV} {rv : Value} (hd : ∀ i, d = some i → i < N) (hv : VR κ D v rv) : EnvRel κ D N (updo e d v) (a.put d rv).tmps := by
  cases d with
  | none => exact he
  | some i =>
    have hi := hd i rfl
    refine ⟨by simp only [Act.put, Array.size_setIfInBounds]; exact he.1, fun t => ?_⟩
    simp only [updo, upd, Act.put]
    by_cases ht : t = i
    · subst ht
      rw [if_pos rfl]
      have : t < a.tmps.size := Nat.lt_of_lt_of_le hi he.1
      simp [Array.getD, this]
      exact hv
    · rw [if_neg ht]
      have := he.2 t
      simp only [Array.getD_eq_getD_getElem?] at this ⊢
      rw [Array.getElem?_setIfInBounds_ne (Ne.symm ht)]
      exact this

theorem Act.put_defers' (a : Act) (d : Option Nat) (v : Value) : (a.put d v).defers = a.defers := by cases d <;> rfl

theorem undef_vr {D : Nat → Prop} : VR κ D (.tup []) undef := by simp only [VR, VRs]; exact ⟨[], rfl, rfl⟩

/-- One operation. -/
theorem op_sound {o : Oper} {K : AV → Hp → Prop} {next : Act → World → Prop} {Qx : Exit → Act → World → Prop} (hW : Wop P w0 (trOp P o.op) K e H)
    (hr : Rel P w0 κ H w) (he : EnvRel κ (dom H) N e a.tmps) (B : Nat)
    (hn : ∀ v rv κ' H' w', K v H' → VR κ' (dom H') v rv → Rel P w0 κ' H' w' → Trans B κ H w κ' H' w' → next (a.put o.dst rv) w') : o.wp P a w next Qx := by
  cases ht : trOp? P o.op with
  | none => simp [trOp, ht, Wop, qv, QB] at hW
  | some ao =>
    rw [show trOp P o.op = ao by simp [trOp, ht]] at hW
    cases ao with
    | q qo =>
      simp only [Wop, QB] at hW
      obtain ⟨v, hv, hK⟩ := hW
      have hex : ∃ rv, (execOp a.eval o).run P w = .ok (.value rv) w ∧ VR κ (dom H) v rv := by
        by_cases hb : ∃ t ps, o.op = .build t ps
        · obtain ⟨t, ps, hb⟩ := hb
          obtain ⟨dst, op, ty, pos, after, guard⟩ := o
          simp only at hb; subst hb
          exact build_sound ht hv he
        · exact qop_sound ht hv hr he fun t ps h => hb ⟨t, ps, h⟩
      obtain ⟨rv, h1, h2⟩ := hex
      simp only [Oper.wp]
      rw [h1, Oper.upon_value]
      exact hn v rv κ H w hK h2 hr (Trans.refl _ _ _ _)
    | l lo =>
      simp only [Wop, QB] at hW
      obtain ⟨x, hx, hK⟩ := hW
      obtain ⟨cells, sz, h1, h2, h3, h4, h5, h6⟩ := lop_sound (w := w) ht hx he
      obtain ⟨r, hfr, hB⟩ := hr.fresh B
      have hcl := h2.length
      rw [Array.length_toList] at hcl
      obtain ⟨hr', htr⟩ := hr.new (w' := w.alloc (.cells cells x.1.ty)) (cur := cells) (row := x.1) (sz := sz) (r := r) hfr (Nat.le_refl _) (heap_alloc_new w _) (fun k hk => heap_alloc_old w _ k hk) (by simp) rfl rfl rfl
        h4 h5 (by omega) h3 (fun i c hi => by obtain ⟨v, hv1, hv2⟩ := h2.get i c hi; exact ⟨v, by simpa using hv1, hv2⟩) B hB
      simp only [Oper.wp]
      rw [h1, Oper.upon_value]
      refine hn _ _ _ _ _ (hK r hfr) ?_ hr' htr
      cases hx2 : x.2 with
      | none => simp only [lres, rres, VR, updk_self]; exact ⟨by simp [dom, Hp.set], trivial⟩
      | some n =>
        obtain ⟨h7, h8⟩ := h6 n hx2
        simp only [lres, rres, VR, updk_self]
        exact ⟨by simp [dom, Hp.set], n, rfl, Nat.le_refl _, h8, fun _ => h7⟩
    | e eo => exact eop_sound ht hW hr he B hn

/-- The end of a piece of code. -/
def Ex.real : Ex → Exit
  | .norm => .normal
  | .exit i => .exit i
  | .ret => .ret

def Post (P : Program) (w0 : World) (N B : Nat) (κ : Nat → KB) (H : Hp) (w : World) (R : Ex → Env → Hp → Prop) : Exit → Act → World → Prop :=
  fun en a' w' => a'.defers = [] ∧ ∃ ex env' κ' H', en = ex.real ∧ R ex env' H' ∧ EnvRel κ' (dom H') N env' a'.tmps ∧ Rel P w0 κ' H' w' ∧ Trans B κ H w κ' H' w'

theorem gd_sound {ops : Array Oper} {j d : Nat} {want b : Bool} (hd : (ops[j]?).bind (·.dst) = some d) (hv : VR κ (dom H) (e d) (a.tmps.getD d undef)) (h : gdA (e d) want = some b) :
    (yielded ops a.tmps j == some want) = b := by
  simp only [yielded, hd]
  simp only [Option.bind_some]
  have hg : a.tmps.getD d undef = (a.tmps[d]?).getD undef := by simp [Array.getD_eq_getD_getElem?]
  rw [hg] at hv
  simp only [gdA] at h
  split at h
  · rename_i c hc
    rw [hc] at hv
    simp only [VR] at hv
    simp only [Option.some.injEq] at h; subst h
    cases ht : a.tmps[d]? with
    | none => rw [ht] at hv; simp [undef] at hv
    | some u =>
      rw [ht] at hv
      simp only [Option.getD_some] at hv; subst hv
      cases c <;> cases want <;> rfl
  · rename_i hc
    rw [hc] at hv
    simp only [VR, VRs] at hv
    obtain ⟨cs, hv, rfl⟩ := hv
    simp only [Option.some.injEq] at h; subst h
    cases ht : a.tmps[d]? with
    | none => cases want <;> rfl
    | some u =>
      rw [ht] at hv
      simp only [Option.getD_some] at hv; subst hv
      cases want <;> rfl
  · cases h

theorem trG_spec {ops : Array Oper} {g : Option (Nat × Bool)} {g' : Option (Nat × Bool)} (h : trG ops g = some g') :
    (g = none ∧ g' = none) ∨ ∃ j want d, g = some (j, want) ∧ g' = some (d, want) ∧ (ops[j]?).bind (·.dst) = some d := by
  cases g with
  | none => simp [trG] at h; exact .inl ⟨rfl, h.symm⟩
  | some x =>
    obtain ⟨j, want⟩ := x
    simp only [trG] at h
    split at h
    · rename_i d hd
      simp only [Option.some.injEq] at h
      exact .inr ⟨j, want, d, rfl, h.symm, hd⟩
    · cases h

/-- One operation with its guard. -/
theorem wpOp_sound {ops : Array Oper} {i : Nat} {o : Oper} {g : Option (Nat × Bool)} {K : AV → Hp → Prop} {p : Prop} {next : Act → World → Prop} {Qx : Exit → Act → World → Prop} (ho : ops[i]? = some o)
    (hg : trG ops o.guard = some g) (hW : Wg g e (Wop P w0 (trOp P o.op) K e H) p) (hr : Rel P w0 κ H w) (he : EnvRel κ (dom H) N e a.tmps) (B : Nat)
    (hn : ∀ v rv κ' H' w', K v H' → VR κ' (dom H') v rv → Rel P w0 κ' H' w' → Trans B κ H w κ' H' w' → next (a.put o.dst rv) w')
    (hs : p → next (a.put o.dst undef) w) : wpOp P ops Qx i next a w := by
  unfold wpOp
  simp only [ho]
  rcases trG_spec hg with ⟨h1, rfl⟩ | ⟨j, want, d, h1, rfl, hd⟩
  · simp only [Wg] at hW
    simp only [Region.wanted, h1, if_true]
    exact .inl (op_sound hW hr he B hn)
  · simp only [Wg, QB] at hW
    obtain ⟨b, hb, hW⟩ := hW
    have hy := gd_sound hd (he.2 d) hb
    simp only [Region.wanted, h1, hy]
    cases b with
    | true => rw [if_pos rfl]; exact .inl (op_sound hW hr he B hn)
    | false => rw [if_neg (by simp)]; exact hs (by simpa [Br] using hW)

theorem wpOps_range {ops : Array Oper} {Qx : Exit → Act → World → Prop} {l : List Oper} (h : ∀ k, l[k]? = ops[ops.size - l.length + k]?) : True := trivial

/-- A region in the text's order. -/
theorem row_sound {ops : Array Oper} : ∀ (l : List Oper) (i : Nat) (k : CC) (Q : Ex → Env → Hp → Prop) (κ : Nat → KB) (H : Hp) (w : World) (e : Env) (a : Act) (B : Nat) (Qx : Exit → Act → World → Prop),
    (∀ j, l[j]? = ops[i + j]?) → ops.size = i + l.length → W P w0 (trRow P N ops l k) Q e H → Rel P w0 κ H w → EnvRel κ (dom H) N e a.tmps →
    (∀ env' κ' H' a' w', W P w0 k Q env' H' → EnvRel κ' (dom H') N env' a'.tmps → Rel P w0 κ' H' w' → Trans B κ H w κ' H' w' → a'.defers = a.defers → Qx .normal a' w') →
    wpOps P ops Qx ((List.range ops.size).drop i) a w
  | [], i, k, Q, κ, H, w, e, a, B, Qx, hl, hsz, hW, hr, he, hn => by
    rw [List.drop_of_length_le (by simp; simp at hsz; omega)]
    simp only [wpOps]
    exact hn e κ H a w hW he hr (Trans.refl _ _ _ _) rfl
  | o :: l, i, k, Q, κ, H, w, e, a, B, Qx, hl, hsz, hW, hr, he, hn => by
    have hi : i < ops.size := by simp at hsz; omega
    have ho : ops[i]? = some o := by have := hl 0; simpa using this.symm
    have hdrop : (List.range ops.size).drop i = i :: (List.range ops.size).drop (i + 1) := by
      rw [List.drop_eq_getElem_cons (by simpa using hi)]; simp
    rw [hdrop, wpOps_cons]
    simp only [trRow] at hW
    split at hW
    · rename_i g hg
      split at hW
      · rename_i hd
        simp only [W] at hW
        have hdN : ∀ j, o.dst = some j → j < N := by
          intro j hj
          rw [hj] at hd
          simpa [dstOk] using hd
        have go : ∀ env' κ' H' w' v rv, env' = updo e o.dst v → W P w0 (trRow P N ops l k) Q env' H' → VR κ' (dom H') v rv → Rel P w0 κ' H' w' → Trans B κ H w κ' H' w' → wpOps P ops Qx ((List.range ops.size).drop (i + 1)) (a.put o.dst rv) w' := by
          intro env' κ' H' w' v rv henv hK hv hr' htr
          subst henv
          refine row_sound l (i + 1) k Q κ' H' w' _ (a.put o.dst rv) B Qx (fun j => ?_) (by simp at hsz; omega) hK hr' ((htr.env he).put hdN hv) fun env2 κ2 H2 a2 w2 h1 h2 h3 h4 h5 => ?_
          · have := hl (j + 1); simp only [List.getElem?_cons_succ] at this; rw [this]; congr 1; omega
          · exact hn env2 κ2 H2 a2 w2 h1 h2 h3 (htr.trans h4) (by rw [h5, Act.put_defers'])
        refine wpOp_sound ho hg hW hr he B (fun v rv κ' H' w' hK hv hr' htr => go _ κ' H' w' v rv rfl hK hv hr' htr) fun hp => ?_
        exact go _ κ H w (.tup []) undef rfl hp undef_vr hr (Trans.refl _ _ _ _)
      · simp [bad, W, Wg, Wop, qv, QB] at hW
    · simp [bad, W, Wg, Wop, qv, QB] at hW

/-- A loop whose measure stands in no slot. -/
theorem wp_loopN {c : Code} {Qx : Exit → Act → World → Prop} (I : Nat → Act → World → Prop) (n : Nat) (h0 : I n a w)
    (round : ∀ n a w, I n a w → c.wp P (Exit.then (fun a' w' => ∃ m, m < n ∧ I m a' w') Qx) a w) : (Code.loop c).wp P Qx a w := by
  intro b k cs
  have key : ∀ n a w, I n a w → ∃ en a' w', Qx en a' w' ∧ Arrives P (lone (b.at a (.code c :: .inLoop c :: k)) cs w) b k cs en a' w' := by
    intro n
    induction n using Nat.strongRecOn with
    | _ n ih =>
      intro a w hI
      obtain ⟨en, a₁, w₁, hq, harr⟩ := round n a w hI b (.inLoop c :: k) cs
      cases en with
      | normal =>
        obtain ⟨m, hlt, hI₁⟩ := hq
        obtain ⟨e₂, a₂, w₂, hq₂, harr₂⟩ := ih m hlt a₁ w₁ hI₁
        exact ⟨e₂, a₂, w₂, hq₂, .of_steps (Steps.trans harr (.one step_inLoop)) harr₂⟩
      | exit id => exact ⟨_, a₁, w₁, hq, .pass (x := .inLoop c) rfl (fun _ _ => .inl (by simp)) harr⟩
      | goto l => exact ⟨_, a₁, w₁, hq, .pass (x := .inLoop c) rfl (fun _ _ => .inl (by simp)) harr⟩
      | ret => exact ⟨_, a₁, w₁, hq, .pass (x := .inLoop c) rfl (fun _ _ => .inl (by simp)) harr⟩
      | panic ch => exact ⟨_, a₁, w₁, hq, .pass (x := .inLoop c) rfl (fun _ _ => .inl (by simp)) harr⟩
      | outgrown => exact ⟨_, a₁, w₁, hq, .pass (x := .inLoop c) rfl (fun _ _ => .inl (by simp)) harr⟩
  obtain ⟨en, a', w', hq, harr⟩ := key n a w h0
  exact ⟨en, a', w', hq, .of_steps (.one step_loop) harr⟩
end
end Go.AL

/-
  A region that draws its order: whatever order is drawn, what the predicate transformer says of one order holds.
-/
namespace Go.AL
set_option linter.unusedSimpArgs false
set_option linter.unusedVariables false

/-! ### operations look at nothing but the slots that they read -/
theorem ev_congr {e e' : Env} {x : Opd} (h : ∀ t ∈ x.reads, e t = e' t) : ev e x = ev e' x := by
  cases x with
  | t i => exact h i (by simp [Opd.reads])
  | _ => rfl

theorem evs_congr {e e' : Env} : ∀ {l : List Opd}, (∀ t ∈ oreads l, e t = e' t) → l.map (ev e) = l.map (ev e')
  | [], _ => rfl
  | x :: l, h => by
    simp only [List.map_cons]
    rw [ev_congr (x := x) fun t ht => h t (by simp [oreads, ht]), evs_congr fun t ht => h t (by simp only [oreads, List.flatMap_cons, List.mem_append]; exact .inr ht)]

theorem parts_congr {e e' : Env} {l : List (Nat × Opd)} (h : ∀ t ∈ oreads (l.map (·.2)), e t = e' t) : l.map (fun p => (p.1, ev e p.2)) = l.map (fun p => (p.1, ev e' p.2)) := by
  apply List.map_congr_left
  intro p hp
  rw [ev_congr (x := p.2) fun t ht => h t (by simp only [oreads, List.mem_flatMap, List.mem_map]; exact ⟨p.2, ⟨p, hp, rfl⟩, ht⟩)]

theorem opt_congr {e e' : Env} {o : Option Opd} (h : ∀ t ∈ oreads o.toList, e t = e' t) : o.map (ev e) = o.map (ev e') := by
  cases o with
  | none => rfl
  | some x => simp only [Option.map_some]; rw [ev_congr (x := x) fun t ht => h t (by simp [oreads, ht])]

theorem qv_congr {e e' : Env} {H : Hp} {o : QOp} (h : ∀ t ∈ o.reads, e t = e' t) : qv e H o = qv e' H o := by
  cases o with
  | mov x => simp only [qv]; rw [ev_congr (x := x) h]
  | pick c a b =>
    simp only [QOp.reads, List.mem_append] at h
    simp only [qv]
    rw [ev_congr (x := c) fun t ht => h t (.inl (.inl ht)), ev_congr (x := a) fun t ht => h t (.inl (.inr ht)), ev_congr (x := b) fun t ht => h t (.inr ht)]
  | build zs ps => simp only [qv]; rw [parts_congr h]
  | load n x => cases n <;> simp only [qv] <;> rw [ev_congr (x := x) h]
  | nilc x => simp only [qv]; rw [ev_congr (x := x) h]
  | bin op x y =>
    simp only [QOp.reads, List.mem_append] at h
    simp only [qv]; rw [ev_congr (x := x) fun t ht => h t (.inl ht), ev_congr (x := y) fun t ht => h t (.inr ht)]
  | beq n x y =>
    simp only [QOp.reads, List.mem_append] at h
    simp only [qv]; rw [ev_congr (x := x) fun t ht => h t (.inl ht), ev_congr (x := y) fun t ht => h t (.inr ht)]
  | snil n x y =>
    simp only [QOp.reads, List.mem_append] at h
    simp only [qv]; rw [ev_congr (x := x) fun t ht => h t (.inl ht), ev_congr (x := y) fun t ht => h t (.inr ht)]
  | idx n x y =>
    simp only [QOp.reads, List.mem_append] at h
    simp only [qv]; rw [ev_congr (x := x) fun t ht => h t (.inl ht), ev_congr (x := y) fun t ht => h t (.inr ht)]
  | bad => rfl
  | not x => simp only [qv]; rw [ev_congr (x := x) h]
  | conv k x => simp only [qv]; rw [ev_congr (x := x) h]
  | mkf f l => simp only [qv]; rw [evs_congr h]
  | slc n x lo hi =>
    simp only [QOp.reads, List.mem_append] at h
    simp only [qv]
    rw [ev_congr (x := x) fun t ht => h t (.inl (.inl ht)), opt_congr (o := lo) fun t ht => h t (.inl (.inr ht)), opt_congr (o := hi) fun t ht => h t (.inr ht)]
  | fld n x => simp only [qv]; rw [ev_congr (x := x) h]
  | ext x i => simp only [qv]; rw [ev_congr (x := x) h]
  | len x => simp only [qv]; rw [ev_congr (x := x) h]
  | mm m l => simp only [qv]; rw [evs_congr h]

theorem lv_congr {e e' : Env} {o : LOp} (h : ∀ t ∈ o.reads, e t = e' t) : lv e o = lv e' o := by
  cases o with
  | alloc ty zs => rfl
  | box ty x => simp only [lv]; rw [ev_congr (x := x) h]
  | bsl ty sz zs n ps => simp only [lv]; rw [parts_congr h]
  | mk ty b zs n c =>
    simp only [LOp.reads, List.mem_append] at h
    simp only [lv]; rw [ev_congr (x := n) fun t ht => h t (.inl ht), ev_congr (x := c) fun t ht => h t (.inr ht)]

section
variable {P : Program} {w0 : World}

theorem Weff_congr {e e' : Env} {H : Hp} {o : EOp} {K : AV → Hp → Prop} (h : ∀ t ∈ o.reads, e t = e' t) : Weff P w0 o K e H = Weff P w0 o K e' H := by
  cases o with
  | store n a x =>
    simp only [EOp.reads, List.mem_append] at h
    simp only [Weff]; rw [ev_congr (x := a) fun t ht => h t (.inl ht), ev_congr (x := x) fun t ht => h t (.inr ht)]
  | app ty sz b s x =>
    simp only [EOp.reads, List.mem_append] at h
    simp only [Weff]; rw [ev_congr (x := s) fun t ht => h t (.inl ht), ev_congr (x := x) fun t ht => h t (.inr ht)]
  | copy sz d s =>
    simp only [EOp.reads, List.mem_append] at h
    simp only [Weff]; rw [ev_congr (x := d) fun t ht => h t (.inl ht), ev_congr (x := s) fun t ht => h t (.inr ht)]
  | clr zs x => simp only [EOp.reads] at h; simp only [Weff]; rw [ev_congr (x := x) h]
  | call f l =>
    simp only [EOp.reads, List.mem_append] at h
    simp only [Weff]; rw [ev_congr (x := f) fun t ht => h t (.inl ht), evs_congr fun t ht => h t (.inr ht)]

theorem QB_mono {α : Type} {o : Option α} {K K' : α → Prop} (h : QB o K) (hk : ∀ v, K v → K' v) : QB o K' := let ⟨v, h1, h2⟩ := h; ⟨v, h1, hk v h2⟩

theorem Weff_mono {e : Env} {H : Hp} {o : EOp} {K K' : AV → Hp → Prop} (h : Weff P w0 o K e H) (hk : ∀ v H', K v H' → K' v H') : Weff P w0 o K' e H := by
  cases o with
  | store n a x =>
    simp only [Weff] at h ⊢
    refine QB_mono h fun cs ⟨h1, h2⟩ => ⟨h1, ?_⟩
    split at h2
    · exact QB_mono h2 fun row ⟨a, b, c⟩ => ⟨a, b, hk _ _ c⟩
    · exact h2
  | app ty sz b s x =>
    simp only [Weff] at h ⊢
    refine QB_mono h fun cs h => QB_mono h fun m h => ?_
    split at h
    · exact ⟨fun h0 => hk _ _ (h.1 h0), fun h0 => ⟨(h.2 h0).1, (h.2 h0).2.1, fun r hr => hk _ _ ((h.2 h0).2.2 r hr)⟩⟩
    · exact QB_mono h fun row ⟨a, b, c, d, e, f, g⟩ => ⟨a, b, c, d, e, f, fun r hr => hk _ _ (g r hr)⟩
    · exact h
  | copy sz d s =>
    simp only [Weff] at h ⊢
    refine QB_mono h fun cs h => QB_mono h fun m h => ?_
    split at h
    · exact hk _ _ h
    · exact hk _ _ h
    · exact QB_mono h fun row ⟨a, b, c⟩ => ⟨a, b, hk _ _ c⟩
    · exact h
  | clr zs x =>
    simp only [Weff] at h ⊢
    split at h
    · exact hk _ _ h
    · exact hk _ _ h
    · exact QB_mono h fun row ⟨a, b, c⟩ => ⟨a, b, hk _ _ c⟩
    · exact h
  | call f l =>
    simp only [Weff] at h ⊢
    split at h
    · exact h.mono hk
    · exact h

theorem set_comm {H : Hp} {r q : Nat} {x y : Row} (h : r ≠ q) : (H.set r x).set q y = (H.set q y).set r x := by
  funext p
  by_cases h1 : p = r <;> by_cases h2 : p = q <;> simp [Hp.set, h1, h2]
  · subst h1; exact absurd h2 h
  · subst h1; simp [h]
  · subst h2; simp [Ne.symm h]

theorem set_eq {H : Hp} {r : Nat} {x : Row} (h : H r = some x) : H.set r x = H := by
  funext p
  by_cases h1 : p = r
  · subst h1; simp [Hp.set, h]
  · simp [Hp.set, h1]

theorem dom_set_eq {H : Hp} {r : Nat} {x : Row} (h : H r ≠ none) : dom (H.set r x) = dom H := by
  funext p
  by_cases h1 : p = r
  · subst h1; simp [dom, Hp.set, h]
  · simp [dom, Hp.set, h1]

def Fin (H : Hp) : Prop := ∃ n, ∀ r, n ≤ r → H r = none

theorem Fin.set {H : Hp} (h : Fin H) (r : Nat) (x : Row) : Fin (H.set r x) := by
  obtain ⟨n, hn⟩ := h
  exact ⟨max n (r + 1), fun q hq => by rw [Hp.set_ne (by omega)]; exact hn q (by omega)⟩

theorem Fin.fresh {H : Hp} (h : Fin H) : ∃ r, H r = none := by
  obtain ⟨n, hn⟩ := h
  exact ⟨n, hn n (Nat.le_refl _)⟩

theorem Weff_fin {e : Env} {H : Hp} {o : EOp} {K : AV → Hp → Prop} (h : Weff P w0 o K e H) (hf : Fin H) : Weff P w0 o (fun v H' => Fin H' ∧ K v H') e H := by
  cases o with
  | store n a x =>
    simp only [Weff] at h ⊢
    refine QB_mono h fun cs ⟨h1, h2⟩ => ⟨h1, ?_⟩
    split at h2
    · exact QB_mono h2 fun row ⟨a, b, c⟩ => ⟨a, b, hf.set _ _, c⟩
    · exact h2
  | app ty sz b s x =>
    simp only [Weff] at h ⊢
    refine QB_mono h fun cs h => QB_mono h fun m h => ?_
    split at h
    · exact ⟨fun h0 => ⟨hf, h.1 h0⟩, fun h0 => ⟨(h.2 h0).1, (h.2 h0).2.1, fun r hr => ⟨hf.set _ _, (h.2 h0).2.2 r hr⟩⟩⟩
    · exact QB_mono h fun row ⟨a, b, c, d, e, f, g⟩ => ⟨a, b, c, d, e, f, fun r hr => ⟨(hf.set _ _).set _ _, g r hr⟩⟩
    · exact h
  | copy sz d s =>
    simp only [Weff] at h ⊢
    refine QB_mono h fun cs h => QB_mono h fun m h => ?_
    split at h
    · exact ⟨hf, h⟩
    · exact ⟨hf, h⟩
    · exact QB_mono h fun row ⟨a, b, c⟩ => ⟨a, b, hf.set _ _, c⟩
    · exact h
  | clr zs x =>
    simp only [Weff] at h ⊢
    split at h
    · exact ⟨hf, h⟩
    · exact ⟨hf, h⟩
    · exact QB_mono h fun row ⟨a, b, c⟩ => ⟨a, b, hf.set _ _, c⟩
    · exact h
  | call f l =>
    simp only [Weff] at h ⊢
    split at h
    · refine ⟨h.1, fun B κ w vs hr hv => (h.2 B κ w vs hr hv).mono fun en w' ⟨v, rv, κ', H', he, hQ, hv', hr', ht⟩ => ⟨v, rv, κ', H', he, ⟨hr'.fin, hQ⟩, hv', hr', ht⟩⟩
    · exact h

theorem at_set {H : Hp} {r : Nat} {row : Row} {p v : AV} (hd : H r = none) (h : H.at p = some v) : (H.set r row).at p = some v := by
  cases p with
  | ptr q o =>
    simp only [Hp.at] at h ⊢
    rw [Hp.set_ne fun e => by subst e; rw [hd] at h; cases h]; exact h
  | _ => simp [Hp.at] at h

theorem atN_set {H : Hp} {r : Nat} {row : Row} {p : AV} {n : Nat} {v : List AV} (hd : H r = none) (h : H.atN p n = some v) : (H.set r row).atN p n = some v := by
  cases p with
  | ptr q o =>
    simp only [Hp.atN] at h ⊢
    rw [Hp.set_ne fun e => by subst e; rw [hd] at h; cases h]; exact h
  | _ => simp [Hp.atN] at h

/-! ### one operation may overtake another -/

def md (g : Option (Nat × Bool)) (e : Env) : Option Bool :=
  match g with
  | none => some true
  | some (j, want) => gdA (e j) want

theorem Wg_md {g : Option (Nat × Bool)} {e : Env} {p q : Prop} : Wg g e p q ↔ QB (md g e) fun b => if b = true then p else q := by
  cases g with
  | none => simp [Wg, md, QB]
  | some x => obtain ⟨j, want⟩ := x; simp [Wg, md, Br]

variable {S : Nat → Prop}

/-- How the heap stands behind an operation. -/
def hfact (S : Nat → Prop) (y : DOp) (H H' : Hp) : Prop :=
  match y.o with
  | .q _ => H' = H
  | .l _ => ∃ r row, H r = none ∧ H' = H.set r row
  | .e _ => ∀ r, S r → H' r = H r

theorem WopD_mono {y : DOp} {K K' : AV → Hp → Prop} {e : Env} {H : Hp} (h : WopD P w0 S y K e H) (hfin : Fin H) (hk : ∀ v H', K v H' → hfact S y H H' → Fin H' → K' v H') : WopD P w0 S y K' e H := by
  obtain ⟨id, fl, fls, d, g, o⟩ := y
  cases o with
  | q o => simp only [WopD] at h ⊢; exact ⟨h.1, QB_mono h.2 fun v hv => hk v H hv (by simp only [hfact]) hfin⟩
  | l o =>
    simp only [WopD] at h ⊢
    refine QB_mono h fun x hx r hr => hk _ _ (hx r hr) ?_ (hfin.set _ _)
    simp only [hfact]
    exact ⟨r, x.1, hr, rfl⟩
  | e o =>
    simp only [WopD] at h ⊢
    exact Weff_mono (Weff_fin h hfin) fun v H' ⟨f, a, c⟩ => ⟨a, hk v H' c (by simp only [hfact]; exact a) f⟩

theorem loadS_congr {e e' : Env} {o : QOp} (h : ∀ t ∈ o.reads, e t = e' t) : loadS S e o = loadS S e' o := by
  cases o with
  | load n x => simp only [loadS]; rw [ev_congr (x := x) h]
  | _ => rfl

theorem WopD_congr {y : DOp} {K : AV → Hp → Prop} {e e' : Env} {H : Hp} (h : ∀ t ∈ y.o.reads, e t = e' t) : WopD P w0 S y K e H = WopD P w0 S y K e' H := by
  obtain ⟨id, fl, fls, d, g, o⟩ := y
  cases o with
  | q o => simp only [WopD]; rw [loadS_congr h, qv_congr h]
  | l o => simp only [WopD]; rw [lv_congr h]
  | e o => simp only [WopD]; rw [Weff_congr h]

theorem TD_md {x : DOp} {K : Env → Hp → Prop} {e : Env} {H : Hp} : TD P w0 S x K e H ↔
    QB (md x.g e) fun b => if b = true then WopD P w0 S x (fun v H' => K (updo e x.d v) H') e H else K (updo e x.d (.tup [])) H := Wg_md

theorem TD_mono {x : DOp} {K K' : Env → Hp → Prop} {e : Env} {H : Hp} (h : TD P w0 S x K e H) (hfin : Fin H) (hk : ∀ e' H', K e' H' → Fin H' → K' e' H') : TD P w0 S x K' e H := by
  rw [TD_md] at h ⊢
  refine QB_mono h fun b hb => ?_
  cases b with
  | true => simp only [if_true] at hb ⊢; exact WopD_mono hb hfin fun v H' h1 _ h2 => hk _ _ h1 h2
  | false => simp only [Bool.false_eq_true, if_false] at hb ⊢; exact hk _ _ hb hfin

theorem updo_ne {e : Env} {d : Option Nat} {v : AV} {t : Nat} (h : d ≠ some t) : updo e d v t = e t := by
  cases d with
  | none => rfl
  | some i => simp only [updo, upd]; rw [if_neg fun e => h (by rw [e])]

theorem updo_comm {e : Env} {d d' : Option Nat} {v v' : AV} (h : ∀ i, d = some i → d' ≠ some i) : updo (updo e d v) d' v' = updo (updo e d' v') d v := by
  funext t
  cases d with
  | none => rfl
  | some i =>
    cases d' with
    | none => rfl
    | some j =>
      have hij : i ≠ j := fun e => h i rfl (by rw [e])
      simp only [updo, upd]
      by_cases h1 : t = j <;> by_cases h2 : t = i <;> simp [h1, h2]
      · subst h1; exact absurd h2.symm hij
      · subst h1; simp [Ne.symm hij]
      · subst h2; simp [hij]

structure Apart (x y : DOp) : Prop where
  a : ∀ d, x.d = some d → d ∉ y.o.reads ∧ y.d ≠ some d ∧ ∀ k w, y.g = some (k, w) → k ≠ d
  b : ∀ d, y.d = some d → d ∉ x.o.reads ∧ ∀ k w, x.g = some (k, w) → k ≠ d

theorem ovt_apart {x y : DOp} (h : ovt x y = true) : Apart x y := by
  simp only [ovt, Bool.and_eq_true] at h
  obtain ⟨⟨h1, h2⟩, _⟩ := h
  refine ⟨fun d hd => ?_, fun d hd => ?_⟩
  · rw [hd] at h1
    simp only [Bool.and_eq_true, Bool.not_eq_true', bne_iff_ne, ne_eq] at h1
    refine ⟨by simpa using h1.1.1, h1.1.2, fun k w hg => ?_⟩
    have := h1.2
    rw [hg] at this
    simpa using this
  · rw [hd] at h2
    simp only [Bool.and_eq_true, Bool.not_eq_true'] at h2
    refine ⟨by simpa using h2.1, fun k w hg => ?_⟩
    have := h2.2
    rw [hg] at this
    simpa using this

theorem md_updo {g : Option (Nat × Bool)} {e : Env} {d : Option Nat} {v : AV} (h : ∀ i, d = some i → ∀ k w, g = some (k, w) → k ≠ i) : md g (updo e d v) = md g e := by
  cases g with
  | none => rfl
  | some x =>
    obtain ⟨j, want⟩ := x
    simp only [md]
    rw [updo_ne]
    intro hd
    exact h j hd j want rfl rfl

theorem qv_pure {o : QOp} (h : kdOf (.q o) = .pure) (e : Env) (H H' : Hp) : qv e H o = qv e H' o := by
  cases o with
  | load n x => simp [kdOf] at h
  | _ => rfl

/-- A value that has been read is read again behind what overtakes the reading. -/
theorem qv_keep {x y : DOp} {ox : QOp} {e e' : Env} {H H' : Hp} {v : AV} (hx : x.o = .q ox) (ho : ovt x y = true) (hv : qv e H ox = some v) (hS : x.fl = true → loadS S e ox)
    (hf : hfact S y H H') (he : ∀ t ∈ ox.reads, e' t = e t) : qv e' H' ox = some v := by
  rw [qv_congr he]
  cases hk : kdOf (.q ox) with
  | pure => rw [qv_pure hk e H' H]; exact hv
  | load =>
    cases ox with
    | load n p =>
      cases hy : y.o with
      | q oy => simp only [hfact, hy] at hf; rw [hf]; exact hv
      | l oy =>
        simp only [hfact, hy] at hf
        obtain ⟨r, row, hdd, hf⟩ := hf
        subst hf
        cases n with
        | none => simp only [qv] at hv ⊢; exact at_set hdd hv
        | some n =>
          simp only [qv] at hv ⊢
          split at hv
          · rename_i cs hcs; rw [atN_set hdd hcs]; exact hv
          · cases hv
      | e oy =>
        simp only [hfact, hy] at hf
        have hfl : x.fl = true := by
          simp only [ovt, hx, hy, kdOf, Bool.and_eq_true] at ho
          exact ho.2
        have hs := hS hfl
        simp only [loadS] at hs
        cases hp : ev e p with
        | ptr q o =>
          rw [hp] at hs
          have hq := hf q hs
          cases n with
          | none => simp only [qv, hp, Hp.at, hq] at hv ⊢; exact hv
          | some n => simp only [qv, hp, Hp.atN, hq] at hv ⊢; exact hv
        | _ => cases n <;> simp [qv, hp, Hp.at, Hp.atN] at hv
    | _ => simp [kdOf] at hk
  | alloc => cases ox <;> simp [kdOf] at hk
  | eff => cases ox <;> simp [kdOf] at hk

theorem TD_swap {x y : DOp} {K : Env → Hp → Prop} {e : Env} {H : Hp} (ho : ovt x y = true) (hfin : Fin H)
    (hx : TD P w0 S x (TD P w0 S y K) e H) : TD P w0 S y (TD P w0 S x K) e H := by
  have hap := ovt_apart ho
  have hcomm : ∀ (e : Env) u v, updo (updo e x.d u) y.d v = updo (updo e y.d v) x.d u := fun e u v => updo_comm fun i hi => (hap.a i hi).2.1
  have hmy : ∀ u, md y.g (updo e x.d u) = md y.g e := fun u => md_updo fun i hi k w hg => (hap.a i hi).2.2 k w hg
  have hmx : ∀ u, md x.g (updo e y.d u) = md x.g e := fun u => md_updo fun i hi k w hg => (hap.b i hi).2 k w hg
  have hry : ∀ u, ∀ t ∈ y.o.reads, updo e x.d u t = e t := fun u t ht => updo_ne fun hh => (hap.a t hh).1 ht
  have hrx : ∀ u, ∀ t ∈ x.o.reads, updo e y.d u t = e t := fun u t ht => updo_ne fun hh => (hap.b t hh).1 ht
  rw [TD_md] at hx ⊢
  obtain ⟨bx, hbx, hx⟩ := hx
  cases bx with
  | false =>
    simp only [Bool.false_eq_true, if_false] at hx
    rw [TD_md, hmy] at hx
    refine QB_mono hx fun b hb => ?_
    cases b with
    | true =>
      simp only [if_true] at hb ⊢
      rw [WopD_congr (hry _)] at hb
      refine WopD_mono hb hfin fun v H' h1 _ _ => ?_
      rw [TD_md, hmx, hbx]
      refine ⟨false, rfl, ?_⟩
      simp only [Bool.false_eq_true, if_false]
      rw [← hcomm]; exact h1
    | false =>
      simp only [Bool.false_eq_true, if_false] at hb ⊢
      rw [TD_md, hmx, hbx]
      refine ⟨false, rfl, ?_⟩
      simp only [Bool.false_eq_true, if_false]
      rw [← hcomm]; exact hb
  | true =>
    simp only [if_true] at hx
    cases hxo : x.o with
    | q ox =>
      simp only [WopD, hxo] at hx
      obtain ⟨hS, vx, hvx, hy⟩ := hx
      rw [TD_md, hmy] at hy
      refine QB_mono hy fun b hb => ?_
      have hrx' : ∀ u, ∀ t ∈ ox.reads, updo e y.d u t = e t := fun u t ht => hrx u t (by rw [hxo]; exact ht)
      cases b with
      | true =>
        simp only [if_true] at hb ⊢
        rw [WopD_congr (hry _)] at hb
        refine WopD_mono hb hfin fun v H' h1 hf _ => ?_
        rw [TD_md, hmx, hbx]
        refine ⟨true, rfl, ?_⟩
        simp only [if_true, WopD, hxo]
        refine ⟨fun hfl => by rw [loadS_congr (hrx' v)]; exact hS hfl, vx, qv_keep hxo ho hvx hS hf (hrx' v), ?_⟩
        show K (updo (updo e y.d v) x.d vx) H'
        rw [← hcomm]; exact h1
      | false =>
        simp only [Bool.false_eq_true, if_false] at hb ⊢
        rw [TD_md, hmx, hbx]
        refine ⟨true, rfl, ?_⟩
        simp only [if_true, WopD, hxo]
        refine ⟨fun hfl => by rw [loadS_congr (hrx' _)]; exact hS hfl, vx, by rw [qv_congr (hrx' _)]; exact hvx, ?_⟩
        show K (updo (updo e y.d _) x.d vx) H
        rw [← hcomm]; exact hb
    | l ox =>
      have hyo : ∃ oy, y.o = .l oy := by
        simp only [ovt, hxo, Bool.and_eq_true] at ho
        have h3 := ho.2
        cases hy : y.o with
        | l oy => exact ⟨oy, rfl⟩
        | q oy => rw [hy] at h3; cases oy <;> simp [kdOf] at h3
        | e oy => rw [hy] at h3; simp [kdOf] at h3
      obtain ⟨oy, hyo⟩ := hyo
      have hrx' : ∀ u, ∀ t ∈ ox.reads, updo e y.d u t = e t := fun u t ht => hrx u t (by rw [hxo]; exact ht)
      have hry' : ∀ u, ∀ t ∈ oy.reads, updo e x.d u t = e t := fun u t ht => hry u t (by rw [hyo]; exact ht)
      simp only [WopD, hxo] at hx
      obtain ⟨rx, hrxv, hy⟩ := hx
      replace hy : ∀ r, H r = none → TD P w0 S y K (updo e x.d (lres r rx.2)) (H.set r rx.1) := hy
      obtain ⟨r0, hr0⟩ := hfin.fresh
      have hy0 := hy r0 hr0
      rw [TD_md, hmy] at hy0
      obtain ⟨b, hbm, hb⟩ := hy0
      refine ⟨b, hbm, ?_⟩
      cases b with
      | true =>
        simp only [if_true, WopD, hyo] at hb ⊢
        rw [lv_congr (hry' _)] at hb
        obtain ⟨ry, hryv, _⟩ := hb
        refine ⟨ry, hryv, fun r' hr' => ?_⟩
        show TD P w0 S x K (updo e y.d (lres r' ry.2)) (H.set r' ry.1)
        rw [TD_md, hmx, hbx]
        refine ⟨true, rfl, ?_⟩
        simp only [if_true, WopD, hxo]
        refine ⟨rx, by rw [lv_congr (hrx' _)]; exact hrxv, fun r hr => ?_⟩
        have hne : r ≠ r' := fun e => by subst e; rw [Hp.set_self] at hr; cases hr
        rw [Hp.set_ne hne] at hr
        have h2 := hy r hr
        rw [TD_md, hmy, hbm] at h2
        obtain ⟨b, hb, h2⟩ := h2
        cases hb
        simp only [if_true, WopD, hyo] at h2
        rw [lv_congr (hry' _), hryv] at h2
        obtain ⟨z, hz, h2⟩ := h2
        cases hz
        have h3 : K (updo (updo e x.d (lres r rx.2)) y.d (lres r' ry.2)) ((H.set r rx.1).set r' ry.1) := h2 r' (by rw [Hp.set_ne (Ne.symm hne)]; exact hr')
        show K (updo (updo e y.d (lres r' ry.2)) x.d (lres r rx.2)) ((H.set r' ry.1).set r rx.1)
        rw [← hcomm, set_comm (Ne.symm hne)]; exact h3
      | false =>
        simp only [Bool.false_eq_true, if_false] at hb ⊢
        rw [TD_md, hmx, hbx]
        refine ⟨true, rfl, ?_⟩
        simp only [if_true, WopD, hxo]
        refine ⟨rx, by rw [lv_congr (hrx' _)]; exact hrxv, fun r hr => ?_⟩
        have h2 := hy r hr
        rw [TD_md, hmy, hbm] at h2
        obtain ⟨b, hb, h2⟩ := h2
        cases hb
        simp only [Bool.false_eq_true, if_false] at h2
        show K (updo (updo e y.d (.tup [])) x.d (lres r rx.2)) (H.set r rx.1)
        rw [← hcomm]; exact h2
    | e ox =>
      simp only [ovt, hxo, Bool.and_eq_true] at ho
      have h3 := ho.2
      cases hy : y.o with
      | l oy => rw [hy] at h3; simp [kdOf] at h3
      | q oy => rw [hy] at h3; cases oy <;> simp [kdOf] at h3
      | e oy => rw [hy] at h3; simp [kdOf] at h3
end
end Go.AL

/-
  A region that draws its order, in whatever order; code; calls.
-/
namespace Go.AL
set_option linter.unusedSimpArgs false
set_option linter.unusedVariables false

theorem kd_eq (k : Kd) : (k == .eff) = true ↔ k = .eff := by cases k <;> decide

/-- `y` may come ahead of `x`. -/
def mayPass (x y : DOp) : Prop := ovt x y = true ∨ (kdOf x.o = .eff ∧ x.fls.contains y.id = true)

section
variable {P : Program} {w0 : World} {S : Nat → Prop}

theorem alts_get {F : DOp → List DOp → Prop} {fls : List Nat} : ∀ {l pre : List DOp}, alts fls pre l F → ∀ (p : List DOp) (y : DOp) (q : List DOp), l = p ++ y :: q → fls.contains y.id = true → F y (pre ++ p ++ q)
  | [], pre, h, p, y, q, e, _ => by simp at e
  | z :: l, pre, h, [], y, q, e, hc => by
    simp at e
    obtain ⟨rfl, rfl⟩ := e
    simp only [alts] at h
    rw [if_pos hc] at h
    simpa using h.1
  | z :: l, pre, h, u :: p, y, q, e, hc => by
    simp at e
    obtain ⟨rfl, rfl⟩ := e
    simp only [alts] at h
    have := alts_get h.2 p y q rfl hc
    simpa using this

theorem alts_nil {F : DOp → List DOp → Prop} : ∀ (l pre : List DOp), alts [] pre l F = True
  | [], _ => rfl
  | y :: l, pre => by simp only [alts]; rw [alts_nil l]; simp

/-- The operation that comes next in the drawn order may stand first. -/
theorem WD_front : ∀ (p : List DOp) (i : DOp) (q : List DOp) (K : Env → Hp → Prop) (e : Env) (H : Hp) (n : Nat), n = p.length + q.length + 1 → (∀ x ∈ p, mayPass x i) → (∀ x ∈ p, kdOf x.o ≠ .eff → x.fls = []) → Fin H →
    WD P w0 S n (p ++ i :: q) K e H → TD P w0 S i (WD P w0 S (p.length + q.length) (p ++ q) K) e H
  | [], i, q, K, e, H, n, hn, hp, hf, hfin, h => by
    subst hn
    simp only [List.length_nil, Nat.zero_add, List.nil_append, WD] at h ⊢
    exact h.1
  | x :: p, i, q, K, e, H, n, hn, hp, hf, hfin, h => by
    subst hn
    simp only [List.length_cons, List.cons_append] at h ⊢
    rw [show p.length + 1 + q.length + 1 = (p.length + q.length + 1) + 1 by omega, WD] at h
    by_cases hx : kdOf x.o = .eff
    · have hpass := hp x (by simp)
      rcases hpass with hov | ⟨_, hc⟩
      · exfalso
        simp only [ovt, Bool.and_eq_true, hx] at hov
        exact absurd hov.2 (by simp)
      · have := alts_get h.2 p i q rfl hc
        simp only [List.nil_append] at this
        rw [show p.length + 1 + q.length = p.length + q.length + 1 by omega]
        exact this
    · have hpass := hp x (by simp)
      rcases hpass with hov | ⟨he, _⟩
      · have h1 := TD_mono h.1 hfin fun e' H' hK hf' => WD_front p i q K e' H' _ rfl (fun z hz => hp z (by simp [hz])) (fun z hz => hf z (by simp [hz])) hf' hK
        have h2 := TD_swap hov hfin h1
        refine TD_mono h2 hfin fun e' H' hK hf' => ?_
        rw [show p.length + 1 + q.length = p.length + q.length + 1 by omega, WD]
        refine ⟨hK, ?_⟩
        rw [hf x (by simp) hx, alts_nil]
        trivial
      · exact absurd he hx
end

/-! ### what must have been done before -/

theorem mask_foldl (ops : Array Oper) (m : List (Nat × Nat)) (q : Nat) : ∀ (l : List Nat) (s : Nat), ((l.foldl (fun s j => s ||| 2 ^ j ||| ((m.lookup j).getD 0)) s).testBit q = true) ↔ (s.testBit q = true ∨ ∃ j ∈ l, j = q ∨ (maskOf m j).testBit q = true)
  | [], s => by simp
  | j :: l, s => by
    simp only [List.foldl_cons]
    rw [mask_foldl ops m q l]
    simp only [Nat.testBit_or, Bool.or_eq_true, List.mem_cons, exists_eq_or_imp, maskOf]
    have : (2 ^ j).testBit q = true ↔ j = q := by
      rw [Nat.testBit_two_pow]; simp
    rw [this]
    constructor
    · rintro ((h | h) | h)
      · rcases h with h | h
        · exact .inl h
        · exact .inr (.inl (.inl h))
      · exact .inr (.inl (.inr h))
      · exact .inr (.inr h)
    · rintro (h | ((h | h) | h))
      · exact .inl (.inl (.inl h))
      · exact .inl (.inl (.inr h))
      · exact .inl (.inr h)
      · exact .inr h

/-- What the masks tell holds of every set that is closed towards the front. -/
def MaskOk (ops : Array Oper) (m : List (Nat × Nat)) : Prop :=
  ∀ i s, (i, s) ∈ m → ∀ q, s.testBit q = true → ∀ L : Nat → Prop, (∀ j o, L j → ops[j]? = some o → ∀ d ∈ directs o, L d) → (∀ o, ops[i]? = some o → ∀ d ∈ directs o, L d) → L q

theorem lookup_mem : ∀ {m : List (Nat × Nat)} {i s : Nat}, m.lookup i = some s → (i, s) ∈ m
  | [], i, s, h => by simp at h
  | (j, u) :: m, i, s, h => by
    rw [List.lookup_cons] at h
    by_cases hij : (i == j) = true
    · rw [hij] at h
      simp only at h
      simp only [beq_iff_eq] at hij
      simp only [Option.some.injEq] at h
      subst hij h; simp
    · simp only [Bool.not_eq_true] at hij
      rw [hij] at h
      exact List.mem_cons_of_mem _ (lookup_mem h)

theorem maskGo_ok {ops : Array Oper} : ∀ (c : List Nat) (m m' : List (Nat × Nat)), MaskOk ops m → maskGo ops c m = some m' → MaskOk ops m'
  | [], m, m', hm, h => by simp only [maskGo, Option.some.injEq] at h; subst h; exact hm
  | i :: c, m, m', hm, h => by
    simp only [maskGo] at h
    split at h
    · cases h
    · rename_i o ho
      refine maskGo_ok c _ m' ?_ h
      intro j s hj q hq L hL hd
      simp only [List.mem_cons, Prod.mk.injEq] at hj
      rcases hj with ⟨rfl, rfl⟩ | hj
      · rw [mask_foldl ops m q] at hq
        rcases hq with hq | ⟨k, hk, hkq⟩
        · simp at hq
        · have hLk := hd o ho k hk
          rcases hkq with rfl | hkq
          · exact hLk
          · simp only [maskOf] at hkq
            cases hl : m.lookup k with
            | none => rw [hl] at hkq; simp at hkq
            | some u =>
              rw [hl] at hkq
              exact hm k u (lookup_mem hl) q hkq L hL fun o' ho' d hdd => hL k o' hLk ho' d hdd
      · exact hm j s hj q hq L hL hd

theorem mask_closed {ops : Array Oper} {m : List (Nat × Nat)} (hm : MaskOk ops m) {i q : Nat} (h : (maskOf m i).testBit q = true) {L : Nat → Prop}
    (hL : ∀ j o, L j → ops[j]? = some o → ∀ d ∈ directs o, L d) (hi : ∀ o, ops[i]? = some o → ∀ d ∈ directs o, L d) : L q := by
  simp only [maskOf] at h
  cases hl : m.lookup i with
  | none => rw [hl] at h; simp at h
  | some s => rw [hl] at h; exact hm i s (lookup_mem hl) q h L hL hi

theorem pairsB_spec {m : List (Nat × Nat)} : ∀ {l : List DOp}, pairsB m l = true → l.Pairwise (fun x y => (maskOf m y.id).testBit x.id = true ∨ ovt x y = true ∨ x.fls.contains y.id = true) ∧ ∀ x ∈ l, kdOf x.o ≠ .eff → x.fls = []
  | [], _ => by simp
  | x :: l, h => by
    simp only [pairsB, Bool.and_eq_true, List.all_eq_true, Bool.or_eq_true] at h
    obtain ⟨⟨h1, h2⟩, h3⟩ := h
    obtain ⟨h4, h5⟩ := pairsB_spec h3
    refine ⟨List.Pairwise.cons (fun y hy => ?_) h4, fun y hy hk => ?_⟩
    · rcases h1 y hy with (h | h) | h
      · exact .inl h
      · exact .inr (.inl h)
      · exact .inr (.inr h)
    · rcases List.mem_cons.1 hy with rfl | hy
      · rcases h2 with h | h
        · exact absurd ((kd_eq _).1 h) hk
        · simpa using h
      · exact h5 y hy hk

/-- Each told operation is the one of its number. -/
def DopOk (P : Program) (N : Nat) (ops : Array Oper) (x : DOp) : Prop :=
  ∃ o, ops[x.id]? = some o ∧ trG ops o.guard = some x.g ∧ x.d = o.dst ∧ x.o = trOp P o.op ∧ dstOk N o.dst = true

theorem mkDops_spec {P : Program} {N : Nat} {ops : Array Oper} {m : List (Nat × Nat)} : ∀ {c : List Nat} {l : List DOp}, mkDops P N ops m c = some l → l.map (·.id) = c ∧ ∀ x ∈ l, DopOk P N ops x
  | [], l, h => by simp only [mkDops, Option.some.injEq] at h; subst h; simp
  | i :: c, l, h => by
    simp only [mkDops] at h
    split at h
    · rename_i o ho
      split at h
      · rename_i g hg
        split at h
        · rename_i hd
          simp only [Option.bind_eq_some_iff] at h
          obtain ⟨r, h1, h2⟩ := h
          simp only [Option.some.injEq] at h2
          obtain ⟨h3, h4⟩ := mkDops_spec h1
          subst h2
          refine ⟨by simp [h3], fun x hx => ?_⟩
          rcases List.mem_cons.1 hx with rfl | hx
          · exact ⟨o, ho, hg, rfl, rfl, hd⟩
          · exact h4 x hx
        · cases h
      · cases h
    · cases h

section
variable {P : Program} {w0 : World} {S : Nat → Prop} {N : Nat} {ops : Array Oper}

theorem topoB_spec : ∀ (l : List DOp) (pre : List Nat), topoB ops pre (l.map (·.id)) = true → (∀ i ∈ pre, i < ops.size) → (pre ++ l.map (·.id)).Nodup →
    l.Pairwise (fun x y => ∀ o, ops[x.id]? = some o → y.id ∉ directs o) ∧ ∀ x ∈ l, ∀ o, ops[x.id]? = some o → ∀ d ∈ directs o, d < ops.size ∧ d ≠ x.id
  | [], pre, _, _, _ => by simp
  | x :: l, pre, h, hpre, hnd => by
    simp only [List.map_cons, topoB, Bool.and_eq_true] at h
    obtain ⟨h1, h2⟩ := h
    rw [List.map_cons] at hnd
    obtain ⟨n1, n2, n3⟩ := List.nodup_append.1 hnd
    split at h1
    · rename_i o ho
      simp only [List.all_eq_true, List.contains_iff_mem] at h1
      have hlt := (Array.getElem?_eq_some_iff.1 ho).1
      obtain ⟨h3, h4⟩ := topoB_spec l (x.id :: pre) h2 (fun i hi => by rcases List.mem_cons.1 hi with rfl | hi; exact hlt; exact hpre i hi) (by
        rw [List.cons_append]
        refine List.nodup_cons.2 ⟨fun hm => ?_, List.nodup_append.2 ⟨n1, (List.nodup_cons.1 n2).2, fun a ha b hb => n3 a ha b (List.mem_cons_of_mem _ hb)⟩⟩
        rcases List.mem_append.1 hm with hm | hm
        · exact n3 _ hm x.id (by simp) rfl
        · exact (List.nodup_cons.1 n2).1 hm)
      refine ⟨List.Pairwise.cons (fun y hy o' ho' hd => ?_) h3, fun y hy o' ho' d hd => ?_⟩
      · rw [ho] at ho'; cases ho'
        exact n3 y.id (h1 _ hd) y.id (List.mem_cons_of_mem _ (List.mem_map_of_mem hy)) rfl
      · rcases List.mem_cons.1 hy with rfl | hy
        · rw [ho] at ho'; cases ho'
          refine ⟨hpre d (h1 d hd), fun e => ?_⟩
          subst e
          exact n3 _ (h1 _ hd) _ (by simp) rfl
        · exact h4 y hy o' ho' d hd
    · cases h1

theorem ready_mem {listed : Array Bool} (hs : listed.size = ops.size) {i : Nat} (h : i ∈ Region.ready .any ops listed) :
    i < ops.size ∧ listed[i]? = some false ∧ ∀ o, ops[i]? = some o → ∀ d ∈ directs o, listed[d]? = some true := by
  simp only [Region.ready, List.mem_filter, List.mem_range, Bool.and_eq_true, Bool.not_eq_true'] at h
  obtain ⟨h1, h2, h3⟩ := h
  have hl : i < listed.size := by omega
  refine ⟨h1, ?_, fun o ho d hd => ?_⟩
  · simp only [Array.getD_eq_getD_getElem?, Array.getElem?_eq_getElem hl, Option.getD_some] at h2
    rw [Array.getElem?_eq_getElem hl, h2]
  · rw [ho] at h3
    simp only [Option.map_some, Option.getD_some, Array.all_eq_true] at h3
    simp only [directs, List.mem_map, List.mem_filter] at hd
    obtain ⟨ed, ⟨hm, hb⟩, rfl⟩ := hd
    obtain ⟨k, hk, hke⟩ := List.getElem_of_mem hm
    have := h3 k (by simpa using hk)
    simp only [Array.getElem_toList] at hke
    rw [hke, hb] at this
    simp only [Bool.not_true, Bool.false_or, Array.getD_eq_getD_getElem?] at this
    cases hx : listed[ed.on]? with
    | none => rw [hx] at this; simp at this
    | some b => rw [hx] at this; simp at this; rw [this]

theorem ready_of {listed : Array Bool} {i : Nat} (hi : i < ops.size) (hl : listed[i]? = some false) {o : Oper} (ho : ops[i]? = some o) (hd : ∀ d ∈ directs o, listed[d]? = some true) :
    i ∈ Region.ready .any ops listed := by
  simp only [Region.ready, List.mem_filter, List.mem_range, Bool.and_eq_true, Bool.not_eq_true']
  refine ⟨hi, by simp [Array.getD_eq_getD_getElem?, hl], ?_⟩
  rw [ho]
  simp only [Option.map_some, Option.getD_some, Array.all_eq_true]
  intro k hk
  by_cases hb : Region.binds .any o.after[k] = true
  · rw [hb]
    have := hd o.after[k].on (by
      simp only [directs, List.mem_map, List.mem_filter]
      exact ⟨o.after[k], ⟨by simp, hb⟩, rfl⟩)
    simp [Array.getD_eq_getD_getElem?, this]
  · simp only [Bool.not_eq_true] at hb
    simp [hb]

theorem draws_sound {m : List (Nat × Nat)} (hm : MaskOk ops m) {Qx : Exit → Act → World → Prop} {K : Env → Hp → Prop} (B : Nat) (df : List Deferred) :
    ∀ (n : Nat) (c : List DOp) (fuel : Nat) (listed : Array Bool) (κ : Nat → KB) (H : Hp) (w : World) (e : Env) (a : Act), n = c.length → n ≤ fuel →
      c.Pairwise (fun x y => (maskOf m y.id).testBit x.id = true ∨ ovt x y = true ∨ x.fls.contains y.id = true) → (∀ x ∈ c, kdOf x.o ≠ .eff → x.fls = []) → (∀ x ∈ c, DopOk P N ops x) →
      listed.size = ops.size → (∀ i, i < ops.size → (listed[i]? = some false ↔ ∃ x ∈ c, x.id = i)) → (c.map (·.id)).Nodup →
      (∀ (j : Nat) (o : Oper), listed[j]? = some true → ops[j]? = some o → ∀ d ∈ directs o, listed[d]? = some true) →
      c.Pairwise (fun x y => ∀ o, ops[x.id]? = some o → y.id ∉ directs o) → (∀ x ∈ c, ∀ o, ops[x.id]? = some o → ∀ d ∈ directs o, d < ops.size ∧ d ≠ x.id) →
      WD P w0 S n c K e H → Rel P w0 κ H w → EnvRel κ (dom H) N e a.tmps → a.defers = df →
      (∀ env' κ' H' a' w', K env' H' → EnvRel κ' (dom H') N env' a'.tmps → Rel P w0 κ' H' w' → Trans B κ H w κ' H' w' → a'.defers = df → Qx .normal a' w') →
      wpAny P .any ops Qx fuel listed a w := by
  intro n
  induction n with
  | zero =>
    intro c fuel listed κ H w e a hn hfuel hpw hfls hok hsz hlist hnd hcl htp htr hW hr he hdf hK
    have hc : c = [] := List.eq_nil_of_length_eq_zero hn.symm
    subst hc
    have hnone : ∀ i, i ∈ Region.ready .any ops listed → False := by
      intro i hi
      obtain ⟨h1, h2, _⟩ := ready_mem hsz hi
      obtain ⟨x, hx, _⟩ := (hlist i h1).1 h2
      simp at hx
    have hQ : Qx .normal a w := hK e κ H a w hW he hr (Trans.refl _ _ _ _) hdf
    have hempty : Region.ready .any ops listed = [] := List.eq_nil_iff_forall_not_mem.2 hnone
    cases fuel with
    | zero => exact ⟨hempty, hQ⟩
    | succ f => exact ⟨fun _ => hQ, fun i hi => (hnone i hi).elim⟩
  | succ n ih =>
    intro c fuel listed κ H w e a hn hfuel hpw hfls hok hsz hlist hnd hcl htp htd hW hr he hdf hK
    obtain ⟨f, rfl⟩ : ∃ f, fuel = f + 1 := ⟨fuel - 1, by omega⟩
    have hstep : ∀ i ∈ Region.ready .any ops listed, wpOp P ops Qx i (wpAny P .any ops Qx f (listed.setIfInBounds i true)) a w := by
      intro i hi
      obtain ⟨h1, h2, h3⟩ := ready_mem hsz hi
      obtain ⟨x, hx, hxi⟩ := (hlist i h1).1 h2
      obtain ⟨p, q, hc⟩ := List.append_of_mem hx
      subst hc
      have hpw' := List.pairwise_append.1 hpw
      have hpass : ∀ z ∈ p, mayPass z x := by
        intro z hz
        have hzk := hok z (by simp [hz])
        rcases hpw'.2.2 z hz x (by simp) with h | h | h
        · exfalso
          have hzl : listed[z.id]? = some true := by
            refine mask_closed hm (i := x.id) h (L := fun j => listed[j]? = some true) (fun j o hj ho d hd => hcl j o hj ho d hd) fun o ho d hd => ?_
            rw [hxi] at ho
            exact h3 o ho d hd
          obtain ⟨oz, hoz, _⟩ := hzk
          have hzlt : z.id < ops.size := (Array.getElem?_eq_some_iff.1 hoz).1
          have := (hlist z.id hzlt).2 ⟨z, by simp [hz], rfl⟩
          rw [hzl] at this; cases this
        · exact .inl h
        · by_cases hk : kdOf z.o = .eff
          · exact .inr ⟨hk, h⟩
          · rw [hfls z (by simp [hz]) hk] at h; simp at h
      have hfront := WD_front p x q K e H (n + 1) (by simp at hn; omega) hpass (fun z hz => hfls z (by simp [hz])) hr.fin hW
      obtain ⟨o, ho, hg, hd, hxo, hdN⟩ := hok x (by simp)
      rw [hxi] at ho
      have hdN' : ∀ j, o.dst = some j → j < N := by
        intro j hj; rw [hj] at hdN; simpa [dstOk] using hdN
      have hnd' : ((p ++ q).map (·.id)).Nodup := by
        rw [List.map_append, List.map_cons] at hnd
        rw [List.map_append]
        exact (List.nodup_append.2 ⟨(List.nodup_append.1 hnd).1, (List.nodup_cons.1 (List.nodup_append.1 hnd).2.1).2, fun a ha b hb => (List.nodup_append.1 hnd).2.2 a ha b (List.mem_cons_of_mem _ hb)⟩)
      have hsub : (p ++ q).Sublist (p ++ x :: q) := List.Sublist.append (List.Sublist.refl _) (List.sublist_cons_self _ _)
      have hnotin : ∀ z ∈ p ++ q, z.id ≠ i := by
        intro z hz e
        rw [List.map_append, List.map_cons, hxi] at hnd
        obtain ⟨n1, n2, n3⟩ := List.nodup_append.1 hnd
        rcases List.mem_append.1 hz with hz | hz
        · exact n3 z.id (List.mem_map_of_mem hz) i (by simp) e
        · exact (List.nodup_cons.1 n2).1 (by rw [← e]; exact List.mem_map_of_mem hz)
      have go : ∀ v rv κ' H' w', WD P w0 S (p.length + q.length) (p ++ q) K (updo e x.d v) H' → VR κ' (dom H') v rv → Rel P w0 κ' H' w' → Trans B κ H w κ' H' w' →
          wpAny P .any ops Qx f (listed.setIfInBounds i true) (a.put o.dst rv) w' := by
        intro v rv κ' H' w' hWD hv hr' htr
        rw [hd] at hWD
        have hlen : n = (p ++ q).length := by simp at hn ⊢; omega
        rw [← List.length_append, ← hlen] at hWD
        refine ih (p ++ q) f (listed.setIfInBounds i true) κ' H' w' _ (a.put o.dst rv) hlen (by omega) ?_ (fun z hz => hfls z (by rcases List.mem_append.1 hz with h | h <;> simp [h])) (fun z hz => hok z (by rcases List.mem_append.1 hz with h | h <;> simp [h]))
          (by simpa using hsz) ?_ hnd' ?_ (htp.sublist hsub) (fun z hz => htd z (hsub.subset hz)) hWD hr' ((htr.env he).put hdN' hv) (by rw [Act.put_defers']; exact hdf) fun env2 κ2 H2 a2 w2 k1 k2 k3 k4 k5 => hK env2 κ2 H2 a2 w2 k1 k2 k3 (htr.trans k4) k5
        · exact List.pairwise_append.2 ⟨hpw'.1, (List.pairwise_cons.1 hpw'.2.1).2, fun z hz y hy => hpw'.2.2 z hz y (List.mem_cons_of_mem _ hy)⟩
        · intro j hj
          by_cases hij : j = i
          · subst hij
            rw [Array.getElem?_setIfInBounds_self_of_lt (by omega)]
            constructor
            · intro h; cases h
            · rintro ⟨z, hz, hzj⟩; exact absurd hzj (hnotin z hz)
          · rw [Array.getElem?_setIfInBounds_ne (Ne.symm hij), hlist j hj]
            constructor
            · rintro ⟨z, hz, hzj⟩
              refine ⟨z, ?_, hzj⟩
              rcases List.mem_append.1 hz with h | h
              · simp [h]
              · rcases List.mem_cons.1 h with rfl | h
                · exact absurd (hzj.symm.trans hxi) hij
                · simp [h]
            · rintro ⟨z, hz, hzj⟩
              exact ⟨z, by rcases List.mem_append.1 hz with h | h <;> simp [h], hzj⟩
        · intro j oj hj hoj d hdd
          have keep : ∀ d : Nat, listed[d]? = some true → (listed.setIfInBounds i true)[d]? = some true := by
            intro d hd
            by_cases hdi : d = i
            · subst hdi; exact Array.getElem?_setIfInBounds_self_of_lt (by omega)
            · rw [Array.getElem?_setIfInBounds_ne (Ne.symm hdi)]; exact hd
          by_cases hji : j = i
          · subst hji
            exact keep d (h3 oj hoj d hdd)
          · rw [Array.getElem?_setIfInBounds_ne (Ne.symm hji)] at hj
            exact keep d (hcl j oj hj hoj d hdd)
      have hW' : Wg x.g e (Wop P w0 (trOp P o.op) (fun v H' => WD P w0 S (p.length + q.length) (p ++ q) K (updo e x.d v) H') e H) (WD P w0 S (p.length + q.length) (p ++ q) K (updo e x.d (.tup [])) H) := by
        rw [Wg_md]
        refine QB_mono (TD_md.1 hfront) fun b hb => ?_
        cases b with
        | false => exact hb
        | true =>
          simp only [if_true] at hb ⊢
          rw [← hxo]
          cases hxk : x.o with
          | q oq => simp only [WopD, hxk] at hb; exact hb.2
          | l ol => simp only [WopD, hxk] at hb; exact hb
          | e oe => simp only [WopD, hxk] at hb; exact Weff_mono hb fun v H' h => h.2
      exact wpOp_sound ho hg hW' hr he B (fun v rv κ' H' w' hK' hv hr' htr => go v rv κ' H' w' hK' hv hr' htr) fun hp => go (.tup []) undef κ H w hp undef_vr hr (Trans.refl _ _ _ _)
    refine ⟨fun hempty => ?_, hstep⟩
    -- an operation is left, so one is ready
    exfalso
    cases hc : c with
    | nil => rw [hc] at hn; simp at hn
    | cons x q =>
      subst hc
      obtain ⟨o, ho, _⟩ := hok x (by simp)
      have hlt := (Array.getElem?_eq_some_iff.1 ho).1
      have hmem := ready_of (listed := listed) hlt ((hlist x.id hlt).2 ⟨x, by simp, rfl⟩) ho fun d hd => by
        obtain ⟨d1, d2⟩ := htd x (by simp) o ho d hd
        have hdl : d < listed.size := by omega
        cases hb : listed[d]? with
        | none => rw [Array.getElem?_eq_none_iff] at hb; omega
        | some b =>
          cases b with
          | true => rfl
          | false =>
            exfalso
            obtain ⟨z, hz, hzd⟩ := (hlist d d1).1 hb
            rcases List.mem_cons.1 hz with rfl | hz
            · exact d2 hzd.symm
            · exact (List.pairwise_cons.1 htp).1 z hz o ho (by rw [hzd]; exact hd)
      rw [hempty] at hmem
      simp at hmem
end
end Go.AL

/-
  Code and calls.
-/
namespace Go.AL
set_option linter.unusedSimpArgs false
set_option linter.unusedVariables false

section
variable {P : Program} {w0 : World} {N : Nat}

theorem Post.mono {B : Nat} {κ κ' : Nat → KB} {H H' : Hp} {w w' : World} {R R' : Ex → Env → Hp → Prop} {en : Exit} {a : Act} {u : World} (h : Post P w0 N B κ' H' w' R en a u) (ht : Trans B κ H w κ' H' w')
    (hr : ∀ ex e H, R ex e H → R' ex e H) : Post P w0 N B κ H w R' en a u := by
  obtain ⟨h1, ex, e, κ2, H2, h2, h3, h4, h5, h6⟩ := h
  exact ⟨h1, ex, e, κ2, H2, h2, hr _ _ _ h3, h4, h5, ht.trans h6⟩

theorem bad_false {Q : Ex → Env → Hp → Prop} {e : Env} {H : Hp} (h : W P w0 bad Q e H) : False := by
  simp [bad, W, Wg, Wop, qv, QB] at h

theorem thenQ_done (Q : Ex → Env → Hp → Prop) (n : Env → Hp → Prop) : ∀ ex e H, thenQ (W P w0 .done (thenQ n Q)) (thenQ n Q) ex e H → thenQ n Q ex e H := by
  intro ex e H h
  cases ex <;> exact h

theorem tr_sound (hmix : P.follows .mixedOrders = true) (ρ : Nat → List Nat) (B : Nat) : ∀ (c : Code) (k : CC) (Q : Ex → Env → Hp → Prop) (κ : Nat → KB) (H : Hp) (w : World) (e : Env) (a : Act),
    W P w0 (tr P ρ N c k) Q e H → Rel P w0 κ H w → EnvRel κ (dom H) N e a.tmps → a.defers = [] → c.wp P (Post P w0 N B κ H w (thenQ (W P w0 k Q) Q)) a w
  | .skip, k, Q, κ, H, w, e, a, hW, hr, he, hd => by
    simp only [tr] at hW
    exact wp_skip ⟨hd, .norm, e, κ, H, rfl, hW, he, hr, Trans.refl _ _ _ _⟩
  | .region id ops false, k, Q, κ, H, w, e, a, hW, hr, he, hd => by
    simp only [tr] at hW
    refine wp_region ?_
    have := row_sound (P := P) (w0 := w0) (N := N) (ops := ops) ops.toList 0 k Q κ H w e a B (Post P w0 N B κ H w (thenQ (W P w0 k Q) Q)) (fun j => by simp) (by simp) hW hr he
      fun env' κ' H' a' w' h1 h2 h3 h4 h5 => ⟨h5.trans hd, .norm, env', κ', H', rfl, h1, h2, h3, h4⟩
    simpa using this
  | .region id ops true, k, Q, κ, H, w, e, a, hW, hr, he, hd => by
    simp only [tr] at hW
    split at hW
    · rename_i l hl
      simp only [W] at hW
      obtain ⟨S, hW⟩ := hW
      simp only [trDraws] at hl
      split at hl
      · rename_i m hm
        simp only [Option.bind_eq_some_iff] at hl
        obtain ⟨l', h1, h2⟩ := hl
        split at h2
        · rename_i hc
          simp only [Option.some.injEq] at h2; subst h2
          simp only [Bool.and_eq_true, decide_eq_true_eq, List.all_eq_true, List.mem_range, List.contains_iff_mem] at hc
          obtain ⟨⟨⟨c1, c2⟩, c3⟩, c4⟩ := hc
          obtain ⟨hids, hok⟩ := mkDops_spec h1
          have hmask : MaskOk ops m := maskGo_ok _ [] m (by intro i s hi; simp at hi) hm
          obtain ⟨p1, p2⟩ := pairsB_spec c1
          obtain ⟨t1, t2⟩ := topoB_spec (ops := ops) l' [] (by rw [hids]; exact c2) (by simp) (by simpa [hids] using c3)
          refine wp_region_any hmix ?_
          obtain ⟨hr', htr⟩ := hr.drew (w' := { w with drawn := w.drawn + 1 }) rfl rfl rfl rfl B
          have hlen : l'.length ≤ ops.size := by
            have : (l'.map (·.id)).length ≤ (List.range ops.size).length := by
              apply List.Nodup.length_le_of_subset
              · rw [hids]; exact c3
              · intro i hi
                simp only [List.mem_map] at hi
                obtain ⟨x, hx, rfl⟩ := hi
                obtain ⟨o, ho, _⟩ := hok x hx
                simpa using (Array.getElem?_eq_some_iff.1 ho).1
            simpa using this
          refine draws_sound (S := S) (N := N) (w0 := w0) hmask B [] l'.length l' ops.size (Array.replicate ops.size false) κ H _ e a rfl hlen p1 p2 hok (by simp) (fun i hi => ?_) (by rw [hids]; exact c3) (fun j o hj => ?_) t1 t2 hW hr' he hd
            fun env' κ' H' a' w' k1 k2 k3 k4 k5 => ⟨k5, .norm, env', κ', H', rfl, k1, k2, k3, htr.trans k4⟩
          · constructor
            · intro _
              have := c4 i hi
              rw [← hids, List.mem_map] at this
              exact this
            · intro _
              simp [hi]
          · rw [Array.getElem?_replicate] at hj
            split at hj <;> cases hj
        · cases h2
      · cases hl
    · exact (bad_false hW).elim
  | .seq x y, k, Q, κ, H, w, e, a, hW, hr, he, hd => by
    simp only [tr] at hW
    refine wp_seq ?_
    have hx := tr_sound hmix ρ B x (tr P ρ N y k) Q κ H w e a hW hr he hd
    refine wp_mono hx fun en a' w' hp => ?_
    obtain ⟨h1, ex, env', κ', H', h2, h3, h4, h5, h6⟩ := hp
    subst h2
    cases ex with
    | norm => exact wp_mono (tr_sound hmix ρ B y k Q κ' H' w' env' a' h3 h5 h4 h1) fun en2 a2 w2 h => h.mono h6 fun _ _ _ h => h
    | exit i => exact ⟨h1, .exit i, env', κ', H', rfl, h3, h4, h5, h6⟩
    | ret => exact ⟨h1, .ret, env', κ', H', rfl, h3, h4, h5, h6⟩
  | .cond c x y, k, Q, κ, H, w, e, a, hW, hr, he, hd => by
    simp only [tr] at hW
    split at hW
    · rename_i c' hc
      simp only [W, QB] at hW
      obtain ⟨b, hb, hW⟩ := hW
      have hv := he.eval hc
      have hcb : a.eval c = .bool b := by
        cases h : ev e c' <;> simp [h, boolA] at hb
        subst hb
        rw [h] at hv
        simpa only [VR] using hv
      refine wp_cond hcb ?_
      cases b with
      | true =>
        simp only [Br_true] at hW
        exact wp_mono (tr_sound hmix ρ B x .done _ κ H w e a hW hr he hd) fun en a' w' h => h.mono (Trans.refl _ _ _ _) (thenQ_done Q _)
      | false =>
        simp only [Br_false] at hW
        exact wp_mono (tr_sound hmix ρ B y .done _ κ H w e a hW hr he hd) fun en a' w' h => h.mono (Trans.refl _ _ _ _) (thenQ_done Q _)
    · exact (bad_false hW).elim
  | .block id c, k, Q, κ, H, w, e, a, hW, hr, he, hd => by
    simp only [tr, W] at hW
    refine wp_block ?_
    refine wp_mono (tr_sound hmix ρ B c .done _ κ H w e a hW hr he hd) fun en a' w' hp => ?_
    obtain ⟨h1, ex, env', κ', H', h2, h3, h4, h5, h6⟩ := hp
    subst h2
    cases ex with
    | norm => exact ⟨h1, .norm, env', κ', H', rfl, h3, h4, h5, h6⟩
    | exit i =>
      simp only [thenQ, blockQ] at h3
      simp only [Ex.real, Exit.inBlock]
      split
      · rename_i hi
        rw [if_pos hi] at h3
        exact ⟨h1, .norm, env', κ', H', rfl, h3, h4, h5, h6⟩
      · rename_i hi
        rw [if_neg hi] at h3
        exact ⟨h1, .exit i, env', κ', H', rfl, h3, h4, h5, h6⟩
    | ret => exact ⟨h1, .ret, env', κ', H', rfl, h3, h4, h5, h6⟩
  | .loop c, k, Q, κ, H, w, e, a, hW, hr, he, hd => by
    simp only [tr, W] at hW
    obtain ⟨I, n, h0, hI⟩ := hW
    refine wp_loopN (fun n a' w' => a'.defers = [] ∧ ∃ env' κ' H', I n env' H' ∧ EnvRel κ' (dom H') N env' a'.tmps ∧ Rel P w0 κ' H' w' ∧ Trans B κ H w κ' H' w') n ⟨hd, e, κ, H, h0, he, hr, Trans.refl _ _ _ _⟩ ?_
    rintro n a1 w1 ⟨hd1, e1, κ1, H1, hI1, he1, hr1, ht1⟩
    refine wp_mono (tr_sound hmix ρ B c .done _ κ1 H1 w1 e1 a1 (hI n e1 H1 hI1) hr1 he1 hd1) fun en a' w' hp => ?_
    obtain ⟨h1, ex, env', κ', H', h2, h3, h4, h5, h6⟩ := hp
    subst h2
    cases ex with
    | norm =>
      simp only [thenQ, W, loopQ] at h3
      obtain ⟨m, hlt, hm⟩ := h3
      exact ⟨m, hlt, h1, env', κ', H', hm, h4, h5, ht1.trans h6⟩
    | exit i => exact ⟨h1, .exit i, env', κ', H', rfl, h3, h4, h5, ht1.trans h6⟩
    | ret => exact ⟨h1, .ret, env', κ', H', rfl, h3, h4, h5, ht1.trans h6⟩
  | .exit id, k, Q, κ, H, w, e, a, hW, hr, he, hd => by
    simp only [tr, W] at hW
    exact wp_exit ⟨hd, .exit id, e, κ, H, rfl, hW, he, hr, Trans.refl _ _ _ _⟩
  | .ret, k, Q, κ, H, w, e, a, hW, hr, he, hd => by
    simp only [tr, W] at hW
    exact wp_ret ⟨hd, .ret, e, κ, H, rfl, hW, he, hr, Trans.refl _ _ _ _⟩
  | .rangeFunc .., _, _, _, _, _, _, _, hW, _, _, _ => by simp only [tr] at hW; exact (bad_false hW).elim
  | .scope _, _, _, _, _, _, _, _, hW, _, _, _ => by simp only [tr] at hW; exact (bad_false hW).elim
  | .label _, _, _, _, _, _, _, _, hW, _, _, _ => by simp only [tr] at hW; exact (bad_false hW).elim
  | .goto _, _, _, _, _, _, _, _, hW, _, _, _ => by simp only [tr] at hW; exact (bad_false hW).elim
  | .refuse _, _, _, _, _, _, _, _, hW, _, _, _ => by simp only [tr] at hW; exact (bad_false hW).elim

def resOne (tmps : Array Value) : ResultVar → Sem Value
  | .tmp t => pure (tmps.getD t undef)
  | .cell a t => do loadVar t (← asAddr (tmps.getD a undef))

theorem results_one (fn : Func) (tmps : Array Value) : results fn tmps = (do let vs ← fn.results.mapM (resOne tmps); pure (if h : vs.size = 1 then vs[0] else .tuple vs)) := by
  have : resOne tmps = (fun | .tmp t => pure (tmps.getD t undef) | .cell a t => do loadVar t (← asAddr (tmps.getD a undef)) : ResultVar → Sem Value) := by
    funext x; cases x <;> rfl
  rw [this]
  rfl

theorem res_sound {κ : Nat → KB} {H : Hp} {w : World} {e : Env} {tmps : Array Value} (hr : Rel P w0 κ H w) (he : EnvRel κ (dom H) N e tmps) : ∀ (l : List ResultVar) (rs : List RV) (vs : List AV), trR P l = some rs → resA e H rs = some vs →
    ∃ rvs : List Value, (l.mapM (resOne tmps)).run P w = .ok rvs w ∧ VRs κ (dom H) vs rvs
  | [], rs, vs, h1, h2 => by
    simp only [trR, Option.some.injEq] at h1; subst h1
    simp only [resA, Option.some.injEq] at h2; subst h2
    exact ⟨[], by simp, by simp [VRs]⟩
  | .tmp t :: l, rs, vs, h1, h2 => by
    simp only [trR, Option.bind_eq_some_iff] at h1
    obtain ⟨r, h3, h4⟩ := h1
    simp only [Option.some.injEq] at h4; subst h4
    simp only [resA, Option.bind_eq_some_iff] at h2
    obtain ⟨u, h5, h6⟩ := h2
    simp only [Option.some.injEq] at h6; subst h6
    obtain ⟨rvs, h7, h8⟩ := res_sound hr he l r u h3 h5
    refine ⟨tmps.getD t undef :: rvs, ?_, by simp only [VRs]; exact ⟨_, _, rfl, he.2 t, h8⟩⟩
    rw [List.mapM_cons]
    simp only [resOne, Sem.run_bind, Sem.run_pure, Result.andThen, h7]
  | .cell a t :: l, rs, vs, h1, h2 => by
    simp only [trR, Option.bind_eq_some_iff] at h1
    obtain ⟨n, hn, r, h3, h4⟩ := h1
    simp only [Option.some.injEq] at h4; subst h4
    have hload : ∃ v u, resA e H r = some u ∧ vs = v :: u ∧ ∃ rv, (do loadVar t (← asAddr (tmps.getD a undef)) : Sem Value).run P w = .ok rv w ∧ VR κ (dom H) v rv := by
      split at hn
      · rename_i fs hu
        simp only [Option.map_eq_some_iff] at hn
        obtain ⟨k, hk, rfl⟩ := hn
        simp only [resA, Option.bind_eq_some_iff] at h2
        obtain ⟨cs, hcs, u, hu2, h6⟩ := h2
        simp only [Option.some.injEq] at h6; subst h6
        refine ⟨_, u, hu2, rfl, ?_⟩
        obtain ⟨q, o, hp, hl, hget⟩ := atN_get hcs
        have hx := he.2 a
        rw [hp] at hx
        simp only [VR] at hx
        obtain ⟨vs', h5, h6, _⟩ := cells_sound hr hget
        refine ⟨.agg vs'.toArray, ?_, by simp only [VR]; exact ⟨vs', rfl, h5⟩⟩
        have hlc := run_loadCells_list (P := P) w ⟨(κ q).blk, (κ q).off + o, none⟩ vs' h6
        rw [VRs.length h5, hl] at hlc
        simp [hx.2, asAddr, loadVar, isAgg, run_und hu, run_size hk, hlc]
      · cases hn
      · rename_i d hn1 hn2 hu
        simp only [Option.some.injEq] at hn; subst hn
        simp only [resA, Option.bind_eq_some_iff] at h2
        obtain ⟨v, hv, u, hu2, h6⟩ := h2
        simp only [Option.some.injEq] at h6; subst h6
        refine ⟨v, u, hu2, rfl, ?_⟩
        have hp : ∃ q o, e a = .ptr q o := by
          cases hv' : e a <;> simp [hv', Hp.at] at hv
          exact ⟨_, _, rfl⟩
        obtain ⟨q, o, hp⟩ := hp
        have hx := he.2 a
        rw [hp] at hv hx
        simp only [VR] at hx
        obtain ⟨rv, h3, h4, _⟩ := at_sound hr hv
        refine ⟨rv, ?_, h4⟩
        have hagg : (isAgg t).run P w = .ok false w := by
          simp only [isAgg, Sem.run_bind, run_und hu]
          cases d with
          | struct fs => exact absurd rfl (hn1 fs)
          | array n x => exact absurd rfl (hn2 n x)
          | _ => rfl
        simp [hx.2, asAddr, loadVar, hagg, h3]
      · cases hn
    obtain ⟨v, u, h5, rfl, rv, h6, h7⟩ := hload
    obtain ⟨rvs, h8, h9⟩ := res_sound hr he l r u h3 h5
    refine ⟨rv :: rvs, ?_, by simp only [VRs]; exact ⟨_, _, rfl, h7, h9⟩⟩
    rw [List.mapM_cons]
    rw [Sem.run_bind]
    have h6' : (resOne tmps (.cell a t)).run P w = .ok rv w := h6
    rw [h6']
    simp only [Result.andThen, Sem.run_bind, h8, Sem.run_pure]

/-- A call, by its code. -/
theorem ACalls.intro {f : Nat} {fn : Func} {c : Code} {cc : CC} {rs : List RV} {args : List AV} {H : Hp} {Q : AV → Hp → Prop} (hmix : P.follows .mixedOrders = true) (hf : P.funcs[f]? = some fn) (hb : fn.body = some c)
    (hname : (fn.name == "runtime.NumGoroutine") = false) (ρ : Nat → List Nat) (ht : tr P ρ fn.ntmps c .done = cc) (hrs : trR P fn.results.toList = some rs) (hW : W P w0 cc (retQ rs Q) (env0 args) H) :
    ACalls P w0 f args H Q := by
  refine ⟨⟨fn, hf, by rw [hb]; rfl, hname⟩, fun B κ w vs hr hv => ?_⟩
  refine calls_of_wp hf hb ?_
  subst ht
  have hl := hv.length
  have he : EnvRel κ (dom H) fn.ntmps (env0 args) (vs.toArray ++ Array.replicate (fn.ntmps - vs.toArray.size) undef) := by
    refine ⟨by simp; omega, fun t => ?_⟩
    simp only [env0, Array.getD_eq_getD_getElem?]
    cases hx : args[t]? with
    | some x =>
      obtain ⟨rv, h1, h2⟩ := hv.get t x hx
      have hlt := (List.getElem?_eq_some_iff.1 h1).1
      rw [Array.getElem?_append_left (by simpa using hlt)]
      simpa [h1] using h2
    | none =>
      have hge : vs.length ≤ t := by rw [hl]; exact List.getElem?_eq_none_iff.1 hx
      rw [Array.getElem?_append_right (by simpa using hge), Array.getElem?_replicate]
      split <;> exact undef_vr
  refine wp_mono (tr_sound hmix ρ B c .done (retQ rs Q) κ H w (env0 args) { tmps := vs.toArray ++ Array.replicate (fn.ntmps - vs.toArray.size) undef, defers := [] } hW hr he rfl) fun en a' w' hp => ?_
  obtain ⟨h1, ex, env', κ', H', h2, h3, h4, h5, h6⟩ := hp
  subst h2
  have hfin : ∀ (h3 : QB (resA env' H' rs) fun vs => Q (ret1 vs) H'), a'.defers = [] ∧ ∃ v, (results fn a'.tmps).run P w' = .ok v w' ∧ ∃ v' rv κ' H', Ending.returned v = .returned rv ∧ Q v' H' ∧ VR κ' (dom H') v' rv ∧ Rel P w0 κ' H' w' ∧ Trans B κ H w κ' H' w' := by
    rintro ⟨us, hus, hQ⟩
    obtain ⟨rvs, h7, h8⟩ := res_sound h5 h4 fn.results.toList rs us hrs hus
    have hres : (results fn a'.tmps).run P w' = .ok (if h : rvs.toArray.size = 1 then rvs.toArray[0] else .tuple rvs.toArray) w' := by
      rw [results_one, Sem.run_bind, Array.mapM_eq_mapM_toList, map_eq_pure_bind, Sem.run_bind]
      rw [h7]
      simp only [Result.andThen, Function.comp, Sem.run_pure]
    refine ⟨h1, _, hres, ret1 us, _, κ', H', rfl, hQ, ?_, h5, h6⟩
    have hlen := h8.length
    match us, rvs, h8, hlen with
    | [], [], h8, _ => simp only [ret1, VR]; exact ⟨[], by simp, h8⟩
    | [u], [rv], h8, _ => simp only [VRs] at h8; obtain ⟨v, r, h9, h10, _⟩ := h8; simp at h9; simp [ret1]; rw [h9.1]; exact h10
    | u :: u2 :: us, rv :: rv2 :: rvs, h8, _ => simp only [ret1, VR]; exact ⟨_, by simp, h8⟩
    | [], _ :: _, _, h => simp at h
    | [_], [], _, h => simp at h
    | [_], _ :: _ :: _, _, h => simp at h
    | _ :: _ :: _, [], _, h => simp at h
    | _ :: _ :: _, [_], _, h => simp at h
  cases ex with
  | norm => exact hfin h3
  | exit i => exact h3.elim
  | ret => exact hfin h3

theorem ACalls.intro2 {f : Nat} {fn : Func} {cc : CC} {rs : List RV} {args : List AV} {H : Hp} {Q : AV → Hp → Prop} {ρ : Nat → List Nat} (hmix : P.follows .mixedOrders = true) (hf : P.funcs[f]? = some fn)
    (hname : (fn.name == "runtime.NumGoroutine") = false) (ht : (fn.body.map fun c => tr P ρ fn.ntmps c .done) = some cc) (hrs : trR P fn.results.toList = some rs) (hW : W P w0 cc (retQ rs Q) (env0 args) H) :
    ACalls P w0 f args H Q := by
  cases hb : fn.body with
  | none => rw [hb] at ht; cases ht
  | some c =>
    rw [hb] at ht
    simp only [Option.map_some, Option.some.injEq] at ht
    exact ACalls.intro hmix hf hb hname ρ ht hrs hW
end
end Go.AL
