/-
  Lemmas that the proofs of the given statements of this seat use. Conditions: none.
-/
import Derived.Test.YtijpoplbdjfhaaaCodeA0
import Derived.Test.YtijpoplbdjfhaaaProg
import Derived.KernelRfl
/-
  The compact code of the functions, written by a program of mine out of the translation; Lean checks each against the translation.
-/
namespace Go.AL
open Go.Proofs
set_option maxRecDepth 100000
/-- spec.classes -/
def c102 : CC :=
  .op (some 2) none (.l (.box 26 (.t 0)))
  (.op (some 4) none (.q (.mov (.k (.nils))))
  (.op (some 9) none (.l (.bsl 3 1 [.int .i64 0] 0 []))
  (.op (some 5) none (.q (.mov (.t 9)))
  (.op (some 6) none (.q (.mov (.k (.int .i64 0))))
  (.block 0
  (.loop
  (.op (some 10) none (.q (.mov (.t 6)))
  (.op (some 11) none (.q (.fld 0 (.t 2)))
  (.op (some 12) none (.q (.load none (.t 11)))
  (.op (some 13) none (.q (.len (.t 12)))
  (.op (some 14) none (.q (.bin .lss (.t 10) (.t 13)))
  (.cond (.t 14)
  (.done)
  (.exit 0)
  (.block 1
  (.op (some 17) none (.q (.mov (.t 6)))
  (.op (some 7) none (.q (.mov (.t 17)))
  (.op (some 18) none (.q (.mov (.t 6)))
  (.op (some 19) none (.q (.bin .sub (.t 18) (.k (.int .i64 1))))
  (.op (some 8) none (.q (.mov (.t 19)))
  (.block 2
  (.loop
  (.op (some 20) none (.q (.mov (.t 8)))
  (.op (some 21) none (.q (.bin .geq (.t 20) (.k (.int .i64 0))))
  (.cond (.t 21)
  (.done)
  (.exit 2)
  (.block 3
  (.op (some 24) none (.q (.mov (.t 1)))
  (.op (some 25) none (.q (.load (some 2) (.t 2)))
  (.op (some 26) none (.q (.mov (.t 6)))
  (.op (some 27) none (.q (.mov (.t 8)))
  (.op (some 28) none (.e (.call (.f 72) [.t 25, .t 26, .t 27]))
  (.op (some 29) none (.e (.call (.f 112) [.t 24, .t 28]))
  (.op (some 30) none (.q (.bin .eql (.t 29) (.k (.int .i64 1))))
  (.cond (.t 30)
  (.op (some 31) none (.q (.mov (.t 8)))
  (.op (some 7) none (.q (.mov (.t 31)))
  (.done)))
  (.done)
  (.done)))))))))
  (.op (some 22) none (.q (.mov (.t 8)))
  (.op (some 23) none (.q (.bin .sub (.t 22) (.k (.int .i64 1))))
  (.op (some 8) none (.q (.mov (.t 23)))
  (.done)))))))))
  (.op (some 32) none (.q (.mov (.t 5)))
  (.op (some 33) none (.q (.mov (.t 7)))
  (.op (some 34) none (.l (.bsl 3 1 [.int .i64 0] 1 [(0, .t 33)]))
  (.op (some 35) none (.e (.app 3 1 8 (.t 32) (.t 34)))
  (.op (some 5) none (.q (.mov (.t 35)))
  (.done))))))))))))
  (.op (some 15) none (.q (.mov (.t 6)))
  (.op (some 16) none (.q (.bin .add (.t 15) (.k (.int .i64 1))))
  (.op (some 6) none (.q (.mov (.t 16)))
  (.done))))))))))))
  (.op (some 36) none (.q (.mov (.t 5)))
  (.op (some 4) none (.q (.mov (.t 36)))
  (.ret))))))))
def o102 : Nat → List Nat := fun _ => []
set_option maxRecDepth 100000 in
theorem t102 : (Try.f102.body.map fun c => tr Try.prog o102 Try.f102.ntmps c .done) = some c102 := by kernel_rfl
theorem r102 : trR Try.prog Try.f102.results.toList = some [.t 4] := by kernel_rfl
theorem in102 {w0 : World} {args : List AV} {H : Hp} {Q : AV → Hp → Prop} (h : W Try.prog w0 c102 (retQ [.t 4] Q) (env0 args) H) : ACalls Try.prog w0 102 args H Q :=
  ACalls.intro2 mixed Try.func102 rfl t102 r102 h

/-- spec.bent -/
def c103 : CC :=
  .op (some 3) none (.l (.box 26 (.t 1)))
  (.op (some 4) none (.l (.alloc 26 [.nils, .nils]))
  (.op (some 7) none (.q (.mov (.t 0)))
  (.op (some 8) none (.e (.call (.f 74) [.t 7, .k (.int .i64 16)]))
  (.op (some 9) none (.q (.bin .gtr (.t 8) (.k (.int .i64 0))))
  (.cond (.t 9)
  (.op (some 10) none (.q (.load (some 2) (.t 3)))
  (.op none none (.e (.store 2 (.t 4) (.t 10)))
  (.ret)))
  (.done)
  (.draws [⟨1, false, [], (some 12), none, .q (.fld 0 (.t 3))⟩,
    ⟨2, false, [], (some 13), none, .q (.load none (.t 12))⟩,
    ⟨4, false, [], (some 15), none, .q (.fld 1 (.t 3))⟩,
    ⟨5, true, [], (some 16), none, .q (.load none (.t 15))⟩,
    ⟨0, false, [], (some 11), none, .l (.bsl 3 1 [.int .i64 0] 0 [])⟩,
    ⟨3, false, [8], (some 14), none, .e (.app 3 1 8 (.t 11) (.t 13))⟩,
    ⟨6, false, [8], (some 17), none, .e (.call (.f 118) [.t 16])⟩,
    ⟨7, false, [], (some 18), none, .q (.build [.nils, .nils] [(0, .t 14), (1, .t 17)])⟩,
    ⟨8, false, [], (some 5), none, .l (.alloc 26 [.nils, .nils])⟩,
    ⟨9, false, [], none, none, .e (.store 2 (.t 5) (.t 18))⟩] (.op (some 19) none (.q (.mov (.t 0)))
  (.op (some 20) none (.q (.fld 0 (.t 5)))
  (.op (some 21) none (.q (.load none (.t 20)))
  (.op (some 22) none (.q (.len (.t 21)))
  (.op (some 23) none (.e (.call (.f 74) [.t 19, .t 22]))
  (.op (some 6) none (.q (.mov (.t 23)))
  (.op (some 24) none (.q (.mov (.t 0)))
  (.op (some 25) none (.e (.call (.f 74) [.t 24, .k (.int .i64 5)]))
  (.block 0
  (.op (some 32) none (.q (.bin .eql (.t 25) (.k (.int .i64 0))))
  (.op (some 31) none (.q (.mov (.t 32)))
  (.cond (.t 31)
  (.draws [⟨0, false, [], (some 33), none, .q (.fld 1 (.t 5))⟩,
    ⟨1, true, [], (some 34), none, .q (.load none (.t 33))⟩,
    ⟨2, false, [], (some 35), none, .q (.mov (.t 6))⟩,
    ⟨3, false, [], (some 36), none, .q (.idx 1 (.t 34) (.t 35))⟩,
    ⟨4, true, [], (some 37), none, .q (.load none (.t 36))⟩,
    ⟨5, false, [], (some 38), none, .q (.mov (.t 0))⟩,
    ⟨6, false, [], (some 39), none, .q (.fld 0 (.t 5))⟩,
    ⟨7, false, [], (some 40), none, .q (.load none (.t 39))⟩,
    ⟨8, false, [], (some 41), none, .q (.len (.t 40))⟩,
    ⟨10, false, [], (some 43), none, .q (.mov (.t 0))⟩,
    ⟨9, false, [11], (some 42), none, .e (.call (.f 74) [.t 38, .t 41])⟩,
    ⟨11, false, [], (some 44), none, .l (.bsl 3 1 [.int .i64 0] 4 [(0, .k (.int .i64 0)), (1, .k (.int .i64 1)), (2, .k (.int .i64 (-1))), (3, .k (.int .i64 6))])⟩,
    ⟨12, false, [], (some 45), none, .e (.call (.f 105) [.t 43, .t 44])⟩,
    ⟨13, false, [], (some 46), none, .q (.idx 1 (.t 37) (.t 42))⟩,
    ⟨14, false, [], none, none, .e (.store 1 (.t 46) (.t 45))⟩] (.done))
  (.op (some 48) none (.q (.bin .eql (.t 25) (.k (.int .i64 1))))
  (.op (some 47) none (.q (.mov (.t 48)))
  (.cond (.t 47)
  (.draws [⟨0, false, [], (some 49), none, .q (.fld 0 (.t 5))⟩,
    ⟨1, true, [], (some 50), none, .q (.load none (.t 49))⟩,
    ⟨2, false, [], (some 51), none, .q (.mov (.t 6))⟩,
    ⟨3, false, [], (some 52), none, .q (.mov (.t 0))⟩,
    ⟨4, false, [], (some 53), none, .l (.bsl 3 1 [.int .i64 0] 3 [(0, .k (.int .i64 0)), (1, .k (.int .i64 3)), (2, .k (.int .i64 (-1)))])⟩,
    ⟨5, false, [], (some 54), none, .e (.call (.f 105) [.t 52, .t 53])⟩,
    ⟨6, false, [], (some 55), none, .q (.idx 1 (.t 50) (.t 51))⟩,
    ⟨7, false, [], none, none, .e (.store 1 (.t 55) (.t 54))⟩] (.done))
  (.op (some 57) none (.q (.bin .eql (.t 25) (.k (.int .i64 2))))
  (.op (some 56) none (.q (.mov (.t 57)))
  (.cond (.t 56)
  (.op (some 58) none (.q (.fld 1 (.t 5)))
  (.op (some 59) none (.q (.load none (.t 58)))
  (.op (some 60) none (.q (.slc 1 (.t 59) (some (.k (.int .i64 1))) none))
  (.op (some 61) none (.q (.fld 1 (.t 5)))
  (.op none none (.e (.store 1 (.t 61) (.t 60)))
  (.done))))))
  (.op (some 63) none (.q (.bin .eql (.t 25) (.k (.int .i64 3))))
  (.op (some 62) none (.q (.mov (.t 63)))
  (.cond (.t 62)
  (.draws [⟨0, false, [], (some 64), none, .q (.fld 1 (.t 5))⟩,
    ⟨1, false, [], (some 65), none, .q (.load none (.t 64))⟩,
    ⟨2, false, [], (some 66), none, .q (.mov (.t 6))⟩,
    ⟨3, false, [], (some 67), none, .q (.fld 1 (.t 5))⟩,
    ⟨4, false, [], (some 68), none, .q (.load none (.t 67))⟩,
    ⟨5, false, [], (some 69), none, .q (.mov (.t 6))⟩,
    ⟨6, false, [], (some 70), none, .q (.idx 1 (.t 68) (.t 69))⟩,
    ⟨7, false, [], (some 71), none, .q (.load none (.t 70))⟩,
    ⟨8, false, [], (some 72), none, .q (.slc 1 (.t 71) (some (.k (.int .i64 1))) none)⟩,
    ⟨9, false, [], (some 73), none, .q (.idx 1 (.t 65) (.t 66))⟩,
    ⟨10, false, [], none, none, .e (.store 1 (.t 73) (.t 72))⟩] (.done))
  (.op (some 26) none (.q (.fld 0 (.t 5)))
  (.op (some 27) none (.q (.load none (.t 26)))
  (.op (some 28) none (.l (.bsl 3 1 [.int .i64 0] 1 [(0, .k (.int .i64 64))]))
  (.op (some 29) none (.e (.app 3 1 8 (.t 27) (.t 28)))
  (.op (some 30) none (.q (.fld 0 (.t 5)))
  (.op none none (.e (.store 1 (.t 30) (.t 29)))
  (.done)))))))
  (.done))))
  (.done))))
  (.done))))
  (.done))))
  (.op (some 74) none (.q (.load (some 2) (.t 5)))
  (.op none none (.e (.store 2 (.t 4) (.t 74)))
  (.ret))))))))))))))))))
def o103 : Nat → List Nat := fun i => if i = 8 then [0, 1, 2, 3, 4, 5, 6, 7, 8, 10, 9, 11, 12, 13, 14] else if i = 10 then [0, 1, 2, 3, 4, 5, 6, 7] else if i = 14 then [0, 1, 2, 3, 4, 5, 6, 7, 8, 9, 10] else if i = 3 then [1, 2, 4, 5, 0, 3, 6, 7, 8, 9] else []
set_option maxRecDepth 100000 in
theorem t103 : (Try.f103.body.map fun c => tr Try.prog o103 Try.f103.ntmps c .done) = some c103 := by kernel_rfl
theorem r103 : trR Try.prog Try.f103.results.toList = some [.c (some 2) 4] := by kernel_rfl
theorem in103 {w0 : World} {args : List AV} {H : Hp} {Q : AV → Hp → Prop} (h : W Try.prog w0 c103 (retQ [.c (some 2) 4] Q) (env0 args) H) : ACalls Try.prog w0 103 args H Q :=
  ACalls.intro2 mixed Try.func103 rfl t103 r103 h

/-- spec.goodAlgebra -/
def c104 : CC :=
  .op (some 2) none (.l (.alloc 26 [.nils, .nils]))
  (.op (some 9) none (.q (.mov (.t 0)))
  (.op (some 10) none (.e (.call (.f 74) [.t 9, .k (.int .i64 5)]))
  (.block 0
  (.op (some 12) none (.q (.bin .eql (.t 10) (.k (.int .i64 0))))
  (.op (some 11) none (.q (.mov (.t 12)))
  (.cond (.t 11)
  (.op (some 13) none (.q (.mov (.t 0)))
  (.op (some 14) none (.e (.call (.f 119) [.t 13, .k (.int .i64 2)]))
  (.op (some 3) none (.l (.alloc 26 [.nils, .nils]))
  (.op none none (.e (.store 2 (.t 3) (.t 14)))
  (.op (some 15) none (.q (.mov (.t 0)))
  (.op (some 16) none (.e (.call (.f 119) [.t 15, .k (.int .i64 3)]))
  (.op (some 4) none (.l (.alloc 26 [.nils, .nils]))
  (.op none none (.e (.store 2 (.t 4) (.t 16)))
  (.op (some 18) none (.q (.load (some 2) (.t 4)))
  (.op (some 19) none (.q (.load (some 2) (.t 3)))
  (.op (some 20) none (.e (.call (.f 120) [.t 18, .t 19]))
  (.op (some 17) none (.q (.mov (.t 20)))
  (.op (some 21) none (.q (.ext (.t 17) 0))
  (.op (some 22) none (.q (.ext (.t 17) 1))
  (.op (some 5) none (.l (.alloc 26 [.nils, .nils]))
  (.op none none (.e (.store 2 (.t 5) (.t 21)))
  (.op (some 6) none (.q (.mov (.t 22)))
  (.op (some 23) none (.q (.mov (.t 6)))
  (.cond (.t 23)
  (.op (some 24) none (.q (.load (some 2) (.t 5)))
  (.op none none (.e (.store 2 (.t 2) (.t 24)))
  (.ret)))
  (.done)
  (.done))))))))))))))))))))
  (.op (some 26) none (.q (.bin .eql (.t 10) (.k (.int .i64 1))))
  (.op (some 25) none (.q (.mov (.t 26)))
  (.cond (.t 25)
  (.op (some 28) none (.e (.call (.f 124) [.k (.int .i64 2)]))
  (.op (some 29) none (.e (.call (.f 124) [.k (.int .i64 2)]))
  (.op (some 30) none (.e (.call (.f 123) [.t 28, .t 29]))
  (.op (some 31) none (.e (.call (.f 122) [.t 30]))
  (.op (some 32) none (.q (.mov (.t 0)))
  (.op (some 33) none (.e (.call (.f 119) [.t 32, .k (.int .i64 3)]))
  (.op (some 34) none (.e (.call (.f 121) [.t 31, .t 33]))
  (.op (some 27) none (.q (.mov (.t 34)))
  (.op (some 35) none (.q (.ext (.t 27) 0))
  (.op (some 36) none (.q (.ext (.t 27) 1))
  (.op (some 7) none (.l (.alloc 26 [.nils, .nils]))
  (.op none none (.e (.store 2 (.t 7) (.t 35)))
  (.op (some 8) none (.q (.mov (.t 36)))
  (.op (some 37) none (.q (.mov (.t 8)))
  (.cond (.t 37)
  (.op (some 38) none (.q (.load (some 2) (.t 7)))
  (.op none none (.e (.store 2 (.t 2) (.t 38)))
  (.ret)))
  (.done)
  (.done))))))))))))))))
  (.done)
  (.done))))
  (.done))))
  (.op (some 39) none (.q (.mov (.t 0)))
  (.op (some 40) none (.e (.call (.f 119) [.t 39, .k (.int .i64 6)]))
  (.op none none (.e (.store 2 (.t 2) (.t 40)))
  (.ret)))))))
def o104 : Nat → List Nat := fun _ => []
set_option maxRecDepth 100000 in
theorem t104 : (Try.f104.body.map fun c => tr Try.prog o104 Try.f104.ntmps c .done) = some c104 := by kernel_rfl
theorem r104 : trR Try.prog Try.f104.results.toList = some [.c (some 2) 2] := by kernel_rfl
theorem in104 {w0 : World} {args : List AV} {H : Hp} {Q : AV → Hp → Prop} (h : W Try.prog w0 c104 (retQ [.c (some 2) 2] Q) (env0 args) H) : ACalls Try.prog w0 104 args H Q :=
  ACalls.intro2 mixed Try.func104 rfl t104 r104 h

/-- (*spec.reader).one -/
def c105 : CC :=
  .op (some 4) none (.q (.mov (.k (.int .i64 0))))
  (.op (some 5) none (.q (.mov (.t 1)))
  (.op (some 6) none (.q (.mov (.t 0)))
  (.op (some 7) none (.q (.mov (.t 1)))
  (.op (some 8) none (.q (.len (.t 7)))
  (.op (some 9) none (.e (.call (.f 74) [.t 6, .t 8]))
  (.op (some 10) none (.q (.idx 1 (.t 5) (.t 9)))
  (.op (some 11) none (.q (.load none (.t 10)))
  (.op (some 4) none (.q (.mov (.t 11)))
  (.ret)))))))))
def o105 : Nat → List Nat := fun _ => []
set_option maxRecDepth 100000 in
theorem t105 : (Try.f105.body.map fun c => tr Try.prog o105 Try.f105.ntmps c .done) = some c105 := by kernel_rfl
theorem r105 : trR Try.prog Try.f105.results.toList = some [.t 4] := by kernel_rfl
theorem in105 {w0 : World} {args : List AV} {H : Hp} {Q : AV → Hp → Prop} (h : W Try.prog w0 c105 (retQ [.t 4] Q) (env0 args) H) : ACalls Try.prog w0 105 args H Q :=
  ACalls.intro2 mixed Try.func105 rfl t105 r105 h

/-- impl.at$1 -/
def c106 : CC :=
  .op (some 3) none (.q (.mov (.k (.bool false))))
  (.op (some 4) none (.q (.mov (.t 0)))
  (.op (some 5) none (.q (.fld 0 (.t 1)))
  (.op (some 6) none (.q (.load none (.t 5)))
  (.op (some 7) none (.q (.len (.t 6)))
  (.op (some 8) none (.q (.bin .sub (.t 7) (.k (.int .i64 1))))
  (.op (some 9) none (.e (.call (.f 86) [.t 4, .k (.int .i64 0), .t 8]))
  (.op (some 10) none (.q (.not (.t 9)))
  (.op (some 3) none (.q (.mov (.t 10)))
  (.ret)))))))))
def o106 : Nat → List Nat := fun _ => []
set_option maxRecDepth 100000 in
theorem t106 : (Try.f106.body.map fun c => tr Try.prog o106 Try.f106.ntmps c .done) = some c106 := by kernel_rfl
theorem r106 : trR Try.prog Try.f106.results.toList = some [.t 3] := by kernel_rfl
theorem in106 {w0 : World} {args : List AV} {H : Hp} {Q : AV → Hp → Prop} (h : W Try.prog w0 c106 (retQ [.t 3] Q) (env0 args) H) : ACalls Try.prog w0 106 args H Q :=
  ACalls.intro2 mixed Try.func106 rfl t106 r106 h

/-- spec.below -/
def c107 : CC :=
  .op (some 6) none (.q (.mov (.k (.bool false))))
  (.op (some 7) none (.q (.mov (.t 0)))
  (.op (some 8) none (.q (.mov (.t 1)))
  (.op (some 9) none (.q (.idx 1 (.t 7) (.t 8)))
  (.op (some 10) none (.q (.load none (.t 9)))
  (.op (some 11) none (.q (.mov (.t 2)))
  (.op (some 12) none (.e (.call (.f 112) [.t 10, .t 11]))
  (.op (some 13) none (.q (.bin .eql (.t 12) (.k (.int .i64 1))))
  (.op (some 6) none (.q (.mov (.t 13)))
  (.ret)))))))))
def o107 : Nat → List Nat := fun _ => []
set_option maxRecDepth 100000 in
theorem t107 : (Try.f107.body.map fun c => tr Try.prog o107 Try.f107.ntmps c .done) = some c107 := by kernel_rfl
theorem r107 : trR Try.prog Try.f107.results.toList = some [.t 6] := by kernel_rfl
theorem in107 {w0 : World} {args : List AV} {H : Hp} {Q : AV → Hp → Prop} (h : W Try.prog w0 c107 (retQ [.t 6] Q) (env0 args) H) : ACalls Try.prog w0 107 args H Q :=
  ACalls.intro2 mixed Try.func107 rfl t107 r107 h

/-- spec.join -/
def c108 : CC :=
  .op (some 6) none (.q (.mov (.k (.int .i64 0))))
  (.op (some 7) none (.q (.mov (.k (.int .i64 0))))
  (.block 0
  (.loop
  (.op (some 10) none (.q (.mov (.t 7)))
  (.op (some 11) none (.q (.mov (.t 0)))
  (.op (some 12) none (.q (.len (.t 11)))
  (.op (some 13) none (.q (.bin .lss (.t 10) (.t 12)))
  (.cond (.t 13)
  (.done)
  (.exit 0)
  (.block 1
  (.op (some 16) none (.q (.mov (.t 0)))
  (.op (some 17) none (.q (.mov (.t 1)))
  (.op (some 18) none (.q (.mov (.t 7)))
  (.op (some 19) none (.e (.call (.f 107) [.t 16, .t 17, .t 18]))
  (.op (some 20) none (.q (.mov (.t 19)))
  (.op (some 21) (some (20, true)) (.q (.mov (.t 0)))
  (.op (some 22) (some (20, true)) (.q (.mov (.t 2)))
  (.op (some 23) (some (20, true)) (.q (.mov (.t 7)))
  (.op (some 24) (some (20, true)) (.e (.call (.f 107) [.t 21, .t 22, .t 23]))
  (.op (some 25) none (.q (.pick (.t 20) (.t 24) (.k (.bool false))))
  (.op (some 8) none (.q (.mov (.t 25)))
  (.op (some 9) none (.q (.mov (.k (.int .i64 0))))
  (.block 2
  (.loop
  (.op (some 26) none (.q (.mov (.t 9)))
  (.op (some 27) none (.q (.mov (.t 0)))
  (.op (some 28) none (.q (.len (.t 27)))
  (.op (some 29) none (.q (.bin .lss (.t 26) (.t 28)))
  (.op (some 30) none (.q (.mov (.t 29)))
  (.op (some 31) (some (30, true)) (.q (.mov (.t 8)))
  (.op (some 32) none (.q (.pick (.t 30) (.t 31) (.k (.bool false))))
  (.cond (.t 32)
  (.done)
  (.exit 2)
  (.block 3
  (.op (some 35) none (.q (.mov (.t 0)))
  (.op (some 36) none (.q (.mov (.t 1)))
  (.op (some 37) none (.q (.mov (.t 9)))
  (.op (some 38) none (.e (.call (.f 107) [.t 35, .t 36, .t 37]))
  (.op (some 39) none (.q (.not (.t 38)))
  (.op (some 40) none (.q (.mov (.t 39)))
  (.op (some 41) (some (40, false)) (.q (.mov (.t 0)))
  (.op (some 42) (some (40, false)) (.q (.mov (.t 2)))
  (.op (some 43) (some (40, false)) (.q (.mov (.t 9)))
  (.op (some 44) (some (40, false)) (.e (.call (.f 107) [.t 41, .t 42, .t 43]))
  (.op (some 45) (some (40, false)) (.q (.not (.t 44)))
  (.op (some 46) none (.q (.pick (.t 40) (.k (.bool true)) (.t 45)))
  (.op (some 47) none (.q (.mov (.t 46)))
  (.op (some 48) (some (47, false)) (.q (.mov (.t 0)))
  (.op (some 49) (some (47, false)) (.q (.mov (.t 7)))
  (.op (some 50) (some (47, false)) (.q (.mov (.t 9)))
  (.op (some 51) (some (47, false)) (.e (.call (.f 107) [.t 48, .t 49, .t 50]))
  (.op (some 52) none (.q (.pick (.t 47) (.k (.bool true)) (.t 51)))
  (.op (some 8) none (.q (.mov (.t 52)))
  (.done))))))))))))))))))))
  (.op (some 33) none (.q (.mov (.t 9)))
  (.op (some 34) none (.q (.bin .add (.t 33) (.k (.int .i64 1))))
  (.op (some 9) none (.q (.mov (.t 34)))
  (.done))))))))))))))
  (.op (some 53) none (.q (.mov (.t 8)))
  (.cond (.t 53)
  (.op (some 54) none (.q (.mov (.t 7)))
  (.op (some 6) none (.q (.mov (.t 54)))
  (.ret)))
  (.done)
  (.done))))))))))))))))
  (.op (some 14) none (.q (.mov (.t 7)))
  (.op (some 15) none (.q (.bin .add (.t 14) (.k (.int .i64 1))))
  (.op (some 7) none (.q (.mov (.t 15)))
  (.done)))))))))))
  (.op (some 6) none (.q (.mov (.k (.int .i64 (-1)))))
  (.ret))))
def o108 : Nat → List Nat := fun _ => []
set_option maxRecDepth 100000 in
theorem t108 : (Try.f108.body.map fun c => tr Try.prog o108 Try.f108.ntmps c .done) = some c108 := by kernel_rfl
theorem r108 : trR Try.prog Try.f108.results.toList = some [.t 6] := by kernel_rfl
theorem in108 {w0 : World} {args : List AV} {H : Hp} {Q : AV → Hp → Prop} (h : W Try.prog w0 c108 (retQ [.t 6] Q) (env0 args) H) : ACalls Try.prog w0 108 args H Q :=
  ACalls.intro2 mixed Try.func108 rfl t108 r108 h

/-- impl.latticeAt$1 -/
def c109 : CC :=
  .op (some 3) none (.q (.mov (.k (.bool false))))
  (.op (some 4) none (.q (.mov (.t 0)))
  (.op (some 5) none (.q (.load none (.t 1)))
  (.op (some 6) none (.q (.len (.t 5)))
  (.op (some 7) none (.q (.bin .sub (.t 6) (.k (.int .i64 1))))
  (.op (some 8) none (.e (.call (.f 86) [.t 4, .k (.int .i64 0), .t 7]))
  (.op (some 9) none (.q (.not (.t 8)))
  (.op (some 3) none (.q (.mov (.t 9)))
  (.ret))))))))
def o109 : Nat → List Nat := fun _ => []
set_option maxRecDepth 100000 in
theorem t109 : (Try.f109.body.map fun c => tr Try.prog o109 Try.f109.ntmps c .done) = some c109 := by kernel_rfl
theorem r109 : trR Try.prog Try.f109.results.toList = some [.t 3] := by kernel_rfl
theorem in109 {w0 : World} {args : List AV} {H : Hp} {Q : AV → Hp → Prop} (h : W Try.prog w0 c109 (retQ [.t 3] Q) (env0 args) H) : ACalls Try.prog w0 109 args H Q :=
  ACalls.intro2 mixed Try.func109 rfl t109 r109 h

/-- impl.has -/
def c110 : CC :=
  .op (some 4) none (.q (.mov (.k (.bool false))))
  (.op (some 5) none (.q (.mov (.t 0)))
  (.op (some 6) none (.q (.mov (.t 1)))
  (.op (some 7) none (.q (.bin .shr (.t 5) (.t 6)))
  (.op (some 8) none (.q (.bin .rem (.t 7) (.k (.int .i64 2))))
  (.op (some 9) none (.q (.bin .eql (.t 8) (.k (.int .i64 1))))
  (.op (some 4) none (.q (.mov (.t 9)))
  (.ret)))))))
def o110 : Nat → List Nat := fun _ => []
set_option maxRecDepth 100000 in
theorem t110 : (Try.f110.body.map fun c => tr Try.prog o110 Try.f110.ntmps c .done) = some c110 := by kernel_rfl
theorem r110 : trR Try.prog Try.f110.results.toList = some [.t 4] := by kernel_rfl
theorem in110 {w0 : World} {args : List AV} {H : Hp} {Q : AV → Hp → Prop} (h : W Try.prog w0 c110 (retQ [.t 4] Q) (env0 args) H) : ACalls Try.prog w0 110 args H Q :=
  ACalls.intro2 mixed Try.func110 rfl t110 r110 h

/-- spec.validLattice -/
def c111 : CC :=
  .op (some 2) none (.q (.mov (.k (.bool false))))
  (.op (some 5) none (.q (.mov (.t 0)))
  (.op (some 6) none (.e (.call (.f 125) [.t 5]))
  (.op (some 7) none (.q (.not (.t 6)))
  (.cond (.t 7)
  (.op (some 2) none (.q (.mov (.k (.bool false))))
  (.ret))
  (.done)
  (.op (some 3) none (.q (.mov (.k (.int .i64 0))))
  (.block 0
  (.loop
  (.op (some 8) none (.q (.mov (.t 3)))
  (.op (some 9) none (.q (.mov (.t 0)))
  (.op (some 10) none (.q (.len (.t 9)))
  (.op (some 11) none (.q (.bin .lss (.t 8) (.t 10)))
  (.cond (.t 11)
  (.done)
  (.exit 0)
  (.block 1
  (.op (some 4) none (.q (.mov (.k (.int .i64 0))))
  (.block 2
  (.loop
  (.op (some 14) none (.q (.mov (.t 4)))
  (.op (some 15) none (.q (.mov (.t 0)))
  (.op (some 16) none (.q (.len (.t 15)))
  (.op (some 17) none (.q (.bin .lss (.t 14) (.t 16)))
  (.cond (.t 17)
  (.done)
  (.exit 2)
  (.block 3
  (.op (some 20) none (.q (.mov (.t 0)))
  (.op (some 21) none (.q (.mov (.t 3)))
  (.op (some 22) none (.q (.mov (.t 4)))
  (.op (some 23) none (.e (.call (.f 116) [.t 20, .t 21, .t 22]))
  (.op (some 24) none (.q (.bin .lss (.t 23) (.k (.int .i64 0))))
  (.op (some 25) none (.q (.mov (.t 24)))
  (.op (some 26) (some (25, false)) (.q (.mov (.t 0)))
  (.op (some 27) (some (25, false)) (.q (.mov (.t 3)))
  (.op (some 28) (some (25, false)) (.q (.mov (.t 4)))
  (.op (some 29) (some (25, false)) (.e (.call (.f 108) [.t 26, .t 27, .t 28]))
  (.op (some 30) (some (25, false)) (.q (.bin .lss (.t 29) (.k (.int .i64 0))))
  (.op (some 31) none (.q (.pick (.t 25) (.k (.bool true)) (.t 30)))
  (.cond (.t 31)
  (.op (some 2) none (.q (.mov (.k (.bool false))))
  (.ret))
  (.done)
  (.done))))))))))))))
  (.op (some 18) none (.q (.mov (.t 4)))
  (.op (some 19) none (.q (.bin .add (.t 18) (.k (.int .i64 1))))
  (.op (some 4) none (.q (.mov (.t 19)))
  (.done)))))))))))
  (.done)))
  (.op (some 12) none (.q (.mov (.t 3)))
  (.op (some 13) none (.q (.bin .add (.t 12) (.k (.int .i64 1))))
  (.op (some 3) none (.q (.mov (.t 13)))
  (.done)))))))))))
  (.op (some 2) none (.q (.mov (.k (.bool true))))
  (.ret))))))))
def o111 : Nat → List Nat := fun _ => []
set_option maxRecDepth 100000 in
theorem t111 : (Try.f111.body.map fun c => tr Try.prog o111 Try.f111.ntmps c .done) = some c111 := by kernel_rfl
theorem r111 : trR Try.prog Try.f111.results.toList = some [.t 2] := by kernel_rfl
theorem in111 {w0 : World} {args : List AV} {H : Hp} {Q : AV → Hp → Prop} (h : W Try.prog w0 c111 (retQ [.t 2] Q) (env0 args) H) : ACalls Try.prog w0 111 args H Q :=
  ACalls.intro2 mixed Try.func111 rfl t111 r111 h

/-- spec.bit -/
def c112 : CC :=
  .op (some 4) none (.q (.mov (.k (.int .i64 0))))
  (.op (some 5) none (.q (.mov (.t 0)))
  (.op (some 6) none (.q (.mov (.t 1)))
  (.op (some 7) none (.e (.call (.f 97) [.t 6]))
  (.op (some 8) none (.q (.bin .quo (.t 5) (.t 7)))
  (.op (some 9) none (.q (.bin .rem (.t 8) (.k (.int .i64 2))))
  (.op (some 4) none (.q (.mov (.t 9)))
  (.ret)))))))
def o112 : Nat → List Nat := fun _ => []
set_option maxRecDepth 100000 in
theorem t112 : (Try.f112.body.map fun c => tr Try.prog o112 Try.f112.ntmps c .done) = some c112 := by kernel_rfl
theorem r112 : trR Try.prog Try.f112.results.toList = some [.t 4] := by kernel_rfl
theorem in112 {w0 : World} {args : List AV} {H : Hp} {Q : AV → Hp → Prop} (h : W Try.prog w0 c112 (retQ [.t 4] Q) (env0 args) H) : ACalls Try.prog w0 112 args H Q :=
  ACalls.intro2 mixed Try.func112 rfl t112 r112 h

/-- slices.IndexFunc[[]int,int] -/
def c113 : CC :=
  .op (some 4) none (.q (.mov (.k (.int .i64 0))))
  (.op (some 6) none (.q (.mov (.t 0)))
  (.op (some 7) none (.q (.len (.t 6)))
  (.op (some 8) none (.q (.mov (.k (.int .i64 0))))
  (.block 0
  (.loop
  (.op (some 9) none (.q (.bin .lss (.t 8) (.t 7)))
  (.cond (.t 9)
  (.done)
  (.exit 0)
  (.block 1
  (.op (some 10) none (.q (.mov (.t 8)))
  (.op (some 5) none (.q (.mov (.t 10)))
  (.op (some 11) none (.q (.mov (.t 1)))
  (.op (some 12) none (.q (.mov (.t 0)))
  (.op (some 13) none (.q (.mov (.t 5)))
  (.op (some 14) none (.q (.idx 1 (.t 12) (.t 13)))
  (.op (some 15) none (.q (.load none (.t 14)))
  (.op (some 16) none (.e (.call (.t 11) [.t 15]))
  (.cond (.t 16)
  (.op (some 17) none (.q (.mov (.t 5)))
  (.op (some 4) none (.q (.mov (.t 17)))
  (.ret)))
  (.done)
  (.done))))))))))
  (.op (some 18) none (.q (.bin .add (.t 8) (.k (.int .i64 1))))
  (.op (some 8) none (.q (.mov (.t 18)))
  (.done)))))))
  (.op (some 4) none (.q (.mov (.k (.int .i64 (-1)))))
  (.ret))))))
def o113 : Nat → List Nat := fun _ => []
set_option maxRecDepth 100000 in
theorem t113 : (Try.f113.body.map fun c => tr Try.prog o113 Try.f113.ntmps c .done) = some c113 := by kernel_rfl
theorem r113 : trR Try.prog Try.f113.results.toList = some [.t 4] := by kernel_rfl
theorem in113 {w0 : World} {args : List AV} {H : Hp} {Q : AV → Hp → Prop} (h : W Try.prog w0 c113 (retQ [.t 4] Q) (env0 args) H) : ACalls Try.prog w0 113 args H Q :=
  ACalls.intro2 mixed Try.func113 rfl t113 r113 h

/-- slices.Contains[[]string,string] -/
def c114 : CC :=
  .op (some 4) none (.q (.mov (.k (.bool false))))
  (.op (some 5) none (.q (.mov (.t 0)))
  (.op (some 6) none (.q (.mov (.t 1)))
  (.op (some 7) none (.e (.call (.f 126) [.t 5, .t 6]))
  (.op (some 8) none (.q (.bin .geq (.t 7) (.k (.int .i64 0))))
  (.op (some 4) none (.q (.mov (.t 8)))
  (.ret))))))
def o114 : Nat → List Nat := fun _ => []
set_option maxRecDepth 100000 in
theorem t114 : (Try.f114.body.map fun c => tr Try.prog o114 Try.f114.ntmps c .done) = some c114 := by kernel_rfl
theorem r114 : trR Try.prog Try.f114.results.toList = some [.t 4] := by kernel_rfl
theorem in114 {w0 : World} {args : List AV} {H : Hp} {Q : AV → Hp → Prop} (h : W Try.prog w0 c114 (retQ [.t 4] Q) (env0 args) H) : ACalls Try.prog w0 114 args H Q :=
  ACalls.intro2 mixed Try.func114 rfl t114 r114 h

/-- (*spec.reader).of -/
def c115 : CC :=
  .op (some 4) none (.q (.mov (.k (.str ⟨#[]⟩))))
  (.op (some 5) none (.q (.mov (.t 1)))
  (.op (some 6) none (.q (.mov (.t 0)))
  (.op (some 7) none (.q (.mov (.t 1)))
  (.op (some 8) none (.q (.len (.t 7)))
  (.op (some 9) none (.e (.call (.f 74) [.t 6, .t 8]))
  (.op (some 10) none (.q (.idx 1 (.t 5) (.t 9)))
  (.op (some 11) none (.q (.load none (.t 10)))
  (.op (some 4) none (.q (.mov (.t 11)))
  (.ret)))))))))
def o115 : Nat → List Nat := fun _ => []
set_option maxRecDepth 100000 in
theorem t115 : (Try.f115.body.map fun c => tr Try.prog o115 Try.f115.ntmps c .done) = some c115 := by kernel_rfl
theorem r115 : trR Try.prog Try.f115.results.toList = some [.t 4] := by kernel_rfl
theorem in115 {w0 : World} {args : List AV} {H : Hp} {Q : AV → Hp → Prop} (h : W Try.prog w0 c115 (retQ [.t 4] Q) (env0 args) H) : ACalls Try.prog w0 115 args H Q :=
  ACalls.intro2 mixed Try.func115 rfl t115 r115 h

/-- spec.meet -/
def c116 : CC :=
  .op (some 6) none (.q (.mov (.k (.int .i64 0))))
  (.op (some 7) none (.q (.mov (.k (.int .i64 0))))
  (.block 0
  (.loop
  (.op (some 10) none (.q (.mov (.t 7)))
  (.op (some 11) none (.q (.mov (.t 0)))
  (.op (some 12) none (.q (.len (.t 11)))
  (.op (some 13) none (.q (.bin .lss (.t 10) (.t 12)))
  (.cond (.t 13)
  (.done)
  (.exit 0)
  (.block 1
  (.op (some 16) none (.q (.mov (.t 0)))
  (.op (some 17) none (.q (.mov (.t 7)))
  (.op (some 18) none (.q (.mov (.t 1)))
  (.op (some 19) none (.e (.call (.f 107) [.t 16, .t 17, .t 18]))
  (.op (some 20) none (.q (.mov (.t 19)))
  (.op (some 21) (some (20, true)) (.q (.mov (.t 0)))
  (.op (some 22) (some (20, true)) (.q (.mov (.t 7)))
  (.op (some 23) (some (20, true)) (.q (.mov (.t 2)))
  (.op (some 24) (some (20, true)) (.e (.call (.f 107) [.t 21, .t 22, .t 23]))
  (.op (some 25) none (.q (.pick (.t 20) (.t 24) (.k (.bool false))))
  (.op (some 8) none (.q (.mov (.t 25)))
  (.op (some 9) none (.q (.mov (.k (.int .i64 0))))
  (.block 2
  (.loop
  (.op (some 26) none (.q (.mov (.t 9)))
  (.op (some 27) none (.q (.mov (.t 0)))
  (.op (some 28) none (.q (.len (.t 27)))
  (.op (some 29) none (.q (.bin .lss (.t 26) (.t 28)))
  (.op (some 30) none (.q (.mov (.t 29)))
  (.op (some 31) (some (30, true)) (.q (.mov (.t 8)))
  (.op (some 32) none (.q (.pick (.t 30) (.t 31) (.k (.bool false))))
  (.cond (.t 32)
  (.done)
  (.exit 2)
  (.block 3
  (.op (some 35) none (.q (.mov (.t 0)))
  (.op (some 36) none (.q (.mov (.t 9)))
  (.op (some 37) none (.q (.mov (.t 1)))
  (.op (some 38) none (.e (.call (.f 107) [.t 35, .t 36, .t 37]))
  (.op (some 39) none (.q (.not (.t 38)))
  (.op (some 40) none (.q (.mov (.t 39)))
  (.op (some 41) (some (40, false)) (.q (.mov (.t 0)))
  (.op (some 42) (some (40, false)) (.q (.mov (.t 9)))
  (.op (some 43) (some (40, false)) (.q (.mov (.t 2)))
  (.op (some 44) (some (40, false)) (.e (.call (.f 107) [.t 41, .t 42, .t 43]))
  (.op (some 45) (some (40, false)) (.q (.not (.t 44)))
  (.op (some 46) none (.q (.pick (.t 40) (.k (.bool true)) (.t 45)))
  (.op (some 47) none (.q (.mov (.t 46)))
  (.op (some 48) (some (47, false)) (.q (.mov (.t 0)))
  (.op (some 49) (some (47, false)) (.q (.mov (.t 9)))
  (.op (some 50) (some (47, false)) (.q (.mov (.t 7)))
  (.op (some 51) (some (47, false)) (.e (.call (.f 107) [.t 48, .t 49, .t 50]))
  (.op (some 52) none (.q (.pick (.t 47) (.k (.bool true)) (.t 51)))
  (.op (some 8) none (.q (.mov (.t 52)))
  (.done))))))))))))))))))))
  (.op (some 33) none (.q (.mov (.t 9)))
  (.op (some 34) none (.q (.bin .add (.t 33) (.k (.int .i64 1))))
  (.op (some 9) none (.q (.mov (.t 34)))
  (.done))))))))))))))
  (.op (some 53) none (.q (.mov (.t 8)))
  (.cond (.t 53)
  (.op (some 54) none (.q (.mov (.t 7)))
  (.op (some 6) none (.q (.mov (.t 54)))
  (.ret)))
  (.done)
  (.done))))))))))))))))
  (.op (some 14) none (.q (.mov (.t 7)))
  (.op (some 15) none (.q (.bin .add (.t 14) (.k (.int .i64 1))))
  (.op (some 7) none (.q (.mov (.t 15)))
  (.done)))))))))))
  (.op (some 6) none (.q (.mov (.k (.int .i64 (-1)))))
  (.ret))))
def o116 : Nat → List Nat := fun _ => []
set_option maxRecDepth 100000 in
theorem t116 : (Try.f116.body.map fun c => tr Try.prog o116 Try.f116.ntmps c .done) = some c116 := by kernel_rfl
theorem r116 : trR Try.prog Try.f116.results.toList = some [.t 6] := by kernel_rfl
theorem in116 {w0 : World} {args : List AV} {H : Hp} {Q : AV → Hp → Prop} (h : W Try.prog w0 c116 (retQ [.t 6] Q) (env0 args) H) : ACalls Try.prog w0 116 args H Q :=
  ACalls.intro2 mixed Try.func116 rfl t116 r116 h

/-- impl.greatest -/
def c117 : CC :=
  .op (some 1) none (.l (.box 26 (.t 0)))
  (.op (some 2) none (.q (.mov (.k (.nils))))
  (.op (some 7) none (.q (.load (some 2) (.t 1)))
  (.op (some 8) none (.e (.call (.f 127) [.t 7]))
  (.op (some 9) none (.l (.bsl 3 1 [.int .i64 0] 0 []))
  (.op (some 3) none (.q (.mov (.t 8)))
  (.op (some 4) none (.q (.mov (.t 9)))
  (.op (some 10) none (.q (.mov (.t 3)))
  (.op (some 11) none (.q (.len (.t 10)))
  (.op (some 12) none (.q (.mov (.k (.int .i64 0))))
  (.block 0
  (.loop
  (.op (some 13) none (.q (.bin .lss (.t 12) (.t 11)))
  (.cond (.t 13)
  (.done)
  (.exit 0)
  (.block 1
  (.op (some 14) none (.q (.idx 1 (.t 10) (.t 12)))
  (.op (some 15) none (.q (.load none (.t 14)))
  (.op (some 6) none (.l (.alloc 3 [.int .i64 0]))
  (.op none none (.e (.store 1 (.t 6) (.t 15)))
  (.op (some 16) none (.q (.mov (.t 3)))
  (.op (some 17) none (.q (.mkf 128 [.t 6]))
  (.op (some 18) none (.e (.call (.f 84) [.t 16, .t 17]))
  (.op (some 19) none (.q (.not (.t 18)))
  (.cond (.t 19)
  (.op (some 20) none (.q (.mov (.t 4)))
  (.op (some 21) none (.q (.load none (.t 6)))
  (.op (some 22) none (.l (.bsl 3 1 [.int .i64 0] 1 [(0, .t 21)]))
  (.op (some 23) none (.e (.app 3 1 8 (.t 20) (.t 22)))
  (.op (some 4) none (.q (.mov (.t 23)))
  (.done))))))
  (.done)
  (.done))))))))))
  (.op (some 24) none (.q (.bin .add (.t 12) (.k (.int .i64 1))))
  (.op (some 12) none (.q (.mov (.t 24)))
  (.done)))))))
  (.op (some 25) none (.q (.mov (.t 4)))
  (.op (some 2) none (.q (.mov (.t 25)))
  (.ret)))))))))))))
def o117 : Nat → List Nat := fun _ => []
set_option maxRecDepth 100000 in
theorem t117 : (Try.f117.body.map fun c => tr Try.prog o117 Try.f117.ntmps c .done) = some c117 := by kernel_rfl
theorem r117 : trR Try.prog Try.f117.results.toList = some [.t 2] := by kernel_rfl
theorem in117 {w0 : World} {args : List AV} {H : Hp} {Q : AV → Hp → Prop} (h : W Try.prog w0 c117 (retQ [.t 2] Q) (env0 args) H) : ACalls Try.prog w0 117 args H Q :=
  ACalls.intro2 mixed Try.func117 rfl t117 r117 h

/-- spec.copyTable -/
def c118 : CC :=
  .op (some 2) none (.q (.mov (.k (.nils))))
  (.op (some 5) none (.l (.bsl 23 1 [.nils] 0 []))
  (.op (some 3) none (.q (.mov (.t 5)))
  (.op (some 4) none (.q (.mov (.k (.int .i64 0))))
  (.block 0
  (.loop
  (.op (some 6) none (.q (.mov (.t 4)))
  (.op (some 7) none (.q (.mov (.t 0)))
  (.op (some 8) none (.q (.len (.t 7)))
  (.op (some 9) none (.q (.bin .lss (.t 6) (.t 8)))
  (.cond (.t 9)
  (.done)
  (.exit 0)
  (.block 1
  (.op (some 12) none (.q (.mov (.t 3)))
  (.op (some 13) none (.l (.bsl 3 1 [.int .i64 0] 0 []))
  (.op (some 14) none (.q (.mov (.t 0)))
  (.op (some 15) none (.q (.mov (.t 4)))
  (.op (some 16) none (.q (.idx 1 (.t 14) (.t 15)))
  (.op (some 17) none (.q (.load none (.t 16)))
  (.op (some 18) none (.e (.app 3 1 8 (.t 13) (.t 17)))
  (.op (some 19) none (.l (.bsl 23 1 [.nils] 1 [(0, .t 18)]))
  (.op (some 20) none (.e (.app 23 1 24 (.t 12) (.t 19)))
  (.op (some 3) none (.q (.mov (.t 20)))
  (.done)))))))))))
  (.op (some 10) none (.q (.mov (.t 4)))
  (.op (some 11) none (.q (.bin .add (.t 10) (.k (.int .i64 1))))
  (.op (some 4) none (.q (.mov (.t 11)))
  (.done)))))))))))
  (.op (some 21) none (.q (.mov (.t 3)))
  (.op (some 2) none (.q (.mov (.t 21)))
  (.ret)))))))
def o118 : Nat → List Nat := fun _ => []
set_option maxRecDepth 100000 in
theorem t118 : (Try.f118.body.map fun c => tr Try.prog o118 Try.f118.ntmps c .done) = some c118 := by kernel_rfl
theorem r118 : trR Try.prog Try.f118.results.toList = some [.t 2] := by kernel_rfl
theorem in118 {w0 : World} {args : List AV} {H : Hp} {Q : AV → Hp → Prop} (h : W Try.prog w0 c118 (retQ [.t 2] Q) (env0 args) H) : ACalls Try.prog w0 118 args H Q :=
  ACalls.intro2 mixed Try.func118 rfl t118 r118 h

/-- spec.algebraOf -/
def c119 : CC :=
  .op (some 4) none (.l (.alloc 26 [.nils, .nils]))
  (.op (some 8) none (.q (.mov (.t 0)))
  (.op (some 9) none (.q (.mov (.t 1)))
  (.op (some 10) none (.e (.call (.f 74) [.t 8, .t 9]))
  (.op (some 11) none (.q (.bin .add (.k (.int .i64 1)) (.t 10)))
  (.op (some 5) none (.q (.mov (.t 11)))
  (.op (some 12) none (.q (.mov (.t 0)))
  (.op (some 13) none (.e (.call (.f 74) [.t 12, .k (.int .i64 6)]))
  (.block 0
  (.op (some 15) none (.q (.bin .eql (.t 13) (.k (.int .i64 0))))
  (.op (some 14) none (.q (.mov (.t 15)))
  (.cond (.t 14)
  (.op (some 16) none (.q (.mov (.t 5)))
  (.op (some 17) none (.e (.call (.f 129) [.t 16]))
  (.op none none (.e (.store 2 (.t 4) (.t 17)))
  (.ret))))
  (.op (some 19) none (.q (.bin .eql (.t 13) (.k (.int .i64 1))))
  (.op (some 18) none (.q (.mov (.t 19)))
  (.cond (.t 18)
  (.op (some 20) none (.q (.mov (.t 5)))
  (.op (some 21) none (.e (.call (.f 124) [.t 20]))
  (.op (some 22) none (.e (.call (.f 122) [.t 21]))
  (.op none none (.e (.store 2 (.t 4) (.t 22)))
  (.ret)))))
  (.op (some 24) none (.q (.bin .eql (.t 13) (.k (.int .i64 2))))
  (.op (some 23) none (.q (.mov (.t 24)))
  (.cond (.t 23)
  (.op (some 25) none (.q (.mov (.t 5)))
  (.op (some 26) none (.q (.bin .gtr (.t 25) (.k (.int .i64 2))))
  (.cond (.t 26)
  (.op (some 27) none (.q (.mov (.t 0)))
  (.op (some 28) none (.q (.mov (.t 5)))
  (.op (some 29) none (.q (.bin .sub (.t 28) (.k (.int .i64 2))))
  (.op (some 30) none (.e (.call (.f 74) [.t 27, .t 29]))
  (.op (some 31) none (.q (.bin .add (.k (.int .i64 2)) (.t 30)))
  (.op (some 6) none (.q (.mov (.t 31)))
  (.op (some 32) none (.q (.mov (.t 6)))
  (.op (some 33) none (.e (.call (.f 129) [.t 32]))
  (.op (some 34) none (.q (.mov (.t 5)))
  (.op (some 35) none (.q (.mov (.t 6)))
  (.op (some 36) none (.q (.bin .sub (.t 34) (.t 35)))
  (.op (some 37) none (.q (.bin .add (.t 36) (.k (.int .i64 1))))
  (.op (some 38) none (.e (.call (.f 129) [.t 37]))
  (.op (some 39) none (.e (.call (.f 130) [.t 33, .t 38]))
  (.op none none (.e (.store 2 (.t 4) (.t 39)))
  (.ret))))))))))))))))
  (.done)
  (.done))))
  (.op (some 41) none (.q (.bin .eql (.t 13) (.k (.int .i64 3))))
  (.op (some 40) none (.q (.mov (.t 41)))
  (.cond (.t 40)
  (.op (some 42) none (.q (.mov (.t 1)))
  (.op (some 43) none (.q (.bin .geq (.t 42) (.k (.int .i64 4))))
  (.cond (.t 43)
  (.op (some 44) none (.e (.call (.f 124) [.k (.int .i64 2)]))
  (.op (some 45) none (.q (.mov (.t 0)))
  (.op (some 46) none (.q (.mov (.t 1)))
  (.op (some 47) none (.q (.bin .quo (.t 46) (.k (.int .i64 2))))
  (.op (some 48) none (.q (.bin .sub (.t 47) (.k (.int .i64 1))))
  (.op (some 49) none (.q (.mm false [.t 48, .k (.int .i64 2)]))
  (.op (some 50) none (.e (.call (.f 74) [.t 45, .t 49]))
  (.op (some 51) none (.q (.bin .add (.k (.int .i64 2)) (.t 50)))
  (.op (some 52) none (.e (.call (.f 124) [.t 51]))
  (.op (some 53) none (.e (.call (.f 123) [.t 44, .t 52]))
  (.op (some 54) none (.e (.call (.f 122) [.t 53]))
  (.op none none (.e (.store 2 (.t 4) (.t 54)))
  (.ret)))))))))))))
  (.done)
  (.done))))
  (.done)
  (.done))))
  (.done))))
  (.done))))
  (.done))))
  (.op (some 55) none (.q (.mov (.t 5)))
  (.op (some 56) none (.q (.mm false [.t 55, .k (.int .i64 5)]))
  (.op (some 57) none (.e (.call (.f 131) [.t 56]))
  (.op (some 7) none (.q (.mov (.t 57)))
  (.op (some 58) none (.q (.mov (.t 7)))
  (.op (some 59) none (.q (.mov (.t 0)))
  (.op (some 60) none (.q (.mov (.t 7)))
  (.op (some 61) none (.q (.len (.t 60)))
  (.op (some 62) none (.e (.call (.f 74) [.t 59, .t 61]))
  (.op (some 63) none (.q (.idx 2 (.t 58) (.t 62)))
  (.op (some 64) none (.q (.load (some 2) (.t 63)))
  (.op none none (.e (.store 2 (.t 4) (.t 64)))
  (.ret)))))))))))))))))))))
def o119 : Nat → List Nat := fun _ => []
set_option maxRecDepth 100000 in
theorem t119 : (Try.f119.body.map fun c => tr Try.prog o119 Try.f119.ntmps c .done) = some c119 := by kernel_rfl
theorem r119 : trR Try.prog Try.f119.results.toList = some [.c (some 2) 4] := by kernel_rfl
theorem in119 {w0 : World} {args : List AV} {H : Hp} {Q : AV → Hp → Prop} (h : W Try.prog w0 c119 (retQ [.c (some 2) 4] Q) (env0 args) H) : ACalls Try.prog w0 119 args H Q :=
  ACalls.intro2 mixed Try.func119 rfl t119 r119 h

/-- spec.CrossAlgebras -/
def c120 : CC :=
  .op (some 2) none (.l (.box 26 (.t 0)))
  (.op (some 3) none (.l (.box 26 (.t 1)))
  (.op (some 4) none (.l (.alloc 26 [.nils, .nils]))
  (.op (some 5) none (.q (.mov (.k (.bool false))))
  (.op (some 11) none (.q (.load (some 2) (.t 2)))
  (.op (some 12) none (.e (.call (.f 79) [.t 11]))
  (.op (some 13) none (.q (.not (.t 12)))
  (.op (some 14) none (.q (.mov (.t 13)))
  (.op (some 15) (some (14, false)) (.q (.load (some 2) (.t 3)))
  (.op (some 16) (some (14, false)) (.e (.call (.f 79) [.t 15]))
  (.op (some 17) (some (14, false)) (.q (.not (.t 16)))
  (.op (some 18) none (.q (.pick (.t 14) (.k (.bool true)) (.t 17)))
  (.op (some 19) none (.q (.mov (.t 18)))
  (.op (some 20) (some (19, false)) (.q (.fld 0 (.t 2)))
  (.op (some 21) (some (19, false)) (.q (.load none (.t 20)))
  (.op (some 22) (some (19, false)) (.q (.len (.t 21)))
  (.op (some 23) (some (19, false)) (.q (.fld 0 (.t 3)))
  (.op (some 24) (some (19, false)) (.q (.load none (.t 23)))
  (.op (some 25) (some (19, false)) (.q (.len (.t 24)))
  (.op (some 26) (some (19, false)) (.q (.bin .mul (.t 22) (.t 25)))
  (.op (some 27) (some (19, false)) (.q (.bin .gtr (.t 26) (.k (.int .i64 6))))
  (.op (some 28) none (.q (.pick (.t 19) (.k (.bool true)) (.t 27)))
  (.cond (.t 28)
  (.op (some 29) none (.q (.build [.nils, .nils] []))
  (.op none none (.e (.store 2 (.t 4) (.t 29)))
  (.op (some 5) none (.q (.mov (.k (.bool false))))
  (.ret))))
  (.done)
  (.op (some 30) none (.q (.fld 0 (.t 2)))
  (.op (some 31) none (.q (.load none (.t 30)))
  (.op (some 32) none (.q (.fld 0 (.t 3)))
  (.op (some 33) none (.q (.load none (.t 32)))
  (.op (some 34) none (.e (.call (.f 123) [.t 31, .t 33]))
  (.op (some 35) none (.q (.build [.nils, .nils] [(0, .t 34)]))
  (.op (some 6) none (.l (.alloc 26 [.nils, .nils]))
  (.op none none (.e (.store 2 (.t 6) (.t 35)))
  (.op (some 36) none (.q (.fld 0 (.t 3)))
  (.op (some 37) none (.q (.load none (.t 36)))
  (.op (some 38) none (.q (.len (.t 37)))
  (.op (some 7) none (.q (.mov (.t 38)))
  (.op (some 8) none (.q (.mov (.k (.int .i64 0))))
  (.block 0
  (.loop
  (.op (some 39) none (.q (.mov (.t 8)))
  (.op (some 40) none (.q (.fld 0 (.t 6)))
  (.op (some 41) none (.q (.load none (.t 40)))
  (.op (some 42) none (.q (.len (.t 41)))
  (.op (some 43) none (.q (.bin .lss (.t 39) (.t 42)))
  (.cond (.t 43)
  (.done)
  (.exit 0)
  (.block 1
  (.op (some 46) none (.l (.bsl 3 1 [.int .i64 0] 0 []))
  (.op (some 9) none (.q (.mov (.t 46)))
  (.op (some 10) none (.q (.mov (.k (.int .i64 0))))
  (.block 2
  (.loop
  (.op (some 47) none (.q (.mov (.t 10)))
  (.op (some 48) none (.q (.fld 0 (.t 6)))
  (.op (some 49) none (.q (.load none (.t 48)))
  (.op (some 50) none (.q (.len (.t 49)))
  (.op (some 51) none (.q (.bin .lss (.t 47) (.t 50)))
  (.cond (.t 51)
  (.done)
  (.exit 2)
  (.block 3
  (.draws [⟨0, false, [], (some 54), none, .q (.mov (.t 9))⟩,
    ⟨1, false, [], (some 55), none, .q (.fld 1 (.t 2))⟩,
    ⟨2, false, [], (some 56), none, .q (.load none (.t 55))⟩,
    ⟨3, false, [], (some 57), none, .q (.mov (.t 8))⟩,
    ⟨4, false, [], (some 58), none, .q (.mov (.t 7))⟩,
    ⟨5, false, [], (some 59), none, .q (.bin .quo (.t 57) (.t 58))⟩,
    ⟨6, false, [], (some 60), none, .q (.idx 1 (.t 56) (.t 59))⟩,
    ⟨7, false, [], (some 61), none, .q (.load none (.t 60))⟩,
    ⟨8, false, [], (some 62), none, .q (.mov (.t 10))⟩,
    ⟨9, false, [], (some 63), none, .q (.mov (.t 7))⟩,
    ⟨10, false, [], (some 64), none, .q (.bin .quo (.t 62) (.t 63))⟩,
    ⟨11, false, [], (some 65), none, .q (.idx 1 (.t 61) (.t 64))⟩,
    ⟨12, false, [], (some 66), none, .q (.load none (.t 65))⟩,
    ⟨13, false, [], (some 67), none, .q (.mov (.t 7))⟩,
    ⟨14, false, [], (some 68), none, .q (.bin .mul (.t 66) (.t 67))⟩,
    ⟨15, false, [], (some 69), none, .q (.fld 1 (.t 3))⟩,
    ⟨16, false, [], (some 70), none, .q (.load none (.t 69))⟩,
    ⟨17, false, [], (some 71), none, .q (.mov (.t 8))⟩,
    ⟨18, false, [], (some 72), none, .q (.mov (.t 7))⟩,
    ⟨19, false, [], (some 73), none, .q (.bin .rem (.t 71) (.t 72))⟩,
    ⟨20, false, [], (some 74), none, .q (.idx 1 (.t 70) (.t 73))⟩,
    ⟨21, false, [], (some 75), none, .q (.load none (.t 74))⟩,
    ⟨22, false, [], (some 76), none, .q (.mov (.t 10))⟩,
    ⟨23, false, [], (some 77), none, .q (.mov (.t 7))⟩,
    ⟨24, false, [], (some 78), none, .q (.bin .rem (.t 76) (.t 77))⟩,
    ⟨25, false, [], (some 79), none, .q (.idx 1 (.t 75) (.t 78))⟩,
    ⟨26, false, [], (some 80), none, .q (.load none (.t 79))⟩,
    ⟨27, false, [], (some 81), none, .q (.bin .add (.t 68) (.t 80))⟩,
    ⟨28, false, [], (some 82), none, .l (.bsl 3 1 [.int .i64 0] 1 [(0, .t 81)])⟩,
    ⟨29, false, [], (some 83), none, .e (.app 3 1 8 (.t 54) (.t 82))⟩,
    ⟨30, false, [], (some 9), none, .q (.mov (.t 83))⟩] (.done))
  (.op (some 52) none (.q (.mov (.t 10)))
  (.op (some 53) none (.q (.bin .add (.t 52) (.k (.int .i64 1))))
  (.op (some 10) none (.q (.mov (.t 53)))
  (.done))))))))))))
  (.op (some 84) none (.q (.fld 1 (.t 6)))
  (.op (some 85) none (.q (.load none (.t 84)))
  (.op (some 86) none (.q (.mov (.t 9)))
  (.op (some 87) none (.l (.bsl 23 1 [.nils] 1 [(0, .t 86)]))
  (.op (some 88) none (.e (.app 23 1 24 (.t 85) (.t 87)))
  (.op (some 89) none (.q (.fld 1 (.t 6)))
  (.op none none (.e (.store 1 (.t 89) (.t 88)))
  (.done))))))))))))
  (.op (some 44) none (.q (.mov (.t 8)))
  (.op (some 45) none (.q (.bin .add (.t 44) (.k (.int .i64 1))))
  (.op (some 8) none (.q (.mov (.t 45)))
  (.done))))))))))))
  (.op (some 90) none (.q (.load (some 2) (.t 6)))
  (.op none none (.e (.store 2 (.t 4) (.t 90)))
  (.op (some 5) none (.q (.mov (.k (.bool true))))
  (.ret))))))))))))))))))))))))))))))))))))))))
def o120 : Nat → List Nat := fun i => if i = 12 then [0, 1, 2, 3, 4, 5, 6, 7, 8, 9, 10, 11, 12, 13, 14, 15, 16, 17, 18, 19, 20, 21, 22, 23, 24, 25, 26, 27, 28, 29, 30] else []
set_option maxRecDepth 100000 in
theorem t120 : (Try.f120.body.map fun c => tr Try.prog o120 Try.f120.ntmps c .done) = some c120 := by kernel_rfl
theorem r120 : trR Try.prog Try.f120.results.toList = some [.c (some 2) 4, .t 5] := by kernel_rfl
theorem in120 {w0 : World} {args : List AV} {H : Hp} {Q : AV → Hp → Prop} (h : W Try.prog w0 c120 (retQ [.c (some 2) 4, .t 5] Q) (env0 args) H) : ACalls Try.prog w0 120 args H Q :=
  ACalls.intro2 mixed Try.func120 rfl t120 r120 h

/-- spec.StackAlgebras -/
def c121 : CC :=
  .op (some 2) none (.l (.box 26 (.t 0)))
  (.op (some 3) none (.l (.box 26 (.t 1)))
  (.op (some 4) none (.l (.alloc 26 [.nils, .nils]))
  (.op (some 5) none (.q (.mov (.k (.bool false))))
  (.op (some 6) none (.q (.load (some 2) (.t 2)))
  (.op (some 7) none (.e (.call (.f 79) [.t 6]))
  (.op (some 8) none (.q (.not (.t 7)))
  (.op (some 9) none (.q (.mov (.t 8)))
  (.op (some 10) (some (9, false)) (.q (.load (some 2) (.t 3)))
  (.op (some 11) (some (9, false)) (.e (.call (.f 79) [.t 10]))
  (.op (some 12) (some (9, false)) (.q (.not (.t 11)))
  (.op (some 13) none (.q (.pick (.t 9) (.k (.bool true)) (.t 12)))
  (.op (some 14) none (.q (.mov (.t 13)))
  (.op (some 15) (some (14, false)) (.q (.fld 0 (.t 2)))
  (.op (some 16) (some (14, false)) (.q (.load none (.t 15)))
  (.op (some 17) (some (14, false)) (.q (.len (.t 16)))
  (.op (some 18) (some (14, false)) (.q (.fld 0 (.t 3)))
  (.op (some 19) (some (14, false)) (.q (.load none (.t 18)))
  (.op (some 20) (some (14, false)) (.q (.len (.t 19)))
  (.op (some 21) (some (14, false)) (.q (.bin .add (.t 17) (.t 20)))
  (.op (some 22) (some (14, false)) (.q (.bin .sub (.t 21) (.k (.int .i64 1))))
  (.op (some 23) (some (14, false)) (.q (.bin .gtr (.t 22) (.k (.int .i64 6))))
  (.op (some 24) none (.q (.pick (.t 14) (.k (.bool true)) (.t 23)))
  (.cond (.t 24)
  (.op (some 25) none (.q (.build [.nils, .nils] []))
  (.op none none (.e (.store 2 (.t 4) (.t 25)))
  (.op (some 5) none (.q (.mov (.k (.bool false))))
  (.ret))))
  (.done)
  (.op (some 26) none (.q (.load (some 2) (.t 2)))
  (.op (some 27) none (.q (.load (some 2) (.t 3)))
  (.op (some 28) none (.e (.call (.f 130) [.t 26, .t 27]))
  (.op none none (.e (.store 2 (.t 4) (.t 28)))
  (.op (some 5) none (.q (.mov (.k (.bool true))))
  (.ret)))))))))))))))))))))))))))))
def o121 : Nat → List Nat := fun _ => []
set_option maxRecDepth 100000 in
theorem t121 : (Try.f121.body.map fun c => tr Try.prog o121 Try.f121.ntmps c .done) = some c121 := by kernel_rfl
theorem r121 : trR Try.prog Try.f121.results.toList = some [.c (some 2) 4, .t 5] := by kernel_rfl
theorem in121 {w0 : World} {args : List AV} {H : Hp} {Q : AV → Hp → Prop} (h : W Try.prog w0 c121 (retQ [.c (some 2) 4, .t 5] Q) (env0 args) H) : ACalls Try.prog w0 121 args H Q :=
  ACalls.intro2 mixed Try.func121 rfl t121 r121 h

/-- spec.meetAlgebra -/
def c122 : CC :=
  .op (some 2) none (.l (.alloc 26 [.nils, .nils]))
  (.op (some 7) none (.l (.bsl 3 1 [.int .i64 0] 0 []))
  (.op (some 8) none (.q (.mov (.t 0)))
  (.op (some 9) none (.e (.app 3 1 8 (.t 7) (.t 8)))
  (.op (some 10) none (.q (.build [.nils, .nils] [(0, .t 9)]))
  (.op (some 3) none (.l (.alloc 26 [.nils, .nils]))
  (.op none none (.e (.store 2 (.t 3) (.t 10)))
  (.op (some 4) none (.q (.mov (.k (.int .i64 0))))
  (.block 0
  (.loop
  (.op (some 11) none (.q (.mov (.t 4)))
  (.op (some 12) none (.q (.mov (.t 0)))
  (.op (some 13) none (.q (.len (.t 12)))
  (.op (some 14) none (.q (.bin .lss (.t 11) (.t 13)))
  (.cond (.t 14)
  (.done)
  (.exit 0)
  (.block 1
  (.op (some 17) none (.l (.bsl 3 1 [.int .i64 0] 0 []))
  (.op (some 5) none (.q (.mov (.t 17)))
  (.op (some 6) none (.q (.mov (.k (.int .i64 0))))
  (.block 2
  (.loop
  (.op (some 18) none (.q (.mov (.t 6)))
  (.op (some 19) none (.q (.mov (.t 0)))
  (.op (some 20) none (.q (.len (.t 19)))
  (.op (some 21) none (.q (.bin .lss (.t 18) (.t 20)))
  (.cond (.t 21)
  (.done)
  (.exit 2)
  (.block 3
  (.op (some 24) none (.q (.mov (.t 5)))
  (.op (some 25) none (.q (.mov (.t 0)))
  (.op (some 26) none (.q (.mov (.t 4)))
  (.op (some 27) none (.q (.mov (.t 6)))
  (.op (some 28) none (.e (.call (.f 116) [.t 25, .t 26, .t 27]))
  (.op (some 29) none (.l (.bsl 3 1 [.int .i64 0] 1 [(0, .t 28)]))
  (.op (some 30) none (.e (.app 3 1 8 (.t 24) (.t 29)))
  (.op (some 5) none (.q (.mov (.t 30)))
  (.done)))))))))
  (.op (some 22) none (.q (.mov (.t 6)))
  (.op (some 23) none (.q (.bin .add (.t 22) (.k (.int .i64 1))))
  (.op (some 6) none (.q (.mov (.t 23)))
  (.done)))))))))))
  (.op (some 31) none (.q (.fld 1 (.t 3)))
  (.op (some 32) none (.q (.load none (.t 31)))
  (.op (some 33) none (.q (.mov (.t 5)))
  (.op (some 34) none (.l (.bsl 23 1 [.nils] 1 [(0, .t 33)]))
  (.op (some 35) none (.e (.app 23 1 24 (.t 32) (.t 34)))
  (.op (some 36) none (.q (.fld 1 (.t 3)))
  (.op none none (.e (.store 1 (.t 36) (.t 35)))
  (.done))))))))))))
  (.op (some 15) none (.q (.mov (.t 4)))
  (.op (some 16) none (.q (.bin .add (.t 15) (.k (.int .i64 1))))
  (.op (some 4) none (.q (.mov (.t 16)))
  (.done)))))))))))
  (.op (some 37) none (.q (.load (some 2) (.t 3)))
  (.op none none (.e (.store 2 (.t 2) (.t 37)))
  (.ret)))))))))))
def o122 : Nat → List Nat := fun _ => []
set_option maxRecDepth 100000 in
theorem t122 : (Try.f122.body.map fun c => tr Try.prog o122 Try.f122.ntmps c .done) = some c122 := by kernel_rfl
theorem r122 : trR Try.prog Try.f122.results.toList = some [.c (some 2) 2] := by kernel_rfl
theorem in122 {w0 : World} {args : List AV} {H : Hp} {Q : AV → Hp → Prop} (h : W Try.prog w0 c122 (retQ [.c (some 2) 2] Q) (env0 args) H) : ACalls Try.prog w0 122 args H Q :=
  ACalls.intro2 mixed Try.func122 rfl t122 r122 h

/-- spec.cross -/
def c123 : CC :=
  .op (some 4) none (.q (.mov (.k (.nils))))
  (.op (some 10) none (.l (.bsl 3 1 [.int .i64 0] 0 []))
  (.op (some 5) none (.q (.mov (.t 10)))
  (.op (some 11) none (.q (.mov (.t 1)))
  (.op (some 12) none (.q (.len (.t 11)))
  (.op (some 6) none (.q (.mov (.t 12)))
  (.op (some 7) none (.q (.mov (.k (.int .i64 0))))
  (.block 0
  (.loop
  (.op (some 13) none (.q (.mov (.t 7)))
  (.op (some 14) none (.q (.mov (.t 0)))
  (.op (some 15) none (.q (.len (.t 14)))
  (.op (some 16) none (.q (.mov (.t 6)))
  (.op (some 17) none (.q (.bin .mul (.t 15) (.t 16)))
  (.op (some 18) none (.q (.bin .lss (.t 13) (.t 17)))
  (.cond (.t 18)
  (.done)
  (.exit 0)
  (.block 1
  (.op (some 8) none (.q (.mov (.k (.int .i64 0))))
  (.op (some 9) none (.q (.mov (.k (.int .i64 0))))
  (.block 2
  (.loop
  (.op (some 21) none (.q (.mov (.t 9)))
  (.op (some 22) none (.q (.mov (.t 0)))
  (.op (some 23) none (.q (.len (.t 22)))
  (.op (some 24) none (.q (.mov (.t 6)))
  (.op (some 25) none (.q (.bin .mul (.t 23) (.t 24)))
  (.op (some 26) none (.q (.bin .lss (.t 21) (.t 25)))
  (.cond (.t 26)
  (.done)
  (.exit 2)
  (.block 3
  (.draws [⟨0, false, [], (some 29), none, .q (.mov (.t 0))⟩,
    ⟨1, false, [], (some 30), none, .q (.mov (.t 7))⟩,
    ⟨2, false, [], (some 31), none, .q (.mov (.t 6))⟩,
    ⟨3, false, [], (some 32), none, .q (.bin .quo (.t 30) (.t 31))⟩,
    ⟨4, false, [], (some 33), none, .q (.mov (.t 9))⟩,
    ⟨5, false, [], (some 34), none, .q (.mov (.t 6))⟩,
    ⟨6, false, [], (some 35), none, .q (.bin .quo (.t 33) (.t 34))⟩,
    ⟨7, false, [], (some 36), none, .e (.call (.f 107) [.t 29, .t 32, .t 35])⟩,
    ⟨8, false, [], (some 37), none, .q (.mov (.t 36))⟩,
    ⟨9, false, [], (some 38), (some (37, true)), .q (.mov (.t 1))⟩,
    ⟨10, false, [], (some 39), (some (37, true)), .q (.mov (.t 7))⟩,
    ⟨11, false, [], (some 40), (some (37, true)), .q (.mov (.t 6))⟩,
    ⟨12, false, [], (some 41), (some (37, true)), .q (.bin .rem (.t 39) (.t 40))⟩,
    ⟨13, false, [], (some 42), (some (37, true)), .q (.mov (.t 9))⟩,
    ⟨14, false, [], (some 43), (some (37, true)), .q (.mov (.t 6))⟩,
    ⟨15, false, [], (some 44), (some (37, true)), .q (.bin .rem (.t 42) (.t 43))⟩,
    ⟨16, false, [], (some 45), (some (37, true)), .e (.call (.f 107) [.t 38, .t 41, .t 44])⟩,
    ⟨17, false, [], (some 46), none, .q (.pick (.t 37) (.t 45) (.k (.bool false)))⟩] (.cond (.t 46)
  (.op (some 47) none (.q (.mov (.t 8)))
  (.op (some 48) none (.q (.mov (.t 9)))
  (.op (some 49) none (.e (.call (.f 97) [.t 48]))
  (.op (some 50) none (.q (.bin .add (.t 47) (.t 49)))
  (.op (some 8) none (.q (.mov (.t 50)))
  (.done))))))
  (.done)
  (.done)))
  (.op (some 27) none (.q (.mov (.t 9)))
  (.op (some 28) none (.q (.bin .add (.t 27) (.k (.int .i64 1))))
  (.op (some 9) none (.q (.mov (.t 28)))
  (.done)))))))))))))
  (.op (some 51) none (.q (.mov (.t 5)))
  (.op (some 52) none (.q (.mov (.t 8)))
  (.op (some 53) none (.l (.bsl 3 1 [.int .i64 0] 1 [(0, .t 52)]))
  (.op (some 54) none (.e (.app 3 1 8 (.t 51) (.t 53)))
  (.op (some 5) none (.q (.mov (.t 54)))
  (.done)))))))))
  (.op (some 19) none (.q (.mov (.t 7)))
  (.op (some 20) none (.q (.bin .add (.t 19) (.k (.int .i64 1))))
  (.op (some 7) none (.q (.mov (.t 20)))
  (.done)))))))))))))
  (.op (some 55) none (.q (.mov (.t 5)))
  (.op (some 4) none (.q (.mov (.t 55)))
  (.ret))))))))))
def o123 : Nat → List Nat := fun i => if i = 10 then [0, 1, 2, 3, 4, 5, 6, 7, 8, 9, 10, 11, 12, 13, 14, 15, 16, 17] else []
set_option maxRecDepth 100000 in
theorem t123 : (Try.f123.body.map fun c => tr Try.prog o123 Try.f123.ntmps c .done) = some c123 := by kernel_rfl
theorem r123 : trR Try.prog Try.f123.results.toList = some [.t 4] := by kernel_rfl
theorem in123 {w0 : World} {args : List AV} {H : Hp} {Q : AV → Hp → Prop} (h : W Try.prog w0 c123 (retQ [.t 4] Q) (env0 args) H) : ACalls Try.prog w0 123 args H Q :=
  ACalls.intro2 mixed Try.func123 rfl t123 r123 h

/-- spec.chain -/
def c124 : CC :=
  .op (some 2) none (.q (.mov (.k (.nils))))
  (.op (some 5) none (.l (.bsl 3 1 [.int .i64 0] 0 []))
  (.op (some 3) none (.q (.mov (.t 5)))
  (.op (some 4) none (.q (.mov (.k (.int .i64 0))))
  (.block 0
  (.loop
  (.op (some 6) none (.q (.mov (.t 4)))
  (.op (some 7) none (.q (.mov (.t 0)))
  (.op (some 8) none (.q (.bin .lss (.t 6) (.t 7)))
  (.cond (.t 8)
  (.done)
  (.exit 0)
  (.block 1
  (.op (some 11) none (.q (.mov (.t 3)))
  (.op (some 12) none (.q (.mov (.t 0)))
  (.op (some 13) none (.e (.call (.f 97) [.t 12]))
  (.op (some 14) none (.q (.mov (.t 4)))
  (.op (some 15) none (.e (.call (.f 97) [.t 14]))
  (.op (some 16) none (.q (.bin .sub (.t 13) (.t 15)))
  (.op (some 17) none (.l (.bsl 3 1 [.int .i64 0] 1 [(0, .t 16)]))
  (.op (some 18) none (.e (.app 3 1 8 (.t 11) (.t 17)))
  (.op (some 3) none (.q (.mov (.t 18)))
  (.done))))))))))
  (.op (some 9) none (.q (.mov (.t 4)))
  (.op (some 10) none (.q (.bin .add (.t 9) (.k (.int .i64 1))))
  (.op (some 4) none (.q (.mov (.t 10)))
  (.done))))))))))
  (.op (some 19) none (.q (.mov (.t 3)))
  (.op (some 2) none (.q (.mov (.t 19)))
  (.ret)))))))
def o124 : Nat → List Nat := fun _ => []
set_option maxRecDepth 100000 in
theorem t124 : (Try.f124.body.map fun c => tr Try.prog o124 Try.f124.ntmps c .done) = some c124 := by kernel_rfl
theorem r124 : trR Try.prog Try.f124.results.toList = some [.t 2] := by kernel_rfl
theorem in124 {w0 : World} {args : List AV} {H : Hp} {Q : AV → Hp → Prop} (h : W Try.prog w0 c124 (retQ [.t 2] Q) (env0 args) H) : ACalls Try.prog w0 124 args H Q :=
  ACalls.intro2 mixed Try.func124 rfl t124 r124 h

/-- spec.validOrder -/
def c125 : CC :=
  .op (some 2) none (.q (.mov (.k (.bool false))))
  (.op (some 8) none (.q (.mov (.t 0)))
  (.op (some 9) none (.q (.len (.t 8)))
  (.op (some 3) none (.q (.mov (.t 9)))
  (.op (some 10) none (.q (.mov (.t 3)))
  (.op (some 11) none (.e (.call (.f 98) [.t 10, .k (.int .i64 1), .k (.int .i64 6)]))
  (.op (some 12) none (.q (.not (.t 11)))
  (.cond (.t 12)
  (.op (some 2) none (.q (.mov (.k (.bool false))))
  (.ret))
  (.done)
  (.op (some 4) none (.q (.mov (.k (.int .i64 0))))
  (.block 0
  (.loop
  (.op (some 13) none (.q (.mov (.t 4)))
  (.op (some 14) none (.q (.mov (.t 3)))
  (.op (some 15) none (.q (.bin .lss (.t 13) (.t 14)))
  (.cond (.t 15)
  (.done)
  (.exit 0)
  (.block 1
  (.draws [⟨0, false, [], (some 18), none, .q (.mov (.t 0))⟩,
    ⟨1, false, [], (some 19), none, .q (.mov (.t 4))⟩,
    ⟨2, false, [], (some 20), none, .q (.idx 1 (.t 18) (.t 19))⟩,
    ⟨3, true, [], (some 21), none, .q (.load none (.t 20))⟩,
    ⟨4, false, [], (some 22), none, .q (.mov (.t 3))⟩,
    ⟨5, false, [], (some 23), none, .e (.call (.f 97) [.t 22])⟩,
    ⟨6, false, [], (some 24), none, .q (.bin .sub (.t 23) (.k (.int .i64 1)))⟩,
    ⟨7, false, [], (some 25), none, .e (.call (.f 98) [.t 21, .k (.int .i64 0), .t 24])⟩,
    ⟨8, false, [], (some 26), none, .q (.not (.t 25))⟩] (.cond (.t 26)
  (.op (some 2) none (.q (.mov (.k (.bool false))))
  (.ret))
  (.done)
  (.done)))
  (.op (some 16) none (.q (.mov (.t 4)))
  (.op (some 17) none (.q (.bin .add (.t 16) (.k (.int .i64 1))))
  (.op (some 4) none (.q (.mov (.t 17)))
  (.done))))))))))
  (.op (some 5) none (.q (.mov (.k (.int .i64 0))))
  (.block 2
  (.loop
  (.op (some 27) none (.q (.mov (.t 5)))
  (.op (some 28) none (.q (.mov (.t 3)))
  (.op (some 29) none (.q (.bin .lss (.t 27) (.t 28)))
  (.cond (.t 29)
  (.done)
  (.exit 2)
  (.block 3
  (.op (some 32) none (.q (.mov (.t 0)))
  (.op (some 33) none (.q (.mov (.t 5)))
  (.op (some 34) none (.q (.mov (.t 5)))
  (.op (some 35) none (.e (.call (.f 107) [.t 32, .t 33, .t 34]))
  (.op (some 36) none (.q (.not (.t 35)))
  (.op (some 37) none (.q (.mov (.t 36)))
  (.op (some 38) (some (37, false)) (.q (.mov (.t 0)))
  (.op (some 39) (some (37, false)) (.q (.mov (.t 5)))
  (.op (some 40) (some (37, false)) (.e (.call (.f 107) [.t 38, .k (.int .i64 0), .t 39]))
  (.op (some 41) (some (37, false)) (.q (.not (.t 40)))
  (.op (some 42) none (.q (.pick (.t 37) (.k (.bool true)) (.t 41)))
  (.op (some 43) none (.q (.mov (.t 42)))
  (.op (some 44) (some (43, false)) (.q (.mov (.t 0)))
  (.op (some 45) (some (43, false)) (.q (.mov (.t 5)))
  (.op (some 46) (some (43, false)) (.q (.mov (.t 3)))
  (.op (some 47) (some (43, false)) (.q (.bin .sub (.t 46) (.k (.int .i64 1))))
  (.op (some 48) (some (43, false)) (.e (.call (.f 107) [.t 44, .t 45, .t 47]))
  (.op (some 49) (some (43, false)) (.q (.not (.t 48)))
  (.op (some 50) none (.q (.pick (.t 43) (.k (.bool true)) (.t 49)))
  (.cond (.t 50)
  (.op (some 2) none (.q (.mov (.k (.bool false))))
  (.ret))
  (.done)
  (.op (some 6) none (.q (.mov (.k (.int .i64 0))))
  (.block 4
  (.loop
  (.op (some 51) none (.q (.mov (.t 6)))
  (.op (some 52) none (.q (.mov (.t 3)))
  (.op (some 53) none (.q (.bin .lss (.t 51) (.t 52)))
  (.cond (.t 53)
  (.done)
  (.exit 4)
  (.block 5
  (.op (some 56) none (.q (.mov (.t 5)))
  (.op (some 57) none (.q (.mov (.t 6)))
  (.op (some 58) none (.q (.bin .neq (.t 56) (.t 57)))
  (.op (some 59) none (.q (.mov (.t 58)))
  (.op (some 60) (some (59, true)) (.q (.mov (.t 0)))
  (.op (some 61) (some (59, true)) (.q (.mov (.t 5)))
  (.op (some 62) (some (59, true)) (.q (.mov (.t 6)))
  (.op (some 63) (some (59, true)) (.e (.call (.f 107) [.t 60, .t 61, .t 62]))
  (.op (some 64) none (.q (.pick (.t 59) (.t 63) (.k (.bool false))))
  (.op (some 65) none (.q (.mov (.t 64)))
  (.op (some 66) (some (65, true)) (.q (.mov (.t 0)))
  (.op (some 67) (some (65, true)) (.q (.mov (.t 6)))
  (.op (some 68) (some (65, true)) (.q (.mov (.t 5)))
  (.op (some 69) (some (65, true)) (.e (.call (.f 107) [.t 66, .t 67, .t 68]))
  (.op (some 70) none (.q (.pick (.t 65) (.t 69) (.k (.bool false))))
  (.cond (.t 70)
  (.op (some 2) none (.q (.mov (.k (.bool false))))
  (.ret))
  (.done)
  (.op (some 7) none (.q (.mov (.k (.int .i64 0))))
  (.block 6
  (.loop
  (.op (some 71) none (.q (.mov (.t 7)))
  (.op (some 72) none (.q (.mov (.t 3)))
  (.op (some 73) none (.q (.bin .lss (.t 71) (.t 72)))
  (.cond (.t 73)
  (.done)
  (.exit 6)
  (.block 7
  (.op (some 76) none (.q (.mov (.t 0)))
  (.op (some 77) none (.q (.mov (.t 5)))
  (.op (some 78) none (.q (.mov (.t 6)))
  (.op (some 79) none (.e (.call (.f 107) [.t 76, .t 77, .t 78]))
  (.op (some 80) none (.q (.mov (.t 79)))
  (.op (some 81) (some (80, true)) (.q (.mov (.t 0)))
  (.op (some 82) (some (80, true)) (.q (.mov (.t 6)))
  (.op (some 83) (some (80, true)) (.q (.mov (.t 7)))
  (.op (some 84) (some (80, true)) (.e (.call (.f 107) [.t 81, .t 82, .t 83]))
  (.op (some 85) none (.q (.pick (.t 80) (.t 84) (.k (.bool false))))
  (.op (some 86) none (.q (.mov (.t 85)))
  (.op (some 87) (some (86, true)) (.q (.mov (.t 0)))
  (.op (some 88) (some (86, true)) (.q (.mov (.t 5)))
  (.op (some 89) (some (86, true)) (.q (.mov (.t 7)))
  (.op (some 90) (some (86, true)) (.e (.call (.f 107) [.t 87, .t 88, .t 89]))
  (.op (some 91) (some (86, true)) (.q (.not (.t 90)))
  (.op (some 92) none (.q (.pick (.t 86) (.t 91) (.k (.bool false))))
  (.cond (.t 92)
  (.op (some 2) none (.q (.mov (.k (.bool false))))
  (.ret))
  (.done)
  (.done)))))))))))))))))))
  (.op (some 74) none (.q (.mov (.t 7)))
  (.op (some 75) none (.q (.bin .add (.t 74) (.k (.int .i64 1))))
  (.op (some 7) none (.q (.mov (.t 75)))
  (.done))))))))))
  (.done)))))))))))))))))))
  (.op (some 54) none (.q (.mov (.t 6)))
  (.op (some 55) none (.q (.bin .add (.t 54) (.k (.int .i64 1))))
  (.op (some 6) none (.q (.mov (.t 55)))
  (.done))))))))))
  (.done)))))))))))))))))))))))
  (.op (some 30) none (.q (.mov (.t 5)))
  (.op (some 31) none (.q (.bin .add (.t 30) (.k (.int .i64 1))))
  (.op (some 5) none (.q (.mov (.t 31)))
  (.done))))))))))
  (.op (some 2) none (.q (.mov (.k (.bool true))))
  (.ret)))))))))))))
def o125 : Nat → List Nat := fun i => if i = 7 then [0, 1, 2, 3, 4, 5, 6, 7, 8] else []
set_option maxRecDepth 100000 in
theorem t125 : (Try.f125.body.map fun c => tr Try.prog o125 Try.f125.ntmps c .done) = some c125 := by kernel_rfl
theorem r125 : trR Try.prog Try.f125.results.toList = some [.t 2] := by kernel_rfl
theorem in125 {w0 : World} {args : List AV} {H : Hp} {Q : AV → Hp → Prop} (h : W Try.prog w0 c125 (retQ [.t 2] Q) (env0 args) H) : ACalls Try.prog w0 125 args H Q :=
  ACalls.intro2 mixed Try.func125 rfl t125 r125 h

/-- slices.Index[[]string,string] -/
def c126 : CC :=
  .op (some 4) none (.q (.mov (.k (.int .i64 0))))
  (.op (some 6) none (.q (.mov (.t 0)))
  (.op (some 7) none (.q (.len (.t 6)))
  (.op (some 8) none (.q (.mov (.k (.int .i64 0))))
  (.block 0
  (.loop
  (.op (some 9) none (.q (.bin .lss (.t 8) (.t 7)))
  (.cond (.t 9)
  (.done)
  (.exit 0)
  (.block 1
  (.op (some 10) none (.q (.mov (.t 8)))
  (.op (some 5) none (.q (.mov (.t 10)))
  (.op (some 11) none (.q (.mov (.t 1)))
  (.op (some 12) none (.q (.mov (.t 0)))
  (.op (some 13) none (.q (.mov (.t 5)))
  (.op (some 14) none (.q (.idx 1 (.t 12) (.t 13)))
  (.op (some 15) none (.q (.load none (.t 14)))
  (.op (some 16) none (.q (.bin .eql (.t 11) (.t 15)))
  (.cond (.t 16)
  (.op (some 17) none (.q (.mov (.t 5)))
  (.op (some 4) none (.q (.mov (.t 17)))
  (.ret)))
  (.done)
  (.done))))))))))
  (.op (some 18) none (.q (.bin .add (.t 8) (.k (.int .i64 1))))
  (.op (some 8) none (.q (.mov (.t 18)))
  (.done)))))))
  (.op (some 4) none (.q (.mov (.k (.int .i64 (-1)))))
  (.ret))))))
def o126 : Nat → List Nat := fun _ => []
set_option maxRecDepth 100000 in
theorem t126 : (Try.f126.body.map fun c => tr Try.prog o126 Try.f126.ntmps c .done) = some c126 := by kernel_rfl
theorem r126 : trR Try.prog Try.f126.results.toList = some [.t 4] := by kernel_rfl
theorem in126 {w0 : World} {args : List AV} {H : Hp} {Q : AV → Hp → Prop} (h : W Try.prog w0 c126 (retQ [.t 4] Q) (env0 args) H) : ACalls Try.prog w0 126 args H Q :=
  ACalls.intro2 mixed Try.func126 rfl t126 r126 h

/-- impl.proper -/
def c127 : CC :=
  .op (some 1) none (.l (.box 26 (.t 0)))
  (.op (some 2) none (.q (.mov (.k (.nils))))
  (.op (some 3) none (.q (.load (some 2) (.t 1)))
  (.op (some 4) none (.e (.call (.f 81) [.t 3]))
  (.op (some 5) none (.e (.call (.f 132) [.t 4, .f 133]))
  (.op (some 2) none (.q (.mov (.t 5)))
  (.ret))))))
def o127 : Nat → List Nat := fun _ => []
set_option maxRecDepth 100000 in
theorem t127 : (Try.f127.body.map fun c => tr Try.prog o127 Try.f127.ntmps c .done) = some c127 := by kernel_rfl
theorem r127 : trR Try.prog Try.f127.results.toList = some [.t 2] := by kernel_rfl
theorem in127 {w0 : World} {args : List AV} {H : Hp} {Q : AV → Hp → Prop} (h : W Try.prog w0 c127 (retQ [.t 2] Q) (env0 args) H) : ACalls Try.prog w0 127 args H Q :=
  ACalls.intro2 mixed Try.func127 rfl t127 r127 h

/-- impl.greatest$1 -/
def c128 : CC :=
  .op (some 3) none (.q (.mov (.k (.bool false))))
  (.op (some 4) none (.q (.mov (.t 0)))
  (.op (some 5) none (.q (.load none (.t 1)))
  (.op (some 6) none (.q (.bin .neq (.t 4) (.t 5)))
  (.op (some 7) none (.q (.mov (.t 6)))
  (.op (some 8) (some (7, true)) (.q (.load none (.t 1)))
  (.op (some 9) (some (7, true)) (.q (.mov (.t 0)))
  (.op (some 10) (some (7, true)) (.q (.bin .andNot (.t 8) (.t 9)))
  (.op (some 11) (some (7, true)) (.q (.bin .eql (.t 10) (.k (.int .i64 0))))
  (.op (some 12) none (.q (.pick (.t 7) (.t 11) (.k (.bool false))))
  (.op (some 3) none (.q (.mov (.t 12)))
  (.ret)))))))))))
def o128 : Nat → List Nat := fun _ => []
set_option maxRecDepth 100000 in
theorem t128 : (Try.f128.body.map fun c => tr Try.prog o128 Try.f128.ntmps c .done) = some c128 := by kernel_rfl
theorem r128 : trR Try.prog Try.f128.results.toList = some [.t 3] := by kernel_rfl
theorem in128 {w0 : World} {args : List AV} {H : Hp} {Q : AV → Hp → Prop} (h : W Try.prog w0 c128 (retQ [.t 3] Q) (env0 args) H) : ACalls Try.prog w0 128 args H Q :=
  ACalls.intro2 mixed Try.func128 rfl t128 r128 h

/-- spec.sumChain -/
def c129 : CC :=
  .op (some 2) none (.l (.alloc 26 [.nils, .nils]))
  (.op (some 7) none (.q (.mov (.t 0)))
  (.op (some 8) none (.e (.call (.f 124) [.t 7]))
  (.op (some 9) none (.q (.build [.nils, .nils] [(0, .t 8)]))
  (.op (some 3) none (.l (.alloc 26 [.nils, .nils]))
  (.op none none (.e (.store 2 (.t 3) (.t 9)))
  (.op (some 4) none (.q (.mov (.k (.int .i64 0))))
  (.block 0
  (.loop
  (.op (some 10) none (.q (.mov (.t 4)))
  (.op (some 11) none (.q (.mov (.t 0)))
  (.op (some 12) none (.q (.bin .lss (.t 10) (.t 11)))
  (.cond (.t 12)
  (.done)
  (.exit 0)
  (.block 1
  (.op (some 15) none (.l (.bsl 3 1 [.int .i64 0] 0 []))
  (.op (some 5) none (.q (.mov (.t 15)))
  (.op (some 6) none (.q (.mov (.k (.int .i64 0))))
  (.block 2
  (.loop
  (.op (some 16) none (.q (.mov (.t 6)))
  (.op (some 17) none (.q (.mov (.t 0)))
  (.op (some 18) none (.q (.bin .lss (.t 16) (.t 17)))
  (.cond (.t 18)
  (.done)
  (.exit 2)
  (.block 3
  (.op (some 21) none (.q (.mov (.t 5)))
  (.op (some 22) none (.q (.mov (.t 4)))
  (.op (some 23) none (.q (.mov (.t 6)))
  (.op (some 24) none (.q (.bin .add (.t 22) (.t 23)))
  (.op (some 25) none (.q (.mov (.t 0)))
  (.op (some 26) none (.q (.bin .sub (.t 24) (.t 25)))
  (.op (some 27) none (.q (.bin .add (.t 26) (.k (.int .i64 1))))
  (.op (some 28) none (.q (.mm true [.t 27, .k (.int .i64 0)]))
  (.op (some 29) none (.l (.bsl 3 1 [.int .i64 0] 1 [(0, .t 28)]))
  (.op (some 30) none (.e (.app 3 1 8 (.t 21) (.t 29)))
  (.op (some 5) none (.q (.mov (.t 30)))
  (.done))))))))))))
  (.op (some 19) none (.q (.mov (.t 6)))
  (.op (some 20) none (.q (.bin .add (.t 19) (.k (.int .i64 1))))
  (.op (some 6) none (.q (.mov (.t 20)))
  (.done))))))))))
  (.op (some 31) none (.q (.fld 1 (.t 3)))
  (.op (some 32) none (.q (.load none (.t 31)))
  (.op (some 33) none (.q (.mov (.t 5)))
  (.op (some 34) none (.l (.bsl 23 1 [.nils] 1 [(0, .t 33)]))
  (.op (some 35) none (.e (.app 23 1 24 (.t 32) (.t 34)))
  (.op (some 36) none (.q (.fld 1 (.t 3)))
  (.op none none (.e (.store 1 (.t 36) (.t 35)))
  (.done))))))))))))
  (.op (some 13) none (.q (.mov (.t 4)))
  (.op (some 14) none (.q (.bin .add (.t 13) (.k (.int .i64 1))))
  (.op (some 4) none (.q (.mov (.t 14)))
  (.done))))))))))
  (.op (some 37) none (.q (.load (some 2) (.t 3)))
  (.op none none (.e (.store 2 (.t 2) (.t 37)))
  (.ret))))))))))
def o129 : Nat → List Nat := fun _ => []
set_option maxRecDepth 100000 in
theorem t129 : (Try.f129.body.map fun c => tr Try.prog o129 Try.f129.ntmps c .done) = some c129 := by kernel_rfl
theorem r129 : trR Try.prog Try.f129.results.toList = some [.c (some 2) 2] := by kernel_rfl
theorem in129 {w0 : World} {args : List AV} {H : Hp} {Q : AV → Hp → Prop} (h : W Try.prog w0 c129 (retQ [.c (some 2) 2] Q) (env0 args) H) : ACalls Try.prog w0 129 args H Q :=
  ACalls.intro2 mixed Try.func129 rfl t129 r129 h

/-- spec.stack -/
def c130 : CC :=
  .op (some 2) none (.l (.box 26 (.t 0)))
  (.op (some 3) none (.l (.box 26 (.t 1)))
  (.op (some 4) none (.l (.alloc 26 [.nils, .nils]))
  (.op (some 13) none (.q (.fld 0 (.t 2)))
  (.op (some 14) none (.q (.load none (.t 13)))
  (.op (some 15) none (.q (.len (.t 14)))
  (.op (some 16) none (.q (.bin .sub (.t 15) (.k (.int .i64 1))))
  (.op (some 5) none (.q (.mov (.t 16)))
  (.op (some 17) none (.q (.mov (.t 5)))
  (.op (some 18) none (.q (.fld 0 (.t 3)))
  (.op (some 19) none (.q (.load none (.t 18)))
  (.op (some 20) none (.q (.len (.t 19)))
  (.op (some 21) none (.q (.bin .add (.t 17) (.t 20)))
  (.op (some 6) none (.q (.mov (.t 21)))
  (.op (some 22) none (.q (.build [.nils, .nils] []))
  (.op (some 7) none (.l (.alloc 26 [.nils, .nils]))
  (.op none none (.e (.store 2 (.t 7) (.t 22)))
  (.op (some 8) none (.q (.mov (.k (.int .i64 0))))
  (.block 0
  (.loop
  (.op (some 23) none (.q (.mov (.t 8)))
  (.op (some 24) none (.q (.mov (.t 6)))
  (.op (some 25) none (.q (.bin .lss (.t 23) (.t 24)))
  (.cond (.t 25)
  (.done)
  (.exit 0)
  (.block 1
  (.op (some 28) none (.l (.bsl 3 1 [.int .i64 0] 0 []))
  (.op (some 9) none (.q (.mov (.t 28)))
  (.op (some 10) none (.q (.mov (.k (.int .i64 0))))
  (.op (some 11) none (.q (.mov (.k (.int .i64 0))))
  (.block 2
  (.loop
  (.op (some 29) none (.q (.mov (.t 11)))
  (.op (some 30) none (.q (.mov (.t 6)))
  (.op (some 31) none (.q (.bin .lss (.t 29) (.t 30)))
  (.cond (.t 31)
  (.done)
  (.exit 2)
  (.block 3
  (.op (some 34) none (.q (.mov (.t 8)))
  (.op (some 35) none (.q (.mov (.t 11)))
  (.op (some 36) none (.q (.mm false [.t 34, .t 35]))
  (.op (some 12) none (.q (.mov (.t 36)))
  (.op (some 37) none (.q (.mov (.t 8)))
  (.op (some 38) none (.q (.mov (.t 5)))
  (.op (some 39) none (.q (.bin .lss (.t 37) (.t 38)))
  (.op (some 40) none (.q (.mov (.t 39)))
  (.op (some 41) (some (40, true)) (.q (.mov (.t 11)))
  (.op (some 42) (some (40, true)) (.q (.mov (.t 5)))
  (.op (some 43) (some (40, true)) (.q (.bin .lss (.t 41) (.t 42)))
  (.op (some 44) none (.q (.pick (.t 40) (.t 43) (.k (.bool false))))
  (.cond (.t 44)
  (.op (some 45) none (.q (.fld 1 (.t 2)))
  (.op (some 46) none (.q (.load none (.t 45)))
  (.op (some 47) none (.q (.mov (.t 8)))
  (.op (some 48) none (.q (.idx 1 (.t 46) (.t 47)))
  (.op (some 49) none (.q (.load none (.t 48)))
  (.op (some 50) none (.q (.mov (.t 11)))
  (.op (some 51) none (.q (.idx 1 (.t 49) (.t 50)))
  (.op (some 52) none (.q (.load none (.t 51)))
  (.op (some 12) none (.q (.mov (.t 52)))
  (.done))))))))))
  (.op (some 53) none (.q (.mov (.t 8)))
  (.op (some 54) none (.q (.mov (.t 5)))
  (.op (some 55) none (.q (.bin .geq (.t 53) (.t 54)))
  (.op (some 56) none (.q (.mov (.t 55)))
  (.op (some 57) (some (56, true)) (.q (.mov (.t 11)))
  (.op (some 58) (some (56, true)) (.q (.mov (.t 5)))
  (.op (some 59) (some (56, true)) (.q (.bin .geq (.t 57) (.t 58)))
  (.op (some 60) none (.q (.pick (.t 56) (.t 59) (.k (.bool false))))
  (.cond (.t 60)
  (.op (some 61) none (.q (.mov (.t 5)))
  (.op (some 62) none (.q (.fld 1 (.t 3)))
  (.op (some 63) none (.q (.load none (.t 62)))
  (.op (some 64) none (.q (.mov (.t 8)))
  (.op (some 65) none (.q (.mov (.t 5)))
  (.op (some 66) none (.q (.bin .sub (.t 64) (.t 65)))
  (.op (some 67) none (.q (.idx 1 (.t 63) (.t 66)))
  (.op (some 68) none (.q (.load none (.t 67)))
  (.op (some 69) none (.q (.mov (.t 11)))
  (.op (some 70) none (.q (.mov (.t 5)))
  (.op (some 71) none (.q (.bin .sub (.t 69) (.t 70)))
  (.op (some 72) none (.q (.idx 1 (.t 68) (.t 71)))
  (.op (some 73) none (.q (.load none (.t 72)))
  (.op (some 74) none (.q (.bin .add (.t 61) (.t 73)))
  (.op (some 12) none (.q (.mov (.t 74)))
  (.done))))))))))))))))
  (.done)
  (.done))))))))))
  (.op (some 75) none (.q (.mov (.t 9)))
  (.op (some 76) none (.q (.mov (.t 12)))
  (.op (some 77) none (.l (.bsl 3 1 [.int .i64 0] 1 [(0, .t 76)]))
  (.op (some 78) none (.e (.app 3 1 8 (.t 75) (.t 77)))
  (.op (some 9) none (.q (.mov (.t 78)))
  (.op (some 79) none (.q (.mov (.t 8)))
  (.op (some 80) none (.q (.mov (.t 5)))
  (.op (some 81) none (.q (.bin .lss (.t 79) (.t 80)))
  (.op (some 82) none (.q (.mov (.t 81)))
  (.op (some 83) (some (82, true)) (.q (.mov (.t 11)))
  (.op (some 84) (some (82, true)) (.q (.mov (.t 5)))
  (.op (some 85) (some (82, true)) (.q (.bin .geq (.t 83) (.t 84)))
  (.op (some 86) none (.q (.pick (.t 82) (.t 85) (.k (.bool false))))
  (.op (some 87) none (.q (.mov (.t 86)))
  (.op (some 88) (some (87, false)) (.q (.mov (.t 8)))
  (.op (some 89) (some (87, false)) (.q (.mov (.t 5)))
  (.op (some 90) (some (87, false)) (.q (.bin .lss (.t 88) (.t 89)))
  (.op (some 91) (some (87, false)) (.q (.mov (.t 90)))
  (.op (some 92) (some (91, true)) (.q (.mov (.t 11)))
  (.op (some 93) (some (91, true)) (.q (.mov (.t 5)))
  (.op (some 94) (some (91, true)) (.q (.bin .lss (.t 92) (.t 93)))
  (.op (some 95) (some (87, false)) (.q (.pick (.t 91) (.t 94) (.k (.bool false))))
  (.op (some 96) (some (87, false)) (.q (.mov (.t 95)))
  (.op (some 97) (some (96, true)) (.q (.fld 0 (.t 2)))
  (.op (some 98) (some (96, true)) (.q (.load none (.t 97)))
  (.op (some 99) (some (96, true)) (.q (.mov (.t 8)))
  (.op (some 100) (some (96, true)) (.q (.mov (.t 11)))
  (.op (some 101) (some (96, true)) (.e (.call (.f 107) [.t 98, .t 99, .t 100]))
  (.op (some 102) (some (87, false)) (.q (.pick (.t 96) (.t 101) (.k (.bool false))))
  (.op (some 103) none (.q (.pick (.t 87) (.k (.bool true)) (.t 102)))
  (.op (some 104) none (.q (.mov (.t 103)))
  (.op (some 105) (some (104, false)) (.q (.mov (.t 8)))
  (.op (some 106) (some (104, false)) (.q (.mov (.t 5)))
  (.op (some 107) (some (104, false)) (.q (.bin .geq (.t 105) (.t 106)))
  (.op (some 108) (some (104, false)) (.q (.mov (.t 107)))
  (.op (some 109) (some (108, true)) (.q (.mov (.t 11)))
  (.op (some 110) (some (108, true)) (.q (.mov (.t 5)))
  (.op (some 111) (some (108, true)) (.q (.bin .geq (.t 109) (.t 110)))
  (.op (some 112) (some (104, false)) (.q (.pick (.t 108) (.t 111) (.k (.bool false))))
  (.op (some 113) (some (104, false)) (.q (.mov (.t 112)))
  (.op (some 114) (some (113, true)) (.q (.fld 0 (.t 3)))
  (.op (some 115) (some (113, true)) (.q (.load none (.t 114)))
  (.op (some 116) (some (113, true)) (.q (.mov (.t 8)))
  (.op (some 117) (some (113, true)) (.q (.mov (.t 5)))
  (.op (some 118) (some (113, true)) (.q (.bin .sub (.t 116) (.t 117)))
  (.op (some 119) (some (113, true)) (.q (.mov (.t 11)))
  (.op (some 120) (some (113, true)) (.q (.mov (.t 5)))
  (.op (some 121) (some (113, true)) (.q (.bin .sub (.t 119) (.t 120)))
  (.op (some 122) (some (113, true)) (.e (.call (.f 107) [.t 115, .t 118, .t 121]))
  (.op (some 123) (some (104, false)) (.q (.pick (.t 113) (.t 122) (.k (.bool false))))
  (.op (some 124) none (.q (.pick (.t 104) (.k (.bool true)) (.t 123)))
  (.cond (.t 124)
  (.op (some 125) none (.q (.mov (.t 10)))
  (.op (some 126) none (.q (.mov (.t 11)))
  (.op (some 127) none (.e (.call (.f 97) [.t 126]))
  (.op (some 128) none (.q (.bin .add (.t 125) (.t 127)))
  (.op (some 10) none (.q (.mov (.t 128)))
  (.done))))))
  (.done)
  (.done))))))))))))))))))))))))))))))))))))))))))))))))))))))))))))))))))
  (.op (some 32) none (.q (.mov (.t 11)))
  (.op (some 33) none (.q (.bin .add (.t 32) (.k (.int .i64 1))))
  (.op (some 11) none (.q (.mov (.t 33)))
  (.done))))))))))
  (.op (some 129) none (.q (.fld 1 (.t 7)))
  (.op (some 130) none (.q (.load none (.t 129)))
  (.op (some 131) none (.q (.mov (.t 9)))
  (.op (some 132) none (.l (.bsl 23 1 [.nils] 1 [(0, .t 131)]))
  (.op (some 133) none (.e (.app 23 1 24 (.t 130) (.t 132)))
  (.op (some 134) none (.q (.fld 1 (.t 7)))
  (.op none none (.e (.store 1 (.t 134) (.t 133)))
  (.op (some 135) none (.q (.fld 0 (.t 7)))
  (.op (some 136) none (.q (.load none (.t 135)))
  (.op (some 137) none (.q (.mov (.t 10)))
  (.op (some 138) none (.l (.bsl 3 1 [.int .i64 0] 1 [(0, .t 137)]))
  (.op (some 139) none (.e (.app 3 1 8 (.t 136) (.t 138)))
  (.op (some 140) none (.q (.fld 0 (.t 7)))
  (.op none none (.e (.store 1 (.t 140) (.t 139)))
  (.done))))))))))))))))))))
  (.op (some 26) none (.q (.mov (.t 8)))
  (.op (some 27) none (.q (.bin .add (.t 26) (.k (.int .i64 1))))
  (.op (some 8) none (.q (.mov (.t 27)))
  (.done))))))))))
  (.op (some 141) none (.q (.load (some 2) (.t 7)))
  (.op none none (.e (.store 2 (.t 4) (.t 141)))
  (.ret)))))))))))))))))))))
def o130 : Nat → List Nat := fun _ => []
set_option maxRecDepth 100000 in
theorem t130 : (Try.f130.body.map fun c => tr Try.prog o130 Try.f130.ntmps c .done) = some c130 := by kernel_rfl
theorem r130 : trR Try.prog Try.f130.results.toList = some [.c (some 2) 4] := by kernel_rfl
theorem in130 {w0 : World} {args : List AV} {H : Hp} {Q : AV → Hp → Prop} (h : W Try.prog w0 c130 (retQ [.c (some 2) 4] Q) (env0 args) H) : ACalls Try.prog w0 130 args H Q :=
  ACalls.intro2 mixed Try.func130 rfl t130 r130 h

/-- spec.chains -/
def c131 : CC :=
  .op (some 2) none (.q (.mov (.k (.nils))))
  (.op (some 10) none (.l (.bsl 23 1 [.nils] 0 []))
  (.op (some 3) none (.q (.mov (.t 10)))
  (.op (some 4) none (.q (.mov (.k (.int .i64 0))))
  (.block 0
  (.loop
  (.op (some 11) none (.q (.mov (.t 4)))
  (.op (some 12) none (.q (.mov (.t 0)))
  (.op (some 13) none (.q (.bin .lss (.t 11) (.t 12)))
  (.cond (.t 13)
  (.done)
  (.exit 0)
  (.block 1
  (.op (some 16) none (.q (.mov (.t 0)))
  (.op (some 17) none (.l (.mk 3 8 [.int .i64 0] (.t 16) (.t 16)))
  (.op (some 5) none (.q (.mov (.t 17)))
  (.op (some 18) none (.q (.mov (.t 5)))
  (.op (some 19) none (.q (.mov (.t 0)))
  (.op (some 20) none (.q (.bin .sub (.t 19) (.k (.int .i64 1))))
  (.op (some 21) none (.q (.mov (.t 4)))
  (.op (some 22) none (.q (.idx 1 (.t 18) (.t 20)))
  (.op none none (.e (.store 1 (.t 22) (.t 21)))
  (.op (some 23) none (.q (.mov (.t 4)))
  (.op (some 24) none (.q (.mov (.t 0)))
  (.op (some 25) none (.q (.bin .sub (.t 24) (.k (.int .i64 1))))
  (.op (some 26) none (.q (.bin .eql (.t 23) (.t 25)))
  (.cond (.t 26)
  (.op (some 6) none (.q (.mov (.k (.int .i64 0))))
  (.block 2
  (.loop
  (.op (some 27) none (.q (.mov (.t 6)))
  (.op (some 28) none (.q (.mov (.t 0)))
  (.op (some 29) none (.q (.bin .lss (.t 27) (.t 28)))
  (.cond (.t 29)
  (.done)
  (.exit 2)
  (.block 3
  (.op (some 32) none (.q (.mov (.t 5)))
  (.op (some 33) none (.q (.mov (.t 6)))
  (.op (some 34) none (.q (.mov (.t 6)))
  (.op (some 35) none (.q (.idx 1 (.t 32) (.t 33)))
  (.op none none (.e (.store 1 (.t 35) (.t 34)))
  (.done))))))
  (.op (some 30) none (.q (.mov (.t 6)))
  (.op (some 31) none (.q (.bin .add (.t 30) (.k (.int .i64 1))))
  (.op (some 6) none (.q (.mov (.t 31)))
  (.done))))))))))
  (.done)))
  (.done)
  (.op (some 36) none (.q (.mov (.t 3)))
  (.op (some 37) none (.q (.mov (.t 5)))
  (.op (some 38) none (.l (.bsl 23 1 [.nils] 1 [(0, .t 37)]))
  (.op (some 39) none (.e (.app 23 1 24 (.t 36) (.t 38)))
  (.op (some 3) none (.q (.mov (.t 39)))
  (.done))))))))))))))))))))
  (.op (some 14) none (.q (.mov (.t 4)))
  (.op (some 15) none (.q (.bin .add (.t 14) (.k (.int .i64 1))))
  (.op (some 4) none (.q (.mov (.t 15)))
  (.done))))))))))
  (.op (some 40) none (.q (.mov (.t 3)))
  (.op (some 41) none (.l (.bsl 24 1 [.nils] 1 [(0, .t 40)]))
  (.op (some 7) none (.q (.mov (.t 41)))
  (.op (some 42) none (.q (.mov (.t 0)))
  (.op (some 43) none (.q (.bin .gtr (.t 42) (.k (.int .i64 2))))
  (.cond (.t 43)
  (.op (some 44) none (.q (.mov (.t 0)))
  (.op (some 45) none (.q (.mov (.t 3)))
  (.op (some 46) none (.e (.call (.f 134) [.t 44, .t 45, .k (.int .i64 1), .k (.int .i64 1)]))
  (.op (some 7) none (.q (.mov (.t 46)))
  (.done)))))
  (.done)
  (.op (some 47) none (.l (.bsl 26 2 [.nils, .nils] 0 []))
  (.op (some 8) none (.q (.mov (.t 47)))
  (.op (some 9) none (.q (.mov (.k (.int .i64 0))))
  (.block 4
  (.loop
  (.op (some 48) none (.q (.mov (.t 9)))
  (.op (some 49) none (.q (.mov (.t 7)))
  (.op (some 50) none (.q (.len (.t 49)))
  (.op (some 51) none (.q (.bin .lss (.t 48) (.t 50)))
  (.cond (.t 51)
  (.done)
  (.exit 4)
  (.block 5
  (.draws [⟨0, false, [], (some 54), none, .q (.mov (.t 8))⟩,
    ⟨1, false, [], (some 55), none, .q (.mov (.t 0))⟩,
    ⟨3, false, [], (some 57), none, .q (.mov (.t 7))⟩,
    ⟨4, false, [], (some 58), none, .q (.mov (.t 9))⟩,
    ⟨5, false, [], (some 59), none, .q (.idx 1 (.t 57) (.t 58))⟩,
    ⟨6, true, [], (some 60), none, .q (.load none (.t 59))⟩,
    ⟨2, false, [], (some 56), none, .e (.call (.f 124) [.t 55])⟩,
    ⟨7, false, [], (some 61), none, .q (.build [.nils, .nils] [(0, .t 56), (1, .t 60)])⟩,
    ⟨8, false, [], (some 62), none, .l (.bsl 26 2 [.nils, .nils] 1 [(0, .t 61)])⟩,
    ⟨9, false, [], (some 63), none, .e (.app 26 2 48 (.t 54) (.t 62))⟩,
    ⟨10, false, [], (some 8), none, .q (.mov (.t 63))⟩] (.done))
  (.op (some 52) none (.q (.mov (.t 9)))
  (.op (some 53) none (.q (.bin .add (.t 52) (.k (.int .i64 1))))
  (.op (some 9) none (.q (.mov (.t 53)))
  (.done)))))))))))
  (.op (some 64) none (.q (.mov (.t 8)))
  (.op (some 2) none (.q (.mov (.t 64)))
  (.ret)))))))))))))))))
def o131 : Nat → List Nat := fun i => if i = 20 then [0, 1, 3, 4, 5, 6, 2, 7, 8, 9, 10] else []
set_option maxRecDepth 100000 in
theorem t131 : (Try.f131.body.map fun c => tr Try.prog o131 Try.f131.ntmps c .done) = some c131 := by kernel_rfl
theorem r131 : trR Try.prog Try.f131.results.toList = some [.t 2] := by kernel_rfl
theorem in131 {w0 : World} {args : List AV} {H : Hp} {Q : AV → Hp → Prop} (h : W Try.prog w0 c131 (retQ [.t 2] Q) (env0 args) H) : ACalls Try.prog w0 131 args H Q :=
  ACalls.intro2 mixed Try.func131 rfl t131 r131 h

/-- slices.DeleteFunc[[]int,int] -/
def c132 : CC :=
  .op (some 4) none (.q (.mov (.k (.nils))))
  (.op (some 8) none (.q (.mov (.t 0)))
  (.op (some 9) none (.q (.mov (.t 1)))
  (.op (some 10) none (.e (.call (.f 113) [.t 8, .t 9]))
  (.op (some 5) none (.q (.mov (.t 10)))
  (.op (some 11) none (.q (.mov (.t 5)))
  (.op (some 12) none (.q (.bin .eql (.t 11) (.k (.int .i64 (-1)))))
  (.cond (.t 12)
  (.op (some 13) none (.q (.mov (.t 0)))
  (.op (some 4) none (.q (.mov (.t 13)))
  (.ret)))
  (.done)
  (.op (some 14) none (.q (.mov (.t 5)))
  (.op (some 15) none (.q (.bin .add (.t 14) (.k (.int .i64 1))))
  (.op (some 6) none (.q (.mov (.t 15)))
  (.block 0
  (.loop
  (.op (some 16) none (.q (.mov (.t 6)))
  (.op (some 17) none (.q (.mov (.t 0)))
  (.op (some 18) none (.q (.len (.t 17)))
  (.op (some 19) none (.q (.bin .lss (.t 16) (.t 18)))
  (.cond (.t 19)
  (.done)
  (.exit 0)
  (.block 1
  (.op (some 22) none (.q (.mov (.t 0)))
  (.op (some 23) none (.q (.mov (.t 6)))
  (.op (some 24) none (.q (.idx 1 (.t 22) (.t 23)))
  (.op (some 25) none (.q (.load none (.t 24)))
  (.op (some 7) none (.q (.mov (.t 25)))
  (.op (some 26) none (.q (.mov (.t 1)))
  (.op (some 27) none (.q (.mov (.t 7)))
  (.op (some 28) none (.e (.call (.t 26) [.t 27]))
  (.op (some 29) none (.q (.not (.t 28)))
  (.cond (.t 29)
  (.op (some 30) none (.q (.mov (.t 0)))
  (.op (some 31) none (.q (.mov (.t 5)))
  (.op (some 32) none (.q (.mov (.t 7)))
  (.op (some 33) none (.q (.idx 1 (.t 30) (.t 31)))
  (.op none none (.e (.store 1 (.t 33) (.t 32)))
  (.op (some 34) none (.q (.mov (.t 5)))
  (.op (some 35) none (.q (.bin .add (.t 34) (.k (.int .i64 1))))
  (.op (some 5) none (.q (.mov (.t 35)))
  (.done)))))))))
  (.done)
  (.done)))))))))))
  (.op (some 20) none (.q (.mov (.t 6)))
  (.op (some 21) none (.q (.bin .add (.t 20) (.k (.int .i64 1))))
  (.op (some 6) none (.q (.mov (.t 21)))
  (.done)))))))))))
  (.op (some 36) none (.q (.mov (.t 0)))
  (.op (some 37) none (.q (.mov (.t 5)))
  (.op (some 38) none (.q (.slc 1 (.t 36) (some (.t 37)) none))
  (.op none none (.e (.clr [.int .i64 0] (.t 38)))
  (.op (some 39) none (.q (.mov (.t 0)))
  (.op (some 40) none (.q (.mov (.t 5)))
  (.op (some 41) none (.q (.slc 1 (.t 39) none (some (.t 40))))
  (.op (some 4) none (.q (.mov (.t 41)))
  (.ret))))))))))))))))))))
def o132 : Nat → List Nat := fun _ => []
set_option maxRecDepth 100000 in
theorem t132 : (Try.f132.body.map fun c => tr Try.prog o132 Try.f132.ntmps c .done) = some c132 := by kernel_rfl
theorem r132 : trR Try.prog Try.f132.results.toList = some [.t 4] := by kernel_rfl
theorem in132 {w0 : World} {args : List AV} {H : Hp} {Q : AV → Hp → Prop} (h : W Try.prog w0 c132 (retQ [.t 4] Q) (env0 args) H) : ACalls Try.prog w0 132 args H Q :=
  ACalls.intro2 mixed Try.func132 rfl t132 r132 h

/-- impl.proper$1 -/
def c133 : CC :=
  .op (some 2) none (.q (.mov (.k (.bool false))))
  (.op (some 3) none (.q (.mov (.t 0)))
  (.op (some 4) none (.e (.call (.f 110) [.t 3, .k (.int .i64 0)]))
  (.op (some 2) none (.q (.mov (.t 4)))
  (.ret))))
def o133 : Nat → List Nat := fun _ => []
set_option maxRecDepth 100000 in
theorem t133 : (Try.f133.body.map fun c => tr Try.prog o133 Try.f133.ntmps c .done) = some c133 := by kernel_rfl
theorem r133 : trR Try.prog Try.f133.results.toList = some [.t 2] := by kernel_rfl
theorem in133 {w0 : World} {args : List AV} {H : Hp} {Q : AV → Hp → Prop} (h : W Try.prog w0 c133 (retQ [.t 2] Q) (env0 args) H) : ACalls Try.prog w0 133 args H Q :=
  ACalls.intro2 mixed Try.func133 rfl t133 r133 h

/-- spec.fill -/
def c134 : CC :=
  .op (some 8) none (.q (.mov (.k (.nils))))
  (.op (some 13) none (.q (.mov (.t 2)))
  (.op (some 14) none (.q (.mov (.t 0)))
  (.op (some 15) none (.q (.bin .sub (.t 14) (.k (.int .i64 1))))
  (.op (some 16) none (.q (.bin .eql (.t 13) (.t 15)))
  (.cond (.t 16)
  (.op (some 17) none (.q (.mov (.t 0)))
  (.op (some 18) none (.e (.call (.f 124) [.t 17]))
  (.op (some 19) none (.q (.mov (.t 1)))
  (.op (some 20) none (.e (.call (.f 118) [.t 19]))
  (.op (some 21) none (.q (.build [.nils, .nils] [(0, .t 18), (1, .t 20)]))
  (.op (some 9) none (.l (.alloc 26 [.nils, .nils]))
  (.op none none (.e (.store 2 (.t 9) (.t 21)))
  (.op (some 22) none (.q (.load (some 2) (.t 9)))
  (.op (some 23) none (.e (.call (.f 79) [.t 22]))
  (.cond (.t 23)
  (.op (some 24) none (.q (.fld 1 (.t 9)))
  (.op (some 25) none (.q (.load none (.t 24)))
  (.op (some 26) none (.l (.bsl 24 1 [.nils] 1 [(0, .t 25)]))
  (.op (some 8) none (.q (.mov (.t 26)))
  (.ret)))))
  (.done)
  (.op (some 27) none (.l (.bsl 24 1 [.nils] 0 []))
  (.op (some 8) none (.q (.mov (.t 27)))
  (.ret)))))))))))))
  (.done)
  (.op (some 28) none (.q (.mov (.t 3)))
  (.op (some 29) none (.q (.mov (.t 0)))
  (.op (some 30) none (.q (.bin .sub (.t 29) (.k (.int .i64 1))))
  (.op (some 31) none (.q (.bin .eql (.t 28) (.t 30)))
  (.cond (.t 31)
  (.op (some 32) none (.q (.mov (.t 0)))
  (.op (some 33) none (.q (.mov (.t 1)))
  (.op (some 34) none (.q (.mov (.t 2)))
  (.op (some 35) none (.q (.bin .add (.t 34) (.k (.int .i64 1))))
  (.op (some 36) none (.q (.mov (.t 2)))
  (.op (some 37) none (.q (.bin .add (.t 36) (.k (.int .i64 1))))
  (.op (some 38) none (.e (.call (.f 134) [.t 32, .t 33, .t 35, .t 37]))
  (.op (some 8) none (.q (.mov (.t 38)))
  (.ret)))))))))
  (.done)
  (.op (some 39) none (.l (.bsl 24 1 [.nils] 0 []))
  (.op (some 10) none (.q (.mov (.t 39)))
  (.op (some 11) none (.q (.mov (.k (.int .i64 0))))
  (.block 0
  (.loop
  (.op (some 40) none (.q (.mov (.t 11)))
  (.op (some 41) none (.q (.mov (.t 2)))
  (.op (some 42) none (.q (.mov (.t 3)))
  (.op (some 43) none (.q (.mm false [.t 41, .t 42]))
  (.op (some 44) none (.q (.bin .leq (.t 40) (.t 43)))
  (.cond (.t 44)
  (.done)
  (.exit 0)
  (.block 1
  (.op (some 47) none (.q (.mov (.t 11)))
  (.op (some 48) none (.q (.mov (.t 1)))
  (.op (some 49) none (.q (.mov (.t 2)))
  (.op (some 50) none (.q (.bin .sub (.t 49) (.k (.int .i64 1))))
  (.op (some 51) none (.q (.idx 1 (.t 48) (.t 50)))
  (.op (some 52) none (.q (.load none (.t 51)))
  (.op (some 53) none (.q (.mov (.t 3)))
  (.op (some 54) none (.q (.idx 1 (.t 52) (.t 53)))
  (.op (some 55) none (.q (.load none (.t 54)))
  (.op (some 56) none (.q (.bin .geq (.t 47) (.t 55)))
  (.op (some 57) none (.q (.mov (.t 56)))
  (.op (some 58) (some (57, true)) (.q (.mov (.t 11)))
  (.op (some 59) (some (57, true)) (.q (.mov (.t 1)))
  (.op (some 60) (some (57, true)) (.q (.mov (.t 2)))
  (.op (some 61) (some (57, true)) (.q (.idx 1 (.t 59) (.t 60)))
  (.op (some 62) (some (57, true)) (.q (.load none (.t 61)))
  (.op (some 63) (some (57, true)) (.q (.mov (.t 3)))
  (.op (some 64) (some (57, true)) (.q (.bin .sub (.t 63) (.k (.int .i64 1))))
  (.op (some 65) (some (57, true)) (.q (.idx 1 (.t 62) (.t 64)))
  (.op (some 66) (some (57, true)) (.q (.load none (.t 65)))
  (.op (some 67) (some (57, true)) (.q (.bin .geq (.t 58) (.t 66)))
  (.op (some 68) none (.q (.pick (.t 57) (.t 67) (.k (.bool false))))
  (.cond (.t 68)
  (.op (some 69) none (.q (.mov (.t 1)))
  (.op (some 70) none (.e (.call (.f 118) [.t 69]))
  (.op (some 12) none (.q (.mov (.t 70)))
  (.op (some 71) none (.q (.mov (.t 12)))
  (.op (some 72) none (.q (.mov (.t 2)))
  (.op (some 73) none (.q (.idx 1 (.t 71) (.t 72)))
  (.op (some 74) none (.q (.load none (.t 73)))
  (.op (some 75) none (.q (.mov (.t 3)))
  (.op (some 76) none (.q (.mov (.t 11)))
  (.op (some 77) none (.q (.idx 1 (.t 74) (.t 75)))
  (.op none none (.e (.store 1 (.t 77) (.t 76)))
  (.op (some 78) none (.q (.mov (.t 12)))
  (.op (some 79) none (.q (.mov (.t 3)))
  (.op (some 80) none (.q (.idx 1 (.t 78) (.t 79)))
  (.op (some 81) none (.q (.load none (.t 80)))
  (.op (some 82) none (.q (.mov (.t 2)))
  (.op (some 83) none (.q (.mov (.t 11)))
  (.op (some 84) none (.q (.idx 1 (.t 81) (.t 82)))
  (.op none none (.e (.store 1 (.t 84) (.t 83)))
  (.op (some 85) none (.q (.mov (.t 10)))
  (.op (some 86) none (.q (.mov (.t 0)))
  (.op (some 87) none (.q (.mov (.t 12)))
  (.op (some 88) none (.q (.mov (.t 2)))
  (.op (some 89) none (.q (.mov (.t 3)))
  (.op (some 90) none (.q (.bin .add (.t 89) (.k (.int .i64 1))))
  (.op (some 91) none (.e (.call (.f 134) [.t 86, .t 87, .t 88, .t 90]))
  (.op (some 92) none (.e (.app 24 1 24 (.t 85) (.t 91)))
  (.op (some 10) none (.q (.mov (.t 92)))
  (.done)))))))))))))))))))))))))))))
  (.done)
  (.done))))))))))))))))))))))))
  (.op (some 45) none (.q (.mov (.t 11)))
  (.op (some 46) none (.q (.bin .add (.t 45) (.k (.int .i64 1))))
  (.op (some 11) none (.q (.mov (.t 46)))
  (.done))))))))))))
  (.op (some 93) none (.q (.mov (.t 10)))
  (.op (some 8) none (.q (.mov (.t 93)))
  (.ret)))))))))))))))))
def o134 : Nat → List Nat := fun _ => []
set_option maxRecDepth 100000 in
theorem t134 : (Try.f134.body.map fun c => tr Try.prog o134 Try.f134.ntmps c .done) = some c134 := by kernel_rfl
theorem r134 : trR Try.prog Try.f134.results.toList = some [.t 8] := by kernel_rfl
theorem in134 {w0 : World} {args : List AV} {H : Hp} {Q : AV → Hp → Prop} (h : W Try.prog w0 c134 (retQ [.t 8] Q) (env0 args) H) : ACalls Try.prog w0 134 args H Q :=
  ACalls.intro2 mixed Try.func134 rfl t134 r134 h

end Go.AL
