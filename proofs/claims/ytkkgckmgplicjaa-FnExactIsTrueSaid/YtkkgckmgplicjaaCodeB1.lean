/-
  Lemmas that the proofs of the given statements of this seat use. Conditions: none.
-/
import Derived.Test.YtkkgckmgplicjaaCodeB0
import Derived.Test.YtkkgckmgplicjaaProg
import Derived.KernelRfl
/-
  The compact code of the functions, written by a program of mine out of the translation; Lean checks each against the translation.
-/
namespace Go.AL
open Go.Proofs
set_option maxRecDepth 100000
/-- spec.quotient -/
def c85 : CC :=
  .op (some 2) none (.l (.box 36 (.t 0)))
  (.op (some 4) none (.l (.alloc 36 [.nils, .nils]))
  (.op (some 5) none (.q (.mov (.k (.nils))))
  (.op (some 16) none (.q (.load (some 2) (.t 2)))
  (.op (some 17) none (.q (.mov (.t 1)))
  (.op (some 18) none (.e (.call (.f 139) [.t 16, .t 17]))
  (.op (some 15) none (.q (.mov (.t 18)))
  (.op (some 19) none (.q (.ext (.t 15) 0))
  (.op (some 20) none (.q (.ext (.t 15) 1))
  (.op (some 6) none (.q (.mov (.t 19)))
  (.op (some 7) none (.q (.mov (.t 20)))
  (.op (some 21) none (.q (.mov (.t 7)))
  (.op (some 22) none (.l (.mk 3 8 [.int .i64 0] (.t 21) (.t 21)))
  (.op (some 8) none (.q (.mov (.t 22)))
  (.op (some 23) none (.q (.mov (.t 6)))
  (.op (some 24) none (.q (.len (.t 23)))
  (.op (some 25) none (.q (.bin .sub (.t 24) (.k (.int .i64 1))))
  (.op (some 9) none (.q (.mov (.t 25)))
  (.block 0
  (.loop
  (.op (some 26) none (.q (.mov (.t 9)))
  (.op (some 27) none (.q (.bin .geq (.t 26) (.k (.int .i64 0))))
  (.cond (.t 27)
  (.done)
  (.exit 0)
  (.block 1
  (.op (some 30) none (.q (.mov (.t 8)))
  (.op (some 31) none (.q (.mov (.t 6)))
  (.op (some 32) none (.q (.mov (.t 9)))
  (.op (some 33) none (.q (.idx 1 (.t 31) (.t 32)))
  (.op (some 34) none (.q (.load none (.t 33)))
  (.op (some 35) none (.q (.mov (.t 9)))
  (.op (some 36) none (.q (.idx 1 (.t 30) (.t 34)))
  (.op none none (.e (.store 1 (.t 36) (.t 35)))
  (.done)))))))))
  (.op (some 28) none (.q (.mov (.t 9)))
  (.op (some 29) none (.q (.bin .sub (.t 28) (.k (.int .i64 1))))
  (.op (some 9) none (.q (.mov (.t 29)))
  (.done)))))))))
  (.op (some 37) none (.q (.build [.nils, .nils] []))
  (.op (some 10) none (.l (.alloc 36 [.nils, .nils]))
  (.op none none (.e (.store 2 (.t 10) (.t 37)))
  (.op (some 11) none (.q (.mov (.k (.int .i64 0))))
  (.block 2
  (.loop
  (.op (some 38) none (.q (.mov (.t 11)))
  (.op (some 39) none (.q (.mov (.t 7)))
  (.op (some 40) none (.q (.bin .lss (.t 38) (.t 39)))
  (.cond (.t 40)
  (.done)
  (.exit 2)
  (.block 3
  (.op (some 12) none (.q (.mov (.k (.int .i64 0))))
  (.op (some 43) none (.l (.bsl 3 1 [.int .i64 0] 0 []))
  (.op (some 13) none (.q (.mov (.t 43)))
  (.op (some 14) none (.q (.mov (.k (.int .i64 0))))
  (.block 4
  (.loop
  (.op (some 44) none (.q (.mov (.t 14)))
  (.op (some 45) none (.q (.mov (.t 7)))
  (.op (some 46) none (.q (.bin .lss (.t 44) (.t 45)))
  (.cond (.t 46)
  (.done)
  (.exit 4)
  (.block 5
  (.draws [⟨0, false, [], (some 49), none, .q (.mov (.t 1))⟩,
    ⟨1, false, [], (some 50), none, .q (.load (some 2) (.t 2))⟩,
    ⟨2, false, [], (some 51), none, .q (.mov (.t 8))⟩,
    ⟨3, false, [], (some 52), none, .q (.mov (.t 11))⟩,
    ⟨4, false, [], (some 53), none, .q (.idx 1 (.t 51) (.t 52))⟩,
    ⟨5, false, [], (some 54), none, .q (.load none (.t 53))⟩,
    ⟨6, false, [], (some 55), none, .q (.mov (.t 8))⟩,
    ⟨7, false, [], (some 56), none, .q (.mov (.t 14))⟩,
    ⟨8, false, [], (some 57), none, .q (.idx 1 (.t 55) (.t 56))⟩,
    ⟨9, false, [], (some 58), none, .q (.load none (.t 57))⟩,
    ⟨10, false, [], (some 59), none, .e (.call (.f 124) [.t 50, .t 54, .t 58])⟩,
    ⟨11, false, [], (some 60), none, .e (.call (.f 138) [.t 49, .t 59])⟩,
    ⟨12, false, [], (some 61), none, .q (.bin .eql (.t 60) (.k (.int .i64 1)))⟩] (.cond (.t 61)
  (.op (some 62) none (.q (.mov (.t 12)))
  (.op (some 63) none (.q (.mov (.t 14)))
  (.op (some 64) none (.e (.call (.f 82) [.t 63]))
  (.op (some 65) none (.q (.bin .add (.t 62) (.t 64)))
  (.op (some 12) none (.q (.mov (.t 65)))
  (.done))))))
  (.done)
  (.draws [⟨0, false, [], (some 66), none, .q (.mov (.t 13))⟩,
    ⟨1, false, [], (some 67), none, .q (.mov (.t 6))⟩,
    ⟨2, false, [], (some 68), none, .q (.fld 1 (.t 2))⟩,
    ⟨3, false, [], (some 69), none, .q (.load none (.t 68))⟩,
    ⟨4, false, [], (some 70), none, .q (.mov (.t 8))⟩,
    ⟨5, false, [], (some 71), none, .q (.mov (.t 11))⟩,
    ⟨6, false, [], (some 72), none, .q (.idx 1 (.t 70) (.t 71))⟩,
    ⟨7, false, [], (some 73), none, .q (.load none (.t 72))⟩,
    ⟨8, false, [], (some 74), none, .q (.idx 1 (.t 69) (.t 73))⟩,
    ⟨9, false, [], (some 75), none, .q (.load none (.t 74))⟩,
    ⟨10, false, [], (some 76), none, .q (.mov (.t 8))⟩,
    ⟨11, false, [], (some 77), none, .q (.mov (.t 14))⟩,
    ⟨12, false, [], (some 78), none, .q (.idx 1 (.t 76) (.t 77))⟩,
    ⟨13, false, [], (some 79), none, .q (.load none (.t 78))⟩,
    ⟨14, false, [], (some 80), none, .q (.idx 1 (.t 75) (.t 79))⟩,
    ⟨15, false, [], (some 81), none, .q (.load none (.t 80))⟩,
    ⟨16, false, [], (some 82), none, .q (.idx 1 (.t 67) (.t 81))⟩,
    ⟨17, false, [], (some 83), none, .q (.load none (.t 82))⟩,
    ⟨18, false, [], (some 84), none, .l (.bsl 3 1 [.int .i64 0] 1 [(0, .t 83)])⟩,
    ⟨19, false, [], (some 85), none, .e (.app 3 1 8 (.t 66) (.t 84))⟩,
    ⟨20, false, [], (some 13), none, .q (.mov (.t 85))⟩] (.done))))
  (.op (some 47) none (.q (.mov (.t 14)))
  (.op (some 48) none (.q (.bin .add (.t 47) (.k (.int .i64 1))))
  (.op (some 14) none (.q (.mov (.t 48)))
  (.done))))))))))
  (.op (some 86) none (.q (.fld 0 (.t 10)))
  (.op (some 87) none (.q (.load none (.t 86)))
  (.op (some 88) none (.q (.mov (.t 12)))
  (.op (some 89) none (.l (.bsl 3 1 [.int .i64 0] 1 [(0, .t 88)]))
  (.op (some 90) none (.e (.app 3 1 8 (.t 87) (.t 89)))
  (.op (some 91) none (.q (.fld 0 (.t 10)))
  (.op none none (.e (.store 1 (.t 91) (.t 90)))
  (.op (some 92) none (.q (.fld 1 (.t 10)))
  (.op (some 93) none (.q (.load none (.t 92)))
  (.op (some 94) none (.q (.mov (.t 13)))
  (.op (some 95) none (.l (.bsl 30 1 [.nils] 1 [(0, .t 94)]))
  (.op (some 96) none (.e (.app 30 1 24 (.t 93) (.t 95)))
  (.op (some 97) none (.q (.fld 1 (.t 10)))
  (.op none none (.e (.store 1 (.t 97) (.t 96)))
  (.done))))))))))))))))))))
  (.op (some 41) none (.q (.mov (.t 11)))
  (.op (some 42) none (.q (.bin .add (.t 41) (.k (.int .i64 1))))
  (.op (some 11) none (.q (.mov (.t 42)))
  (.done))))))))))
  (.op (some 98) none (.q (.load (some 2) (.t 10)))
  (.op (some 99) none (.q (.mov (.t 6)))
  (.op none none (.e (.store 2 (.t 4) (.t 98)))
  (.op (some 5) none (.q (.mov (.t 99)))
  (.ret))))))))))))))))))))))))))))
def o85 : Nat → List Nat := fun i => if i = 18 then [0, 1, 2, 3, 4, 5, 6, 7, 8, 9, 10, 11, 12, 13, 14, 15, 16, 17, 18, 19, 20] else if i = 16 then [0, 1, 2, 3, 4, 5, 6, 7, 8, 9, 10, 11, 12] else []
set_option maxRecDepth 100000 in
theorem t85 : (Try.f85.body.map fun c => tr Try.prog o85 Try.f85.ntmps c .done) = some c85 := by kernel_rfl
theorem r85 : trR Try.prog Try.f85.results.toList = some [.c (some 2) 4, .t 5] := by kernel_rfl
theorem in85 {w0 : World} {args : List AV} {H : Hp} {Q : AV → Hp → Prop} (h : W Try.prog w0 c85 (retQ [.c (some 2) 4, .t 5] Q) (env0 args) H) : ACalls Try.prog w0 85 args H Q :=
  ACalls.intro2 mixed Try.func85 rfl t85 r85 h

/-- impl.IsFilter -/
def c86 : CC :=
  .op (some 2) none (.l (.box 36 (.t 0)))
  (.op (some 4) none (.q (.mov (.k (.bool false))))
  (.op (some 5) none (.q (.load (some 2) (.t 2)))
  (.op (some 6) none (.q (.mov (.t 1)))
  (.op (some 7) none (.e (.call (.f 140) [.t 5, .t 6]))
  (.op (some 8) none (.q (.mov (.t 7)))
  (.op (some 9) (some (8, true)) (.q (.load (some 2) (.t 2)))
  (.op (some 10) (some (8, true)) (.q (.mov (.t 1)))
  (.op (some 11) (some (8, true)) (.e (.call (.f 141) [.t 9, .t 10]))
  (.op (some 12) none (.q (.pick (.t 8) (.t 11) (.k (.bool false))))
  (.op (some 4) none (.q (.mov (.t 12)))
  (.ret)))))))))))
def o86 : Nat → List Nat := fun _ => []
set_option maxRecDepth 100000 in
theorem t86 : (Try.f86.body.map fun c => tr Try.prog o86 Try.f86.ntmps c .done) = some c86 := by kernel_rfl
theorem r86 : trR Try.prog Try.f86.results.toList = some [.t 4] := by kernel_rfl
theorem in86 {w0 : World} {args : List AV} {H : Hp} {Q : AV → Hp → Prop} (h : W Try.prog w0 c86 (retQ [.t 4] Q) (env0 args) H) : ACalls Try.prog w0 86 args H Q :=
  ACalls.intro2 mixed Try.func86 rfl t86 r86 h

/-- impl.classes -/
def c87 : CC :=
  .op (some 2) none (.l (.box 36 (.t 0)))
  (.op (some 4) none (.q (.mov (.k (.nils))))
  (.op (some 8) none (.l (.bsl 3 1 [.int .i64 0] 0 []))
  (.op (some 5) none (.q (.mov (.t 8)))
  (.op (some 9) none (.q (.fld 0 (.t 2)))
  (.op (some 10) none (.q (.load none (.t 9)))
  (.op (some 11) none (.q (.len (.t 10)))
  (.op (some 12) none (.q (.mov (.k (.int .i64 0))))
  (.block 0
  (.loop
  (.op (some 13) none (.q (.bin .lss (.t 12) (.t 11)))
  (.cond (.t 13)
  (.done)
  (.exit 0)
  (.block 1
  (.op (some 14) none (.q (.mov (.t 12)))
  (.op (some 6) none (.q (.mov (.t 14)))
  (.op (some 7) none (.q (.mov (.k (.int .i64 0))))
  (.block 2
  (.loop
  (.op (some 15) none (.q (.mov (.t 1)))
  (.op (some 16) none (.q (.load (some 2) (.t 2)))
  (.op (some 17) none (.q (.mov (.t 6)))
  (.op (some 18) none (.q (.mov (.t 7)))
  (.op (some 19) none (.e (.call (.f 142) [.t 16, .t 17, .t 18]))
  (.op (some 20) none (.e (.call (.f 89) [.t 15, .t 19]))
  (.op (some 21) none (.q (.not (.t 20)))
  (.cond (.t 21)
  (.done)
  (.exit 2)
  (.block 3
  (.op (some 22) none (.q (.mov (.t 7)))
  (.op (some 23) none (.q (.bin .add (.t 22) (.k (.int .i64 1))))
  (.op (some 7) none (.q (.mov (.t 23)))
  (.done))))
  (.done)))))))))))
  (.op (some 24) none (.q (.mov (.t 5)))
  (.op (some 25) none (.q (.mov (.t 7)))
  (.op (some 26) none (.l (.bsl 3 1 [.int .i64 0] 1 [(0, .t 25)]))
  (.op (some 27) none (.e (.app 3 1 8 (.t 24) (.t 26)))
  (.op (some 5) none (.q (.mov (.t 27)))
  (.done))))))))))
  (.op (some 28) none (.q (.bin .add (.t 12) (.k (.int .i64 1))))
  (.op (some 12) none (.q (.mov (.t 28)))
  (.done)))))))
  (.op (some 29) none (.q (.mov (.t 5)))
  (.op (some 4) none (.q (.mov (.t 29)))
  (.ret)))))))))))
def o87 : Nat → List Nat := fun _ => []
set_option maxRecDepth 100000 in
theorem t87 : (Try.f87.body.map fun c => tr Try.prog o87 Try.f87.ntmps c .done) = some c87 := by kernel_rfl
theorem r87 : trR Try.prog Try.f87.results.toList = some [.t 4] := by kernel_rfl
theorem in87 {w0 : World} {args : List AV} {H : Hp} {Q : AV → Hp → Prop} (h : W Try.prog w0 c87 (retQ [.t 4] Q) (env0 args) H) : ACalls Try.prog w0 87 args H Q :=
  ACalls.intro2 mixed Try.func87 rfl t87 r87 h

/-- slices.Index[[]int,int] -/
def c88 : CC :=
  .op (some 4) none (.q (.mov (.k (.int .i64 0))))
  (.op (some 6) none (.q (.mov (.t 0)))
  (.op (some 7) none (.q (.len (.t 6)))
  (.op (some 8) none (.q (.mov (.k (.int .i64 0))))
  (.block 0
  (.loop
  (.op (some 9) none (.q (.bin .lss (.t 8) (.t 7)))
  (.cond (.t 9)
  (.done)
  (.exit 0)
  (.block 1
  (.op (some 10) none (.q (.mov (.t 8)))
  (.op (some 5) none (.q (.mov (.t 10)))
  (.op (some 11) none (.q (.mov (.t 1)))
  (.op (some 12) none (.q (.mov (.t 0)))
  (.op (some 13) none (.q (.mov (.t 5)))
  (.op (some 14) none (.q (.idx 1 (.t 12) (.t 13)))
  (.op (some 15) none (.q (.load none (.t 14)))
  (.op (some 16) none (.q (.bin .eql (.t 11) (.t 15)))
  (.cond (.t 16)
  (.op (some 17) none (.q (.mov (.t 5)))
  (.op (some 4) none (.q (.mov (.t 17)))
  (.ret)))
  (.done)
  (.done))))))))))
  (.op (some 18) none (.q (.bin .add (.t 8) (.k (.int .i64 1))))
  (.op (some 8) none (.q (.mov (.t 18)))
  (.done)))))))
  (.op (some 4) none (.q (.mov (.k (.int .i64 (-1)))))
  (.ret))))))
def o88 : Nat → List Nat := fun _ => []
set_option maxRecDepth 100000 in
theorem t88 : (Try.f88.body.map fun c => tr Try.prog o88 Try.f88.ntmps c .done) = some c88 := by kernel_rfl
theorem r88 : trR Try.prog Try.f88.results.toList = some [.t 4] := by kernel_rfl
theorem in88 {w0 : World} {args : List AV} {H : Hp} {Q : AV → Hp → Prop} (h : W Try.prog w0 c88 (retQ [.t 4] Q) (env0 args) H) : ACalls Try.prog w0 88 args H Q :=
  ACalls.intro2 mixed Try.func88 rfl t88 r88 h

/-- impl.has -/
def c89 : CC :=
  .op (some 4) none (.q (.mov (.k (.bool false))))
  (.op (some 5) none (.q (.mov (.t 0)))
  (.op (some 6) none (.q (.mov (.t 1)))
  (.op (some 7) none (.q (.bin .shr (.t 5) (.t 6)))
  (.op (some 8) none (.q (.bin .rem (.t 7) (.k (.int .i64 2))))
  (.op (some 9) none (.q (.bin .eql (.t 8) (.k (.int .i64 1))))
  (.op (some 4) none (.q (.mov (.t 9)))
  (.ret)))))))
def o89 : Nat → List Nat := fun _ => []
set_option maxRecDepth 100000 in
theorem t89 : (Try.f89.body.map fun c => tr Try.prog o89 Try.f89.ntmps c .done) = some c89 := by kernel_rfl
theorem r89 : trR Try.prog Try.f89.results.toList = some [.t 4] := by kernel_rfl
theorem in89 {w0 : World} {args : List AV} {H : Hp} {Q : AV → Hp → Prop} (h : W Try.prog w0 c89 (retQ [.t 4] Q) (env0 args) H) : ACalls Try.prog w0 89 args H Q :=
  ACalls.intro2 mixed Try.func89 rfl t89 r89 h

/-- impl.imply -/
def c90 : CC :=
  .op (some 3) none (.l (.box 36 (.t 0)))
  (.op (some 6) none (.q (.mov (.k (.int .i64 0))))
  (.op (some 7) none (.q (.mov (.k (.int .i64 0))))
  (.op (some 9) none (.q (.fld 0 (.t 3)))
  (.op (some 10) none (.q (.load none (.t 9)))
  (.op (some 11) none (.q (.len (.t 10)))
  (.op (some 12) none (.q (.mov (.k (.int .i64 0))))
  (.block 0
  (.loop
  (.op (some 13) none (.q (.bin .lss (.t 12) (.t 11)))
  (.cond (.t 13)
  (.done)
  (.exit 0)
  (.block 1
  (.op (some 14) none (.q (.mov (.t 12)))
  (.op (some 8) none (.q (.mov (.t 14)))
  (.draws [⟨0, false, [], (some 15), none, .q (.fld 0 (.t 3))⟩,
    ⟨1, false, [], (some 16), none, .q (.load none (.t 15))⟩,
    ⟨2, false, [], (some 17), none, .q (.fld 1 (.t 3))⟩,
    ⟨3, false, [], (some 18), none, .q (.load none (.t 17))⟩,
    ⟨4, false, [], (some 19), none, .q (.mov (.t 1))⟩,
    ⟨5, false, [], (some 20), none, .q (.idx 1 (.t 18) (.t 19))⟩,
    ⟨6, false, [], (some 21), none, .q (.load none (.t 20))⟩,
    ⟨7, false, [], (some 22), none, .q (.mov (.t 8))⟩,
    ⟨8, false, [], (some 23), none, .q (.idx 1 (.t 21) (.t 22))⟩,
    ⟨9, false, [], (some 24), none, .q (.load none (.t 23))⟩,
    ⟨10, false, [], (some 25), none, .q (.mov (.t 2))⟩,
    ⟨11, false, [], (some 26), none, .e (.call (.f 96) [.t 16, .t 24, .t 25])⟩] (.cond (.t 26)
  (.op (some 27) none (.q (.fld 0 (.t 3)))
  (.op (some 28) none (.q (.load none (.t 27)))
  (.op (some 29) none (.q (.mov (.t 7)))
  (.op (some 30) none (.q (.mov (.t 8)))
  (.op (some 31) none (.e (.call (.f 114) [.t 28, .t 29, .t 30]))
  (.op (some 7) none (.q (.mov (.t 31)))
  (.done)))))))
  (.done)
  (.done)))))
  (.op (some 32) none (.q (.bin .add (.t 12) (.k (.int .i64 1))))
  (.op (some 12) none (.q (.mov (.t 32)))
  (.done)))))))
  (.op (some 33) none (.q (.mov (.t 7)))
  (.op (some 6) none (.q (.mov (.t 33)))
  (.ret))))))))))
def o90 : Nat → List Nat := fun i => if i = 5 then [0, 1, 2, 3, 4, 5, 6, 7, 8, 9, 10, 11] else []
set_option maxRecDepth 100000 in
theorem t90 : (Try.f90.body.map fun c => tr Try.prog o90 Try.f90.ntmps c .done) = some c90 := by kernel_rfl
theorem r90 : trR Try.prog Try.f90.results.toList = some [.t 6] := by kernel_rfl
theorem in90 {w0 : World} {args : List AV} {H : Hp} {Q : AV → Hp → Prop} (h : W Try.prog w0 c90 (retQ [.t 6] Q) (env0 args) H) : ACalls Try.prog w0 90 args H Q :=
  ACalls.intro2 mixed Try.func90 rfl t90 r90 h

/-- impl.build -/
def c91 : CC :=
  .op (some 4) none (.l (.alloc 36 [.nils, .nils]))
  (.op (some 9) none (.q (.mov (.t 0)))
  (.op (some 10) none (.e (.call (.f 108) [.t 9]))
  (.op (some 11) none (.q (.build [.nils, .nils] [(0, .t 10)]))
  (.op (some 5) none (.l (.alloc 36 [.nils, .nils]))
  (.op none none (.e (.store 2 (.t 5) (.t 11)))
  (.op (some 12) none (.q (.mov (.t 0)))
  (.op (some 13) none (.q (.len (.t 12)))
  (.op (some 14) none (.q (.mov (.k (.int .i64 0))))
  (.block 0
  (.loop
  (.op (some 15) none (.q (.bin .lss (.t 14) (.t 13)))
  (.cond (.t 15)
  (.done)
  (.exit 0)
  (.block 1
  (.op (some 16) none (.q (.mov (.t 14)))
  (.op (some 6) none (.q (.mov (.t 16)))
  (.op (some 17) none (.l (.bsl 3 1 [.int .i64 0] 0 []))
  (.op (some 7) none (.q (.mov (.t 17)))
  (.op (some 18) none (.q (.mov (.t 0)))
  (.op (some 19) none (.q (.len (.t 18)))
  (.op (some 20) none (.q (.mov (.k (.int .i64 0))))
  (.block 2
  (.loop
  (.op (some 21) none (.q (.bin .lss (.t 20) (.t 19)))
  (.cond (.t 21)
  (.done)
  (.exit 2)
  (.block 3
  (.op (some 22) none (.q (.mov (.t 20)))
  (.op (some 8) none (.q (.mov (.t 22)))
  (.op (some 23) none (.q (.mov (.t 7)))
  (.op (some 24) none (.q (.mov (.t 1)))
  (.op (some 25) none (.q (.mov (.t 6)))
  (.op (some 26) none (.q (.mov (.t 8)))
  (.op (some 27) none (.e (.call (.t 24) [.t 25, .t 26]))
  (.op (some 28) none (.l (.bsl 3 1 [.int .i64 0] 1 [(0, .t 27)]))
  (.op (some 29) none (.e (.app 3 1 8 (.t 23) (.t 28)))
  (.op (some 7) none (.q (.mov (.t 29)))
  (.done)))))))))))
  (.op (some 30) none (.q (.bin .add (.t 20) (.k (.int .i64 1))))
  (.op (some 20) none (.q (.mov (.t 30)))
  (.done)))))))
  (.op (some 31) none (.q (.fld 1 (.t 5)))
  (.op (some 32) none (.q (.load none (.t 31)))
  (.op (some 33) none (.q (.mov (.t 7)))
  (.op (some 34) none (.l (.bsl 30 1 [.nils] 1 [(0, .t 33)]))
  (.op (some 35) none (.e (.app 30 1 24 (.t 32) (.t 34)))
  (.op (some 36) none (.q (.fld 1 (.t 5)))
  (.op none none (.e (.store 1 (.t 36) (.t 35)))
  (.done))))))))))))))))
  (.op (some 37) none (.q (.bin .add (.t 14) (.k (.int .i64 1))))
  (.op (some 14) none (.q (.mov (.t 37)))
  (.done)))))))
  (.op (some 38) none (.q (.load (some 2) (.t 5)))
  (.op none none (.e (.store 2 (.t 4) (.t 38)))
  (.ret))))))))))))
def o91 : Nat → List Nat := fun _ => []
set_option maxRecDepth 100000 in
theorem t91 : (Try.f91.body.map fun c => tr Try.prog o91 Try.f91.ntmps c .done) = some c91 := by kernel_rfl
theorem r91 : trR Try.prog Try.f91.results.toList = some [.c (some 2) 4] := by kernel_rfl
theorem in91 {w0 : World} {args : List AV} {H : Hp} {Q : AV → Hp → Prop} (h : W Try.prog w0 c91 (retQ [.c (some 2) 4] Q) (env0 args) H) : ACalls Try.prog w0 91 args H Q :=
  ACalls.intro2 mixed Try.func91 rfl t91 r91 h

/-- impl.QuotientOf$1 -/
def c92 : CC :=
  .op (some 7) none (.q (.mov (.k (.int .i64 0))))
  (.draws [⟨0, false, [], (some 8), none, .q (.load none (.t 2))⟩,
    ⟨1, false, [], (some 9), none, .q (.fld 1 (.t 3))⟩,
    ⟨2, false, [], (some 10), none, .q (.load none (.t 9))⟩,
    ⟨3, false, [], (some 11), none, .q (.load none (.t 4))⟩,
    ⟨4, false, [], (some 12), none, .q (.mov (.t 0))⟩,
    ⟨5, false, [], (some 13), none, .q (.idx 1 (.t 11) (.t 12))⟩,
    ⟨6, false, [], (some 14), none, .q (.load none (.t 13))⟩,
    ⟨7, false, [], (some 15), none, .q (.idx 1 (.t 10) (.t 14))⟩,
    ⟨8, false, [], (some 16), none, .q (.load none (.t 15))⟩,
    ⟨9, false, [], (some 17), none, .q (.load none (.t 4))⟩,
    ⟨10, false, [], (some 18), none, .q (.mov (.t 1))⟩,
    ⟨11, false, [], (some 19), none, .q (.idx 1 (.t 17) (.t 18))⟩,
    ⟨12, false, [], (some 20), none, .q (.load none (.t 19))⟩,
    ⟨13, false, [], (some 21), none, .q (.idx 1 (.t 16) (.t 20))⟩,
    ⟨14, false, [], (some 22), none, .q (.load none (.t 21))⟩,
    ⟨15, false, [], (some 23), none, .q (.idx 1 (.t 8) (.t 22))⟩,
    ⟨16, false, [], (some 24), none, .q (.load none (.t 23))⟩,
    ⟨17, false, [], (some 7), none, .q (.mov (.t 24))⟩] (.ret))
def o92 : Nat → List Nat := fun i => if i = 1 then [0, 1, 2, 3, 4, 5, 6, 7, 8, 9, 10, 11, 12, 13, 14, 15, 16, 17] else []
set_option maxRecDepth 100000 in
theorem t92 : (Try.f92.body.map fun c => tr Try.prog o92 Try.f92.ntmps c .done) = some c92 := by kernel_rfl
theorem r92 : trR Try.prog Try.f92.results.toList = some [.t 7] := by kernel_rfl
theorem in92 {w0 : World} {args : List AV} {H : Hp} {Q : AV → Hp → Prop} (h : W Try.prog w0 c92 (retQ [.t 7] Q) (env0 args) H) : ACalls Try.prog w0 92 args H Q :=
  ACalls.intro2 mixed Try.func92 rfl t92 r92 h

/-- spec.below -/
def c93 : CC :=
  .op (some 6) none (.q (.mov (.k (.bool false))))
  (.op (some 7) none (.q (.mov (.t 0)))
  (.op (some 8) none (.q (.mov (.t 1)))
  (.op (some 9) none (.q (.idx 1 (.t 7) (.t 8)))
  (.op (some 10) none (.q (.load none (.t 9)))
  (.op (some 11) none (.q (.mov (.t 2)))
  (.op (some 12) none (.e (.call (.f 138) [.t 10, .t 11]))
  (.op (some 13) none (.q (.bin .eql (.t 12) (.k (.int .i64 1))))
  (.op (some 6) none (.q (.mov (.t 13)))
  (.ret)))))))))
def o93 : Nat → List Nat := fun _ => []
set_option maxRecDepth 100000 in
theorem t93 : (Try.f93.body.map fun c => tr Try.prog o93 Try.f93.ntmps c .done) = some c93 := by kernel_rfl
theorem r93 : trR Try.prog Try.f93.results.toList = some [.t 6] := by kernel_rfl
theorem in93 {w0 : World} {args : List AV} {H : Hp} {Q : AV → Hp → Prop} (h : W Try.prog w0 c93 (retQ [.t 6] Q) (env0 args) H) : ACalls Try.prog w0 93 args H Q :=
  ACalls.intro2 mixed Try.func93 rfl t93 r93 h

/-- spec.pow -/
def c94 : CC :=
  .op (some 3) none (.l (.box 36 (.t 0)))
  (.op (some 6) none (.q (.mov (.k (.int .i64 0))))
  (.op (some 8) none (.q (.fld 0 (.t 3)))
  (.op (some 9) none (.q (.load none (.t 8)))
  (.op (some 10) none (.q (.len (.t 9)))
  (.op (some 11) none (.q (.bin .sub (.t 10) (.k (.int .i64 1))))
  (.op (some 7) none (.q (.mov (.t 11)))
  (.block 0
  (.loop
  (.op (some 12) none (.q (.mov (.t 2)))
  (.op (some 13) none (.q (.bin .gtr (.t 12) (.k (.int .i64 0))))
  (.cond (.t 13)
  (.done)
  (.exit 0)
  (.block 1
  (.op (some 16) none (.q (.fld 1 (.t 3)))
  (.op (some 17) none (.q (.load none (.t 16)))
  (.op (some 18) none (.q (.mov (.t 7)))
  (.op (some 19) none (.q (.idx 1 (.t 17) (.t 18)))
  (.op (some 20) none (.q (.load none (.t 19)))
  (.op (some 21) none (.q (.mov (.t 1)))
  (.op (some 22) none (.q (.idx 1 (.t 20) (.t 21)))
  (.op (some 23) none (.q (.load none (.t 22)))
  (.op (some 7) none (.q (.mov (.t 23)))
  (.done))))))))))
  (.op (some 14) none (.q (.mov (.t 2)))
  (.op (some 15) none (.q (.bin .sub (.t 14) (.k (.int .i64 1))))
  (.op (some 2) none (.q (.mov (.t 15)))
  (.done)))))))))
  (.op (some 24) none (.q (.mov (.t 7)))
  (.op (some 6) none (.q (.mov (.t 24)))
  (.ret))))))))))
def o94 : Nat → List Nat := fun _ => []
set_option maxRecDepth 100000 in
theorem t94 : (Try.f94.body.map fun c => tr Try.prog o94 Try.f94.ntmps c .done) = some c94 := by kernel_rfl
theorem r94 : trR Try.prog Try.f94.results.toList = some [.t 6] := by kernel_rfl
theorem in94 {w0 : World} {args : List AV} {H : Hp} {Q : AV → Hp → Prop} (h : W Try.prog w0 c94 (retQ [.t 6] Q) (env0 args) H) : ACalls Try.prog w0 94 args H Q :=
  ACalls.intro2 mixed Try.func94 rfl t94 r94 h

/-- impl.LeastPower$1 -/
def c95 : CC :=
  .draws [⟨0, false, [], (some 7), none, .q (.load none (.t 1))⟩,
    ⟨1, false, [], (some 8), none, .q (.mov (.t 7))⟩,
    ⟨2, false, [], (some 9), (some (8, true)), .q (.fld 0 (.t 2))⟩,
    ⟨3, true, [], (some 10), (some (8, true)), .q (.load none (.t 9))⟩,
    ⟨4, true, [], (some 11), (some (8, true)), .q (.load (some 2) (.t 2))⟩,
    ⟨5, false, [], (some 12), (some (8, true)), .q (.load (some 2) (.t 2))⟩,
    ⟨6, false, [], (some 13), (some (8, true)), .q (.load none (.t 3))⟩,
    ⟨7, false, [], (some 14), (some (8, true)), .q (.mov (.t 0))⟩,
    ⟨9, true, [], (some 16), (some (8, true)), .q (.load none (.t 4))⟩,
    ⟨11, true, [], (some 18), (some (8, true)), .q (.load (some 2) (.t 2))⟩,
    ⟨12, true, [], (some 19), (some (8, true)), .q (.load none (.t 5))⟩,
    ⟨13, false, [], (some 20), (some (8, true)), .q (.mov (.t 0))⟩,
    ⟨8, false, [], (some 15), (some (8, true)), .e (.call (.f 80) [.t 12, .t 13, .t 14])⟩,
    ⟨10, false, [], (some 17), (some (8, true)), .e (.call (.f 97) [.t 11, .t 15, .t 16])⟩,
    ⟨14, false, [], (some 21), (some (8, true)), .e (.call (.f 80) [.t 18, .t 19, .t 20])⟩,
    ⟨15, false, [], (some 22), (some (8, true)), .e (.call (.f 96) [.t 10, .t 17, .t 21])⟩,
    ⟨16, false, [], (some 23), none, .q (.pick (.t 8) (.t 22) (.k (.bool false)))⟩,
    ⟨17, false, [], none, none, .e (.store 1 (.t 1) (.t 23))⟩] (.done)
def o95 : Nat → List Nat := fun i => if i = 0 then [0, 1, 2, 3, 4, 5, 6, 7, 9, 11, 12, 13, 8, 10, 14, 15, 16, 17] else []
set_option maxRecDepth 100000 in
theorem t95 : (Try.f95.body.map fun c => tr Try.prog o95 Try.f95.ntmps c .done) = some c95 := by kernel_rfl
theorem r95 : trR Try.prog Try.f95.results.toList = some [] := by kernel_rfl
theorem in95 {w0 : World} {args : List AV} {H : Hp} {Q : AV → Hp → Prop} (h : W Try.prog w0 c95 (retQ [] Q) (env0 args) H) : ACalls Try.prog w0 95 args H Q :=
  ACalls.intro2 mixed Try.func95 rfl t95 r95 h

/-- impl.below -/
def c96 : CC :=
  .op (some 6) none (.q (.mov (.k (.bool false))))
  (.op (some 7) none (.q (.mov (.t 0)))
  (.op (some 8) none (.q (.mov (.t 1)))
  (.op (some 9) none (.q (.idx 1 (.t 7) (.t 8)))
  (.op (some 10) none (.q (.load none (.t 9)))
  (.op (some 11) none (.q (.mov (.t 2)))
  (.op (some 12) none (.q (.bin .shr (.t 10) (.t 11)))
  (.op (some 13) none (.q (.bin .rem (.t 12) (.k (.int .i64 2))))
  (.op (some 14) none (.q (.bin .eql (.t 13) (.k (.int .i64 1))))
  (.op (some 6) none (.q (.mov (.t 14)))
  (.ret))))))))))
def o96 : Nat → List Nat := fun _ => []
set_option maxRecDepth 100000 in
theorem t96 : (Try.f96.body.map fun c => tr Try.prog o96 Try.f96.ntmps c .done) = some c96 := by kernel_rfl
theorem r96 : trR Try.prog Try.f96.results.toList = some [.t 6] := by kernel_rfl
theorem in96 {w0 : World} {args : List AV} {H : Hp} {Q : AV → Hp → Prop} (h : W Try.prog w0 c96 (retQ [.t 6] Q) (env0 args) H) : ACalls Try.prog w0 96 args H Q :=
  ACalls.intro2 mixed Try.func96 rfl t96 r96 h

/-- impl.power -/
def c97 : CC :=
  .op (some 3) none (.l (.box 36 (.t 0)))
  (.op (some 6) none (.q (.mov (.k (.int .i64 0))))
  (.op (some 8) none (.q (.fld 0 (.t 3)))
  (.op (some 9) none (.q (.load none (.t 8)))
  (.op (some 10) none (.q (.len (.t 9)))
  (.op (some 11) none (.q (.bin .sub (.t 10) (.k (.int .i64 1))))
  (.op (some 7) none (.q (.mov (.t 11)))
  (.block 0
  (.loop
  (.op (some 12) none (.q (.mov (.t 2)))
  (.op (some 13) none (.q (.bin .gtr (.t 12) (.k (.int .i64 0))))
  (.cond (.t 13)
  (.done)
  (.exit 0)
  (.block 1
  (.op (some 16) none (.q (.fld 1 (.t 3)))
  (.op (some 17) none (.q (.load none (.t 16)))
  (.op (some 18) none (.q (.mov (.t 7)))
  (.op (some 19) none (.q (.idx 1 (.t 17) (.t 18)))
  (.op (some 20) none (.q (.load none (.t 19)))
  (.op (some 21) none (.q (.mov (.t 1)))
  (.op (some 22) none (.q (.idx 1 (.t 20) (.t 21)))
  (.op (some 23) none (.q (.load none (.t 22)))
  (.op (some 7) none (.q (.mov (.t 23)))
  (.done))))))))))
  (.op (some 14) none (.q (.mov (.t 2)))
  (.op (some 15) none (.q (.bin .sub (.t 14) (.k (.int .i64 1))))
  (.op (some 2) none (.q (.mov (.t 15)))
  (.done)))))))))
  (.op (some 24) none (.q (.mov (.t 7)))
  (.op (some 6) none (.q (.mov (.t 24)))
  (.ret))))))))))
def o97 : Nat → List Nat := fun _ => []
set_option maxRecDepth 100000 in
theorem t97 : (Try.f97.body.map fun c => tr Try.prog o97 Try.f97.ntmps c .done) = some c97 := by kernel_rfl
theorem r97 : trR Try.prog Try.f97.results.toList = some [.t 6] := by kernel_rfl
theorem in97 {w0 : World} {args : List AV} {H : Hp} {Q : AV → Hp → Prop} (h : W Try.prog w0 c97 (retQ [.t 6] Q) (env0 args) H) : ACalls Try.prog w0 97 args H Q :=
  ACalls.intro2 mixed Try.func97 rfl t97 r97 h

/-- spec.someAlgebra -/
def c98 : CC :=
  .op (some 2) none (.l (.alloc 36 [.nils, .nils]))
  (.op (some 3) none (.q (.mov (.t 0)))
  (.op (some 4) none (.q (.mov (.t 0)))
  (.op (some 5) none (.e (.call (.f 144) [.t 4]))
  (.op (some 6) none (.e (.call (.f 143) [.t 3, .t 5]))
  (.op none none (.e (.store 2 (.t 2) (.t 6)))
  (.ret))))))
def o98 : Nat → List Nat := fun _ => []
set_option maxRecDepth 100000 in
theorem t98 : (Try.f98.body.map fun c => tr Try.prog o98 Try.f98.ntmps c .done) = some c98 := by kernel_rfl
theorem r98 : trR Try.prog Try.f98.results.toList = some [.c (some 2) 2] := by kernel_rfl
theorem in98 {w0 : World} {args : List AV} {H : Hp} {Q : AV → Hp → Prop} (h : W Try.prog w0 c98 (retQ [.c (some 2) 2] Q) (env0 args) H) : ACalls Try.prog w0 98 args H Q :=
  ACalls.intro2 mixed Try.func98 rfl t98 r98 h

/-- spec.nucleusOf -/
def c99 : CC :=
  .op (some 3) none (.l (.box 36 (.t 1)))
  (.op (some 4) none (.q (.mov (.k (.nils))))
  (.op (some 7) none (.q (.load (some 2) (.t 3)))
  (.op (some 8) none (.e (.call (.f 70) [.t 7]))
  (.op (some 9) none (.q (.not (.t 8)))
  (.cond (.t 9)
  (.op (some 10) none (.l (.bsl 3 1 [.int .i64 0] 2 [(0, .k (.int .i64 0)), (1, .k (.int .i64 1))]))
  (.op (some 4) none (.q (.mov (.t 10)))
  (.ret)))
  (.done)
  (.op (some 11) none (.q (.load (some 2) (.t 3)))
  (.op (some 12) none (.l (.bsl 3 1 [.int .i64 0] 0 []))
  (.op (some 13) none (.e (.call (.f 145) [.t 11, .t 12]))
  (.op (some 5) none (.q (.mov (.t 13)))
  (.op (some 14) none (.l (.bsl 3 1 [.int .i64 0] 0 []))
  (.op (some 15) none (.q (.mov (.t 5)))
  (.op (some 16) none (.q (.mov (.t 0)))
  (.op (some 17) none (.q (.mov (.t 5)))
  (.op (some 18) none (.q (.len (.t 17)))
  (.op (some 19) none (.e (.call (.f 117) [.t 16, .t 18]))
  (.op (some 20) none (.q (.idx 1 (.t 15) (.t 19)))
  (.op (some 21) none (.q (.load none (.t 20)))
  (.op (some 22) none (.e (.app 3 1 8 (.t 14) (.t 21)))
  (.op (some 6) none (.q (.mov (.t 22)))
  (.op (some 23) none (.q (.mov (.t 0)))
  (.op (some 24) none (.e (.call (.f 117) [.t 23, .k (.int .i64 12)]))
  (.block 0
  (.op (some 26) none (.q (.bin .eql (.t 24) (.k (.int .i64 0))))
  (.op (some 25) none (.q (.mov (.t 26)))
  (.cond (.t 25)
  (.op (some 27) none (.q (.mov (.t 6)))
  (.op (some 28) none (.q (.mov (.t 0)))
  (.op (some 29) none (.q (.mov (.t 6)))
  (.op (some 30) none (.q (.len (.t 29)))
  (.op (some 31) none (.e (.call (.f 117) [.t 28, .t 30]))
  (.op (some 32) none (.q (.mov (.t 0)))
  (.op (some 33) none (.l (.bsl 3 1 [.int .i64 0] 4 [(0, .k (.int .i64 0)), (1, .k (.int .i64 1)), (2, .k (.int .i64 (-1))), (3, .k (.int .i64 6))]))
  (.op (some 34) none (.e (.call (.f 60) [.t 32, .t 33]))
  (.op (some 35) none (.q (.idx 1 (.t 27) (.t 31)))
  (.op none none (.e (.store 1 (.t 35) (.t 34)))
  (.done)))))))))))
  (.op (some 37) none (.q (.bin .eql (.t 24) (.k (.int .i64 1))))
  (.op (some 36) none (.q (.mov (.t 37)))
  (.cond (.t 36)
  (.op (some 38) none (.q (.mov (.t 6)))
  (.op (some 39) none (.l (.bsl 3 1 [.int .i64 0] 1 [(0, .k (.int .i64 0))]))
  (.op (some 40) none (.e (.app 3 1 8 (.t 38) (.t 39)))
  (.op (some 4) none (.q (.mov (.t 40)))
  (.ret)))))
  (.done)
  (.done))))
  (.done))))
  (.op (some 41) none (.q (.mov (.t 6)))
  (.op (some 4) none (.q (.mov (.t 41)))
  (.ret)))))))))))))))))))))))))
def o99 : Nat → List Nat := fun _ => []
set_option maxRecDepth 100000 in
theorem t99 : (Try.f99.body.map fun c => tr Try.prog o99 Try.f99.ntmps c .done) = some c99 := by kernel_rfl
theorem r99 : trR Try.prog Try.f99.results.toList = some [.t 4] := by kernel_rfl
theorem in99 {w0 : World} {args : List AV} {H : Hp} {Q : AV → Hp → Prop} (h : W Try.prog w0 c99 (retQ [.t 4] Q) (env0 args) H) : ACalls Try.prog w0 99 args H Q :=
  ACalls.intro2 mixed Try.func99 rfl t99 r99 h

/-- impl.isNucleus -/
def c100 : CC :=
  .op (some 2) none (.l (.box 36 (.t 0)))
  (.op (some 3) none (.l (.box 30 (.t 1)))
  (.op (some 4) none (.q (.mov (.k (.bool false))))
  (.op (some 7) none (.q (.load none (.t 3)))
  (.op (some 8) none (.q (.len (.t 7)))
  (.op (some 9) none (.q (.fld 0 (.t 2)))
  (.op (some 10) none (.q (.load none (.t 9)))
  (.op (some 11) none (.q (.len (.t 10)))
  (.op (some 12) none (.q (.bin .neq (.t 8) (.t 11)))
  (.op (some 13) none (.q (.mov (.t 12)))
  (.op (some 14) (some (13, false)) (.q (.load none (.t 3)))
  (.op (some 15) (some (13, false)) (.q (.mkf 146 [.t 3]))
  (.op (some 16) (some (13, false)) (.e (.call (.f 112) [.t 14, .t 15]))
  (.op (some 17) none (.q (.pick (.t 13) (.k (.bool true)) (.t 16)))
  (.cond (.t 17)
  (.op (some 4) none (.q (.mov (.k (.bool false))))
  (.ret))
  (.done)
  (.op (some 18) none (.q (.load none (.t 3)))
  (.op (some 19) none (.q (.len (.t 18)))
  (.op (some 20) none (.q (.mov (.k (.int .i64 0))))
  (.block 0
  (.loop
  (.op (some 21) none (.q (.bin .lss (.t 20) (.t 19)))
  (.cond (.t 21)
  (.done)
  (.exit 0)
  (.block 1
  (.op (some 22) none (.q (.mov (.t 20)))
  (.op (some 5) none (.q (.mov (.t 22)))
  (.draws [⟨0, false, [], (some 23), none, .q (.fld 0 (.t 2))⟩,
    ⟨1, false, [], (some 24), none, .q (.load none (.t 23))⟩,
    ⟨2, false, [], (some 25), none, .q (.mov (.t 5))⟩,
    ⟨3, false, [], (some 26), none, .q (.load none (.t 3))⟩,
    ⟨4, false, [], (some 27), none, .q (.mov (.t 5))⟩,
    ⟨5, false, [], (some 28), none, .q (.idx 1 (.t 26) (.t 27))⟩,
    ⟨6, false, [], (some 29), none, .q (.load none (.t 28))⟩,
    ⟨7, false, [], (some 30), none, .e (.call (.f 96) [.t 24, .t 25, .t 29])⟩,
    ⟨8, false, [], (some 31), none, .q (.not (.t 30))⟩,
    ⟨9, false, [], (some 32), none, .q (.mov (.t 31))⟩,
    ⟨10, false, [], (some 33), (some (32, false)), .q (.load none (.t 3))⟩,
    ⟨11, false, [], (some 34), (some (32, false)), .q (.load none (.t 3))⟩,
    ⟨12, false, [], (some 35), (some (32, false)), .q (.mov (.t 5))⟩,
    ⟨13, false, [], (some 36), (some (32, false)), .q (.idx 1 (.t 34) (.t 35))⟩,
    ⟨14, false, [], (some 37), (some (32, false)), .q (.load none (.t 36))⟩,
    ⟨15, false, [], (some 38), (some (32, false)), .q (.idx 1 (.t 33) (.t 37))⟩,
    ⟨16, false, [], (some 39), (some (32, false)), .q (.load none (.t 38))⟩,
    ⟨17, false, [], (some 40), (some (32, false)), .q (.load none (.t 3))⟩,
    ⟨18, false, [], (some 41), (some (32, false)), .q (.mov (.t 5))⟩,
    ⟨19, false, [], (some 42), (some (32, false)), .q (.idx 1 (.t 40) (.t 41))⟩,
    ⟨20, false, [], (some 43), (some (32, false)), .q (.load none (.t 42))⟩,
    ⟨21, false, [], (some 44), (some (32, false)), .q (.bin .neq (.t 39) (.t 43))⟩,
    ⟨22, false, [], (some 45), none, .q (.pick (.t 32) (.k (.bool true)) (.t 44))⟩] (.cond (.t 45)
  (.op (some 4) none (.q (.mov (.k (.bool false))))
  (.ret))
  (.done)
  (.op (some 46) none (.q (.load none (.t 3)))
  (.op (some 47) none (.q (.len (.t 46)))
  (.op (some 48) none (.q (.mov (.k (.int .i64 0))))
  (.block 2
  (.loop
  (.op (some 49) none (.q (.bin .lss (.t 48) (.t 47)))
  (.cond (.t 49)
  (.done)
  (.exit 2)
  (.block 3
  (.op (some 50) none (.q (.mov (.t 48)))
  (.op (some 6) none (.q (.mov (.t 50)))
  (.draws [⟨0, false, [], (some 51), none, .q (.fld 0 (.t 2))⟩,
    ⟨1, false, [], (some 52), none, .q (.load none (.t 51))⟩,
    ⟨2, false, [], (some 53), none, .q (.mov (.t 5))⟩,
    ⟨3, false, [], (some 54), none, .q (.mov (.t 6))⟩,
    ⟨4, false, [], (some 55), none, .e (.call (.f 96) [.t 52, .t 53, .t 54])⟩,
    ⟨5, false, [], (some 56), none, .q (.mov (.t 55))⟩,
    ⟨6, false, [], (some 57), (some (56, true)), .q (.fld 0 (.t 2))⟩,
    ⟨7, false, [], (some 58), (some (56, true)), .q (.load none (.t 57))⟩,
    ⟨8, false, [], (some 59), (some (56, true)), .q (.load none (.t 3))⟩,
    ⟨9, false, [], (some 60), (some (56, true)), .q (.mov (.t 5))⟩,
    ⟨10, false, [], (some 61), (some (56, true)), .q (.idx 1 (.t 59) (.t 60))⟩,
    ⟨11, false, [], (some 62), (some (56, true)), .q (.load none (.t 61))⟩,
    ⟨12, false, [], (some 63), (some (56, true)), .q (.load none (.t 3))⟩,
    ⟨13, false, [], (some 64), (some (56, true)), .q (.mov (.t 6))⟩,
    ⟨14, false, [], (some 65), (some (56, true)), .q (.idx 1 (.t 63) (.t 64))⟩,
    ⟨15, false, [], (some 66), (some (56, true)), .q (.load none (.t 65))⟩,
    ⟨16, false, [], (some 67), (some (56, true)), .e (.call (.f 96) [.t 58, .t 62, .t 66])⟩,
    ⟨17, false, [], (some 68), (some (56, true)), .q (.not (.t 67))⟩,
    ⟨18, false, [], (some 69), none, .q (.pick (.t 56) (.t 68) (.k (.bool false)))⟩,
    ⟨19, false, [], (some 70), none, .q (.mov (.t 69))⟩,
    ⟨20, false, [], (some 71), (some (70, false)), .q (.fld 0 (.t 2))⟩,
    ⟨21, false, [], (some 72), (some (70, false)), .q (.load none (.t 71))⟩,
    ⟨22, false, [], (some 73), (some (70, false)), .q (.fld 1 (.t 2))⟩,
    ⟨23, false, [], (some 74), (some (70, false)), .q (.load none (.t 73))⟩,
    ⟨24, false, [], (some 75), (some (70, false)), .q (.load none (.t 3))⟩,
    ⟨25, false, [], (some 76), (some (70, false)), .q (.mov (.t 5))⟩,
    ⟨26, false, [], (some 77), (some (70, false)), .q (.idx 1 (.t 75) (.t 76))⟩,
    ⟨27, false, [], (some 78), (some (70, false)), .q (.load none (.t 77))⟩,
    ⟨28, false, [], (some 79), (some (70, false)), .q (.idx 1 (.t 74) (.t 78))⟩,
    ⟨29, false, [], (some 80), (some (70, false)), .q (.load none (.t 79))⟩,
    ⟨30, false, [], (some 81), (some (70, false)), .q (.load none (.t 3))⟩,
    ⟨31, false, [], (some 82), (some (70, false)), .q (.mov (.t 6))⟩,
    ⟨32, false, [], (some 83), (some (70, false)), .q (.idx 1 (.t 81) (.t 82))⟩,
    ⟨33, false, [], (some 84), (some (70, false)), .q (.load none (.t 83))⟩,
    ⟨34, false, [], (some 85), (some (70, false)), .q (.idx 1 (.t 80) (.t 84))⟩,
    ⟨35, false, [], (some 86), (some (70, false)), .q (.load none (.t 85))⟩,
    ⟨36, false, [], (some 87), (some (70, false)), .q (.load none (.t 3))⟩,
    ⟨37, false, [], (some 88), (some (70, false)), .q (.fld 1 (.t 2))⟩,
    ⟨38, false, [], (some 89), (some (70, false)), .q (.load none (.t 88))⟩,
    ⟨39, false, [], (some 90), (some (70, false)), .q (.mov (.t 5))⟩,
    ⟨40, false, [], (some 91), (some (70, false)), .q (.idx 1 (.t 89) (.t 90))⟩,
    ⟨41, false, [], (some 92), (some (70, false)), .q (.load none (.t 91))⟩,
    ⟨42, false, [], (some 93), (some (70, false)), .q (.mov (.t 6))⟩,
    ⟨43, false, [], (some 94), (some (70, false)), .q (.idx 1 (.t 92) (.t 93))⟩,
    ⟨44, false, [], (some 95), (some (70, false)), .q (.load none (.t 94))⟩,
    ⟨45, false, [], (some 96), (some (70, false)), .q (.idx 1 (.t 87) (.t 95))⟩,
    ⟨46, false, [], (some 97), (some (70, false)), .q (.load none (.t 96))⟩,
    ⟨47, false, [], (some 98), (some (70, false)), .e (.call (.f 96) [.t 72, .t 86, .t 97])⟩,
    ⟨48, false, [], (some 99), (some (70, false)), .q (.not (.t 98))⟩,
    ⟨49, false, [], (some 100), none, .q (.pick (.t 70) (.k (.bool true)) (.t 99))⟩] (.cond (.t 100)
  (.op (some 4) none (.q (.mov (.k (.bool false))))
  (.ret))
  (.done)
  (.done)))))
  (.op (some 101) none (.q (.bin .add (.t 48) (.k (.int .i64 1))))
  (.op (some 48) none (.q (.mov (.t 101)))
  (.done)))))))
  (.done)))))))))
  (.op (some 102) none (.q (.bin .add (.t 20) (.k (.int .i64 1))))
  (.op (some 20) none (.q (.mov (.t 102)))
  (.done)))))))
  (.op (some 4) none (.q (.mov (.k (.bool true))))
  (.ret))))))))))))))))))))
def o100 : Nat → List Nat := fun i => if i = 11 then [0, 1, 2, 3, 4, 5, 6, 7, 8, 9, 10, 11, 12, 13, 14, 15, 16, 17, 18, 19, 20, 21, 22, 23, 24, 25, 26, 27, 28, 29, 30, 31, 32, 33, 34, 35, 36, 37, 38, 39, 40, 41, 42, 43, 44, 45, 46, 47, 48, 49] else if i = 6 then [0, 1, 2, 3, 4, 5, 6, 7, 8, 9, 10, 11, 12, 13, 14, 15, 16, 17, 18, 19, 20, 21, 22] else []
set_option maxRecDepth 100000 in
theorem t100 : (Try.f100.body.map fun c => tr Try.prog o100 Try.f100.ntmps c .done) = some c100 := by kernel_rfl
theorem r100 : trR Try.prog Try.f100.results.toList = some [.t 4] := by kernel_rfl
theorem in100 {w0 : World} {args : List AV} {H : Hp} {Q : AV → Hp → Prop} (h : W Try.prog w0 c100 (retQ [.t 4] Q) (env0 args) H) : ACalls Try.prog w0 100 args H Q :=
  ACalls.intro2 mixed Try.func100 rfl t100 r100 h

/-- spec.isNucleus -/
def c101 : CC :=
  .op (some 2) none (.l (.box 36 (.t 0)))
  (.op (some 4) none (.q (.mov (.k (.bool false))))
  (.op (some 9) none (.q (.fld 0 (.t 2)))
  (.op (some 10) none (.q (.load none (.t 9)))
  (.op (some 11) none (.q (.len (.t 10)))
  (.op (some 5) none (.q (.mov (.t 11)))
  (.op (some 12) none (.q (.mov (.t 1)))
  (.op (some 13) none (.q (.len (.t 12)))
  (.op (some 14) none (.q (.mov (.t 5)))
  (.op (some 15) none (.q (.bin .neq (.t 13) (.t 14)))
  (.cond (.t 15)
  (.op (some 4) none (.q (.mov (.k (.bool false))))
  (.ret))
  (.done)
  (.op (some 6) none (.q (.mov (.k (.int .i64 0))))
  (.block 0
  (.loop
  (.op (some 16) none (.q (.mov (.t 6)))
  (.op (some 17) none (.q (.mov (.t 5)))
  (.op (some 18) none (.q (.bin .lss (.t 16) (.t 17)))
  (.cond (.t 18)
  (.done)
  (.exit 0)
  (.block 1
  (.op (some 21) none (.q (.mov (.t 1)))
  (.op (some 22) none (.q (.mov (.t 6)))
  (.op (some 23) none (.q (.idx 1 (.t 21) (.t 22)))
  (.op (some 24) none (.q (.load none (.t 23)))
  (.op (some 25) none (.q (.mov (.t 5)))
  (.op (some 26) none (.q (.bin .sub (.t 25) (.k (.int .i64 1))))
  (.op (some 27) none (.e (.call (.f 66) [.t 24, .k (.int .i64 0), .t 26]))
  (.op (some 28) none (.q (.not (.t 27)))
  (.cond (.t 28)
  (.op (some 4) none (.q (.mov (.k (.bool false))))
  (.ret))
  (.done)
  (.done))))))))))
  (.op (some 19) none (.q (.mov (.t 6)))
  (.op (some 20) none (.q (.bin .add (.t 19) (.k (.int .i64 1))))
  (.op (some 6) none (.q (.mov (.t 20)))
  (.done))))))))))
  (.op (some 7) none (.q (.mov (.k (.int .i64 0))))
  (.block 2
  (.loop
  (.op (some 29) none (.q (.mov (.t 7)))
  (.op (some 30) none (.q (.mov (.t 5)))
  (.op (some 31) none (.q (.bin .lss (.t 29) (.t 30)))
  (.cond (.t 31)
  (.done)
  (.exit 2)
  (.block 3
  (.draws [⟨0, false, [], (some 34), none, .q (.fld 0 (.t 2))⟩,
    ⟨1, false, [], (some 35), none, .q (.load none (.t 34))⟩,
    ⟨2, false, [], (some 36), none, .q (.mov (.t 7))⟩,
    ⟨3, false, [], (some 37), none, .q (.mov (.t 1))⟩,
    ⟨4, false, [], (some 38), none, .q (.mov (.t 7))⟩,
    ⟨5, false, [], (some 39), none, .q (.idx 1 (.t 37) (.t 38))⟩,
    ⟨6, false, [], (some 40), none, .q (.load none (.t 39))⟩,
    ⟨7, false, [], (some 41), none, .e (.call (.f 93) [.t 35, .t 36, .t 40])⟩,
    ⟨8, false, [], (some 42), none, .q (.not (.t 41))⟩,
    ⟨9, false, [], (some 43), none, .q (.mov (.t 42))⟩,
    ⟨10, false, [], (some 44), (some (43, false)), .q (.mov (.t 1))⟩,
    ⟨11, false, [], (some 45), (some (43, false)), .q (.mov (.t 1))⟩,
    ⟨12, false, [], (some 46), (some (43, false)), .q (.mov (.t 7))⟩,
    ⟨13, false, [], (some 47), (some (43, false)), .q (.idx 1 (.t 45) (.t 46))⟩,
    ⟨14, false, [], (some 48), (some (43, false)), .q (.load none (.t 47))⟩,
    ⟨15, false, [], (some 49), (some (43, false)), .q (.idx 1 (.t 44) (.t 48))⟩,
    ⟨16, false, [], (some 50), (some (43, false)), .q (.load none (.t 49))⟩,
    ⟨17, false, [], (some 51), (some (43, false)), .q (.mov (.t 1))⟩,
    ⟨18, false, [], (some 52), (some (43, false)), .q (.mov (.t 7))⟩,
    ⟨19, false, [], (some 53), (some (43, false)), .q (.idx 1 (.t 51) (.t 52))⟩,
    ⟨20, false, [], (some 54), (some (43, false)), .q (.load none (.t 53))⟩,
    ⟨21, false, [], (some 55), (some (43, false)), .q (.bin .neq (.t 50) (.t 54))⟩,
    ⟨22, false, [], (some 56), none, .q (.pick (.t 43) (.k (.bool true)) (.t 55))⟩] (.cond (.t 56)
  (.op (some 4) none (.q (.mov (.k (.bool false))))
  (.ret))
  (.done)
  (.op (some 8) none (.q (.mov (.k (.int .i64 0))))
  (.block 4
  (.loop
  (.op (some 57) none (.q (.mov (.t 8)))
  (.op (some 58) none (.q (.mov (.t 5)))
  (.op (some 59) none (.q (.bin .lss (.t 57) (.t 58)))
  (.cond (.t 59)
  (.done)
  (.exit 4)
  (.block 5
  (.draws [⟨0, false, [], (some 62), none, .q (.fld 0 (.t 2))⟩,
    ⟨1, false, [], (some 63), none, .q (.load none (.t 62))⟩,
    ⟨2, false, [], (some 64), none, .q (.mov (.t 7))⟩,
    ⟨3, false, [], (some 65), none, .q (.mov (.t 8))⟩,
    ⟨4, false, [], (some 66), none, .e (.call (.f 93) [.t 63, .t 64, .t 65])⟩,
    ⟨5, false, [], (some 67), none, .q (.mov (.t 66))⟩,
    ⟨6, false, [], (some 68), (some (67, true)), .q (.fld 0 (.t 2))⟩,
    ⟨7, false, [], (some 69), (some (67, true)), .q (.load none (.t 68))⟩,
    ⟨8, false, [], (some 70), (some (67, true)), .q (.mov (.t 1))⟩,
    ⟨9, false, [], (some 71), (some (67, true)), .q (.mov (.t 7))⟩,
    ⟨10, false, [], (some 72), (some (67, true)), .q (.idx 1 (.t 70) (.t 71))⟩,
    ⟨11, false, [], (some 73), (some (67, true)), .q (.load none (.t 72))⟩,
    ⟨12, false, [], (some 74), (some (67, true)), .q (.mov (.t 1))⟩,
    ⟨13, false, [], (some 75), (some (67, true)), .q (.mov (.t 8))⟩,
    ⟨14, false, [], (some 76), (some (67, true)), .q (.idx 1 (.t 74) (.t 75))⟩,
    ⟨15, false, [], (some 77), (some (67, true)), .q (.load none (.t 76))⟩,
    ⟨16, false, [], (some 78), (some (67, true)), .e (.call (.f 93) [.t 69, .t 73, .t 77])⟩,
    ⟨17, false, [], (some 79), (some (67, true)), .q (.not (.t 78))⟩,
    ⟨18, false, [], (some 80), none, .q (.pick (.t 67) (.t 79) (.k (.bool false)))⟩,
    ⟨19, false, [], (some 81), none, .q (.mov (.t 80))⟩,
    ⟨20, false, [], (some 82), (some (81, false)), .q (.fld 0 (.t 2))⟩,
    ⟨21, false, [], (some 83), (some (81, false)), .q (.load none (.t 82))⟩,
    ⟨22, false, [], (some 84), (some (81, false)), .q (.fld 1 (.t 2))⟩,
    ⟨23, false, [], (some 85), (some (81, false)), .q (.load none (.t 84))⟩,
    ⟨24, false, [], (some 86), (some (81, false)), .q (.mov (.t 1))⟩,
    ⟨25, false, [], (some 87), (some (81, false)), .q (.mov (.t 7))⟩,
    ⟨26, false, [], (some 88), (some (81, false)), .q (.idx 1 (.t 86) (.t 87))⟩,
    ⟨27, false, [], (some 89), (some (81, false)), .q (.load none (.t 88))⟩,
    ⟨28, false, [], (some 90), (some (81, false)), .q (.idx 1 (.t 85) (.t 89))⟩,
    ⟨29, false, [], (some 91), (some (81, false)), .q (.load none (.t 90))⟩,
    ⟨30, false, [], (some 92), (some (81, false)), .q (.mov (.t 1))⟩,
    ⟨31, false, [], (some 93), (some (81, false)), .q (.mov (.t 8))⟩,
    ⟨32, false, [], (some 94), (some (81, false)), .q (.idx 1 (.t 92) (.t 93))⟩,
    ⟨33, false, [], (some 95), (some (81, false)), .q (.load none (.t 94))⟩,
    ⟨34, false, [], (some 96), (some (81, false)), .q (.idx 1 (.t 91) (.t 95))⟩,
    ⟨35, false, [], (some 97), (some (81, false)), .q (.load none (.t 96))⟩,
    ⟨36, false, [], (some 98), (some (81, false)), .q (.mov (.t 1))⟩,
    ⟨37, false, [], (some 99), (some (81, false)), .q (.fld 1 (.t 2))⟩,
    ⟨38, false, [], (some 100), (some (81, false)), .q (.load none (.t 99))⟩,
    ⟨39, false, [], (some 101), (some (81, false)), .q (.mov (.t 7))⟩,
    ⟨40, false, [], (some 102), (some (81, false)), .q (.idx 1 (.t 100) (.t 101))⟩,
    ⟨41, false, [], (some 103), (some (81, false)), .q (.load none (.t 102))⟩,
    ⟨42, false, [], (some 104), (some (81, false)), .q (.mov (.t 8))⟩,
    ⟨43, false, [], (some 105), (some (81, false)), .q (.idx 1 (.t 103) (.t 104))⟩,
    ⟨44, false, [], (some 106), (some (81, false)), .q (.load none (.t 105))⟩,
    ⟨45, false, [], (some 107), (some (81, false)), .q (.idx 1 (.t 98) (.t 106))⟩,
    ⟨46, false, [], (some 108), (some (81, false)), .q (.load none (.t 107))⟩,
    ⟨47, false, [], (some 109), (some (81, false)), .e (.call (.f 93) [.t 83, .t 97, .t 108])⟩,
    ⟨48, false, [], (some 110), (some (81, false)), .q (.not (.t 109))⟩,
    ⟨49, false, [], (some 111), none, .q (.pick (.t 81) (.k (.bool true)) (.t 110))⟩] (.cond (.t 111)
  (.op (some 4) none (.q (.mov (.k (.bool false))))
  (.ret))
  (.done)
  (.done)))
  (.op (some 60) none (.q (.mov (.t 8)))
  (.op (some 61) none (.q (.bin .add (.t 60) (.k (.int .i64 1))))
  (.op (some 8) none (.q (.mov (.t 61)))
  (.done))))))))))
  (.done)))))
  (.op (some 32) none (.q (.mov (.t 7)))
  (.op (some 33) none (.q (.bin .add (.t 32) (.k (.int .i64 1))))
  (.op (some 7) none (.q (.mov (.t 33)))
  (.done))))))))))
  (.op (some 4) none (.q (.mov (.k (.bool true))))
  (.ret))))))))))))))))
def o101 : Nat → List Nat := fun i => if i = 17 then [0, 1, 2, 3, 4, 5, 6, 7, 8, 9, 10, 11, 12, 13, 14, 15, 16, 17, 18, 19, 20, 21, 22, 23, 24, 25, 26, 27, 28, 29, 30, 31, 32, 33, 34, 35, 36, 37, 38, 39, 40, 41, 42, 43, 44, 45, 46, 47, 48, 49] else if i = 12 then [0, 1, 2, 3, 4, 5, 6, 7, 8, 9, 10, 11, 12, 13, 14, 15, 16, 17, 18, 19, 20, 21, 22] else []
set_option maxRecDepth 100000 in
theorem t101 : (Try.f101.body.map fun c => tr Try.prog o101 Try.f101.ntmps c .done) = some c101 := by kernel_rfl
theorem r101 : trR Try.prog Try.f101.results.toList = some [.t 4] := by kernel_rfl
theorem in101 {w0 : World} {args : List AV} {H : Hp} {Q : AV → Hp → Prop} (h : W Try.prog w0 c101 (retQ [.t 4] Q) (env0 args) H) : ACalls Try.prog w0 101 args H Q :=
  ACalls.intro2 mixed Try.func101 rfl t101 r101 h

/-- impl.at -/
def c102 : CC :=
  .op (some 2) none (.l (.box 36 (.t 0)))
  (.op (some 4) none (.q (.mov (.k (.bool false))))
  (.op (some 5) none (.q (.load (some 2) (.t 2)))
  (.op (some 6) none (.e (.call (.f 53) [.t 5]))
  (.op (some 7) none (.q (.mov (.t 6)))
  (.op (some 8) (some (7, true)) (.q (.mov (.t 1)))
  (.op (some 9) (some (7, true)) (.q (.mkf 147 [.t 2]))
  (.op (some 10) (some (7, true)) (.e (.call (.f 112) [.t 8, .t 9]))
  (.op (some 11) (some (7, true)) (.q (.not (.t 10)))
  (.op (some 12) none (.q (.pick (.t 7) (.t 11) (.k (.bool false))))
  (.op (some 4) none (.q (.mov (.t 12)))
  (.ret)))))))))))
def o102 : Nat → List Nat := fun _ => []
set_option maxRecDepth 100000 in
theorem t102 : (Try.f102.body.map fun c => tr Try.prog o102 Try.f102.ntmps c .done) = some c102 := by kernel_rfl
theorem r102 : trR Try.prog Try.f102.results.toList = some [.t 4] := by kernel_rfl
theorem in102 {w0 : World} {args : List AV} {H : Hp} {Q : AV → Hp → Prop} (h : W Try.prog w0 c102 (retQ [.t 4] Q) (env0 args) H) : ACalls Try.prog w0 102 args H Q :=
  ACalls.intro2 mixed Try.func102 rfl t102 r102 h

/-- spec.isChain -/
def c103 : CC :=
  .op (some 2) none (.q (.mov (.k (.bool false))))
  (.op (some 3) none (.q (.mov (.k (.int .i64 0))))
  (.block 0
  (.loop
  (.op (some 5) none (.q (.mov (.t 3)))
  (.op (some 6) none (.q (.mov (.t 0)))
  (.op (some 7) none (.q (.len (.t 6)))
  (.op (some 8) none (.q (.bin .lss (.t 5) (.t 7)))
  (.cond (.t 8)
  (.done)
  (.exit 0)
  (.block 1
  (.op (some 4) none (.q (.mov (.k (.int .i64 0))))
  (.block 2
  (.loop
  (.op (some 11) none (.q (.mov (.t 4)))
  (.op (some 12) none (.q (.mov (.t 0)))
  (.op (some 13) none (.q (.len (.t 12)))
  (.op (some 14) none (.q (.bin .lss (.t 11) (.t 13)))
  (.cond (.t 14)
  (.done)
  (.exit 2)
  (.block 3
  (.op (some 17) none (.q (.mov (.t 0)))
  (.op (some 18) none (.q (.mov (.t 3)))
  (.op (some 19) none (.q (.mov (.t 4)))
  (.op (some 20) none (.e (.call (.f 93) [.t 17, .t 18, .t 19]))
  (.op (some 21) none (.q (.not (.t 20)))
  (.op (some 22) none (.q (.mov (.t 21)))
  (.op (some 23) (some (22, true)) (.q (.mov (.t 0)))
  (.op (some 24) (some (22, true)) (.q (.mov (.t 4)))
  (.op (some 25) (some (22, true)) (.q (.mov (.t 3)))
  (.op (some 26) (some (22, true)) (.e (.call (.f 93) [.t 23, .t 24, .t 25]))
  (.op (some 27) (some (22, true)) (.q (.not (.t 26)))
  (.op (some 28) none (.q (.pick (.t 22) (.t 27) (.k (.bool false))))
  (.cond (.t 28)
  (.op (some 2) none (.q (.mov (.k (.bool false))))
  (.ret))
  (.done)
  (.done))))))))))))))
  (.op (some 15) none (.q (.mov (.t 4)))
  (.op (some 16) none (.q (.bin .add (.t 15) (.k (.int .i64 1))))
  (.op (some 4) none (.q (.mov (.t 16)))
  (.done)))))))))))
  (.done)))
  (.op (some 9) none (.q (.mov (.t 3)))
  (.op (some 10) none (.q (.bin .add (.t 9) (.k (.int .i64 1))))
  (.op (some 3) none (.q (.mov (.t 10)))
  (.done)))))))))))
  (.op (some 2) none (.q (.mov (.k (.bool true))))
  (.ret))))
def o103 : Nat → List Nat := fun _ => []
set_option maxRecDepth 100000 in
theorem t103 : (Try.f103.body.map fun c => tr Try.prog o103 Try.f103.ntmps c .done) = some c103 := by kernel_rfl
theorem r103 : trR Try.prog Try.f103.results.toList = some [.t 2] := by kernel_rfl
theorem in103 {w0 : World} {args : List AV} {H : Hp} {Q : AV → Hp → Prop} (h : W Try.prog w0 c103 (retQ [.t 2] Q) (env0 args) H) : ACalls Try.prog w0 103 args H Q :=
  ACalls.intro2 mixed Try.func103 rfl t103 r103 h

/-- spec.stackOf -/
def c104 : CC :=
  .op (some 2) none (.l (.alloc 36 [.nils, .nils]))
  (.op (some 5) none (.e (.call (.f 148) [.k (.int .i64 1)]))
  (.op (some 3) none (.l (.alloc 36 [.nils, .nils]))
  (.op none none (.e (.store 2 (.t 3) (.t 5)))
  (.op (some 6) none (.q (.mov (.t 0)))
  (.op (some 7) none (.q (.len (.t 6)))
  (.op (some 8) none (.q (.bin .sub (.t 7) (.k (.int .i64 1))))
  (.op (some 4) none (.q (.mov (.t 8)))
  (.block 0
  (.loop
  (.op (some 9) none (.q (.mov (.t 4)))
  (.op (some 10) none (.q (.bin .geq (.t 9) (.k (.int .i64 0))))
  (.cond (.t 10)
  (.done)
  (.exit 0)
  (.block 1
  (.draws [⟨0, false, [], (some 13), none, .q (.mov (.t 0))⟩,
    ⟨1, false, [], (some 14), none, .q (.mov (.t 4))⟩,
    ⟨2, false, [], (some 15), none, .q (.idx 1 (.t 13) (.t 14))⟩,
    ⟨3, false, [], (some 16), none, .q (.load none (.t 15))⟩,
    ⟨4, false, [], (some 17), none, .q (.bin .add (.t 16) (.k (.int .i64 1)))⟩,
    ⟨6, true, [], (some 19), none, .q (.load (some 2) (.t 3))⟩,
    ⟨5, false, [], (some 18), none, .e (.call (.f 148) [.t 17])⟩,
    ⟨7, false, [], (some 20), none, .e (.call (.f 149) [.t 18, .t 19])⟩,
    ⟨8, false, [], none, none, .e (.store 2 (.t 3) (.t 20))⟩] (.done))
  (.op (some 11) none (.q (.mov (.t 4)))
  (.op (some 12) none (.q (.bin .sub (.t 11) (.k (.int .i64 1))))
  (.op (some 4) none (.q (.mov (.t 12)))
  (.done)))))))))
  (.op (some 21) none (.q (.load (some 2) (.t 3)))
  (.op none none (.e (.store 2 (.t 2) (.t 21)))
  (.ret)))))))))))
def o104 : Nat → List Nat := fun i => if i = 5 then [0, 1, 2, 3, 4, 6, 5, 7, 8] else []
set_option maxRecDepth 100000 in
theorem t104 : (Try.f104.body.map fun c => tr Try.prog o104 Try.f104.ntmps c .done) = some c104 := by kernel_rfl
theorem r104 : trR Try.prog Try.f104.results.toList = some [.c (some 2) 2] := by kernel_rfl
theorem in104 {w0 : World} {args : List AV} {H : Hp} {Q : AV → Hp → Prop} (h : W Try.prog w0 c104 (retQ [.c (some 2) 2] Q) (env0 args) H) : ACalls Try.prog w0 104 args H Q :=
  ACalls.intro2 mixed Try.func104 rfl t104 r104 h

/-- impl.SizesOf$1 -/
def c105 : CC :=
  .op (some 6) none (.q (.mov (.k (.nils))))
  (.op (some 7) none (.q (.mov (.k (.bool false))))
  (.op (some 11) none (.q (.mov (.t 1)))
  (.op (some 12) none (.q (.bin .eql (.t 11) (.k (.int .i64 0))))
  (.cond (.t 12)
  (.draws [⟨0, false, [], (some 13), none, .q (.mov (.t 0))⟩,
    ⟨1, true, [], (some 14), none, .q (.load (some 2) (.t 2))⟩,
    ⟨2, false, [], (some 15), none, .q (.mov (.t 0))⟩,
    ⟨3, false, [], (some 16), none, .e (.call (.f 107) [.t 15])⟩,
    ⟨4, false, [], (some 17), none, .e (.call (.f 106) [.t 14, .t 16])⟩,
    ⟨5, false, [], (some 6), none, .q (.mov (.t 13))⟩,
    ⟨6, false, [], (some 7), none, .q (.mov (.t 17))⟩] (.ret))
  (.done)
  (.op (some 8) none (.q (.mov (.k (.int .i64 1))))
  (.block 0
  (.loop
  (.op (some 18) none (.q (.mov (.t 8)))
  (.op (some 19) none (.q (.mov (.t 1)))
  (.op (some 20) none (.q (.bin .leq (.t 18) (.t 19)))
  (.cond (.t 20)
  (.done)
  (.exit 0)
  (.block 1
  (.draws [⟨0, true, [], (some 24), none, .q (.load none (.t 3))⟩,
    ⟨1, false, [], (some 25), none, .q (.mov (.t 0))⟩,
    ⟨3, false, [], (some 27), none, .q (.mov (.t 8))⟩,
    ⟨6, false, [], (some 30), none, .q (.mov (.t 1))⟩,
    ⟨7, false, [], (some 31), none, .q (.mov (.t 8))⟩,
    ⟨8, false, [], (some 32), none, .q (.bin .sub (.t 30) (.t 31))⟩,
    ⟨2, false, [4], (some 26), none, .e (.call (.f 108) [.t 25])⟩,
    ⟨4, false, [], (some 28), none, .l (.bsl 3 1 [.int .i64 0] 1 [(0, .t 27)])⟩,
    ⟨5, false, [], (some 29), none, .e (.app 3 1 8 (.t 26) (.t 28))⟩,
    ⟨9, false, [], (some 33), none, .e (.call (.t 24) [.t 29, .t 32])⟩,
    ⟨10, false, [], (some 23), none, .q (.mov (.t 33))⟩,
    ⟨11, false, [], (some 34), none, .q (.ext (.t 23) 0)⟩,
    ⟨12, false, [], (some 35), none, .q (.ext (.t 23) 1)⟩,
    ⟨13, false, [], (some 9), none, .q (.mov (.t 34))⟩,
    ⟨14, false, [], (some 10), none, .q (.mov (.t 35))⟩] (.op (some 36) none (.q (.mov (.t 10)))
  (.cond (.t 36)
  (.op (some 37) none (.q (.mov (.t 9)))
  (.op (some 6) none (.q (.mov (.t 37)))
  (.op (some 7) none (.q (.mov (.k (.bool true))))
  (.ret))))
  (.done)
  (.done))))
  (.op (some 21) none (.q (.mov (.t 8)))
  (.op (some 22) none (.q (.bin .add (.t 21) (.k (.int .i64 1))))
  (.op (some 8) none (.q (.mov (.t 22)))
  (.done))))))))))
  (.op (some 6) none (.q (.mov (.k (.nils))))
  (.op (some 7) none (.q (.mov (.k (.bool false))))
  (.ret)))))))))
def o105 : Nat → List Nat := fun i => if i = 6 then [0, 1, 3, 6, 7, 8, 2, 4, 5, 9, 10, 11, 12, 13, 14] else if i = 2 then [0, 1, 2, 3, 4, 5, 6] else []
set_option maxRecDepth 100000 in
theorem t105 : (Try.f105.body.map fun c => tr Try.prog o105 Try.f105.ntmps c .done) = some c105 := by kernel_rfl
theorem r105 : trR Try.prog Try.f105.results.toList = some [.t 6, .t 7] := by kernel_rfl
theorem in105 {w0 : World} {args : List AV} {H : Hp} {Q : AV → Hp → Prop} (h : W Try.prog w0 c105 (retQ [.t 6, .t 7] Q) (env0 args) H) : ACalls Try.prog w0 105 args H Q :=
  ACalls.intro2 mixed Try.func105 rfl t105 r105 h

/-- impl.sameAlgebra -/
def c106 : CC :=
  .op (some 2) none (.l (.box 36 (.t 0)))
  (.op (some 3) none (.l (.box 36 (.t 1)))
  (.op (some 4) none (.q (.mov (.k (.bool false))))
  (.op (some 5) none (.q (.fld 0 (.t 2)))
  (.op (some 6) none (.q (.load none (.t 5)))
  (.op (some 7) none (.q (.fld 0 (.t 3)))
  (.op (some 8) none (.q (.load none (.t 7)))
  (.op (some 9) none (.e (.call (.f 150) [.t 6, .t 8]))
  (.op (some 10) none (.q (.mov (.t 9)))
  (.op (some 11) (some (10, true)) (.q (.fld 1 (.t 2)))
  (.op (some 12) (some (10, true)) (.q (.load none (.t 11)))
  (.op (some 13) (some (10, true)) (.q (.fld 1 (.t 3)))
  (.op (some 14) (some (10, true)) (.q (.load none (.t 13)))
  (.op (some 15) (some (10, true)) (.e (.call (.f 151) [.t 12, .t 14, .f 150]))
  (.op (some 16) none (.q (.pick (.t 10) (.t 15) (.k (.bool false))))
  (.op (some 4) none (.q (.mov (.t 16)))
  (.ret))))))))))))))))
def o106 : Nat → List Nat := fun _ => []
set_option maxRecDepth 100000 in
theorem t106 : (Try.f106.body.map fun c => tr Try.prog o106 Try.f106.ntmps c .done) = some c106 := by kernel_rfl
theorem r106 : trR Try.prog Try.f106.results.toList = some [.t 4] := by kernel_rfl
theorem in106 {w0 : World} {args : List AV} {H : Hp} {Q : AV → Hp → Prop} (h : W Try.prog w0 c106 (retQ [.t 4] Q) (env0 args) H) : ACalls Try.prog w0 106 args H Q :=
  ACalls.intro2 mixed Try.func106 rfl t106 r106 h

/-- impl.stackOf -/
def c107 : CC :=
  .op (some 2) none (.l (.alloc 36 [.nils, .nils]))
  (.op (some 3) none (.q (.mov (.t 0)))
  (.op (some 4) none (.q (.len (.t 3)))
  (.op (some 5) none (.q (.bin .eql (.t 4) (.k (.int .i64 0))))
  (.cond (.t 5)
  (.op (some 6) none (.e (.call (.f 119) [.k (.int .i64 1)]))
  (.op none none (.e (.store 2 (.t 2) (.t 6)))
  (.ret)))
  (.done)
  (.draws [⟨0, false, [], (some 7), none, .q (.mov (.t 0))⟩,
    ⟨1, false, [], (some 8), none, .q (.idx 1 (.t 7) (.k (.int .i64 0)))⟩,
    ⟨2, false, [], (some 9), none, .q (.load none (.t 8))⟩,
    ⟨3, false, [], (some 10), none, .q (.bin .add (.t 9) (.k (.int .i64 1)))⟩,
    ⟨5, false, [], (some 12), none, .q (.mov (.t 0))⟩,
    ⟨6, false, [], (some 13), none, .q (.slc 1 (.t 12) (some (.k (.int .i64 1))) none)⟩,
    ⟨4, false, [], (some 11), none, .e (.call (.f 119) [.t 10])⟩,
    ⟨7, false, [], (some 14), none, .e (.call (.f 107) [.t 13])⟩,
    ⟨8, false, [], (some 15), none, .e (.call (.f 152) [.t 11, .t 14])⟩,
    ⟨9, false, [], none, none, .e (.store 2 (.t 2) (.t 15))⟩] (.ret))))))
def o107 : Nat → List Nat := fun i => if i = 3 then [0, 1, 2, 3, 5, 6, 4, 7, 8, 9] else []
set_option maxRecDepth 100000 in
theorem t107 : (Try.f107.body.map fun c => tr Try.prog o107 Try.f107.ntmps c .done) = some c107 := by kernel_rfl
theorem r107 : trR Try.prog Try.f107.results.toList = some [.c (some 2) 2] := by kernel_rfl
theorem in107 {w0 : World} {args : List AV} {H : Hp} {Q : AV → Hp → Prop} (h : W Try.prog w0 c107 (retQ [.c (some 2) 2] Q) (env0 args) H) : ACalls Try.prog w0 107 args H Q :=
  ACalls.intro2 mixed Try.func107 rfl t107 r107 h

/-- slices.Clone[[]int,int] -/
def c108 : CC :=
  .op (some 2) none (.q (.mov (.k (.nils))))
  (.op (some 3) none (.q (.mov (.t 0)))
  (.op (some 4) none (.q (.snil false (.t 3) (.k (.nils))))
  (.cond (.t 4)
  (.op (some 2) none (.q (.mov (.k (.nils))))
  (.ret))
  (.done)
  (.op (some 5) none (.l (.bsl 3 1 [.int .i64 0] 0 []))
  (.op (some 6) none (.q (.mov (.t 0)))
  (.op (some 7) none (.e (.app 3 1 8 (.t 5) (.t 6)))
  (.op (some 2) none (.q (.mov (.t 7)))
  (.ret))))))))
def o108 : Nat → List Nat := fun _ => []
set_option maxRecDepth 100000 in
theorem t108 : (Try.f108.body.map fun c => tr Try.prog o108 Try.f108.ntmps c .done) = some c108 := by kernel_rfl
theorem r108 : trR Try.prog Try.f108.results.toList = some [.t 2] := by kernel_rfl
theorem in108 {w0 : World} {args : List AV} {H : Hp} {Q : AV → Hp → Prop} (h : W Try.prog w0 c108 (retQ [.t 2] Q) (env0 args) H) : ACalls Try.prog w0 108 args H Q :=
  ACalls.intro2 mixed Try.func108 rfl t108 r108 h

/-- impl.isPart -/
def c109 : CC :=
  .op (some 2) none (.l (.box 36 (.t 0)))
  (.op (some 4) none (.q (.mov (.k (.bool false))))
  (.op (some 7) none (.q (.mov (.t 1)))
  (.op (some 8) none (.e (.call (.f 89) [.t 7, .k (.int .i64 0)]))
  (.op (some 9) none (.q (.not (.t 8)))
  (.op (some 10) none (.q (.mov (.t 9)))
  (.op (some 11) (some (10, false)) (.q (.mov (.t 1)))
  (.op (some 12) (some (10, false)) (.q (.fld 0 (.t 2)))
  (.op (some 13) (some (10, false)) (.q (.load none (.t 12)))
  (.op (some 14) (some (10, false)) (.q (.len (.t 13)))
  (.op (some 15) (some (10, false)) (.q (.bin .sub (.t 14) (.k (.int .i64 1))))
  (.op (some 16) (some (10, false)) (.e (.call (.f 89) [.t 11, .t 15]))
  (.op (some 17) (some (10, false)) (.q (.not (.t 16)))
  (.op (some 18) none (.q (.pick (.t 10) (.k (.bool true)) (.t 17)))
  (.cond (.t 18)
  (.op (some 4) none (.q (.mov (.k (.bool false))))
  (.ret))
  (.done)
  (.op (some 19) none (.q (.fld 0 (.t 2)))
  (.op (some 20) none (.q (.load none (.t 19)))
  (.op (some 21) none (.q (.len (.t 20)))
  (.op (some 22) none (.q (.mov (.k (.int .i64 0))))
  (.block 0
  (.loop
  (.op (some 23) none (.q (.bin .lss (.t 22) (.t 21)))
  (.cond (.t 23)
  (.done)
  (.exit 0)
  (.block 1
  (.op (some 24) none (.q (.mov (.t 22)))
  (.op (some 5) none (.q (.mov (.t 24)))
  (.op (some 25) none (.q (.fld 0 (.t 2)))
  (.op (some 26) none (.q (.load none (.t 25)))
  (.op (some 27) none (.q (.len (.t 26)))
  (.op (some 28) none (.q (.mov (.k (.int .i64 0))))
  (.block 2
  (.loop
  (.op (some 29) none (.q (.bin .lss (.t 28) (.t 27)))
  (.cond (.t 29)
  (.done)
  (.exit 2)
  (.block 3
  (.op (some 30) none (.q (.mov (.t 28)))
  (.op (some 6) none (.q (.mov (.t 30)))
  (.op (some 31) none (.q (.mov (.t 1)))
  (.op (some 32) none (.q (.mov (.t 5)))
  (.op (some 33) none (.e (.call (.f 89) [.t 31, .t 32]))
  (.op (some 34) none (.q (.not (.t 33)))
  (.op (some 35) none (.q (.mov (.t 34)))
  (.op (some 36) (some (35, false)) (.q (.mov (.t 1)))
  (.op (some 37) (some (35, false)) (.q (.mov (.t 6)))
  (.op (some 38) (some (35, false)) (.e (.call (.f 89) [.t 36, .t 37]))
  (.op (some 39) (some (35, false)) (.q (.not (.t 38)))
  (.op (some 40) none (.q (.pick (.t 35) (.k (.bool true)) (.t 39)))
  (.cond (.t 40)
  (.exit 3)
  (.done)
  (.op (some 41) none (.q (.mov (.t 1)))
  (.op (some 42) none (.q (.fld 1 (.t 2)))
  (.op (some 43) none (.q (.load none (.t 42)))
  (.op (some 44) none (.q (.mov (.t 5)))
  (.op (some 45) none (.q (.idx 1 (.t 43) (.t 44)))
  (.op (some 46) none (.q (.load none (.t 45)))
  (.op (some 47) none (.q (.mov (.t 6)))
  (.op (some 48) none (.q (.idx 1 (.t 46) (.t 47)))
  (.op (some 49) none (.q (.load none (.t 48)))
  (.op (some 50) none (.e (.call (.f 89) [.t 41, .t 49]))
  (.op (some 51) none (.q (.not (.t 50)))
  (.op (some 52) none (.q (.mov (.t 51)))
  (.op (some 53) (some (52, false)) (.q (.mov (.t 1)))
  (.op (some 54) (some (52, false)) (.q (.load (some 2) (.t 2)))
  (.op (some 55) (some (52, false)) (.q (.mov (.t 5)))
  (.op (some 56) (some (52, false)) (.q (.mov (.t 6)))
  (.op (some 57) (some (52, false)) (.e (.call (.f 90) [.t 54, .t 55, .t 56]))
  (.op (some 58) (some (52, false)) (.e (.call (.f 89) [.t 53, .t 57]))
  (.op (some 59) (some (52, false)) (.q (.not (.t 58)))
  (.op (some 60) none (.q (.pick (.t 52) (.k (.bool true)) (.t 59)))
  (.op (some 61) none (.q (.mov (.t 60)))
  (.op (some 62) (some (61, false)) (.q (.mov (.t 1)))
  (.op (some 63) (some (61, false)) (.q (.fld 0 (.t 2)))
  (.op (some 64) (some (61, false)) (.q (.load none (.t 63)))
  (.op (some 65) (some (61, false)) (.q (.mov (.t 5)))
  (.op (some 66) (some (61, false)) (.q (.mov (.t 6)))
  (.op (some 67) (some (61, false)) (.e (.call (.f 153) [.t 64, .t 65, .t 66]))
  (.op (some 68) (some (61, false)) (.e (.call (.f 89) [.t 62, .t 67]))
  (.op (some 69) (some (61, false)) (.q (.not (.t 68)))
  (.op (some 70) none (.q (.pick (.t 61) (.k (.bool true)) (.t 69)))
  (.op (some 71) none (.q (.mov (.t 70)))
  (.op (some 72) (some (71, false)) (.q (.mov (.t 1)))
  (.op (some 73) (some (71, false)) (.q (.fld 0 (.t 2)))
  (.op (some 74) (some (71, false)) (.q (.load none (.t 73)))
  (.op (some 75) (some (71, false)) (.q (.mov (.t 5)))
  (.op (some 76) (some (71, false)) (.q (.mov (.t 6)))
  (.op (some 77) (some (71, false)) (.e (.call (.f 114) [.t 74, .t 75, .t 76]))
  (.op (some 78) (some (71, false)) (.e (.call (.f 89) [.t 72, .t 77]))
  (.op (some 79) (some (71, false)) (.q (.not (.t 78)))
  (.op (some 80) none (.q (.pick (.t 71) (.k (.bool true)) (.t 79)))
  (.cond (.t 80)
  (.op (some 4) none (.q (.mov (.k (.bool false))))
  (.ret))
  (.done)
  (.done)))))))))))))))))))))))))))))))))))))))))))))))))))))))
  (.op (some 81) none (.q (.bin .add (.t 28) (.k (.int .i64 1))))
  (.op (some 28) none (.q (.mov (.t 81)))
  (.done)))))))
  (.done))))))))
  (.op (some 82) none (.q (.bin .add (.t 22) (.k (.int .i64 1))))
  (.op (some 22) none (.q (.mov (.t 82)))
  (.done)))))))
  (.op (some 4) none (.q (.mov (.k (.bool true))))
  (.ret)))))))))))))))))))))
def o109 : Nat → List Nat := fun _ => []
set_option maxRecDepth 100000 in
theorem t109 : (Try.f109.body.map fun c => tr Try.prog o109 Try.f109.ntmps c .done) = some c109 := by kernel_rfl
theorem r109 : trR Try.prog Try.f109.results.toList = some [.t 4] := by kernel_rfl
theorem in109 {w0 : World} {args : List AV} {H : Hp} {Q : AV → Hp → Prop} (h : W Try.prog w0 c109 (retQ [.t 4] Q) (env0 args) H) : ACalls Try.prog w0 109 args H Q :=
  ACalls.intro2 mixed Try.func109 rfl t109 r109 h

/-- spec.isPart -/
def c110 : CC :=
  .op (some 2) none (.l (.box 36 (.t 0)))
  (.op (some 4) none (.q (.mov (.k (.bool false))))
  (.op (some 8) none (.q (.fld 0 (.t 2)))
  (.op (some 9) none (.q (.load none (.t 8)))
  (.op (some 10) none (.q (.len (.t 9)))
  (.op (some 5) none (.q (.mov (.t 10)))
  (.op (some 11) none (.q (.mov (.t 1)))
  (.op (some 12) none (.q (.mov (.t 5)))
  (.op (some 13) none (.e (.call (.f 82) [.t 12]))
  (.op (some 14) none (.q (.bin .sub (.t 13) (.k (.int .i64 1))))
  (.op (some 15) none (.e (.call (.f 66) [.t 11, .k (.int .i64 0), .t 14]))
  (.op (some 16) none (.q (.not (.t 15)))
  (.op (some 17) none (.q (.mov (.t 16)))
  (.op (some 18) (some (17, false)) (.q (.mov (.t 1)))
  (.op (some 19) (some (17, false)) (.e (.call (.f 138) [.t 18, .k (.int .i64 0)]))
  (.op (some 20) (some (17, false)) (.q (.bin .eql (.t 19) (.k (.int .i64 0))))
  (.op (some 21) none (.q (.pick (.t 17) (.k (.bool true)) (.t 20)))
  (.op (some 22) none (.q (.mov (.t 21)))
  (.op (some 23) (some (22, false)) (.q (.mov (.t 1)))
  (.op (some 24) (some (22, false)) (.q (.mov (.t 5)))
  (.op (some 25) (some (22, false)) (.q (.bin .sub (.t 24) (.k (.int .i64 1))))
  (.op (some 26) (some (22, false)) (.e (.call (.f 138) [.t 23, .t 25]))
  (.op (some 27) (some (22, false)) (.q (.bin .eql (.t 26) (.k (.int .i64 0))))
  (.op (some 28) none (.q (.pick (.t 22) (.k (.bool true)) (.t 27)))
  (.cond (.t 28)
  (.op (some 4) none (.q (.mov (.k (.bool false))))
  (.ret))
  (.done)
  (.op (some 6) none (.q (.mov (.k (.int .i64 0))))
  (.block 0
  (.loop
  (.op (some 29) none (.q (.mov (.t 6)))
  (.op (some 30) none (.q (.mov (.t 5)))
  (.op (some 31) none (.q (.bin .lss (.t 29) (.t 30)))
  (.cond (.t 31)
  (.done)
  (.exit 0)
  (.block 1
  (.op (some 7) none (.q (.mov (.k (.int .i64 0))))
  (.block 2
  (.loop
  (.op (some 34) none (.q (.mov (.t 7)))
  (.op (some 35) none (.q (.mov (.t 5)))
  (.op (some 36) none (.q (.bin .lss (.t 34) (.t 35)))
  (.cond (.t 36)
  (.done)
  (.exit 2)
  (.block 3
  (.op (some 39) none (.q (.mov (.t 1)))
  (.op (some 40) none (.q (.mov (.t 6)))
  (.op (some 41) none (.e (.call (.f 138) [.t 39, .t 40]))
  (.op (some 42) none (.q (.bin .eql (.t 41) (.k (.int .i64 1))))
  (.op (some 43) none (.q (.mov (.t 42)))
  (.op (some 44) (some (43, true)) (.q (.mov (.t 1)))
  (.op (some 45) (some (43, true)) (.q (.mov (.t 7)))
  (.op (some 46) (some (43, true)) (.e (.call (.f 138) [.t 44, .t 45]))
  (.op (some 47) (some (43, true)) (.q (.bin .eql (.t 46) (.k (.int .i64 1))))
  (.op (some 48) none (.q (.pick (.t 43) (.t 47) (.k (.bool false))))
  (.op (some 49) none (.q (.mov (.t 48)))
  (.op (some 50) (some (49, true)) (.q (.mov (.t 1)))
  (.op (some 51) (some (49, true)) (.q (.fld 1 (.t 2)))
  (.op (some 52) (some (49, true)) (.q (.load none (.t 51)))
  (.op (some 53) (some (49, true)) (.q (.mov (.t 6)))
  (.op (some 54) (some (49, true)) (.q (.idx 1 (.t 52) (.t 53)))
  (.op (some 55) (some (49, true)) (.q (.load none (.t 54)))
  (.op (some 56) (some (49, true)) (.q (.mov (.t 7)))
  (.op (some 57) (some (49, true)) (.q (.idx 1 (.t 55) (.t 56)))
  (.op (some 58) (some (49, true)) (.q (.load none (.t 57)))
  (.op (some 59) (some (49, true)) (.e (.call (.f 138) [.t 50, .t 58]))
  (.op (some 60) (some (49, true)) (.q (.bin .eql (.t 59) (.k (.int .i64 0))))
  (.op (some 61) (some (49, true)) (.q (.mov (.t 60)))
  (.op (some 62) (some (61, false)) (.q (.mov (.t 1)))
  (.op (some 63) (some (61, false)) (.q (.load (some 2) (.t 2)))
  (.op (some 64) (some (61, false)) (.q (.mov (.t 6)))
  (.op (some 65) (some (61, false)) (.q (.mov (.t 7)))
  (.op (some 66) (some (61, false)) (.e (.call (.f 124) [.t 63, .t 64, .t 65]))
  (.op (some 67) (some (61, false)) (.e (.call (.f 138) [.t 62, .t 66]))
  (.op (some 68) (some (61, false)) (.q (.bin .eql (.t 67) (.k (.int .i64 0))))
  (.op (some 69) (some (49, true)) (.q (.pick (.t 61) (.k (.bool true)) (.t 68)))
  (.op (some 70) (some (49, true)) (.q (.mov (.t 69)))
  (.op (some 71) (some (70, false)) (.q (.mov (.t 1)))
  (.op (some 72) (some (70, false)) (.q (.fld 0 (.t 2)))
  (.op (some 73) (some (70, false)) (.q (.load none (.t 72)))
  (.op (some 74) (some (70, false)) (.q (.mov (.t 6)))
  (.op (some 75) (some (70, false)) (.q (.mov (.t 7)))
  (.op (some 76) (some (70, false)) (.e (.call (.f 125) [.t 73, .t 74, .t 75]))
  (.op (some 77) (some (70, false)) (.e (.call (.f 138) [.t 71, .t 76]))
  (.op (some 78) (some (70, false)) (.q (.bin .eql (.t 77) (.k (.int .i64 0))))
  (.op (some 79) (some (49, true)) (.q (.pick (.t 70) (.k (.bool true)) (.t 78)))
  (.op (some 80) (some (49, true)) (.q (.mov (.t 79)))
  (.op (some 81) (some (80, false)) (.q (.mov (.t 1)))
  (.op (some 82) (some (80, false)) (.q (.fld 0 (.t 2)))
  (.op (some 83) (some (80, false)) (.q (.load none (.t 82)))
  (.op (some 84) (some (80, false)) (.q (.mov (.t 6)))
  (.op (some 85) (some (80, false)) (.q (.mov (.t 7)))
  (.op (some 86) (some (80, false)) (.e (.call (.f 123) [.t 83, .t 84, .t 85]))
  (.op (some 87) (some (80, false)) (.e (.call (.f 138) [.t 81, .t 86]))
  (.op (some 88) (some (80, false)) (.q (.bin .eql (.t 87) (.k (.int .i64 0))))
  (.op (some 89) (some (49, true)) (.q (.pick (.t 80) (.k (.bool true)) (.t 88)))
  (.op (some 90) none (.q (.pick (.t 49) (.t 89) (.k (.bool false))))
  (.cond (.t 90)
  (.op (some 4) none (.q (.mov (.k (.bool false))))
  (.ret))
  (.done)
  (.done))))))))))))))))))))))))))))))))))))))))))))))))))))))
  (.op (some 37) none (.q (.mov (.t 7)))
  (.op (some 38) none (.q (.bin .add (.t 37) (.k (.int .i64 1))))
  (.op (some 7) none (.q (.mov (.t 38)))
  (.done))))))))))
  (.done)))
  (.op (some 32) none (.q (.mov (.t 6)))
  (.op (some 33) none (.q (.bin .add (.t 32) (.k (.int .i64 1))))
  (.op (some 6) none (.q (.mov (.t 33)))
  (.done))))))))))
  (.op (some 4) none (.q (.mov (.k (.bool true))))
  (.ret))))))))))))))))))))))))))))
def o110 : Nat → List Nat := fun _ => []
set_option maxRecDepth 100000 in
theorem t110 : (Try.f110.body.map fun c => tr Try.prog o110 Try.f110.ntmps c .done) = some c110 := by kernel_rfl
theorem r110 : trR Try.prog Try.f110.results.toList = some [.t 4] := by kernel_rfl
theorem in110 {w0 : World} {args : List AV} {H : Hp} {Q : AV → Hp → Prop} (h : W Try.prog w0 c110 (retQ [.t 4] Q) (env0 args) H) : ACalls Try.prog w0 110 args H Q :=
  ACalls.intro2 mixed Try.func110 rfl t110 r110 h

/-- impl.ValidLattice -/
def c111 : CC :=
  .op (some 2) none (.q (.mov (.k (.bool false))))
  (.op (some 9) none (.q (.mov (.t 0)))
  (.op (some 10) none (.q (.len (.t 9)))
  (.op (some 3) none (.q (.mov (.t 10)))
  (.op (some 11) none (.q (.mov (.t 3)))
  (.op (some 12) none (.e (.call (.f 62) [.t 11, .k (.int .i64 1), .k (.int .i64 6)]))
  (.op (some 13) none (.q (.not (.t 12)))
  (.cond (.t 13)
  (.op (some 2) none (.q (.mov (.k (.bool false))))
  (.ret))
  (.done)
  (.op (some 14) none (.q (.mov (.t 0)))
  (.op (some 15) none (.q (.len (.t 14)))
  (.op (some 16) none (.q (.mov (.k (.int .i64 0))))
  (.block 0
  (.loop
  (.op (some 17) none (.q (.bin .lss (.t 16) (.t 15)))
  (.cond (.t 17)
  (.done)
  (.exit 0)
  (.block 1
  (.op (some 18) none (.q (.mov (.t 16)))
  (.op (some 19) none (.q (.idx 1 (.t 14) (.t 16)))
  (.op (some 20) none (.q (.load none (.t 19)))
  (.op (some 4) none (.q (.mov (.t 18)))
  (.op (some 5) none (.q (.mov (.t 20)))
  (.op (some 21) none (.q (.mov (.t 5)))
  (.op (some 22) none (.q (.mov (.t 3)))
  (.op (some 23) none (.q (.bin .shl (.k (.int .i64 1)) (.t 22)))
  (.op (some 24) none (.q (.bin .sub (.t 23) (.k (.int .i64 1))))
  (.op (some 25) none (.e (.call (.f 62) [.t 21, .k (.int .i64 0), .t 24]))
  (.op (some 26) none (.q (.not (.t 25)))
  (.op (some 27) none (.q (.mov (.t 26)))
  (.op (some 28) (some (27, false)) (.q (.mov (.t 0)))
  (.op (some 29) (some (27, false)) (.q (.mov (.t 4)))
  (.op (some 30) (some (27, false)) (.q (.mov (.t 4)))
  (.op (some 31) (some (27, false)) (.e (.call (.f 96) [.t 28, .t 29, .t 30]))
  (.op (some 32) (some (27, false)) (.q (.not (.t 31)))
  (.op (some 33) none (.q (.pick (.t 27) (.k (.bool true)) (.t 32)))
  (.op (some 34) none (.q (.mov (.t 33)))
  (.op (some 35) (some (34, false)) (.q (.mov (.t 0)))
  (.op (some 36) (some (34, false)) (.q (.mov (.t 4)))
  (.op (some 37) (some (34, false)) (.q (.mov (.t 3)))
  (.op (some 38) (some (34, false)) (.q (.bin .sub (.t 37) (.k (.int .i64 1))))
  (.op (some 39) (some (34, false)) (.e (.call (.f 96) [.t 35, .t 36, .t 38]))
  (.op (some 40) (some (34, false)) (.q (.not (.t 39)))
  (.op (some 41) none (.q (.pick (.t 34) (.k (.bool true)) (.t 40)))
  (.op (some 42) none (.q (.mov (.t 41)))
  (.op (some 43) (some (42, false)) (.q (.mov (.t 0)))
  (.op (some 44) (some (42, false)) (.q (.mov (.t 4)))
  (.op (some 45) (some (42, false)) (.e (.call (.f 96) [.t 43, .k (.int .i64 0), .t 44]))
  (.op (some 46) (some (42, false)) (.q (.not (.t 45)))
  (.op (some 47) none (.q (.pick (.t 42) (.k (.bool true)) (.t 46)))
  (.cond (.t 47)
  (.op (some 2) none (.q (.mov (.k (.bool false))))
  (.ret))
  (.done)
  (.op (some 48) none (.q (.mov (.t 0)))
  (.op (some 49) none (.q (.len (.t 48)))
  (.op (some 50) none (.q (.mov (.k (.int .i64 0))))
  (.block 2
  (.loop
  (.op (some 51) none (.q (.bin .lss (.t 50) (.t 49)))
  (.cond (.t 51)
  (.done)
  (.exit 2)
  (.block 3
  (.op (some 52) none (.q (.mov (.t 50)))
  (.op (some 6) none (.q (.mov (.t 52)))
  (.op (some 53) none (.q (.mov (.t 0)))
  (.op (some 54) none (.q (.mov (.t 4)))
  (.op (some 55) none (.q (.mov (.t 6)))
  (.op (some 56) none (.e (.call (.f 96) [.t 53, .t 54, .t 55]))
  (.op (some 57) none (.q (.mov (.t 56)))
  (.op (some 58) (some (57, true)) (.q (.mov (.t 6)))
  (.op (some 59) (some (57, true)) (.q (.mov (.t 4)))
  (.op (some 60) (some (57, true)) (.q (.bin .neq (.t 58) (.t 59)))
  (.op (some 61) (some (57, true)) (.q (.mov (.t 60)))
  (.op (some 62) (some (61, true)) (.q (.mov (.t 0)))
  (.op (some 63) (some (61, true)) (.q (.mov (.t 6)))
  (.op (some 64) (some (61, true)) (.q (.mov (.t 4)))
  (.op (some 65) (some (61, true)) (.e (.call (.f 96) [.t 62, .t 63, .t 64]))
  (.op (some 66) (some (57, true)) (.q (.pick (.t 61) (.t 65) (.k (.bool false))))
  (.op (some 67) (some (57, true)) (.q (.mov (.t 66)))
  (.op (some 68) (some (67, false)) (.q (.mov (.t 0)))
  (.op (some 69) (some (67, false)) (.q (.mov (.t 6)))
  (.op (some 70) (some (67, false)) (.q (.idx 1 (.t 68) (.t 69)))
  (.op (some 71) (some (67, false)) (.q (.load none (.t 70)))
  (.op (some 72) (some (67, false)) (.q (.mov (.t 5)))
  (.op (some 73) (some (67, false)) (.q (.bin .andNot (.t 71) (.t 72)))
  (.op (some 74) (some (67, false)) (.q (.bin .neq (.t 73) (.k (.int .i64 0))))
  (.op (some 75) (some (57, true)) (.q (.pick (.t 67) (.k (.bool true)) (.t 74)))
  (.op (some 76) none (.q (.pick (.t 57) (.t 75) (.k (.bool false))))
  (.cond (.t 76)
  (.op (some 2) none (.q (.mov (.k (.bool false))))
  (.ret))
  (.done)
  (.done))))))))))))))))))))))))))))
  (.op (some 77) none (.q (.bin .add (.t 50) (.k (.int .i64 1))))
  (.op (some 50) none (.q (.mov (.t 77)))
  (.done)))))))
  (.done))))))))))))))))))))))))))))))))))))))
  (.op (some 78) none (.q (.bin .add (.t 16) (.k (.int .i64 1))))
  (.op (some 16) none (.q (.mov (.t 78)))
  (.done)))))))
  (.op (some 79) none (.q (.mov (.t 0)))
  (.op (some 80) none (.q (.len (.t 79)))
  (.op (some 81) none (.q (.mov (.k (.int .i64 0))))
  (.block 4
  (.loop
  (.op (some 82) none (.q (.bin .lss (.t 81) (.t 80)))
  (.cond (.t 82)
  (.done)
  (.exit 4)
  (.block 5
  (.op (some 83) none (.q (.mov (.t 81)))
  (.op (some 7) none (.q (.mov (.t 83)))
  (.op (some 84) none (.q (.mov (.t 0)))
  (.op (some 85) none (.q (.len (.t 84)))
  (.op (some 86) none (.q (.mov (.k (.int .i64 0))))
  (.block 6
  (.loop
  (.op (some 87) none (.q (.bin .lss (.t 86) (.t 85)))
  (.cond (.t 87)
  (.done)
  (.exit 6)
  (.block 7
  (.op (some 88) none (.q (.mov (.t 86)))
  (.op (some 8) none (.q (.mov (.t 88)))
  (.op (some 89) none (.q (.mov (.t 0)))
  (.op (some 90) none (.q (.mov (.t 7)))
  (.op (some 91) none (.q (.mov (.t 8)))
  (.op (some 92) none (.e (.call (.f 153) [.t 89, .t 90, .t 91]))
  (.op (some 93) none (.q (.bin .lss (.t 92) (.k (.int .i64 0))))
  (.op (some 94) none (.q (.mov (.t 93)))
  (.op (some 95) (some (94, false)) (.q (.mov (.t 0)))
  (.op (some 96) (some (94, false)) (.q (.mov (.t 7)))
  (.op (some 97) (some (94, false)) (.q (.mov (.t 8)))
  (.op (some 98) (some (94, false)) (.e (.call (.f 114) [.t 95, .t 96, .t 97]))
  (.op (some 99) (some (94, false)) (.q (.bin .lss (.t 98) (.k (.int .i64 0))))
  (.op (some 100) none (.q (.pick (.t 94) (.k (.bool true)) (.t 99)))
  (.cond (.t 100)
  (.op (some 2) none (.q (.mov (.k (.bool false))))
  (.ret))
  (.done)
  (.done))))))))))))))))
  (.op (some 101) none (.q (.bin .add (.t 86) (.k (.int .i64 1))))
  (.op (some 86) none (.q (.mov (.t 101)))
  (.done)))))))
  (.done)))))))
  (.op (some 102) none (.q (.bin .add (.t 81) (.k (.int .i64 1))))
  (.op (some 81) none (.q (.mov (.t 102)))
  (.done)))))))
  (.op (some 2) none (.q (.mov (.k (.bool true))))
  (.ret)))))))))))))))))
def o111 : Nat → List Nat := fun _ => []
set_option maxRecDepth 100000 in
theorem t111 : (Try.f111.body.map fun c => tr Try.prog o111 Try.f111.ntmps c .done) = some c111 := by kernel_rfl
theorem r111 : trR Try.prog Try.f111.results.toList = some [.t 2] := by kernel_rfl
theorem in111 {w0 : World} {args : List AV} {H : Hp} {Q : AV → Hp → Prop} (h : W Try.prog w0 c111 (retQ [.t 2] Q) (env0 args) H) : ACalls Try.prog w0 111 args H Q :=
  ACalls.intro2 mixed Try.func111 rfl t111 r111 h

/-- slices.ContainsFunc[[]int,int] -/
def c112 : CC :=
  .op (some 4) none (.q (.mov (.k (.bool false))))
  (.op (some 5) none (.q (.mov (.t 0)))
  (.op (some 6) none (.q (.mov (.t 1)))
  (.op (some 7) none (.e (.call (.f 154) [.t 5, .t 6]))
  (.op (some 8) none (.q (.bin .geq (.t 7) (.k (.int .i64 0))))
  (.op (some 4) none (.q (.mov (.t 8)))
  (.ret))))))
def o112 : Nat → List Nat := fun _ => []
set_option maxRecDepth 100000 in
theorem t112 : (Try.f112.body.map fun c => tr Try.prog o112 Try.f112.ntmps c .done) = some c112 := by kernel_rfl
theorem r112 : trR Try.prog Try.f112.results.toList = some [.t 4] := by kernel_rfl
theorem in112 {w0 : World} {args : List AV} {H : Hp} {Q : AV → Hp → Prop} (h : W Try.prog w0 c112 (retQ [.t 4] Q) (env0 args) H) : ACalls Try.prog w0 112 args H Q :=
  ACalls.intro2 mixed Try.func112 rfl t112 r112 h

/-- impl.ValidAlgebra$1 -/
def c113 : CC :=
  .op (some 3) none (.q (.mov (.k (.bool false))))
  (.op (some 4) none (.q (.mov (.t 0)))
  (.op (some 5) none (.q (.load none (.t 1)))
  (.op (some 6) none (.q (.bin .sub (.t 5) (.k (.int .i64 1))))
  (.op (some 7) none (.e (.call (.f 62) [.t 4, .k (.int .i64 0), .t 6]))
  (.op (some 8) none (.q (.not (.t 7)))
  (.op (some 3) none (.q (.mov (.t 8)))
  (.ret)))))))
def o113 : Nat → List Nat := fun _ => []
set_option maxRecDepth 100000 in
theorem t113 : (Try.f113.body.map fun c => tr Try.prog o113 Try.f113.ntmps c .done) = some c113 := by kernel_rfl
theorem r113 : trR Try.prog Try.f113.results.toList = some [.t 3] := by kernel_rfl
theorem in113 {w0 : World} {args : List AV} {H : Hp} {Q : AV → Hp → Prop} (h : W Try.prog w0 c113 (retQ [.t 3] Q) (env0 args) H) : ACalls Try.prog w0 113 args H Q :=
  ACalls.intro2 mixed Try.func113 rfl t113 r113 h

/-- impl.join -/
def c114 : CC :=
  .op (some 6) none (.q (.mov (.k (.int .i64 0))))
  (.draws [⟨0, false, [], (some 9), none, .q (.mov (.t 0))⟩,
    ⟨1, false, [], (some 10), none, .q (.mov (.t 1))⟩,
    ⟨2, false, [], (some 11), none, .q (.idx 1 (.t 9) (.t 10))⟩,
    ⟨3, false, [], (some 12), none, .q (.load none (.t 11))⟩,
    ⟨4, false, [], (some 13), none, .q (.mov (.t 0))⟩,
    ⟨5, false, [], (some 14), none, .q (.mov (.t 2))⟩,
    ⟨6, false, [], (some 15), none, .q (.idx 1 (.t 13) (.t 14))⟩,
    ⟨7, false, [], (some 16), none, .q (.load none (.t 15))⟩,
    ⟨8, false, [], (some 17), none, .q (.bin .and (.t 12) (.t 16))⟩,
    ⟨9, false, [], (some 7), none, .q (.mov (.t 17))⟩] (.op (some 18) none (.q (.mov (.t 0)))
  (.op (some 19) none (.q (.len (.t 18)))
  (.op (some 20) none (.q (.mov (.k (.int .i64 0))))
  (.block 0
  (.loop
  (.op (some 21) none (.q (.bin .lss (.t 20) (.t 19)))
  (.cond (.t 21)
  (.done)
  (.exit 0)
  (.block 1
  (.op (some 22) none (.q (.mov (.t 20)))
  (.op (some 8) none (.q (.mov (.t 22)))
  (.op (some 23) none (.q (.mov (.t 7)))
  (.op (some 24) none (.q (.mov (.t 8)))
  (.op (some 25) none (.q (.bin .shr (.t 23) (.t 24)))
  (.op (some 26) none (.q (.bin .rem (.t 25) (.k (.int .i64 2))))
  (.op (some 27) none (.q (.bin .eql (.t 26) (.k (.int .i64 1))))
  (.op (some 28) none (.q (.mov (.t 27)))
  (.op (some 29) (some (28, true)) (.q (.mov (.t 7)))
  (.op (some 30) (some (28, true)) (.q (.mov (.t 0)))
  (.op (some 31) (some (28, true)) (.q (.mov (.t 8)))
  (.op (some 32) (some (28, true)) (.q (.idx 1 (.t 30) (.t 31)))
  (.op (some 33) (some (28, true)) (.q (.load none (.t 32)))
  (.op (some 34) (some (28, true)) (.q (.bin .andNot (.t 29) (.t 33)))
  (.op (some 35) (some (28, true)) (.q (.bin .eql (.t 34) (.k (.int .i64 0))))
  (.op (some 36) none (.q (.pick (.t 28) (.t 35) (.k (.bool false))))
  (.cond (.t 36)
  (.op (some 37) none (.q (.mov (.t 8)))
  (.op (some 6) none (.q (.mov (.t 37)))
  (.ret)))
  (.done)
  (.done))))))))))))))))))
  (.op (some 38) none (.q (.bin .add (.t 20) (.k (.int .i64 1))))
  (.op (some 20) none (.q (.mov (.t 38)))
  (.done)))))))
  (.op (some 6) none (.q (.mov (.k (.int .i64 (-1)))))
  (.ret)))))))
def o114 : Nat → List Nat := fun i => if i = 1 then [0, 1, 2, 3, 4, 5, 6, 7, 8, 9] else []
set_option maxRecDepth 100000 in
theorem t114 : (Try.f114.body.map fun c => tr Try.prog o114 Try.f114.ntmps c .done) = some c114 := by kernel_rfl
theorem r114 : trR Try.prog Try.f114.results.toList = some [.t 6] := by kernel_rfl
theorem in114 {w0 : World} {args : List AV} {H : Hp} {Q : AV → Hp → Prop} (h : W Try.prog w0 c114 (retQ [.t 6] Q) (env0 args) H) : ACalls Try.prog w0 114 args H Q :=
  ACalls.intro2 mixed Try.func114 rfl t114 r114 h

/-- impl.RefuteTerm$1 -/
def c115 : CC :=
  .draws [⟨0, false, [], (some 6), none, .q (.load none (.t 1))⟩,
    ⟨1, false, [], (some 7), none, .q (.not (.t 6))⟩,
    ⟨2, false, [], (some 8), none, .q (.mov (.t 7))⟩,
    ⟨3, false, [], (some 9), (some (8, true)), .q (.load (some 2) (.t 2))⟩,
    ⟨4, false, [], (some 10), (some (8, true)), .q (.load none (.t 3))⟩,
    ⟨5, false, [], (some 11), (some (8, true)), .q (.mov (.t 0))⟩,
    ⟨7, false, [], (some 13), (some (8, true)), .q (.fld 0 (.t 2))⟩,
    ⟨8, true, [], (some 14), (some (8, true)), .q (.load none (.t 13))⟩,
    ⟨9, false, [], (some 15), (some (8, true)), .q (.len (.t 14))⟩,
    ⟨10, false, [], (some 16), (some (8, true)), .q (.bin .sub (.t 15) (.k (.int .i64 1)))⟩,
    ⟨6, false, [], (some 12), (some (8, true)), .e (.call (.f 80) [.t 9, .t 10, .t 11])⟩,
    ⟨11, false, [], (some 17), (some (8, true)), .q (.bin .neq (.t 12) (.t 16))⟩,
    ⟨12, false, [], (some 18), none, .q (.pick (.t 8) (.t 17) (.k (.bool false)))⟩] (.cond (.t 18)
  (.op (some 19) none (.q (.mov (.t 0)))
  (.op (some 20) none (.e (.call (.f 108) [.t 19]))
  (.op none none (.e (.store 1 (.t 4) (.t 20)))
  (.op none none (.e (.store 1 (.t 1) (.k (.bool true))))
  (.done)))))
  (.done)
  (.done))
def o115 : Nat → List Nat := fun i => if i = 0 then [0, 1, 2, 3, 4, 5, 7, 8, 9, 10, 6, 11, 12] else []
set_option maxRecDepth 100000 in
theorem t115 : (Try.f115.body.map fun c => tr Try.prog o115 Try.f115.ntmps c .done) = some c115 := by kernel_rfl
theorem r115 : trR Try.prog Try.f115.results.toList = some [] := by kernel_rfl
theorem in115 {w0 : World} {args : List AV} {H : Hp} {Q : AV → Hp → Prop} (h : W Try.prog w0 c115 (retQ [] Q) (env0 args) H) : ACalls Try.prog w0 115 args H Q :=
  ACalls.intro2 mixed Try.func115 rfl t115 r115 h

/-- (*spec.reader).of -/
def c116 : CC :=
  .op (some 4) none (.q (.mov (.k (.str ⟨#[]⟩))))
  (.op (some 5) none (.q (.mov (.t 1)))
  (.op (some 6) none (.q (.mov (.t 0)))
  (.op (some 7) none (.q (.mov (.t 1)))
  (.op (some 8) none (.q (.len (.t 7)))
  (.op (some 9) none (.e (.call (.f 117) [.t 6, .t 8]))
  (.op (some 10) none (.q (.idx 1 (.t 5) (.t 9)))
  (.op (some 11) none (.q (.load none (.t 10)))
  (.op (some 4) none (.q (.mov (.t 11)))
  (.ret)))))))))
def o116 : Nat → List Nat := fun _ => []
set_option maxRecDepth 100000 in
theorem t116 : (Try.f116.body.map fun c => tr Try.prog o116 Try.f116.ntmps c .done) = some c116 := by kernel_rfl
theorem r116 : trR Try.prog Try.f116.results.toList = some [.t 4] := by kernel_rfl
theorem in116 {w0 : World} {args : List AV} {H : Hp} {Q : AV → Hp → Prop} (h : W Try.prog w0 c116 (retQ [.t 4] Q) (env0 args) H) : ACalls Try.prog w0 116 args H Q :=
  ACalls.intro2 mixed Try.func116 rfl t116 r116 h

/-- (*spec.reader).pick -/
def c117 : CC :=
  .op (some 4) none (.q (.mov (.k (.int .i64 0))))
  (.op (some 7) none (.q (.mov (.t 0)))
  (.op (some 8) none (.q (.mov (.t 0)))
  (.op (some 9) none (.q (.nilc (.t 8)))
  (.op (some 10) none (.q (.fld 1 (.t 9)))
  (.op (some 11) none (.q (.load none (.t 10)))
  (.op (some 12) none (.q (.bin .add (.t 11) (.k (.int .i64 1))))
  (.op (some 13) none (.q (.nilc (.t 7)))
  (.op (some 14) none (.q (.fld 1 (.t 13)))
  (.op none none (.e (.store 1 (.t 14) (.t 12)))
  (.op (some 15) none (.q (.mov (.t 1)))
  (.op (some 16) none (.q (.bin .lss (.t 15) (.k (.int .i64 1))))
  (.op (some 17) none (.q (.mov (.t 16)))
  (.op (some 18) (some (17, false)) (.q (.mov (.t 0)))
  (.op (some 19) (some (17, false)) (.q (.nilc (.t 18)))
  (.op (some 20) (some (17, false)) (.q (.fld 0 (.t 19)))
  (.op (some 21) (some (17, false)) (.q (.load none (.t 20)))
  (.op (some 22) (some (17, false)) (.q (.len (.t 21)))
  (.op (some 23) (some (17, false)) (.q (.bin .eql (.t 22) (.k (.int .i64 0))))
  (.op (some 24) none (.q (.pick (.t 17) (.k (.bool true)) (.t 23)))
  (.cond (.t 24)
  (.op (some 4) none (.q (.mov (.k (.int .i64 0))))
  (.ret))
  (.done)
  (.op (some 25) none (.q (.mov (.t 0)))
  (.op (some 26) none (.q (.nilc (.t 25)))
  (.op (some 27) none (.q (.fld 1 (.t 26)))
  (.op (some 28) none (.q (.load none (.t 27)))
  (.op (some 29) none (.q (.bin .sub (.t 28) (.k (.int .i64 1))))
  (.op (some 5) none (.q (.mov (.t 29)))
  (.op (some 30) none (.q (.mov (.t 5)))
  (.op (some 31) none (.q (.mov (.t 0)))
  (.op (some 32) none (.q (.nilc (.t 31)))
  (.op (some 33) none (.q (.fld 0 (.t 32)))
  (.op (some 34) none (.q (.load none (.t 33)))
  (.op (some 35) none (.q (.len (.t 34)))
  (.op (some 36) none (.q (.bin .lss (.t 30) (.t 35)))
  (.cond (.t 36)
  (.op (some 37) none (.q (.mov (.t 0)))
  (.op (some 38) none (.q (.nilc (.t 37)))
  (.op (some 39) none (.q (.fld 0 (.t 38)))
  (.op (some 40) none (.q (.load none (.t 39)))
  (.op (some 41) none (.q (.mov (.t 5)))
  (.op (some 42) none (.q (.idx 1 (.t 40) (.t 41)))
  (.op (some 43) none (.q (.load none (.t 42)))
  (.op (some 44) none (.q (.conv .i64 (.t 43)))
  (.op (some 45) none (.q (.mov (.t 1)))
  (.op (some 46) none (.q (.bin .rem (.t 44) (.t 45)))
  (.op (some 4) none (.q (.mov (.t 46)))
  (.ret))))))))))))
  (.done)
  (.draws [⟨0, false, [], (some 47), none, .q (.mov (.t 0))⟩,
    ⟨1, false, [], (some 48), none, .q (.nilc (.t 47))⟩,
    ⟨2, false, [], (some 49), none, .q (.fld 0 (.t 48))⟩,
    ⟨3, false, [], (some 50), none, .q (.load none (.t 49))⟩,
    ⟨4, false, [], (some 51), none, .q (.mov (.t 5))⟩,
    ⟨5, false, [], (some 52), none, .q (.mov (.t 0))⟩,
    ⟨6, false, [], (some 53), none, .q (.nilc (.t 52))⟩,
    ⟨7, false, [], (some 54), none, .q (.fld 0 (.t 53))⟩,
    ⟨8, false, [], (some 55), none, .q (.load none (.t 54))⟩,
    ⟨9, false, [], (some 56), none, .q (.len (.t 55))⟩,
    ⟨10, false, [], (some 57), none, .q (.bin .rem (.t 51) (.t 56))⟩,
    ⟨11, false, [], (some 58), none, .q (.idx 1 (.t 50) (.t 57))⟩,
    ⟨12, false, [], (some 59), none, .q (.load none (.t 58))⟩,
    ⟨13, false, [], (some 60), none, .q (.conv .i64 (.t 59))⟩,
    ⟨14, false, [], (some 61), none, .q (.bin .mul (.t 60) (.k (.int .i64 131)))⟩,
    ⟨15, false, [], (some 62), none, .q (.mov (.t 0))⟩,
    ⟨16, false, [], (some 63), none, .q (.nilc (.t 62))⟩,
    ⟨17, false, [], (some 64), none, .q (.fld 0 (.t 63))⟩,
    ⟨18, false, [], (some 65), none, .q (.load none (.t 64))⟩,
    ⟨19, false, [], (some 66), none, .q (.mov (.t 5))⟩,
    ⟨20, false, [], (some 67), none, .q (.bin .mul (.t 66) (.k (.int .i64 7)))⟩,
    ⟨21, false, [], (some 68), none, .q (.bin .add (.t 67) (.k (.int .i64 3)))⟩,
    ⟨22, false, [], (some 69), none, .q (.mov (.t 0))⟩,
    ⟨23, false, [], (some 70), none, .q (.nilc (.t 69))⟩,
    ⟨24, false, [], (some 71), none, .q (.fld 0 (.t 70))⟩,
    ⟨25, false, [], (some 72), none, .q (.load none (.t 71))⟩,
    ⟨26, false, [], (some 73), none, .q (.len (.t 72))⟩,
    ⟨27, false, [], (some 74), none, .q (.bin .rem (.t 68) (.t 73))⟩,
    ⟨28, false, [], (some 75), none, .q (.idx 1 (.t 65) (.t 74))⟩,
    ⟨29, false, [], (some 76), none, .q (.load none (.t 75))⟩,
    ⟨30, false, [], (some 77), none, .q (.conv .i64 (.t 76))⟩,
    ⟨31, false, [], (some 78), none, .q (.bin .mul (.t 77) (.k (.int .i64 1117)))⟩,
    ⟨32, false, [], (some 79), none, .q (.bin .add (.t 61) (.t 78))⟩,
    ⟨33, false, [], (some 80), none, .q (.mov (.t 5))⟩,
    ⟨34, false, [], (some 81), none, .q (.bin .mul (.t 80) (.k (.int .i64 29)))⟩,
    ⟨35, false, [], (some 82), none, .q (.bin .add (.t 79) (.t 81))⟩,
    ⟨36, false, [], (some 83), none, .q (.mov (.t 5))⟩,
    ⟨37, false, [], (some 84), none, .q (.mov (.t 0))⟩,
    ⟨38, false, [], (some 85), none, .q (.nilc (.t 84))⟩,
    ⟨39, false, [], (some 86), none, .q (.fld 0 (.t 85))⟩,
    ⟨40, false, [], (some 87), none, .q (.load none (.t 86))⟩,
    ⟨41, false, [], (some 88), none, .q (.len (.t 87))⟩,
    ⟨42, false, [], (some 89), none, .q (.bin .quo (.t 83) (.t 88))⟩,
    ⟨43, false, [], (some 90), none, .q (.bin .mul (.t 89) (.k (.int .i64 53)))⟩,
    ⟨44, false, [], (some 91), none, .q (.bin .add (.t 82) (.t 90))⟩,
    ⟨45, false, [], (some 6), none, .q (.mov (.t 91))⟩] (.op (some 92) none (.q (.mov (.t 6)))
  (.op (some 93) none (.q (.mov (.t 6)))
  (.op (some 94) none (.q (.bin .quo (.t 93) (.k (.int .i64 64))))
  (.op (some 95) none (.q (.bin .xor (.t 92) (.t 94)))
  (.op (some 6) none (.q (.mov (.t 95)))
  (.op (some 96) none (.q (.mov (.t 6)))
  (.op (some 97) none (.q (.mov (.t 1)))
  (.op (some 98) none (.q (.bin .rem (.t 96) (.t 97)))
  (.op (some 4) none (.q (.mov (.t 98)))
  (.ret)))))))))))))))))))))))))))))))))))))))))))))
def o117 : Nat → List Nat := fun i => if i = 7 then [0, 1, 2, 3, 4, 5, 6, 7, 8, 9, 10, 11, 12, 13, 14, 15, 16, 17, 18, 19, 20, 21, 22, 23, 24, 25, 26, 27, 28, 29, 30, 31, 32, 33, 34, 35, 36, 37, 38, 39, 40, 41, 42, 43, 44, 45] else []
set_option maxRecDepth 100000 in
theorem t117 : (Try.f117.body.map fun c => tr Try.prog o117 Try.f117.ntmps c .done) = some c117 := by kernel_rfl
theorem r117 : trR Try.prog Try.f117.results.toList = some [.t 4] := by kernel_rfl
theorem in117 {w0 : World} {args : List AV} {H : Hp} {Q : AV → Hp → Prop} (h : W Try.prog w0 c117 (retQ [.t 4] Q) (env0 args) H) : ACalls Try.prog w0 117 args H Q :=
  ACalls.intro2 mixed Try.func117 rfl t117 r117 h

/-- slices.Contains[[]string,string] -/
def c118 : CC :=
  .op (some 4) none (.q (.mov (.k (.bool false))))
  (.op (some 5) none (.q (.mov (.t 0)))
  (.op (some 6) none (.q (.mov (.t 1)))
  (.op (some 7) none (.e (.call (.f 155) [.t 5, .t 6]))
  (.op (some 8) none (.q (.bin .geq (.t 7) (.k (.int .i64 0))))
  (.op (some 4) none (.q (.mov (.t 8)))
  (.ret))))))
def o118 : Nat → List Nat := fun _ => []
set_option maxRecDepth 100000 in
theorem t118 : (Try.f118.body.map fun c => tr Try.prog o118 Try.f118.ntmps c .done) = some c118 := by kernel_rfl
theorem r118 : trR Try.prog Try.f118.results.toList = some [.t 4] := by kernel_rfl
theorem in118 {w0 : World} {args : List AV} {H : Hp} {Q : AV → Hp → Prop} (h : W Try.prog w0 c118 (retQ [.t 4] Q) (env0 args) H) : ACalls Try.prog w0 118 args H Q :=
  ACalls.intro2 mixed Try.func118 rfl t118 r118 h

/-- impl.sumChain -/
def c119 : CC :=
  .op (some 1) none (.l (.box 3 (.t 0)))
  (.op (some 2) none (.l (.alloc 36 [.nils, .nils]))
  (.op (some 3) none (.q (.load none (.t 1)))
  (.op (some 4) none (.e (.call (.f 156) [.t 3]))
  (.op (some 5) none (.q (.mkf 157 [.t 1]))
  (.op (some 6) none (.e (.call (.f 91) [.t 4, .t 5]))
  (.op none none (.e (.store 2 (.t 2) (.t 6)))
  (.ret)))))))
def o119 : Nat → List Nat := fun _ => []
set_option maxRecDepth 100000 in
theorem t119 : (Try.f119.body.map fun c => tr Try.prog o119 Try.f119.ntmps c .done) = some c119 := by kernel_rfl
theorem r119 : trR Try.prog Try.f119.results.toList = some [.c (some 2) 2] := by kernel_rfl
theorem in119 {w0 : World} {args : List AV} {H : Hp} {Q : AV → Hp → Prop} (h : W Try.prog w0 c119 (retQ [.c (some 2) 2] Q) (env0 args) H) : ACalls Try.prog w0 119 args H Q :=
  ACalls.intro2 mixed Try.func119 rfl t119 r119 h

/-- impl.chains$1 -/
def c120 : CC :=
  .block 0
  (.op (some 10) none (.q (.mov (.t 0)))
  (.op (some 11) none (.q (.load none (.t 2)))
  (.op (some 12) none (.q (.bin .sub (.t 11) (.k (.int .i64 1))))
  (.op (some 13) none (.q (.bin .geq (.t 10) (.t 12)))
  (.op (some 9) none (.q (.mov (.t 13)))
  (.cond (.t 9)
  (.op (some 14) none (.q (.load (some 2) (.t 3)))
  (.op (some 15) none (.e (.call (.f 53) [.t 14]))
  (.cond (.t 15)
  (.draws [⟨0, true, [], (some 16), none, .q (.load none (.t 4))⟩,
    ⟨1, false, [], (some 17), none, .q (.load (some 2) (.t 3))⟩,
    ⟨2, false, [], (some 18), none, .e (.call (.f 121) [.t 17])⟩,
    ⟨3, false, [], (some 19), none, .l (.bsl 36 2 [.nils, .nils] 1 [(0, .t 18)])⟩,
    ⟨4, false, [], (some 20), none, .e (.app 36 2 48 (.t 16) (.t 19))⟩,
    ⟨5, false, [], none, none, .e (.store 1 (.t 4) (.t 20))⟩] (.done))
  (.done)
  (.ret))))
  (.op (some 22) none (.q (.mov (.t 1)))
  (.op (some 23) none (.q (.load none (.t 2)))
  (.op (some 24) none (.q (.bin .sub (.t 23) (.k (.int .i64 1))))
  (.op (some 25) none (.q (.bin .geq (.t 22) (.t 24)))
  (.op (some 21) none (.q (.mov (.t 25)))
  (.cond (.t 21)
  (.op (some 26) none (.q (.load none (.t 5)))
  (.op (some 27) none (.q (.mov (.t 0)))
  (.op (some 28) none (.q (.bin .add (.t 27) (.k (.int .i64 1))))
  (.op (some 29) none (.q (.mov (.t 0)))
  (.op (some 30) none (.q (.bin .add (.t 29) (.k (.int .i64 1))))
  (.op (some 31) none (.e (.call (.t 26) [.t 28, .t 30]))
  (.ret)))))))
  (.done)
  (.done)))))))
  (.done)))))))
  (.op (some 8) none (.q (.mov (.k (.int .i64 0))))
  (.block 1
  (.loop
  (.op (some 32) none (.q (.mov (.t 8)))
  (.op (some 33) none (.q (.mov (.t 0)))
  (.op (some 34) none (.q (.bin .leq (.t 32) (.t 33)))
  (.cond (.t 34)
  (.done)
  (.exit 1)
  (.block 2
  (.draws [⟨0, false, [], (some 37), none, .q (.fld 1 (.t 3))⟩,
    ⟨1, false, [], (some 38), none, .q (.load none (.t 37))⟩,
    ⟨2, false, [], (some 39), none, .q (.mov (.t 0))⟩,
    ⟨3, false, [], (some 40), none, .q (.idx 1 (.t 38) (.t 39))⟩,
    ⟨4, false, [], (some 41), none, .q (.load none (.t 40))⟩,
    ⟨5, false, [], (some 42), none, .q (.mov (.t 1))⟩,
    ⟨6, false, [], (some 43), none, .q (.fld 1 (.t 3))⟩,
    ⟨7, false, [], (some 44), none, .q (.load none (.t 43))⟩,
    ⟨8, false, [], (some 45), none, .q (.mov (.t 1))⟩,
    ⟨9, false, [], (some 46), none, .q (.idx 1 (.t 44) (.t 45))⟩,
    ⟨10, false, [], (some 47), none, .q (.load none (.t 46))⟩,
    ⟨11, false, [], (some 48), none, .q (.mov (.t 0))⟩,
    ⟨12, false, [], (some 49), none, .q (.mov (.t 8))⟩,
    ⟨13, false, [], (some 50), none, .q (.mov (.t 8))⟩,
    ⟨14, false, [], (some 51), none, .q (.idx 1 (.t 41) (.t 42))⟩,
    ⟨15, false, [], none, none, .e (.store 1 (.t 51) (.t 49))⟩,
    ⟨16, false, [], (some 52), none, .q (.idx 1 (.t 47) (.t 48))⟩,
    ⟨17, false, [], none, none, .e (.store 1 (.t 52) (.t 50))⟩] (.op (some 53) none (.q (.load none (.t 5)))
  (.op (some 54) none (.q (.mov (.t 0)))
  (.op (some 55) none (.q (.mov (.t 1)))
  (.op (some 56) none (.q (.bin .add (.t 55) (.k (.int .i64 1))))
  (.op (some 57) none (.e (.call (.t 53) [.t 54, .t 56]))
  (.done)))))))
  (.op (some 35) none (.q (.mov (.t 8)))
  (.op (some 36) none (.q (.bin .add (.t 35) (.k (.int .i64 1))))
  (.op (some 8) none (.q (.mov (.t 36)))
  (.done))))))))))
  (.done)))
def o120 : Nat → List Nat := fun i => if i = 8 then [0, 1, 2, 3, 4, 5, 6, 7, 8, 9, 10, 11, 12, 13, 14, 15, 16, 17] else if i = 2 then [0, 1, 2, 3, 4, 5] else []
set_option maxRecDepth 100000 in
theorem t120 : (Try.f120.body.map fun c => tr Try.prog o120 Try.f120.ntmps c .done) = some c120 := by kernel_rfl
theorem r120 : trR Try.prog Try.f120.results.toList = some [] := by kernel_rfl
theorem in120 {w0 : World} {args : List AV} {H : Hp} {Q : AV → Hp → Prop} (h : W Try.prog w0 c120 (retQ [] Q) (env0 args) H) : ACalls Try.prog w0 120 args H Q :=
  ACalls.intro2 mixed Try.func120 rfl t120 r120 h

/-- impl.copyAlgebra -/
def c121 : CC :=
  .op (some 1) none (.l (.box 36 (.t 0)))
  (.op (some 2) none (.l (.alloc 36 [.nils, .nils]))
  (.op (some 6) none (.q (.fld 0 (.t 1)))
  (.op (some 7) none (.q (.load none (.t 6)))
  (.op (some 8) none (.e (.call (.f 108) [.t 7]))
  (.op (some 9) none (.q (.build [.nils, .nils] [(0, .t 8)]))
  (.op (some 3) none (.l (.alloc 36 [.nils, .nils]))
  (.op none none (.e (.store 2 (.t 3) (.t 9)))
  (.op (some 10) none (.q (.fld 1 (.t 1)))
  (.op (some 11) none (.q (.load none (.t 10)))
  (.op (some 12) none (.q (.len (.t 11)))
  (.op (some 13) none (.q (.mov (.k (.int .i64 0))))
  (.block 0
  (.loop
  (.op (some 14) none (.q (.bin .lss (.t 13) (.t 12)))
  (.cond (.t 14)
  (.done)
  (.exit 0)
  (.block 1
  (.op (some 15) none (.q (.idx 1 (.t 11) (.t 13)))
  (.op (some 16) none (.q (.load none (.t 15)))
  (.op (some 5) none (.q (.mov (.t 16)))
  (.draws [⟨0, false, [], (some 17), none, .q (.fld 1 (.t 3))⟩,
    ⟨1, true, [], (some 18), none, .q (.load none (.t 17))⟩,
    ⟨2, false, [], (some 19), none, .q (.mov (.t 5))⟩,
    ⟨3, false, [], (some 20), none, .e (.call (.f 108) [.t 19])⟩,
    ⟨4, false, [], (some 21), none, .l (.bsl 30 1 [.nils] 1 [(0, .t 20)])⟩,
    ⟨5, false, [], (some 22), none, .e (.app 30 1 24 (.t 18) (.t 21))⟩,
    ⟨6, false, [], (some 23), none, .q (.fld 1 (.t 3))⟩,
    ⟨7, false, [], none, none, .e (.store 1 (.t 23) (.t 22))⟩] (.done)))))
  (.op (some 24) none (.q (.bin .add (.t 13) (.k (.int .i64 1))))
  (.op (some 13) none (.q (.mov (.t 24)))
  (.done)))))))
  (.op (some 25) none (.q (.load (some 2) (.t 3)))
  (.op none none (.e (.store 2 (.t 2) (.t 25)))
  (.ret)))))))))))))))
def o121 : Nat → List Nat := fun i => if i = 5 then [0, 1, 2, 3, 4, 5, 6, 7] else []
set_option maxRecDepth 100000 in
theorem t121 : (Try.f121.body.map fun c => tr Try.prog o121 Try.f121.ntmps c .done) = some c121 := by kernel_rfl
theorem r121 : trR Try.prog Try.f121.results.toList = some [.c (some 2) 2] := by kernel_rfl
theorem in121 {w0 : World} {args : List AV} {H : Hp} {Q : AV → Hp → Prop} (h : W Try.prog w0 c121 (retQ [.c (some 2) 2] Q) (env0 args) H) : ACalls Try.prog w0 121 args H Q :=
  ACalls.intro2 mixed Try.func121 rfl t121 r121 h

/-- impl.holds -/
def c122 : CC :=
  .op (some 5) none (.l (.box 36 (.t 1)))
  (.op (some 8) none (.q (.mov (.k (.bool false))))
  (.op (some 10) none (.q (.fld 0 (.t 5)))
  (.op (some 11) none (.q (.load none (.t 10)))
  (.op (some 12) none (.q (.len (.t 11)))
  (.op (some 13) none (.q (.bin .sub (.t 12) (.k (.int .i64 1))))
  (.op (some 9) none (.q (.mov (.t 13)))
  (.op (some 14) none (.q (.mov (.t 0)))
  (.block 0
  (.op (some 16) none (.q (.bin .eql (.t 14) (.k (.str ⟨#[112, 114, 101, 108, 105, 110, 101, 97, 114]⟩))))
  (.op (some 15) none (.q (.mov (.t 16)))
  (.cond (.t 15)
  (.draws [⟨0, false, [], (some 17), none, .q (.fld 0 (.t 5))⟩,
    ⟨1, true, [], (some 18), none, .q (.load none (.t 17))⟩,
    ⟨2, false, [], (some 19), none, .q (.load (some 2) (.t 5))⟩,
    ⟨3, false, [], (some 20), none, .q (.mov (.t 2))⟩,
    ⟨4, false, [], (some 21), none, .q (.mov (.t 3))⟩,
    ⟨6, true, [], (some 23), none, .q (.load (some 2) (.t 5))⟩,
    ⟨7, false, [], (some 24), none, .q (.mov (.t 3))⟩,
    ⟨8, false, [], (some 25), none, .q (.mov (.t 2))⟩,
    ⟨11, false, [], (some 28), none, .q (.mov (.t 9))⟩,
    ⟨5, false, [], (some 22), none, .e (.call (.f 90) [.t 19, .t 20, .t 21])⟩,
    ⟨9, false, [], (some 26), none, .e (.call (.f 90) [.t 23, .t 24, .t 25])⟩,
    ⟨10, false, [], (some 27), none, .e (.call (.f 114) [.t 18, .t 22, .t 26])⟩,
    ⟨12, false, [], (some 29), none, .q (.bin .eql (.t 27) (.t 28))⟩,
    ⟨13, false, [], (some 8), none, .q (.mov (.t 29))⟩] (.ret))
  (.op (some 31) none (.q (.bin .eql (.t 14) (.k (.str ⟨#[100, 105, 118, 105, 115, 105, 98, 108, 101]⟩))))
  (.op (some 30) none (.q (.mov (.t 31)))
  (.cond (.t 30)
  (.draws [⟨0, false, [], (some 32), none, .q (.fld 1 (.t 5))⟩,
    ⟨1, true, [], (some 33), none, .q (.load none (.t 32))⟩,
    ⟨2, false, [], (some 34), none, .q (.mov (.t 2))⟩,
    ⟨3, false, [], (some 35), none, .q (.idx 1 (.t 33) (.t 34))⟩,
    ⟨4, true, [], (some 36), none, .q (.load none (.t 35))⟩,
    ⟨5, false, [], (some 37), none, .q (.load (some 2) (.t 5))⟩,
    ⟨6, false, [], (some 38), none, .q (.mov (.t 2))⟩,
    ⟨7, false, [], (some 39), none, .q (.mov (.t 3))⟩,
    ⟨11, false, [], (some 43), none, .q (.fld 0 (.t 5))⟩,
    ⟨12, true, [], (some 44), none, .q (.load none (.t 43))⟩,
    ⟨13, false, [], (some 45), none, .q (.mov (.t 2))⟩,
    ⟨14, false, [], (some 46), none, .q (.mov (.t 3))⟩,
    ⟨8, false, [], (some 40), none, .e (.call (.f 90) [.t 37, .t 38, .t 39])⟩,
    ⟨9, false, [], (some 41), none, .q (.idx 1 (.t 36) (.t 40))⟩,
    ⟨10, true, [], (some 42), none, .q (.load none (.t 41))⟩,
    ⟨15, false, [], (some 47), none, .e (.call (.f 153) [.t 44, .t 45, .t 46])⟩,
    ⟨16, false, [], (some 48), none, .q (.bin .eql (.t 42) (.t 47))⟩,
    ⟨17, false, [], (some 8), none, .q (.mov (.t 48))⟩] (.ret))
  (.op (some 50) none (.q (.bin .eql (.t 14) (.k (.str ⟨#[105, 110, 118, 111, 108, 117, 116, 105, 118, 101]⟩))))
  (.op (some 49) none (.q (.mov (.t 50)))
  (.cond (.t 49)
  (.draws [⟨0, true, [], (some 51), none, .q (.load (some 2) (.t 5))⟩,
    ⟨1, false, [], (some 52), none, .q (.load (some 2) (.t 5))⟩,
    ⟨2, false, [], (some 53), none, .q (.mov (.t 2))⟩,
    ⟨5, false, [], (some 56), none, .q (.mov (.t 2))⟩,
    ⟨3, false, [], (some 54), none, .e (.call (.f 158) [.t 52, .t 53])⟩,
    ⟨4, false, [], (some 55), none, .e (.call (.f 158) [.t 51, .t 54])⟩,
    ⟨6, false, [], (some 57), none, .q (.bin .eql (.t 55) (.t 56))⟩,
    ⟨7, false, [], (some 8), none, .q (.mov (.t 57))⟩] (.ret))
  (.op (some 59) none (.q (.bin .eql (.t 14) (.k (.str ⟨#[105, 100, 101, 109, 112, 111, 116, 101, 110, 116]⟩))))
  (.op (some 58) none (.q (.mov (.t 59)))
  (.cond (.t 58)
  (.op (some 60) none (.q (.fld 1 (.t 5)))
  (.op (some 61) none (.q (.load none (.t 60)))
  (.op (some 62) none (.q (.mov (.t 2)))
  (.op (some 63) none (.q (.idx 1 (.t 61) (.t 62)))
  (.op (some 64) none (.q (.load none (.t 63)))
  (.op (some 65) none (.q (.mov (.t 2)))
  (.op (some 66) none (.q (.idx 1 (.t 64) (.t 65)))
  (.op (some 67) none (.q (.load none (.t 66)))
  (.op (some 68) none (.q (.mov (.t 2)))
  (.op (some 69) none (.q (.bin .eql (.t 67) (.t 68)))
  (.op (some 8) none (.q (.mov (.t 69)))
  (.ret))))))))))))
  (.op (some 71) none (.q (.bin .eql (.t 14) (.k (.str ⟨#[98, 111, 111, 108, 101, 97, 110]⟩))))
  (.op (some 70) none (.q (.mov (.t 71)))
  (.cond (.t 70)
  (.draws [⟨0, false, [], (some 72), none, .q (.fld 0 (.t 5))⟩,
    ⟨1, true, [], (some 73), none, .q (.load none (.t 72))⟩,
    ⟨2, false, [], (some 74), none, .q (.mov (.t 2))⟩,
    ⟨3, false, [], (some 75), none, .q (.load (some 2) (.t 5))⟩,
    ⟨4, false, [], (some 76), none, .q (.mov (.t 2))⟩,
    ⟨7, false, [], (some 79), none, .q (.mov (.t 9))⟩,
    ⟨5, false, [], (some 77), none, .e (.call (.f 158) [.t 75, .t 76])⟩,
    ⟨6, false, [], (some 78), none, .e (.call (.f 114) [.t 73, .t 74, .t 77])⟩,
    ⟨8, false, [], (some 80), none, .q (.bin .eql (.t 78) (.t 79))⟩,
    ⟨9, false, [], (some 8), none, .q (.mov (.t 80))⟩] (.ret))
  (.done)
  (.done))))
  (.done))))
  (.done))))
  (.done))))
  (.done))))
  (.op (some 8) none (.q (.mov (.k (.bool false))))
  (.ret))))))))))
def o122 : Nat → List Nat := fun i => if i = 4 then [0, 1, 2, 3, 4, 6, 7, 8, 11, 5, 9, 10, 12, 13] else if i = 6 then [0, 1, 2, 3, 4, 5, 6, 7, 11, 12, 13, 14, 8, 9, 10, 15, 16, 17] else if i = 8 then [0, 1, 2, 5, 3, 4, 6, 7] else if i = 12 then [0, 1, 2, 3, 4, 7, 5, 6, 8, 9] else []
set_option maxRecDepth 100000 in
theorem t122 : (Try.f122.body.map fun c => tr Try.prog o122 Try.f122.ntmps c .done) = some c122 := by kernel_rfl
theorem r122 : trR Try.prog Try.f122.results.toList = some [.t 8] := by kernel_rfl
theorem in122 {w0 : World} {args : List AV} {H : Hp} {Q : AV → Hp → Prop} (h : W Try.prog w0 c122 (retQ [.t 8] Q) (env0 args) H) : ACalls Try.prog w0 122 args H Q :=
  ACalls.intro2 mixed Try.func122 rfl t122 r122 h

/-- spec.join -/
def c123 : CC :=
  .op (some 6) none (.q (.mov (.k (.int .i64 0))))
  (.op (some 7) none (.q (.mov (.k (.int .i64 0))))
  (.block 0
  (.loop
  (.op (some 10) none (.q (.mov (.t 7)))
  (.op (some 11) none (.q (.mov (.t 0)))
  (.op (some 12) none (.q (.len (.t 11)))
  (.op (some 13) none (.q (.bin .lss (.t 10) (.t 12)))
  (.cond (.t 13)
  (.done)
  (.exit 0)
  (.block 1
  (.op (some 16) none (.q (.mov (.t 0)))
  (.op (some 17) none (.q (.mov (.t 1)))
  (.op (some 18) none (.q (.mov (.t 7)))
  (.op (some 19) none (.e (.call (.f 93) [.t 16, .t 17, .t 18]))
  (.op (some 20) none (.q (.mov (.t 19)))
  (.op (some 21) (some (20, true)) (.q (.mov (.t 0)))
  (.op (some 22) (some (20, true)) (.q (.mov (.t 2)))
  (.op (some 23) (some (20, true)) (.q (.mov (.t 7)))
  (.op (some 24) (some (20, true)) (.e (.call (.f 93) [.t 21, .t 22, .t 23]))
  (.op (some 25) none (.q (.pick (.t 20) (.t 24) (.k (.bool false))))
  (.op (some 8) none (.q (.mov (.t 25)))
  (.op (some 9) none (.q (.mov (.k (.int .i64 0))))
  (.block 2
  (.loop
  (.op (some 26) none (.q (.mov (.t 9)))
  (.op (some 27) none (.q (.mov (.t 0)))
  (.op (some 28) none (.q (.len (.t 27)))
  (.op (some 29) none (.q (.bin .lss (.t 26) (.t 28)))
  (.op (some 30) none (.q (.mov (.t 29)))
  (.op (some 31) (some (30, true)) (.q (.mov (.t 8)))
  (.op (some 32) none (.q (.pick (.t 30) (.t 31) (.k (.bool false))))
  (.cond (.t 32)
  (.done)
  (.exit 2)
  (.block 3
  (.op (some 35) none (.q (.mov (.t 0)))
  (.op (some 36) none (.q (.mov (.t 1)))
  (.op (some 37) none (.q (.mov (.t 9)))
  (.op (some 38) none (.e (.call (.f 93) [.t 35, .t 36, .t 37]))
  (.op (some 39) none (.q (.not (.t 38)))
  (.op (some 40) none (.q (.mov (.t 39)))
  (.op (some 41) (some (40, false)) (.q (.mov (.t 0)))
  (.op (some 42) (some (40, false)) (.q (.mov (.t 2)))
  (.op (some 43) (some (40, false)) (.q (.mov (.t 9)))
  (.op (some 44) (some (40, false)) (.e (.call (.f 93) [.t 41, .t 42, .t 43]))
  (.op (some 45) (some (40, false)) (.q (.not (.t 44)))
  (.op (some 46) none (.q (.pick (.t 40) (.k (.bool true)) (.t 45)))
  (.op (some 47) none (.q (.mov (.t 46)))
  (.op (some 48) (some (47, false)) (.q (.mov (.t 0)))
  (.op (some 49) (some (47, false)) (.q (.mov (.t 7)))
  (.op (some 50) (some (47, false)) (.q (.mov (.t 9)))
  (.op (some 51) (some (47, false)) (.e (.call (.f 93) [.t 48, .t 49, .t 50]))
  (.op (some 52) none (.q (.pick (.t 47) (.k (.bool true)) (.t 51)))
  (.op (some 8) none (.q (.mov (.t 52)))
  (.done))))))))))))))))))))
  (.op (some 33) none (.q (.mov (.t 9)))
  (.op (some 34) none (.q (.bin .add (.t 33) (.k (.int .i64 1))))
  (.op (some 9) none (.q (.mov (.t 34)))
  (.done))))))))))))))
  (.op (some 53) none (.q (.mov (.t 8)))
  (.cond (.t 53)
  (.op (some 54) none (.q (.mov (.t 7)))
  (.op (some 6) none (.q (.mov (.t 54)))
  (.ret)))
  (.done)
  (.done))))))))))))))))
  (.op (some 14) none (.q (.mov (.t 7)))
  (.op (some 15) none (.q (.bin .add (.t 14) (.k (.int .i64 1))))
  (.op (some 7) none (.q (.mov (.t 15)))
  (.done)))))))))))
  (.op (some 6) none (.q (.mov (.k (.int .i64 (-1)))))
  (.ret))))
def o123 : Nat → List Nat := fun _ => []
set_option maxRecDepth 100000 in
theorem t123 : (Try.f123.body.map fun c => tr Try.prog o123 Try.f123.ntmps c .done) = some c123 := by kernel_rfl
theorem r123 : trR Try.prog Try.f123.results.toList = some [.t 6] := by kernel_rfl
theorem in123 {w0 : World} {args : List AV} {H : Hp} {Q : AV → Hp → Prop} (h : W Try.prog w0 c123 (retQ [.t 6] Q) (env0 args) H) : ACalls Try.prog w0 123 args H Q :=
  ACalls.intro2 mixed Try.func123 rfl t123 r123 h

/-- spec.imply -/
def c124 : CC :=
  .op (some 3) none (.l (.box 36 (.t 0)))
  (.op (some 6) none (.q (.mov (.k (.int .i64 0))))
  (.op (some 7) none (.q (.mov (.k (.int .i64 0))))
  (.op (some 8) none (.q (.mov (.k (.int .i64 0))))
  (.block 0
  (.loop
  (.op (some 9) none (.q (.mov (.t 8)))
  (.op (some 10) none (.q (.fld 0 (.t 3)))
  (.op (some 11) none (.q (.load none (.t 10)))
  (.op (some 12) none (.q (.len (.t 11)))
  (.op (some 13) none (.q (.bin .lss (.t 9) (.t 12)))
  (.cond (.t 13)
  (.done)
  (.exit 0)
  (.block 1
  (.draws [⟨0, false, [], (some 16), none, .q (.fld 0 (.t 3))⟩,
    ⟨1, false, [], (some 17), none, .q (.load none (.t 16))⟩,
    ⟨2, false, [], (some 18), none, .q (.fld 1 (.t 3))⟩,
    ⟨3, false, [], (some 19), none, .q (.load none (.t 18))⟩,
    ⟨4, false, [], (some 20), none, .q (.mov (.t 1))⟩,
    ⟨5, false, [], (some 21), none, .q (.idx 1 (.t 19) (.t 20))⟩,
    ⟨6, false, [], (some 22), none, .q (.load none (.t 21))⟩,
    ⟨7, false, [], (some 23), none, .q (.mov (.t 8))⟩,
    ⟨8, false, [], (some 24), none, .q (.idx 1 (.t 22) (.t 23))⟩,
    ⟨9, false, [], (some 25), none, .q (.load none (.t 24))⟩,
    ⟨10, false, [], (some 26), none, .q (.mov (.t 2))⟩,
    ⟨11, false, [], (some 27), none, .e (.call (.f 93) [.t 17, .t 25, .t 26])⟩] (.cond (.t 27)
  (.op (some 28) none (.q (.fld 0 (.t 3)))
  (.op (some 29) none (.q (.load none (.t 28)))
  (.op (some 30) none (.q (.mov (.t 7)))
  (.op (some 31) none (.q (.mov (.t 8)))
  (.op (some 32) none (.e (.call (.f 123) [.t 29, .t 30, .t 31]))
  (.op (some 7) none (.q (.mov (.t 32)))
  (.done)))))))
  (.done)
  (.done)))
  (.op (some 14) none (.q (.mov (.t 8)))
  (.op (some 15) none (.q (.bin .add (.t 14) (.k (.int .i64 1))))
  (.op (some 8) none (.q (.mov (.t 15)))
  (.done))))))))))))
  (.op (some 33) none (.q (.mov (.t 7)))
  (.op (some 6) none (.q (.mov (.t 33)))
  (.ret)))))))
def o124 : Nat → List Nat := fun i => if i = 5 then [0, 1, 2, 3, 4, 5, 6, 7, 8, 9, 10, 11] else []
set_option maxRecDepth 100000 in
theorem t124 : (Try.f124.body.map fun c => tr Try.prog o124 Try.f124.ntmps c .done) = some c124 := by kernel_rfl
theorem r124 : trR Try.prog Try.f124.results.toList = some [.t 6] := by kernel_rfl
theorem in124 {w0 : World} {args : List AV} {H : Hp} {Q : AV → Hp → Prop} (h : W Try.prog w0 c124 (retQ [.t 6] Q) (env0 args) H) : ACalls Try.prog w0 124 args H Q :=
  ACalls.intro2 mixed Try.func124 rfl t124 r124 h

/-- spec.meet -/
def c125 : CC :=
  .op (some 6) none (.q (.mov (.k (.int .i64 0))))
  (.op (some 7) none (.q (.mov (.k (.int .i64 0))))
  (.block 0
  (.loop
  (.op (some 10) none (.q (.mov (.t 7)))
  (.op (some 11) none (.q (.mov (.t 0)))
  (.op (some 12) none (.q (.len (.t 11)))
  (.op (some 13) none (.q (.bin .lss (.t 10) (.t 12)))
  (.cond (.t 13)
  (.done)
  (.exit 0)
  (.block 1
  (.op (some 16) none (.q (.mov (.t 0)))
  (.op (some 17) none (.q (.mov (.t 7)))
  (.op (some 18) none (.q (.mov (.t 1)))
  (.op (some 19) none (.e (.call (.f 93) [.t 16, .t 17, .t 18]))
  (.op (some 20) none (.q (.mov (.t 19)))
  (.op (some 21) (some (20, true)) (.q (.mov (.t 0)))
  (.op (some 22) (some (20, true)) (.q (.mov (.t 7)))
  (.op (some 23) (some (20, true)) (.q (.mov (.t 2)))
  (.op (some 24) (some (20, true)) (.e (.call (.f 93) [.t 21, .t 22, .t 23]))
  (.op (some 25) none (.q (.pick (.t 20) (.t 24) (.k (.bool false))))
  (.op (some 8) none (.q (.mov (.t 25)))
  (.op (some 9) none (.q (.mov (.k (.int .i64 0))))
  (.block 2
  (.loop
  (.op (some 26) none (.q (.mov (.t 9)))
  (.op (some 27) none (.q (.mov (.t 0)))
  (.op (some 28) none (.q (.len (.t 27)))
  (.op (some 29) none (.q (.bin .lss (.t 26) (.t 28)))
  (.op (some 30) none (.q (.mov (.t 29)))
  (.op (some 31) (some (30, true)) (.q (.mov (.t 8)))
  (.op (some 32) none (.q (.pick (.t 30) (.t 31) (.k (.bool false))))
  (.cond (.t 32)
  (.done)
  (.exit 2)
  (.block 3
  (.op (some 35) none (.q (.mov (.t 0)))
  (.op (some 36) none (.q (.mov (.t 9)))
  (.op (some 37) none (.q (.mov (.t 1)))
  (.op (some 38) none (.e (.call (.f 93) [.t 35, .t 36, .t 37]))
  (.op (some 39) none (.q (.not (.t 38)))
  (.op (some 40) none (.q (.mov (.t 39)))
  (.op (some 41) (some (40, false)) (.q (.mov (.t 0)))
  (.op (some 42) (some (40, false)) (.q (.mov (.t 9)))
  (.op (some 43) (some (40, false)) (.q (.mov (.t 2)))
  (.op (some 44) (some (40, false)) (.e (.call (.f 93) [.t 41, .t 42, .t 43]))
  (.op (some 45) (some (40, false)) (.q (.not (.t 44)))
  (.op (some 46) none (.q (.pick (.t 40) (.k (.bool true)) (.t 45)))
  (.op (some 47) none (.q (.mov (.t 46)))
  (.op (some 48) (some (47, false)) (.q (.mov (.t 0)))
  (.op (some 49) (some (47, false)) (.q (.mov (.t 9)))
  (.op (some 50) (some (47, false)) (.q (.mov (.t 7)))
  (.op (some 51) (some (47, false)) (.e (.call (.f 93) [.t 48, .t 49, .t 50]))
  (.op (some 52) none (.q (.pick (.t 47) (.k (.bool true)) (.t 51)))
  (.op (some 8) none (.q (.mov (.t 52)))
  (.done))))))))))))))))))))
  (.op (some 33) none (.q (.mov (.t 9)))
  (.op (some 34) none (.q (.bin .add (.t 33) (.k (.int .i64 1))))
  (.op (some 9) none (.q (.mov (.t 34)))
  (.done))))))))))))))
  (.op (some 53) none (.q (.mov (.t 8)))
  (.cond (.t 53)
  (.op (some 54) none (.q (.mov (.t 7)))
  (.op (some 6) none (.q (.mov (.t 54)))
  (.ret)))
  (.done)
  (.done))))))))))))))))
  (.op (some 14) none (.q (.mov (.t 7)))
  (.op (some 15) none (.q (.bin .add (.t 14) (.k (.int .i64 1))))
  (.op (some 7) none (.q (.mov (.t 15)))
  (.done)))))))))))
  (.op (some 6) none (.q (.mov (.k (.int .i64 (-1)))))
  (.ret))))
def o125 : Nat → List Nat := fun _ => []
set_option maxRecDepth 100000 in
theorem t125 : (Try.f125.body.map fun c => tr Try.prog o125 Try.f125.ntmps c .done) = some c125 := by kernel_rfl
theorem r125 : trR Try.prog Try.f125.results.toList = some [.t 6] := by kernel_rfl
theorem in125 {w0 : World} {args : List AV} {H : Hp} {Q : AV → Hp → Prop} (h : W Try.prog w0 c125 (retQ [.t 6] Q) (env0 args) H) : ACalls Try.prog w0 125 args H Q :=
  ACalls.intro2 mixed Try.func125 rfl t125 r125 h

/-- spec.fill -/
def c126 : CC :=
  .op (some 8) none (.q (.mov (.k (.nils))))
  (.op (some 13) none (.q (.mov (.t 2)))
  (.op (some 14) none (.q (.mov (.t 0)))
  (.op (some 15) none (.q (.bin .sub (.t 14) (.k (.int .i64 1))))
  (.op (some 16) none (.q (.bin .eql (.t 13) (.t 15)))
  (.cond (.t 16)
  (.op (some 17) none (.q (.mov (.t 0)))
  (.op (some 18) none (.e (.call (.f 127) [.t 17]))
  (.op (some 19) none (.q (.mov (.t 1)))
  (.op (some 20) none (.e (.call (.f 159) [.t 19]))
  (.op (some 21) none (.q (.build [.nils, .nils] [(0, .t 18), (1, .t 20)]))
  (.op (some 9) none (.l (.alloc 36 [.nils, .nils]))
  (.op none none (.e (.store 2 (.t 9) (.t 21)))
  (.op (some 22) none (.q (.load (some 2) (.t 9)))
  (.op (some 23) none (.e (.call (.f 70) [.t 22]))
  (.cond (.t 23)
  (.op (some 24) none (.q (.fld 1 (.t 9)))
  (.op (some 25) none (.q (.load none (.t 24)))
  (.op (some 26) none (.l (.bsl 31 1 [.nils] 1 [(0, .t 25)]))
  (.op (some 8) none (.q (.mov (.t 26)))
  (.ret)))))
  (.done)
  (.op (some 27) none (.l (.bsl 31 1 [.nils] 0 []))
  (.op (some 8) none (.q (.mov (.t 27)))
  (.ret)))))))))))))
  (.done)
  (.op (some 28) none (.q (.mov (.t 3)))
  (.op (some 29) none (.q (.mov (.t 0)))
  (.op (some 30) none (.q (.bin .sub (.t 29) (.k (.int .i64 1))))
  (.op (some 31) none (.q (.bin .eql (.t 28) (.t 30)))
  (.cond (.t 31)
  (.op (some 32) none (.q (.mov (.t 0)))
  (.op (some 33) none (.q (.mov (.t 1)))
  (.op (some 34) none (.q (.mov (.t 2)))
  (.op (some 35) none (.q (.bin .add (.t 34) (.k (.int .i64 1))))
  (.op (some 36) none (.q (.mov (.t 2)))
  (.op (some 37) none (.q (.bin .add (.t 36) (.k (.int .i64 1))))
  (.op (some 38) none (.e (.call (.f 126) [.t 32, .t 33, .t 35, .t 37]))
  (.op (some 8) none (.q (.mov (.t 38)))
  (.ret)))))))))
  (.done)
  (.op (some 39) none (.l (.bsl 31 1 [.nils] 0 []))
  (.op (some 10) none (.q (.mov (.t 39)))
  (.op (some 11) none (.q (.mov (.k (.int .i64 0))))
  (.block 0
  (.loop
  (.op (some 40) none (.q (.mov (.t 11)))
  (.op (some 41) none (.q (.mov (.t 2)))
  (.op (some 42) none (.q (.mov (.t 3)))
  (.op (some 43) none (.q (.mm false [.t 41, .t 42]))
  (.op (some 44) none (.q (.bin .leq (.t 40) (.t 43)))
  (.cond (.t 44)
  (.done)
  (.exit 0)
  (.block 1
  (.op (some 47) none (.q (.mov (.t 11)))
  (.op (some 48) none (.q (.mov (.t 1)))
  (.op (some 49) none (.q (.mov (.t 2)))
  (.op (some 50) none (.q (.bin .sub (.t 49) (.k (.int .i64 1))))
  (.op (some 51) none (.q (.idx 1 (.t 48) (.t 50)))
  (.op (some 52) none (.q (.load none (.t 51)))
  (.op (some 53) none (.q (.mov (.t 3)))
  (.op (some 54) none (.q (.idx 1 (.t 52) (.t 53)))
  (.op (some 55) none (.q (.load none (.t 54)))
  (.op (some 56) none (.q (.bin .geq (.t 47) (.t 55)))
  (.op (some 57) none (.q (.mov (.t 56)))
  (.op (some 58) (some (57, true)) (.q (.mov (.t 11)))
  (.op (some 59) (some (57, true)) (.q (.mov (.t 1)))
  (.op (some 60) (some (57, true)) (.q (.mov (.t 2)))
  (.op (some 61) (some (57, true)) (.q (.idx 1 (.t 59) (.t 60)))
  (.op (some 62) (some (57, true)) (.q (.load none (.t 61)))
  (.op (some 63) (some (57, true)) (.q (.mov (.t 3)))
  (.op (some 64) (some (57, true)) (.q (.bin .sub (.t 63) (.k (.int .i64 1))))
  (.op (some 65) (some (57, true)) (.q (.idx 1 (.t 62) (.t 64)))
  (.op (some 66) (some (57, true)) (.q (.load none (.t 65)))
  (.op (some 67) (some (57, true)) (.q (.bin .geq (.t 58) (.t 66)))
  (.op (some 68) none (.q (.pick (.t 57) (.t 67) (.k (.bool false))))
  (.cond (.t 68)
  (.op (some 69) none (.q (.mov (.t 1)))
  (.op (some 70) none (.e (.call (.f 159) [.t 69]))
  (.op (some 12) none (.q (.mov (.t 70)))
  (.op (some 71) none (.q (.mov (.t 12)))
  (.op (some 72) none (.q (.mov (.t 2)))
  (.op (some 73) none (.q (.idx 1 (.t 71) (.t 72)))
  (.op (some 74) none (.q (.load none (.t 73)))
  (.op (some 75) none (.q (.mov (.t 3)))
  (.op (some 76) none (.q (.mov (.t 11)))
  (.op (some 77) none (.q (.idx 1 (.t 74) (.t 75)))
  (.op none none (.e (.store 1 (.t 77) (.t 76)))
  (.op (some 78) none (.q (.mov (.t 12)))
  (.op (some 79) none (.q (.mov (.t 3)))
  (.op (some 80) none (.q (.idx 1 (.t 78) (.t 79)))
  (.op (some 81) none (.q (.load none (.t 80)))
  (.op (some 82) none (.q (.mov (.t 2)))
  (.op (some 83) none (.q (.mov (.t 11)))
  (.op (some 84) none (.q (.idx 1 (.t 81) (.t 82)))
  (.op none none (.e (.store 1 (.t 84) (.t 83)))
  (.op (some 85) none (.q (.mov (.t 10)))
  (.op (some 86) none (.q (.mov (.t 0)))
  (.op (some 87) none (.q (.mov (.t 12)))
  (.op (some 88) none (.q (.mov (.t 2)))
  (.op (some 89) none (.q (.mov (.t 3)))
  (.op (some 90) none (.q (.bin .add (.t 89) (.k (.int .i64 1))))
  (.op (some 91) none (.e (.call (.f 126) [.t 86, .t 87, .t 88, .t 90]))
  (.op (some 92) none (.e (.app 31 1 24 (.t 85) (.t 91)))
  (.op (some 10) none (.q (.mov (.t 92)))
  (.done)))))))))))))))))))))))))))))
  (.done)
  (.done))))))))))))))))))))))))
  (.op (some 45) none (.q (.mov (.t 11)))
  (.op (some 46) none (.q (.bin .add (.t 45) (.k (.int .i64 1))))
  (.op (some 11) none (.q (.mov (.t 46)))
  (.done))))))))))))
  (.op (some 93) none (.q (.mov (.t 10)))
  (.op (some 8) none (.q (.mov (.t 93)))
  (.ret)))))))))))))))))
def o126 : Nat → List Nat := fun _ => []
set_option maxRecDepth 100000 in
theorem t126 : (Try.f126.body.map fun c => tr Try.prog o126 Try.f126.ntmps c .done) = some c126 := by kernel_rfl
theorem r126 : trR Try.prog Try.f126.results.toList = some [.t 8] := by kernel_rfl
theorem in126 {w0 : World} {args : List AV} {H : Hp} {Q : AV → Hp → Prop} (h : W Try.prog w0 c126 (retQ [.t 8] Q) (env0 args) H) : ACalls Try.prog w0 126 args H Q :=
  ACalls.intro2 mixed Try.func126 rfl t126 r126 h

/-- spec.chain -/
def c127 : CC :=
  .op (some 2) none (.q (.mov (.k (.nils))))
  (.op (some 5) none (.l (.bsl 3 1 [.int .i64 0] 0 []))
  (.op (some 3) none (.q (.mov (.t 5)))
  (.op (some 4) none (.q (.mov (.k (.int .i64 0))))
  (.block 0
  (.loop
  (.op (some 6) none (.q (.mov (.t 4)))
  (.op (some 7) none (.q (.mov (.t 0)))
  (.op (some 8) none (.q (.bin .lss (.t 6) (.t 7)))
  (.cond (.t 8)
  (.done)
  (.exit 0)
  (.block 1
  (.op (some 11) none (.q (.mov (.t 3)))
  (.op (some 12) none (.q (.mov (.t 0)))
  (.op (some 13) none (.e (.call (.f 82) [.t 12]))
  (.op (some 14) none (.q (.mov (.t 4)))
  (.op (some 15) none (.e (.call (.f 82) [.t 14]))
  (.op (some 16) none (.q (.bin .sub (.t 13) (.t 15)))
  (.op (some 17) none (.l (.bsl 3 1 [.int .i64 0] 1 [(0, .t 16)]))
  (.op (some 18) none (.e (.app 3 1 8 (.t 11) (.t 17)))
  (.op (some 3) none (.q (.mov (.t 18)))
  (.done))))))))))
  (.op (some 9) none (.q (.mov (.t 4)))
  (.op (some 10) none (.q (.bin .add (.t 9) (.k (.int .i64 1))))
  (.op (some 4) none (.q (.mov (.t 10)))
  (.done))))))))))
  (.op (some 19) none (.q (.mov (.t 3)))
  (.op (some 2) none (.q (.mov (.t 19)))
  (.ret)))))))
def o127 : Nat → List Nat := fun _ => []
set_option maxRecDepth 100000 in
theorem t127 : (Try.f127.body.map fun c => tr Try.prog o127 Try.f127.ntmps c .done) = some c127 := by kernel_rfl
theorem r127 : trR Try.prog Try.f127.results.toList = some [.t 2] := by kernel_rfl
theorem in127 {w0 : World} {args : List AV} {H : Hp} {Q : AV → Hp → Prop} (h : W Try.prog w0 c127 (retQ [.t 2] Q) (env0 args) H) : ACalls Try.prog w0 127 args H Q :=
  ACalls.intro2 mixed Try.func127 rfl t127 r127 h

/-- spec.validLattice -/
def c128 : CC :=
  .op (some 2) none (.q (.mov (.k (.bool false))))
  (.op (some 5) none (.q (.mov (.t 0)))
  (.op (some 6) none (.e (.call (.f 160) [.t 5]))
  (.op (some 7) none (.q (.not (.t 6)))
  (.cond (.t 7)
  (.op (some 2) none (.q (.mov (.k (.bool false))))
  (.ret))
  (.done)
  (.op (some 3) none (.q (.mov (.k (.int .i64 0))))
  (.block 0
  (.loop
  (.op (some 8) none (.q (.mov (.t 3)))
  (.op (some 9) none (.q (.mov (.t 0)))
  (.op (some 10) none (.q (.len (.t 9)))
  (.op (some 11) none (.q (.bin .lss (.t 8) (.t 10)))
  (.cond (.t 11)
  (.done)
  (.exit 0)
  (.block 1
  (.op (some 4) none (.q (.mov (.k (.int .i64 0))))
  (.block 2
  (.loop
  (.op (some 14) none (.q (.mov (.t 4)))
  (.op (some 15) none (.q (.mov (.t 0)))
  (.op (some 16) none (.q (.len (.t 15)))
  (.op (some 17) none (.q (.bin .lss (.t 14) (.t 16)))
  (.cond (.t 17)
  (.done)
  (.exit 2)
  (.block 3
  (.op (some 20) none (.q (.mov (.t 0)))
  (.op (some 21) none (.q (.mov (.t 3)))
  (.op (some 22) none (.q (.mov (.t 4)))
  (.op (some 23) none (.e (.call (.f 125) [.t 20, .t 21, .t 22]))
  (.op (some 24) none (.q (.bin .lss (.t 23) (.k (.int .i64 0))))
  (.op (some 25) none (.q (.mov (.t 24)))
  (.op (some 26) (some (25, false)) (.q (.mov (.t 0)))
  (.op (some 27) (some (25, false)) (.q (.mov (.t 3)))
  (.op (some 28) (some (25, false)) (.q (.mov (.t 4)))
  (.op (some 29) (some (25, false)) (.e (.call (.f 123) [.t 26, .t 27, .t 28]))
  (.op (some 30) (some (25, false)) (.q (.bin .lss (.t 29) (.k (.int .i64 0))))
  (.op (some 31) none (.q (.pick (.t 25) (.k (.bool true)) (.t 30)))
  (.cond (.t 31)
  (.op (some 2) none (.q (.mov (.k (.bool false))))
  (.ret))
  (.done)
  (.done))))))))))))))
  (.op (some 18) none (.q (.mov (.t 4)))
  (.op (some 19) none (.q (.bin .add (.t 18) (.k (.int .i64 1))))
  (.op (some 4) none (.q (.mov (.t 19)))
  (.done)))))))))))
  (.done)))
  (.op (some 12) none (.q (.mov (.t 3)))
  (.op (some 13) none (.q (.bin .add (.t 12) (.k (.int .i64 1))))
  (.op (some 3) none (.q (.mov (.t 13)))
  (.done)))))))))))
  (.op (some 2) none (.q (.mov (.k (.bool true))))
  (.ret))))))))
def o128 : Nat → List Nat := fun _ => []
set_option maxRecDepth 100000 in
theorem t128 : (Try.f128.body.map fun c => tr Try.prog o128 Try.f128.ntmps c .done) = some c128 := by kernel_rfl
theorem r128 : trR Try.prog Try.f128.results.toList = some [.t 2] := by kernel_rfl
theorem in128 {w0 : World} {args : List AV} {H : Hp} {Q : AV → Hp → Prop} (h : W Try.prog w0 c128 (retQ [.t 2] Q) (env0 args) H) : ACalls Try.prog w0 128 args H Q :=
  ACalls.intro2 mixed Try.func128 rfl t128 r128 h

/-- spec.isMap -/
def c129 : CC :=
  .op (some 3) none (.l (.box 36 (.t 0)))
  (.op (some 4) none (.l (.box 36 (.t 1)))
  (.op (some 6) none (.q (.mov (.k (.bool false))))
  (.op (some 11) none (.q (.fld 0 (.t 3)))
  (.op (some 12) none (.q (.load none (.t 11)))
  (.op (some 13) none (.q (.len (.t 12)))
  (.op (some 7) none (.q (.mov (.t 13)))
  (.op (some 14) none (.q (.mov (.t 2)))
  (.op (some 15) none (.q (.len (.t 14)))
  (.op (some 16) none (.q (.mov (.t 7)))
  (.op (some 17) none (.q (.bin .neq (.t 15) (.t 16)))
  (.cond (.t 17)
  (.op (some 6) none (.q (.mov (.k (.bool false))))
  (.ret))
  (.done)
  (.op (some 8) none (.q (.mov (.k (.int .i64 0))))
  (.block 0
  (.loop
  (.op (some 18) none (.q (.mov (.t 8)))
  (.op (some 19) none (.q (.mov (.t 7)))
  (.op (some 20) none (.q (.bin .lss (.t 18) (.t 19)))
  (.cond (.t 20)
  (.done)
  (.exit 0)
  (.block 1
  (.draws [⟨0, false, [], (some 23), none, .q (.mov (.t 2))⟩,
    ⟨1, false, [], (some 24), none, .q (.mov (.t 8))⟩,
    ⟨2, false, [], (some 25), none, .q (.idx 1 (.t 23) (.t 24))⟩,
    ⟨3, false, [], (some 26), none, .q (.load none (.t 25))⟩,
    ⟨4, false, [], (some 27), none, .q (.fld 0 (.t 4))⟩,
    ⟨5, false, [], (some 28), none, .q (.load none (.t 27))⟩,
    ⟨6, false, [], (some 29), none, .q (.len (.t 28))⟩,
    ⟨7, false, [], (some 30), none, .q (.bin .sub (.t 29) (.k (.int .i64 1)))⟩,
    ⟨8, false, [], (some 31), none, .e (.call (.f 66) [.t 26, .k (.int .i64 0), .t 30])⟩,
    ⟨9, false, [], (some 32), none, .q (.not (.t 31))⟩] (.cond (.t 32)
  (.op (some 6) none (.q (.mov (.k (.bool false))))
  (.ret))
  (.done)
  (.done)))
  (.op (some 21) none (.q (.mov (.t 8)))
  (.op (some 22) none (.q (.bin .add (.t 21) (.k (.int .i64 1))))
  (.op (some 8) none (.q (.mov (.t 22)))
  (.done))))))))))
  (.draws [⟨0, false, [], (some 33), none, .q (.mov (.t 2))⟩,
    ⟨1, false, [], (some 34), none, .q (.idx 1 (.t 33) (.k (.int .i64 0)))⟩,
    ⟨2, false, [], (some 35), none, .q (.load none (.t 34))⟩,
    ⟨3, false, [], (some 36), none, .q (.bin .neq (.t 35) (.k (.int .i64 0)))⟩,
    ⟨4, false, [], (some 37), none, .q (.mov (.t 36))⟩,
    ⟨5, false, [], (some 38), (some (37, false)), .q (.mov (.t 2))⟩,
    ⟨6, false, [], (some 39), (some (37, false)), .q (.mov (.t 7))⟩,
    ⟨7, false, [], (some 40), (some (37, false)), .q (.bin .sub (.t 39) (.k (.int .i64 1)))⟩,
    ⟨8, false, [], (some 41), (some (37, false)), .q (.idx 1 (.t 38) (.t 40))⟩,
    ⟨9, false, [], (some 42), (some (37, false)), .q (.load none (.t 41))⟩,
    ⟨10, false, [], (some 43), (some (37, false)), .q (.fld 0 (.t 4))⟩,
    ⟨11, false, [], (some 44), (some (37, false)), .q (.load none (.t 43))⟩,
    ⟨12, false, [], (some 45), (some (37, false)), .q (.len (.t 44))⟩,
    ⟨13, false, [], (some 46), (some (37, false)), .q (.bin .sub (.t 45) (.k (.int .i64 1)))⟩,
    ⟨14, false, [], (some 47), (some (37, false)), .q (.bin .neq (.t 42) (.t 46))⟩,
    ⟨15, false, [], (some 48), none, .q (.pick (.t 37) (.k (.bool true)) (.t 47))⟩] (.cond (.t 48)
  (.op (some 6) none (.q (.mov (.k (.bool false))))
  (.ret))
  (.done)
  (.op (some 9) none (.q (.mov (.k (.int .i64 0))))
  (.block 2
  (.loop
  (.op (some 49) none (.q (.mov (.t 9)))
  (.op (some 50) none (.q (.mov (.t 7)))
  (.op (some 51) none (.q (.bin .lss (.t 49) (.t 50)))
  (.cond (.t 51)
  (.done)
  (.exit 2)
  (.block 3
  (.op (some 10) none (.q (.mov (.k (.int .i64 0))))
  (.block 4
  (.loop
  (.op (some 54) none (.q (.mov (.t 10)))
  (.op (some 55) none (.q (.mov (.t 7)))
  (.op (some 56) none (.q (.bin .lss (.t 54) (.t 55)))
  (.cond (.t 56)
  (.done)
  (.exit 4)
  (.block 5
  (.draws [⟨0, false, [], (some 59), none, .q (.mov (.t 2))⟩,
    ⟨1, false, [], (some 60), none, .q (.fld 1 (.t 3))⟩,
    ⟨2, false, [], (some 61), none, .q (.load none (.t 60))⟩,
    ⟨3, false, [], (some 62), none, .q (.mov (.t 9))⟩,
    ⟨4, false, [], (some 63), none, .q (.idx 1 (.t 61) (.t 62))⟩,
    ⟨5, false, [], (some 64), none, .q (.load none (.t 63))⟩,
    ⟨6, false, [], (some 65), none, .q (.mov (.t 10))⟩,
    ⟨7, false, [], (some 66), none, .q (.idx 1 (.t 64) (.t 65))⟩,
    ⟨8, false, [], (some 67), none, .q (.load none (.t 66))⟩,
    ⟨9, false, [], (some 68), none, .q (.idx 1 (.t 59) (.t 67))⟩,
    ⟨10, false, [], (some 69), none, .q (.load none (.t 68))⟩,
    ⟨11, false, [], (some 70), none, .q (.fld 1 (.t 4))⟩,
    ⟨12, false, [], (some 71), none, .q (.load none (.t 70))⟩,
    ⟨13, false, [], (some 72), none, .q (.mov (.t 2))⟩,
    ⟨14, false, [], (some 73), none, .q (.mov (.t 9))⟩,
    ⟨15, false, [], (some 74), none, .q (.idx 1 (.t 72) (.t 73))⟩,
    ⟨16, false, [], (some 75), none, .q (.load none (.t 74))⟩,
    ⟨17, false, [], (some 76), none, .q (.idx 1 (.t 71) (.t 75))⟩,
    ⟨18, false, [], (some 77), none, .q (.load none (.t 76))⟩,
    ⟨19, false, [], (some 78), none, .q (.mov (.t 2))⟩,
    ⟨20, false, [], (some 79), none, .q (.mov (.t 10))⟩,
    ⟨21, false, [], (some 80), none, .q (.idx 1 (.t 78) (.t 79))⟩,
    ⟨22, false, [], (some 81), none, .q (.load none (.t 80))⟩,
    ⟨23, false, [], (some 82), none, .q (.idx 1 (.t 77) (.t 81))⟩,
    ⟨24, false, [], (some 83), none, .q (.load none (.t 82))⟩,
    ⟨25, false, [], (some 84), none, .q (.bin .neq (.t 69) (.t 83))⟩,
    ⟨26, false, [], (some 85), none, .q (.mov (.t 84))⟩,
    ⟨27, false, [], (some 86), (some (85, false)), .q (.mov (.t 2))⟩,
    ⟨28, false, [], (some 87), (some (85, false)), .q (.load (some 2) (.t 3))⟩,
    ⟨29, false, [], (some 88), (some (85, false)), .q (.mov (.t 9))⟩,
    ⟨30, false, [], (some 89), (some (85, false)), .q (.mov (.t 10))⟩,
    ⟨34, true, [], (some 93), (some (85, false)), .q (.load (some 2) (.t 4))⟩,
    ⟨35, false, [], (some 94), (some (85, false)), .q (.mov (.t 2))⟩,
    ⟨36, false, [], (some 95), (some (85, false)), .q (.mov (.t 9))⟩,
    ⟨37, false, [], (some 96), (some (85, false)), .q (.idx 1 (.t 94) (.t 95))⟩,
    ⟨38, true, [], (some 97), (some (85, false)), .q (.load none (.t 96))⟩,
    ⟨39, false, [], (some 98), (some (85, false)), .q (.mov (.t 2))⟩,
    ⟨40, false, [], (some 99), (some (85, false)), .q (.mov (.t 10))⟩,
    ⟨41, false, [], (some 100), (some (85, false)), .q (.idx 1 (.t 98) (.t 99))⟩,
    ⟨42, true, [], (some 101), (some (85, false)), .q (.load none (.t 100))⟩,
    ⟨31, false, [], (some 90), (some (85, false)), .e (.call (.f 124) [.t 87, .t 88, .t 89])⟩,
    ⟨32, false, [], (some 91), (some (85, false)), .q (.idx 1 (.t 86) (.t 90))⟩,
    ⟨33, true, [], (some 92), (some (85, false)), .q (.load none (.t 91))⟩,
    ⟨43, false, [], (some 102), (some (85, false)), .e (.call (.f 124) [.t 93, .t 97, .t 101])⟩,
    ⟨44, false, [], (some 103), (some (85, false)), .q (.bin .neq (.t 92) (.t 102))⟩,
    ⟨45, false, [], (some 104), none, .q (.pick (.t 85) (.k (.bool true)) (.t 103))⟩,
    ⟨46, false, [], (some 105), none, .q (.mov (.t 104))⟩,
    ⟨47, false, [], (some 106), (some (105, false)), .q (.mov (.t 2))⟩,
    ⟨48, false, [], (some 107), (some (105, false)), .q (.fld 0 (.t 3))⟩,
    ⟨49, false, [], (some 108), (some (105, false)), .q (.load none (.t 107))⟩,
    ⟨50, false, [], (some 109), (some (105, false)), .q (.mov (.t 9))⟩,
    ⟨51, false, [], (some 110), (some (105, false)), .q (.mov (.t 10))⟩,
    ⟨55, false, [], (some 114), (some (105, false)), .q (.fld 0 (.t 4))⟩,
    ⟨56, true, [], (some 115), (some (105, false)), .q (.load none (.t 114))⟩,
    ⟨57, false, [], (some 116), (some (105, false)), .q (.mov (.t 2))⟩,
    ⟨58, false, [], (some 117), (some (105, false)), .q (.mov (.t 9))⟩,
    ⟨59, false, [], (some 118), (some (105, false)), .q (.idx 1 (.t 116) (.t 117))⟩,
    ⟨60, true, [], (some 119), (some (105, false)), .q (.load none (.t 118))⟩,
    ⟨61, false, [], (some 120), (some (105, false)), .q (.mov (.t 2))⟩,
    ⟨62, false, [], (some 121), (some (105, false)), .q (.mov (.t 10))⟩,
    ⟨63, false, [], (some 122), (some (105, false)), .q (.idx 1 (.t 120) (.t 121))⟩,
    ⟨64, true, [], (some 123), (some (105, false)), .q (.load none (.t 122))⟩,
    ⟨52, false, [], (some 111), (some (105, false)), .e (.call (.f 125) [.t 108, .t 109, .t 110])⟩,
    ⟨53, false, [], (some 112), (some (105, false)), .q (.idx 1 (.t 106) (.t 111))⟩,
    ⟨54, true, [], (some 113), (some (105, false)), .q (.load none (.t 112))⟩,
    ⟨65, false, [], (some 124), (some (105, false)), .e (.call (.f 125) [.t 115, .t 119, .t 123])⟩,
    ⟨66, false, [], (some 125), (some (105, false)), .q (.bin .neq (.t 113) (.t 124))⟩,
    ⟨67, false, [], (some 126), none, .q (.pick (.t 105) (.k (.bool true)) (.t 125))⟩,
    ⟨68, false, [], (some 127), none, .q (.mov (.t 126))⟩,
    ⟨69, false, [], (some 128), (some (127, false)), .q (.mov (.t 2))⟩,
    ⟨70, false, [], (some 129), (some (127, false)), .q (.fld 0 (.t 3))⟩,
    ⟨71, false, [], (some 130), (some (127, false)), .q (.load none (.t 129))⟩,
    ⟨72, false, [], (some 131), (some (127, false)), .q (.mov (.t 9))⟩,
    ⟨73, false, [], (some 132), (some (127, false)), .q (.mov (.t 10))⟩,
    ⟨77, false, [], (some 136), (some (127, false)), .q (.fld 0 (.t 4))⟩,
    ⟨78, true, [], (some 137), (some (127, false)), .q (.load none (.t 136))⟩,
    ⟨79, false, [], (some 138), (some (127, false)), .q (.mov (.t 2))⟩,
    ⟨80, false, [], (some 139), (some (127, false)), .q (.mov (.t 9))⟩,
    ⟨81, false, [], (some 140), (some (127, false)), .q (.idx 1 (.t 138) (.t 139))⟩,
    ⟨82, true, [], (some 141), (some (127, false)), .q (.load none (.t 140))⟩,
    ⟨83, false, [], (some 142), (some (127, false)), .q (.mov (.t 2))⟩,
    ⟨84, false, [], (some 143), (some (127, false)), .q (.mov (.t 10))⟩,
    ⟨85, false, [], (some 144), (some (127, false)), .q (.idx 1 (.t 142) (.t 143))⟩,
    ⟨86, true, [], (some 145), (some (127, false)), .q (.load none (.t 144))⟩,
    ⟨74, false, [], (some 133), (some (127, false)), .e (.call (.f 123) [.t 130, .t 131, .t 132])⟩,
    ⟨75, false, [], (some 134), (some (127, false)), .q (.idx 1 (.t 128) (.t 133))⟩,
    ⟨76, true, [], (some 135), (some (127, false)), .q (.load none (.t 134))⟩,
    ⟨87, false, [], (some 146), (some (127, false)), .e (.call (.f 123) [.t 137, .t 141, .t 145])⟩,
    ⟨88, false, [], (some 147), (some (127, false)), .q (.bin .neq (.t 135) (.t 146))⟩,
    ⟨89, false, [], (some 148), none, .q (.pick (.t 127) (.k (.bool true)) (.t 147))⟩] (.cond (.t 148)
  (.op (some 6) none (.q (.mov (.k (.bool false))))
  (.ret))
  (.done)
  (.done)))
  (.op (some 57) none (.q (.mov (.t 10)))
  (.op (some 58) none (.q (.bin .add (.t 57) (.k (.int .i64 1))))
  (.op (some 10) none (.q (.mov (.t 58)))
  (.done))))))))))
  (.done)))
  (.op (some 52) none (.q (.mov (.t 9)))
  (.op (some 53) none (.q (.bin .add (.t 52) (.k (.int .i64 1))))
  (.op (some 9) none (.q (.mov (.t 53)))
  (.done))))))))))
  (.op (some 6) none (.q (.mov (.k (.bool true))))
  (.ret)))))))))))))))))))
def o129 : Nat → List Nat := fun i => if i = 17 then [0, 1, 2, 3, 4, 5, 6, 7, 8, 9, 10, 11, 12, 13, 14, 15, 16, 17, 18, 19, 20, 21, 22, 23, 24, 25, 26, 27, 28, 29, 30, 34, 35, 36, 37, 38, 39, 40, 41, 42, 31, 32, 33, 43, 44, 45, 46, 47, 48, 49, 50, 51, 55, 56, 57, 58, 59, 60, 61, 62, 63, 64, 52, 53, 54, 65, 66, 67, 68, 69, 70, 71, 72, 73, 77, 78, 79, 80, 81, 82, 83, 84, 85, 86, 74, 75, 76, 87, 88, 89] else if i = 9 then [0, 1, 2, 3, 4, 5, 6, 7, 8, 9, 10, 11, 12, 13, 14, 15] else if i = 7 then [0, 1, 2, 3, 4, 5, 6, 7, 8, 9] else []
set_option maxRecDepth 100000 in
theorem t129 : (Try.f129.body.map fun c => tr Try.prog o129 Try.f129.ntmps c .done) = some c129 := by kernel_rfl
theorem r129 : trR Try.prog Try.f129.results.toList = some [.t 6] := by kernel_rfl
theorem in129 {w0 : World} {args : List AV} {H : Hp} {Q : AV → Hp → Prop} (h : W Try.prog w0 c129 (retQ [.t 6] Q) (env0 args) H) : ACalls Try.prog w0 129 args H Q :=
  ACalls.intro2 mixed Try.func129 rfl t129 r129 h

/-- spec.fits -/
def c130 : CC :=
  .op (some 3) none (.l (.box 36 (.t 0)))
  (.op (some 4) none (.l (.box 36 (.t 1)))
  (.op (some 6) none (.q (.mov (.k (.bool false))))
  (.op (some 9) none (.q (.mov (.t 2)))
  (.op (some 10) none (.q (.len (.t 9)))
  (.op (some 7) none (.q (.mov (.t 10)))
  (.op (some 8) none (.q (.mov (.k (.int .i64 0))))
  (.block 0
  (.loop
  (.op (some 11) none (.q (.mov (.t 8)))
  (.op (some 12) none (.q (.mov (.t 7)))
  (.op (some 13) none (.q (.bin .lss (.t 11) (.t 12)))
  (.cond (.t 13)
  (.done)
  (.exit 0)
  (.block 1
  (.draws [⟨0, false, [], (some 16), none, .q (.fld 1 (.t 3))⟩,
    ⟨1, false, [], (some 17), none, .q (.load none (.t 16))⟩,
    ⟨2, false, [], (some 18), none, .q (.mov (.t 8))⟩,
    ⟨3, false, [], (some 19), none, .q (.idx 1 (.t 17) (.t 18))⟩,
    ⟨4, false, [], (some 20), none, .q (.load none (.t 19))⟩,
    ⟨5, false, [], (some 21), none, .q (.mov (.t 7))⟩,
    ⟨6, false, [], (some 22), none, .q (.bin .sub (.t 21) (.k (.int .i64 1)))⟩,
    ⟨7, false, [], (some 23), none, .q (.idx 1 (.t 20) (.t 22))⟩,
    ⟨8, false, [], (some 24), none, .q (.load none (.t 23))⟩,
    ⟨9, false, [], (some 25), none, .q (.mov (.t 7))⟩,
    ⟨10, false, [], (some 26), none, .q (.bin .lss (.t 24) (.t 25))⟩,
    ⟨11, false, [], (some 27), none, .q (.mov (.t 26))⟩,
    ⟨12, false, [], (some 28), (some (27, true)), .q (.mov (.t 2))⟩,
    ⟨13, false, [], (some 29), (some (27, true)), .q (.fld 1 (.t 3))⟩,
    ⟨14, false, [], (some 30), (some (27, true)), .q (.load none (.t 29))⟩,
    ⟨15, false, [], (some 31), (some (27, true)), .q (.mov (.t 8))⟩,
    ⟨16, false, [], (some 32), (some (27, true)), .q (.idx 1 (.t 30) (.t 31))⟩,
    ⟨17, false, [], (some 33), (some (27, true)), .q (.load none (.t 32))⟩,
    ⟨18, false, [], (some 34), (some (27, true)), .q (.mov (.t 7))⟩,
    ⟨19, false, [], (some 35), (some (27, true)), .q (.bin .sub (.t 34) (.k (.int .i64 1)))⟩,
    ⟨20, false, [], (some 36), (some (27, true)), .q (.idx 1 (.t 33) (.t 35))⟩,
    ⟨21, false, [], (some 37), (some (27, true)), .q (.load none (.t 36))⟩,
    ⟨22, false, [], (some 38), (some (27, true)), .q (.idx 1 (.t 28) (.t 37))⟩,
    ⟨23, false, [], (some 39), (some (27, true)), .q (.load none (.t 38))⟩,
    ⟨24, false, [], (some 40), (some (27, true)), .q (.fld 1 (.t 4))⟩,
    ⟨25, false, [], (some 41), (some (27, true)), .q (.load none (.t 40))⟩,
    ⟨26, false, [], (some 42), (some (27, true)), .q (.mov (.t 2))⟩,
    ⟨27, false, [], (some 43), (some (27, true)), .q (.mov (.t 8))⟩,
    ⟨28, false, [], (some 44), (some (27, true)), .q (.idx 1 (.t 42) (.t 43))⟩,
    ⟨29, false, [], (some 45), (some (27, true)), .q (.load none (.t 44))⟩,
    ⟨30, false, [], (some 46), (some (27, true)), .q (.idx 1 (.t 41) (.t 45))⟩,
    ⟨31, false, [], (some 47), (some (27, true)), .q (.load none (.t 46))⟩,
    ⟨32, false, [], (some 48), (some (27, true)), .q (.mov (.t 2))⟩,
    ⟨33, false, [], (some 49), (some (27, true)), .q (.mov (.t 7))⟩,
    ⟨34, false, [], (some 50), (some (27, true)), .q (.bin .sub (.t 49) (.k (.int .i64 1)))⟩,
    ⟨35, false, [], (some 51), (some (27, true)), .q (.idx 1 (.t 48) (.t 50))⟩,
    ⟨36, false, [], (some 52), (some (27, true)), .q (.load none (.t 51))⟩,
    ⟨37, false, [], (some 53), (some (27, true)), .q (.idx 1 (.t 47) (.t 52))⟩,
    ⟨38, false, [], (some 54), (some (27, true)), .q (.load none (.t 53))⟩,
    ⟨39, false, [], (some 55), (some (27, true)), .q (.bin .neq (.t 39) (.t 54))⟩,
    ⟨40, false, [], (some 56), none, .q (.pick (.t 27) (.t 55) (.k (.bool false)))⟩,
    ⟨41, false, [], (some 57), none, .q (.mov (.t 56))⟩,
    ⟨42, false, [], (some 58), (some (57, false)), .q (.fld 0 (.t 3))⟩,
    ⟨43, false, [], (some 59), (some (57, false)), .q (.load none (.t 58))⟩,
    ⟨44, false, [], (some 60), (some (57, false)), .q (.mov (.t 8))⟩,
    ⟨45, false, [], (some 61), (some (57, false)), .q (.mov (.t 7))⟩,
    ⟨46, false, [], (some 62), (some (57, false)), .q (.bin .sub (.t 61) (.k (.int .i64 1)))⟩,
    ⟨47, false, [], (some 63), (some (57, false)), .e (.call (.f 93) [.t 59, .t 60, .t 62])⟩,
    ⟨48, false, [], (some 64), (some (57, false)), .q (.mov (.t 63))⟩,
    ⟨49, false, [], (some 65), (some (64, true)), .q (.fld 0 (.t 4))⟩,
    ⟨50, false, [], (some 66), (some (64, true)), .q (.load none (.t 65))⟩,
    ⟨51, false, [], (some 67), (some (64, true)), .q (.mov (.t 2))⟩,
    ⟨52, false, [], (some 68), (some (64, true)), .q (.mov (.t 8))⟩,
    ⟨53, false, [], (some 69), (some (64, true)), .q (.idx 1 (.t 67) (.t 68))⟩,
    ⟨54, false, [], (some 70), (some (64, true)), .q (.load none (.t 69))⟩,
    ⟨55, false, [], (some 71), (some (64, true)), .q (.mov (.t 2))⟩,
    ⟨56, false, [], (some 72), (some (64, true)), .q (.mov (.t 7))⟩,
    ⟨57, false, [], (some 73), (some (64, true)), .q (.bin .sub (.t 72) (.k (.int .i64 1)))⟩,
    ⟨58, false, [], (some 74), (some (64, true)), .q (.idx 1 (.t 71) (.t 73))⟩,
    ⟨59, false, [], (some 75), (some (64, true)), .q (.load none (.t 74))⟩,
    ⟨60, false, [], (some 76), (some (64, true)), .e (.call (.f 93) [.t 66, .t 70, .t 75])⟩,
    ⟨61, false, [], (some 77), (some (64, true)), .q (.not (.t 76))⟩,
    ⟨62, false, [], (some 78), (some (57, false)), .q (.pick (.t 64) (.t 77) (.k (.bool false)))⟩,
    ⟨63, false, [], (some 79), none, .q (.pick (.t 57) (.k (.bool true)) (.t 78))⟩,
    ⟨64, false, [], (some 80), none, .q (.mov (.t 79))⟩,
    ⟨65, false, [], (some 81), (some (80, false)), .q (.fld 0 (.t 3))⟩,
    ⟨66, false, [], (some 82), (some (80, false)), .q (.load none (.t 81))⟩,
    ⟨67, false, [], (some 83), (some (80, false)), .q (.mov (.t 7))⟩,
    ⟨68, false, [], (some 84), (some (80, false)), .q (.bin .sub (.t 83) (.k (.int .i64 1)))⟩,
    ⟨69, false, [], (some 85), (some (80, false)), .q (.mov (.t 8))⟩,
    ⟨70, false, [], (some 86), (some (80, false)), .e (.call (.f 93) [.t 82, .t 84, .t 85])⟩,
    ⟨71, false, [], (some 87), (some (80, false)), .q (.mov (.t 86))⟩,
    ⟨72, false, [], (some 88), (some (87, true)), .q (.fld 0 (.t 4))⟩,
    ⟨73, false, [], (some 89), (some (87, true)), .q (.load none (.t 88))⟩,
    ⟨74, false, [], (some 90), (some (87, true)), .q (.mov (.t 2))⟩,
    ⟨75, false, [], (some 91), (some (87, true)), .q (.mov (.t 7))⟩,
    ⟨76, false, [], (some 92), (some (87, true)), .q (.bin .sub (.t 91) (.k (.int .i64 1)))⟩,
    ⟨77, false, [], (some 93), (some (87, true)), .q (.idx 1 (.t 90) (.t 92))⟩,
    ⟨78, false, [], (some 94), (some (87, true)), .q (.load none (.t 93))⟩,
    ⟨79, false, [], (some 95), (some (87, true)), .q (.mov (.t 2))⟩,
    ⟨80, false, [], (some 96), (some (87, true)), .q (.mov (.t 8))⟩,
    ⟨81, false, [], (some 97), (some (87, true)), .q (.idx 1 (.t 95) (.t 96))⟩,
    ⟨82, false, [], (some 98), (some (87, true)), .q (.load none (.t 97))⟩,
    ⟨83, false, [], (some 99), (some (87, true)), .e (.call (.f 93) [.t 89, .t 94, .t 98])⟩,
    ⟨84, false, [], (some 100), (some (87, true)), .q (.not (.t 99))⟩,
    ⟨85, false, [], (some 101), (some (80, false)), .q (.pick (.t 87) (.t 100) (.k (.bool false)))⟩,
    ⟨86, false, [], (some 102), none, .q (.pick (.t 80) (.k (.bool true)) (.t 101))⟩] (.cond (.t 102)
  (.op (some 6) none (.q (.mov (.k (.bool false))))
  (.ret))
  (.done)
  (.done)))
  (.op (some 14) none (.q (.mov (.t 8)))
  (.op (some 15) none (.q (.bin .add (.t 14) (.k (.int .i64 1))))
  (.op (some 8) none (.q (.mov (.t 15)))
  (.done))))))))))
  (.op (some 6) none (.q (.mov (.k (.bool true))))
  (.ret)))))))))
def o130 : Nat → List Nat := fun i => if i = 5 then [0, 1, 2, 3, 4, 5, 6, 7, 8, 9, 10, 11, 12, 13, 14, 15, 16, 17, 18, 19, 20, 21, 22, 23, 24, 25, 26, 27, 28, 29, 30, 31, 32, 33, 34, 35, 36, 37, 38, 39, 40, 41, 42, 43, 44, 45, 46, 47, 48, 49, 50, 51, 52, 53, 54, 55, 56, 57, 58, 59, 60, 61, 62, 63, 64, 65, 66, 67, 68, 69, 70, 71, 72, 73, 74, 75, 76, 77, 78, 79, 80, 81, 82, 83, 84, 85, 86] else []
set_option maxRecDepth 100000 in
theorem t130 : (Try.f130.body.map fun c => tr Try.prog o130 Try.f130.ntmps c .done) = some c130 := by kernel_rfl
theorem r130 : trR Try.prog Try.f130.results.toList = some [.t 6] := by kernel_rfl
theorem in130 {w0 : World} {args : List AV} {H : Hp} {Q : AV → Hp → Prop} (h : W Try.prog w0 c130 (retQ [.t 6] Q) (env0 args) H) : ACalls Try.prog w0 130 args H Q :=
  ACalls.intro2 mixed Try.func130 rfl t130 r130 h

/-- slices.Repeat[[]int,int] -/
def c131 : CC :=
  .op (some 4) none (.q (.mov (.k (.nils))))
  (.op (some 9) none (.q (.mov (.t 1)))
  (.op (some 10) none (.q (.bin .lss (.t 9) (.k (.int .i64 0))))
  (.cond (.t 10)
  (.op (some 11) none (.q (.bad))
  (.op none none (.q (.bad))
  (.done)))
  (.done)
  (.op (some 13) none (.q (.mov (.t 0)))
  (.op (some 14) none (.q (.len (.t 13)))
  (.op (some 15) none (.q (.conv .u64 (.t 14)))
  (.op (some 16) none (.q (.mov (.t 1)))
  (.op (some 17) none (.q (.conv .u64 (.t 16)))
  (.op (some 18) none (.e (.call (.f 161) [.t 15, .t 17]))
  (.op (some 12) none (.q (.mov (.t 18)))
  (.op (some 19) none (.q (.ext (.t 12) 0))
  (.op (some 20) none (.q (.ext (.t 12) 1))
  (.op (some 5) none (.q (.mov (.t 19)))
  (.op (some 6) none (.q (.mov (.t 20)))
  (.op (some 21) none (.q (.mov (.t 5)))
  (.op (some 22) none (.q (.bin .gtr (.t 21) (.k (.int .u64 0))))
  (.op (some 23) none (.q (.mov (.t 22)))
  (.op (some 24) (some (23, false)) (.q (.mov (.t 6)))
  (.op (some 25) (some (23, false)) (.q (.bin .gtr (.t 24) (.k (.int .u64 9223372036854775807))))
  (.op (some 26) none (.q (.pick (.t 23) (.k (.bool true)) (.t 25)))
  (.cond (.t 26)
  (.op (some 27) none (.q (.bad))
  (.op none none (.q (.bad))
  (.done)))
  (.done)
  (.op (some 28) none (.q (.mov (.t 6)))
  (.op (some 29) none (.q (.conv .i64 (.t 28)))
  (.op (some 30) none (.l (.mk 3 8 [.int .i64 0] (.t 29) (.t 29)))
  (.op (some 7) none (.q (.mov (.t 30)))
  (.op (some 31) none (.q (.mov (.t 7)))
  (.op (some 32) none (.q (.mov (.t 0)))
  (.op (some 33) none (.e (.copy 1 (.t 31) (.t 32)))
  (.op (some 8) none (.q (.mov (.t 33)))
  (.block 0
  (.loop
  (.op (some 34) none (.q (.mov (.t 8)))
  (.op (some 35) none (.q (.mov (.t 7)))
  (.op (some 36) none (.q (.len (.t 35)))
  (.op (some 37) none (.q (.bin .lss (.t 34) (.t 36)))
  (.cond (.t 37)
  (.done)
  (.exit 0)
  (.block 1
  (.draws [⟨0, false, [], (some 38), none, .q (.mov (.t 8))⟩,
    ⟨1, false, [], (some 39), none, .q (.mov (.t 7))⟩,
    ⟨2, false, [], (some 40), none, .q (.mov (.t 8))⟩,
    ⟨3, false, [], (some 41), none, .q (.slc 1 (.t 39) (some (.t 40)) none)⟩,
    ⟨4, false, [], (some 42), none, .q (.mov (.t 7))⟩,
    ⟨5, false, [], (some 43), none, .q (.mov (.t 8))⟩,
    ⟨6, false, [], (some 44), none, .q (.slc 1 (.t 42) none (some (.t 43)))⟩,
    ⟨7, false, [], (some 45), none, .e (.copy 1 (.t 41) (.t 44))⟩,
    ⟨8, false, [], (some 46), none, .q (.bin .add (.t 38) (.t 45))⟩,
    ⟨9, false, [], (some 8), none, .q (.mov (.t 46))⟩] (.done))
  (.done))))))))
  (.op (some 47) none (.q (.mov (.t 7)))
  (.op (some 4) none (.q (.mov (.t 47)))
  (.ret)))))))))))))))))))))))))))))))))
def o131 : Nat → List Nat := fun i => if i = 9 then [0, 1, 2, 3, 4, 5, 6, 7, 8, 9] else []
set_option maxRecDepth 100000 in
theorem t131 : (Try.f131.body.map fun c => tr Try.prog o131 Try.f131.ntmps c .done) = some c131 := by kernel_rfl
theorem r131 : trR Try.prog Try.f131.results.toList = some [.t 4] := by kernel_rfl
theorem in131 {w0 : World} {args : List AV} {H : Hp} {Q : AV → Hp → Prop} (h : W Try.prog w0 c131 (retQ [.t 4] Q) (env0 args) H) : ACalls Try.prog w0 131 args H Q :=
  ACalls.intro2 mixed Try.func131 rfl t131 r131 h

/-- impl.eachList -/
def c132 : CC :=
  .op (some 6) none (.q (.mov (.t 0)))
  (.op (some 7) none (.q (.len (.t 6)))
  (.op (some 8) none (.l (.mk 3 8 [.int .i64 0] (.t 7) (.t 7)))
  (.op (some 4) none (.q (.mov (.t 8)))
  (.block 0
  (.loop
  (.block 1
  (.op (some 9) none (.q (.mov (.t 1)))
  (.op (some 10) none (.q (.mov (.t 4)))
  (.op (some 11) none (.e (.call (.t 9) [.t 10]))
  (.op (some 12) none (.q (.mov (.t 4)))
  (.op (some 13) none (.q (.len (.t 12)))
  (.op (some 14) none (.q (.bin .sub (.t 13) (.k (.int .i64 1))))
  (.op (some 5) none (.q (.mov (.t 14)))
  (.block 2
  (.loop
  (.draws [⟨0, false, [], (some 15), none, .q (.mov (.t 5))⟩,
    ⟨1, false, [], (some 16), none, .q (.bin .geq (.t 15) (.k (.int .i64 0)))⟩,
    ⟨2, false, [], (some 17), none, .q (.mov (.t 16))⟩,
    ⟨3, false, [], (some 18), (some (17, true)), .q (.mov (.t 4))⟩,
    ⟨4, false, [], (some 19), (some (17, true)), .q (.mov (.t 5))⟩,
    ⟨5, false, [], (some 20), (some (17, true)), .q (.idx 1 (.t 18) (.t 19))⟩,
    ⟨6, false, [], (some 21), (some (17, true)), .q (.load none (.t 20))⟩,
    ⟨7, false, [], (some 22), (some (17, true)), .q (.mov (.t 0))⟩,
    ⟨8, false, [], (some 23), (some (17, true)), .q (.mov (.t 5))⟩,
    ⟨9, false, [], (some 24), (some (17, true)), .q (.idx 1 (.t 22) (.t 23))⟩,
    ⟨10, false, [], (some 25), (some (17, true)), .q (.load none (.t 24))⟩,
    ⟨11, false, [], (some 26), (some (17, true)), .q (.bin .eql (.t 21) (.t 25))⟩,
    ⟨12, false, [], (some 27), none, .q (.pick (.t 17) (.t 26) (.k (.bool false)))⟩] (.cond (.t 27)
  (.done)
  (.exit 2)
  (.block 3
  (.op (some 28) none (.q (.mov (.t 4)))
  (.op (some 29) none (.q (.mov (.t 5)))
  (.op (some 30) none (.q (.idx 1 (.t 28) (.t 29)))
  (.op none none (.e (.store 1 (.t 30) (.k (.int .i64 0))))
  (.op (some 31) none (.q (.mov (.t 5)))
  (.op (some 32) none (.q (.bin .sub (.t 31) (.k (.int .i64 1))))
  (.op (some 5) none (.q (.mov (.t 32)))
  (.done))))))))
  (.done)))))
  (.op (some 33) none (.q (.mov (.t 5)))
  (.op (some 34) none (.q (.bin .lss (.t 33) (.k (.int .i64 0))))
  (.cond (.t 34)
  (.ret)
  (.done)
  (.op (some 35) none (.q (.mov (.t 4)))
  (.op (some 36) none (.q (.mov (.t 5)))
  (.op (some 37) none (.q (.idx 1 (.t 35) (.t 36)))
  (.op (some 38) none (.q (.load none (.t 37)))
  (.op (some 39) none (.q (.bin .add (.t 38) (.k (.int .i64 1))))
  (.op (some 40) none (.q (.idx 1 (.t 35) (.t 36)))
  (.op none none (.e (.store 1 (.t 40) (.t 39)))
  (.done)))))))))))))))))))
  (.done)))
  (.done)))))
def o132 : Nat → List Nat := fun i => if i = 3 then [0, 1, 2, 3, 4, 5, 6, 7, 8, 9, 10, 11, 12] else []
set_option maxRecDepth 100000 in
theorem t132 : (Try.f132.body.map fun c => tr Try.prog o132 Try.f132.ntmps c .done) = some c132 := by kernel_rfl
theorem r132 : trR Try.prog Try.f132.results.toList = some [] := by kernel_rfl
theorem in132 {w0 : World} {args : List AV} {H : Hp} {Q : AV → Hp → Prop} (h : W Try.prog w0 c132 (retQ [] Q) (env0 args) H) : ACalls Try.prog w0 132 args H Q :=
  ACalls.intro2 mixed Try.func132 rfl t132 r132 h

/-- impl.maps$1 -/
def c133 : CC :=
  .op (some 7) none (.l (.bsl 3 1 [.int .i64 0] 1 [(0, .k (.int .i64 0))]))
  (.op (some 8) none (.q (.mov (.t 0)))
  (.op (some 9) none (.e (.app 3 1 8 (.t 7) (.t 8)))
  (.op (some 6) none (.q (.mov (.t 9)))
  (.op (some 10) none (.q (.fld 0 (.t 1)))
  (.op (some 11) none (.q (.load none (.t 10)))
  (.op (some 12) none (.q (.len (.t 11)))
  (.op (some 13) none (.q (.bin .gtr (.t 12) (.k (.int .i64 1))))
  (.cond (.t 13)
  (.op (some 14) none (.q (.mov (.t 6)))
  (.op (some 15) none (.q (.load none (.t 2)))
  (.op (some 16) none (.l (.bsl 3 1 [.int .i64 0] 1 [(0, .t 15)]))
  (.op (some 17) none (.e (.app 3 1 8 (.t 14) (.t 16)))
  (.op (some 6) none (.q (.mov (.t 17)))
  (.done))))))
  (.done)
  (.op (some 18) none (.q (.load (some 2) (.t 1)))
  (.op (some 19) none (.q (.load (some 2) (.t 3)))
  (.op (some 20) none (.q (.mov (.t 6)))
  (.op (some 21) none (.e (.call (.f 134) [.t 18, .t 19, .t 20]))
  (.cond (.t 21)
  (.op (some 22) none (.q (.load none (.t 4)))
  (.op (some 23) none (.q (.mov (.t 6)))
  (.op (some 24) none (.l (.bsl 30 1 [.nils] 1 [(0, .t 23)]))
  (.op (some 25) none (.e (.app 30 1 24 (.t 22) (.t 24)))
  (.op none none (.e (.store 1 (.t 4) (.t 25)))
  (.done))))))
  (.done)
  (.done))))))))))))))
def o133 : Nat → List Nat := fun _ => []
set_option maxRecDepth 100000 in
theorem t133 : (Try.f133.body.map fun c => tr Try.prog o133 Try.f133.ntmps c .done) = some c133 := by kernel_rfl
theorem r133 : trR Try.prog Try.f133.results.toList = some [] := by kernel_rfl
theorem in133 {w0 : World} {args : List AV} {H : Hp} {Q : AV → Hp → Prop} (h : W Try.prog w0 c133 (retQ [] Q) (env0 args) H) : ACalls Try.prog w0 133 args H Q :=
  ACalls.intro2 mixed Try.func133 rfl t133 r133 h

/-- impl.isMap -/
def c134 : CC :=
  .op (some 3) none (.l (.box 36 (.t 0)))
  (.op (some 4) none (.l (.box 36 (.t 1)))
  (.op (some 6) none (.q (.mov (.k (.bool false))))
  (.op (some 9) none (.q (.mov (.t 2)))
  (.op (some 10) none (.q (.len (.t 9)))
  (.op (some 11) none (.q (.fld 0 (.t 3)))
  (.op (some 12) none (.q (.load none (.t 11)))
  (.op (some 13) none (.q (.len (.t 12)))
  (.op (some 14) none (.q (.bin .neq (.t 10) (.t 13)))
  (.op (some 15) none (.q (.mov (.t 14)))
  (.op (some 16) (some (15, false)) (.q (.mov (.t 2)))
  (.op (some 17) (some (15, false)) (.q (.mkf 162 [.t 4]))
  (.op (some 18) (some (15, false)) (.e (.call (.f 112) [.t 16, .t 17]))
  (.op (some 19) none (.q (.pick (.t 15) (.k (.bool true)) (.t 18)))
  (.cond (.t 19)
  (.op (some 6) none (.q (.mov (.k (.bool false))))
  (.ret))
  (.done)
  (.draws [⟨0, false, [], (some 20), none, .q (.mov (.t 2))⟩,
    ⟨1, false, [], (some 21), none, .q (.idx 1 (.t 20) (.k (.int .i64 0)))⟩,
    ⟨2, false, [], (some 22), none, .q (.load none (.t 21))⟩,
    ⟨3, false, [], (some 23), none, .q (.bin .neq (.t 22) (.k (.int .i64 0)))⟩,
    ⟨4, false, [], (some 24), none, .q (.mov (.t 23))⟩,
    ⟨5, false, [], (some 25), (some (24, false)), .q (.mov (.t 2))⟩,
    ⟨6, false, [], (some 26), (some (24, false)), .q (.mov (.t 2))⟩,
    ⟨7, false, [], (some 27), (some (24, false)), .q (.len (.t 26))⟩,
    ⟨8, false, [], (some 28), (some (24, false)), .q (.bin .sub (.t 27) (.k (.int .i64 1)))⟩,
    ⟨9, false, [], (some 29), (some (24, false)), .q (.idx 1 (.t 25) (.t 28))⟩,
    ⟨10, false, [], (some 30), (some (24, false)), .q (.load none (.t 29))⟩,
    ⟨11, false, [], (some 31), (some (24, false)), .q (.fld 0 (.t 4))⟩,
    ⟨12, false, [], (some 32), (some (24, false)), .q (.load none (.t 31))⟩,
    ⟨13, false, [], (some 33), (some (24, false)), .q (.len (.t 32))⟩,
    ⟨14, false, [], (some 34), (some (24, false)), .q (.bin .sub (.t 33) (.k (.int .i64 1)))⟩,
    ⟨15, false, [], (some 35), (some (24, false)), .q (.bin .neq (.t 30) (.t 34))⟩,
    ⟨16, false, [], (some 36), none, .q (.pick (.t 24) (.k (.bool true)) (.t 35))⟩] (.cond (.t 36)
  (.op (some 6) none (.q (.mov (.k (.bool false))))
  (.ret))
  (.done)
  (.op (some 37) none (.q (.mov (.t 2)))
  (.op (some 38) none (.q (.len (.t 37)))
  (.op (some 39) none (.q (.mov (.k (.int .i64 0))))
  (.block 0
  (.loop
  (.op (some 40) none (.q (.bin .lss (.t 39) (.t 38)))
  (.cond (.t 40)
  (.done)
  (.exit 0)
  (.block 1
  (.op (some 41) none (.q (.mov (.t 39)))
  (.op (some 7) none (.q (.mov (.t 41)))
  (.op (some 42) none (.q (.mov (.t 2)))
  (.op (some 43) none (.q (.len (.t 42)))
  (.op (some 44) none (.q (.mov (.k (.int .i64 0))))
  (.block 2
  (.loop
  (.op (some 45) none (.q (.bin .lss (.t 44) (.t 43)))
  (.cond (.t 45)
  (.done)
  (.exit 2)
  (.block 3
  (.op (some 46) none (.q (.mov (.t 44)))
  (.op (some 8) none (.q (.mov (.t 46)))
  (.draws [⟨0, false, [], (some 47), none, .q (.mov (.t 2))⟩,
    ⟨1, false, [], (some 48), none, .q (.fld 1 (.t 3))⟩,
    ⟨2, false, [], (some 49), none, .q (.load none (.t 48))⟩,
    ⟨3, false, [], (some 50), none, .q (.mov (.t 7))⟩,
    ⟨4, false, [], (some 51), none, .q (.idx 1 (.t 49) (.t 50))⟩,
    ⟨5, false, [], (some 52), none, .q (.load none (.t 51))⟩,
    ⟨6, false, [], (some 53), none, .q (.mov (.t 8))⟩,
    ⟨7, false, [], (some 54), none, .q (.idx 1 (.t 52) (.t 53))⟩,
    ⟨8, false, [], (some 55), none, .q (.load none (.t 54))⟩,
    ⟨9, false, [], (some 56), none, .q (.idx 1 (.t 47) (.t 55))⟩,
    ⟨10, false, [], (some 57), none, .q (.load none (.t 56))⟩,
    ⟨11, false, [], (some 58), none, .q (.fld 1 (.t 4))⟩,
    ⟨12, false, [], (some 59), none, .q (.load none (.t 58))⟩,
    ⟨13, false, [], (some 60), none, .q (.mov (.t 2))⟩,
    ⟨14, false, [], (some 61), none, .q (.mov (.t 7))⟩,
    ⟨15, false, [], (some 62), none, .q (.idx 1 (.t 60) (.t 61))⟩,
    ⟨16, false, [], (some 63), none, .q (.load none (.t 62))⟩,
    ⟨17, false, [], (some 64), none, .q (.idx 1 (.t 59) (.t 63))⟩,
    ⟨18, false, [], (some 65), none, .q (.load none (.t 64))⟩,
    ⟨19, false, [], (some 66), none, .q (.mov (.t 2))⟩,
    ⟨20, false, [], (some 67), none, .q (.mov (.t 8))⟩,
    ⟨21, false, [], (some 68), none, .q (.idx 1 (.t 66) (.t 67))⟩,
    ⟨22, false, [], (some 69), none, .q (.load none (.t 68))⟩,
    ⟨23, false, [], (some 70), none, .q (.idx 1 (.t 65) (.t 69))⟩,
    ⟨24, false, [], (some 71), none, .q (.load none (.t 70))⟩,
    ⟨25, false, [], (some 72), none, .q (.bin .neq (.t 57) (.t 71))⟩,
    ⟨26, false, [], (some 73), none, .q (.mov (.t 72))⟩,
    ⟨27, false, [], (some 74), (some (73, false)), .q (.mov (.t 2))⟩,
    ⟨28, false, [], (some 75), (some (73, false)), .q (.load (some 2) (.t 3))⟩,
    ⟨29, false, [], (some 76), (some (73, false)), .q (.mov (.t 7))⟩,
    ⟨30, false, [], (some 77), (some (73, false)), .q (.mov (.t 8))⟩,
    ⟨34, true, [], (some 81), (some (73, false)), .q (.load (some 2) (.t 4))⟩,
    ⟨35, false, [], (some 82), (some (73, false)), .q (.mov (.t 2))⟩,
    ⟨36, false, [], (some 83), (some (73, false)), .q (.mov (.t 7))⟩,
    ⟨37, false, [], (some 84), (some (73, false)), .q (.idx 1 (.t 82) (.t 83))⟩,
    ⟨38, true, [], (some 85), (some (73, false)), .q (.load none (.t 84))⟩,
    ⟨39, false, [], (some 86), (some (73, false)), .q (.mov (.t 2))⟩,
    ⟨40, false, [], (some 87), (some (73, false)), .q (.mov (.t 8))⟩,
    ⟨41, false, [], (some 88), (some (73, false)), .q (.idx 1 (.t 86) (.t 87))⟩,
    ⟨42, true, [], (some 89), (some (73, false)), .q (.load none (.t 88))⟩,
    ⟨31, false, [], (some 78), (some (73, false)), .e (.call (.f 90) [.t 75, .t 76, .t 77])⟩,
    ⟨32, false, [], (some 79), (some (73, false)), .q (.idx 1 (.t 74) (.t 78))⟩,
    ⟨33, true, [], (some 80), (some (73, false)), .q (.load none (.t 79))⟩,
    ⟨43, false, [], (some 90), (some (73, false)), .e (.call (.f 90) [.t 81, .t 85, .t 89])⟩,
    ⟨44, false, [], (some 91), (some (73, false)), .q (.bin .neq (.t 80) (.t 90))⟩,
    ⟨45, false, [], (some 92), none, .q (.pick (.t 73) (.k (.bool true)) (.t 91))⟩,
    ⟨46, false, [], (some 93), none, .q (.mov (.t 92))⟩,
    ⟨47, false, [], (some 94), (some (93, false)), .q (.mov (.t 2))⟩,
    ⟨48, false, [], (some 95), (some (93, false)), .q (.fld 0 (.t 3))⟩,
    ⟨49, false, [], (some 96), (some (93, false)), .q (.load none (.t 95))⟩,
    ⟨50, false, [], (some 97), (some (93, false)), .q (.mov (.t 7))⟩,
    ⟨51, false, [], (some 98), (some (93, false)), .q (.mov (.t 8))⟩,
    ⟨55, false, [], (some 102), (some (93, false)), .q (.fld 0 (.t 4))⟩,
    ⟨56, true, [], (some 103), (some (93, false)), .q (.load none (.t 102))⟩,
    ⟨57, false, [], (some 104), (some (93, false)), .q (.mov (.t 2))⟩,
    ⟨58, false, [], (some 105), (some (93, false)), .q (.mov (.t 7))⟩,
    ⟨59, false, [], (some 106), (some (93, false)), .q (.idx 1 (.t 104) (.t 105))⟩,
    ⟨60, true, [], (some 107), (some (93, false)), .q (.load none (.t 106))⟩,
    ⟨61, false, [], (some 108), (some (93, false)), .q (.mov (.t 2))⟩,
    ⟨62, false, [], (some 109), (some (93, false)), .q (.mov (.t 8))⟩,
    ⟨63, false, [], (some 110), (some (93, false)), .q (.idx 1 (.t 108) (.t 109))⟩,
    ⟨64, true, [], (some 111), (some (93, false)), .q (.load none (.t 110))⟩,
    ⟨52, false, [], (some 99), (some (93, false)), .e (.call (.f 153) [.t 96, .t 97, .t 98])⟩,
    ⟨53, false, [], (some 100), (some (93, false)), .q (.idx 1 (.t 94) (.t 99))⟩,
    ⟨54, true, [], (some 101), (some (93, false)), .q (.load none (.t 100))⟩,
    ⟨65, false, [], (some 112), (some (93, false)), .e (.call (.f 153) [.t 103, .t 107, .t 111])⟩,
    ⟨66, false, [], (some 113), (some (93, false)), .q (.bin .neq (.t 101) (.t 112))⟩,
    ⟨67, false, [], (some 114), none, .q (.pick (.t 93) (.k (.bool true)) (.t 113))⟩,
    ⟨68, false, [], (some 115), none, .q (.mov (.t 114))⟩,
    ⟨69, false, [], (some 116), (some (115, false)), .q (.mov (.t 2))⟩,
    ⟨70, false, [], (some 117), (some (115, false)), .q (.fld 0 (.t 3))⟩,
    ⟨71, false, [], (some 118), (some (115, false)), .q (.load none (.t 117))⟩,
    ⟨72, false, [], (some 119), (some (115, false)), .q (.mov (.t 7))⟩,
    ⟨73, false, [], (some 120), (some (115, false)), .q (.mov (.t 8))⟩,
    ⟨77, false, [], (some 124), (some (115, false)), .q (.fld 0 (.t 4))⟩,
    ⟨78, true, [], (some 125), (some (115, false)), .q (.load none (.t 124))⟩,
    ⟨79, false, [], (some 126), (some (115, false)), .q (.mov (.t 2))⟩,
    ⟨80, false, [], (some 127), (some (115, false)), .q (.mov (.t 7))⟩,
    ⟨81, false, [], (some 128), (some (115, false)), .q (.idx 1 (.t 126) (.t 127))⟩,
    ⟨82, true, [], (some 129), (some (115, false)), .q (.load none (.t 128))⟩,
    ⟨83, false, [], (some 130), (some (115, false)), .q (.mov (.t 2))⟩,
    ⟨84, false, [], (some 131), (some (115, false)), .q (.mov (.t 8))⟩,
    ⟨85, false, [], (some 132), (some (115, false)), .q (.idx 1 (.t 130) (.t 131))⟩,
    ⟨86, true, [], (some 133), (some (115, false)), .q (.load none (.t 132))⟩,
    ⟨74, false, [], (some 121), (some (115, false)), .e (.call (.f 114) [.t 118, .t 119, .t 120])⟩,
    ⟨75, false, [], (some 122), (some (115, false)), .q (.idx 1 (.t 116) (.t 121))⟩,
    ⟨76, true, [], (some 123), (some (115, false)), .q (.load none (.t 122))⟩,
    ⟨87, false, [], (some 134), (some (115, false)), .e (.call (.f 114) [.t 125, .t 129, .t 133])⟩,
    ⟨88, false, [], (some 135), (some (115, false)), .q (.bin .neq (.t 123) (.t 134))⟩,
    ⟨89, false, [], (some 136), none, .q (.pick (.t 115) (.k (.bool true)) (.t 135))⟩] (.cond (.t 136)
  (.op (some 6) none (.q (.mov (.k (.bool false))))
  (.ret))
  (.done)
  (.done)))))
  (.op (some 137) none (.q (.bin .add (.t 44) (.k (.int .i64 1))))
  (.op (some 44) none (.q (.mov (.t 137)))
  (.done)))))))
  (.done)))))))
  (.op (some 138) none (.q (.bin .add (.t 39) (.k (.int .i64 1))))
  (.op (some 39) none (.q (.mov (.t 138)))
  (.done)))))))
  (.op (some 6) none (.q (.mov (.k (.bool true))))
  (.ret))))))))))))))))))))))
def o134 : Nat → List Nat := fun i => if i = 11 then [0, 1, 2, 3, 4, 5, 6, 7, 8, 9, 10, 11, 12, 13, 14, 15, 16, 17, 18, 19, 20, 21, 22, 23, 24, 25, 26, 27, 28, 29, 30, 34, 35, 36, 37, 38, 39, 40, 41, 42, 31, 32, 33, 43, 44, 45, 46, 47, 48, 49, 50, 51, 55, 56, 57, 58, 59, 60, 61, 62, 63, 64, 52, 53, 54, 65, 66, 67, 68, 69, 70, 71, 72, 73, 77, 78, 79, 80, 81, 82, 83, 84, 85, 86, 74, 75, 76, 87, 88, 89] else if i = 3 then [0, 1, 2, 3, 4, 5, 6, 7, 8, 9, 10, 11, 12, 13, 14, 15, 16] else []
set_option maxRecDepth 100000 in
theorem t134 : (Try.f134.body.map fun c => tr Try.prog o134 Try.f134.ntmps c .done) = some c134 := by kernel_rfl
theorem r134 : trR Try.prog Try.f134.results.toList = some [.t 6] := by kernel_rfl
theorem in134 {w0 : World} {args : List AV} {H : Hp} {Q : AV → Hp → Prop} (h : W Try.prog w0 c134 (retQ [.t 6] Q) (env0 args) H) : ACalls Try.prog w0 134 args H Q :=
  ACalls.intro2 mixed Try.func134 rfl t134 r134 h

/-- spec.end -/
def c135 : CC :=
  .op (some 4) none (.q (.mov (.k (.int .i64 0))))
  (.op (some 5) none (.q (.mov (.t 1)))
  (.op (some 6) none (.q (.bin .lss (.t 5) (.k (.int .i64 0))))
  (.op (some 7) none (.q (.mov (.t 6)))
  (.op (some 8) (some (7, false)) (.q (.mov (.t 1)))
  (.op (some 9) (some (7, false)) (.q (.mov (.t 0)))
  (.op (some 10) (some (7, false)) (.q (.len (.t 9)))
  (.op (some 11) (some (7, false)) (.q (.bin .geq (.t 8) (.t 10)))
  (.op (some 12) none (.q (.pick (.t 7) (.k (.bool true)) (.t 11)))
  (.cond (.t 12)
  (.op (some 4) none (.q (.mov (.k (.int .i64 (-1)))))
  (.ret))
  (.done)
  (.op (some 13) none (.q (.mov (.t 0)))
  (.op (some 14) none (.q (.mov (.t 1)))
  (.op (some 15) none (.q (.idx 1 (.t 13) (.t 14)))
  (.op (some 16) none (.q (.load none (.t 15)))
  (.block 0
  (.op (some 18) none (.q (.bin .eql (.t 16) (.k (.int .i64 12))))
  (.op (some 17) none (.q (.mov (.t 18)))
  (.cond (.t 17)
  (.op (some 19) none (.q (.mov (.t 0)))
  (.op (some 20) none (.q (.mov (.t 1)))
  (.op (some 21) none (.q (.bin .add (.t 20) (.k (.int .i64 1))))
  (.op (some 22) none (.e (.call (.f 135) [.t 19, .t 21]))
  (.op (some 4) none (.q (.mov (.t 22)))
  (.ret))))))
  (.op (some 24) none (.q (.bin .eql (.t 16) (.k (.int .i64 13))))
  (.op (some 23) none (.q (.mov (.t 24)))
  (.cond (.t 23)
  (.done)
  (.op (some 25) none (.q (.bin .eql (.t 16) (.k (.int .i64 14))))
  (.op (some 23) none (.q (.mov (.t 25)))
  (.cond (.t 23)
  (.done)
  (.op (some 26) none (.q (.bin .eql (.t 16) (.k (.int .i64 15))))
  (.op (some 23) none (.q (.mov (.t 26)))
  (.cond (.t 23)
  (.done)
  (.op (some 27) none (.q (.bin .eql (.t 16) (.k (.int .i64 16))))
  (.op (some 23) none (.q (.mov (.t 27)))
  (.done)))
  (.done))))
  (.done))))
  (.cond (.t 23)
  (.op (some 28) none (.q (.mov (.t 0)))
  (.op (some 29) none (.q (.mov (.t 0)))
  (.op (some 30) none (.q (.mov (.t 1)))
  (.op (some 31) none (.q (.bin .add (.t 30) (.k (.int .i64 1))))
  (.op (some 32) none (.e (.call (.f 135) [.t 29, .t 31]))
  (.op (some 33) none (.e (.call (.f 135) [.t 28, .t 32]))
  (.op (some 4) none (.q (.mov (.t 33)))
  (.ret))))))))
  (.done)
  (.done)))))
  (.done))))
  (.op (some 34) none (.q (.mov (.t 0)))
  (.op (some 35) none (.q (.mov (.t 1)))
  (.op (some 36) none (.q (.idx 1 (.t 34) (.t 35)))
  (.op (some 37) none (.q (.load none (.t 36)))
  (.op (some 38) none (.e (.call (.f 66) [.t 37, .k (.int .i64 0), .k (.int .i64 2)]))
  (.op (some 39) none (.q (.mov (.t 38)))
  (.op (some 40) (some (39, false)) (.q (.mov (.t 0)))
  (.op (some 41) (some (39, false)) (.q (.mov (.t 1)))
  (.op (some 42) (some (39, false)) (.q (.idx 1 (.t 40) (.t 41)))
  (.op (some 43) (some (39, false)) (.q (.load none (.t 42)))
  (.op (some 44) (some (39, false)) (.q (.bin .eql (.t 43) (.k (.int .i64 10))))
  (.op (some 45) none (.q (.pick (.t 39) (.k (.bool true)) (.t 44)))
  (.op (some 46) none (.q (.mov (.t 45)))
  (.op (some 47) (some (46, false)) (.q (.mov (.t 0)))
  (.op (some 48) (some (46, false)) (.q (.mov (.t 1)))
  (.op (some 49) (some (46, false)) (.q (.idx 1 (.t 47) (.t 48)))
  (.op (some 50) (some (46, false)) (.q (.load none (.t 49)))
  (.op (some 51) (some (46, false)) (.q (.bin .eql (.t 50) (.k (.int .i64 11))))
  (.op (some 52) none (.q (.pick (.t 46) (.k (.bool true)) (.t 51)))
  (.cond (.t 52)
  (.op (some 53) none (.q (.mov (.t 1)))
  (.op (some 54) none (.q (.bin .add (.t 53) (.k (.int .i64 1))))
  (.op (some 4) none (.q (.mov (.t 54)))
  (.ret))))
  (.done)
  (.op (some 4) none (.q (.mov (.k (.int .i64 (-1)))))
  (.ret))))))))))))))))))))))))))))))))))))
def o135 : Nat → List Nat := fun _ => []
set_option maxRecDepth 100000 in
theorem t135 : (Try.f135.body.map fun c => tr Try.prog o135 Try.f135.ntmps c .done) = some c135 := by kernel_rfl
theorem r135 : trR Try.prog Try.f135.results.toList = some [.t 4] := by kernel_rfl
theorem in135 {w0 : World} {args : List AV} {H : Hp} {Q : AV → Hp → Prop} (h : W Try.prog w0 c135 (retQ [.t 4] Q) (env0 args) H) : ACalls Try.prog w0 135 args H Q :=
  ACalls.intro2 mixed Try.func135 rfl t135 r135 h

/-- impl.takes -/
def c136 : CC :=
  .op (some 2) none (.q (.mov (.k (.int .i64 0))))
  (.block 0
  (.op (some 4) none (.q (.mov (.t 0)))
  (.op (some 5) none (.e (.call (.f 62) [.t 4, .k (.int .i64 0), .k (.int .i64 2)]))
  (.op (some 3) none (.q (.mov (.t 5)))
  (.cond (.t 3)
  (.done)
  (.op (some 6) none (.q (.mov (.t 0)))
  (.op (some 7) none (.q (.bin .eql (.t 6) (.k (.int .i64 10))))
  (.op (some 3) none (.q (.mov (.t 7)))
  (.cond (.t 3)
  (.done)
  (.op (some 8) none (.q (.mov (.t 0)))
  (.op (some 9) none (.q (.bin .eql (.t 8) (.k (.int .i64 11))))
  (.op (some 3) none (.q (.mov (.t 9)))
  (.done))))
  (.done)))))
  (.cond (.t 3)
  (.op (some 2) none (.q (.mov (.k (.int .i64 0))))
  (.ret))
  (.op (some 11) none (.q (.mov (.t 0)))
  (.op (some 12) none (.q (.bin .eql (.t 11) (.k (.int .i64 12))))
  (.op (some 10) none (.q (.mov (.t 12)))
  (.cond (.t 10)
  (.op (some 2) none (.q (.mov (.k (.int .i64 1))))
  (.ret))
  (.op (some 14) none (.q (.mov (.t 0)))
  (.op (some 15) none (.q (.bin .eql (.t 14) (.k (.int .i64 13))))
  (.op (some 13) none (.q (.mov (.t 15)))
  (.cond (.t 13)
  (.done)
  (.op (some 16) none (.q (.mov (.t 0)))
  (.op (some 17) none (.q (.bin .eql (.t 16) (.k (.int .i64 14))))
  (.op (some 13) none (.q (.mov (.t 17)))
  (.cond (.t 13)
  (.done)
  (.op (some 18) none (.q (.mov (.t 0)))
  (.op (some 19) none (.q (.bin .eql (.t 18) (.k (.int .i64 15))))
  (.op (some 13) none (.q (.mov (.t 19)))
  (.cond (.t 13)
  (.done)
  (.op (some 20) none (.q (.mov (.t 0)))
  (.op (some 21) none (.q (.bin .eql (.t 20) (.k (.int .i64 16))))
  (.op (some 13) none (.q (.mov (.t 21)))
  (.done))))
  (.done)))))
  (.done)))))
  (.cond (.t 13)
  (.op (some 2) none (.q (.mov (.k (.int .i64 2))))
  (.ret))
  (.done)
  (.done))))))
  (.done)))))
  (.done))))))
  (.op (some 2) none (.q (.mov (.k (.int .i64 (-1)))))
  (.ret)))
def o136 : Nat → List Nat := fun _ => []
set_option maxRecDepth 100000 in
theorem t136 : (Try.f136.body.map fun c => tr Try.prog o136 Try.f136.ntmps c .done) = some c136 := by kernel_rfl
theorem r136 : trR Try.prog Try.f136.results.toList = some [.t 2] := by kernel_rfl
theorem in136 {w0 : World} {args : List AV} {H : Hp} {Q : AV → Hp → Prop} (h : W Try.prog w0 c136 (retQ [.t 2] Q) (env0 args) H) : ACalls Try.prog w0 136 args H Q :=
  ACalls.intro2 mixed Try.func136 rfl t136 r136 h

/-- impl.value -/
def c137 : CC :=
  .op (some 3) none (.l (.box 36 (.t 0)))
  (.op (some 6) none (.q (.mov (.k (.int .i64 0))))
  (.op (some 7) none (.q (.mov (.k (.nils))))
  (.draws [⟨0, false, [], (some 12), none, .q (.mov (.t 1))⟩,
    ⟨1, false, [], (some 13), none, .q (.idx 1 (.t 12) (.k (.int .i64 0)))⟩,
    ⟨2, false, [], (some 14), none, .q (.load none (.t 13))⟩,
    ⟨3, false, [], (some 15), none, .q (.mov (.t 1))⟩,
    ⟨4, false, [], (some 16), none, .q (.slc 1 (.t 15) (some (.k (.int .i64 1))) none)⟩,
    ⟨5, false, [], (some 8), none, .q (.mov (.t 14))⟩,
    ⟨6, false, [], (some 9), none, .q (.mov (.t 16))⟩] (.block 0
  (.op (some 18) none (.q (.mov (.t 8)))
  (.op (some 19) none (.q (.bin .lss (.t 18) (.k (.int .i64 3))))
  (.op (some 17) none (.q (.mov (.t 19)))
  (.cond (.t 17)
  (.op (some 20) none (.q (.mov (.t 2)))
  (.op (some 21) none (.q (.mov (.t 8)))
  (.op (some 22) none (.q (.idx 1 (.t 20) (.t 21)))
  (.op (some 23) none (.q (.load none (.t 22)))
  (.op (some 24) none (.q (.mov (.t 9)))
  (.op (some 6) none (.q (.mov (.t 23)))
  (.op (some 7) none (.q (.mov (.t 24)))
  (.ret))))))))
  (.op (some 26) none (.q (.mov (.t 8)))
  (.op (some 27) none (.q (.bin .eql (.t 26) (.k (.int .i64 10))))
  (.op (some 25) none (.q (.mov (.t 27)))
  (.cond (.t 25)
  (.op (some 28) none (.q (.mov (.t 9)))
  (.op (some 6) none (.q (.mov (.k (.int .i64 0))))
  (.op (some 7) none (.q (.mov (.t 28)))
  (.ret))))
  (.op (some 30) none (.q (.mov (.t 8)))
  (.op (some 31) none (.q (.bin .eql (.t 30) (.k (.int .i64 11))))
  (.op (some 29) none (.q (.mov (.t 31)))
  (.cond (.t 29)
  (.op (some 32) none (.q (.fld 0 (.t 3)))
  (.op (some 33) none (.q (.load none (.t 32)))
  (.op (some 34) none (.q (.len (.t 33)))
  (.op (some 35) none (.q (.bin .sub (.t 34) (.k (.int .i64 1))))
  (.op (some 36) none (.q (.mov (.t 9)))
  (.op (some 6) none (.q (.mov (.t 35)))
  (.op (some 7) none (.q (.mov (.t 36)))
  (.ret))))))))
  (.done)
  (.done)))))
  (.done)))))
  (.done)))))
  (.op (some 38) none (.q (.load (some 2) (.t 3)))
  (.op (some 39) none (.q (.mov (.t 9)))
  (.op (some 40) none (.q (.mov (.t 2)))
  (.op (some 41) none (.e (.call (.f 137) [.t 38, .t 39, .t 40]))
  (.op (some 37) none (.q (.mov (.t 41)))
  (.op (some 42) none (.q (.ext (.t 37) 0))
  (.op (some 43) none (.q (.ext (.t 37) 1))
  (.op (some 10) none (.q (.mov (.t 42)))
  (.op (some 9) none (.q (.mov (.t 43)))
  (.op (some 44) none (.q (.mov (.t 8)))
  (.op (some 45) none (.q (.bin .eql (.t 44) (.k (.int .i64 12))))
  (.cond (.t 45)
  (.op (some 46) none (.q (.load (some 2) (.t 3)))
  (.op (some 47) none (.q (.mov (.t 10)))
  (.op (some 48) none (.e (.call (.f 158) [.t 46, .t 47]))
  (.op (some 49) none (.q (.mov (.t 9)))
  (.op (some 6) none (.q (.mov (.t 48)))
  (.op (some 7) none (.q (.mov (.t 49)))
  (.ret)))))))
  (.done)
  (.op (some 51) none (.q (.load (some 2) (.t 3)))
  (.op (some 52) none (.q (.mov (.t 9)))
  (.op (some 53) none (.q (.mov (.t 2)))
  (.op (some 54) none (.e (.call (.f 137) [.t 51, .t 52, .t 53]))
  (.op (some 50) none (.q (.mov (.t 54)))
  (.op (some 55) none (.q (.ext (.t 50) 0))
  (.op (some 56) none (.q (.ext (.t 50) 1))
  (.op (some 11) none (.q (.mov (.t 55)))
  (.op (some 9) none (.q (.mov (.t 56)))
  (.op (some 57) none (.q (.mov (.t 8)))
  (.block 1
  (.op (some 59) none (.q (.bin .eql (.t 57) (.k (.int .i64 13))))
  (.op (some 58) none (.q (.mov (.t 59)))
  (.cond (.t 58)
  (.op (some 60) none (.q (.fld 0 (.t 3)))
  (.op (some 61) none (.q (.load none (.t 60)))
  (.op (some 62) none (.q (.mov (.t 10)))
  (.op (some 63) none (.q (.mov (.t 11)))
  (.op (some 64) none (.e (.call (.f 153) [.t 61, .t 62, .t 63]))
  (.op (some 65) none (.q (.mov (.t 9)))
  (.op (some 6) none (.q (.mov (.t 64)))
  (.op (some 7) none (.q (.mov (.t 65)))
  (.ret)))))))))
  (.op (some 67) none (.q (.bin .eql (.t 57) (.k (.int .i64 14))))
  (.op (some 66) none (.q (.mov (.t 67)))
  (.cond (.t 66)
  (.op (some 68) none (.q (.fld 0 (.t 3)))
  (.op (some 69) none (.q (.load none (.t 68)))
  (.op (some 70) none (.q (.mov (.t 10)))
  (.op (some 71) none (.q (.mov (.t 11)))
  (.op (some 72) none (.e (.call (.f 114) [.t 69, .t 70, .t 71]))
  (.op (some 73) none (.q (.mov (.t 9)))
  (.op (some 6) none (.q (.mov (.t 72)))
  (.op (some 7) none (.q (.mov (.t 73)))
  (.ret)))))))))
  (.op (some 75) none (.q (.bin .eql (.t 57) (.k (.int .i64 15))))
  (.op (some 74) none (.q (.mov (.t 75)))
  (.cond (.t 74)
  (.op (some 76) none (.q (.fld 1 (.t 3)))
  (.op (some 77) none (.q (.load none (.t 76)))
  (.op (some 78) none (.q (.mov (.t 10)))
  (.op (some 79) none (.q (.idx 1 (.t 77) (.t 78)))
  (.op (some 80) none (.q (.load none (.t 79)))
  (.op (some 81) none (.q (.mov (.t 11)))
  (.op (some 82) none (.q (.idx 1 (.t 80) (.t 81)))
  (.op (some 83) none (.q (.load none (.t 82)))
  (.op (some 84) none (.q (.mov (.t 9)))
  (.op (some 6) none (.q (.mov (.t 83)))
  (.op (some 7) none (.q (.mov (.t 84)))
  (.ret))))))))))))
  (.done)
  (.done))))
  (.done))))
  (.done))))
  (.op (some 85) none (.q (.load (some 2) (.t 3)))
  (.op (some 86) none (.q (.mov (.t 10)))
  (.op (some 87) none (.q (.mov (.t 11)))
  (.op (some 88) none (.e (.call (.f 90) [.t 85, .t 86, .t 87]))
  (.op (some 89) none (.q (.mov (.t 9)))
  (.op (some 6) none (.q (.mov (.t 88)))
  (.op (some 7) none (.q (.mov (.t 89)))
  (.ret)))))))))))))))))))))))))))))))))))
def o137 : Nat → List Nat := fun i => if i = 1 then [0, 1, 2, 3, 4, 5, 6] else []
set_option maxRecDepth 100000 in
theorem t137 : (Try.f137.body.map fun c => tr Try.prog o137 Try.f137.ntmps c .done) = some c137 := by kernel_rfl
theorem r137 : trR Try.prog Try.f137.results.toList = some [.t 6, .t 7] := by kernel_rfl
theorem in137 {w0 : World} {args : List AV} {H : Hp} {Q : AV → Hp → Prop} (h : W Try.prog w0 c137 (retQ [.t 6, .t 7] Q) (env0 args) H) : ACalls Try.prog w0 137 args H Q :=
  ACalls.intro2 mixed Try.func137 rfl t137 r137 h

/-- spec.bit -/
def c138 : CC :=
  .op (some 4) none (.q (.mov (.k (.int .i64 0))))
  (.op (some 5) none (.q (.mov (.t 0)))
  (.op (some 6) none (.q (.mov (.t 1)))
  (.op (some 7) none (.e (.call (.f 82) [.t 6]))
  (.op (some 8) none (.q (.bin .quo (.t 5) (.t 7)))
  (.op (some 9) none (.q (.bin .rem (.t 8) (.k (.int .i64 2))))
  (.op (some 4) none (.q (.mov (.t 9)))
  (.ret)))))))
def o138 : Nat → List Nat := fun _ => []
set_option maxRecDepth 100000 in
theorem t138 : (Try.f138.body.map fun c => tr Try.prog o138 Try.f138.ntmps c .done) = some c138 := by kernel_rfl
theorem r138 : trR Try.prog Try.f138.results.toList = some [.t 4] := by kernel_rfl
theorem in138 {w0 : World} {args : List AV} {H : Hp} {Q : AV → Hp → Prop} (h : W Try.prog w0 c138 (retQ [.t 4] Q) (env0 args) H) : ACalls Try.prog w0 138 args H Q :=
  ACalls.intro2 mixed Try.func138 rfl t138 r138 h

/-- spec.numbersOf -/
def c139 : CC :=
  .op (some 2) none (.l (.box 36 (.t 0)))
  (.op (some 4) none (.q (.mov (.k (.nils))))
  (.op (some 5) none (.q (.mov (.k (.int .i64 0))))
  (.op (some 13) none (.q (.fld 0 (.t 2)))
  (.op (some 14) none (.q (.load none (.t 13)))
  (.op (some 15) none (.q (.len (.t 14)))
  (.op (some 6) none (.q (.mov (.t 15)))
  (.op (some 16) none (.q (.load (some 2) (.t 2)))
  (.op (some 17) none (.q (.mov (.t 1)))
  (.op (some 18) none (.e (.call (.f 163) [.t 16, .t 17]))
  (.op (some 7) none (.q (.mov (.t 18)))
  (.op (some 19) none (.l (.bsl 3 1 [.int .i64 0] 1 [(0, .k (.int .i64 0))]))
  (.op (some 8) none (.q (.mov (.t 19)))
  (.op (some 9) none (.q (.mov (.k (.int .i64 1))))
  (.block 0
  (.loop
  (.op (some 20) none (.q (.mov (.t 9)))
  (.op (some 21) none (.q (.mov (.t 6)))
  (.op (some 22) none (.q (.bin .lss (.t 20) (.t 21)))
  (.cond (.t 22)
  (.done)
  (.exit 0)
  (.block 1
  (.op (some 25) none (.q (.mov (.t 7)))
  (.op (some 26) none (.q (.mov (.t 9)))
  (.op (some 27) none (.q (.idx 1 (.t 25) (.t 26)))
  (.op (some 28) none (.q (.load none (.t 27)))
  (.op (some 29) none (.q (.mov (.t 9)))
  (.op (some 30) none (.q (.bin .eql (.t 28) (.t 29)))
  (.op (some 31) none (.q (.mov (.t 30)))
  (.op (some 32) (some (31, true)) (.q (.mov (.t 7)))
  (.op (some 33) (some (31, true)) (.q (.mov (.t 6)))
  (.op (some 34) (some (31, true)) (.q (.bin .sub (.t 33) (.k (.int .i64 1))))
  (.op (some 35) (some (31, true)) (.q (.idx 1 (.t 32) (.t 34)))
  (.op (some 36) (some (31, true)) (.q (.load none (.t 35)))
  (.op (some 37) (some (31, true)) (.q (.mov (.t 9)))
  (.op (some 38) (some (31, true)) (.q (.bin .neq (.t 36) (.t 37)))
  (.op (some 39) none (.q (.pick (.t 31) (.t 38) (.k (.bool false))))
  (.cond (.t 39)
  (.op (some 40) none (.q (.mov (.t 8)))
  (.op (some 41) none (.q (.mov (.t 9)))
  (.op (some 42) none (.l (.bsl 3 1 [.int .i64 0] 1 [(0, .t 41)]))
  (.op (some 43) none (.e (.app 3 1 8 (.t 40) (.t 42)))
  (.op (some 8) none (.q (.mov (.t 43)))
  (.done))))))
  (.done)
  (.done)))))))))))))))))
  (.op (some 23) none (.q (.mov (.t 9)))
  (.op (some 24) none (.q (.bin .add (.t 23) (.k (.int .i64 1))))
  (.op (some 9) none (.q (.mov (.t 24)))
  (.done))))))))))
  (.op (some 44) none (.q (.mov (.t 7)))
  (.op (some 45) none (.q (.mov (.t 6)))
  (.op (some 46) none (.q (.bin .sub (.t 45) (.k (.int .i64 1))))
  (.op (some 47) none (.q (.idx 1 (.t 44) (.t 46)))
  (.op (some 48) none (.q (.load none (.t 47)))
  (.op (some 49) none (.q (.bin .neq (.t 48) (.k (.int .i64 0))))
  (.cond (.t 49)
  (.op (some 50) none (.q (.mov (.t 8)))
  (.op (some 51) none (.q (.mov (.t 7)))
  (.op (some 52) none (.q (.mov (.t 6)))
  (.op (some 53) none (.q (.bin .sub (.t 52) (.k (.int .i64 1))))
  (.op (some 54) none (.q (.idx 1 (.t 51) (.t 53)))
  (.op (some 55) none (.q (.load none (.t 54)))
  (.op (some 56) none (.l (.bsl 3 1 [.int .i64 0] 1 [(0, .t 55)]))
  (.op (some 57) none (.e (.app 3 1 8 (.t 50) (.t 56)))
  (.op (some 8) none (.q (.mov (.t 57)))
  (.done))))))))))
  (.done)
  (.op (some 58) none (.l (.bsl 3 1 [.int .i64 0] 0 []))
  (.op (some 10) none (.q (.mov (.t 58)))
  (.op (some 11) none (.q (.mov (.k (.int .i64 0))))
  (.block 2
  (.loop
  (.op (some 59) none (.q (.mov (.t 11)))
  (.op (some 60) none (.q (.mov (.t 6)))
  (.op (some 61) none (.q (.bin .lss (.t 59) (.t 60)))
  (.cond (.t 61)
  (.done)
  (.exit 2)
  (.block 3
  (.op (some 12) none (.q (.mov (.k (.int .i64 0))))
  (.block 4
  (.loop
  (.op (some 64) none (.q (.mov (.t 12)))
  (.op (some 65) none (.q (.mov (.t 8)))
  (.op (some 66) none (.q (.len (.t 65)))
  (.op (some 67) none (.q (.bin .lss (.t 64) (.t 66)))
  (.cond (.t 67)
  (.done)
  (.exit 4)
  (.block 5
  (.draws [⟨0, false, [], (some 70), none, .q (.mov (.t 8))⟩,
    ⟨1, false, [], (some 71), none, .q (.mov (.t 12))⟩,
    ⟨2, false, [], (some 72), none, .q (.idx 1 (.t 70) (.t 71))⟩,
    ⟨3, false, [], (some 73), none, .q (.load none (.t 72))⟩,
    ⟨4, false, [], (some 74), none, .q (.mov (.t 7))⟩,
    ⟨5, false, [], (some 75), none, .q (.mov (.t 11))⟩,
    ⟨6, false, [], (some 76), none, .q (.idx 1 (.t 74) (.t 75))⟩,
    ⟨7, false, [], (some 77), none, .q (.load none (.t 76))⟩,
    ⟨8, false, [], (some 78), none, .q (.bin .eql (.t 73) (.t 77))⟩] (.cond (.t 78)
  (.op (some 79) none (.q (.mov (.t 10)))
  (.op (some 80) none (.q (.mov (.t 12)))
  (.op (some 81) none (.l (.bsl 3 1 [.int .i64 0] 1 [(0, .t 80)]))
  (.op (some 82) none (.e (.app 3 1 8 (.t 79) (.t 81)))
  (.op (some 10) none (.q (.mov (.t 82)))
  (.done))))))
  (.done)
  (.done)))
  (.op (some 68) none (.q (.mov (.t 12)))
  (.op (some 69) none (.q (.bin .add (.t 68) (.k (.int .i64 1))))
  (.op (some 12) none (.q (.mov (.t 69)))
  (.done)))))))))))
  (.done)))
  (.op (some 62) none (.q (.mov (.t 11)))
  (.op (some 63) none (.q (.bin .add (.t 62) (.k (.int .i64 1))))
  (.op (some 11) none (.q (.mov (.t 63)))
  (.done))))))))))
  (.op (some 83) none (.q (.mov (.t 10)))
  (.op (some 84) none (.q (.mov (.t 8)))
  (.op (some 85) none (.q (.len (.t 84)))
  (.op (some 4) none (.q (.mov (.t 83)))
  (.op (some 5) none (.q (.mov (.t 85)))
  (.ret)))))))))))))))))))))))))))))))
def o139 : Nat → List Nat := fun i => if i = 18 then [0, 1, 2, 3, 4, 5, 6, 7, 8] else []
set_option maxRecDepth 100000 in
theorem t139 : (Try.f139.body.map fun c => tr Try.prog o139 Try.f139.ntmps c .done) = some c139 := by kernel_rfl
theorem r139 : trR Try.prog Try.f139.results.toList = some [.t 4, .t 5] := by kernel_rfl
theorem in139 {w0 : World} {args : List AV} {H : Hp} {Q : AV → Hp → Prop} (h : W Try.prog w0 c139 (retQ [.t 4, .t 5] Q) (env0 args) H) : ACalls Try.prog w0 139 args H Q :=
  ACalls.intro2 mixed Try.func139 rfl t139 r139 h

/-- impl.setIn -/
def c140 : CC :=
  .op (some 2) none (.l (.box 36 (.t 0)))
  (.op (some 4) none (.q (.mov (.k (.bool false))))
  (.op (some 5) none (.q (.load (some 2) (.t 2)))
  (.op (some 6) none (.e (.call (.f 53) [.t 5]))
  (.op (some 7) none (.q (.mov (.t 6)))
  (.op (some 8) (some (7, true)) (.q (.mov (.t 1)))
  (.op (some 9) (some (7, true)) (.q (.fld 0 (.t 2)))
  (.op (some 10) (some (7, true)) (.q (.load none (.t 9)))
  (.op (some 11) (some (7, true)) (.q (.len (.t 10)))
  (.op (some 12) (some (7, true)) (.q (.bin .shl (.k (.int .i64 1)) (.t 11)))
  (.op (some 13) (some (7, true)) (.q (.bin .sub (.t 12) (.k (.int .i64 1))))
  (.op (some 14) (some (7, true)) (.e (.call (.f 62) [.t 8, .k (.int .i64 0), .t 13]))
  (.op (some 15) none (.q (.pick (.t 7) (.t 14) (.k (.bool false))))
  (.op (some 4) none (.q (.mov (.t 15)))
  (.ret))))))))))))))
def o140 : Nat → List Nat := fun _ => []
set_option maxRecDepth 100000 in
theorem t140 : (Try.f140.body.map fun c => tr Try.prog o140 Try.f140.ntmps c .done) = some c140 := by kernel_rfl
theorem r140 : trR Try.prog Try.f140.results.toList = some [.t 4] := by kernel_rfl
theorem in140 {w0 : World} {args : List AV} {H : Hp} {Q : AV → Hp → Prop} (h : W Try.prog w0 c140 (retQ [.t 4] Q) (env0 args) H) : ACalls Try.prog w0 140 args H Q :=
  ACalls.intro2 mixed Try.func140 rfl t140 r140 h

/-- impl.isFilter -/
def c141 : CC :=
  .op (some 2) none (.l (.box 36 (.t 0)))
  (.op (some 4) none (.q (.mov (.k (.bool false))))
  (.op (some 8) none (.q (.mov (.t 1)))
  (.op (some 9) none (.q (.fld 0 (.t 2)))
  (.op (some 10) none (.q (.load none (.t 9)))
  (.op (some 11) none (.q (.len (.t 10)))
  (.op (some 12) none (.q (.bin .sub (.t 11) (.k (.int .i64 1))))
  (.op (some 13) none (.e (.call (.f 89) [.t 8, .t 12]))
  (.op (some 14) none (.q (.not (.t 13)))
  (.cond (.t 14)
  (.op (some 4) none (.q (.mov (.k (.bool false))))
  (.ret))
  (.done)
  (.op (some 15) none (.q (.fld 0 (.t 2)))
  (.op (some 16) none (.q (.load none (.t 15)))
  (.op (some 17) none (.q (.len (.t 16)))
  (.op (some 18) none (.q (.mov (.k (.int .i64 0))))
  (.block 0
  (.loop
  (.op (some 19) none (.q (.bin .lss (.t 18) (.t 17)))
  (.cond (.t 19)
  (.done)
  (.exit 0)
  (.block 1
  (.op (some 20) none (.q (.mov (.t 18)))
  (.op (some 21) none (.q (.idx 1 (.t 16) (.t 18)))
  (.op (some 22) none (.q (.load none (.t 21)))
  (.op (some 5) none (.q (.mov (.t 20)))
  (.op (some 6) none (.q (.mov (.t 22)))
  (.op (some 23) none (.q (.mov (.t 1)))
  (.op (some 24) none (.q (.mov (.t 5)))
  (.op (some 25) none (.e (.call (.f 89) [.t 23, .t 24]))
  (.op (some 26) none (.q (.not (.t 25)))
  (.cond (.t 26)
  (.exit 1)
  (.done)
  (.op (some 27) none (.q (.mov (.t 6)))
  (.op (some 28) none (.q (.mov (.t 1)))
  (.op (some 29) none (.q (.bin .andNot (.t 27) (.t 28)))
  (.op (some 30) none (.q (.bin .neq (.t 29) (.k (.int .i64 0))))
  (.cond (.t 30)
  (.op (some 4) none (.q (.mov (.k (.bool false))))
  (.ret))
  (.done)
  (.op (some 31) none (.q (.fld 0 (.t 2)))
  (.op (some 32) none (.q (.load none (.t 31)))
  (.op (some 33) none (.q (.len (.t 32)))
  (.op (some 34) none (.q (.mov (.k (.int .i64 0))))
  (.block 2
  (.loop
  (.op (some 35) none (.q (.bin .lss (.t 34) (.t 33)))
  (.cond (.t 35)
  (.done)
  (.exit 2)
  (.block 3
  (.op (some 36) none (.q (.mov (.t 34)))
  (.op (some 7) none (.q (.mov (.t 36)))
  (.op (some 37) none (.q (.mov (.t 1)))
  (.op (some 38) none (.q (.mov (.t 7)))
  (.op (some 39) none (.e (.call (.f 89) [.t 37, .t 38]))
  (.op (some 40) none (.q (.mov (.t 39)))
  (.op (some 41) (some (40, true)) (.q (.mov (.t 1)))
  (.op (some 42) (some (40, true)) (.q (.fld 1 (.t 2)))
  (.op (some 43) (some (40, true)) (.q (.load none (.t 42)))
  (.op (some 44) (some (40, true)) (.q (.mov (.t 5)))
  (.op (some 45) (some (40, true)) (.q (.idx 1 (.t 43) (.t 44)))
  (.op (some 46) (some (40, true)) (.q (.load none (.t 45)))
  (.op (some 47) (some (40, true)) (.q (.mov (.t 7)))
  (.op (some 48) (some (40, true)) (.q (.idx 1 (.t 46) (.t 47)))
  (.op (some 49) (some (40, true)) (.q (.load none (.t 48)))
  (.op (some 50) (some (40, true)) (.e (.call (.f 89) [.t 41, .t 49]))
  (.op (some 51) (some (40, true)) (.q (.not (.t 50)))
  (.op (some 52) none (.q (.pick (.t 40) (.t 51) (.k (.bool false))))
  (.cond (.t 52)
  (.op (some 4) none (.q (.mov (.k (.bool false))))
  (.ret))
  (.done)
  (.done))))))))))))))))))))
  (.op (some 53) none (.q (.bin .add (.t 34) (.k (.int .i64 1))))
  (.op (some 34) none (.q (.mov (.t 53)))
  (.done)))))))
  (.done)))))))))))))))))))))
  (.op (some 54) none (.q (.bin .add (.t 18) (.k (.int .i64 1))))
  (.op (some 18) none (.q (.mov (.t 54)))
  (.done)))))))
  (.op (some 4) none (.q (.mov (.k (.bool true))))
  (.ret))))))))))))))))
def o141 : Nat → List Nat := fun _ => []
set_option maxRecDepth 100000 in
theorem t141 : (Try.f141.body.map fun c => tr Try.prog o141 Try.f141.ntmps c .done) = some c141 := by kernel_rfl
theorem r141 : trR Try.prog Try.f141.results.toList = some [.t 4] := by kernel_rfl
theorem in141 {w0 : World} {args : List AV} {H : Hp} {Q : AV → Hp → Prop} (h : W Try.prog w0 c141 (retQ [.t 4] Q) (env0 args) H) : ACalls Try.prog w0 141 args H Q :=
  ACalls.intro2 mixed Try.func141 rfl t141 r141 h

/-- impl.near -/
def c142 : CC :=
  .op (some 3) none (.l (.box 36 (.t 0)))
  (.op (some 6) none (.q (.mov (.k (.int .i64 0))))
  (.draws [⟨0, false, [], (some 7), none, .q (.fld 1 (.t 3))⟩,
    ⟨1, true, [], (some 8), none, .q (.load none (.t 7))⟩,
    ⟨2, false, [], (some 9), none, .q (.load (some 2) (.t 3))⟩,
    ⟨3, false, [], (some 10), none, .q (.mov (.t 1))⟩,
    ⟨4, false, [], (some 11), none, .q (.mov (.t 2))⟩,
    ⟨8, true, [], (some 15), none, .q (.load (some 2) (.t 3))⟩,
    ⟨9, false, [], (some 16), none, .q (.mov (.t 2))⟩,
    ⟨10, false, [], (some 17), none, .q (.mov (.t 1))⟩,
    ⟨5, false, [], (some 12), none, .e (.call (.f 90) [.t 9, .t 10, .t 11])⟩,
    ⟨6, false, [], (some 13), none, .q (.idx 1 (.t 8) (.t 12))⟩,
    ⟨7, true, [], (some 14), none, .q (.load none (.t 13))⟩,
    ⟨11, false, [], (some 18), none, .e (.call (.f 90) [.t 15, .t 16, .t 17])⟩,
    ⟨12, false, [], (some 19), none, .q (.idx 1 (.t 14) (.t 18))⟩,
    ⟨13, false, [], (some 20), none, .q (.load none (.t 19))⟩,
    ⟨14, false, [], (some 6), none, .q (.mov (.t 20))⟩] (.ret)))
def o142 : Nat → List Nat := fun i => if i = 1 then [0, 1, 2, 3, 4, 8, 9, 10, 5, 6, 7, 11, 12, 13, 14] else []
set_option maxRecDepth 100000 in
theorem t142 : (Try.f142.body.map fun c => tr Try.prog o142 Try.f142.ntmps c .done) = some c142 := by kernel_rfl
theorem r142 : trR Try.prog Try.f142.results.toList = some [.t 6] := by kernel_rfl
theorem in142 {w0 : World} {args : List AV} {H : Hp} {Q : AV → Hp → Prop} (h : W Try.prog w0 c142 (retQ [.t 6] Q) (env0 args) H) : ACalls Try.prog w0 142 args H Q :=
  ACalls.intro2 mixed Try.func142 rfl t142 r142 h

/-- spec.bent -/
def c143 : CC :=
  .op (some 3) none (.l (.box 36 (.t 1)))
  (.op (some 4) none (.l (.alloc 36 [.nils, .nils]))
  (.op (some 7) none (.q (.mov (.t 0)))
  (.op (some 8) none (.e (.call (.f 117) [.t 7, .k (.int .i64 16)]))
  (.op (some 9) none (.q (.bin .gtr (.t 8) (.k (.int .i64 0))))
  (.cond (.t 9)
  (.op (some 10) none (.q (.load (some 2) (.t 3)))
  (.op none none (.e (.store 2 (.t 4) (.t 10)))
  (.ret)))
  (.done)
  (.draws [⟨1, false, [], (some 12), none, .q (.fld 0 (.t 3))⟩,
    ⟨2, false, [], (some 13), none, .q (.load none (.t 12))⟩,
    ⟨4, false, [], (some 15), none, .q (.fld 1 (.t 3))⟩,
    ⟨5, true, [], (some 16), none, .q (.load none (.t 15))⟩,
    ⟨0, false, [], (some 11), none, .l (.bsl 3 1 [.int .i64 0] 0 [])⟩,
    ⟨3, false, [8], (some 14), none, .e (.app 3 1 8 (.t 11) (.t 13))⟩,
    ⟨6, false, [8], (some 17), none, .e (.call (.f 159) [.t 16])⟩,
    ⟨7, false, [], (some 18), none, .q (.build [.nils, .nils] [(0, .t 14), (1, .t 17)])⟩,
    ⟨8, false, [], (some 5), none, .l (.alloc 36 [.nils, .nils])⟩,
    ⟨9, false, [], none, none, .e (.store 2 (.t 5) (.t 18))⟩] (.op (some 19) none (.q (.mov (.t 0)))
  (.op (some 20) none (.q (.fld 0 (.t 5)))
  (.op (some 21) none (.q (.load none (.t 20)))
  (.op (some 22) none (.q (.len (.t 21)))
  (.op (some 23) none (.e (.call (.f 117) [.t 19, .t 22]))
  (.op (some 6) none (.q (.mov (.t 23)))
  (.op (some 24) none (.q (.mov (.t 0)))
  (.op (some 25) none (.e (.call (.f 117) [.t 24, .k (.int .i64 5)]))
  (.block 0
  (.op (some 32) none (.q (.bin .eql (.t 25) (.k (.int .i64 0))))
  (.op (some 31) none (.q (.mov (.t 32)))
  (.cond (.t 31)
  (.draws [⟨0, false, [], (some 33), none, .q (.fld 1 (.t 5))⟩,
    ⟨1, true, [], (some 34), none, .q (.load none (.t 33))⟩,
    ⟨2, false, [], (some 35), none, .q (.mov (.t 6))⟩,
    ⟨3, false, [], (some 36), none, .q (.idx 1 (.t 34) (.t 35))⟩,
    ⟨4, true, [], (some 37), none, .q (.load none (.t 36))⟩,
    ⟨5, false, [], (some 38), none, .q (.mov (.t 0))⟩,
    ⟨6, false, [], (some 39), none, .q (.fld 0 (.t 5))⟩,
    ⟨7, false, [], (some 40), none, .q (.load none (.t 39))⟩,
    ⟨8, false, [], (some 41), none, .q (.len (.t 40))⟩,
    ⟨10, false, [], (some 43), none, .q (.mov (.t 0))⟩,
    ⟨9, false, [11], (some 42), none, .e (.call (.f 117) [.t 38, .t 41])⟩,
    ⟨11, false, [], (some 44), none, .l (.bsl 3 1 [.int .i64 0] 4 [(0, .k (.int .i64 0)), (1, .k (.int .i64 1)), (2, .k (.int .i64 (-1))), (3, .k (.int .i64 6))])⟩,
    ⟨12, false, [], (some 45), none, .e (.call (.f 60) [.t 43, .t 44])⟩,
    ⟨13, false, [], (some 46), none, .q (.idx 1 (.t 37) (.t 42))⟩,
    ⟨14, false, [], none, none, .e (.store 1 (.t 46) (.t 45))⟩] (.done))
  (.op (some 48) none (.q (.bin .eql (.t 25) (.k (.int .i64 1))))
  (.op (some 47) none (.q (.mov (.t 48)))
  (.cond (.t 47)
  (.draws [⟨0, false, [], (some 49), none, .q (.fld 0 (.t 5))⟩,
    ⟨1, true, [], (some 50), none, .q (.load none (.t 49))⟩,
    ⟨2, false, [], (some 51), none, .q (.mov (.t 6))⟩,
    ⟨3, false, [], (some 52), none, .q (.mov (.t 0))⟩,
    ⟨4, false, [], (some 53), none, .l (.bsl 3 1 [.int .i64 0] 3 [(0, .k (.int .i64 0)), (1, .k (.int .i64 3)), (2, .k (.int .i64 (-1)))])⟩,
    ⟨5, false, [], (some 54), none, .e (.call (.f 60) [.t 52, .t 53])⟩,
    ⟨6, false, [], (some 55), none, .q (.idx 1 (.t 50) (.t 51))⟩,
    ⟨7, false, [], none, none, .e (.store 1 (.t 55) (.t 54))⟩] (.done))
  (.op (some 57) none (.q (.bin .eql (.t 25) (.k (.int .i64 2))))
  (.op (some 56) none (.q (.mov (.t 57)))
  (.cond (.t 56)
  (.op (some 58) none (.q (.fld 1 (.t 5)))
  (.op (some 59) none (.q (.load none (.t 58)))
  (.op (some 60) none (.q (.slc 1 (.t 59) (some (.k (.int .i64 1))) none))
  (.op (some 61) none (.q (.fld 1 (.t 5)))
  (.op none none (.e (.store 1 (.t 61) (.t 60)))
  (.done))))))
  (.op (some 63) none (.q (.bin .eql (.t 25) (.k (.int .i64 3))))
  (.op (some 62) none (.q (.mov (.t 63)))
  (.cond (.t 62)
  (.draws [⟨0, false, [], (some 64), none, .q (.fld 1 (.t 5))⟩,
    ⟨1, false, [], (some 65), none, .q (.load none (.t 64))⟩,
    ⟨2, false, [], (some 66), none, .q (.mov (.t 6))⟩,
    ⟨3, false, [], (some 67), none, .q (.fld 1 (.t 5))⟩,
    ⟨4, false, [], (some 68), none, .q (.load none (.t 67))⟩,
    ⟨5, false, [], (some 69), none, .q (.mov (.t 6))⟩,
    ⟨6, false, [], (some 70), none, .q (.idx 1 (.t 68) (.t 69))⟩,
    ⟨7, false, [], (some 71), none, .q (.load none (.t 70))⟩,
    ⟨8, false, [], (some 72), none, .q (.slc 1 (.t 71) (some (.k (.int .i64 1))) none)⟩,
    ⟨9, false, [], (some 73), none, .q (.idx 1 (.t 65) (.t 66))⟩,
    ⟨10, false, [], none, none, .e (.store 1 (.t 73) (.t 72))⟩] (.done))
  (.op (some 26) none (.q (.fld 0 (.t 5)))
  (.op (some 27) none (.q (.load none (.t 26)))
  (.op (some 28) none (.l (.bsl 3 1 [.int .i64 0] 1 [(0, .k (.int .i64 64))]))
  (.op (some 29) none (.e (.app 3 1 8 (.t 27) (.t 28)))
  (.op (some 30) none (.q (.fld 0 (.t 5)))
  (.op none none (.e (.store 1 (.t 30) (.t 29)))
  (.done)))))))
  (.done))))
  (.done))))
  (.done))))
  (.done))))
  (.op (some 74) none (.q (.load (some 2) (.t 5)))
  (.op none none (.e (.store 2 (.t 4) (.t 74)))
  (.ret))))))))))))))))))
def o143 : Nat → List Nat := fun i => if i = 8 then [0, 1, 2, 3, 4, 5, 6, 7, 8, 10, 9, 11, 12, 13, 14] else if i = 10 then [0, 1, 2, 3, 4, 5, 6, 7] else if i = 14 then [0, 1, 2, 3, 4, 5, 6, 7, 8, 9, 10] else if i = 3 then [1, 2, 4, 5, 0, 3, 6, 7, 8, 9] else []
set_option maxRecDepth 100000 in
theorem t143 : (Try.f143.body.map fun c => tr Try.prog o143 Try.f143.ntmps c .done) = some c143 := by kernel_rfl
theorem r143 : trR Try.prog Try.f143.results.toList = some [.c (some 2) 4] := by kernel_rfl
theorem in143 {w0 : World} {args : List AV} {H : Hp} {Q : AV → Hp → Prop} (h : W Try.prog w0 c143 (retQ [.c (some 2) 4] Q) (env0 args) H) : ACalls Try.prog w0 143 args H Q :=
  ACalls.intro2 mixed Try.func143 rfl t143 r143 h

/-- spec.goodAlgebra -/
def c144 : CC :=
  .op (some 2) none (.l (.alloc 36 [.nils, .nils]))
  (.op (some 9) none (.q (.mov (.t 0)))
  (.op (some 10) none (.e (.call (.f 117) [.t 9, .k (.int .i64 5)]))
  (.block 0
  (.op (some 12) none (.q (.bin .eql (.t 10) (.k (.int .i64 0))))
  (.op (some 11) none (.q (.mov (.t 12)))
  (.cond (.t 11)
  (.op (some 13) none (.q (.mov (.t 0)))
  (.op (some 14) none (.e (.call (.f 164) [.t 13, .k (.int .i64 2)]))
  (.op (some 3) none (.l (.alloc 36 [.nils, .nils]))
  (.op none none (.e (.store 2 (.t 3) (.t 14)))
  (.op (some 15) none (.q (.mov (.t 0)))
  (.op (some 16) none (.e (.call (.f 164) [.t 15, .k (.int .i64 3)]))
  (.op (some 4) none (.l (.alloc 36 [.nils, .nils]))
  (.op none none (.e (.store 2 (.t 4) (.t 16)))
  (.op (some 18) none (.q (.load (some 2) (.t 4)))
  (.op (some 19) none (.q (.load (some 2) (.t 3)))
  (.op (some 20) none (.e (.call (.f 165) [.t 18, .t 19]))
  (.op (some 17) none (.q (.mov (.t 20)))
  (.op (some 21) none (.q (.ext (.t 17) 0))
  (.op (some 22) none (.q (.ext (.t 17) 1))
  (.op (some 5) none (.l (.alloc 36 [.nils, .nils]))
  (.op none none (.e (.store 2 (.t 5) (.t 21)))
  (.op (some 6) none (.q (.mov (.t 22)))
  (.op (some 23) none (.q (.mov (.t 6)))
  (.cond (.t 23)
  (.op (some 24) none (.q (.load (some 2) (.t 5)))
  (.op none none (.e (.store 2 (.t 2) (.t 24)))
  (.ret)))
  (.done)
  (.done))))))))))))))))))))
  (.op (some 26) none (.q (.bin .eql (.t 10) (.k (.int .i64 1))))
  (.op (some 25) none (.q (.mov (.t 26)))
  (.cond (.t 25)
  (.op (some 28) none (.e (.call (.f 127) [.k (.int .i64 2)]))
  (.op (some 29) none (.e (.call (.f 127) [.k (.int .i64 2)]))
  (.op (some 30) none (.e (.call (.f 168) [.t 28, .t 29]))
  (.op (some 31) none (.e (.call (.f 167) [.t 30]))
  (.op (some 32) none (.q (.mov (.t 0)))
  (.op (some 33) none (.e (.call (.f 164) [.t 32, .k (.int .i64 3)]))
  (.op (some 34) none (.e (.call (.f 166) [.t 31, .t 33]))
  (.op (some 27) none (.q (.mov (.t 34)))
  (.op (some 35) none (.q (.ext (.t 27) 0))
  (.op (some 36) none (.q (.ext (.t 27) 1))
  (.op (some 7) none (.l (.alloc 36 [.nils, .nils]))
  (.op none none (.e (.store 2 (.t 7) (.t 35)))
  (.op (some 8) none (.q (.mov (.t 36)))
  (.op (some 37) none (.q (.mov (.t 8)))
  (.cond (.t 37)
  (.op (some 38) none (.q (.load (some 2) (.t 7)))
  (.op none none (.e (.store 2 (.t 2) (.t 38)))
  (.ret)))
  (.done)
  (.done))))))))))))))))
  (.done)
  (.done))))
  (.done))))
  (.op (some 39) none (.q (.mov (.t 0)))
  (.op (some 40) none (.e (.call (.f 164) [.t 39, .k (.int .i64 6)]))
  (.op none none (.e (.store 2 (.t 2) (.t 40)))
  (.ret)))))))
def o144 : Nat → List Nat := fun _ => []
set_option maxRecDepth 100000 in
theorem t144 : (Try.f144.body.map fun c => tr Try.prog o144 Try.f144.ntmps c .done) = some c144 := by kernel_rfl
theorem r144 : trR Try.prog Try.f144.results.toList = some [.c (some 2) 2] := by kernel_rfl
theorem in144 {w0 : World} {args : List AV} {H : Hp} {Q : AV → Hp → Prop} (h : W Try.prog w0 c144 (retQ [.c (some 2) 2] Q) (env0 args) H) : ACalls Try.prog w0 144 args H Q :=
  ACalls.intro2 mixed Try.func144 rfl t144 r144 h

/-- spec.nucleiFrom -/
def c145 : CC :=
  .op (some 2) none (.l (.box 36 (.t 0)))
  (.op (some 4) none (.q (.mov (.k (.nils))))
  (.op (some 10) none (.q (.mov (.t 1)))
  (.op (some 11) none (.q (.len (.t 10)))
  (.op (some 5) none (.q (.mov (.t 11)))
  (.op (some 12) none (.q (.mov (.t 5)))
  (.op (some 13) none (.q (.fld 0 (.t 2)))
  (.op (some 14) none (.q (.load none (.t 13)))
  (.op (some 15) none (.q (.len (.t 14)))
  (.op (some 16) none (.q (.bin .eql (.t 12) (.t 15)))
  (.cond (.t 16)
  (.op (some 17) none (.q (.load (some 2) (.t 2)))
  (.op (some 18) none (.q (.mov (.t 1)))
  (.op (some 19) none (.e (.call (.f 101) [.t 17, .t 18]))
  (.cond (.t 19)
  (.op (some 20) none (.l (.bsl 3 1 [.int .i64 0] 0 []))
  (.op (some 21) none (.q (.mov (.t 1)))
  (.op (some 22) none (.e (.app 3 1 8 (.t 20) (.t 21)))
  (.op (some 23) none (.l (.bsl 30 1 [.nils] 1 [(0, .t 22)]))
  (.op (some 4) none (.q (.mov (.t 23)))
  (.ret))))))
  (.done)
  (.op (some 24) none (.l (.bsl 30 1 [.nils] 0 []))
  (.op (some 4) none (.q (.mov (.t 24)))
  (.ret)))))))
  (.done)
  (.op (some 25) none (.l (.bsl 30 1 [.nils] 0 []))
  (.op (some 6) none (.q (.mov (.t 25)))
  (.op (some 7) none (.q (.mov (.k (.int .i64 0))))
  (.block 0
  (.loop
  (.op (some 26) none (.q (.mov (.t 7)))
  (.op (some 27) none (.q (.fld 0 (.t 2)))
  (.op (some 28) none (.q (.load none (.t 27)))
  (.op (some 29) none (.q (.len (.t 28)))
  (.op (some 30) none (.q (.bin .lss (.t 26) (.t 29)))
  (.cond (.t 30)
  (.done)
  (.exit 0)
  (.block 1
  (.op (some 33) none (.q (.fld 0 (.t 2)))
  (.op (some 34) none (.q (.load none (.t 33)))
  (.op (some 35) none (.q (.mov (.t 5)))
  (.op (some 36) none (.q (.mov (.t 7)))
  (.op (some 37) none (.e (.call (.f 93) [.t 34, .t 35, .t 36]))
  (.op (some 8) none (.q (.mov (.t 37)))
  (.op (some 9) none (.q (.mov (.k (.int .i64 0))))
  (.block 2
  (.loop
  (.op (some 38) none (.q (.mov (.t 9)))
  (.op (some 39) none (.q (.mov (.t 5)))
  (.op (some 40) none (.q (.bin .lss (.t 38) (.t 39)))
  (.op (some 41) none (.q (.mov (.t 40)))
  (.op (some 42) (some (41, true)) (.q (.mov (.t 8)))
  (.op (some 43) none (.q (.pick (.t 41) (.t 42) (.k (.bool false))))
  (.cond (.t 43)
  (.done)
  (.exit 2)
  (.block 3
  (.draws [⟨0, false, [], (some 46), none, .q (.fld 0 (.t 2))⟩,
    ⟨1, false, [], (some 47), none, .q (.load none (.t 46))⟩,
    ⟨2, false, [], (some 48), none, .q (.mov (.t 9))⟩,
    ⟨3, false, [], (some 49), none, .q (.mov (.t 5))⟩,
    ⟨4, false, [], (some 50), none, .e (.call (.f 93) [.t 47, .t 48, .t 49])⟩,
    ⟨5, false, [], (some 51), none, .q (.not (.t 50))⟩,
    ⟨6, false, [], (some 52), none, .q (.mov (.t 51))⟩,
    ⟨7, false, [], (some 53), (some (52, false)), .q (.fld 0 (.t 2))⟩,
    ⟨8, false, [], (some 54), (some (52, false)), .q (.load none (.t 53))⟩,
    ⟨9, false, [], (some 55), (some (52, false)), .q (.mov (.t 1))⟩,
    ⟨10, false, [], (some 56), (some (52, false)), .q (.mov (.t 9))⟩,
    ⟨11, false, [], (some 57), (some (52, false)), .q (.idx 1 (.t 55) (.t 56))⟩,
    ⟨12, false, [], (some 58), (some (52, false)), .q (.load none (.t 57))⟩,
    ⟨13, false, [], (some 59), (some (52, false)), .q (.mov (.t 7))⟩,
    ⟨14, false, [], (some 60), (some (52, false)), .e (.call (.f 93) [.t 54, .t 58, .t 59])⟩,
    ⟨15, false, [], (some 61), none, .q (.pick (.t 52) (.k (.bool true)) (.t 60))⟩,
    ⟨16, false, [], (some 8), none, .q (.mov (.t 61))⟩] (.done))
  (.op (some 44) none (.q (.mov (.t 9)))
  (.op (some 45) none (.q (.bin .add (.t 44) (.k (.int .i64 1))))
  (.op (some 9) none (.q (.mov (.t 45)))
  (.done)))))))))))))
  (.op (some 62) none (.q (.mov (.t 8)))
  (.cond (.t 62)
  (.draws [⟨0, false, [], (some 63), none, .q (.mov (.t 6))⟩,
    ⟨1, true, [], (some 64), none, .q (.load (some 2) (.t 2))⟩,
    ⟨3, false, [], (some 66), none, .q (.mov (.t 1))⟩,
    ⟨5, false, [], (some 68), none, .q (.mov (.t 7))⟩,
    ⟨2, false, [], (some 65), none, .l (.bsl 3 1 [.int .i64 0] 0 [])⟩,
    ⟨4, false, [6], (some 67), none, .e (.app 3 1 8 (.t 65) (.t 66))⟩,
    ⟨6, false, [], (some 69), none, .l (.bsl 3 1 [.int .i64 0] 1 [(0, .t 68)])⟩,
    ⟨7, false, [], (some 70), none, .e (.app 3 1 8 (.t 67) (.t 69))⟩,
    ⟨8, false, [], (some 71), none, .e (.call (.f 145) [.t 64, .t 70])⟩,
    ⟨9, false, [], (some 72), none, .e (.app 30 1 24 (.t 63) (.t 71))⟩,
    ⟨10, false, [], (some 6), none, .q (.mov (.t 72))⟩] (.done))
  (.done)
  (.done)))))))))))
  (.op (some 31) none (.q (.mov (.t 7)))
  (.op (some 32) none (.q (.bin .add (.t 31) (.k (.int .i64 1))))
  (.op (some 7) none (.q (.mov (.t 32)))
  (.done))))))))))))
  (.op (some 73) none (.q (.mov (.t 6)))
  (.op (some 4) none (.q (.mov (.t 73)))
  (.ret)))))))))))))))))
def o145 : Nat → List Nat := fun i => if i = 16 then [0, 1, 3, 5, 2, 4, 6, 7, 8, 9, 10] else if i = 14 then [0, 1, 2, 3, 4, 5, 6, 7, 8, 9, 10, 11, 12, 13, 14, 15, 16] else []
set_option maxRecDepth 100000 in
theorem t145 : (Try.f145.body.map fun c => tr Try.prog o145 Try.f145.ntmps c .done) = some c145 := by kernel_rfl
theorem r145 : trR Try.prog Try.f145.results.toList = some [.t 4] := by kernel_rfl
theorem in145 {w0 : World} {args : List AV} {H : Hp} {Q : AV → Hp → Prop} (h : W Try.prog w0 c145 (retQ [.t 4] Q) (env0 args) H) : ACalls Try.prog w0 145 args H Q :=
  ACalls.intro2 mixed Try.func145 rfl t145 r145 h

/-- impl.isNucleus$1 -/
def c146 : CC :=
  .op (some 3) none (.q (.mov (.k (.bool false))))
  (.op (some 4) none (.q (.mov (.t 0)))
  (.op (some 5) none (.q (.load none (.t 1)))
  (.op (some 6) none (.q (.len (.t 5)))
  (.op (some 7) none (.q (.bin .sub (.t 6) (.k (.int .i64 1))))
  (.op (some 8) none (.e (.call (.f 62) [.t 4, .k (.int .i64 0), .t 7]))
  (.op (some 9) none (.q (.not (.t 8)))
  (.op (some 3) none (.q (.mov (.t 9)))
  (.ret))))))))
def o146 : Nat → List Nat := fun _ => []
set_option maxRecDepth 100000 in
theorem t146 : (Try.f146.body.map fun c => tr Try.prog o146 Try.f146.ntmps c .done) = some c146 := by kernel_rfl
theorem r146 : trR Try.prog Try.f146.results.toList = some [.t 3] := by kernel_rfl
theorem in146 {w0 : World} {args : List AV} {H : Hp} {Q : AV → Hp → Prop} (h : W Try.prog w0 c146 (retQ [.t 3] Q) (env0 args) H) : ACalls Try.prog w0 146 args H Q :=
  ACalls.intro2 mixed Try.func146 rfl t146 r146 h

/-- impl.at$1 -/
def c147 : CC :=
  .op (some 3) none (.q (.mov (.k (.bool false))))
  (.op (some 4) none (.q (.mov (.t 0)))
  (.op (some 5) none (.q (.fld 0 (.t 1)))
  (.op (some 6) none (.q (.load none (.t 5)))
  (.op (some 7) none (.q (.len (.t 6)))
  (.op (some 8) none (.q (.bin .sub (.t 7) (.k (.int .i64 1))))
  (.op (some 9) none (.e (.call (.f 62) [.t 4, .k (.int .i64 0), .t 8]))
  (.op (some 10) none (.q (.not (.t 9)))
  (.op (some 3) none (.q (.mov (.t 10)))
  (.ret)))))))))
def o147 : Nat → List Nat := fun _ => []
set_option maxRecDepth 100000 in
theorem t147 : (Try.f147.body.map fun c => tr Try.prog o147 Try.f147.ntmps c .done) = some c147 := by kernel_rfl
theorem r147 : trR Try.prog Try.f147.results.toList = some [.t 3] := by kernel_rfl
theorem in147 {w0 : World} {args : List AV} {H : Hp} {Q : AV → Hp → Prop} (h : W Try.prog w0 c147 (retQ [.t 3] Q) (env0 args) H) : ACalls Try.prog w0 147 args H Q :=
  ACalls.intro2 mixed Try.func147 rfl t147 r147 h

/-- spec.sumChain -/
def c148 : CC :=
  .op (some 2) none (.l (.alloc 36 [.nils, .nils]))
  (.op (some 7) none (.q (.mov (.t 0)))
  (.op (some 8) none (.e (.call (.f 127) [.t 7]))
  (.op (some 9) none (.q (.build [.nils, .nils] [(0, .t 8)]))
  (.op (some 3) none (.l (.alloc 36 [.nils, .nils]))
  (.op none none (.e (.store 2 (.t 3) (.t 9)))
  (.op (some 4) none (.q (.mov (.k (.int .i64 0))))
  (.block 0
  (.loop
  (.op (some 10) none (.q (.mov (.t 4)))
  (.op (some 11) none (.q (.mov (.t 0)))
  (.op (some 12) none (.q (.bin .lss (.t 10) (.t 11)))
  (.cond (.t 12)
  (.done)
  (.exit 0)
  (.block 1
  (.op (some 15) none (.l (.bsl 3 1 [.int .i64 0] 0 []))
  (.op (some 5) none (.q (.mov (.t 15)))
  (.op (some 6) none (.q (.mov (.k (.int .i64 0))))
  (.block 2
  (.loop
  (.op (some 16) none (.q (.mov (.t 6)))
  (.op (some 17) none (.q (.mov (.t 0)))
  (.op (some 18) none (.q (.bin .lss (.t 16) (.t 17)))
  (.cond (.t 18)
  (.done)
  (.exit 2)
  (.block 3
  (.op (some 21) none (.q (.mov (.t 5)))
  (.op (some 22) none (.q (.mov (.t 4)))
  (.op (some 23) none (.q (.mov (.t 6)))
  (.op (some 24) none (.q (.bin .add (.t 22) (.t 23)))
  (.op (some 25) none (.q (.mov (.t 0)))
  (.op (some 26) none (.q (.bin .sub (.t 24) (.t 25)))
  (.op (some 27) none (.q (.bin .add (.t 26) (.k (.int .i64 1))))
  (.op (some 28) none (.q (.mm true [.t 27, .k (.int .i64 0)]))
  (.op (some 29) none (.l (.bsl 3 1 [.int .i64 0] 1 [(0, .t 28)]))
  (.op (some 30) none (.e (.app 3 1 8 (.t 21) (.t 29)))
  (.op (some 5) none (.q (.mov (.t 30)))
  (.done))))))))))))
  (.op (some 19) none (.q (.mov (.t 6)))
  (.op (some 20) none (.q (.bin .add (.t 19) (.k (.int .i64 1))))
  (.op (some 6) none (.q (.mov (.t 20)))
  (.done))))))))))
  (.op (some 31) none (.q (.fld 1 (.t 3)))
  (.op (some 32) none (.q (.load none (.t 31)))
  (.op (some 33) none (.q (.mov (.t 5)))
  (.op (some 34) none (.l (.bsl 30 1 [.nils] 1 [(0, .t 33)]))
  (.op (some 35) none (.e (.app 30 1 24 (.t 32) (.t 34)))
  (.op (some 36) none (.q (.fld 1 (.t 3)))
  (.op none none (.e (.store 1 (.t 36) (.t 35)))
  (.done))))))))))))
  (.op (some 13) none (.q (.mov (.t 4)))
  (.op (some 14) none (.q (.bin .add (.t 13) (.k (.int .i64 1))))
  (.op (some 4) none (.q (.mov (.t 14)))
  (.done))))))))))
  (.op (some 37) none (.q (.load (some 2) (.t 3)))
  (.op none none (.e (.store 2 (.t 2) (.t 37)))
  (.ret))))))))))
def o148 : Nat → List Nat := fun _ => []
set_option maxRecDepth 100000 in
theorem t148 : (Try.f148.body.map fun c => tr Try.prog o148 Try.f148.ntmps c .done) = some c148 := by kernel_rfl
theorem r148 : trR Try.prog Try.f148.results.toList = some [.c (some 2) 2] := by kernel_rfl
theorem in148 {w0 : World} {args : List AV} {H : Hp} {Q : AV → Hp → Prop} (h : W Try.prog w0 c148 (retQ [.c (some 2) 2] Q) (env0 args) H) : ACalls Try.prog w0 148 args H Q :=
  ACalls.intro2 mixed Try.func148 rfl t148 r148 h

/-- spec.stack -/
def c149 : CC :=
  .op (some 2) none (.l (.box 36 (.t 0)))
  (.op (some 3) none (.l (.box 36 (.t 1)))
  (.op (some 4) none (.l (.alloc 36 [.nils, .nils]))
  (.op (some 13) none (.q (.fld 0 (.t 2)))
  (.op (some 14) none (.q (.load none (.t 13)))
  (.op (some 15) none (.q (.len (.t 14)))
  (.op (some 16) none (.q (.bin .sub (.t 15) (.k (.int .i64 1))))
  (.op (some 5) none (.q (.mov (.t 16)))
  (.op (some 17) none (.q (.mov (.t 5)))
  (.op (some 18) none (.q (.fld 0 (.t 3)))
  (.op (some 19) none (.q (.load none (.t 18)))
  (.op (some 20) none (.q (.len (.t 19)))
  (.op (some 21) none (.q (.bin .add (.t 17) (.t 20)))
  (.op (some 6) none (.q (.mov (.t 21)))
  (.op (some 22) none (.q (.build [.nils, .nils] []))
  (.op (some 7) none (.l (.alloc 36 [.nils, .nils]))
  (.op none none (.e (.store 2 (.t 7) (.t 22)))
  (.op (some 8) none (.q (.mov (.k (.int .i64 0))))
  (.block 0
  (.loop
  (.op (some 23) none (.q (.mov (.t 8)))
  (.op (some 24) none (.q (.mov (.t 6)))
  (.op (some 25) none (.q (.bin .lss (.t 23) (.t 24)))
  (.cond (.t 25)
  (.done)
  (.exit 0)
  (.block 1
  (.op (some 28) none (.l (.bsl 3 1 [.int .i64 0] 0 []))
  (.op (some 9) none (.q (.mov (.t 28)))
  (.op (some 10) none (.q (.mov (.k (.int .i64 0))))
  (.op (some 11) none (.q (.mov (.k (.int .i64 0))))
  (.block 2
  (.loop
  (.op (some 29) none (.q (.mov (.t 11)))
  (.op (some 30) none (.q (.mov (.t 6)))
  (.op (some 31) none (.q (.bin .lss (.t 29) (.t 30)))
  (.cond (.t 31)
  (.done)
  (.exit 2)
  (.block 3
  (.op (some 34) none (.q (.mov (.t 8)))
  (.op (some 35) none (.q (.mov (.t 11)))
  (.op (some 36) none (.q (.mm false [.t 34, .t 35]))
  (.op (some 12) none (.q (.mov (.t 36)))
  (.op (some 37) none (.q (.mov (.t 8)))
  (.op (some 38) none (.q (.mov (.t 5)))
  (.op (some 39) none (.q (.bin .lss (.t 37) (.t 38)))
  (.op (some 40) none (.q (.mov (.t 39)))
  (.op (some 41) (some (40, true)) (.q (.mov (.t 11)))
  (.op (some 42) (some (40, true)) (.q (.mov (.t 5)))
  (.op (some 43) (some (40, true)) (.q (.bin .lss (.t 41) (.t 42)))
  (.op (some 44) none (.q (.pick (.t 40) (.t 43) (.k (.bool false))))
  (.cond (.t 44)
  (.op (some 45) none (.q (.fld 1 (.t 2)))
  (.op (some 46) none (.q (.load none (.t 45)))
  (.op (some 47) none (.q (.mov (.t 8)))
  (.op (some 48) none (.q (.idx 1 (.t 46) (.t 47)))
  (.op (some 49) none (.q (.load none (.t 48)))
  (.op (some 50) none (.q (.mov (.t 11)))
  (.op (some 51) none (.q (.idx 1 (.t 49) (.t 50)))
  (.op (some 52) none (.q (.load none (.t 51)))
  (.op (some 12) none (.q (.mov (.t 52)))
  (.done))))))))))
  (.op (some 53) none (.q (.mov (.t 8)))
  (.op (some 54) none (.q (.mov (.t 5)))
  (.op (some 55) none (.q (.bin .geq (.t 53) (.t 54)))
  (.op (some 56) none (.q (.mov (.t 55)))
  (.op (some 57) (some (56, true)) (.q (.mov (.t 11)))
  (.op (some 58) (some (56, true)) (.q (.mov (.t 5)))
  (.op (some 59) (some (56, true)) (.q (.bin .geq (.t 57) (.t 58)))
  (.op (some 60) none (.q (.pick (.t 56) (.t 59) (.k (.bool false))))
  (.cond (.t 60)
  (.op (some 61) none (.q (.mov (.t 5)))
  (.op (some 62) none (.q (.fld 1 (.t 3)))
  (.op (some 63) none (.q (.load none (.t 62)))
  (.op (some 64) none (.q (.mov (.t 8)))
  (.op (some 65) none (.q (.mov (.t 5)))
  (.op (some 66) none (.q (.bin .sub (.t 64) (.t 65)))
  (.op (some 67) none (.q (.idx 1 (.t 63) (.t 66)))
  (.op (some 68) none (.q (.load none (.t 67)))
  (.op (some 69) none (.q (.mov (.t 11)))
  (.op (some 70) none (.q (.mov (.t 5)))
  (.op (some 71) none (.q (.bin .sub (.t 69) (.t 70)))
  (.op (some 72) none (.q (.idx 1 (.t 68) (.t 71)))
  (.op (some 73) none (.q (.load none (.t 72)))
  (.op (some 74) none (.q (.bin .add (.t 61) (.t 73)))
  (.op (some 12) none (.q (.mov (.t 74)))
  (.done))))))))))))))))
  (.done)
  (.done))))))))))
  (.op (some 75) none (.q (.mov (.t 9)))
  (.op (some 76) none (.q (.mov (.t 12)))
  (.op (some 77) none (.l (.bsl 3 1 [.int .i64 0] 1 [(0, .t 76)]))
  (.op (some 78) none (.e (.app 3 1 8 (.t 75) (.t 77)))
  (.op (some 9) none (.q (.mov (.t 78)))
  (.op (some 79) none (.q (.mov (.t 8)))
  (.op (some 80) none (.q (.mov (.t 5)))
  (.op (some 81) none (.q (.bin .lss (.t 79) (.t 80)))
  (.op (some 82) none (.q (.mov (.t 81)))
  (.op (some 83) (some (82, true)) (.q (.mov (.t 11)))
  (.op (some 84) (some (82, true)) (.q (.mov (.t 5)))
  (.op (some 85) (some (82, true)) (.q (.bin .geq (.t 83) (.t 84)))
  (.op (some 86) none (.q (.pick (.t 82) (.t 85) (.k (.bool false))))
  (.op (some 87) none (.q (.mov (.t 86)))
  (.op (some 88) (some (87, false)) (.q (.mov (.t 8)))
  (.op (some 89) (some (87, false)) (.q (.mov (.t 5)))
  (.op (some 90) (some (87, false)) (.q (.bin .lss (.t 88) (.t 89)))
  (.op (some 91) (some (87, false)) (.q (.mov (.t 90)))
  (.op (some 92) (some (91, true)) (.q (.mov (.t 11)))
  (.op (some 93) (some (91, true)) (.q (.mov (.t 5)))
  (.op (some 94) (some (91, true)) (.q (.bin .lss (.t 92) (.t 93)))
  (.op (some 95) (some (87, false)) (.q (.pick (.t 91) (.t 94) (.k (.bool false))))
  (.op (some 96) (some (87, false)) (.q (.mov (.t 95)))
  (.op (some 97) (some (96, true)) (.q (.fld 0 (.t 2)))
  (.op (some 98) (some (96, true)) (.q (.load none (.t 97)))
  (.op (some 99) (some (96, true)) (.q (.mov (.t 8)))
  (.op (some 100) (some (96, true)) (.q (.mov (.t 11)))
  (.op (some 101) (some (96, true)) (.e (.call (.f 93) [.t 98, .t 99, .t 100]))
  (.op (some 102) (some (87, false)) (.q (.pick (.t 96) (.t 101) (.k (.bool false))))
  (.op (some 103) none (.q (.pick (.t 87) (.k (.bool true)) (.t 102)))
  (.op (some 104) none (.q (.mov (.t 103)))
  (.op (some 105) (some (104, false)) (.q (.mov (.t 8)))
  (.op (some 106) (some (104, false)) (.q (.mov (.t 5)))
  (.op (some 107) (some (104, false)) (.q (.bin .geq (.t 105) (.t 106)))
  (.op (some 108) (some (104, false)) (.q (.mov (.t 107)))
  (.op (some 109) (some (108, true)) (.q (.mov (.t 11)))
  (.op (some 110) (some (108, true)) (.q (.mov (.t 5)))
  (.op (some 111) (some (108, true)) (.q (.bin .geq (.t 109) (.t 110)))
  (.op (some 112) (some (104, false)) (.q (.pick (.t 108) (.t 111) (.k (.bool false))))
  (.op (some 113) (some (104, false)) (.q (.mov (.t 112)))
  (.op (some 114) (some (113, true)) (.q (.fld 0 (.t 3)))
  (.op (some 115) (some (113, true)) (.q (.load none (.t 114)))
  (.op (some 116) (some (113, true)) (.q (.mov (.t 8)))
  (.op (some 117) (some (113, true)) (.q (.mov (.t 5)))
  (.op (some 118) (some (113, true)) (.q (.bin .sub (.t 116) (.t 117)))
  (.op (some 119) (some (113, true)) (.q (.mov (.t 11)))
  (.op (some 120) (some (113, true)) (.q (.mov (.t 5)))
  (.op (some 121) (some (113, true)) (.q (.bin .sub (.t 119) (.t 120)))
  (.op (some 122) (some (113, true)) (.e (.call (.f 93) [.t 115, .t 118, .t 121]))
  (.op (some 123) (some (104, false)) (.q (.pick (.t 113) (.t 122) (.k (.bool false))))
  (.op (some 124) none (.q (.pick (.t 104) (.k (.bool true)) (.t 123)))
  (.cond (.t 124)
  (.op (some 125) none (.q (.mov (.t 10)))
  (.op (some 126) none (.q (.mov (.t 11)))
  (.op (some 127) none (.e (.call (.f 82) [.t 126]))
  (.op (some 128) none (.q (.bin .add (.t 125) (.t 127)))
  (.op (some 10) none (.q (.mov (.t 128)))
  (.done))))))
  (.done)
  (.done))))))))))))))))))))))))))))))))))))))))))))))))))))))))))))))))))
  (.op (some 32) none (.q (.mov (.t 11)))
  (.op (some 33) none (.q (.bin .add (.t 32) (.k (.int .i64 1))))
  (.op (some 11) none (.q (.mov (.t 33)))
  (.done))))))))))
  (.op (some 129) none (.q (.fld 1 (.t 7)))
  (.op (some 130) none (.q (.load none (.t 129)))
  (.op (some 131) none (.q (.mov (.t 9)))
  (.op (some 132) none (.l (.bsl 30 1 [.nils] 1 [(0, .t 131)]))
  (.op (some 133) none (.e (.app 30 1 24 (.t 130) (.t 132)))
  (.op (some 134) none (.q (.fld 1 (.t 7)))
  (.op none none (.e (.store 1 (.t 134) (.t 133)))
  (.op (some 135) none (.q (.fld 0 (.t 7)))
  (.op (some 136) none (.q (.load none (.t 135)))
  (.op (some 137) none (.q (.mov (.t 10)))
  (.op (some 138) none (.l (.bsl 3 1 [.int .i64 0] 1 [(0, .t 137)]))
  (.op (some 139) none (.e (.app 3 1 8 (.t 136) (.t 138)))
  (.op (some 140) none (.q (.fld 0 (.t 7)))
  (.op none none (.e (.store 1 (.t 140) (.t 139)))
  (.done))))))))))))))))))))
  (.op (some 26) none (.q (.mov (.t 8)))
  (.op (some 27) none (.q (.bin .add (.t 26) (.k (.int .i64 1))))
  (.op (some 8) none (.q (.mov (.t 27)))
  (.done))))))))))
  (.op (some 141) none (.q (.load (some 2) (.t 7)))
  (.op none none (.e (.store 2 (.t 4) (.t 141)))
  (.ret)))))))))))))))))))))
def o149 : Nat → List Nat := fun _ => []
set_option maxRecDepth 100000 in
theorem t149 : (Try.f149.body.map fun c => tr Try.prog o149 Try.f149.ntmps c .done) = some c149 := by kernel_rfl
theorem r149 : trR Try.prog Try.f149.results.toList = some [.c (some 2) 4] := by kernel_rfl
theorem in149 {w0 : World} {args : List AV} {H : Hp} {Q : AV → Hp → Prop} (h : W Try.prog w0 c149 (retQ [.c (some 2) 4] Q) (env0 args) H) : ACalls Try.prog w0 149 args H Q :=
  ACalls.intro2 mixed Try.func149 rfl t149 r149 h

/-- slices.Equal[[]int,int] -/
def c150 : CC :=
  .op (some 4) none (.q (.mov (.k (.bool false))))
  (.op (some 6) none (.q (.mov (.t 0)))
  (.op (some 7) none (.q (.len (.t 6)))
  (.op (some 8) none (.q (.mov (.t 1)))
  (.op (some 9) none (.q (.len (.t 8)))
  (.op (some 10) none (.q (.bin .neq (.t 7) (.t 9)))
  (.cond (.t 10)
  (.op (some 4) none (.q (.mov (.k (.bool false))))
  (.ret))
  (.done)
  (.op (some 11) none (.q (.mov (.t 0)))
  (.op (some 12) none (.q (.len (.t 11)))
  (.op (some 13) none (.q (.mov (.k (.int .i64 0))))
  (.block 0
  (.loop
  (.op (some 14) none (.q (.bin .lss (.t 13) (.t 12)))
  (.cond (.t 14)
  (.done)
  (.exit 0)
  (.block 1
  (.op (some 15) none (.q (.mov (.t 13)))
  (.op (some 5) none (.q (.mov (.t 15)))
  (.draws [⟨0, false, [], (some 16), none, .q (.mov (.t 0))⟩,
    ⟨1, false, [], (some 17), none, .q (.mov (.t 5))⟩,
    ⟨2, false, [], (some 18), none, .q (.idx 1 (.t 16) (.t 17))⟩,
    ⟨3, false, [], (some 19), none, .q (.load none (.t 18))⟩,
    ⟨4, false, [], (some 20), none, .q (.mov (.t 1))⟩,
    ⟨5, false, [], (some 21), none, .q (.mov (.t 5))⟩,
    ⟨6, false, [], (some 22), none, .q (.idx 1 (.t 20) (.t 21))⟩,
    ⟨7, false, [], (some 23), none, .q (.load none (.t 22))⟩,
    ⟨8, false, [], (some 24), none, .q (.bin .neq (.t 19) (.t 23))⟩] (.cond (.t 24)
  (.op (some 4) none (.q (.mov (.k (.bool false))))
  (.ret))
  (.done)
  (.done)))))
  (.op (some 25) none (.q (.bin .add (.t 13) (.k (.int .i64 1))))
  (.op (some 13) none (.q (.mov (.t 25)))
  (.done)))))))
  (.op (some 4) none (.q (.mov (.k (.bool true))))
  (.ret))))))))))))
def o150 : Nat → List Nat := fun i => if i = 6 then [0, 1, 2, 3, 4, 5, 6, 7, 8] else []
set_option maxRecDepth 100000 in
theorem t150 : (Try.f150.body.map fun c => tr Try.prog o150 Try.f150.ntmps c .done) = some c150 := by kernel_rfl
theorem r150 : trR Try.prog Try.f150.results.toList = some [.t 4] := by kernel_rfl
theorem in150 {w0 : World} {args : List AV} {H : Hp} {Q : AV → Hp → Prop} (h : W Try.prog w0 c150 (retQ [.t 4] Q) (env0 args) H) : ACalls Try.prog w0 150 args H Q :=
  ACalls.intro2 mixed Try.func150 rfl t150 r150 h

/-- slices.EqualFunc[[][]int,[][]int,[]int,[]int] -/
def c151 : CC :=
  .op (some 6) none (.q (.mov (.k (.bool false))))
  (.op (some 10) none (.q (.mov (.t 0)))
  (.op (some 11) none (.q (.len (.t 10)))
  (.op (some 12) none (.q (.mov (.t 1)))
  (.op (some 13) none (.q (.len (.t 12)))
  (.op (some 14) none (.q (.bin .neq (.t 11) (.t 13)))
  (.cond (.t 14)
  (.op (some 6) none (.q (.mov (.k (.bool false))))
  (.ret))
  (.done)
  (.op (some 15) none (.q (.mov (.t 0)))
  (.op (some 16) none (.q (.len (.t 15)))
  (.op (some 17) none (.q (.mov (.k (.int .i64 0))))
  (.block 0
  (.loop
  (.op (some 18) none (.q (.bin .lss (.t 17) (.t 16)))
  (.cond (.t 18)
  (.done)
  (.exit 0)
  (.block 1
  (.op (some 19) none (.q (.mov (.t 17)))
  (.op (some 20) none (.q (.idx 1 (.t 15) (.t 17)))
  (.op (some 21) none (.q (.load none (.t 20)))
  (.op (some 7) none (.q (.mov (.t 19)))
  (.op (some 8) none (.q (.mov (.t 21)))
  (.op (some 22) none (.q (.mov (.t 1)))
  (.op (some 23) none (.q (.mov (.t 7)))
  (.op (some 24) none (.q (.idx 1 (.t 22) (.t 23)))
  (.op (some 25) none (.q (.load none (.t 24)))
  (.op (some 9) none (.q (.mov (.t 25)))
  (.op (some 26) none (.q (.mov (.t 2)))
  (.op (some 27) none (.q (.mov (.t 8)))
  (.op (some 28) none (.q (.mov (.t 9)))
  (.op (some 29) none (.e (.call (.t 26) [.t 27, .t 28]))
  (.op (some 30) none (.q (.not (.t 29)))
  (.cond (.t 30)
  (.op (some 6) none (.q (.mov (.k (.bool false))))
  (.ret))
  (.done)
  (.done)))))))))))))))))
  (.op (some 31) none (.q (.bin .add (.t 17) (.k (.int .i64 1))))
  (.op (some 17) none (.q (.mov (.t 31)))
  (.done)))))))
  (.op (some 6) none (.q (.mov (.k (.bool true))))
  (.ret))))))))))))
def o151 : Nat → List Nat := fun _ => []
set_option maxRecDepth 100000 in
theorem t151 : (Try.f151.body.map fun c => tr Try.prog o151 Try.f151.ntmps c .done) = some c151 := by kernel_rfl
theorem r151 : trR Try.prog Try.f151.results.toList = some [.t 6] := by kernel_rfl
theorem in151 {w0 : World} {args : List AV} {H : Hp} {Q : AV → Hp → Prop} (h : W Try.prog w0 c151 (retQ [.t 6] Q) (env0 args) H) : ACalls Try.prog w0 151 args H Q :=
  ACalls.intro2 mixed Try.func151 rfl t151 r151 h

/-- impl.stack -/
def c152 : CC :=
  .op (some 2) none (.l (.box 36 (.t 0)))
  (.op (some 3) none (.l (.box 36 (.t 1)))
  (.op (some 4) none (.l (.alloc 36 [.nils, .nils]))
  (.op (some 12) none (.q (.fld 0 (.t 2)))
  (.op (some 13) none (.q (.load none (.t 12)))
  (.op (some 14) none (.q (.len (.t 13)))
  (.op (some 15) none (.q (.bin .sub (.t 14) (.k (.int .i64 1))))
  (.op (some 16) none (.l (.bsl 3 1 [.int .i64 0] 0 []))
  (.op (some 5) none (.l (.alloc 3 [.int .i64 0]))
  (.op none none (.e (.store 1 (.t 5) (.t 15)))
  (.op (some 6) none (.q (.mov (.t 16)))
  (.draws [⟨0, false, [], (some 17), none, .q (.fld 0 (.t 3))⟩,
    ⟨1, false, [], (some 18), none, .q (.load none (.t 17))⟩,
    ⟨2, false, [], (some 19), none, .q (.len (.t 18))⟩,
    ⟨3, false, [], (some 20), none, .q (.bin .shl (.k (.int .i64 1)) (.t 19))⟩,
    ⟨4, false, [], (some 21), none, .q (.bin .sub (.t 20) (.k (.int .i64 1)))⟩,
    ⟨5, false, [], (some 22), none, .q (.load none (.t 5))⟩,
    ⟨6, false, [], (some 23), none, .q (.bin .shl (.t 21) (.t 22))⟩,
    ⟨7, false, [], (some 7), none, .q (.mov (.t 23))⟩] (.op (some 24) none (.q (.fld 0 (.t 2)))
  (.op (some 25) none (.q (.load none (.t 24)))
  (.op (some 26) none (.q (.load none (.t 5)))
  (.op (some 27) none (.q (.slc 1 (.t 25) none (some (.t 26))))
  (.op (some 28) none (.q (.len (.t 27)))
  (.op (some 29) none (.q (.mov (.k (.int .i64 0))))
  (.block 0
  (.loop
  (.op (some 30) none (.q (.bin .lss (.t 29) (.t 28)))
  (.cond (.t 30)
  (.done)
  (.exit 0)
  (.block 1
  (.op (some 31) none (.q (.idx 1 (.t 27) (.t 29)))
  (.op (some 32) none (.q (.load none (.t 31)))
  (.op (some 9) none (.q (.mov (.t 32)))
  (.op (some 33) none (.q (.mov (.t 6)))
  (.op (some 34) none (.q (.mov (.t 9)))
  (.op (some 35) none (.q (.load none (.t 5)))
  (.op (some 36) none (.q (.bin .shl (.k (.int .i64 1)) (.t 35)))
  (.op (some 37) none (.q (.bin .andNot (.t 34) (.t 36)))
  (.op (some 38) none (.q (.mov (.t 7)))
  (.op (some 39) none (.q (.bin .or (.t 37) (.t 38)))
  (.op (some 40) none (.l (.bsl 3 1 [.int .i64 0] 1 [(0, .t 39)]))
  (.op (some 41) none (.e (.app 3 1 8 (.t 33) (.t 40)))
  (.op (some 6) none (.q (.mov (.t 41)))
  (.done))))))))))))))
  (.op (some 42) none (.q (.bin .add (.t 29) (.k (.int .i64 1))))
  (.op (some 29) none (.q (.mov (.t 42)))
  (.done)))))))
  (.op (some 43) none (.q (.fld 0 (.t 3)))
  (.op (some 44) none (.q (.load none (.t 43)))
  (.op (some 45) none (.q (.len (.t 44)))
  (.op (some 46) none (.q (.mov (.k (.int .i64 0))))
  (.block 2
  (.loop
  (.op (some 47) none (.q (.bin .lss (.t 46) (.t 45)))
  (.cond (.t 47)
  (.done)
  (.exit 2)
  (.block 3
  (.op (some 48) none (.q (.idx 1 (.t 44) (.t 46)))
  (.op (some 49) none (.q (.load none (.t 48)))
  (.op (some 11) none (.q (.mov (.t 49)))
  (.op (some 50) none (.q (.mov (.t 6)))
  (.op (some 51) none (.q (.mov (.t 11)))
  (.op (some 52) none (.q (.load none (.t 5)))
  (.op (some 53) none (.q (.bin .shl (.t 51) (.t 52)))
  (.op (some 54) none (.l (.bsl 3 1 [.int .i64 0] 1 [(0, .t 53)]))
  (.op (some 55) none (.e (.app 3 1 8 (.t 50) (.t 54)))
  (.op (some 6) none (.q (.mov (.t 55)))
  (.done)))))))))))
  (.op (some 56) none (.q (.bin .add (.t 46) (.k (.int .i64 1))))
  (.op (some 46) none (.q (.mov (.t 56)))
  (.done)))))))
  (.op (some 57) none (.q (.mov (.t 6)))
  (.op (some 58) none (.q (.mkf 169 [.t 5, .t 3, .t 2]))
  (.op (some 59) none (.e (.call (.f 91) [.t 57, .t 58]))
  (.op none none (.e (.store 2 (.t 4) (.t 59)))
  (.ret))))))))))))))))))))))))))))
def o152 : Nat → List Nat := fun i => if i = 2 then [0, 1, 2, 3, 4, 5, 6, 7] else []
set_option maxRecDepth 100000 in
theorem t152 : (Try.f152.body.map fun c => tr Try.prog o152 Try.f152.ntmps c .done) = some c152 := by kernel_rfl
theorem r152 : trR Try.prog Try.f152.results.toList = some [.c (some 2) 4] := by kernel_rfl
theorem in152 {w0 : World} {args : List AV} {H : Hp} {Q : AV → Hp → Prop} (h : W Try.prog w0 c152 (retQ [.c (some 2) 4] Q) (env0 args) H) : ACalls Try.prog w0 152 args H Q :=
  ACalls.intro2 mixed Try.func152 rfl t152 r152 h

/-- impl.meet -/
def c153 : CC :=
  .op (some 6) none (.q (.mov (.k (.int .i64 0))))
  (.op (some 10) none (.q (.mov (.t 0)))
  (.op (some 11) none (.q (.len (.t 10)))
  (.op (some 12) none (.q (.mov (.k (.int .i64 0))))
  (.block 0
  (.loop
  (.op (some 13) none (.q (.bin .lss (.t 12) (.t 11)))
  (.cond (.t 13)
  (.done)
  (.exit 0)
  (.block 1
  (.op (some 14) none (.q (.mov (.t 12)))
  (.op (some 7) none (.q (.mov (.t 14)))
  (.op (some 15) none (.q (.mov (.t 0)))
  (.op (some 16) none (.q (.mov (.t 7)))
  (.op (some 17) none (.q (.mov (.t 1)))
  (.op (some 18) none (.e (.call (.f 96) [.t 15, .t 16, .t 17]))
  (.op (some 19) none (.q (.not (.t 18)))
  (.op (some 20) none (.q (.mov (.t 19)))
  (.op (some 21) (some (20, false)) (.q (.mov (.t 0)))
  (.op (some 22) (some (20, false)) (.q (.mov (.t 7)))
  (.op (some 23) (some (20, false)) (.q (.mov (.t 2)))
  (.op (some 24) (some (20, false)) (.e (.call (.f 96) [.t 21, .t 22, .t 23]))
  (.op (some 25) (some (20, false)) (.q (.not (.t 24)))
  (.op (some 26) none (.q (.pick (.t 20) (.k (.bool true)) (.t 25)))
  (.cond (.t 26)
  (.exit 1)
  (.done)
  (.op (some 8) none (.q (.mov (.k (.bool true))))
  (.op (some 27) none (.q (.mov (.t 0)))
  (.op (some 28) none (.q (.len (.t 27)))
  (.op (some 29) none (.q (.mov (.k (.int .i64 0))))
  (.block 2
  (.loop
  (.op (some 30) none (.q (.bin .lss (.t 29) (.t 28)))
  (.cond (.t 30)
  (.done)
  (.exit 2)
  (.block 3
  (.op (some 31) none (.q (.mov (.t 29)))
  (.op (some 9) none (.q (.mov (.t 31)))
  (.op (some 32) none (.q (.mov (.t 8)))
  (.op (some 33) none (.q (.mov (.t 32)))
  (.op (some 34) (some (33, true)) (.q (.mov (.t 0)))
  (.op (some 35) (some (33, true)) (.q (.mov (.t 9)))
  (.op (some 36) (some (33, true)) (.q (.mov (.t 1)))
  (.op (some 37) (some (33, true)) (.e (.call (.f 96) [.t 34, .t 35, .t 36]))
  (.op (some 38) (some (33, true)) (.q (.not (.t 37)))
  (.op (some 39) (some (33, true)) (.q (.mov (.t 38)))
  (.op (some 40) (some (39, false)) (.q (.mov (.t 0)))
  (.op (some 41) (some (39, false)) (.q (.mov (.t 9)))
  (.op (some 42) (some (39, false)) (.q (.mov (.t 2)))
  (.op (some 43) (some (39, false)) (.e (.call (.f 96) [.t 40, .t 41, .t 42]))
  (.op (some 44) (some (39, false)) (.q (.not (.t 43)))
  (.op (some 45) (some (33, true)) (.q (.pick (.t 39) (.k (.bool true)) (.t 44)))
  (.op (some 46) (some (33, true)) (.q (.mov (.t 45)))
  (.op (some 47) (some (46, false)) (.q (.mov (.t 0)))
  (.op (some 48) (some (46, false)) (.q (.mov (.t 9)))
  (.op (some 49) (some (46, false)) (.q (.mov (.t 7)))
  (.op (some 50) (some (46, false)) (.e (.call (.f 96) [.t 47, .t 48, .t 49]))
  (.op (some 51) (some (33, true)) (.q (.pick (.t 46) (.k (.bool true)) (.t 50)))
  (.op (some 52) none (.q (.pick (.t 33) (.t 51) (.k (.bool false))))
  (.op (some 8) none (.q (.mov (.t 52)))
  (.done)))))))))))))))))))))))))
  (.op (some 53) none (.q (.bin .add (.t 29) (.k (.int .i64 1))))
  (.op (some 29) none (.q (.mov (.t 53)))
  (.done)))))))
  (.op (some 54) none (.q (.mov (.t 8)))
  (.cond (.t 54)
  (.op (some 55) none (.q (.mov (.t 7)))
  (.op (some 6) none (.q (.mov (.t 55)))
  (.ret)))
  (.done)
  (.done)))))))))))))))))))))))
  (.op (some 56) none (.q (.bin .add (.t 12) (.k (.int .i64 1))))
  (.op (some 12) none (.q (.mov (.t 56)))
  (.done)))))))
  (.op (some 6) none (.q (.mov (.k (.int .i64 (-1)))))
  (.ret))))))
def o153 : Nat → List Nat := fun _ => []
set_option maxRecDepth 100000 in
theorem t153 : (Try.f153.body.map fun c => tr Try.prog o153 Try.f153.ntmps c .done) = some c153 := by kernel_rfl
theorem r153 : trR Try.prog Try.f153.results.toList = some [.t 6] := by kernel_rfl
theorem in153 {w0 : World} {args : List AV} {H : Hp} {Q : AV → Hp → Prop} (h : W Try.prog w0 c153 (retQ [.t 6] Q) (env0 args) H) : ACalls Try.prog w0 153 args H Q :=
  ACalls.intro2 mixed Try.func153 rfl t153 r153 h

/-- slices.IndexFunc[[]int,int] -/
def c154 : CC :=
  .op (some 4) none (.q (.mov (.k (.int .i64 0))))
  (.op (some 6) none (.q (.mov (.t 0)))
  (.op (some 7) none (.q (.len (.t 6)))
  (.op (some 8) none (.q (.mov (.k (.int .i64 0))))
  (.block 0
  (.loop
  (.op (some 9) none (.q (.bin .lss (.t 8) (.t 7)))
  (.cond (.t 9)
  (.done)
  (.exit 0)
  (.block 1
  (.op (some 10) none (.q (.mov (.t 8)))
  (.op (some 5) none (.q (.mov (.t 10)))
  (.op (some 11) none (.q (.mov (.t 1)))
  (.op (some 12) none (.q (.mov (.t 0)))
  (.op (some 13) none (.q (.mov (.t 5)))
  (.op (some 14) none (.q (.idx 1 (.t 12) (.t 13)))
  (.op (some 15) none (.q (.load none (.t 14)))
  (.op (some 16) none (.e (.call (.t 11) [.t 15]))
  (.cond (.t 16)
  (.op (some 17) none (.q (.mov (.t 5)))
  (.op (some 4) none (.q (.mov (.t 17)))
  (.ret)))
  (.done)
  (.done))))))))))
  (.op (some 18) none (.q (.bin .add (.t 8) (.k (.int .i64 1))))
  (.op (some 8) none (.q (.mov (.t 18)))
  (.done)))))))
  (.op (some 4) none (.q (.mov (.k (.int .i64 (-1)))))
  (.ret))))))
def o154 : Nat → List Nat := fun _ => []
set_option maxRecDepth 100000 in
theorem t154 : (Try.f154.body.map fun c => tr Try.prog o154 Try.f154.ntmps c .done) = some c154 := by kernel_rfl
theorem r154 : trR Try.prog Try.f154.results.toList = some [.t 4] := by kernel_rfl
theorem in154 {w0 : World} {args : List AV} {H : Hp} {Q : AV → Hp → Prop} (h : W Try.prog w0 c154 (retQ [.t 4] Q) (env0 args) H) : ACalls Try.prog w0 154 args H Q :=
  ACalls.intro2 mixed Try.func154 rfl t154 r154 h

/-- slices.Index[[]string,string] -/
def c155 : CC :=
  .op (some 4) none (.q (.mov (.k (.int .i64 0))))
  (.op (some 6) none (.q (.mov (.t 0)))
  (.op (some 7) none (.q (.len (.t 6)))
  (.op (some 8) none (.q (.mov (.k (.int .i64 0))))
  (.block 0
  (.loop
  (.op (some 9) none (.q (.bin .lss (.t 8) (.t 7)))
  (.cond (.t 9)
  (.done)
  (.exit 0)
  (.block 1
  (.op (some 10) none (.q (.mov (.t 8)))
  (.op (some 5) none (.q (.mov (.t 10)))
  (.op (some 11) none (.q (.mov (.t 1)))
  (.op (some 12) none (.q (.mov (.t 0)))
  (.op (some 13) none (.q (.mov (.t 5)))
  (.op (some 14) none (.q (.idx 1 (.t 12) (.t 13)))
  (.op (some 15) none (.q (.load none (.t 14)))
  (.op (some 16) none (.q (.bin .eql (.t 11) (.t 15)))
  (.cond (.t 16)
  (.op (some 17) none (.q (.mov (.t 5)))
  (.op (some 4) none (.q (.mov (.t 17)))
  (.ret)))
  (.done)
  (.done))))))))))
  (.op (some 18) none (.q (.bin .add (.t 8) (.k (.int .i64 1))))
  (.op (some 8) none (.q (.mov (.t 18)))
  (.done)))))))
  (.op (some 4) none (.q (.mov (.k (.int .i64 (-1)))))
  (.ret))))))
def o155 : Nat → List Nat := fun _ => []
set_option maxRecDepth 100000 in
theorem t155 : (Try.f155.body.map fun c => tr Try.prog o155 Try.f155.ntmps c .done) = some c155 := by kernel_rfl
theorem r155 : trR Try.prog Try.f155.results.toList = some [.t 4] := by kernel_rfl
theorem in155 {w0 : World} {args : List AV} {H : Hp} {Q : AV → Hp → Prop} (h : W Try.prog w0 c155 (retQ [.t 4] Q) (env0 args) H) : ACalls Try.prog w0 155 args H Q :=
  ACalls.intro2 mixed Try.func155 rfl t155 r155 h

/-- impl.chain -/
def c156 : CC :=
  .op (some 2) none (.q (.mov (.k (.nils))))
  (.op (some 5) none (.l (.bsl 3 1 [.int .i64 0] 0 []))
  (.op (some 3) none (.q (.mov (.t 5)))
  (.op (some 4) none (.q (.mov (.k (.int .i64 0))))
  (.block 0
  (.loop
  (.op (some 6) none (.q (.mov (.t 4)))
  (.op (some 7) none (.q (.mov (.t 0)))
  (.op (some 8) none (.q (.bin .lss (.t 6) (.t 7)))
  (.cond (.t 8)
  (.done)
  (.exit 0)
  (.block 1
  (.draws [⟨0, false, [], (some 11), none, .q (.mov (.t 3))⟩,
    ⟨1, false, [], (some 12), none, .q (.mov (.t 0))⟩,
    ⟨2, false, [], (some 13), none, .q (.bin .shl (.k (.int .i64 1)) (.t 12))⟩,
    ⟨3, false, [], (some 14), none, .q (.mov (.t 4))⟩,
    ⟨4, false, [], (some 15), none, .q (.bin .shl (.k (.int .i64 1)) (.t 14))⟩,
    ⟨5, false, [], (some 16), none, .q (.bin .sub (.t 13) (.t 15))⟩,
    ⟨6, false, [], (some 17), none, .l (.bsl 3 1 [.int .i64 0] 1 [(0, .t 16)])⟩,
    ⟨7, false, [], (some 18), none, .e (.app 3 1 8 (.t 11) (.t 17))⟩,
    ⟨8, false, [], (some 3), none, .q (.mov (.t 18))⟩] (.draws [⟨0, false, [], (some 19), none, .q (.mov (.t 3))⟩,
    ⟨1, false, [], (some 20), none, .q (.mov (.t 4))⟩,
    ⟨2, false, [], (some 21), none, .q (.idx 1 (.t 19) (.t 20))⟩,
    ⟨3, false, [], (some 22), none, .q (.load none (.t 21))⟩,
    ⟨4, false, [], (some 23), none, .q (.mov (.t 0))⟩,
    ⟨5, false, [], (some 24), none, .q (.bin .shl (.k (.int .i64 1)) (.t 23))⟩,
    ⟨6, false, [], (some 25), none, .q (.bin .sub (.t 24) (.k (.int .i64 1)))⟩,
    ⟨7, false, [], (some 26), none, .q (.bin .and (.t 22) (.t 25))⟩,
    ⟨8, false, [], (some 27), none, .q (.idx 1 (.t 19) (.t 20))⟩,
    ⟨9, false, [], none, none, .e (.store 1 (.t 27) (.t 26))⟩] (.done)))
  (.op (some 9) none (.q (.mov (.t 4)))
  (.op (some 10) none (.q (.bin .add (.t 9) (.k (.int .i64 1))))
  (.op (some 4) none (.q (.mov (.t 10)))
  (.done))))))))))
  (.op (some 28) none (.q (.mov (.t 3)))
  (.op (some 2) none (.q (.mov (.t 28)))
  (.ret)))))))
def o156 : Nat → List Nat := fun i => if i = 6 then [0, 1, 2, 3, 4, 5, 6, 7, 8, 9] else if i = 5 then [0, 1, 2, 3, 4, 5, 6, 7, 8] else []
set_option maxRecDepth 100000 in
theorem t156 : (Try.f156.body.map fun c => tr Try.prog o156 Try.f156.ntmps c .done) = some c156 := by kernel_rfl
theorem r156 : trR Try.prog Try.f156.results.toList = some [.t 2] := by kernel_rfl
theorem in156 {w0 : World} {args : List AV} {H : Hp} {Q : AV → Hp → Prop} (h : W Try.prog w0 c156 (retQ [.t 2] Q) (env0 args) H) : ACalls Try.prog w0 156 args H Q :=
  ACalls.intro2 mixed Try.func156 rfl t156 r156 h

/-- impl.sumChain$1 -/
def c157 : CC :=
  .op (some 5) none (.q (.mov (.k (.int .i64 0))))
  (.op (some 6) none (.q (.mov (.t 0)))
  (.op (some 7) none (.q (.mov (.t 1)))
  (.op (some 8) none (.q (.bin .add (.t 6) (.t 7)))
  (.op (some 9) none (.q (.bin .add (.t 8) (.k (.int .i64 1))))
  (.op (some 10) none (.q (.load none (.t 2)))
  (.op (some 11) none (.q (.bin .sub (.t 9) (.t 10)))
  (.op (some 12) none (.q (.mm true [.k (.int .i64 0), .t 11]))
  (.op (some 5) none (.q (.mov (.t 12)))
  (.ret)))))))))
def o157 : Nat → List Nat := fun _ => []
set_option maxRecDepth 100000 in
theorem t157 : (Try.f157.body.map fun c => tr Try.prog o157 Try.f157.ntmps c .done) = some c157 := by kernel_rfl
theorem r157 : trR Try.prog Try.f157.results.toList = some [.t 5] := by kernel_rfl
theorem in157 {w0 : World} {args : List AV} {H : Hp} {Q : AV → Hp → Prop} (h : W Try.prog w0 c157 (retQ [.t 5] Q) (env0 args) H) : ACalls Try.prog w0 157 args H Q :=
  ACalls.intro2 mixed Try.func157 rfl t157 r157 h

/-- impl.not -/
def c158 : CC :=
  .op (some 2) none (.l (.box 36 (.t 0)))
  (.op (some 4) none (.q (.mov (.k (.int .i64 0))))
  (.op (some 5) none (.q (.load (some 2) (.t 2)))
  (.op (some 6) none (.q (.mov (.t 1)))
  (.op (some 7) none (.e (.call (.f 90) [.t 5, .t 6, .k (.int .i64 0)]))
  (.op (some 4) none (.q (.mov (.t 7)))
  (.ret))))))
def o158 : Nat → List Nat := fun _ => []
set_option maxRecDepth 100000 in
theorem t158 : (Try.f158.body.map fun c => tr Try.prog o158 Try.f158.ntmps c .done) = some c158 := by kernel_rfl
theorem r158 : trR Try.prog Try.f158.results.toList = some [.t 4] := by kernel_rfl
theorem in158 {w0 : World} {args : List AV} {H : Hp} {Q : AV → Hp → Prop} (h : W Try.prog w0 c158 (retQ [.t 4] Q) (env0 args) H) : ACalls Try.prog w0 158 args H Q :=
  ACalls.intro2 mixed Try.func158 rfl t158 r158 h

/-- spec.copyTable -/
def c159 : CC :=
  .op (some 2) none (.q (.mov (.k (.nils))))
  (.op (some 5) none (.l (.bsl 30 1 [.nils] 0 []))
  (.op (some 3) none (.q (.mov (.t 5)))
  (.op (some 4) none (.q (.mov (.k (.int .i64 0))))
  (.block 0
  (.loop
  (.op (some 6) none (.q (.mov (.t 4)))
  (.op (some 7) none (.q (.mov (.t 0)))
  (.op (some 8) none (.q (.len (.t 7)))
  (.op (some 9) none (.q (.bin .lss (.t 6) (.t 8)))
  (.cond (.t 9)
  (.done)
  (.exit 0)
  (.block 1
  (.op (some 12) none (.q (.mov (.t 3)))
  (.op (some 13) none (.l (.bsl 3 1 [.int .i64 0] 0 []))
  (.op (some 14) none (.q (.mov (.t 0)))
  (.op (some 15) none (.q (.mov (.t 4)))
  (.op (some 16) none (.q (.idx 1 (.t 14) (.t 15)))
  (.op (some 17) none (.q (.load none (.t 16)))
  (.op (some 18) none (.e (.app 3 1 8 (.t 13) (.t 17)))
  (.op (some 19) none (.l (.bsl 30 1 [.nils] 1 [(0, .t 18)]))
  (.op (some 20) none (.e (.app 30 1 24 (.t 12) (.t 19)))
  (.op (some 3) none (.q (.mov (.t 20)))
  (.done)))))))))))
  (.op (some 10) none (.q (.mov (.t 4)))
  (.op (some 11) none (.q (.bin .add (.t 10) (.k (.int .i64 1))))
  (.op (some 4) none (.q (.mov (.t 11)))
  (.done)))))))))))
  (.op (some 21) none (.q (.mov (.t 3)))
  (.op (some 2) none (.q (.mov (.t 21)))
  (.ret)))))))
def o159 : Nat → List Nat := fun _ => []
set_option maxRecDepth 100000 in
theorem t159 : (Try.f159.body.map fun c => tr Try.prog o159 Try.f159.ntmps c .done) = some c159 := by kernel_rfl
theorem r159 : trR Try.prog Try.f159.results.toList = some [.t 2] := by kernel_rfl
theorem in159 {w0 : World} {args : List AV} {H : Hp} {Q : AV → Hp → Prop} (h : W Try.prog w0 c159 (retQ [.t 2] Q) (env0 args) H) : ACalls Try.prog w0 159 args H Q :=
  ACalls.intro2 mixed Try.func159 rfl t159 r159 h

end Go.AL
