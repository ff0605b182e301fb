/-
  Lemmas that the proofs of the given statements of this seat use. Conditions: none.
-/
import Derived.Test.YtkkgckmgplicjaaCodeB0
import Derived.Test.YtkkgckmgplicjaaProg
import Derived.KernelRfl
/-
  The compact code of the functions, written by a program of mine out of the translation; Lean checks each against the translation.
-/
namespace Go.AL
open Go.Proofs
set_option maxRecDepth 100000
/-- spec.validOrder -/
def c160 : CC :=
  .op (some 2) none (.q (.mov (.k (.bool false))))
  (.op (some 8) none (.q (.mov (.t 0)))
  (.op (some 9) none (.q (.len (.t 8)))
  (.op (some 3) none (.q (.mov (.t 9)))
  (.op (some 10) none (.q (.mov (.t 3)))
  (.op (some 11) none (.e (.call (.f 66) [.t 10, .k (.int .i64 1), .k (.int .i64 6)]))
  (.op (some 12) none (.q (.not (.t 11)))
  (.cond (.t 12)
  (.op (some 2) none (.q (.mov (.k (.bool false))))
  (.ret))
  (.done)
  (.op (some 4) none (.q (.mov (.k (.int .i64 0))))
  (.block 0
  (.loop
  (.op (some 13) none (.q (.mov (.t 4)))
  (.op (some 14) none (.q (.mov (.t 3)))
  (.op (some 15) none (.q (.bin .lss (.t 13) (.t 14)))
  (.cond (.t 15)
  (.done)
  (.exit 0)
  (.block 1
  (.draws [⟨0, false, [], (some 18), none, .q (.mov (.t 0))⟩,
    ⟨1, false, [], (some 19), none, .q (.mov (.t 4))⟩,
    ⟨2, false, [], (some 20), none, .q (.idx 1 (.t 18) (.t 19))⟩,
    ⟨3, true, [], (some 21), none, .q (.load none (.t 20))⟩,
    ⟨4, false, [], (some 22), none, .q (.mov (.t 3))⟩,
    ⟨5, false, [], (some 23), none, .e (.call (.f 82) [.t 22])⟩,
    ⟨6, false, [], (some 24), none, .q (.bin .sub (.t 23) (.k (.int .i64 1)))⟩,
    ⟨7, false, [], (some 25), none, .e (.call (.f 66) [.t 21, .k (.int .i64 0), .t 24])⟩,
    ⟨8, false, [], (some 26), none, .q (.not (.t 25))⟩] (.cond (.t 26)
  (.op (some 2) none (.q (.mov (.k (.bool false))))
  (.ret))
  (.done)
  (.done)))
  (.op (some 16) none (.q (.mov (.t 4)))
  (.op (some 17) none (.q (.bin .add (.t 16) (.k (.int .i64 1))))
  (.op (some 4) none (.q (.mov (.t 17)))
  (.done))))))))))
  (.op (some 5) none (.q (.mov (.k (.int .i64 0))))
  (.block 2
  (.loop
  (.op (some 27) none (.q (.mov (.t 5)))
  (.op (some 28) none (.q (.mov (.t 3)))
  (.op (some 29) none (.q (.bin .lss (.t 27) (.t 28)))
  (.cond (.t 29)
  (.done)
  (.exit 2)
  (.block 3
  (.op (some 32) none (.q (.mov (.t 0)))
  (.op (some 33) none (.q (.mov (.t 5)))
  (.op (some 34) none (.q (.mov (.t 5)))
  (.op (some 35) none (.e (.call (.f 93) [.t 32, .t 33, .t 34]))
  (.op (some 36) none (.q (.not (.t 35)))
  (.op (some 37) none (.q (.mov (.t 36)))
  (.op (some 38) (some (37, false)) (.q (.mov (.t 0)))
  (.op (some 39) (some (37, false)) (.q (.mov (.t 5)))
  (.op (some 40) (some (37, false)) (.e (.call (.f 93) [.t 38, .k (.int .i64 0), .t 39]))
  (.op (some 41) (some (37, false)) (.q (.not (.t 40)))
  (.op (some 42) none (.q (.pick (.t 37) (.k (.bool true)) (.t 41)))
  (.op (some 43) none (.q (.mov (.t 42)))
  (.op (some 44) (some (43, false)) (.q (.mov (.t 0)))
  (.op (some 45) (some (43, false)) (.q (.mov (.t 5)))
  (.op (some 46) (some (43, false)) (.q (.mov (.t 3)))
  (.op (some 47) (some (43, false)) (.q (.bin .sub (.t 46) (.k (.int .i64 1))))
  (.op (some 48) (some (43, false)) (.e (.call (.f 93) [.t 44, .t 45, .t 47]))
  (.op (some 49) (some (43, false)) (.q (.not (.t 48)))
  (.op (some 50) none (.q (.pick (.t 43) (.k (.bool true)) (.t 49)))
  (.cond (.t 50)
  (.op (some 2) none (.q (.mov (.k (.bool false))))
  (.ret))
  (.done)
  (.op (some 6) none (.q (.mov (.k (.int .i64 0))))
  (.block 4
  (.loop
  (.op (some 51) none (.q (.mov (.t 6)))
  (.op (some 52) none (.q (.mov (.t 3)))
  (.op (some 53) none (.q (.bin .lss (.t 51) (.t 52)))
  (.cond (.t 53)
  (.done)
  (.exit 4)
  (.block 5
  (.op (some 56) none (.q (.mov (.t 5)))
  (.op (some 57) none (.q (.mov (.t 6)))
  (.op (some 58) none (.q (.bin .neq (.t 56) (.t 57)))
  (.op (some 59) none (.q (.mov (.t 58)))
  (.op (some 60) (some (59, true)) (.q (.mov (.t 0)))
  (.op (some 61) (some (59, true)) (.q (.mov (.t 5)))
  (.op (some 62) (some (59, true)) (.q (.mov (.t 6)))
  (.op (some 63) (some (59, true)) (.e (.call (.f 93) [.t 60, .t 61, .t 62]))
  (.op (some 64) none (.q (.pick (.t 59) (.t 63) (.k (.bool false))))
  (.op (some 65) none (.q (.mov (.t 64)))
  (.op (some 66) (some (65, true)) (.q (.mov (.t 0)))
  (.op (some 67) (some (65, true)) (.q (.mov (.t 6)))
  (.op (some 68) (some (65, true)) (.q (.mov (.t 5)))
  (.op (some 69) (some (65, true)) (.e (.call (.f 93) [.t 66, .t 67, .t 68]))
  (.op (some 70) none (.q (.pick (.t 65) (.t 69) (.k (.bool false))))
  (.cond (.t 70)
  (.op (some 2) none (.q (.mov (.k (.bool false))))
  (.ret))
  (.done)
  (.op (some 7) none (.q (.mov (.k (.int .i64 0))))
  (.block 6
  (.loop
  (.op (some 71) none (.q (.mov (.t 7)))
  (.op (some 72) none (.q (.mov (.t 3)))
  (.op (some 73) none (.q (.bin .lss (.t 71) (.t 72)))
  (.cond (.t 73)
  (.done)
  (.exit 6)
  (.block 7
  (.op (some 76) none (.q (.mov (.t 0)))
  (.op (some 77) none (.q (.mov (.t 5)))
  (.op (some 78) none (.q (.mov (.t 6)))
  (.op (some 79) none (.e (.call (.f 93) [.t 76, .t 77, .t 78]))
  (.op (some 80) none (.q (.mov (.t 79)))
  (.op (some 81) (some (80, true)) (.q (.mov (.t 0)))
  (.op (some 82) (some (80, true)) (.q (.mov (.t 6)))
  (.op (some 83) (some (80, true)) (.q (.mov (.t 7)))
  (.op (some 84) (some (80, true)) (.e (.call (.f 93) [.t 81, .t 82, .t 83]))
  (.op (some 85) none (.q (.pick (.t 80) (.t 84) (.k (.bool false))))
  (.op (some 86) none (.q (.mov (.t 85)))
  (.op (some 87) (some (86, true)) (.q (.mov (.t 0)))
  (.op (some 88) (some (86, true)) (.q (.mov (.t 5)))
  (.op (some 89) (some (86, true)) (.q (.mov (.t 7)))
  (.op (some 90) (some (86, true)) (.e (.call (.f 93) [.t 87, .t 88, .t 89]))
  (.op (some 91) (some (86, true)) (.q (.not (.t 90)))
  (.op (some 92) none (.q (.pick (.t 86) (.t 91) (.k (.bool false))))
  (.cond (.t 92)
  (.op (some 2) none (.q (.mov (.k (.bool false))))
  (.ret))
  (.done)
  (.done)))))))))))))))))))
  (.op (some 74) none (.q (.mov (.t 7)))
  (.op (some 75) none (.q (.bin .add (.t 74) (.k (.int .i64 1))))
  (.op (some 7) none (.q (.mov (.t 75)))
  (.done))))))))))
  (.done)))))))))))))))))))
  (.op (some 54) none (.q (.mov (.t 6)))
  (.op (some 55) none (.q (.bin .add (.t 54) (.k (.int .i64 1))))
  (.op (some 6) none (.q (.mov (.t 55)))
  (.done))))))))))
  (.done)))))))))))))))))))))))
  (.op (some 30) none (.q (.mov (.t 5)))
  (.op (some 31) none (.q (.bin .add (.t 30) (.k (.int .i64 1))))
  (.op (some 5) none (.q (.mov (.t 31)))
  (.done))))))))))
  (.op (some 2) none (.q (.mov (.k (.bool true))))
  (.ret)))))))))))))
def o160 : Nat → List Nat := fun i => if i = 7 then [0, 1, 2, 3, 4, 5, 6, 7, 8] else []
set_option maxRecDepth 100000 in
theorem t160 : (Try.f160.body.map fun c => tr Try.prog o160 Try.f160.ntmps c .done) = some c160 := by kernel_rfl
theorem r160 : trR Try.prog Try.f160.results.toList = some [.t 2] := by kernel_rfl
theorem in160 {w0 : World} {args : List AV} {H : Hp} {Q : AV → Hp → Prop} (h : W Try.prog w0 c160 (retQ [.t 2] Q) (env0 args) H) : ACalls Try.prog w0 160 args H Q :=
  ACalls.intro2 mixed Try.func160 rfl t160 r160 h

/-- math/bits.Mul -/
def c161 : CC :=
  .op (some 4) none (.q (.mov (.k (.int .u64 0))))
  (.op (some 5) none (.q (.mov (.k (.int .u64 0))))
  (.cond (.k (.bool false))
  (.op (some 11) none (.q (.mov (.t 0)))
  (.op (some 12) none (.q (.conv .u32 (.t 11)))
  (.op (some 13) none (.q (.mov (.t 1)))
  (.op (some 14) none (.q (.conv .u32 (.t 13)))
  (.op (some 15) none (.e (.call (.f 170) [.t 12, .t 14]))
  (.op (some 10) none (.q (.mov (.t 15)))
  (.op (some 16) none (.q (.ext (.t 10) 0))
  (.op (some 17) none (.q (.ext (.t 10) 1))
  (.op (some 6) none (.q (.mov (.t 16)))
  (.op (some 7) none (.q (.mov (.t 17)))
  (.op (some 18) none (.q (.mov (.t 6)))
  (.op (some 19) none (.q (.conv .u64 (.t 18)))
  (.op (some 20) none (.q (.mov (.t 7)))
  (.op (some 21) none (.q (.conv .u64 (.t 20)))
  (.op (some 4) none (.q (.mov (.t 19)))
  (.op (some 5) none (.q (.mov (.t 21)))
  (.ret)))))))))))))))))
  (.done)
  (.op (some 23) none (.q (.mov (.t 0)))
  (.op (some 24) none (.q (.mov (.t 1)))
  (.op (some 25) none (.e (.call (.f 171) [.t 23, .t 24]))
  (.op (some 22) none (.q (.mov (.t 25)))
  (.op (some 26) none (.q (.ext (.t 22) 0))
  (.op (some 27) none (.q (.ext (.t 22) 1))
  (.op (some 8) none (.q (.mov (.t 26)))
  (.op (some 9) none (.q (.mov (.t 27)))
  (.op (some 28) none (.q (.mov (.t 8)))
  (.op (some 29) none (.q (.mov (.t 9)))
  (.op (some 4) none (.q (.mov (.t 28)))
  (.op (some 5) none (.q (.mov (.t 29)))
  (.ret)))))))))))))))
def o161 : Nat → List Nat := fun _ => []
set_option maxRecDepth 100000 in
theorem t161 : (Try.f161.body.map fun c => tr Try.prog o161 Try.f161.ntmps c .done) = some c161 := by kernel_rfl
theorem r161 : trR Try.prog Try.f161.results.toList = some [.t 4, .t 5] := by kernel_rfl
theorem in161 {w0 : World} {args : List AV} {H : Hp} {Q : AV → Hp → Prop} (h : W Try.prog w0 c161 (retQ [.t 4, .t 5] Q) (env0 args) H) : ACalls Try.prog w0 161 args H Q :=
  ACalls.intro2 mixed Try.func161 rfl t161 r161 h

/-- impl.isMap$1 -/
def c162 : CC :=
  .op (some 3) none (.q (.mov (.k (.bool false))))
  (.op (some 4) none (.q (.mov (.t 0)))
  (.op (some 5) none (.q (.fld 0 (.t 1)))
  (.op (some 6) none (.q (.load none (.t 5)))
  (.op (some 7) none (.q (.len (.t 6)))
  (.op (some 8) none (.q (.bin .sub (.t 7) (.k (.int .i64 1))))
  (.op (some 9) none (.e (.call (.f 62) [.t 4, .k (.int .i64 0), .t 8]))
  (.op (some 10) none (.q (.not (.t 9)))
  (.op (some 3) none (.q (.mov (.t 10)))
  (.ret)))))))))
def o162 : Nat → List Nat := fun _ => []
set_option maxRecDepth 100000 in
theorem t162 : (Try.f162.body.map fun c => tr Try.prog o162 Try.f162.ntmps c .done) = some c162 := by kernel_rfl
theorem r162 : trR Try.prog Try.f162.results.toList = some [.t 3] := by kernel_rfl
theorem in162 {w0 : World} {args : List AV} {H : Hp} {Q : AV → Hp → Prop} (h : W Try.prog w0 c162 (retQ [.t 3] Q) (env0 args) H) : ACalls Try.prog w0 162 args H Q :=
  ACalls.intro2 mixed Try.func162 rfl t162 r162 h

/-- spec.classes -/
def c163 : CC :=
  .op (some 2) none (.l (.box 36 (.t 0)))
  (.op (some 4) none (.q (.mov (.k (.nils))))
  (.op (some 9) none (.l (.bsl 3 1 [.int .i64 0] 0 []))
  (.op (some 5) none (.q (.mov (.t 9)))
  (.op (some 6) none (.q (.mov (.k (.int .i64 0))))
  (.block 0
  (.loop
  (.op (some 10) none (.q (.mov (.t 6)))
  (.op (some 11) none (.q (.fld 0 (.t 2)))
  (.op (some 12) none (.q (.load none (.t 11)))
  (.op (some 13) none (.q (.len (.t 12)))
  (.op (some 14) none (.q (.bin .lss (.t 10) (.t 13)))
  (.cond (.t 14)
  (.done)
  (.exit 0)
  (.block 1
  (.op (some 17) none (.q (.mov (.t 6)))
  (.op (some 7) none (.q (.mov (.t 17)))
  (.op (some 18) none (.q (.mov (.t 6)))
  (.op (some 19) none (.q (.bin .sub (.t 18) (.k (.int .i64 1))))
  (.op (some 8) none (.q (.mov (.t 19)))
  (.block 2
  (.loop
  (.op (some 20) none (.q (.mov (.t 8)))
  (.op (some 21) none (.q (.bin .geq (.t 20) (.k (.int .i64 0))))
  (.cond (.t 21)
  (.done)
  (.exit 2)
  (.block 3
  (.op (some 24) none (.q (.mov (.t 1)))
  (.op (some 25) none (.q (.load (some 2) (.t 2)))
  (.op (some 26) none (.q (.mov (.t 6)))
  (.op (some 27) none (.q (.mov (.t 8)))
  (.op (some 28) none (.e (.call (.f 172) [.t 25, .t 26, .t 27]))
  (.op (some 29) none (.e (.call (.f 138) [.t 24, .t 28]))
  (.op (some 30) none (.q (.bin .eql (.t 29) (.k (.int .i64 1))))
  (.cond (.t 30)
  (.op (some 31) none (.q (.mov (.t 8)))
  (.op (some 7) none (.q (.mov (.t 31)))
  (.done)))
  (.done)
  (.done)))))))))
  (.op (some 22) none (.q (.mov (.t 8)))
  (.op (some 23) none (.q (.bin .sub (.t 22) (.k (.int .i64 1))))
  (.op (some 8) none (.q (.mov (.t 23)))
  (.done)))))))))
  (.op (some 32) none (.q (.mov (.t 5)))
  (.op (some 33) none (.q (.mov (.t 7)))
  (.op (some 34) none (.l (.bsl 3 1 [.int .i64 0] 1 [(0, .t 33)]))
  (.op (some 35) none (.e (.app 3 1 8 (.t 32) (.t 34)))
  (.op (some 5) none (.q (.mov (.t 35)))
  (.done))))))))))))
  (.op (some 15) none (.q (.mov (.t 6)))
  (.op (some 16) none (.q (.bin .add (.t 15) (.k (.int .i64 1))))
  (.op (some 6) none (.q (.mov (.t 16)))
  (.done))))))))))))
  (.op (some 36) none (.q (.mov (.t 5)))
  (.op (some 4) none (.q (.mov (.t 36)))
  (.ret))))))))
def o163 : Nat → List Nat := fun _ => []
set_option maxRecDepth 100000 in
theorem t163 : (Try.f163.body.map fun c => tr Try.prog o163 Try.f163.ntmps c .done) = some c163 := by kernel_rfl
theorem r163 : trR Try.prog Try.f163.results.toList = some [.t 4] := by kernel_rfl
theorem in163 {w0 : World} {args : List AV} {H : Hp} {Q : AV → Hp → Prop} (h : W Try.prog w0 c163 (retQ [.t 4] Q) (env0 args) H) : ACalls Try.prog w0 163 args H Q :=
  ACalls.intro2 mixed Try.func163 rfl t163 r163 h

/-- spec.algebraOf -/
def c164 : CC :=
  .op (some 4) none (.l (.alloc 36 [.nils, .nils]))
  (.op (some 8) none (.q (.mov (.t 0)))
  (.op (some 9) none (.q (.mov (.t 1)))
  (.op (some 10) none (.e (.call (.f 117) [.t 8, .t 9]))
  (.op (some 11) none (.q (.bin .add (.k (.int .i64 1)) (.t 10)))
  (.op (some 5) none (.q (.mov (.t 11)))
  (.op (some 12) none (.q (.mov (.t 0)))
  (.op (some 13) none (.e (.call (.f 117) [.t 12, .k (.int .i64 6)]))
  (.block 0
  (.op (some 15) none (.q (.bin .eql (.t 13) (.k (.int .i64 0))))
  (.op (some 14) none (.q (.mov (.t 15)))
  (.cond (.t 14)
  (.op (some 16) none (.q (.mov (.t 5)))
  (.op (some 17) none (.e (.call (.f 148) [.t 16]))
  (.op none none (.e (.store 2 (.t 4) (.t 17)))
  (.ret))))
  (.op (some 19) none (.q (.bin .eql (.t 13) (.k (.int .i64 1))))
  (.op (some 18) none (.q (.mov (.t 19)))
  (.cond (.t 18)
  (.op (some 20) none (.q (.mov (.t 5)))
  (.op (some 21) none (.e (.call (.f 127) [.t 20]))
  (.op (some 22) none (.e (.call (.f 167) [.t 21]))
  (.op none none (.e (.store 2 (.t 4) (.t 22)))
  (.ret)))))
  (.op (some 24) none (.q (.bin .eql (.t 13) (.k (.int .i64 2))))
  (.op (some 23) none (.q (.mov (.t 24)))
  (.cond (.t 23)
  (.op (some 25) none (.q (.mov (.t 5)))
  (.op (some 26) none (.q (.bin .gtr (.t 25) (.k (.int .i64 2))))
  (.cond (.t 26)
  (.op (some 27) none (.q (.mov (.t 0)))
  (.op (some 28) none (.q (.mov (.t 5)))
  (.op (some 29) none (.q (.bin .sub (.t 28) (.k (.int .i64 2))))
  (.op (some 30) none (.e (.call (.f 117) [.t 27, .t 29]))
  (.op (some 31) none (.q (.bin .add (.k (.int .i64 2)) (.t 30)))
  (.op (some 6) none (.q (.mov (.t 31)))
  (.op (some 32) none (.q (.mov (.t 6)))
  (.op (some 33) none (.e (.call (.f 148) [.t 32]))
  (.op (some 34) none (.q (.mov (.t 5)))
  (.op (some 35) none (.q (.mov (.t 6)))
  (.op (some 36) none (.q (.bin .sub (.t 34) (.t 35)))
  (.op (some 37) none (.q (.bin .add (.t 36) (.k (.int .i64 1))))
  (.op (some 38) none (.e (.call (.f 148) [.t 37]))
  (.op (some 39) none (.e (.call (.f 149) [.t 33, .t 38]))
  (.op none none (.e (.store 2 (.t 4) (.t 39)))
  (.ret))))))))))))))))
  (.done)
  (.done))))
  (.op (some 41) none (.q (.bin .eql (.t 13) (.k (.int .i64 3))))
  (.op (some 40) none (.q (.mov (.t 41)))
  (.cond (.t 40)
  (.op (some 42) none (.q (.mov (.t 1)))
  (.op (some 43) none (.q (.bin .geq (.t 42) (.k (.int .i64 4))))
  (.cond (.t 43)
  (.op (some 44) none (.e (.call (.f 127) [.k (.int .i64 2)]))
  (.op (some 45) none (.q (.mov (.t 0)))
  (.op (some 46) none (.q (.mov (.t 1)))
  (.op (some 47) none (.q (.bin .quo (.t 46) (.k (.int .i64 2))))
  (.op (some 48) none (.q (.bin .sub (.t 47) (.k (.int .i64 1))))
  (.op (some 49) none (.q (.mm false [.t 48, .k (.int .i64 2)]))
  (.op (some 50) none (.e (.call (.f 117) [.t 45, .t 49]))
  (.op (some 51) none (.q (.bin .add (.k (.int .i64 2)) (.t 50)))
  (.op (some 52) none (.e (.call (.f 127) [.t 51]))
  (.op (some 53) none (.e (.call (.f 168) [.t 44, .t 52]))
  (.op (some 54) none (.e (.call (.f 167) [.t 53]))
  (.op none none (.e (.store 2 (.t 4) (.t 54)))
  (.ret)))))))))))))
  (.done)
  (.done))))
  (.done)
  (.done))))
  (.done))))
  (.done))))
  (.done))))
  (.op (some 55) none (.q (.mov (.t 5)))
  (.op (some 56) none (.q (.mm false [.t 55, .k (.int .i64 5)]))
  (.op (some 57) none (.e (.call (.f 67) [.t 56]))
  (.op (some 7) none (.q (.mov (.t 57)))
  (.op (some 58) none (.q (.mov (.t 7)))
  (.op (some 59) none (.q (.mov (.t 0)))
  (.op (some 60) none (.q (.mov (.t 7)))
  (.op (some 61) none (.q (.len (.t 60)))
  (.op (some 62) none (.e (.call (.f 117) [.t 59, .t 61]))
  (.op (some 63) none (.q (.idx 2 (.t 58) (.t 62)))
  (.op (some 64) none (.q (.load (some 2) (.t 63)))
  (.op none none (.e (.store 2 (.t 4) (.t 64)))
  (.ret)))))))))))))))))))))
def o164 : Nat → List Nat := fun _ => []
set_option maxRecDepth 100000 in
theorem t164 : (Try.f164.body.map fun c => tr Try.prog o164 Try.f164.ntmps c .done) = some c164 := by kernel_rfl
theorem r164 : trR Try.prog Try.f164.results.toList = some [.c (some 2) 4] := by kernel_rfl
theorem in164 {w0 : World} {args : List AV} {H : Hp} {Q : AV → Hp → Prop} (h : W Try.prog w0 c164 (retQ [.c (some 2) 4] Q) (env0 args) H) : ACalls Try.prog w0 164 args H Q :=
  ACalls.intro2 mixed Try.func164 rfl t164 r164 h

/-- spec.CrossAlgebras -/
def c165 : CC :=
  .op (some 2) none (.l (.box 36 (.t 0)))
  (.op (some 3) none (.l (.box 36 (.t 1)))
  (.op (some 4) none (.l (.alloc 36 [.nils, .nils]))
  (.op (some 5) none (.q (.mov (.k (.bool false))))
  (.op (some 11) none (.q (.load (some 2) (.t 2)))
  (.op (some 12) none (.e (.call (.f 70) [.t 11]))
  (.op (some 13) none (.q (.not (.t 12)))
  (.op (some 14) none (.q (.mov (.t 13)))
  (.op (some 15) (some (14, false)) (.q (.load (some 2) (.t 3)))
  (.op (some 16) (some (14, false)) (.e (.call (.f 70) [.t 15]))
  (.op (some 17) (some (14, false)) (.q (.not (.t 16)))
  (.op (some 18) none (.q (.pick (.t 14) (.k (.bool true)) (.t 17)))
  (.op (some 19) none (.q (.mov (.t 18)))
  (.op (some 20) (some (19, false)) (.q (.fld 0 (.t 2)))
  (.op (some 21) (some (19, false)) (.q (.load none (.t 20)))
  (.op (some 22) (some (19, false)) (.q (.len (.t 21)))
  (.op (some 23) (some (19, false)) (.q (.fld 0 (.t 3)))
  (.op (some 24) (some (19, false)) (.q (.load none (.t 23)))
  (.op (some 25) (some (19, false)) (.q (.len (.t 24)))
  (.op (some 26) (some (19, false)) (.q (.bin .mul (.t 22) (.t 25)))
  (.op (some 27) (some (19, false)) (.q (.bin .gtr (.t 26) (.k (.int .i64 6))))
  (.op (some 28) none (.q (.pick (.t 19) (.k (.bool true)) (.t 27)))
  (.cond (.t 28)
  (.op (some 29) none (.q (.build [.nils, .nils] []))
  (.op none none (.e (.store 2 (.t 4) (.t 29)))
  (.op (some 5) none (.q (.mov (.k (.bool false))))
  (.ret))))
  (.done)
  (.op (some 30) none (.q (.fld 0 (.t 2)))
  (.op (some 31) none (.q (.load none (.t 30)))
  (.op (some 32) none (.q (.fld 0 (.t 3)))
  (.op (some 33) none (.q (.load none (.t 32)))
  (.op (some 34) none (.e (.call (.f 168) [.t 31, .t 33]))
  (.op (some 35) none (.q (.build [.nils, .nils] [(0, .t 34)]))
  (.op (some 6) none (.l (.alloc 36 [.nils, .nils]))
  (.op none none (.e (.store 2 (.t 6) (.t 35)))
  (.op (some 36) none (.q (.fld 0 (.t 3)))
  (.op (some 37) none (.q (.load none (.t 36)))
  (.op (some 38) none (.q (.len (.t 37)))
  (.op (some 7) none (.q (.mov (.t 38)))
  (.op (some 8) none (.q (.mov (.k (.int .i64 0))))
  (.block 0
  (.loop
  (.op (some 39) none (.q (.mov (.t 8)))
  (.op (some 40) none (.q (.fld 0 (.t 6)))
  (.op (some 41) none (.q (.load none (.t 40)))
  (.op (some 42) none (.q (.len (.t 41)))
  (.op (some 43) none (.q (.bin .lss (.t 39) (.t 42)))
  (.cond (.t 43)
  (.done)
  (.exit 0)
  (.block 1
  (.op (some 46) none (.l (.bsl 3 1 [.int .i64 0] 0 []))
  (.op (some 9) none (.q (.mov (.t 46)))
  (.op (some 10) none (.q (.mov (.k (.int .i64 0))))
  (.block 2
  (.loop
  (.op (some 47) none (.q (.mov (.t 10)))
  (.op (some 48) none (.q (.fld 0 (.t 6)))
  (.op (some 49) none (.q (.load none (.t 48)))
  (.op (some 50) none (.q (.len (.t 49)))
  (.op (some 51) none (.q (.bin .lss (.t 47) (.t 50)))
  (.cond (.t 51)
  (.done)
  (.exit 2)
  (.block 3
  (.draws [⟨0, false, [], (some 54), none, .q (.mov (.t 9))⟩,
    ⟨1, false, [], (some 55), none, .q (.fld 1 (.t 2))⟩,
    ⟨2, false, [], (some 56), none, .q (.load none (.t 55))⟩,
    ⟨3, false, [], (some 57), none, .q (.mov (.t 8))⟩,
    ⟨4, false, [], (some 58), none, .q (.mov (.t 7))⟩,
    ⟨5, false, [], (some 59), none, .q (.bin .quo (.t 57) (.t 58))⟩,
    ⟨6, false, [], (some 60), none, .q (.idx 1 (.t 56) (.t 59))⟩,
    ⟨7, false, [], (some 61), none, .q (.load none (.t 60))⟩,
    ⟨8, false, [], (some 62), none, .q (.mov (.t 10))⟩,
    ⟨9, false, [], (some 63), none, .q (.mov (.t 7))⟩,
    ⟨10, false, [], (some 64), none, .q (.bin .quo (.t 62) (.t 63))⟩,
    ⟨11, false, [], (some 65), none, .q (.idx 1 (.t 61) (.t 64))⟩,
    ⟨12, false, [], (some 66), none, .q (.load none (.t 65))⟩,
    ⟨13, false, [], (some 67), none, .q (.mov (.t 7))⟩,
    ⟨14, false, [], (some 68), none, .q (.bin .mul (.t 66) (.t 67))⟩,
    ⟨15, false, [], (some 69), none, .q (.fld 1 (.t 3))⟩,
    ⟨16, false, [], (some 70), none, .q (.load none (.t 69))⟩,
    ⟨17, false, [], (some 71), none, .q (.mov (.t 8))⟩,
    ⟨18, false, [], (some 72), none, .q (.mov (.t 7))⟩,
    ⟨19, false, [], (some 73), none, .q (.bin .rem (.t 71) (.t 72))⟩,
    ⟨20, false, [], (some 74), none, .q (.idx 1 (.t 70) (.t 73))⟩,
    ⟨21, false, [], (some 75), none, .q (.load none (.t 74))⟩,
    ⟨22, false, [], (some 76), none, .q (.mov (.t 10))⟩,
    ⟨23, false, [], (some 77), none, .q (.mov (.t 7))⟩,
    ⟨24, false, [], (some 78), none, .q (.bin .rem (.t 76) (.t 77))⟩,
    ⟨25, false, [], (some 79), none, .q (.idx 1 (.t 75) (.t 78))⟩,
    ⟨26, false, [], (some 80), none, .q (.load none (.t 79))⟩,
    ⟨27, false, [], (some 81), none, .q (.bin .add (.t 68) (.t 80))⟩,
    ⟨28, false, [], (some 82), none, .l (.bsl 3 1 [.int .i64 0] 1 [(0, .t 81)])⟩,
    ⟨29, false, [], (some 83), none, .e (.app 3 1 8 (.t 54) (.t 82))⟩,
    ⟨30, false, [], (some 9), none, .q (.mov (.t 83))⟩] (.done))
  (.op (some 52) none (.q (.mov (.t 10)))
  (.op (some 53) none (.q (.bin .add (.t 52) (.k (.int .i64 1))))
  (.op (some 10) none (.q (.mov (.t 53)))
  (.done))))))))))))
  (.op (some 84) none (.q (.fld 1 (.t 6)))
  (.op (some 85) none (.q (.load none (.t 84)))
  (.op (some 86) none (.q (.mov (.t 9)))
  (.op (some 87) none (.l (.bsl 30 1 [.nils] 1 [(0, .t 86)]))
  (.op (some 88) none (.e (.app 30 1 24 (.t 85) (.t 87)))
  (.op (some 89) none (.q (.fld 1 (.t 6)))
  (.op none none (.e (.store 1 (.t 89) (.t 88)))
  (.done))))))))))))
  (.op (some 44) none (.q (.mov (.t 8)))
  (.op (some 45) none (.q (.bin .add (.t 44) (.k (.int .i64 1))))
  (.op (some 8) none (.q (.mov (.t 45)))
  (.done))))))))))))
  (.op (some 90) none (.q (.load (some 2) (.t 6)))
  (.op none none (.e (.store 2 (.t 4) (.t 90)))
  (.op (some 5) none (.q (.mov (.k (.bool true))))
  (.ret))))))))))))))))))))))))))))))))))))))))
def o165 : Nat → List Nat := fun i => if i = 12 then [0, 1, 2, 3, 4, 5, 6, 7, 8, 9, 10, 11, 12, 13, 14, 15, 16, 17, 18, 19, 20, 21, 22, 23, 24, 25, 26, 27, 28, 29, 30] else []
set_option maxRecDepth 100000 in
theorem t165 : (Try.f165.body.map fun c => tr Try.prog o165 Try.f165.ntmps c .done) = some c165 := by kernel_rfl
theorem r165 : trR Try.prog Try.f165.results.toList = some [.c (some 2) 4, .t 5] := by kernel_rfl
theorem in165 {w0 : World} {args : List AV} {H : Hp} {Q : AV → Hp → Prop} (h : W Try.prog w0 c165 (retQ [.c (some 2) 4, .t 5] Q) (env0 args) H) : ACalls Try.prog w0 165 args H Q :=
  ACalls.intro2 mixed Try.func165 rfl t165 r165 h

/-- spec.StackAlgebras -/
def c166 : CC :=
  .op (some 2) none (.l (.box 36 (.t 0)))
  (.op (some 3) none (.l (.box 36 (.t 1)))
  (.op (some 4) none (.l (.alloc 36 [.nils, .nils]))
  (.op (some 5) none (.q (.mov (.k (.bool false))))
  (.op (some 6) none (.q (.load (some 2) (.t 2)))
  (.op (some 7) none (.e (.call (.f 70) [.t 6]))
  (.op (some 8) none (.q (.not (.t 7)))
  (.op (some 9) none (.q (.mov (.t 8)))
  (.op (some 10) (some (9, false)) (.q (.load (some 2) (.t 3)))
  (.op (some 11) (some (9, false)) (.e (.call (.f 70) [.t 10]))
  (.op (some 12) (some (9, false)) (.q (.not (.t 11)))
  (.op (some 13) none (.q (.pick (.t 9) (.k (.bool true)) (.t 12)))
  (.op (some 14) none (.q (.mov (.t 13)))
  (.op (some 15) (some (14, false)) (.q (.fld 0 (.t 2)))
  (.op (some 16) (some (14, false)) (.q (.load none (.t 15)))
  (.op (some 17) (some (14, false)) (.q (.len (.t 16)))
  (.op (some 18) (some (14, false)) (.q (.fld 0 (.t 3)))
  (.op (some 19) (some (14, false)) (.q (.load none (.t 18)))
  (.op (some 20) (some (14, false)) (.q (.len (.t 19)))
  (.op (some 21) (some (14, false)) (.q (.bin .add (.t 17) (.t 20)))
  (.op (some 22) (some (14, false)) (.q (.bin .sub (.t 21) (.k (.int .i64 1))))
  (.op (some 23) (some (14, false)) (.q (.bin .gtr (.t 22) (.k (.int .i64 6))))
  (.op (some 24) none (.q (.pick (.t 14) (.k (.bool true)) (.t 23)))
  (.cond (.t 24)
  (.op (some 25) none (.q (.build [.nils, .nils] []))
  (.op none none (.e (.store 2 (.t 4) (.t 25)))
  (.op (some 5) none (.q (.mov (.k (.bool false))))
  (.ret))))
  (.done)
  (.op (some 26) none (.q (.load (some 2) (.t 2)))
  (.op (some 27) none (.q (.load (some 2) (.t 3)))
  (.op (some 28) none (.e (.call (.f 149) [.t 26, .t 27]))
  (.op none none (.e (.store 2 (.t 4) (.t 28)))
  (.op (some 5) none (.q (.mov (.k (.bool true))))
  (.ret)))))))))))))))))))))))))))))
def o166 : Nat → List Nat := fun _ => []
set_option maxRecDepth 100000 in
theorem t166 : (Try.f166.body.map fun c => tr Try.prog o166 Try.f166.ntmps c .done) = some c166 := by kernel_rfl
theorem r166 : trR Try.prog Try.f166.results.toList = some [.c (some 2) 4, .t 5] := by kernel_rfl
theorem in166 {w0 : World} {args : List AV} {H : Hp} {Q : AV → Hp → Prop} (h : W Try.prog w0 c166 (retQ [.c (some 2) 4, .t 5] Q) (env0 args) H) : ACalls Try.prog w0 166 args H Q :=
  ACalls.intro2 mixed Try.func166 rfl t166 r166 h

/-- spec.meetAlgebra -/
def c167 : CC :=
  .op (some 2) none (.l (.alloc 36 [.nils, .nils]))
  (.op (some 7) none (.l (.bsl 3 1 [.int .i64 0] 0 []))
  (.op (some 8) none (.q (.mov (.t 0)))
  (.op (some 9) none (.e (.app 3 1 8 (.t 7) (.t 8)))
  (.op (some 10) none (.q (.build [.nils, .nils] [(0, .t 9)]))
  (.op (some 3) none (.l (.alloc 36 [.nils, .nils]))
  (.op none none (.e (.store 2 (.t 3) (.t 10)))
  (.op (some 4) none (.q (.mov (.k (.int .i64 0))))
  (.block 0
  (.loop
  (.op (some 11) none (.q (.mov (.t 4)))
  (.op (some 12) none (.q (.mov (.t 0)))
  (.op (some 13) none (.q (.len (.t 12)))
  (.op (some 14) none (.q (.bin .lss (.t 11) (.t 13)))
  (.cond (.t 14)
  (.done)
  (.exit 0)
  (.block 1
  (.op (some 17) none (.l (.bsl 3 1 [.int .i64 0] 0 []))
  (.op (some 5) none (.q (.mov (.t 17)))
  (.op (some 6) none (.q (.mov (.k (.int .i64 0))))
  (.block 2
  (.loop
  (.op (some 18) none (.q (.mov (.t 6)))
  (.op (some 19) none (.q (.mov (.t 0)))
  (.op (some 20) none (.q (.len (.t 19)))
  (.op (some 21) none (.q (.bin .lss (.t 18) (.t 20)))
  (.cond (.t 21)
  (.done)
  (.exit 2)
  (.block 3
  (.op (some 24) none (.q (.mov (.t 5)))
  (.op (some 25) none (.q (.mov (.t 0)))
  (.op (some 26) none (.q (.mov (.t 4)))
  (.op (some 27) none (.q (.mov (.t 6)))
  (.op (some 28) none (.e (.call (.f 125) [.t 25, .t 26, .t 27]))
  (.op (some 29) none (.l (.bsl 3 1 [.int .i64 0] 1 [(0, .t 28)]))
  (.op (some 30) none (.e (.app 3 1 8 (.t 24) (.t 29)))
  (.op (some 5) none (.q (.mov (.t 30)))
  (.done)))))))))
  (.op (some 22) none (.q (.mov (.t 6)))
  (.op (some 23) none (.q (.bin .add (.t 22) (.k (.int .i64 1))))
  (.op (some 6) none (.q (.mov (.t 23)))
  (.done)))))))))))
  (.op (some 31) none (.q (.fld 1 (.t 3)))
  (.op (some 32) none (.q (.load none (.t 31)))
  (.op (some 33) none (.q (.mov (.t 5)))
  (.op (some 34) none (.l (.bsl 30 1 [.nils] 1 [(0, .t 33)]))
  (.op (some 35) none (.e (.app 30 1 24 (.t 32) (.t 34)))
  (.op (some 36) none (.q (.fld 1 (.t 3)))
  (.op none none (.e (.store 1 (.t 36) (.t 35)))
  (.done))))))))))))
  (.op (some 15) none (.q (.mov (.t 4)))
  (.op (some 16) none (.q (.bin .add (.t 15) (.k (.int .i64 1))))
  (.op (some 4) none (.q (.mov (.t 16)))
  (.done)))))))))))
  (.op (some 37) none (.q (.load (some 2) (.t 3)))
  (.op none none (.e (.store 2 (.t 2) (.t 37)))
  (.ret)))))))))))
def o167 : Nat → List Nat := fun _ => []
set_option maxRecDepth 100000 in
theorem t167 : (Try.f167.body.map fun c => tr Try.prog o167 Try.f167.ntmps c .done) = some c167 := by kernel_rfl
theorem r167 : trR Try.prog Try.f167.results.toList = some [.c (some 2) 2] := by kernel_rfl
theorem in167 {w0 : World} {args : List AV} {H : Hp} {Q : AV → Hp → Prop} (h : W Try.prog w0 c167 (retQ [.c (some 2) 2] Q) (env0 args) H) : ACalls Try.prog w0 167 args H Q :=
  ACalls.intro2 mixed Try.func167 rfl t167 r167 h

/-- spec.cross -/
def c168 : CC :=
  .op (some 4) none (.q (.mov (.k (.nils))))
  (.op (some 10) none (.l (.bsl 3 1 [.int .i64 0] 0 []))
  (.op (some 5) none (.q (.mov (.t 10)))
  (.op (some 11) none (.q (.mov (.t 1)))
  (.op (some 12) none (.q (.len (.t 11)))
  (.op (some 6) none (.q (.mov (.t 12)))
  (.op (some 7) none (.q (.mov (.k (.int .i64 0))))
  (.block 0
  (.loop
  (.op (some 13) none (.q (.mov (.t 7)))
  (.op (some 14) none (.q (.mov (.t 0)))
  (.op (some 15) none (.q (.len (.t 14)))
  (.op (some 16) none (.q (.mov (.t 6)))
  (.op (some 17) none (.q (.bin .mul (.t 15) (.t 16)))
  (.op (some 18) none (.q (.bin .lss (.t 13) (.t 17)))
  (.cond (.t 18)
  (.done)
  (.exit 0)
  (.block 1
  (.op (some 8) none (.q (.mov (.k (.int .i64 0))))
  (.op (some 9) none (.q (.mov (.k (.int .i64 0))))
  (.block 2
  (.loop
  (.op (some 21) none (.q (.mov (.t 9)))
  (.op (some 22) none (.q (.mov (.t 0)))
  (.op (some 23) none (.q (.len (.t 22)))
  (.op (some 24) none (.q (.mov (.t 6)))
  (.op (some 25) none (.q (.bin .mul (.t 23) (.t 24)))
  (.op (some 26) none (.q (.bin .lss (.t 21) (.t 25)))
  (.cond (.t 26)
  (.done)
  (.exit 2)
  (.block 3
  (.draws [⟨0, false, [], (some 29), none, .q (.mov (.t 0))⟩,
    ⟨1, false, [], (some 30), none, .q (.mov (.t 7))⟩,
    ⟨2, false, [], (some 31), none, .q (.mov (.t 6))⟩,
    ⟨3, false, [], (some 32), none, .q (.bin .quo (.t 30) (.t 31))⟩,
    ⟨4, false, [], (some 33), none, .q (.mov (.t 9))⟩,
    ⟨5, false, [], (some 34), none, .q (.mov (.t 6))⟩,
    ⟨6, false, [], (some 35), none, .q (.bin .quo (.t 33) (.t 34))⟩,
    ⟨7, false, [], (some 36), none, .e (.call (.f 93) [.t 29, .t 32, .t 35])⟩,
    ⟨8, false, [], (some 37), none, .q (.mov (.t 36))⟩,
    ⟨9, false, [], (some 38), (some (37, true)), .q (.mov (.t 1))⟩,
    ⟨10, false, [], (some 39), (some (37, true)), .q (.mov (.t 7))⟩,
    ⟨11, false, [], (some 40), (some (37, true)), .q (.mov (.t 6))⟩,
    ⟨12, false, [], (some 41), (some (37, true)), .q (.bin .rem (.t 39) (.t 40))⟩,
    ⟨13, false, [], (some 42), (some (37, true)), .q (.mov (.t 9))⟩,
    ⟨14, false, [], (some 43), (some (37, true)), .q (.mov (.t 6))⟩,
    ⟨15, false, [], (some 44), (some (37, true)), .q (.bin .rem (.t 42) (.t 43))⟩,
    ⟨16, false, [], (some 45), (some (37, true)), .e (.call (.f 93) [.t 38, .t 41, .t 44])⟩,
    ⟨17, false, [], (some 46), none, .q (.pick (.t 37) (.t 45) (.k (.bool false)))⟩] (.cond (.t 46)
  (.op (some 47) none (.q (.mov (.t 8)))
  (.op (some 48) none (.q (.mov (.t 9)))
  (.op (some 49) none (.e (.call (.f 82) [.t 48]))
  (.op (some 50) none (.q (.bin .add (.t 47) (.t 49)))
  (.op (some 8) none (.q (.mov (.t 50)))
  (.done))))))
  (.done)
  (.done)))
  (.op (some 27) none (.q (.mov (.t 9)))
  (.op (some 28) none (.q (.bin .add (.t 27) (.k (.int .i64 1))))
  (.op (some 9) none (.q (.mov (.t 28)))
  (.done)))))))))))))
  (.op (some 51) none (.q (.mov (.t 5)))
  (.op (some 52) none (.q (.mov (.t 8)))
  (.op (some 53) none (.l (.bsl 3 1 [.int .i64 0] 1 [(0, .t 52)]))
  (.op (some 54) none (.e (.app 3 1 8 (.t 51) (.t 53)))
  (.op (some 5) none (.q (.mov (.t 54)))
  (.done)))))))))
  (.op (some 19) none (.q (.mov (.t 7)))
  (.op (some 20) none (.q (.bin .add (.t 19) (.k (.int .i64 1))))
  (.op (some 7) none (.q (.mov (.t 20)))
  (.done)))))))))))))
  (.op (some 55) none (.q (.mov (.t 5)))
  (.op (some 4) none (.q (.mov (.t 55)))
  (.ret))))))))))
def o168 : Nat → List Nat := fun i => if i = 10 then [0, 1, 2, 3, 4, 5, 6, 7, 8, 9, 10, 11, 12, 13, 14, 15, 16, 17] else []
set_option maxRecDepth 100000 in
theorem t168 : (Try.f168.body.map fun c => tr Try.prog o168 Try.f168.ntmps c .done) = some c168 := by kernel_rfl
theorem r168 : trR Try.prog Try.f168.results.toList = some [.t 4] := by kernel_rfl
theorem in168 {w0 : World} {args : List AV} {H : Hp} {Q : AV → Hp → Prop} (h : W Try.prog w0 c168 (retQ [.t 4] Q) (env0 args) H) : ACalls Try.prog w0 168 args H Q :=
  ACalls.intro2 mixed Try.func168 rfl t168 r168 h

/-- impl.stack$1 -/
def c169 : CC :=
  .op (some 7) none (.q (.mov (.k (.int .i64 0))))
  (.block 0
  (.op (some 9) none (.q (.mov (.t 0)))
  (.op (some 10) none (.q (.load none (.t 2)))
  (.op (some 11) none (.q (.bin .geq (.t 9) (.t 10)))
  (.op (some 12) none (.q (.mov (.t 11)))
  (.op (some 13) (some (12, true)) (.q (.mov (.t 1)))
  (.op (some 14) (some (12, true)) (.q (.load none (.t 2)))
  (.op (some 15) (some (12, true)) (.q (.bin .geq (.t 13) (.t 14)))
  (.op (some 16) none (.q (.pick (.t 12) (.t 15) (.k (.bool false))))
  (.op (some 8) none (.q (.mov (.t 16)))
  (.cond (.t 8)
  (.draws [⟨0, false, [], (some 17), none, .q (.fld 1 (.t 3))⟩,
    ⟨1, false, [], (some 18), none, .q (.load none (.t 17))⟩,
    ⟨2, false, [], (some 19), none, .q (.mov (.t 0))⟩,
    ⟨3, false, [], (some 20), none, .q (.load none (.t 2))⟩,
    ⟨4, false, [], (some 21), none, .q (.bin .sub (.t 19) (.t 20))⟩,
    ⟨5, false, [], (some 22), none, .q (.idx 1 (.t 18) (.t 21))⟩,
    ⟨6, false, [], (some 23), none, .q (.load none (.t 22))⟩,
    ⟨7, false, [], (some 24), none, .q (.mov (.t 1))⟩,
    ⟨8, false, [], (some 25), none, .q (.load none (.t 2))⟩,
    ⟨9, false, [], (some 26), none, .q (.bin .sub (.t 24) (.t 25))⟩,
    ⟨10, false, [], (some 27), none, .q (.idx 1 (.t 23) (.t 26))⟩,
    ⟨11, false, [], (some 28), none, .q (.load none (.t 27))⟩,
    ⟨12, false, [], (some 29), none, .q (.load none (.t 2))⟩,
    ⟨13, false, [], (some 30), none, .q (.bin .add (.t 28) (.t 29))⟩,
    ⟨14, false, [], (some 7), none, .q (.mov (.t 30))⟩] (.ret))
  (.op (some 32) none (.q (.mov (.t 0)))
  (.op (some 33) none (.q (.load none (.t 2)))
  (.op (some 34) none (.q (.bin .lss (.t 32) (.t 33)))
  (.op (some 35) none (.q (.mov (.t 34)))
  (.op (some 36) (some (35, true)) (.q (.mov (.t 1)))
  (.op (some 37) (some (35, true)) (.q (.load none (.t 2)))
  (.op (some 38) (some (35, true)) (.q (.bin .lss (.t 36) (.t 37)))
  (.op (some 39) none (.q (.pick (.t 35) (.t 38) (.k (.bool false))))
  (.op (some 31) none (.q (.mov (.t 39)))
  (.cond (.t 31)
  (.op (some 40) none (.q (.fld 1 (.t 4)))
  (.op (some 41) none (.q (.load none (.t 40)))
  (.op (some 42) none (.q (.mov (.t 0)))
  (.op (some 43) none (.q (.idx 1 (.t 41) (.t 42)))
  (.op (some 44) none (.q (.load none (.t 43)))
  (.op (some 45) none (.q (.mov (.t 1)))
  (.op (some 46) none (.q (.idx 1 (.t 44) (.t 45)))
  (.op (some 47) none (.q (.load none (.t 46)))
  (.op (some 7) none (.q (.mov (.t 47)))
  (.ret))))))))))
  (.done)
  (.done)))))))))))
  (.done)))))))))))
  (.op (some 48) none (.q (.mov (.t 0)))
  (.op (some 49) none (.q (.mov (.t 1)))
  (.op (some 50) none (.q (.mm false [.t 48, .t 49]))
  (.op (some 7) none (.q (.mov (.t 50)))
  (.ret))))))
def o169 : Nat → List Nat := fun i => if i = 2 then [0, 1, 2, 3, 4, 5, 6, 7, 8, 9, 10, 11, 12, 13, 14] else []
set_option maxRecDepth 100000 in
theorem t169 : (Try.f169.body.map fun c => tr Try.prog o169 Try.f169.ntmps c .done) = some c169 := by kernel_rfl
theorem r169 : trR Try.prog Try.f169.results.toList = some [.t 7] := by kernel_rfl
theorem in169 {w0 : World} {args : List AV} {H : Hp} {Q : AV → Hp → Prop} (h : W Try.prog w0 c169 (retQ [.t 7] Q) (env0 args) H) : ACalls Try.prog w0 169 args H Q :=
  ACalls.intro2 mixed Try.func169 rfl t169 r169 h

/-- math/bits.Mul32 -/
def c170 : CC :=
  .op (some 4) none (.q (.mov (.k (.int .u32 0))))
  (.op (some 5) none (.q (.mov (.k (.int .u32 0))))
  (.op (some 7) none (.q (.mov (.t 0)))
  (.op (some 8) none (.q (.conv .u64 (.t 7)))
  (.op (some 9) none (.q (.mov (.t 1)))
  (.op (some 10) none (.q (.conv .u64 (.t 9)))
  (.op (some 11) none (.q (.bin .mul (.t 8) (.t 10)))
  (.op (some 6) none (.q (.mov (.t 11)))
  (.op (some 12) none (.q (.mov (.t 6)))
  (.op (some 13) none (.q (.bin .shr (.t 12) (.k (.int .u64 32))))
  (.op (some 14) none (.q (.conv .u32 (.t 13)))
  (.op (some 15) none (.q (.mov (.t 6)))
  (.op (some 16) none (.q (.conv .u32 (.t 15)))
  (.op (some 4) none (.q (.mov (.t 14)))
  (.op (some 5) none (.q (.mov (.t 16)))
  (.ret)))))))))))))))
def o170 : Nat → List Nat := fun _ => []
set_option maxRecDepth 100000 in
theorem t170 : (Try.f170.body.map fun c => tr Try.prog o170 Try.f170.ntmps c .done) = some c170 := by kernel_rfl
theorem r170 : trR Try.prog Try.f170.results.toList = some [.t 4, .t 5] := by kernel_rfl
theorem in170 {w0 : World} {args : List AV} {H : Hp} {Q : AV → Hp → Prop} (h : W Try.prog w0 c170 (retQ [.t 4, .t 5] Q) (env0 args) H) : ACalls Try.prog w0 170 args H Q :=
  ACalls.intro2 mixed Try.func170 rfl t170 r170 h

/-- math/bits.Mul64 -/
def c171 : CC :=
  .op (some 4) none (.q (.mov (.k (.int .u64 0))))
  (.op (some 5) none (.q (.mov (.k (.int .u64 0))))
  (.op (some 14) none (.q (.mov (.t 0)))
  (.op (some 15) none (.q (.bin .and (.t 14) (.k (.int .u64 4294967295))))
  (.op (some 6) none (.q (.mov (.t 15)))
  (.op (some 16) none (.q (.mov (.t 0)))
  (.op (some 17) none (.q (.bin .shr (.t 16) (.k (.int .u64 32))))
  (.op (some 7) none (.q (.mov (.t 17)))
  (.op (some 18) none (.q (.mov (.t 1)))
  (.op (some 19) none (.q (.bin .and (.t 18) (.k (.int .u64 4294967295))))
  (.op (some 8) none (.q (.mov (.t 19)))
  (.op (some 20) none (.q (.mov (.t 1)))
  (.op (some 21) none (.q (.bin .shr (.t 20) (.k (.int .u64 32))))
  (.op (some 9) none (.q (.mov (.t 21)))
  (.op (some 22) none (.q (.mov (.t 6)))
  (.op (some 23) none (.q (.mov (.t 8)))
  (.op (some 24) none (.q (.bin .mul (.t 22) (.t 23)))
  (.op (some 10) none (.q (.mov (.t 24)))
  (.op (some 25) none (.q (.mov (.t 7)))
  (.op (some 26) none (.q (.mov (.t 8)))
  (.op (some 27) none (.q (.bin .mul (.t 25) (.t 26)))
  (.op (some 28) none (.q (.mov (.t 10)))
  (.op (some 29) none (.q (.bin .shr (.t 28) (.k (.int .u64 32))))
  (.op (some 30) none (.q (.bin .add (.t 27) (.t 29)))
  (.op (some 11) none (.q (.mov (.t 30)))
  (.op (some 31) none (.q (.mov (.t 11)))
  (.op (some 32) none (.q (.bin .and (.t 31) (.k (.int .u64 4294967295))))
  (.op (some 12) none (.q (.mov (.t 32)))
  (.op (some 33) none (.q (.mov (.t 11)))
  (.op (some 34) none (.q (.bin .shr (.t 33) (.k (.int .u64 32))))
  (.op (some 13) none (.q (.mov (.t 34)))
  (.op (some 35) none (.q (.mov (.t 12)))
  (.op (some 36) none (.q (.mov (.t 6)))
  (.op (some 37) none (.q (.mov (.t 9)))
  (.op (some 38) none (.q (.bin .mul (.t 36) (.t 37)))
  (.op (some 39) none (.q (.bin .add (.t 35) (.t 38)))
  (.op (some 12) none (.q (.mov (.t 39)))
  (.op (some 40) none (.q (.mov (.t 7)))
  (.op (some 41) none (.q (.mov (.t 9)))
  (.op (some 42) none (.q (.bin .mul (.t 40) (.t 41)))
  (.op (some 43) none (.q (.mov (.t 13)))
  (.op (some 44) none (.q (.bin .add (.t 42) (.t 43)))
  (.op (some 45) none (.q (.mov (.t 12)))
  (.op (some 46) none (.q (.bin .shr (.t 45) (.k (.int .u64 32))))
  (.op (some 47) none (.q (.bin .add (.t 44) (.t 46)))
  (.op (some 4) none (.q (.mov (.t 47)))
  (.op (some 48) none (.q (.mov (.t 0)))
  (.op (some 49) none (.q (.mov (.t 1)))
  (.op (some 50) none (.q (.bin .mul (.t 48) (.t 49)))
  (.op (some 5) none (.q (.mov (.t 50)))
  (.ret))))))))))))))))))))))))))))))))))))))))))))))))))
def o171 : Nat → List Nat := fun _ => []
set_option maxRecDepth 100000 in
theorem t171 : (Try.f171.body.map fun c => tr Try.prog o171 Try.f171.ntmps c .done) = some c171 := by kernel_rfl
theorem r171 : trR Try.prog Try.f171.results.toList = some [.t 4, .t 5] := by kernel_rfl
theorem in171 {w0 : World} {args : List AV} {H : Hp} {Q : AV → Hp → Prop} (h : W Try.prog w0 c171 (retQ [.t 4, .t 5] Q) (env0 args) H) : ACalls Try.prog w0 171 args H Q :=
  ACalls.intro2 mixed Try.func171 rfl t171 r171 h

/-- spec.near -/
def c172 : CC :=
  .op (some 3) none (.l (.box 36 (.t 0)))
  (.op (some 6) none (.q (.mov (.k (.int .i64 0))))
  (.draws [⟨0, false, [], (some 7), none, .q (.fld 1 (.t 3))⟩,
    ⟨1, true, [], (some 8), none, .q (.load none (.t 7))⟩,
    ⟨2, false, [], (some 9), none, .q (.load (some 2) (.t 3))⟩,
    ⟨3, false, [], (some 10), none, .q (.mov (.t 1))⟩,
    ⟨4, false, [], (some 11), none, .q (.mov (.t 2))⟩,
    ⟨8, true, [], (some 15), none, .q (.load (some 2) (.t 3))⟩,
    ⟨9, false, [], (some 16), none, .q (.mov (.t 2))⟩,
    ⟨10, false, [], (some 17), none, .q (.mov (.t 1))⟩,
    ⟨5, false, [], (some 12), none, .e (.call (.f 124) [.t 9, .t 10, .t 11])⟩,
    ⟨6, false, [], (some 13), none, .q (.idx 1 (.t 8) (.t 12))⟩,
    ⟨7, true, [], (some 14), none, .q (.load none (.t 13))⟩,
    ⟨11, false, [], (some 18), none, .e (.call (.f 124) [.t 15, .t 16, .t 17])⟩,
    ⟨12, false, [], (some 19), none, .q (.idx 1 (.t 14) (.t 18))⟩,
    ⟨13, false, [], (some 20), none, .q (.load none (.t 19))⟩,
    ⟨14, false, [], (some 6), none, .q (.mov (.t 20))⟩] (.ret)))
def o172 : Nat → List Nat := fun i => if i = 1 then [0, 1, 2, 3, 4, 8, 9, 10, 5, 6, 7, 11, 12, 13, 14] else []
set_option maxRecDepth 100000 in
theorem t172 : (Try.f172.body.map fun c => tr Try.prog o172 Try.f172.ntmps c .done) = some c172 := by kernel_rfl
theorem r172 : trR Try.prog Try.f172.results.toList = some [.t 6] := by kernel_rfl
theorem in172 {w0 : World} {args : List AV} {H : Hp} {Q : AV → Hp → Prop} (h : W Try.prog w0 c172 (retQ [.t 6] Q) (env0 args) H) : ACalls Try.prog w0 172 args H Q :=
  ACalls.intro2 mixed Try.func172 rfl t172 r172 h

end Go.AL
