/-
  Lemmas that the proofs of the given statements of this seat use. Conditions: none.
-/
import Derived.Test.YtkkgckmgplicjaaK
import Derived.Test.YtkkgckmgplicjaaProg
import Derived.KernelRfl
/-
  The compact code of the functions, written by a program of mine out of the translation; Lean checks each against the translation.
-/
namespace Go.AL
open Go.Proofs
set_option maxRecDepth 100000
theorem mixed : Try.prog.follows .mixedOrders = true := by kernel_rfl
/-- laws.FnChainCount -/
def c3 : CC :=
  .op (some 2) none (.q (.mov (.k (.bool false))))
  (.op (some 6) none (.q (.mov (.t 0)))
  (.op (some 7) none (.q (.len (.t 6)))
  (.op (some 8) none (.q (.bin .gtr (.t 7) (.k (.int .i64 1048576))))
  (.cond (.t 8)
  (.op (some 2) none (.q (.mov (.k (.bool true))))
  (.ret))
  (.done)
  (.op (some 10) none (.q (.mov (.t 0)))
  (.op (some 11) none (.e (.call (.f 14) [.t 10]))
  (.op (some 9) none (.q (.mov (.t 11)))
  (.op (some 12) none (.q (.ext (.t 9) 0))
  (.op (some 13) none (.q (.ext (.t 9) 1))
  (.op (some 3) none (.q (.mov (.t 12)))
  (.op (some 4) none (.q (.mov (.t 13)))
  (.op (some 14) none (.q (.mov (.t 3)))
  (.op (some 15) none (.q (.mov (.t 4)))
  (.op (some 16) none (.e (.call (.f 15) [.t 14, .t 15]))
  (.op (some 5) none (.q (.mov (.t 16)))
  (.op (some 17) none (.q (.mov (.t 5)))
  (.op (some 18) none (.q (.mov (.t 3)))
  (.op (some 19) none (.q (.mov (.t 4)))
  (.op (some 20) none (.e (.call (.f 16) [.t 18, .t 19]))
  (.op (some 21) none (.q (.bin .neq (.t 17) (.t 20)))
  (.op (some 22) none (.q (.mov (.t 21)))
  (.op (some 23) (some (22, false)) (.q (.mov (.t 5)))
  (.op (some 24) (some (22, false)) (.q (.bin .lss (.t 23) (.k (.int .i64 0))))
  (.op (some 25) none (.q (.pick (.t 22) (.k (.bool true)) (.t 24)))
  (.cond (.t 25)
  (.op (some 26) none (.q (.mov (.t 5)))
  (.op (some 27) none (.q (.mov (.t 3)))
  (.op (some 28) none (.q (.mov (.t 4)))
  (.op (some 29) none (.e (.call (.f 16) [.t 27, .t 28]))
  (.op (some 30) none (.q (.bin .eql (.t 26) (.t 29)))
  (.op (some 2) none (.q (.mov (.t 30)))
  (.ret)))))))
  (.done)
  (.op (some 31) none (.q (.mov (.t 3)))
  (.op (some 32) none (.q (.bin .eql (.t 31) (.k (.str ⟨#[112, 114, 101, 108, 105, 110, 101, 97, 114]⟩))))
  (.cond (.t 32)
  (.op (some 33) none (.q (.mov (.t 5)))
  (.op (some 34) none (.q (.mov (.t 4)))
  (.op (some 35) none (.e (.call (.f 17) [.t 34]))
  (.op (some 36) none (.q (.len (.t 35)))
  (.op (some 37) none (.q (.bin .eql (.t 33) (.t 36)))
  (.op (some 2) none (.q (.mov (.t 37)))
  (.ret)))))))
  (.done)
  (.op (some 38) none (.q (.mov (.t 3)))
  (.op (some 39) none (.q (.bin .eql (.t 38) (.k (.str ⟨#[100, 105, 118, 105, 115, 105, 98, 108, 101]⟩))))
  (.cond (.t 39)
  (.op (some 40) none (.q (.mov (.t 5)))
  (.op (some 41) none (.q (.mov (.t 4)))
  (.op (some 42) none (.q (.bin .sub (.t 41) (.k (.int .i64 2))))
  (.op (some 43) none (.q (.mm true [.t 42, .k (.int .i64 0)]))
  (.op (some 44) none (.e (.call (.f 18) [.t 43]))
  (.op (some 45) none (.q (.bin .eql (.t 40) (.t 44)))
  (.op (some 2) none (.q (.mov (.t 45)))
  (.ret))))))))
  (.done)
  (.op (some 46) none (.q (.mov (.t 3)))
  (.op (some 47) none (.q (.bin .eql (.t 46) (.k (.str ⟨#[98, 111, 111, 108, 101, 97, 110]⟩))))
  (.cond (.t 47)
  (.op (some 48) none (.q (.mov (.t 4)))
  (.op (some 49) none (.q (.bin .leq (.t 48) (.k (.int .i64 2))))
  (.op (some 50) none (.q (.mov (.t 49)))
  (.op (some 51) (some (50, true)) (.q (.mov (.t 5)))
  (.op (some 52) (some (50, true)) (.q (.bin .eql (.t 51) (.k (.int .i64 1))))
  (.op (some 53) none (.q (.pick (.t 50) (.t 52) (.k (.bool false))))
  (.op (some 54) none (.q (.mov (.t 53)))
  (.op (some 55) (some (54, false)) (.q (.mov (.t 4)))
  (.op (some 56) (some (54, false)) (.q (.bin .gtr (.t 55) (.k (.int .i64 2))))
  (.op (some 57) (some (54, false)) (.q (.mov (.t 56)))
  (.op (some 58) (some (57, true)) (.q (.mov (.t 5)))
  (.op (some 59) (some (57, true)) (.q (.bin .eql (.t 58) (.k (.int .i64 0))))
  (.op (some 60) (some (54, false)) (.q (.pick (.t 57) (.t 59) (.k (.bool false))))
  (.op (some 61) none (.q (.pick (.t 54) (.k (.bool true)) (.t 60)))
  (.op (some 2) none (.q (.mov (.t 61)))
  (.ret))))))))))))))))
  (.done)
  (.op (some 62) none (.q (.mov (.t 3)))
  (.op (some 63) none (.q (.bin .eql (.t 62) (.k (.str ⟨#[105, 100, 101, 109, 112, 111, 116, 101, 110, 116]⟩))))
  (.op (some 64) none (.q (.mov (.t 63)))
  (.op (some 65) (some (64, true)) (.q (.mov (.t 5)))
  (.op (some 66) (some (64, true)) (.q (.bin .eql (.t 65) (.k (.int .i64 1))))
  (.op (some 67) none (.q (.pick (.t 64) (.t 66) (.k (.bool false))))
  (.op (some 68) none (.q (.mov (.t 67)))
  (.op (some 69) (some (68, false)) (.q (.mov (.t 3)))
  (.op (some 70) (some (68, false)) (.q (.bin .eql (.t 69) (.k (.str ⟨#[105, 110, 118, 111, 108, 117, 116, 105, 118, 101]⟩))))
  (.op (some 71) (some (68, false)) (.q (.mov (.t 70)))
  (.op (some 72) (some (71, true)) (.q (.mov (.t 5)))
  (.op (some 73) (some (71, true)) (.q (.bin .geq (.t 72) (.k (.int .i64 1))))
  (.op (some 74) (some (68, false)) (.q (.pick (.t 71) (.t 73) (.k (.bool false))))
  (.op (some 75) none (.q (.pick (.t 68) (.k (.bool true)) (.t 74)))
  (.op (some 2) none (.q (.mov (.t 75)))
  (.ret))))))))))))))))))))))))))))))))))))))))))))))))))
def o3 : Nat → List Nat := fun _ => []
set_option maxRecDepth 100000 in
theorem t3 : (Try.f3.body.map fun c => tr Try.prog o3 Try.f3.ntmps c .done) = some c3 := by kernel_rfl
theorem r3 : trR Try.prog Try.f3.results.toList = some [.t 2] := by kernel_rfl
theorem in3 {w0 : World} {args : List AV} {H : Hp} {Q : AV → Hp → Prop} (h : W Try.prog w0 c3 (retQ [.t 2] Q) (env0 args) H) : ACalls Try.prog w0 3 args H Q :=
  ACalls.intro2 mixed Try.func3 rfl t3 r3 h

/-- laws.FnExactMapsOf -/
def c4 : CC :=
  .op (some 2) none (.l (.box 33 (.t 0)))
  (.op (some 3) none (.l (.box 33 (.t 1)))
  (.op (some 4) none (.q (.mov (.k (.bool false))))
  (.op (some 5) none (.q (.mov (.k (.int .i64 1048576))))
  (.op (some 14) none (.q (.load (some 2) (.t 2)))
  (.op (some 15) none (.q (.mov (.t 5)))
  (.op (some 16) none (.e (.call (.f 19) [.t 14, .t 15]))
  (.op (some 5) none (.q (.mov (.t 16)))
  (.op (some 17) none (.q (.mov (.t 5)))
  (.op (some 18) none (.q (.bin .lss (.t 17) (.k (.int .i64 0))))
  (.cond (.t 18)
  (.op (some 4) none (.q (.mov (.k (.bool true))))
  (.ret))
  (.done)
  (.op (some 19) none (.q (.load (some 2) (.t 3)))
  (.op (some 20) none (.q (.mov (.t 5)))
  (.op (some 21) none (.e (.call (.f 19) [.t 19, .t 20]))
  (.op (some 5) none (.q (.mov (.t 21)))
  (.op (some 22) none (.q (.mov (.t 5)))
  (.op (some 23) none (.q (.bin .lss (.t 22) (.k (.int .i64 0))))
  (.cond (.t 23)
  (.op (some 4) none (.q (.mov (.k (.bool true))))
  (.ret))
  (.done)
  (.draws [⟨0, false, [], (some 24), none, .q (.load (some 2) (.t 2))⟩,
    ⟨2, true, [], (some 26), none, .q (.load (some 2) (.t 3))⟩,
    ⟨1, false, [], (some 25), none, .e (.call (.f 21) [.t 24])⟩,
    ⟨3, false, [], (some 27), none, .e (.call (.f 21) [.t 26])⟩,
    ⟨4, false, [], (some 28), none, .e (.call (.f 20) [.t 25, .t 27])⟩,
    ⟨5, false, [], (some 6), none, .q (.mov (.t 28))⟩] (.op (some 29) none (.q (.load (some 2) (.t 2)))
  (.op (some 30) none (.e (.call (.f 21) [.t 29]))
  (.op (some 7) none (.l (.alloc 36 [.nils, .nils]))
  (.op none none (.e (.store 2 (.t 7) (.t 30)))
  (.op (some 31) none (.q (.load (some 2) (.t 3)))
  (.op (some 32) none (.e (.call (.f 21) [.t 31]))
  (.op (some 8) none (.l (.alloc 36 [.nils, .nils]))
  (.op none none (.e (.store 2 (.t 8) (.t 32)))
  (.op (some 33) none (.q (.load (some 2) (.t 7)))
  (.op (some 34) none (.q (.load (some 2) (.t 8)))
  (.op (some 35) none (.e (.call (.f 22) [.t 33, .t 34]))
  (.op (some 9) none (.q (.mov (.t 35)))
  (.op (some 36) none (.q (.mov (.t 9)))
  (.op (some 37) none (.q (.mov (.t 6)))
  (.op (some 38) none (.e (.call (.f 23) [.t 36, .t 37]))
  (.op (some 39) none (.q (.not (.t 38)))
  (.cond (.t 39)
  (.op (some 4) none (.q (.mov (.k (.bool false))))
  (.ret))
  (.done)
  (.draws [⟨0, true, [], (some 40), none, .q (.load (some 2) (.t 7))⟩,
    ⟨1, false, [], (some 41), none, .q (.load (some 2) (.t 2))⟩,
    ⟨2, false, [], (some 42), none, .e (.call (.f 21) [.t 41])⟩,
    ⟨3, false, [], (some 43), none, .e (.call (.f 24) [.t 40, .t 42])⟩,
    ⟨4, false, [], (some 44), none, .q (.not (.t 43))⟩] (.cond (.t 44)
  (.op (some 4) none (.q (.mov (.k (.bool false))))
  (.ret))
  (.done)
  (.draws [⟨0, true, [], (some 45), none, .q (.load (some 2) (.t 8))⟩,
    ⟨1, false, [], (some 46), none, .q (.load (some 2) (.t 3))⟩,
    ⟨2, false, [], (some 47), none, .e (.call (.f 21) [.t 46])⟩,
    ⟨3, false, [], (some 48), none, .e (.call (.f 24) [.t 45, .t 47])⟩,
    ⟨4, false, [], (some 49), none, .q (.not (.t 48))⟩] (.cond (.t 49)
  (.op (some 4) none (.q (.mov (.k (.bool false))))
  (.ret))
  (.done)
  (.op (some 10) none (.q (.mov (.k (.int .i64 1))))
  (.op (some 50) none (.q (.load (some 2) (.t 7)))
  (.op (some 51) none (.q (.mov (.t 10)))
  (.op (some 52) none (.e (.call (.f 25) [.t 50, .t 51]))
  (.op (some 10) none (.q (.mov (.t 52)))
  (.op (some 53) none (.q (.load (some 2) (.t 8)))
  (.op (some 54) none (.q (.mov (.t 10)))
  (.op (some 55) none (.e (.call (.f 25) [.t 53, .t 54]))
  (.op (some 10) none (.q (.mov (.t 55)))
  (.op (some 56) none (.q (.mov (.t 10)))
  (.op (some 57) none (.q (.bin .lss (.t 56) (.k (.int .i64 0))))
  (.op (some 58) none (.q (.mov (.t 57)))
  (.op (some 59) (some (58, false)) (.q (.mov (.t 9)))
  (.op (some 60) (some (58, false)) (.q (.mov (.t 6)))
  (.op (some 61) (some (58, false)) (.e (.call (.f 23) [.t 59, .t 60]))
  (.op (some 62) (some (58, false)) (.q (.not (.t 61)))
  (.op (some 63) none (.q (.pick (.t 58) (.k (.bool true)) (.t 62)))
  (.cond (.t 63)
  (.op (some 4) none (.q (.mov (.k (.bool false))))
  (.ret))
  (.done)
  (.op (some 11) none (.q (.mov (.k (.int .i64 1))))
  (.op (some 64) none (.q (.mov (.t 9)))
  (.op (some 65) none (.q (.mov (.t 11)))
  (.op (some 66) none (.e (.call (.f 26) [.t 64, .t 65]))
  (.op (some 11) none (.q (.mov (.t 66)))
  (.op (some 12) none (.q (.mov (.k (.int .i64 1))))
  (.op (some 67) none (.q (.mov (.t 9)))
  (.op (some 68) none (.q (.mov (.t 12)))
  (.op (some 69) none (.e (.call (.f 27) [.t 67, .t 68]))
  (.op (some 12) none (.q (.mov (.t 69)))
  (.op (some 70) none (.q (.mov (.t 12)))
  (.op (some 71) none (.q (.bin .lss (.t 70) (.k (.int .i64 0))))
  (.cond (.t 71)
  (.op (some 4) none (.q (.mov (.k (.bool false))))
  (.ret))
  (.done)
  (.op (some 72) none (.q (.mov (.t 12)))
  (.op (some 73) none (.q (.mov (.t 11)))
  (.op (some 74) none (.q (.bin .neq (.t 72) (.t 73)))
  (.cond (.t 74)
  (.op (some 4) none (.q (.mov (.k (.bool false))))
  (.ret))
  (.done)
  (.draws [⟨0, false, [], (some 75), none, .q (.load (some 2) (.t 2))⟩,
    ⟨2, true, [], (some 77), none, .q (.load (some 2) (.t 3))⟩,
    ⟨1, false, [], (some 76), none, .e (.call (.f 21) [.t 75])⟩,
    ⟨3, false, [], (some 78), none, .e (.call (.f 21) [.t 77])⟩,
    ⟨4, false, [], (some 79), none, .e (.call (.f 22) [.t 76, .t 78])⟩,
    ⟨5, false, [], (some 13), none, .q (.mov (.t 79))⟩] (.op (some 80) none (.q (.mov (.t 13)))
  (.op (some 81) none (.q (.mov (.t 6)))
  (.op (some 82) none (.e (.call (.f 23) [.t 80, .t 81]))
  (.op (some 83) none (.q (.not (.t 82)))
  (.cond (.t 83)
  (.op (some 4) none (.q (.mov (.k (.bool false))))
  (.ret))
  (.done)
  (.op (some 12) none (.q (.mov (.k (.int .i64 1))))
  (.op (some 84) none (.q (.mov (.t 9)))
  (.op (some 85) none (.q (.mov (.t 12)))
  (.op (some 86) none (.e (.call (.f 27) [.t 84, .t 85]))
  (.op (some 12) none (.q (.mov (.t 86)))
  (.op (some 87) none (.q (.mov (.t 12)))
  (.op (some 88) none (.q (.bin .lss (.t 87) (.k (.int .i64 0))))
  (.cond (.t 88)
  (.op (some 4) none (.q (.mov (.k (.bool false))))
  (.ret))
  (.done)
  (.op (some 89) none (.q (.mov (.t 12)))
  (.op (some 90) none (.q (.mov (.t 11)))
  (.op (some 91) none (.q (.bin .neq (.t 89) (.t 90)))
  (.cond (.t 91)
  (.op (some 4) none (.q (.mov (.k (.bool false))))
  (.ret))
  (.done)
  (.op (some 4) none (.q (.mov (.k (.bool true))))
  (.ret))))))))))))))))))))))))))))))))))))))))))))))))))))))))))))))))))))))))))))))))))))))))))))))
def o4 : Nat → List Nat := fun i => if i = 31 then [0, 2, 1, 3, 4, 5] else if i = 16 then [0, 1, 2, 3, 4] else if i = 14 then [0, 1, 2, 3, 4] else if i = 8 then [0, 2, 1, 3, 4, 5] else []
set_option maxRecDepth 100000 in
theorem t4 : (Try.f4.body.map fun c => tr Try.prog o4 Try.f4.ntmps c .done) = some c4 := by kernel_rfl
theorem r4 : trR Try.prog Try.f4.results.toList = some [.t 4] := by kernel_rfl
theorem in4 {w0 : World} {args : List AV} {H : Hp} {Q : AV → Hp → Prop} (h : W Try.prog w0 c4 (retQ [.t 4] Q) (env0 args) H) : ACalls Try.prog w0 4 args H Q :=
  ACalls.intro2 mixed Try.func4 rfl t4 r4 h

/-- laws.FnExactFollows -/
def c5 : CC :=
  .op (some 3) none (.l (.box 33 (.t 0)))
  (.op (some 6) none (.q (.mov (.k (.bool false))))
  (.op (some 13) none (.q (.mov (.t 1)))
  (.op (some 14) none (.q (.len (.t 13)))
  (.op (some 15) none (.q (.bin .gtr (.t 14) (.k (.int .i64 1048576))))
  (.cond (.t 15)
  (.op (some 6) none (.q (.mov (.k (.bool true))))
  (.ret))
  (.done)
  (.op (some 16) none (.q (.mov (.t 2)))
  (.op (some 17) none (.q (.len (.t 16)))
  (.op (some 18) none (.q (.bin .gtr (.t 17) (.k (.int .i64 1048576))))
  (.cond (.t 18)
  (.op (some 6) none (.q (.mov (.k (.bool true))))
  (.ret))
  (.done)
  (.op (some 7) none (.q (.mov (.k (.int .i64 1048576))))
  (.op (some 19) none (.q (.load (some 2) (.t 3)))
  (.op (some 20) none (.q (.mov (.t 7)))
  (.op (some 21) none (.e (.call (.f 19) [.t 19, .t 20]))
  (.op (some 7) none (.q (.mov (.t 21)))
  (.op (some 22) none (.q (.mov (.t 7)))
  (.op (some 23) none (.q (.bin .lss (.t 22) (.k (.int .i64 0))))
  (.cond (.t 23)
  (.op (some 6) none (.q (.mov (.k (.bool true))))
  (.ret))
  (.done)
  (.op (some 24) none (.q (.load (some 2) (.t 3)))
  (.op (some 25) none (.e (.call (.f 21) [.t 24]))
  (.op (some 26) none (.q (.mov (.t 1)))
  (.op (some 27) none (.e (.call (.f 29) [.t 26]))
  (.op (some 28) none (.q (.mov (.t 2)))
  (.op (some 29) none (.e (.call (.f 29) [.t 28]))
  (.op (some 30) none (.e (.call (.f 28) [.t 25, .t 27, .t 29]))
  (.op (some 8) none (.q (.mov (.t 30)))
  (.op (some 31) none (.q (.load (some 2) (.t 3)))
  (.op (some 32) none (.e (.call (.f 21) [.t 31]))
  (.op (some 9) none (.l (.alloc 36 [.nils, .nils]))
  (.op none none (.e (.store 2 (.t 9) (.t 32)))
  (.op (some 33) none (.q (.mov (.t 1)))
  (.op (some 34) none (.e (.call (.f 29) [.t 33]))
  (.op (some 10) none (.q (.mov (.t 34)))
  (.op (some 35) none (.q (.mov (.t 2)))
  (.op (some 36) none (.e (.call (.f 29) [.t 35]))
  (.op (some 11) none (.q (.mov (.t 36)))
  (.op (some 37) none (.q (.load (some 2) (.t 9)))
  (.op (some 38) none (.q (.mov (.t 10)))
  (.op (some 39) none (.q (.mov (.t 11)))
  (.op (some 40) none (.e (.call (.f 30) [.t 37, .t 38, .t 39]))
  (.op (some 12) none (.q (.mov (.t 40)))
  (.op (some 41) none (.q (.mov (.t 12)))
  (.op (some 42) none (.q (.mov (.t 8)))
  (.op (some 43) none (.q (.beq true (.t 41) (.t 42)))
  (.cond (.t 43)
  (.op (some 6) none (.q (.mov (.k (.bool false))))
  (.ret))
  (.done)
  (.draws [⟨0, true, [], (some 44), none, .q (.load (some 2) (.t 9))⟩,
    ⟨1, false, [], (some 45), none, .q (.load (some 2) (.t 3))⟩,
    ⟨2, false, [], (some 46), none, .e (.call (.f 21) [.t 45])⟩,
    ⟨3, false, [], (some 47), none, .e (.call (.f 24) [.t 44, .t 46])⟩,
    ⟨4, false, [], (some 48), none, .q (.not (.t 47))⟩] (.cond (.t 48)
  (.op (some 6) none (.q (.mov (.k (.bool false))))
  (.ret))
  (.done)
  (.op (some 49) none (.q (.mov (.t 10)))
  (.op (some 50) none (.q (.mov (.t 1)))
  (.op (some 51) none (.e (.call (.f 29) [.t 50]))
  (.op (some 52) none (.e (.call (.f 31) [.t 49, .t 51]))
  (.op (some 53) none (.q (.not (.t 52)))
  (.cond (.t 53)
  (.op (some 6) none (.q (.mov (.k (.bool false))))
  (.ret))
  (.done)
  (.op (some 54) none (.q (.mov (.t 11)))
  (.op (some 55) none (.q (.mov (.t 2)))
  (.op (some 56) none (.e (.call (.f 29) [.t 55]))
  (.op (some 57) none (.e (.call (.f 31) [.t 54, .t 56]))
  (.op (some 58) none (.q (.not (.t 57)))
  (.cond (.t 58)
  (.op (some 6) none (.q (.mov (.k (.bool false))))
  (.ret))
  (.done)
  (.op (some 6) none (.q (.mov (.k (.bool true))))
  (.ret))))))))))))))))))))))))))))))))))))))))))))))))))))))))))))
def o5 : Nat → List Nat := fun i => if i = 16 then [0, 1, 2, 3, 4] else []
set_option maxRecDepth 100000 in
theorem t5 : (Try.f5.body.map fun c => tr Try.prog o5 Try.f5.ntmps c .done) = some c5 := by kernel_rfl
theorem r5 : trR Try.prog Try.f5.results.toList = some [.t 6] := by kernel_rfl
theorem in5 {w0 : World} {args : List AV} {H : Hp} {Q : AV → Hp → Prop} (h : W Try.prog w0 c5 (retQ [.t 6] Q) (env0 args) H) : ACalls Try.prog w0 5 args H Q :=
  ACalls.intro2 mixed Try.func5 rfl t5 r5 h

/-- laws.FnExactSameBy -/
def c6 : CC :=
  .op (some 2) none (.l (.box 33 (.t 0)))
  (.op (some 3) none (.l (.box 33 (.t 1)))
  (.op (some 4) none (.q (.mov (.k (.bool false))))
  (.op (some 5) none (.q (.mov (.k (.int .i64 1048576))))
  (.op (some 17) none (.q (.load (some 2) (.t 2)))
  (.op (some 18) none (.q (.mov (.t 5)))
  (.op (some 19) none (.e (.call (.f 19) [.t 17, .t 18]))
  (.op (some 5) none (.q (.mov (.t 19)))
  (.op (some 20) none (.q (.mov (.t 5)))
  (.op (some 21) none (.q (.bin .lss (.t 20) (.k (.int .i64 0))))
  (.cond (.t 21)
  (.op (some 4) none (.q (.mov (.k (.bool true))))
  (.ret))
  (.done)
  (.op (some 22) none (.q (.load (some 2) (.t 3)))
  (.op (some 23) none (.q (.mov (.t 5)))
  (.op (some 24) none (.e (.call (.f 19) [.t 22, .t 23]))
  (.op (some 5) none (.q (.mov (.t 24)))
  (.op (some 25) none (.q (.mov (.t 5)))
  (.op (some 26) none (.q (.bin .lss (.t 25) (.k (.int .i64 0))))
  (.cond (.t 26)
  (.op (some 4) none (.q (.mov (.k (.bool true))))
  (.ret))
  (.done)
  (.draws [⟨0, false, [], (some 28), none, .q (.load (some 2) (.t 2))⟩,
    ⟨2, true, [], (some 30), none, .q (.load (some 2) (.t 3))⟩,
    ⟨1, false, [], (some 29), none, .e (.call (.f 21) [.t 28])⟩,
    ⟨3, false, [], (some 31), none, .e (.call (.f 21) [.t 30])⟩,
    ⟨4, false, [], (some 32), none, .e (.call (.f 32) [.t 29, .t 31])⟩,
    ⟨5, false, [], (some 27), none, .q (.mov (.t 32))⟩,
    ⟨6, false, [], (some 33), none, .q (.ext (.t 27) 0)⟩,
    ⟨7, false, [], (some 34), none, .q (.ext (.t 27) 1)⟩,
    ⟨8, false, [], (some 6), none, .q (.mov (.t 33))⟩,
    ⟨9, false, [], (some 7), none, .q (.mov (.t 34))⟩] (.op (some 35) none (.q (.load (some 2) (.t 2)))
  (.op (some 36) none (.e (.call (.f 21) [.t 35]))
  (.op (some 8) none (.l (.alloc 36 [.nils, .nils]))
  (.op none none (.e (.store 2 (.t 8) (.t 36)))
  (.op (some 37) none (.q (.load (some 2) (.t 3)))
  (.op (some 38) none (.e (.call (.f 21) [.t 37]))
  (.op (some 9) none (.l (.alloc 36 [.nils, .nils]))
  (.op none none (.e (.store 2 (.t 9) (.t 38)))
  (.op (some 40) none (.q (.load (some 2) (.t 8)))
  (.op (some 41) none (.q (.load (some 2) (.t 9)))
  (.op (some 42) none (.e (.call (.f 33) [.t 40, .t 41]))
  (.op (some 39) none (.q (.mov (.t 42)))
  (.op (some 43) none (.q (.ext (.t 39) 0))
  (.op (some 44) none (.q (.ext (.t 39) 1))
  (.op (some 10) none (.q (.mov (.t 43)))
  (.op (some 11) none (.q (.mov (.t 44)))
  (.op (some 45) none (.q (.mov (.t 10)))
  (.op (some 46) none (.q (.mov (.t 6)))
  (.op (some 47) none (.e (.call (.f 31) [.t 45, .t 46]))
  (.op (some 48) none (.q (.not (.t 47)))
  (.op (some 49) none (.q (.mov (.t 48)))
  (.op (some 50) (some (49, false)) (.q (.mov (.t 11)))
  (.op (some 51) (some (49, false)) (.q (.mov (.t 7)))
  (.op (some 52) (some (49, false)) (.q (.beq true (.t 50) (.t 51)))
  (.op (some 53) none (.q (.pick (.t 49) (.k (.bool true)) (.t 52)))
  (.cond (.t 53)
  (.op (some 4) none (.q (.mov (.k (.bool false))))
  (.ret))
  (.done)
  (.draws [⟨0, true, [], (some 54), none, .q (.load (some 2) (.t 8))⟩,
    ⟨1, false, [], (some 55), none, .q (.load (some 2) (.t 2))⟩,
    ⟨2, false, [], (some 56), none, .e (.call (.f 21) [.t 55])⟩,
    ⟨3, false, [], (some 57), none, .e (.call (.f 24) [.t 54, .t 56])⟩,
    ⟨4, false, [], (some 58), none, .q (.not (.t 57))⟩] (.cond (.t 58)
  (.op (some 4) none (.q (.mov (.k (.bool false))))
  (.ret))
  (.done)
  (.draws [⟨0, true, [], (some 59), none, .q (.load (some 2) (.t 9))⟩,
    ⟨1, false, [], (some 60), none, .q (.load (some 2) (.t 3))⟩,
    ⟨2, false, [], (some 61), none, .e (.call (.f 21) [.t 60])⟩,
    ⟨3, false, [], (some 62), none, .e (.call (.f 24) [.t 59, .t 61])⟩,
    ⟨4, false, [], (some 63), none, .q (.not (.t 62))⟩] (.cond (.t 63)
  (.op (some 4) none (.q (.mov (.k (.bool false))))
  (.ret))
  (.done)
  (.op (some 12) none (.q (.mov (.k (.int .i64 1))))
  (.op (some 64) none (.q (.load (some 2) (.t 8)))
  (.op (some 65) none (.q (.mov (.t 12)))
  (.op (some 66) none (.e (.call (.f 25) [.t 64, .t 65]))
  (.op (some 12) none (.q (.mov (.t 66)))
  (.op (some 67) none (.q (.load (some 2) (.t 9)))
  (.op (some 68) none (.q (.mov (.t 12)))
  (.op (some 69) none (.e (.call (.f 25) [.t 67, .t 68]))
  (.op (some 12) none (.q (.mov (.t 69)))
  (.op (some 70) none (.q (.mov (.t 12)))
  (.op (some 71) none (.q (.bin .lss (.t 70) (.k (.int .i64 0))))
  (.op (some 72) none (.q (.mov (.t 71)))
  (.op (some 73) (some (72, false)) (.q (.mov (.t 10)))
  (.op (some 74) (some (72, false)) (.q (.mov (.t 6)))
  (.op (some 75) (some (72, false)) (.e (.call (.f 31) [.t 73, .t 74]))
  (.op (some 76) (some (72, false)) (.q (.not (.t 75)))
  (.op (some 77) none (.q (.pick (.t 72) (.k (.bool true)) (.t 76)))
  (.op (some 78) none (.q (.mov (.t 77)))
  (.op (some 79) (some (78, false)) (.q (.mov (.t 11)))
  (.op (some 80) (some (78, false)) (.q (.mov (.t 7)))
  (.op (some 81) (some (78, false)) (.q (.beq true (.t 79) (.t 80)))
  (.op (some 82) none (.q (.pick (.t 78) (.k (.bool true)) (.t 81)))
  (.cond (.t 82)
  (.op (some 4) none (.q (.mov (.k (.bool false))))
  (.ret))
  (.done)
  (.op (some 13) none (.q (.mov (.k (.int .i64 1))))
  (.op (some 83) none (.q (.mov (.t 10)))
  (.op (some 84) none (.q (.mov (.t 13)))
  (.op (some 85) none (.e (.call (.f 34) [.t 83, .t 84]))
  (.op (some 13) none (.q (.mov (.t 85)))
  (.op (some 14) none (.q (.mov (.k (.int .i64 1))))
  (.op (some 86) none (.q (.mov (.t 10)))
  (.op (some 87) none (.q (.mov (.t 14)))
  (.op (some 88) none (.e (.call (.f 35) [.t 86, .t 87]))
  (.op (some 14) none (.q (.mov (.t 88)))
  (.op (some 89) none (.q (.mov (.t 14)))
  (.op (some 90) none (.q (.bin .lss (.t 89) (.k (.int .i64 0))))
  (.cond (.t 90)
  (.op (some 4) none (.q (.mov (.k (.bool false))))
  (.ret))
  (.done)
  (.op (some 91) none (.q (.mov (.t 14)))
  (.op (some 92) none (.q (.mov (.t 13)))
  (.op (some 93) none (.q (.bin .neq (.t 91) (.t 92)))
  (.cond (.t 93)
  (.op (some 4) none (.q (.mov (.k (.bool false))))
  (.ret))
  (.done)
  (.draws [⟨0, false, [], (some 95), none, .q (.load (some 2) (.t 2))⟩,
    ⟨2, true, [], (some 97), none, .q (.load (some 2) (.t 3))⟩,
    ⟨1, false, [], (some 96), none, .e (.call (.f 21) [.t 95])⟩,
    ⟨3, false, [], (some 98), none, .e (.call (.f 21) [.t 97])⟩,
    ⟨4, false, [], (some 99), none, .e (.call (.f 33) [.t 96, .t 98])⟩,
    ⟨5, false, [], (some 94), none, .q (.mov (.t 99))⟩,
    ⟨6, false, [], (some 100), none, .q (.ext (.t 94) 0)⟩,
    ⟨7, false, [], (some 101), none, .q (.ext (.t 94) 1)⟩,
    ⟨8, false, [], (some 15), none, .q (.mov (.t 100))⟩,
    ⟨9, false, [], (some 16), none, .q (.mov (.t 101))⟩] (.op (some 102) none (.q (.mov (.t 15)))
  (.op (some 103) none (.q (.mov (.t 6)))
  (.op (some 104) none (.e (.call (.f 31) [.t 102, .t 103]))
  (.op (some 105) none (.q (.not (.t 104)))
  (.op (some 106) none (.q (.mov (.t 105)))
  (.op (some 107) (some (106, false)) (.q (.mov (.t 16)))
  (.op (some 108) (some (106, false)) (.q (.mov (.t 7)))
  (.op (some 109) (some (106, false)) (.q (.beq true (.t 107) (.t 108)))
  (.op (some 110) none (.q (.pick (.t 106) (.k (.bool true)) (.t 109)))
  (.cond (.t 110)
  (.op (some 4) none (.q (.mov (.k (.bool false))))
  (.ret))
  (.done)
  (.op (some 14) none (.q (.mov (.k (.int .i64 1))))
  (.op (some 111) none (.q (.mov (.t 10)))
  (.op (some 112) none (.q (.mov (.t 14)))
  (.op (some 113) none (.e (.call (.f 35) [.t 111, .t 112]))
  (.op (some 14) none (.q (.mov (.t 113)))
  (.op (some 114) none (.q (.mov (.t 14)))
  (.op (some 115) none (.q (.bin .lss (.t 114) (.k (.int .i64 0))))
  (.cond (.t 115)
  (.op (some 4) none (.q (.mov (.k (.bool false))))
  (.ret))
  (.done)
  (.op (some 116) none (.q (.mov (.t 14)))
  (.op (some 117) none (.q (.mov (.t 13)))
  (.op (some 118) none (.q (.bin .neq (.t 116) (.t 117)))
  (.cond (.t 118)
  (.op (some 4) none (.q (.mov (.k (.bool false))))
  (.ret))
  (.done)
  (.op (some 4) none (.q (.mov (.k (.bool true))))
  (.ret)))))))))))))))))))))))))))))))))))))))))))))))))))))))))))))))))))))))))))))))))))))))))))))))))))))))))))))))))
def o6 : Nat → List Nat := fun i => if i = 31 then [0, 2, 1, 3, 4, 5, 6, 7, 8, 9] else if i = 16 then [0, 1, 2, 3, 4] else if i = 14 then [0, 1, 2, 3, 4] else if i = 8 then [0, 2, 1, 3, 4, 5, 6, 7, 8, 9] else []
set_option maxRecDepth 100000 in
theorem t6 : (Try.f6.body.map fun c => tr Try.prog o6 Try.f6.ntmps c .done) = some c6 := by kernel_rfl
theorem r6 : trR Try.prog Try.f6.results.toList = some [.t 4] := by kernel_rfl
theorem in6 {w0 : World} {args : List AV} {H : Hp} {Q : AV → Hp → Prop} (h : W Try.prog w0 c6 (retQ [.t 4] Q) (env0 args) H) : ACalls Try.prog w0 6 args H Q :=
  ACalls.intro2 mixed Try.func6 rfl t6 r6 h

/-- laws.FnExactQuotientOf -/
def c7 : CC :=
  .op (some 2) none (.l (.box 33 (.t 0)))
  (.op (some 4) none (.q (.mov (.k (.bool false))))
  (.op (some 5) none (.q (.mov (.k (.int .i64 1048576))))
  (.op (some 19) none (.q (.load (some 2) (.t 2)))
  (.op (some 20) none (.q (.mov (.t 5)))
  (.op (some 21) none (.e (.call (.f 19) [.t 19, .t 20]))
  (.op (some 5) none (.q (.mov (.t 21)))
  (.op (some 22) none (.q (.mov (.t 5)))
  (.op (some 23) none (.q (.bin .lss (.t 22) (.k (.int .i64 0))))
  (.cond (.t 23)
  (.op (some 4) none (.q (.mov (.k (.bool true))))
  (.ret))
  (.done)
  (.op (some 25) none (.q (.load (some 2) (.t 2)))
  (.op (some 26) none (.e (.call (.f 21) [.t 25]))
  (.op (some 27) none (.q (.mov (.t 1)))
  (.op (some 28) none (.e (.call (.f 36) [.t 26, .t 27]))
  (.op (some 24) none (.q (.mov (.t 28)))
  (.op (some 29) none (.q (.ext (.t 24) 0))
  (.op (some 30) none (.q (.ext (.t 24) 1))
  (.op (some 31) none (.q (.ext (.t 24) 2))
  (.op (some 6) none (.l (.alloc 36 [.nils, .nils]))
  (.op none none (.e (.store 2 (.t 6) (.t 29)))
  (.op (some 7) none (.q (.mov (.t 30)))
  (.op (some 8) none (.q (.mov (.t 31)))
  (.op (some 32) none (.q (.load (some 2) (.t 2)))
  (.op (some 33) none (.e (.call (.f 21) [.t 32]))
  (.op (some 9) none (.l (.alloc 36 [.nils, .nils]))
  (.op none none (.e (.store 2 (.t 9) (.t 33)))
  (.op (some 35) none (.q (.load (some 2) (.t 9)))
  (.op (some 36) none (.q (.mov (.t 1)))
  (.op (some 37) none (.e (.call (.f 37) [.t 35, .t 36]))
  (.op (some 34) none (.q (.mov (.t 37)))
  (.op (some 38) none (.q (.ext (.t 34) 0))
  (.op (some 39) none (.q (.ext (.t 34) 1))
  (.op (some 40) none (.q (.ext (.t 34) 2))
  (.op (some 10) none (.l (.alloc 36 [.nils, .nils]))
  (.op none none (.e (.store 2 (.t 10) (.t 38)))
  (.op (some 11) none (.q (.mov (.t 39)))
  (.op (some 12) none (.q (.mov (.t 40)))
  (.op (some 41) none (.q (.load (some 2) (.t 10)))
  (.op (some 42) none (.q (.load (some 2) (.t 6)))
  (.op (some 43) none (.e (.call (.f 24) [.t 41, .t 42]))
  (.op (some 44) none (.q (.not (.t 43)))
  (.op (some 45) none (.q (.mov (.t 44)))
  (.op (some 46) (some (45, false)) (.q (.mov (.t 11)))
  (.op (some 47) (some (45, false)) (.q (.mov (.t 7)))
  (.op (some 48) (some (45, false)) (.e (.call (.f 31) [.t 46, .t 47]))
  (.op (some 49) (some (45, false)) (.q (.not (.t 48)))
  (.op (some 50) none (.q (.pick (.t 45) (.k (.bool true)) (.t 49)))
  (.op (some 51) none (.q (.mov (.t 50)))
  (.op (some 52) (some (51, false)) (.q (.mov (.t 12)))
  (.op (some 53) (some (51, false)) (.q (.mov (.t 8)))
  (.op (some 54) (some (51, false)) (.q (.beq true (.t 52) (.t 53)))
  (.op (some 55) none (.q (.pick (.t 51) (.k (.bool true)) (.t 54)))
  (.cond (.t 55)
  (.op (some 4) none (.q (.mov (.k (.bool false))))
  (.ret))
  (.done)
  (.draws [⟨0, true, [], (some 56), none, .q (.load (some 2) (.t 9))⟩,
    ⟨1, false, [], (some 57), none, .q (.load (some 2) (.t 2))⟩,
    ⟨2, false, [], (some 58), none, .e (.call (.f 21) [.t 57])⟩,
    ⟨3, false, [], (some 59), none, .e (.call (.f 24) [.t 56, .t 58])⟩,
    ⟨4, false, [], (some 60), none, .q (.not (.t 59))⟩] (.cond (.t 60)
  (.op (some 4) none (.q (.mov (.k (.bool false))))
  (.ret))
  (.done)
  (.op (some 13) none (.q (.mov (.k (.int .i64 1))))
  (.op (some 61) none (.q (.load (some 2) (.t 9)))
  (.op (some 62) none (.q (.mov (.t 13)))
  (.op (some 63) none (.e (.call (.f 25) [.t 61, .t 62]))
  (.op (some 13) none (.q (.mov (.t 63)))
  (.op (some 64) none (.q (.mov (.t 13)))
  (.op (some 65) none (.q (.bin .lss (.t 64) (.k (.int .i64 0))))
  (.op (some 66) none (.q (.mov (.t 65)))
  (.op (some 67) (some (66, false)) (.q (.load (some 2) (.t 10)))
  (.op (some 68) (some (66, false)) (.q (.load (some 2) (.t 6)))
  (.op (some 69) (some (66, false)) (.e (.call (.f 24) [.t 67, .t 68]))
  (.op (some 70) (some (66, false)) (.q (.not (.t 69)))
  (.op (some 71) none (.q (.pick (.t 66) (.k (.bool true)) (.t 70)))
  (.op (some 72) none (.q (.mov (.t 71)))
  (.op (some 73) (some (72, false)) (.q (.mov (.t 11)))
  (.op (some 74) (some (72, false)) (.q (.mov (.t 7)))
  (.op (some 75) (some (72, false)) (.e (.call (.f 31) [.t 73, .t 74]))
  (.op (some 76) (some (72, false)) (.q (.not (.t 75)))
  (.op (some 77) none (.q (.pick (.t 72) (.k (.bool true)) (.t 76)))
  (.op (some 78) none (.q (.mov (.t 77)))
  (.op (some 79) (some (78, false)) (.q (.mov (.t 12)))
  (.op (some 80) (some (78, false)) (.q (.mov (.t 8)))
  (.op (some 81) (some (78, false)) (.q (.beq true (.t 79) (.t 80)))
  (.op (some 82) none (.q (.pick (.t 78) (.k (.bool true)) (.t 81)))
  (.cond (.t 82)
  (.op (some 4) none (.q (.mov (.k (.bool false))))
  (.ret))
  (.done)
  (.op (some 14) none (.q (.mov (.k (.int .i64 1))))
  (.op (some 83) none (.q (.load (some 2) (.t 10)))
  (.op (some 84) none (.q (.mov (.t 14)))
  (.op (some 85) none (.e (.call (.f 25) [.t 83, .t 84]))
  (.op (some 14) none (.q (.mov (.t 85)))
  (.op (some 86) none (.q (.mov (.t 11)))
  (.op (some 87) none (.q (.mov (.t 14)))
  (.op (some 88) none (.e (.call (.f 34) [.t 86, .t 87]))
  (.op (some 14) none (.q (.mov (.t 88)))
  (.op (some 15) none (.q (.mov (.k (.int .i64 1))))
  (.op (some 89) none (.q (.load (some 2) (.t 10)))
  (.op (some 90) none (.q (.mov (.t 15)))
  (.op (some 91) none (.e (.call (.f 38) [.t 89, .t 90]))
  (.op (some 15) none (.q (.mov (.t 91)))
  (.op (some 92) none (.q (.mov (.t 15)))
  (.op (some 93) none (.q (.bin .lss (.t 92) (.k (.int .i64 0))))
  (.cond (.t 93)
  (.op (some 4) none (.q (.mov (.k (.bool false))))
  (.ret))
  (.done)
  (.op (some 94) none (.q (.mov (.t 11)))
  (.op (some 95) none (.q (.mov (.t 15)))
  (.op (some 96) none (.e (.call (.f 35) [.t 94, .t 95]))
  (.op (some 15) none (.q (.mov (.t 96)))
  (.op (some 97) none (.q (.mov (.t 15)))
  (.op (some 98) none (.q (.bin .lss (.t 97) (.k (.int .i64 0))))
  (.cond (.t 98)
  (.op (some 4) none (.q (.mov (.k (.bool false))))
  (.ret))
  (.done)
  (.op (some 99) none (.q (.mov (.t 15)))
  (.op (some 100) none (.q (.mov (.t 14)))
  (.op (some 101) none (.q (.bin .neq (.t 99) (.t 100)))
  (.cond (.t 101)
  (.op (some 4) none (.q (.mov (.k (.bool false))))
  (.ret))
  (.done)
  (.op (some 103) none (.q (.load (some 2) (.t 2)))
  (.op (some 104) none (.e (.call (.f 21) [.t 103]))
  (.op (some 105) none (.q (.mov (.t 1)))
  (.op (some 106) none (.e (.call (.f 37) [.t 104, .t 105]))
  (.op (some 102) none (.q (.mov (.t 106)))
  (.op (some 107) none (.q (.ext (.t 102) 0))
  (.op (some 108) none (.q (.ext (.t 102) 1))
  (.op (some 109) none (.q (.ext (.t 102) 2))
  (.op (some 16) none (.l (.alloc 36 [.nils, .nils]))
  (.op none none (.e (.store 2 (.t 16) (.t 107)))
  (.op (some 17) none (.q (.mov (.t 108)))
  (.op (some 18) none (.q (.mov (.t 109)))
  (.op (some 110) none (.q (.load (some 2) (.t 16)))
  (.op (some 111) none (.q (.load (some 2) (.t 6)))
  (.op (some 112) none (.e (.call (.f 24) [.t 110, .t 111]))
  (.op (some 113) none (.q (.not (.t 112)))
  (.op (some 114) none (.q (.mov (.t 113)))
  (.op (some 115) (some (114, false)) (.q (.mov (.t 17)))
  (.op (some 116) (some (114, false)) (.q (.mov (.t 7)))
  (.op (some 117) (some (114, false)) (.e (.call (.f 31) [.t 115, .t 116]))
  (.op (some 118) (some (114, false)) (.q (.not (.t 117)))
  (.op (some 119) none (.q (.pick (.t 114) (.k (.bool true)) (.t 118)))
  (.op (some 120) none (.q (.mov (.t 119)))
  (.op (some 121) (some (120, false)) (.q (.mov (.t 18)))
  (.op (some 122) (some (120, false)) (.q (.mov (.t 8)))
  (.op (some 123) (some (120, false)) (.q (.beq true (.t 121) (.t 122)))
  (.op (some 124) none (.q (.pick (.t 120) (.k (.bool true)) (.t 123)))
  (.cond (.t 124)
  (.op (some 4) none (.q (.mov (.k (.bool false))))
  (.ret))
  (.done)
  (.op (some 15) none (.q (.mov (.k (.int .i64 1))))
  (.op (some 125) none (.q (.load (some 2) (.t 10)))
  (.op (some 126) none (.q (.mov (.t 15)))
  (.op (some 127) none (.e (.call (.f 38) [.t 125, .t 126]))
  (.op (some 15) none (.q (.mov (.t 127)))
  (.op (some 128) none (.q (.mov (.t 15)))
  (.op (some 129) none (.q (.bin .lss (.t 128) (.k (.int .i64 0))))
  (.cond (.t 129)
  (.op (some 4) none (.q (.mov (.k (.bool false))))
  (.ret))
  (.done)
  (.op (some 130) none (.q (.mov (.t 11)))
  (.op (some 131) none (.q (.mov (.t 15)))
  (.op (some 132) none (.e (.call (.f 35) [.t 130, .t 131]))
  (.op (some 15) none (.q (.mov (.t 132)))
  (.op (some 133) none (.q (.mov (.t 15)))
  (.op (some 134) none (.q (.bin .lss (.t 133) (.k (.int .i64 0))))
  (.cond (.t 134)
  (.op (some 4) none (.q (.mov (.k (.bool false))))
  (.ret))
  (.done)
  (.op (some 135) none (.q (.mov (.t 15)))
  (.op (some 136) none (.q (.mov (.t 14)))
  (.op (some 137) none (.q (.bin .neq (.t 135) (.t 136)))
  (.cond (.t 137)
  (.op (some 4) none (.q (.mov (.k (.bool false))))
  (.ret))
  (.done)
  (.op (some 4) none (.q (.mov (.k (.bool true))))
  (.ret))))))))))))))))))))))))))))))))))))))))))))))))))))))))))))))))))))))))))))))))))))))))))))))))))))))))))))))))))))))))))))))))))))))))))))))))))))))))))))
def o7 : Nat → List Nat := fun i => if i = 10 then [0, 1, 2, 3, 4] else []
set_option maxRecDepth 100000 in
theorem t7 : (Try.f7.body.map fun c => tr Try.prog o7 Try.f7.ntmps c .done) = some c7 := by kernel_rfl
theorem r7 : trR Try.prog Try.f7.results.toList = some [.t 4] := by kernel_rfl
theorem in7 {w0 : World} {args : List AV} {H : Hp} {Q : AV → Hp → Prop} (h : W Try.prog w0 c7 (retQ [.t 4] Q) (env0 args) H) : ACalls Try.prog w0 7 args H Q :=
  ACalls.intro2 mixed Try.func7 rfl t7 r7 h

/-- laws.FnExactLeastPower -/
def c8 : CC :=
  .op (some 3) none (.l (.box 33 (.t 0)))
  (.op (some 6) none (.q (.mov (.k (.bool false))))
  (.op (some 15) none (.q (.mov (.t 1)))
  (.op (some 16) none (.q (.len (.t 15)))
  (.op (some 17) none (.q (.bin .gtr (.t 16) (.k (.int .i64 1048576))))
  (.cond (.t 17)
  (.op (some 6) none (.q (.mov (.k (.bool true))))
  (.ret))
  (.done)
  (.op (some 18) none (.q (.mov (.t 2)))
  (.op (some 19) none (.q (.len (.t 18)))
  (.op (some 20) none (.q (.bin .gtr (.t 19) (.k (.int .i64 1048576))))
  (.cond (.t 20)
  (.op (some 6) none (.q (.mov (.k (.bool true))))
  (.ret))
  (.done)
  (.op (some 7) none (.q (.mov (.k (.int .i64 1048576))))
  (.op (some 21) none (.q (.load (some 2) (.t 3)))
  (.op (some 22) none (.q (.mov (.t 7)))
  (.op (some 23) none (.e (.call (.f 19) [.t 21, .t 22]))
  (.op (some 7) none (.q (.mov (.t 23)))
  (.op (some 24) none (.q (.mov (.t 7)))
  (.op (some 25) none (.q (.bin .lss (.t 24) (.k (.int .i64 0))))
  (.cond (.t 25)
  (.op (some 6) none (.q (.mov (.k (.bool true))))
  (.ret))
  (.done)
  (.op (some 27) none (.q (.load (some 2) (.t 3)))
  (.op (some 28) none (.e (.call (.f 21) [.t 27]))
  (.op (some 29) none (.q (.mov (.t 1)))
  (.op (some 30) none (.e (.call (.f 29) [.t 29]))
  (.op (some 31) none (.q (.mov (.t 2)))
  (.op (some 32) none (.e (.call (.f 29) [.t 31]))
  (.op (some 33) none (.e (.call (.f 39) [.t 28, .t 30, .t 32]))
  (.op (some 26) none (.q (.mov (.t 33)))
  (.op (some 34) none (.q (.ext (.t 26) 0))
  (.op (some 35) none (.q (.ext (.t 26) 1))
  (.op (some 8) none (.q (.mov (.t 34)))
  (.op (some 9) none (.q (.mov (.t 35)))
  (.op (some 36) none (.q (.load (some 2) (.t 3)))
  (.op (some 37) none (.e (.call (.f 21) [.t 36]))
  (.op (some 10) none (.l (.alloc 36 [.nils, .nils]))
  (.op none none (.e (.store 2 (.t 10) (.t 37)))
  (.op (some 38) none (.q (.mov (.t 1)))
  (.op (some 39) none (.e (.call (.f 29) [.t 38]))
  (.op (some 11) none (.q (.mov (.t 39)))
  (.op (some 40) none (.q (.mov (.t 2)))
  (.op (some 41) none (.e (.call (.f 29) [.t 40]))
  (.op (some 12) none (.q (.mov (.t 41)))
  (.op (some 43) none (.q (.load (some 2) (.t 10)))
  (.op (some 44) none (.q (.mov (.t 11)))
  (.op (some 45) none (.q (.mov (.t 12)))
  (.op (some 46) none (.e (.call (.f 40) [.t 43, .t 44, .t 45]))
  (.op (some 42) none (.q (.mov (.t 46)))
  (.op (some 47) none (.q (.ext (.t 42) 0))
  (.op (some 48) none (.q (.ext (.t 42) 1))
  (.op (some 13) none (.q (.mov (.t 47)))
  (.op (some 14) none (.q (.mov (.t 48)))
  (.op (some 49) none (.q (.mov (.t 13)))
  (.op (some 50) none (.q (.mov (.t 8)))
  (.op (some 51) none (.q (.bin .neq (.t 49) (.t 50)))
  (.op (some 52) none (.q (.mov (.t 51)))
  (.op (some 53) (some (52, false)) (.q (.mov (.t 14)))
  (.op (some 54) (some (52, false)) (.q (.mov (.t 9)))
  (.op (some 55) (some (52, false)) (.q (.beq true (.t 53) (.t 54)))
  (.op (some 56) none (.q (.pick (.t 52) (.k (.bool true)) (.t 55)))
  (.cond (.t 56)
  (.op (some 6) none (.q (.mov (.k (.bool false))))
  (.ret))
  (.done)
  (.draws [⟨0, true, [], (some 57), none, .q (.load (some 2) (.t 10))⟩,
    ⟨1, false, [], (some 58), none, .q (.load (some 2) (.t 3))⟩,
    ⟨2, false, [], (some 59), none, .e (.call (.f 21) [.t 58])⟩,
    ⟨3, false, [], (some 60), none, .e (.call (.f 24) [.t 57, .t 59])⟩,
    ⟨4, false, [], (some 61), none, .q (.not (.t 60))⟩] (.cond (.t 61)
  (.op (some 6) none (.q (.mov (.k (.bool false))))
  (.ret))
  (.done)
  (.op (some 62) none (.q (.mov (.t 11)))
  (.op (some 63) none (.q (.mov (.t 1)))
  (.op (some 64) none (.e (.call (.f 29) [.t 63]))
  (.op (some 65) none (.e (.call (.f 31) [.t 62, .t 64]))
  (.op (some 66) none (.q (.not (.t 65)))
  (.cond (.t 66)
  (.op (some 6) none (.q (.mov (.k (.bool false))))
  (.ret))
  (.done)
  (.op (some 67) none (.q (.mov (.t 12)))
  (.op (some 68) none (.q (.mov (.t 2)))
  (.op (some 69) none (.e (.call (.f 29) [.t 68]))
  (.op (some 70) none (.e (.call (.f 31) [.t 67, .t 69]))
  (.op (some 71) none (.q (.not (.t 70)))
  (.cond (.t 71)
  (.op (some 6) none (.q (.mov (.k (.bool false))))
  (.ret))
  (.done)
  (.op (some 6) none (.q (.mov (.k (.bool true))))
  (.ret)))))))))))))))))))))))))))))))))))))))))))))))))))))))))))))))))))))))))
def o8 : Nat → List Nat := fun i => if i = 16 then [0, 1, 2, 3, 4] else []
set_option maxRecDepth 100000 in
theorem t8 : (Try.f8.body.map fun c => tr Try.prog o8 Try.f8.ntmps c .done) = some c8 := by kernel_rfl
theorem r8 : trR Try.prog Try.f8.results.toList = some [.t 6] := by kernel_rfl
theorem in8 {w0 : World} {args : List AV} {H : Hp} {Q : AV → Hp → Prop} (h : W Try.prog w0 c8 (retQ [.t 6] Q) (env0 args) H) : ACalls Try.prog w0 8 args H Q :=
  ACalls.intro2 mixed Try.func8 rfl t8 r8 h

/-- laws.FnExactIsTrue -/
def c9 : CC :=
  .op (some 2) none (.l (.box 33 (.t 0)))
  (.op (some 4) none (.q (.mov (.k (.bool false))))
  (.op (some 10) none (.q (.mov (.t 1)))
  (.op (some 11) none (.q (.len (.t 10)))
  (.op (some 12) none (.q (.bin .gtr (.t 11) (.k (.int .i64 1048576))))
  (.cond (.t 12)
  (.op (some 4) none (.q (.mov (.k (.bool true))))
  (.ret))
  (.done)
  (.op (some 5) none (.q (.mov (.k (.int .i64 1048576))))
  (.op (some 13) none (.q (.load (some 2) (.t 2)))
  (.op (some 14) none (.q (.mov (.t 5)))
  (.op (some 15) none (.e (.call (.f 19) [.t 13, .t 14]))
  (.op (some 5) none (.q (.mov (.t 15)))
  (.op (some 16) none (.q (.mov (.t 5)))
  (.op (some 17) none (.q (.bin .lss (.t 16) (.k (.int .i64 0))))
  (.cond (.t 17)
  (.op (some 4) none (.q (.mov (.k (.bool true))))
  (.ret))
  (.done)
  (.op (some 18) none (.q (.load (some 2) (.t 2)))
  (.op (some 19) none (.e (.call (.f 21) [.t 18]))
  (.op (some 20) none (.q (.mov (.t 1)))
  (.op (some 21) none (.e (.call (.f 29) [.t 20]))
  (.op (some 22) none (.e (.call (.f 41) [.t 19, .t 21]))
  (.op (some 6) none (.q (.mov (.t 22)))
  (.op (some 23) none (.q (.load (some 2) (.t 2)))
  (.op (some 24) none (.e (.call (.f 21) [.t 23]))
  (.op (some 7) none (.l (.alloc 36 [.nils, .nils]))
  (.op none none (.e (.store 2 (.t 7) (.t 24)))
  (.op (some 25) none (.q (.mov (.t 1)))
  (.op (some 26) none (.e (.call (.f 29) [.t 25]))
  (.op (some 8) none (.q (.mov (.t 26)))
  (.op (some 27) none (.q (.load (some 2) (.t 7)))
  (.op (some 28) none (.q (.mov (.t 8)))
  (.op (some 29) none (.e (.call (.f 42) [.t 27, .t 28]))
  (.op (some 9) none (.q (.mov (.t 29)))
  (.op (some 30) none (.q (.mov (.t 9)))
  (.op (some 31) none (.q (.mov (.t 6)))
  (.op (some 32) none (.q (.beq true (.t 30) (.t 31)))
  (.cond (.t 32)
  (.op (some 4) none (.q (.mov (.k (.bool false))))
  (.ret))
  (.done)
  (.draws [⟨0, true, [], (some 33), none, .q (.load (some 2) (.t 7))⟩,
    ⟨1, false, [], (some 34), none, .q (.load (some 2) (.t 2))⟩,
    ⟨2, false, [], (some 35), none, .e (.call (.f 21) [.t 34])⟩,
    ⟨3, false, [], (some 36), none, .e (.call (.f 24) [.t 33, .t 35])⟩,
    ⟨4, false, [], (some 37), none, .q (.not (.t 36))⟩] (.cond (.t 37)
  (.op (some 4) none (.q (.mov (.k (.bool false))))
  (.ret))
  (.done)
  (.op (some 38) none (.q (.mov (.t 8)))
  (.op (some 39) none (.q (.mov (.t 1)))
  (.op (some 40) none (.e (.call (.f 29) [.t 39]))
  (.op (some 41) none (.e (.call (.f 31) [.t 38, .t 40]))
  (.op (some 42) none (.q (.not (.t 41)))
  (.cond (.t 42)
  (.op (some 4) none (.q (.mov (.k (.bool false))))
  (.ret))
  (.done)
  (.op (some 4) none (.q (.mov (.k (.bool true))))
  (.ret))))))))))))))))))))))))))))))))))))))))))))
def o9 : Nat → List Nat := fun i => if i = 13 then [0, 1, 2, 3, 4] else []
set_option maxRecDepth 100000 in
theorem t9 : (Try.f9.body.map fun c => tr Try.prog o9 Try.f9.ntmps c .done) = some c9 := by kernel_rfl
theorem r9 : trR Try.prog Try.f9.results.toList = some [.t 4] := by kernel_rfl
theorem in9 {w0 : World} {args : List AV} {H : Hp} {Q : AV → Hp → Prop} (h : W Try.prog w0 c9 (retQ [.t 4] Q) (env0 args) H) : ACalls Try.prog w0 9 args H Q :=
  ACalls.intro2 mixed Try.func9 rfl t9 r9 h

/-- laws.FnIsNucleus -/
def c10 : CC :=
  .op (some 2) none (.q (.mov (.k (.bool false))))
  (.op (some 9) none (.q (.mov (.t 0)))
  (.op (some 10) none (.q (.len (.t 9)))
  (.op (some 11) none (.q (.bin .gtr (.t 10) (.k (.int .i64 1048576))))
  (.cond (.t 11)
  (.op (some 2) none (.q (.mov (.k (.bool true))))
  (.ret))
  (.done)
  (.op (some 13) none (.q (.mov (.t 0)))
  (.op (some 14) none (.e (.call (.f 43) [.t 13]))
  (.op (some 12) none (.q (.mov (.t 14)))
  (.op (some 15) none (.q (.ext (.t 12) 0))
  (.op (some 16) none (.q (.ext (.t 12) 1))
  (.op (some 3) none (.l (.alloc 36 [.nils, .nils]))
  (.op none none (.e (.store 2 (.t 3) (.t 15)))
  (.op (some 4) none (.q (.mov (.t 16)))
  (.op (some 17) none (.q (.load (some 2) (.t 3)))
  (.op (some 18) none (.q (.mov (.t 4)))
  (.op (some 19) none (.e (.call (.f 44) [.t 17, .t 18]))
  (.op (some 5) none (.q (.mov (.t 19)))
  (.op (some 20) none (.q (.mov (.t 5)))
  (.op (some 21) none (.q (.load (some 2) (.t 3)))
  (.op (some 22) none (.q (.mov (.t 4)))
  (.op (some 23) none (.e (.call (.f 45) [.t 21, .t 22]))
  (.op (some 24) none (.q (.beq true (.t 20) (.t 23)))
  (.op (some 25) none (.q (.mov (.t 24)))
  (.op (some 26) (some (25, false)) (.q (.mov (.t 5)))
  (.op (some 27) (some (25, false)) (.q (.not (.t 26)))
  (.op (some 28) none (.q (.pick (.t 25) (.k (.bool true)) (.t 27)))
  (.cond (.t 28)
  (.op (some 29) none (.q (.mov (.t 5)))
  (.op (some 30) none (.q (.load (some 2) (.t 3)))
  (.op (some 31) none (.q (.mov (.t 4)))
  (.op (some 32) none (.e (.call (.f 45) [.t 30, .t 31]))
  (.op (some 33) none (.q (.beq false (.t 29) (.t 32)))
  (.op (some 2) none (.q (.mov (.t 33)))
  (.ret)))))))
  (.done)
  (.op (some 6) none (.q (.mov (.k (.int .i64 0))))
  (.block 0
  (.loop
  (.op (some 34) none (.q (.mov (.t 6)))
  (.op (some 35) none (.q (.mov (.t 4)))
  (.op (some 36) none (.q (.len (.t 35)))
  (.op (some 37) none (.q (.bin .lss (.t 34) (.t 36)))
  (.cond (.t 37)
  (.done)
  (.exit 0)
  (.block 1
  (.op (some 7) none (.q (.mov (.k (.int .i64 0))))
  (.block 2
  (.loop
  (.op (some 40) none (.q (.mov (.t 7)))
  (.op (some 41) none (.q (.mov (.t 4)))
  (.op (some 42) none (.q (.len (.t 41)))
  (.op (some 43) none (.q (.bin .lss (.t 40) (.t 42)))
  (.cond (.t 43)
  (.done)
  (.exit 2)
  (.block 3
  (.op (some 46) none (.q (.load (some 2) (.t 3)))
  (.op (some 47) none (.q (.mov (.t 6)))
  (.op (some 48) none (.q (.mov (.t 7)))
  (.op (some 49) none (.e (.call (.f 46) [.t 46, .t 47, .t 48]))
  (.op (some 8) none (.q (.mov (.t 49)))
  (.op (some 50) none (.q (.mov (.t 4)))
  (.op (some 51) none (.q (.mov (.t 7)))
  (.op (some 52) none (.q (.idx 1 (.t 50) (.t 51)))
  (.op (some 53) none (.q (.load none (.t 52)))
  (.op (some 54) none (.q (.mov (.t 7)))
  (.op (some 55) none (.q (.bin .eql (.t 53) (.t 54)))
  (.op (some 56) none (.q (.mov (.t 55)))
  (.op (some 57) (some (56, true)) (.q (.mov (.t 4)))
  (.op (some 58) (some (56, true)) (.q (.mov (.t 8)))
  (.op (some 59) (some (56, true)) (.q (.idx 1 (.t 57) (.t 58)))
  (.op (some 60) (some (56, true)) (.q (.load none (.t 59)))
  (.op (some 61) (some (56, true)) (.q (.mov (.t 8)))
  (.op (some 62) (some (56, true)) (.q (.bin .neq (.t 60) (.t 61)))
  (.op (some 63) none (.q (.pick (.t 56) (.t 62) (.k (.bool false))))
  (.cond (.t 63)
  (.op (some 2) none (.q (.mov (.k (.bool false))))
  (.ret))
  (.done)
  (.done)))))))))))))))))))))
  (.op (some 44) none (.q (.mov (.t 7)))
  (.op (some 45) none (.q (.bin .add (.t 44) (.k (.int .i64 1))))
  (.op (some 7) none (.q (.mov (.t 45)))
  (.done)))))))))))
  (.done)))
  (.op (some 38) none (.q (.mov (.t 6)))
  (.op (some 39) none (.q (.bin .add (.t 38) (.k (.int .i64 1))))
  (.op (some 6) none (.q (.mov (.t 39)))
  (.done)))))))))))
  (.op (some 2) none (.q (.mov (.k (.bool true))))
  (.ret))))))))))))))))))))))))))))))
def o10 : Nat → List Nat := fun _ => []
set_option maxRecDepth 100000 in
theorem t10 : (Try.f10.body.map fun c => tr Try.prog o10 Try.f10.ntmps c .done) = some c10 := by kernel_rfl
theorem r10 : trR Try.prog Try.f10.results.toList = some [.t 2] := by kernel_rfl
theorem in10 {w0 : World} {args : List AV} {H : Hp} {Q : AV → Hp → Prop} (h : W Try.prog w0 c10 (retQ [.t 2] Q) (env0 args) H) : ACalls Try.prog w0 10 args H Q :=
  ACalls.intro2 mixed Try.func10 rfl t10 r10 h

/-- laws.FnExactSizesOf -/
def c11 : CC :=
  .op (some 1) none (.l (.box 33 (.t 0)))
  (.op (some 2) none (.q (.mov (.k (.bool false))))
  (.op (some 3) none (.q (.mov (.k (.int .i64 1048576))))
  (.op (some 14) none (.q (.load (some 2) (.t 1)))
  (.op (some 15) none (.q (.mov (.t 3)))
  (.op (some 16) none (.e (.call (.f 19) [.t 14, .t 15]))
  (.op (some 3) none (.q (.mov (.t 16)))
  (.op (some 17) none (.q (.mov (.t 3)))
  (.op (some 18) none (.q (.bin .lss (.t 17) (.k (.int .i64 0))))
  (.cond (.t 18)
  (.op (some 2) none (.q (.mov (.k (.bool true))))
  (.ret))
  (.done)
  (.op (some 20) none (.q (.load (some 2) (.t 1)))
  (.op (some 21) none (.e (.call (.f 21) [.t 20]))
  (.op (some 22) none (.e (.call (.f 47) [.t 21]))
  (.op (some 19) none (.q (.mov (.t 22)))
  (.op (some 23) none (.q (.ext (.t 19) 0))
  (.op (some 24) none (.q (.ext (.t 19) 1))
  (.op (some 4) none (.q (.mov (.t 23)))
  (.op (some 5) none (.q (.mov (.t 24)))
  (.op (some 25) none (.q (.load (some 2) (.t 1)))
  (.op (some 26) none (.e (.call (.f 21) [.t 25]))
  (.op (some 6) none (.l (.alloc 36 [.nils, .nils]))
  (.op none none (.e (.store 2 (.t 6) (.t 26)))
  (.op (some 28) none (.q (.load (some 2) (.t 6)))
  (.op (some 29) none (.e (.call (.f 48) [.t 28]))
  (.op (some 27) none (.q (.mov (.t 29)))
  (.op (some 30) none (.q (.ext (.t 27) 0))
  (.op (some 31) none (.q (.ext (.t 27) 1))
  (.op (some 7) none (.q (.mov (.t 30)))
  (.op (some 8) none (.q (.mov (.t 31)))
  (.op (some 32) none (.q (.mov (.t 7)))
  (.op (some 33) none (.q (.mov (.t 4)))
  (.op (some 34) none (.e (.call (.f 31) [.t 32, .t 33]))
  (.op (some 35) none (.q (.not (.t 34)))
  (.op (some 36) none (.q (.mov (.t 35)))
  (.op (some 37) (some (36, false)) (.q (.mov (.t 8)))
  (.op (some 38) (some (36, false)) (.q (.mov (.t 5)))
  (.op (some 39) (some (36, false)) (.q (.beq true (.t 37) (.t 38)))
  (.op (some 40) none (.q (.pick (.t 36) (.k (.bool true)) (.t 39)))
  (.cond (.t 40)
  (.op (some 2) none (.q (.mov (.k (.bool false))))
  (.ret))
  (.done)
  (.draws [⟨0, true, [], (some 41), none, .q (.load (some 2) (.t 6))⟩,
    ⟨1, false, [], (some 42), none, .q (.load (some 2) (.t 1))⟩,
    ⟨2, false, [], (some 43), none, .e (.call (.f 21) [.t 42])⟩,
    ⟨3, false, [], (some 44), none, .e (.call (.f 24) [.t 41, .t 43])⟩,
    ⟨4, false, [], (some 45), none, .q (.not (.t 44))⟩] (.cond (.t 45)
  (.op (some 2) none (.q (.mov (.k (.bool false))))
  (.ret))
  (.done)
  (.op (some 9) none (.q (.mov (.k (.int .i64 1))))
  (.op (some 46) none (.q (.load (some 2) (.t 6)))
  (.op (some 47) none (.q (.mov (.t 9)))
  (.op (some 48) none (.e (.call (.f 25) [.t 46, .t 47]))
  (.op (some 9) none (.q (.mov (.t 48)))
  (.op (some 49) none (.q (.mov (.t 9)))
  (.op (some 50) none (.q (.bin .lss (.t 49) (.k (.int .i64 0))))
  (.op (some 51) none (.q (.mov (.t 50)))
  (.op (some 52) (some (51, false)) (.q (.mov (.t 7)))
  (.op (some 53) (some (51, false)) (.q (.mov (.t 4)))
  (.op (some 54) (some (51, false)) (.e (.call (.f 31) [.t 52, .t 53]))
  (.op (some 55) (some (51, false)) (.q (.not (.t 54)))
  (.op (some 56) none (.q (.pick (.t 51) (.k (.bool true)) (.t 55)))
  (.op (some 57) none (.q (.mov (.t 56)))
  (.op (some 58) (some (57, false)) (.q (.mov (.t 8)))
  (.op (some 59) (some (57, false)) (.q (.mov (.t 5)))
  (.op (some 60) (some (57, false)) (.q (.beq true (.t 58) (.t 59)))
  (.op (some 61) none (.q (.pick (.t 57) (.k (.bool true)) (.t 60)))
  (.cond (.t 61)
  (.op (some 2) none (.q (.mov (.k (.bool false))))
  (.ret))
  (.done)
  (.op (some 10) none (.q (.mov (.k (.int .i64 1))))
  (.op (some 62) none (.q (.mov (.t 7)))
  (.op (some 63) none (.q (.mov (.t 10)))
  (.op (some 64) none (.e (.call (.f 34) [.t 62, .t 63]))
  (.op (some 10) none (.q (.mov (.t 64)))
  (.op (some 11) none (.q (.mov (.k (.int .i64 1))))
  (.op (some 65) none (.q (.mov (.t 7)))
  (.op (some 66) none (.q (.mov (.t 11)))
  (.op (some 67) none (.e (.call (.f 35) [.t 65, .t 66]))
  (.op (some 11) none (.q (.mov (.t 67)))
  (.op (some 68) none (.q (.mov (.t 11)))
  (.op (some 69) none (.q (.bin .lss (.t 68) (.k (.int .i64 0))))
  (.cond (.t 69)
  (.op (some 2) none (.q (.mov (.k (.bool false))))
  (.ret))
  (.done)
  (.op (some 70) none (.q (.mov (.t 11)))
  (.op (some 71) none (.q (.mov (.t 10)))
  (.op (some 72) none (.q (.bin .neq (.t 70) (.t 71)))
  (.cond (.t 72)
  (.op (some 2) none (.q (.mov (.k (.bool false))))
  (.ret))
  (.done)
  (.op (some 74) none (.q (.load (some 2) (.t 1)))
  (.op (some 75) none (.e (.call (.f 21) [.t 74]))
  (.op (some 76) none (.e (.call (.f 48) [.t 75]))
  (.op (some 73) none (.q (.mov (.t 76)))
  (.op (some 77) none (.q (.ext (.t 73) 0))
  (.op (some 78) none (.q (.ext (.t 73) 1))
  (.op (some 12) none (.q (.mov (.t 77)))
  (.op (some 13) none (.q (.mov (.t 78)))
  (.op (some 79) none (.q (.mov (.t 12)))
  (.op (some 80) none (.q (.mov (.t 4)))
  (.op (some 81) none (.e (.call (.f 31) [.t 79, .t 80]))
  (.op (some 82) none (.q (.not (.t 81)))
  (.op (some 83) none (.q (.mov (.t 82)))
  (.op (some 84) (some (83, false)) (.q (.mov (.t 13)))
  (.op (some 85) (some (83, false)) (.q (.mov (.t 5)))
  (.op (some 86) (some (83, false)) (.q (.beq true (.t 84) (.t 85)))
  (.op (some 87) none (.q (.pick (.t 83) (.k (.bool true)) (.t 86)))
  (.cond (.t 87)
  (.op (some 2) none (.q (.mov (.k (.bool false))))
  (.ret))
  (.done)
  (.op (some 11) none (.q (.mov (.k (.int .i64 1))))
  (.op (some 88) none (.q (.mov (.t 7)))
  (.op (some 89) none (.q (.mov (.t 11)))
  (.op (some 90) none (.e (.call (.f 35) [.t 88, .t 89]))
  (.op (some 11) none (.q (.mov (.t 90)))
  (.op (some 91) none (.q (.mov (.t 11)))
  (.op (some 92) none (.q (.bin .lss (.t 91) (.k (.int .i64 0))))
  (.cond (.t 92)
  (.op (some 2) none (.q (.mov (.k (.bool false))))
  (.ret))
  (.done)
  (.op (some 93) none (.q (.mov (.t 11)))
  (.op (some 94) none (.q (.mov (.t 10)))
  (.op (some 95) none (.q (.bin .neq (.t 93) (.t 94)))
  (.cond (.t 95)
  (.op (some 2) none (.q (.mov (.k (.bool false))))
  (.ret))
  (.done)
  (.op (some 2) none (.q (.mov (.k (.bool true))))
  (.ret))))))))))))))))))))))))))))))))))))))))))))))))))))))))))))))))))))))))))))))))))))))))))))))))))))))))))))
def o11 : Nat → List Nat := fun i => if i = 10 then [0, 1, 2, 3, 4] else []
set_option maxRecDepth 100000 in
theorem t11 : (Try.f11.body.map fun c => tr Try.prog o11 Try.f11.ntmps c .done) = some c11 := by kernel_rfl
theorem r11 : trR Try.prog Try.f11.results.toList = some [.t 2] := by kernel_rfl
theorem in11 {w0 : World} {args : List AV} {H : Hp} {Q : AV → Hp → Prop} (h : W Try.prog w0 c11 (retQ [.t 2] Q) (env0 args) H) : ACalls Try.prog w0 11 args H Q :=
  ACalls.intro2 mixed Try.func11 rfl t11 r11 h

/-- laws.FnPartsOf -/
def c12 : CC :=
  .op (some 2) none (.q (.mov (.k (.bool false))))
  (.op (some 8) none (.q (.mov (.t 0)))
  (.op (some 9) none (.q (.len (.t 8)))
  (.op (some 10) none (.q (.bin .gtr (.t 9) (.k (.int .i64 1048576))))
  (.cond (.t 10)
  (.op (some 2) none (.q (.mov (.k (.bool true))))
  (.ret))
  (.done)
  (.op (some 11) none (.q (.mov (.t 0)))
  (.op (some 12) none (.e (.call (.f 49) [.t 11]))
  (.op (some 3) none (.l (.alloc 36 [.nils, .nils]))
  (.op none none (.e (.store 2 (.t 3) (.t 12)))
  (.op (some 13) none (.q (.load (some 2) (.t 3)))
  (.op (some 14) none (.e (.call (.f 50) [.t 13]))
  (.op (some 4) none (.q (.mov (.t 14)))
  (.op (some 15) none (.q (.mov (.t 4)))
  (.op (some 16) none (.q (.load (some 2) (.t 3)))
  (.op (some 17) none (.e (.call (.f 52) [.t 16]))
  (.op (some 18) none (.e (.call (.f 51) [.t 15, .t 17]))
  (.op (some 19) none (.q (.not (.t 18)))
  (.op (some 20) none (.q (.mov (.t 19)))
  (.op (some 21) (some (20, false)) (.q (.load (some 2) (.t 3)))
  (.op (some 22) (some (20, false)) (.e (.call (.f 53) [.t 21]))
  (.op (some 23) (some (20, false)) (.q (.not (.t 22)))
  (.op (some 24) none (.q (.pick (.t 20) (.k (.bool true)) (.t 23)))
  (.cond (.t 24)
  (.op (some 25) none (.q (.mov (.t 4)))
  (.op (some 26) none (.q (.load (some 2) (.t 3)))
  (.op (some 27) none (.e (.call (.f 52) [.t 26]))
  (.op (some 28) none (.e (.call (.f 51) [.t 25, .t 27]))
  (.op (some 2) none (.q (.mov (.t 28)))
  (.ret))))))
  (.done)
  (.op (some 29) none (.q (.fld 0 (.t 3)))
  (.op (some 30) none (.q (.load none (.t 29)))
  (.op (some 31) none (.q (.len (.t 30)))
  (.op (some 5) none (.q (.mov (.t 31)))
  (.op (some 6) none (.q (.mov (.k (.int .i64 0))))
  (.block 0
  (.loop
  (.op (some 32) none (.q (.mov (.t 6)))
  (.op (some 33) none (.q (.mov (.t 4)))
  (.op (some 34) none (.q (.len (.t 33)))
  (.op (some 35) none (.q (.bin .lss (.t 32) (.t 34)))
  (.cond (.t 35)
  (.done)
  (.exit 0)
  (.block 1
  (.op (some 7) none (.q (.mov (.k (.int .i64 0))))
  (.block 2
  (.loop
  (.op (some 38) none (.q (.mov (.t 7)))
  (.op (some 39) none (.q (.mov (.t 6)))
  (.op (some 40) none (.q (.bin .lss (.t 38) (.t 39)))
  (.cond (.t 40)
  (.done)
  (.exit 2)
  (.block 3
  (.draws [⟨0, false, [], (some 43), none, .q (.mov (.t 4))⟩,
    ⟨1, false, [], (some 44), none, .q (.mov (.t 4))⟩,
    ⟨2, false, [], (some 45), none, .q (.mov (.t 6))⟩,
    ⟨3, false, [], (some 46), none, .q (.idx 1 (.t 44) (.t 45))⟩,
    ⟨4, false, [], (some 47), none, .q (.load none (.t 46))⟩,
    ⟨5, false, [], (some 48), none, .q (.mov (.t 4))⟩,
    ⟨6, false, [], (some 49), none, .q (.mov (.t 7))⟩,
    ⟨7, false, [], (some 50), none, .q (.idx 1 (.t 48) (.t 49))⟩,
    ⟨8, false, [], (some 51), none, .q (.load none (.t 50))⟩,
    ⟨9, false, [], (some 52), none, .q (.bin .and (.t 47) (.t 51))⟩,
    ⟨10, false, [], (some 53), none, .e (.call (.f 54) [.t 43, .t 52])⟩,
    ⟨11, false, [], (some 54), none, .q (.not (.t 53))⟩] (.cond (.t 54)
  (.op (some 2) none (.q (.mov (.k (.bool false))))
  (.ret))
  (.done)
  (.done)))
  (.op (some 41) none (.q (.mov (.t 7)))
  (.op (some 42) none (.q (.bin .add (.t 41) (.k (.int .i64 1))))
  (.op (some 7) none (.q (.mov (.t 42)))
  (.done))))))))))
  (.done)))
  (.op (some 36) none (.q (.mov (.t 6)))
  (.op (some 37) none (.q (.bin .add (.t 36) (.k (.int .i64 1))))
  (.op (some 6) none (.q (.mov (.t 37)))
  (.done)))))))))))
  (.op (some 55) none (.q (.mov (.t 4)))
  (.op (some 56) none (.e (.call (.f 55) [.t 55]))
  (.op (some 57) none (.q (.mov (.t 56)))
  (.op (some 58) (some (57, true)) (.q (.mov (.t 4)))
  (.op (some 59) (some (57, true)) (.q (.mov (.t 5)))
  (.op (some 60) (some (57, true)) (.q (.bin .sub (.t 59) (.k (.int .i64 1))))
  (.op (some 61) (some (57, true)) (.e (.call (.f 18) [.t 60]))
  (.op (some 62) (some (57, true)) (.q (.bin .or (.k (.int .i64 1)) (.t 61)))
  (.op (some 63) (some (57, true)) (.e (.call (.f 54) [.t 58, .t 62]))
  (.op (some 64) none (.q (.pick (.t 57) (.t 63) (.k (.bool false))))
  (.op (some 65) none (.q (.mov (.t 64)))
  (.op (some 66) (some (65, true)) (.q (.mov (.t 4)))
  (.op (some 67) (some (65, true)) (.q (.mov (.t 5)))
  (.op (some 68) (some (65, true)) (.e (.call (.f 18) [.t 67]))
  (.op (some 69) (some (65, true)) (.q (.bin .sub (.t 68) (.k (.int .i64 1))))
  (.op (some 70) (some (65, true)) (.e (.call (.f 54) [.t 66, .t 69]))
  (.op (some 71) none (.q (.pick (.t 65) (.t 70) (.k (.bool false))))
  (.op (some 2) none (.q (.mov (.t 71)))
  (.ret)))))))))))))))))))))))))))))))))))))))))))))))
def o12 : Nat → List Nat := fun i => if i = 14 then [0, 1, 2, 3, 4, 5, 6, 7, 8, 9, 10, 11] else []
set_option maxRecDepth 100000 in
theorem t12 : (Try.f12.body.map fun c => tr Try.prog o12 Try.f12.ntmps c .done) = some c12 := by kernel_rfl
theorem r12 : trR Try.prog Try.f12.results.toList = some [.t 2] := by kernel_rfl
theorem in12 {w0 : World} {args : List AV} {H : Hp} {Q : AV → Hp → Prop} (h : W Try.prog w0 c12 (retQ [.t 2] Q) (env0 args) H) : ACalls Try.prog w0 12 args H Q :=
  ACalls.intro2 mixed Try.func12 rfl t12 r12 h

/-- laws.FnExactRefuteTerm -/
def c13 : CC :=
  .op (some 2) none (.l (.box 33 (.t 0)))
  (.op (some 4) none (.q (.mov (.k (.bool false))))
  (.op (some 17) none (.q (.mov (.t 1)))
  (.op (some 18) none (.q (.len (.t 17)))
  (.op (some 19) none (.q (.bin .gtr (.t 18) (.k (.int .i64 1048576))))
  (.cond (.t 19)
  (.op (some 4) none (.q (.mov (.k (.bool true))))
  (.ret))
  (.done)
  (.op (some 5) none (.q (.mov (.k (.int .i64 1048576))))
  (.op (some 20) none (.q (.load (some 2) (.t 2)))
  (.op (some 21) none (.q (.mov (.t 5)))
  (.op (some 22) none (.e (.call (.f 19) [.t 20, .t 21]))
  (.op (some 5) none (.q (.mov (.t 22)))
  (.op (some 23) none (.q (.mov (.t 5)))
  (.op (some 24) none (.q (.bin .lss (.t 23) (.k (.int .i64 0))))
  (.cond (.t 24)
  (.op (some 4) none (.q (.mov (.k (.bool true))))
  (.ret))
  (.done)
  (.op (some 26) none (.q (.load (some 2) (.t 2)))
  (.op (some 27) none (.e (.call (.f 21) [.t 26]))
  (.op (some 28) none (.q (.mov (.t 1)))
  (.op (some 29) none (.e (.call (.f 29) [.t 28]))
  (.op (some 30) none (.e (.call (.f 56) [.t 27, .t 29]))
  (.op (some 25) none (.q (.mov (.t 30)))
  (.op (some 31) none (.q (.ext (.t 25) 0))
  (.op (some 32) none (.q (.ext (.t 25) 1))
  (.op (some 6) none (.q (.mov (.t 31)))
  (.op (some 7) none (.q (.mov (.t 32)))
  (.op (some 33) none (.q (.load (some 2) (.t 2)))
  (.op (some 34) none (.e (.call (.f 21) [.t 33]))
  (.op (some 8) none (.l (.alloc 36 [.nils, .nils]))
  (.op none none (.e (.store 2 (.t 8) (.t 34)))
  (.op (some 35) none (.q (.mov (.t 1)))
  (.op (some 36) none (.e (.call (.f 29) [.t 35]))
  (.op (some 9) none (.q (.mov (.t 36)))
  (.op (some 38) none (.q (.load (some 2) (.t 8)))
  (.op (some 39) none (.q (.mov (.t 9)))
  (.op (some 40) none (.e (.call (.f 57) [.t 38, .t 39]))
  (.op (some 37) none (.q (.mov (.t 40)))
  (.op (some 41) none (.q (.ext (.t 37) 0))
  (.op (some 42) none (.q (.ext (.t 37) 1))
  (.op (some 10) none (.q (.mov (.t 41)))
  (.op (some 11) none (.q (.mov (.t 42)))
  (.op (some 43) none (.q (.mov (.t 10)))
  (.op (some 44) none (.q (.mov (.t 6)))
  (.op (some 45) none (.e (.call (.f 31) [.t 43, .t 44]))
  (.op (some 46) none (.q (.not (.t 45)))
  (.op (some 47) none (.q (.mov (.t 46)))
  (.op (some 48) (some (47, false)) (.q (.mov (.t 11)))
  (.op (some 49) (some (47, false)) (.q (.mov (.t 7)))
  (.op (some 50) (some (47, false)) (.q (.beq true (.t 48) (.t 49)))
  (.op (some 51) none (.q (.pick (.t 47) (.k (.bool true)) (.t 50)))
  (.cond (.t 51)
  (.op (some 4) none (.q (.mov (.k (.bool false))))
  (.ret))
  (.done)
  (.draws [⟨0, true, [], (some 52), none, .q (.load (some 2) (.t 8))⟩,
    ⟨1, false, [], (some 53), none, .q (.load (some 2) (.t 2))⟩,
    ⟨2, false, [], (some 54), none, .e (.call (.f 21) [.t 53])⟩,
    ⟨3, false, [], (some 55), none, .e (.call (.f 24) [.t 52, .t 54])⟩,
    ⟨4, false, [], (some 56), none, .q (.not (.t 55))⟩] (.cond (.t 56)
  (.op (some 4) none (.q (.mov (.k (.bool false))))
  (.ret))
  (.done)
  (.op (some 57) none (.q (.mov (.t 9)))
  (.op (some 58) none (.q (.mov (.t 1)))
  (.op (some 59) none (.e (.call (.f 29) [.t 58]))
  (.op (some 60) none (.e (.call (.f 31) [.t 57, .t 59]))
  (.op (some 61) none (.q (.not (.t 60)))
  (.cond (.t 61)
  (.op (some 4) none (.q (.mov (.k (.bool false))))
  (.ret))
  (.done)
  (.op (some 12) none (.q (.mov (.k (.int .i64 1))))
  (.op (some 62) none (.q (.load (some 2) (.t 8)))
  (.op (some 63) none (.q (.mov (.t 12)))
  (.op (some 64) none (.e (.call (.f 25) [.t 62, .t 63]))
  (.op (some 12) none (.q (.mov (.t 64)))
  (.op (some 65) none (.q (.mov (.t 9)))
  (.op (some 66) none (.q (.mov (.t 12)))
  (.op (some 67) none (.e (.call (.f 34) [.t 65, .t 66]))
  (.op (some 12) none (.q (.mov (.t 67)))
  (.op (some 68) none (.q (.mov (.t 12)))
  (.op (some 69) none (.q (.bin .lss (.t 68) (.k (.int .i64 0))))
  (.op (some 70) none (.q (.mov (.t 69)))
  (.op (some 71) (some (70, false)) (.q (.mov (.t 10)))
  (.op (some 72) (some (70, false)) (.q (.mov (.t 6)))
  (.op (some 73) (some (70, false)) (.e (.call (.f 31) [.t 71, .t 72]))
  (.op (some 74) (some (70, false)) (.q (.not (.t 73)))
  (.op (some 75) none (.q (.pick (.t 70) (.k (.bool true)) (.t 74)))
  (.op (some 76) none (.q (.mov (.t 75)))
  (.op (some 77) (some (76, false)) (.q (.mov (.t 11)))
  (.op (some 78) (some (76, false)) (.q (.mov (.t 7)))
  (.op (some 79) (some (76, false)) (.q (.beq true (.t 77) (.t 78)))
  (.op (some 80) none (.q (.pick (.t 76) (.k (.bool true)) (.t 79)))
  (.cond (.t 80)
  (.op (some 4) none (.q (.mov (.k (.bool false))))
  (.ret))
  (.done)
  (.op (some 13) none (.q (.mov (.k (.int .i64 1))))
  (.op (some 81) none (.q (.mov (.t 10)))
  (.op (some 82) none (.q (.mov (.t 13)))
  (.op (some 83) none (.e (.call (.f 34) [.t 81, .t 82]))
  (.op (some 13) none (.q (.mov (.t 83)))
  (.op (some 14) none (.q (.mov (.k (.int .i64 1))))
  (.op (some 84) none (.q (.mov (.t 10)))
  (.op (some 85) none (.q (.mov (.t 14)))
  (.op (some 86) none (.e (.call (.f 35) [.t 84, .t 85]))
  (.op (some 14) none (.q (.mov (.t 86)))
  (.op (some 87) none (.q (.mov (.t 14)))
  (.op (some 88) none (.q (.bin .lss (.t 87) (.k (.int .i64 0))))
  (.cond (.t 88)
  (.op (some 4) none (.q (.mov (.k (.bool false))))
  (.ret))
  (.done)
  (.op (some 89) none (.q (.mov (.t 14)))
  (.op (some 90) none (.q (.mov (.t 13)))
  (.op (some 91) none (.q (.bin .neq (.t 89) (.t 90)))
  (.cond (.t 91)
  (.op (some 4) none (.q (.mov (.k (.bool false))))
  (.ret))
  (.done)
  (.op (some 93) none (.q (.load (some 2) (.t 2)))
  (.op (some 94) none (.e (.call (.f 21) [.t 93]))
  (.op (some 95) none (.q (.mov (.t 1)))
  (.op (some 96) none (.e (.call (.f 29) [.t 95]))
  (.op (some 97) none (.e (.call (.f 57) [.t 94, .t 96]))
  (.op (some 92) none (.q (.mov (.t 97)))
  (.op (some 98) none (.q (.ext (.t 92) 0))
  (.op (some 99) none (.q (.ext (.t 92) 1))
  (.op (some 15) none (.q (.mov (.t 98)))
  (.op (some 16) none (.q (.mov (.t 99)))
  (.op (some 100) none (.q (.mov (.t 15)))
  (.op (some 101) none (.q (.mov (.t 6)))
  (.op (some 102) none (.e (.call (.f 31) [.t 100, .t 101]))
  (.op (some 103) none (.q (.not (.t 102)))
  (.op (some 104) none (.q (.mov (.t 103)))
  (.op (some 105) (some (104, false)) (.q (.mov (.t 16)))
  (.op (some 106) (some (104, false)) (.q (.mov (.t 7)))
  (.op (some 107) (some (104, false)) (.q (.beq true (.t 105) (.t 106)))
  (.op (some 108) none (.q (.pick (.t 104) (.k (.bool true)) (.t 107)))
  (.cond (.t 108)
  (.op (some 4) none (.q (.mov (.k (.bool false))))
  (.ret))
  (.done)
  (.op (some 14) none (.q (.mov (.k (.int .i64 1))))
  (.op (some 109) none (.q (.mov (.t 10)))
  (.op (some 110) none (.q (.mov (.t 14)))
  (.op (some 111) none (.e (.call (.f 35) [.t 109, .t 110]))
  (.op (some 14) none (.q (.mov (.t 111)))
  (.op (some 112) none (.q (.mov (.t 14)))
  (.op (some 113) none (.q (.bin .lss (.t 112) (.k (.int .i64 0))))
  (.cond (.t 113)
  (.op (some 4) none (.q (.mov (.k (.bool false))))
  (.ret))
  (.done)
  (.op (some 114) none (.q (.mov (.t 14)))
  (.op (some 115) none (.q (.mov (.t 13)))
  (.op (some 116) none (.q (.bin .neq (.t 114) (.t 115)))
  (.cond (.t 116)
  (.op (some 4) none (.q (.mov (.k (.bool false))))
  (.ret))
  (.done)
  (.op (some 4) none (.q (.mov (.k (.bool true))))
  (.ret))))))))))))))))))))))))))))))))))))))))))))))))))))))))))))))))))))))))))))))))))))))))))))))))))))))))))))))))))))))))))))))))))
def o13 : Nat → List Nat := fun i => if i = 13 then [0, 1, 2, 3, 4] else []
set_option maxRecDepth 100000 in
theorem t13 : (Try.f13.body.map fun c => tr Try.prog o13 Try.f13.ntmps c .done) = some c13 := by kernel_rfl
theorem r13 : trR Try.prog Try.f13.results.toList = some [.t 4] := by kernel_rfl
theorem in13 {w0 : World} {args : List AV} {H : Hp} {Q : AV → Hp → Prop} (h : W Try.prog w0 c13 (retQ [.t 4] Q) (env0 args) H) : ACalls Try.prog w0 13 args H Q :=
  ACalls.intro2 mixed Try.func13 rfl t13 r13 h

/-- spec.DrawChainCount -/
def c14 : CC :=
  .op (some 2) none (.q (.mov (.k (.str ⟨#[]⟩))))
  (.op (some 3) none (.q (.mov (.k (.int .i64 0))))
  (.op (some 5) none (.q (.mov (.t 0)))
  (.op (some 6) none (.e (.call (.f 58) [.t 5]))
  (.op (some 4) none (.q (.mov (.t 6)))
  (.op (some 7) none (.q (.mov (.t 4)))
  (.op (some 8) none (.e (.call (.f 59) [.t 7]))
  (.op (some 9) none (.q (.mov (.t 4)))
  (.op (some 10) none (.l (.bsl 3 1 [.int .i64 0] 7 [(0, .k (.int .i64 3)), (1, .k (.int .i64 4)), (2, .k (.int .i64 5)), (3, .k (.int .i64 2)), (4, .k (.int .i64 1)), (5, .k (.int .i64 0)), (6, .k (.int .i64 6))]))
  (.op (some 11) none (.e (.call (.f 60) [.t 9, .t 10]))
  (.op (some 2) none (.q (.mov (.t 8)))
  (.op (some 3) none (.q (.mov (.t 11)))
  (.ret))))))))))))
def o14 : Nat → List Nat := fun _ => []
set_option maxRecDepth 100000 in
theorem t14 : (Try.f14.body.map fun c => tr Try.prog o14 Try.f14.ntmps c .done) = some c14 := by kernel_rfl
theorem r14 : trR Try.prog Try.f14.results.toList = some [.t 2, .t 3] := by kernel_rfl
theorem in14 {w0 : World} {args : List AV} {H : Hp} {Q : AV → Hp → Prop} (h : W Try.prog w0 c14 (retQ [.t 2, .t 3] Q) (env0 args) H) : ACalls Try.prog w0 14 args H Q :=
  ACalls.intro2 mixed Try.func14 rfl t14 r14 h

/-- impl.ChainCount -/
def c15 : CC :=
  .op (some 4) none (.q (.mov (.k (.int .i64 0))))
  (.op (some 8) none (.q (.mov (.t 0)))
  (.op (some 9) none (.e (.call (.f 61) [.t 8]))
  (.op (some 10) none (.q (.not (.t 9)))
  (.op (some 11) none (.q (.mov (.t 10)))
  (.op (some 12) (some (11, false)) (.q (.mov (.t 1)))
  (.op (some 13) (some (11, false)) (.e (.call (.f 62) [.t 12, .k (.int .i64 1), .k (.int .i64 5)]))
  (.op (some 14) (some (11, false)) (.q (.not (.t 13)))
  (.op (some 15) none (.q (.pick (.t 11) (.k (.bool true)) (.t 14)))
  (.cond (.t 15)
  (.op (some 4) none (.q (.mov (.k (.int .i64 (-1)))))
  (.ret))
  (.done)
  (.op (some 5) none (.q (.mov (.k (.int .i64 0))))
  (.op (some 16) none (.q (.mov (.t 1)))
  (.op (some 17) none (.e (.call (.f 63) [.t 16]))
  (.op (some 18) none (.q (.len (.t 17)))
  (.op (some 19) none (.q (.mov (.k (.int .i64 0))))
  (.block 0
  (.loop
  (.op (some 20) none (.q (.bin .lss (.t 19) (.t 18)))
  (.cond (.t 20)
  (.done)
  (.exit 0)
  (.block 1
  (.op (some 21) none (.q (.idx 2 (.t 17) (.t 19)))
  (.op (some 22) none (.q (.load (some 2) (.t 21)))
  (.op (some 7) none (.l (.alloc 36 [.nils, .nils]))
  (.op none none (.e (.store 2 (.t 7) (.t 22)))
  (.op (some 23) none (.q (.mov (.t 0)))
  (.op (some 24) none (.q (.load (some 2) (.t 7)))
  (.op (some 25) none (.e (.call (.f 64) [.t 23, .t 24]))
  (.cond (.t 25)
  (.op (some 26) none (.q (.mov (.t 5)))
  (.op (some 27) none (.q (.bin .add (.t 26) (.k (.int .i64 1))))
  (.op (some 5) none (.q (.mov (.t 27)))
  (.done))))
  (.done)
  (.done)))))))))
  (.op (some 28) none (.q (.bin .add (.t 19) (.k (.int .i64 1))))
  (.op (some 19) none (.q (.mov (.t 28)))
  (.done)))))))
  (.op (some 29) none (.q (.mov (.t 5)))
  (.op (some 4) none (.q (.mov (.t 29)))
  (.ret))))))))))))))))))
def o15 : Nat → List Nat := fun _ => []
set_option maxRecDepth 100000 in
theorem t15 : (Try.f15.body.map fun c => tr Try.prog o15 Try.f15.ntmps c .done) = some c15 := by kernel_rfl
theorem r15 : trR Try.prog Try.f15.results.toList = some [.t 4] := by kernel_rfl
theorem in15 {w0 : World} {args : List AV} {H : Hp} {Q : AV → Hp → Prop} (h : W Try.prog w0 c15 (retQ [.t 4] Q) (env0 args) H) : ACalls Try.prog w0 15 args H Q :=
  ACalls.intro2 mixed Try.func15 rfl t15 r15 h

/-- spec.ChainCount -/
def c16 : CC :=
  .op (some 4) none (.q (.mov (.k (.int .i64 0))))
  (.op (some 13) none (.q (.mov (.t 0)))
  (.op (some 14) none (.l (.bsl 3 1 [.int .i64 0] 1 [(0, .k (.int .i64 1))]))
  (.op (some 15) none (.l (.bsl 3 1 [.int .i64 0] 1 [(0, .k (.int .i64 0))]))
  (.op (some 16) none (.l (.bsl 30 1 [.nils] 1 [(0, .t 15)]))
  (.op (some 17) none (.q (.build [.nils, .nils] [(0, .t 14), (1, .t 16)]))
  (.op (some 18) none (.e (.call (.f 65) [.t 13, .t 17]))
  (.op (some 12) none (.q (.mov (.t 18)))
  (.op (some 19) none (.q (.ext (.t 12) 0))
  (.op (some 20) none (.q (.ext (.t 12) 1))
  (.op (some 5) none (.q (.mov (.t 19)))
  (.op (some 6) none (.q (.mov (.t 20)))
  (.op (some 21) none (.q (.mov (.t 6)))
  (.op (some 22) none (.q (.not (.t 21)))
  (.op (some 23) none (.q (.mov (.t 22)))
  (.op (some 24) (some (23, false)) (.q (.mov (.t 1)))
  (.op (some 25) (some (23, false)) (.e (.call (.f 66) [.t 24, .k (.int .i64 1), .k (.int .i64 5)]))
  (.op (some 26) (some (23, false)) (.q (.not (.t 25)))
  (.op (some 27) none (.q (.pick (.t 23) (.k (.bool true)) (.t 26)))
  (.cond (.t 27)
  (.op (some 4) none (.q (.mov (.k (.int .i64 (-1)))))
  (.ret))
  (.done)
  (.op (some 7) none (.q (.mov (.k (.int .i64 0))))
  (.op (some 28) none (.q (.mov (.t 1)))
  (.op (some 29) none (.e (.call (.f 67) [.t 28]))
  (.op (some 8) none (.q (.mov (.t 29)))
  (.op (some 9) none (.q (.mov (.k (.int .i64 0))))
  (.block 0
  (.loop
  (.op (some 30) none (.q (.mov (.t 9)))
  (.op (some 31) none (.q (.mov (.t 8)))
  (.op (some 32) none (.q (.len (.t 31)))
  (.op (some 33) none (.q (.bin .lss (.t 30) (.t 32)))
  (.cond (.t 33)
  (.done)
  (.exit 0)
  (.block 1
  (.op (some 37) none (.q (.mov (.t 0)))
  (.op (some 38) none (.q (.mov (.t 8)))
  (.op (some 39) none (.q (.mov (.t 9)))
  (.op (some 40) none (.q (.idx 2 (.t 38) (.t 39)))
  (.op (some 41) none (.q (.load (some 2) (.t 40)))
  (.op (some 42) none (.e (.call (.f 65) [.t 37, .t 41]))
  (.op (some 36) none (.q (.mov (.t 42)))
  (.op (some 43) none (.q (.ext (.t 36) 0))
  (.op (some 44) none (.q (.ext (.t 36) 1))
  (.op (some 10) none (.q (.mov (.t 43)))
  (.op (some 11) none (.q (.mov (.t 44)))
  (.op (some 45) none (.q (.mov (.t 10)))
  (.cond (.t 45)
  (.op (some 46) none (.q (.mov (.t 7)))
  (.op (some 47) none (.q (.bin .add (.t 46) (.k (.int .i64 1))))
  (.op (some 7) none (.q (.mov (.t 47)))
  (.done))))
  (.done)
  (.done))))))))))))))
  (.op (some 34) none (.q (.mov (.t 9)))
  (.op (some 35) none (.q (.bin .add (.t 34) (.k (.int .i64 1))))
  (.op (some 9) none (.q (.mov (.t 35)))
  (.done)))))))))))
  (.op (some 48) none (.q (.mov (.t 7)))
  (.op (some 4) none (.q (.mov (.t 48)))
  (.ret))))))))))))))))))))))))))))
def o16 : Nat → List Nat := fun _ => []
set_option maxRecDepth 100000 in
theorem t16 : (Try.f16.body.map fun c => tr Try.prog o16 Try.f16.ntmps c .done) = some c16 := by kernel_rfl
theorem r16 : trR Try.prog Try.f16.results.toList = some [.t 4] := by kernel_rfl
theorem in16 {w0 : World} {args : List AV} {H : Hp} {Q : AV → Hp → Prop} (h : W Try.prog w0 c16 (retQ [.t 4] Q) (env0 args) H) : ACalls Try.prog w0 16 args H Q :=
  ACalls.intro2 mixed Try.func16 rfl t16 r16 h

/-- impl.ChainsOf -/
def c17 : CC :=
  .op (some 2) none (.q (.mov (.k (.nils))))
  (.op (some 3) none (.q (.mov (.t 0)))
  (.op (some 4) none (.e (.call (.f 62) [.t 3, .k (.int .i64 1), .k (.int .i64 5)]))
  (.op (some 5) none (.q (.not (.t 4)))
  (.cond (.t 5)
  (.op (some 2) none (.q (.mov (.k (.nils))))
  (.ret))
  (.done)
  (.op (some 6) none (.q (.mov (.t 0)))
  (.op (some 7) none (.e (.call (.f 63) [.t 6]))
  (.op (some 2) none (.q (.mov (.t 7)))
  (.ret))))))))
def o17 : Nat → List Nat := fun _ => []
set_option maxRecDepth 100000 in
theorem t17 : (Try.f17.body.map fun c => tr Try.prog o17 Try.f17.ntmps c .done) = some c17 := by kernel_rfl
theorem r17 : trR Try.prog Try.f17.results.toList = some [.t 2] := by kernel_rfl
theorem in17 {w0 : World} {args : List AV} {H : Hp} {Q : AV → Hp → Prop} (h : W Try.prog w0 c17 (retQ [.t 2] Q) (env0 args) H) : ACalls Try.prog w0 17 args H Q :=
  ACalls.intro2 mixed Try.func17 rfl t17 r17 h

/-- laws.power -/
def c18 : CC :=
  .op (some 2) none (.q (.mov (.k (.int .i64 0))))
  (.op (some 3) none (.q (.mov (.k (.int .i64 1))))
  (.block 0
  (.loop
  (.op (some 4) none (.q (.mov (.t 0)))
  (.op (some 5) none (.q (.bin .gtr (.t 4) (.k (.int .i64 0))))
  (.cond (.t 5)
  (.done)
  (.exit 0)
  (.block 1
  (.op (some 8) none (.q (.mov (.t 3)))
  (.op (some 9) none (.q (.bin .mul (.k (.int .i64 2)) (.t 8)))
  (.op (some 3) none (.q (.mov (.t 9)))
  (.done))))
  (.op (some 6) none (.q (.mov (.t 0)))
  (.op (some 7) none (.q (.bin .sub (.t 6) (.k (.int .i64 1))))
  (.op (some 0) none (.q (.mov (.t 7)))
  (.done)))))))))
  (.op (some 10) none (.q (.mov (.t 3)))
  (.op (some 2) none (.q (.mov (.t 10)))
  (.ret)))))
def o18 : Nat → List Nat := fun _ => []
set_option maxRecDepth 100000 in
theorem t18 : (Try.f18.body.map fun c => tr Try.prog o18 Try.f18.ntmps c .done) = some c18 := by kernel_rfl
theorem r18 : trR Try.prog Try.f18.results.toList = some [.t 2] := by kernel_rfl
theorem in18 {w0 : World} {args : List AV} {H : Hp} {Q : AV → Hp → Prop} (h : W Try.prog w0 c18 (retQ [.t 2] Q) (env0 args) H) : ACalls Try.prog w0 18 args H Q :=
  ACalls.intro2 mixed Try.func18 rfl t18 r18 h

/-- laws.szAlgebra -/
def c19 : CC :=
  .op (some 2) none (.l (.box 33 (.t 0)))
  (.op (some 4) none (.q (.mov (.k (.int .i64 0))))
  (.op (some 5) none (.q (.fld 0 (.t 2)))
  (.op (some 6) none (.q (.load none (.t 5)))
  (.op (some 7) none (.q (.mov (.t 1)))
  (.op (some 8) none (.e (.call (.f 68) [.t 6, .t 7]))
  (.op (some 1) none (.q (.mov (.t 8)))
  (.op (some 9) none (.q (.mov (.t 1)))
  (.op (some 10) none (.q (.bin .lss (.t 9) (.k (.int .i64 0))))
  (.cond (.t 10)
  (.op (some 4) none (.q (.mov (.k (.int .i64 (-1)))))
  (.ret))
  (.done)
  (.op (some 11) none (.q (.fld 1 (.t 2)))
  (.op (some 12) none (.q (.load none (.t 11)))
  (.op (some 13) none (.q (.mov (.t 1)))
  (.op (some 14) none (.e (.call (.f 69) [.t 12, .t 13]))
  (.op (some 1) none (.q (.mov (.t 14)))
  (.op (some 15) none (.q (.mov (.t 1)))
  (.op (some 16) none (.q (.bin .lss (.t 15) (.k (.int .i64 0))))
  (.cond (.t 16)
  (.op (some 4) none (.q (.mov (.k (.int .i64 (-1)))))
  (.ret))
  (.done)
  (.op (some 17) none (.q (.mov (.t 1)))
  (.op (some 4) none (.q (.mov (.t 17)))
  (.ret))))))))))))))))))))
def o19 : Nat → List Nat := fun _ => []
set_option maxRecDepth 100000 in
theorem t19 : (Try.f19.body.map fun c => tr Try.prog o19 Try.f19.ntmps c .done) = some c19 := by kernel_rfl
theorem r19 : trR Try.prog Try.f19.results.toList = some [.t 4] := by kernel_rfl
theorem in19 {w0 : World} {args : List AV} {H : Hp} {Q : AV → Hp → Prop} (h : W Try.prog w0 c19 (retQ [.t 4] Q) (env0 args) H) : ACalls Try.prog w0 19 args H Q :=
  ACalls.intro2 mixed Try.func19 rfl t19 r19 h

/-- spec.MapsOf -/
def c20 : CC :=
  .op (some 2) none (.l (.box 36 (.t 0)))
  (.op (some 3) none (.l (.box 36 (.t 1)))
  (.op (some 4) none (.q (.mov (.k (.nils))))
  (.op (some 5) none (.q (.load (some 2) (.t 2)))
  (.op (some 6) none (.e (.call (.f 70) [.t 5]))
  (.op (some 7) none (.q (.not (.t 6)))
  (.op (some 8) none (.q (.mov (.t 7)))
  (.op (some 9) (some (8, false)) (.q (.load (some 2) (.t 3)))
  (.op (some 10) (some (8, false)) (.e (.call (.f 70) [.t 9]))
  (.op (some 11) (some (8, false)) (.q (.not (.t 10)))
  (.op (some 12) none (.q (.pick (.t 8) (.k (.bool true)) (.t 11)))
  (.cond (.t 12)
  (.op (some 4) none (.q (.mov (.k (.nils))))
  (.ret))
  (.done)
  (.op (some 13) none (.q (.load (some 2) (.t 2)))
  (.op (some 14) none (.q (.load (some 2) (.t 3)))
  (.op (some 15) none (.l (.bsl 3 1 [.int .i64 0] 0 []))
  (.op (some 16) none (.e (.call (.f 71) [.t 13, .t 14, .t 15]))
  (.op (some 4) none (.q (.mov (.t 16)))
  (.ret)))))))))))))))))
def o20 : Nat → List Nat := fun _ => []
set_option maxRecDepth 100000 in
theorem t20 : (Try.f20.body.map fun c => tr Try.prog o20 Try.f20.ntmps c .done) = some c20 := by kernel_rfl
theorem r20 : trR Try.prog Try.f20.results.toList = some [.t 4] := by kernel_rfl
theorem in20 {w0 : World} {args : List AV} {H : Hp} {Q : AV → Hp → Prop} (h : W Try.prog w0 c20 (retQ [.t 4] Q) (env0 args) H) : ACalls Try.prog w0 20 args H Q :=
  ACalls.intro2 mixed Try.func20 rfl t20 r20 h

/-- laws.toAlgebra -/
def c21 : CC :=
  .op (some 1) none (.l (.box 33 (.t 0)))
  (.op (some 2) none (.l (.alloc 36 [.nils, .nils]))
  (.op (some 3) none (.l (.alloc 36 [.nils, .nils]))
  (.op (some 4) none (.q (.fld 0 (.t 1)))
  (.op (some 5) none (.q (.load none (.t 4)))
  (.op (some 6) none (.e (.call (.f 29) [.t 5]))
  (.op (some 7) none (.q (.fld 0 (.t 3)))
  (.op none none (.e (.store 1 (.t 7) (.t 6)))
  (.op (some 8) none (.q (.fld 1 (.t 1)))
  (.op (some 9) none (.q (.load none (.t 8)))
  (.op (some 10) none (.e (.call (.f 72) [.t 9]))
  (.op (some 11) none (.q (.fld 1 (.t 3)))
  (.op none none (.e (.store 1 (.t 11) (.t 10)))
  (.op (some 12) none (.q (.load (some 2) (.t 3)))
  (.op none none (.e (.store 2 (.t 2) (.t 12)))
  (.ret)))))))))))))))
def o21 : Nat → List Nat := fun _ => []
set_option maxRecDepth 100000 in
theorem t21 : (Try.f21.body.map fun c => tr Try.prog o21 Try.f21.ntmps c .done) = some c21 := by kernel_rfl
theorem r21 : trR Try.prog Try.f21.results.toList = some [.c (some 2) 2] := by kernel_rfl
theorem in21 {w0 : World} {args : List AV} {H : Hp} {Q : AV → Hp → Prop} (h : W Try.prog w0 c21 (retQ [.c (some 2) 2] Q) (env0 args) H) : ACalls Try.prog w0 21 args H Q :=
  ACalls.intro2 mixed Try.func21 rfl t21 r21 h

/-- impl.MapsOf -/
def c22 : CC :=
  .op (some 2) none (.l (.box 36 (.t 0)))
  (.op (some 3) none (.l (.box 36 (.t 1)))
  (.op (some 4) none (.q (.mov (.k (.nils))))
  (.op (some 5) none (.q (.load (some 2) (.t 2)))
  (.op (some 6) none (.e (.call (.f 53) [.t 5]))
  (.op (some 7) none (.q (.not (.t 6)))
  (.op (some 8) none (.q (.mov (.t 7)))
  (.op (some 9) (some (8, false)) (.q (.load (some 2) (.t 3)))
  (.op (some 10) (some (8, false)) (.e (.call (.f 53) [.t 9]))
  (.op (some 11) (some (8, false)) (.q (.not (.t 10)))
  (.op (some 12) none (.q (.pick (.t 8) (.k (.bool true)) (.t 11)))
  (.cond (.t 12)
  (.op (some 4) none (.q (.mov (.k (.nils))))
  (.ret))
  (.done)
  (.op (some 13) none (.q (.load (some 2) (.t 2)))
  (.op (some 14) none (.q (.load (some 2) (.t 3)))
  (.op (some 15) none (.e (.call (.f 73) [.t 13, .t 14]))
  (.op (some 4) none (.q (.mov (.t 15)))
  (.ret))))))))))))))))
def o22 : Nat → List Nat := fun _ => []
set_option maxRecDepth 100000 in
theorem t22 : (Try.f22.body.map fun c => tr Try.prog o22 Try.f22.ntmps c .done) = some c22 := by kernel_rfl
theorem r22 : trR Try.prog Try.f22.results.toList = some [.t 4] := by kernel_rfl
theorem in22 {w0 : World} {args : List AV} {H : Hp} {Q : AV → Hp → Prop} (h : W Try.prog w0 c22 (retQ [.t 4] Q) (env0 args) H) : ACalls Try.prog w0 22 args H Q :=
  ACalls.intro2 mixed Try.func22 rfl t22 r22 h

/-- laws.eqIntSS -/
def c23 : CC :=
  .op (some 4) none (.q (.mov (.k (.bool false))))
  (.op (some 6) none (.q (.mov (.t 0)))
  (.op (some 7) none (.q (.len (.t 6)))
  (.op (some 8) none (.q (.mov (.t 1)))
  (.op (some 9) none (.q (.len (.t 8)))
  (.op (some 10) none (.q (.bin .neq (.t 7) (.t 9)))
  (.cond (.t 10)
  (.op (some 4) none (.q (.mov (.k (.bool false))))
  (.ret))
  (.done)
  (.op (some 5) none (.q (.mov (.k (.int .i64 0))))
  (.block 0
  (.loop
  (.op (some 11) none (.q (.mov (.t 5)))
  (.op (some 12) none (.q (.mov (.t 0)))
  (.op (some 13) none (.q (.len (.t 12)))
  (.op (some 14) none (.q (.bin .lss (.t 11) (.t 13)))
  (.cond (.t 14)
  (.done)
  (.exit 0)
  (.block 1
  (.draws [⟨0, false, [], (some 17), none, .q (.mov (.t 0))⟩,
    ⟨1, false, [], (some 18), none, .q (.mov (.t 5))⟩,
    ⟨2, false, [], (some 19), none, .q (.idx 1 (.t 17) (.t 18))⟩,
    ⟨3, false, [], (some 20), none, .q (.load none (.t 19))⟩,
    ⟨4, false, [], (some 21), none, .q (.mov (.t 1))⟩,
    ⟨5, false, [], (some 22), none, .q (.mov (.t 5))⟩,
    ⟨6, false, [], (some 23), none, .q (.idx 1 (.t 21) (.t 22))⟩,
    ⟨7, false, [], (some 24), none, .q (.load none (.t 23))⟩,
    ⟨8, false, [], (some 25), none, .e (.call (.f 31) [.t 20, .t 24])⟩,
    ⟨9, false, [], (some 26), none, .q (.not (.t 25))⟩] (.cond (.t 26)
  (.op (some 4) none (.q (.mov (.k (.bool false))))
  (.ret))
  (.done)
  (.done)))
  (.op (some 15) none (.q (.mov (.t 5)))
  (.op (some 16) none (.q (.bin .add (.t 15) (.k (.int .i64 1))))
  (.op (some 5) none (.q (.mov (.t 16)))
  (.done)))))))))))
  (.op (some 4) none (.q (.mov (.k (.bool true))))
  (.ret))))))))))
def o23 : Nat → List Nat := fun i => if i = 6 then [0, 1, 2, 3, 4, 5, 6, 7, 8, 9] else []
set_option maxRecDepth 100000 in
theorem t23 : (Try.f23.body.map fun c => tr Try.prog o23 Try.f23.ntmps c .done) = some c23 := by kernel_rfl
theorem r23 : trR Try.prog Try.f23.results.toList = some [.t 4] := by kernel_rfl
theorem in23 {w0 : World} {args : List AV} {H : Hp} {Q : AV → Hp → Prop} (h : W Try.prog w0 c23 (retQ [.t 4] Q) (env0 args) H) : ACalls Try.prog w0 23 args H Q :=
  ACalls.intro2 mixed Try.func23 rfl t23 r23 h

/-- laws.eqAlgebra -/
def c24 : CC :=
  .op (some 2) none (.l (.box 36 (.t 0)))
  (.op (some 3) none (.l (.box 36 (.t 1)))
  (.op (some 4) none (.q (.mov (.k (.bool false))))
  (.op (some 5) none (.q (.fld 0 (.t 2)))
  (.op (some 6) none (.q (.load none (.t 5)))
  (.op (some 7) none (.q (.fld 0 (.t 3)))
  (.op (some 8) none (.q (.load none (.t 7)))
  (.op (some 9) none (.e (.call (.f 31) [.t 6, .t 8]))
  (.op (some 10) none (.q (.not (.t 9)))
  (.cond (.t 10)
  (.op (some 4) none (.q (.mov (.k (.bool false))))
  (.ret))
  (.done)
  (.op (some 11) none (.q (.fld 1 (.t 2)))
  (.op (some 12) none (.q (.load none (.t 11)))
  (.op (some 13) none (.q (.fld 1 (.t 3)))
  (.op (some 14) none (.q (.load none (.t 13)))
  (.op (some 15) none (.e (.call (.f 23) [.t 12, .t 14]))
  (.op (some 16) none (.q (.not (.t 15)))
  (.cond (.t 16)
  (.op (some 4) none (.q (.mov (.k (.bool false))))
  (.ret))
  (.done)
  (.op (some 4) none (.q (.mov (.k (.bool true))))
  (.ret))))))))))))))))))
def o24 : Nat → List Nat := fun _ => []
set_option maxRecDepth 100000 in
theorem t24 : (Try.f24.body.map fun c => tr Try.prog o24 Try.f24.ntmps c .done) = some c24 := by kernel_rfl
theorem r24 : trR Try.prog Try.f24.results.toList = some [.t 4] := by kernel_rfl
theorem in24 {w0 : World} {args : List AV} {H : Hp} {Q : AV → Hp → Prop} (h : W Try.prog w0 c24 (retQ [.t 4] Q) (env0 args) H) : ACalls Try.prog w0 24 args H Q :=
  ACalls.intro2 mixed Try.func24 rfl t24 r24 h

/-- laws.markAlgebra -/
def c25 : CC :=
  .op (some 2) none (.l (.box 36 (.t 0)))
  (.op (some 4) none (.q (.mov (.k (.int .i64 0))))
  (.op (some 5) none (.q (.fld 0 (.t 2)))
  (.op (some 6) none (.q (.load none (.t 5)))
  (.op (some 7) none (.q (.mov (.t 1)))
  (.op (some 8) none (.e (.call (.f 34) [.t 6, .t 7]))
  (.op (some 1) none (.q (.mov (.t 8)))
  (.op (some 9) none (.q (.fld 1 (.t 2)))
  (.op (some 10) none (.q (.load none (.t 9)))
  (.op (some 11) none (.q (.mov (.t 1)))
  (.op (some 12) none (.e (.call (.f 26) [.t 10, .t 11]))
  (.op (some 1) none (.q (.mov (.t 12)))
  (.op (some 13) none (.q (.mov (.t 1)))
  (.op (some 4) none (.q (.mov (.t 13)))
  (.ret))))))))))))))
def o25 : Nat → List Nat := fun _ => []
set_option maxRecDepth 100000 in
theorem t25 : (Try.f25.body.map fun c => tr Try.prog o25 Try.f25.ntmps c .done) = some c25 := by kernel_rfl
theorem r25 : trR Try.prog Try.f25.results.toList = some [.t 4] := by kernel_rfl
theorem in25 {w0 : World} {args : List AV} {H : Hp} {Q : AV → Hp → Prop} (h : W Try.prog w0 c25 (retQ [.t 4] Q) (env0 args) H) : ACalls Try.prog w0 25 args H Q :=
  ACalls.intro2 mixed Try.func25 rfl t25 r25 h

/-- laws.markIntSS -/
def c26 : CC :=
  .op (some 4) none (.q (.mov (.k (.int .i64 0))))
  (.op (some 5) none (.q (.mov (.k (.int .i64 0))))
  (.block 0
  (.loop
  (.op (some 6) none (.q (.mov (.t 5)))
  (.op (some 7) none (.q (.mov (.t 0)))
  (.op (some 8) none (.q (.len (.t 7)))
  (.op (some 9) none (.q (.bin .lss (.t 6) (.t 8)))
  (.cond (.t 9)
  (.done)
  (.exit 0)
  (.block 1
  (.op (some 12) none (.q (.mov (.t 0)))
  (.op (some 13) none (.q (.mov (.t 5)))
  (.op (some 14) none (.q (.idx 1 (.t 12) (.t 13)))
  (.op (some 15) none (.q (.load none (.t 14)))
  (.op (some 16) none (.q (.mov (.t 1)))
  (.op (some 17) none (.e (.call (.f 34) [.t 15, .t 16]))
  (.op (some 1) none (.q (.mov (.t 17)))
  (.done))))))))
  (.op (some 10) none (.q (.mov (.t 5)))
  (.op (some 11) none (.q (.bin .add (.t 10) (.k (.int .i64 1))))
  (.op (some 5) none (.q (.mov (.t 11)))
  (.done)))))))))))
  (.op (some 18) none (.q (.mov (.t 1)))
  (.op (some 4) none (.q (.mov (.t 18)))
  (.ret)))))
def o26 : Nat → List Nat := fun _ => []
set_option maxRecDepth 100000 in
theorem t26 : (Try.f26.body.map fun c => tr Try.prog o26 Try.f26.ntmps c .done) = some c26 := by kernel_rfl
theorem r26 : trR Try.prog Try.f26.results.toList = some [.t 4] := by kernel_rfl
theorem in26 {w0 : World} {args : List AV} {H : Hp} {Q : AV → Hp → Prop} (h : W Try.prog w0 c26 (retQ [.t 4] Q) (env0 args) H) : ACalls Try.prog w0 26 args H Q :=
  ACalls.intro2 mixed Try.func26 rfl t26 r26 h

/-- laws.heldIntSS -/
def c27 : CC :=
  .op (some 4) none (.q (.mov (.k (.int .i64 0))))
  (.op (some 5) none (.q (.mov (.k (.int .i64 0))))
  (.block 0
  (.loop
  (.op (some 6) none (.q (.mov (.t 5)))
  (.op (some 7) none (.q (.mov (.t 0)))
  (.op (some 8) none (.q (.len (.t 7)))
  (.op (some 9) none (.q (.bin .lss (.t 6) (.t 8)))
  (.cond (.t 9)
  (.done)
  (.exit 0)
  (.block 1
  (.op (some 12) none (.q (.mov (.t 0)))
  (.op (some 13) none (.q (.mov (.t 5)))
  (.op (some 14) none (.q (.idx 1 (.t 12) (.t 13)))
  (.op (some 15) none (.q (.load none (.t 14)))
  (.op (some 16) none (.q (.mov (.t 1)))
  (.op (some 17) none (.e (.call (.f 35) [.t 15, .t 16]))
  (.op (some 1) none (.q (.mov (.t 17)))
  (.op (some 18) none (.q (.mov (.t 1)))
  (.op (some 19) none (.q (.bin .lss (.t 18) (.k (.int .i64 0))))
  (.cond (.t 19)
  (.op (some 4) none (.q (.mov (.k (.int .i64 (-1)))))
  (.ret))
  (.done)
  (.done)))))))))))
  (.op (some 10) none (.q (.mov (.t 5)))
  (.op (some 11) none (.q (.bin .add (.t 10) (.k (.int .i64 1))))
  (.op (some 5) none (.q (.mov (.t 11)))
  (.done)))))))))))
  (.op (some 20) none (.q (.mov (.t 1)))
  (.op (some 4) none (.q (.mov (.t 20)))
  (.ret)))))
def o27 : Nat → List Nat := fun _ => []
set_option maxRecDepth 100000 in
theorem t27 : (Try.f27.body.map fun c => tr Try.prog o27 Try.f27.ntmps c .done) = some c27 := by kernel_rfl
theorem r27 : trR Try.prog Try.f27.results.toList = some [.t 4] := by kernel_rfl
theorem in27 {w0 : World} {args : List AV} {H : Hp} {Q : AV → Hp → Prop} (h : W Try.prog w0 c27 (retQ [.t 4] Q) (env0 args) H) : ACalls Try.prog w0 27 args H Q :=
  ACalls.intro2 mixed Try.func27 rfl t27 r27 h

/-- spec.Follows -/
def c28 : CC :=
  .op (some 3) none (.l (.box 36 (.t 0)))
  (.op (some 6) none (.q (.mov (.k (.bool false))))
  (.op (some 10) none (.q (.load (some 2) (.t 3)))
  (.op (some 11) none (.e (.call (.f 70) [.t 10]))
  (.op (some 12) none (.q (.not (.t 11)))
  (.op (some 13) none (.q (.mov (.t 12)))
  (.op (some 14) (some (13, false)) (.q (.mov (.t 1)))
  (.op (some 15) (some (13, false)) (.e (.call (.f 74) [.t 14]))
  (.op (some 16) (some (13, false)) (.q (.not (.t 15)))
  (.op (some 17) none (.q (.pick (.t 13) (.k (.bool true)) (.t 16)))
  (.op (some 18) none (.q (.mov (.t 17)))
  (.op (some 19) (some (18, false)) (.q (.mov (.t 2)))
  (.op (some 20) (some (18, false)) (.e (.call (.f 74) [.t 19]))
  (.op (some 21) (some (18, false)) (.q (.not (.t 20)))
  (.op (some 22) none (.q (.pick (.t 18) (.k (.bool true)) (.t 21)))
  (.cond (.t 22)
  (.op (some 6) none (.q (.mov (.k (.bool false))))
  (.ret))
  (.done)
  (.op (some 23) none (.q (.fld 0 (.t 3)))
  (.op (some 24) none (.q (.load none (.t 23)))
  (.op (some 25) none (.q (.len (.t 24)))
  (.op (some 26) none (.q (.bin .sub (.t 25) (.k (.int .i64 1))))
  (.op (some 7) none (.q (.mov (.t 26)))
  (.op (some 27) none (.q (.fld 0 (.t 3)))
  (.op (some 28) none (.q (.load none (.t 27)))
  (.op (some 29) none (.q (.len (.t 28)))
  (.op (some 30) none (.e (.call (.f 75) [.t 29]))
  (.op (some 8) none (.q (.mov (.t 30)))
  (.op (some 9) none (.q (.mov (.k (.int .i64 0))))
  (.block 0
  (.loop
  (.op (some 31) none (.q (.mov (.t 9)))
  (.op (some 32) none (.q (.mov (.t 8)))
  (.op (some 33) none (.q (.len (.t 32)))
  (.op (some 34) none (.q (.bin .lss (.t 31) (.t 33)))
  (.cond (.t 34)
  (.done)
  (.exit 0)
  (.block 1
  (.draws [⟨0, false, [], (some 37), none, .q (.load (some 2) (.t 3))⟩,
    ⟨1, false, [], (some 38), none, .q (.mov (.t 1))⟩,
    ⟨2, false, [], (some 39), none, .q (.mov (.t 8))⟩,
    ⟨3, false, [], (some 40), none, .q (.mov (.t 9))⟩,
    ⟨4, false, [], (some 41), none, .q (.idx 1 (.t 39) (.t 40))⟩,
    ⟨5, false, [], (some 42), none, .q (.load none (.t 41))⟩,
    ⟨7, false, [], (some 44), none, .q (.mov (.t 7))⟩,
    ⟨6, false, [], (some 43), none, .e (.call (.f 76) [.t 37, .t 38, .k (.int .i64 0), .t 42])⟩,
    ⟨8, false, [], (some 45), none, .q (.bin .eql (.t 43) (.t 44))⟩,
    ⟨9, false, [], (some 46), none, .q (.mov (.t 45))⟩,
    ⟨10, false, [], (some 47), (some (46, true)), .q (.load (some 2) (.t 3))⟩,
    ⟨11, false, [], (some 48), (some (46, true)), .q (.mov (.t 2))⟩,
    ⟨12, false, [], (some 49), (some (46, true)), .q (.mov (.t 8))⟩,
    ⟨13, false, [], (some 50), (some (46, true)), .q (.mov (.t 9))⟩,
    ⟨14, false, [], (some 51), (some (46, true)), .q (.idx 1 (.t 49) (.t 50))⟩,
    ⟨15, false, [], (some 52), (some (46, true)), .q (.load none (.t 51))⟩,
    ⟨17, false, [], (some 54), (some (46, true)), .q (.mov (.t 7))⟩,
    ⟨16, false, [], (some 53), (some (46, true)), .e (.call (.f 76) [.t 47, .t 48, .k (.int .i64 0), .t 52])⟩,
    ⟨18, false, [], (some 55), (some (46, true)), .q (.bin .neq (.t 53) (.t 54))⟩,
    ⟨19, false, [], (some 56), none, .q (.pick (.t 46) (.t 55) (.k (.bool false)))⟩] (.cond (.t 56)
  (.op (some 6) none (.q (.mov (.k (.bool false))))
  (.ret))
  (.done)
  (.done)))
  (.op (some 35) none (.q (.mov (.t 9)))
  (.op (some 36) none (.q (.bin .add (.t 35) (.k (.int .i64 1))))
  (.op (some 9) none (.q (.mov (.t 36)))
  (.done)))))))))))
  (.op (some 6) none (.q (.mov (.k (.bool true))))
  (.ret)))))))))))))))))))))))))))))
def o28 : Nat → List Nat := fun i => if i = 8 then [0, 1, 2, 3, 4, 5, 7, 6, 8, 9, 10, 11, 12, 13, 14, 15, 17, 16, 18, 19] else []
set_option maxRecDepth 100000 in
theorem t28 : (Try.f28.body.map fun c => tr Try.prog o28 Try.f28.ntmps c .done) = some c28 := by kernel_rfl
theorem r28 : trR Try.prog Try.f28.results.toList = some [.t 6] := by kernel_rfl
theorem in28 {w0 : World} {args : List AV} {H : Hp} {Q : AV → Hp → Prop} (h : W Try.prog w0 c28 (retQ [.t 6] Q) (env0 args) H) : ACalls Try.prog w0 28 args H Q :=
  ACalls.intro2 mixed Try.func28 rfl t28 r28 h

/-- laws.toIntS -/
def c29 : CC :=
  .op (some 2) none (.q (.mov (.k (.nils))))
  (.op (some 5) none (.q (.mov (.t 0)))
  (.op (some 6) none (.q (.len (.t 5)))
  (.op (some 7) none (.l (.mk 3 8 [.int .i64 0] (.t 6) (.t 6)))
  (.op (some 3) none (.q (.mov (.t 7)))
  (.op (some 4) none (.q (.mov (.k (.int .i64 0))))
  (.block 0
  (.loop
  (.op (some 8) none (.q (.mov (.t 4)))
  (.op (some 9) none (.q (.mov (.t 0)))
  (.op (some 10) none (.q (.len (.t 9)))
  (.op (some 11) none (.q (.bin .lss (.t 8) (.t 10)))
  (.cond (.t 11)
  (.done)
  (.exit 0)
  (.block 1
  (.op (some 14) none (.q (.mov (.t 3)))
  (.op (some 15) none (.q (.mov (.t 4)))
  (.op (some 16) none (.q (.mov (.t 0)))
  (.op (some 17) none (.q (.mov (.t 4)))
  (.op (some 18) none (.q (.idx 1 (.t 16) (.t 17)))
  (.op (some 19) none (.q (.load none (.t 18)))
  (.op (some 20) none (.q (.idx 1 (.t 14) (.t 15)))
  (.op none none (.e (.store 1 (.t 20) (.t 19)))
  (.done)))))))))
  (.op (some 12) none (.q (.mov (.t 4)))
  (.op (some 13) none (.q (.bin .add (.t 12) (.k (.int .i64 1))))
  (.op (some 4) none (.q (.mov (.t 13)))
  (.done)))))))))))
  (.op (some 21) none (.q (.mov (.t 3)))
  (.op (some 2) none (.q (.mov (.t 21)))
  (.ret)))))))))
def o29 : Nat → List Nat := fun _ => []
set_option maxRecDepth 100000 in
theorem t29 : (Try.f29.body.map fun c => tr Try.prog o29 Try.f29.ntmps c .done) = some c29 := by kernel_rfl
theorem r29 : trR Try.prog Try.f29.results.toList = some [.t 2] := by kernel_rfl
theorem in29 {w0 : World} {args : List AV} {H : Hp} {Q : AV → Hp → Prop} (h : W Try.prog w0 c29 (retQ [.t 2] Q) (env0 args) H) : ACalls Try.prog w0 29 args H Q :=
  ACalls.intro2 mixed Try.func29 rfl t29 r29 h

/-- impl.Follows -/
def c30 : CC :=
  .op (some 3) none (.l (.box 36 (.t 0)))
  (.op (some 4) none (.l (.box 30 (.t 1)))
  (.op (some 5) none (.l (.box 30 (.t 2)))
  (.op (some 6) none (.q (.mov (.k (.bool false))))
  (.op (some 9) none (.q (.load (some 2) (.t 3)))
  (.op (some 10) none (.e (.call (.f 53) [.t 9]))
  (.op (some 11) none (.q (.not (.t 10)))
  (.op (some 12) none (.q (.mov (.t 11)))
  (.op (some 13) (some (12, false)) (.q (.load none (.t 4)))
  (.op (some 14) (some (12, false)) (.e (.call (.f 77) [.t 13]))
  (.op (some 15) (some (12, false)) (.q (.not (.t 14)))
  (.op (some 16) none (.q (.pick (.t 12) (.k (.bool true)) (.t 15)))
  (.op (some 17) none (.q (.mov (.t 16)))
  (.op (some 18) (some (17, false)) (.q (.load none (.t 5)))
  (.op (some 19) (some (17, false)) (.e (.call (.f 77) [.t 18]))
  (.op (some 20) (some (17, false)) (.q (.not (.t 19)))
  (.op (some 21) none (.q (.pick (.t 17) (.k (.bool true)) (.t 20)))
  (.cond (.t 21)
  (.op (some 6) none (.q (.mov (.k (.bool false))))
  (.ret))
  (.done)
  (.draws [⟨0, false, [], (some 22), none, .q (.fld 0 (.t 3))⟩,
    ⟨1, true, [], (some 23), none, .q (.load none (.t 22))⟩,
    ⟨2, false, [], (some 24), none, .q (.len (.t 23))⟩,
    ⟨3, false, [], (some 25), none, .q (.bin .sub (.t 24) (.k (.int .i64 1)))⟩,
    ⟨4, false, [], (some 7), none, .l (.alloc 4 [.bool false])⟩,
    ⟨5, false, [], (some 8), none, .l (.alloc 3 [.int .i64 0])⟩,
    ⟨6, false, [], none, none, .e (.store 1 (.t 7) (.k (.bool true)))⟩,
    ⟨7, false, [], none, none, .e (.store 1 (.t 8) (.t 25))⟩] (.op (some 26) none (.q (.load (some 2) (.t 3)))
  (.op (some 27) none (.q (.mkf 79 [.t 7, .t 3, .t 4, .t 8, .t 5]))
  (.op (some 28) none (.e (.call (.f 78) [.t 26, .t 27]))
  (.op (some 29) none (.q (.load none (.t 7)))
  (.op (some 6) none (.q (.mov (.t 29)))
  (.ret))))))))))))))))))))))))
def o30 : Nat → List Nat := fun i => if i = 3 then [0, 1, 2, 3, 4, 5, 6, 7] else []
set_option maxRecDepth 100000 in
theorem t30 : (Try.f30.body.map fun c => tr Try.prog o30 Try.f30.ntmps c .done) = some c30 := by kernel_rfl
theorem r30 : trR Try.prog Try.f30.results.toList = some [.t 6] := by kernel_rfl
theorem in30 {w0 : World} {args : List AV} {H : Hp} {Q : AV → Hp → Prop} (h : W Try.prog w0 c30 (retQ [.t 6] Q) (env0 args) H) : ACalls Try.prog w0 30 args H Q :=
  ACalls.intro2 mixed Try.func30 rfl t30 r30 h

/-- laws.eqIntS -/
def c31 : CC :=
  .op (some 4) none (.q (.mov (.k (.bool false))))
  (.op (some 6) none (.q (.mov (.t 0)))
  (.op (some 7) none (.q (.len (.t 6)))
  (.op (some 8) none (.q (.mov (.t 1)))
  (.op (some 9) none (.q (.len (.t 8)))
  (.op (some 10) none (.q (.bin .neq (.t 7) (.t 9)))
  (.cond (.t 10)
  (.op (some 4) none (.q (.mov (.k (.bool false))))
  (.ret))
  (.done)
  (.op (some 5) none (.q (.mov (.k (.int .i64 0))))
  (.block 0
  (.loop
  (.op (some 11) none (.q (.mov (.t 5)))
  (.op (some 12) none (.q (.mov (.t 0)))
  (.op (some 13) none (.q (.len (.t 12)))
  (.op (some 14) none (.q (.bin .lss (.t 11) (.t 13)))
  (.cond (.t 14)
  (.done)
  (.exit 0)
  (.block 1
  (.draws [⟨0, false, [], (some 17), none, .q (.mov (.t 0))⟩,
    ⟨1, false, [], (some 18), none, .q (.mov (.t 5))⟩,
    ⟨2, false, [], (some 19), none, .q (.idx 1 (.t 17) (.t 18))⟩,
    ⟨3, false, [], (some 20), none, .q (.load none (.t 19))⟩,
    ⟨4, false, [], (some 21), none, .q (.mov (.t 1))⟩,
    ⟨5, false, [], (some 22), none, .q (.mov (.t 5))⟩,
    ⟨6, false, [], (some 23), none, .q (.idx 1 (.t 21) (.t 22))⟩,
    ⟨7, false, [], (some 24), none, .q (.load none (.t 23))⟩,
    ⟨8, false, [], (some 25), none, .q (.bin .neq (.t 20) (.t 24))⟩] (.cond (.t 25)
  (.op (some 4) none (.q (.mov (.k (.bool false))))
  (.ret))
  (.done)
  (.done)))
  (.op (some 15) none (.q (.mov (.t 5)))
  (.op (some 16) none (.q (.bin .add (.t 15) (.k (.int .i64 1))))
  (.op (some 5) none (.q (.mov (.t 16)))
  (.done)))))))))))
  (.op (some 4) none (.q (.mov (.k (.bool true))))
  (.ret))))))))))
def o31 : Nat → List Nat := fun i => if i = 6 then [0, 1, 2, 3, 4, 5, 6, 7, 8] else []
set_option maxRecDepth 100000 in
theorem t31 : (Try.f31.body.map fun c => tr Try.prog o31 Try.f31.ntmps c .done) = some c31 := by kernel_rfl
theorem r31 : trR Try.prog Try.f31.results.toList = some [.t 4] := by kernel_rfl
theorem in31 {w0 : World} {args : List AV} {H : Hp} {Q : AV → Hp → Prop} (h : W Try.prog w0 c31 (retQ [.t 4] Q) (env0 args) H) : ACalls Try.prog w0 31 args H Q :=
  ACalls.intro2 mixed Try.func31 rfl t31 r31 h

/-- spec.SameBy -/
def c32 : CC :=
  .op (some 2) none (.l (.box 36 (.t 0)))
  (.op (some 3) none (.l (.box 36 (.t 1)))
  (.op (some 4) none (.q (.mov (.k (.nils))))
  (.op (some 5) none (.q (.mov (.k (.bool false))))
  (.op (some 8) none (.q (.load (some 2) (.t 2)))
  (.op (some 9) none (.e (.call (.f 70) [.t 8]))
  (.op (some 10) none (.q (.not (.t 9)))
  (.op (some 11) none (.q (.mov (.t 10)))
  (.op (some 12) (some (11, false)) (.q (.load (some 2) (.t 3)))
  (.op (some 13) (some (11, false)) (.e (.call (.f 70) [.t 12]))
  (.op (some 14) (some (11, false)) (.q (.not (.t 13)))
  (.op (some 15) none (.q (.pick (.t 11) (.k (.bool true)) (.t 14)))
  (.op (some 16) none (.q (.mov (.t 15)))
  (.op (some 17) (some (16, false)) (.q (.fld 0 (.t 2)))
  (.op (some 18) (some (16, false)) (.q (.load none (.t 17)))
  (.op (some 19) (some (16, false)) (.q (.len (.t 18)))
  (.op (some 20) (some (16, false)) (.q (.fld 0 (.t 3)))
  (.op (some 21) (some (16, false)) (.q (.load none (.t 20)))
  (.op (some 22) (some (16, false)) (.q (.len (.t 21)))
  (.op (some 23) (some (16, false)) (.q (.bin .neq (.t 19) (.t 22)))
  (.op (some 24) none (.q (.pick (.t 16) (.k (.bool true)) (.t 23)))
  (.cond (.t 24)
  (.op (some 4) none (.q (.mov (.k (.nils))))
  (.op (some 5) none (.q (.mov (.k (.bool false))))
  (.ret)))
  (.done)
  (.op (some 25) none (.q (.load (some 2) (.t 2)))
  (.op (some 26) none (.q (.load (some 2) (.t 3)))
  (.op (some 27) none (.l (.bsl 3 1 [.int .i64 0] 0 []))
  (.op (some 28) none (.e (.call (.f 71) [.t 25, .t 26, .t 27]))
  (.op (some 6) none (.q (.mov (.t 28)))
  (.op (some 7) none (.q (.mov (.k (.int .i64 0))))
  (.block 0
  (.loop
  (.op (some 29) none (.q (.mov (.t 7)))
  (.op (some 30) none (.q (.mov (.t 6)))
  (.op (some 31) none (.q (.len (.t 30)))
  (.op (some 32) none (.q (.bin .lss (.t 29) (.t 31)))
  (.cond (.t 32)
  (.done)
  (.exit 0)
  (.block 1
  (.draws [⟨0, false, [], (some 35), none, .q (.mov (.t 6))⟩,
    ⟨1, false, [], (some 36), none, .q (.mov (.t 7))⟩,
    ⟨2, false, [], (some 37), none, .q (.idx 1 (.t 35) (.t 36))⟩,
    ⟨3, false, [], (some 38), none, .q (.load none (.t 37))⟩,
    ⟨5, false, [], (some 40), none, .q (.fld 0 (.t 3))⟩,
    ⟨6, true, [], (some 41), none, .q (.load none (.t 40))⟩,
    ⟨7, false, [], (some 42), none, .q (.len (.t 41))⟩,
    ⟨4, false, [], (some 39), none, .e (.call (.f 81) [.t 38])⟩,
    ⟨8, false, [], (some 43), none, .e (.call (.f 82) [.t 42])⟩,
    ⟨9, false, [], (some 44), none, .q (.bin .sub (.t 43) (.k (.int .i64 1)))⟩,
    ⟨10, false, [], (some 45), none, .q (.bin .eql (.t 39) (.t 44))⟩] (.cond (.t 45)
  (.op (some 46) none (.q (.mov (.t 6)))
  (.op (some 47) none (.q (.mov (.t 7)))
  (.op (some 48) none (.q (.idx 1 (.t 46) (.t 47)))
  (.op (some 49) none (.q (.load none (.t 48)))
  (.op (some 4) none (.q (.mov (.t 49)))
  (.op (some 5) none (.q (.mov (.k (.bool true))))
  (.ret)))))))
  (.done)
  (.done)))
  (.op (some 33) none (.q (.mov (.t 7)))
  (.op (some 34) none (.q (.bin .add (.t 33) (.k (.int .i64 1))))
  (.op (some 7) none (.q (.mov (.t 34)))
  (.done)))))))))))
  (.op (some 4) none (.q (.mov (.k (.nils))))
  (.op (some 5) none (.q (.mov (.k (.bool false))))
  (.ret)))))))))))))))))))))))))))))))
def o32 : Nat → List Nat := fun i => if i = 7 then [0, 1, 2, 3, 5, 6, 7, 4, 8, 9, 10] else []
set_option maxRecDepth 100000 in
theorem t32 : (Try.f32.body.map fun c => tr Try.prog o32 Try.f32.ntmps c .done) = some c32 := by kernel_rfl
theorem r32 : trR Try.prog Try.f32.results.toList = some [.t 4, .t 5] := by kernel_rfl
theorem in32 {w0 : World} {args : List AV} {H : Hp} {Q : AV → Hp → Prop} (h : W Try.prog w0 c32 (retQ [.t 4, .t 5] Q) (env0 args) H) : ACalls Try.prog w0 32 args H Q :=
  ACalls.intro2 mixed Try.func32 rfl t32 r32 h

/-- impl.SameBy -/
def c33 : CC :=
  .op (some 2) none (.l (.box 36 (.t 0)))
  (.op (some 3) none (.l (.box 36 (.t 1)))
  (.op (some 4) none (.q (.mov (.k (.nils))))
  (.op (some 5) none (.q (.mov (.k (.bool false))))
  (.op (some 8) none (.q (.load (some 2) (.t 2)))
  (.op (some 9) none (.e (.call (.f 53) [.t 8]))
  (.op (some 10) none (.q (.not (.t 9)))
  (.op (some 11) none (.q (.mov (.t 10)))
  (.op (some 12) (some (11, false)) (.q (.load (some 2) (.t 3)))
  (.op (some 13) (some (11, false)) (.e (.call (.f 53) [.t 12]))
  (.op (some 14) (some (11, false)) (.q (.not (.t 13)))
  (.op (some 15) none (.q (.pick (.t 11) (.k (.bool true)) (.t 14)))
  (.op (some 16) none (.q (.mov (.t 15)))
  (.op (some 17) (some (16, false)) (.q (.fld 0 (.t 2)))
  (.op (some 18) (some (16, false)) (.q (.load none (.t 17)))
  (.op (some 19) (some (16, false)) (.q (.len (.t 18)))
  (.op (some 20) (some (16, false)) (.q (.fld 0 (.t 3)))
  (.op (some 21) (some (16, false)) (.q (.load none (.t 20)))
  (.op (some 22) (some (16, false)) (.q (.len (.t 21)))
  (.op (some 23) (some (16, false)) (.q (.bin .neq (.t 19) (.t 22)))
  (.op (some 24) none (.q (.pick (.t 16) (.k (.bool true)) (.t 23)))
  (.cond (.t 24)
  (.op (some 4) none (.q (.mov (.k (.nils))))
  (.op (some 5) none (.q (.mov (.k (.bool false))))
  (.ret)))
  (.done)
  (.op (some 25) none (.q (.load (some 2) (.t 2)))
  (.op (some 26) none (.q (.load (some 2) (.t 3)))
  (.op (some 27) none (.e (.call (.f 73) [.t 25, .t 26]))
  (.op (some 28) none (.q (.len (.t 27)))
  (.op (some 29) none (.q (.mov (.k (.int .i64 0))))
  (.block 0
  (.loop
  (.op (some 30) none (.q (.bin .lss (.t 29) (.t 28)))
  (.cond (.t 30)
  (.done)
  (.exit 0)
  (.block 1
  (.op (some 31) none (.q (.idx 1 (.t 27) (.t 29)))
  (.op (some 32) none (.q (.load none (.t 31)))
  (.op (some 7) none (.q (.mov (.t 32)))
  (.draws [⟨0, false, [], (some 33), none, .q (.mov (.t 7))⟩,
    ⟨2, false, [], (some 35), none, .q (.fld 0 (.t 3))⟩,
    ⟨3, true, [], (some 36), none, .q (.load none (.t 35))⟩,
    ⟨4, false, [], (some 37), none, .q (.len (.t 36))⟩,
    ⟨5, false, [], (some 38), none, .q (.bin .shl (.k (.int .i64 1)) (.t 37))⟩,
    ⟨6, false, [], (some 39), none, .q (.bin .sub (.t 38) (.k (.int .i64 1)))⟩,
    ⟨1, false, [], (some 34), none, .e (.call (.f 83) [.t 33])⟩,
    ⟨7, false, [], (some 40), none, .q (.bin .eql (.t 34) (.t 39))⟩] (.cond (.t 40)
  (.op (some 41) none (.q (.mov (.t 7)))
  (.op (some 4) none (.q (.mov (.t 41)))
  (.op (some 5) none (.q (.mov (.k (.bool true))))
  (.ret))))
  (.done)
  (.done))))))
  (.op (some 42) none (.q (.bin .add (.t 29) (.k (.int .i64 1))))
  (.op (some 29) none (.q (.mov (.t 42)))
  (.done)))))))
  (.op (some 4) none (.q (.mov (.k (.nils))))
  (.op (some 5) none (.q (.mov (.k (.bool false))))
  (.ret))))))))))))))))))))))))))))))
def o33 : Nat → List Nat := fun i => if i = 6 then [0, 2, 3, 4, 5, 6, 1, 7] else []
set_option maxRecDepth 100000 in
theorem t33 : (Try.f33.body.map fun c => tr Try.prog o33 Try.f33.ntmps c .done) = some c33 := by kernel_rfl
theorem r33 : trR Try.prog Try.f33.results.toList = some [.t 4, .t 5] := by kernel_rfl
theorem in33 {w0 : World} {args : List AV} {H : Hp} {Q : AV → Hp → Prop} (h : W Try.prog w0 c33 (retQ [.t 4, .t 5] Q) (env0 args) H) : ACalls Try.prog w0 33 args H Q :=
  ACalls.intro2 mixed Try.func33 rfl t33 r33 h

/-- laws.markIntS -/
def c34 : CC :=
  .op (some 4) none (.q (.mov (.k (.int .i64 0))))
  (.op (some 5) none (.q (.mov (.k (.int .i64 0))))
  (.block 0
  (.loop
  (.op (some 6) none (.q (.mov (.t 5)))
  (.op (some 7) none (.q (.mov (.t 0)))
  (.op (some 8) none (.q (.len (.t 7)))
  (.op (some 9) none (.q (.bin .lss (.t 6) (.t 8)))
  (.cond (.t 9)
  (.done)
  (.exit 0)
  (.block 1
  (.op (some 12) none (.q (.mov (.t 0)))
  (.op (some 13) none (.q (.mov (.t 5)))
  (.op (some 14) none (.q (.mov (.t 1)))
  (.op (some 15) none (.q (.idx 1 (.t 12) (.t 13)))
  (.op none none (.e (.store 1 (.t 15) (.t 14)))
  (.op (some 16) none (.q (.mov (.t 1)))
  (.op (some 17) none (.q (.bin .add (.t 16) (.k (.int .i64 1))))
  (.op (some 1) none (.q (.mov (.t 17)))
  (.done)))))))))
  (.op (some 10) none (.q (.mov (.t 5)))
  (.op (some 11) none (.q (.bin .add (.t 10) (.k (.int .i64 1))))
  (.op (some 5) none (.q (.mov (.t 11)))
  (.done)))))))))))
  (.op (some 18) none (.q (.mov (.t 1)))
  (.op (some 4) none (.q (.mov (.t 18)))
  (.ret)))))
def o34 : Nat → List Nat := fun _ => []
set_option maxRecDepth 100000 in
theorem t34 : (Try.f34.body.map fun c => tr Try.prog o34 Try.f34.ntmps c .done) = some c34 := by kernel_rfl
theorem r34 : trR Try.prog Try.f34.results.toList = some [.t 4] := by kernel_rfl
theorem in34 {w0 : World} {args : List AV} {H : Hp} {Q : AV → Hp → Prop} (h : W Try.prog w0 c34 (retQ [.t 4] Q) (env0 args) H) : ACalls Try.prog w0 34 args H Q :=
  ACalls.intro2 mixed Try.func34 rfl t34 r34 h

/-- laws.heldIntS -/
def c35 : CC :=
  .op (some 4) none (.q (.mov (.k (.int .i64 0))))
  (.op (some 5) none (.q (.mov (.k (.int .i64 0))))
  (.block 0
  (.loop
  (.op (some 6) none (.q (.mov (.t 5)))
  (.op (some 7) none (.q (.mov (.t 0)))
  (.op (some 8) none (.q (.len (.t 7)))
  (.op (some 9) none (.q (.bin .lss (.t 6) (.t 8)))
  (.cond (.t 9)
  (.done)
  (.exit 0)
  (.block 1
  (.op (some 12) none (.q (.mov (.t 0)))
  (.op (some 13) none (.q (.mov (.t 5)))
  (.op (some 14) none (.q (.idx 1 (.t 12) (.t 13)))
  (.op (some 15) none (.q (.load none (.t 14)))
  (.op (some 16) none (.q (.mov (.t 1)))
  (.op (some 17) none (.q (.bin .neq (.t 15) (.t 16)))
  (.cond (.t 17)
  (.op (some 4) none (.q (.mov (.k (.int .i64 (-1)))))
  (.ret))
  (.done)
  (.op (some 18) none (.q (.mov (.t 1)))
  (.op (some 19) none (.q (.bin .add (.t 18) (.k (.int .i64 1))))
  (.op (some 1) none (.q (.mov (.t 19)))
  (.done)))))))))))
  (.op (some 10) none (.q (.mov (.t 5)))
  (.op (some 11) none (.q (.bin .add (.t 10) (.k (.int .i64 1))))
  (.op (some 5) none (.q (.mov (.t 11)))
  (.done)))))))))))
  (.op (some 20) none (.q (.mov (.t 1)))
  (.op (some 4) none (.q (.mov (.t 20)))
  (.ret)))))
def o35 : Nat → List Nat := fun _ => []
set_option maxRecDepth 100000 in
theorem t35 : (Try.f35.body.map fun c => tr Try.prog o35 Try.f35.ntmps c .done) = some c35 := by kernel_rfl
theorem r35 : trR Try.prog Try.f35.results.toList = some [.t 4] := by kernel_rfl
theorem in35 {w0 : World} {args : List AV} {H : Hp} {Q : AV → Hp → Prop} (h : W Try.prog w0 c35 (retQ [.t 4] Q) (env0 args) H) : ACalls Try.prog w0 35 args H Q :=
  ACalls.intro2 mixed Try.func35 rfl t35 r35 h

/-- spec.QuotientOf -/
def c36 : CC :=
  .op (some 2) none (.l (.box 36 (.t 0)))
  (.op (some 4) none (.l (.alloc 36 [.nils, .nils]))
  (.op (some 5) none (.q (.mov (.k (.nils))))
  (.op (some 6) none (.q (.mov (.k (.bool false))))
  (.op (some 9) none (.q (.load (some 2) (.t 2)))
  (.op (some 10) none (.e (.call (.f 70) [.t 9]))
  (.op (some 11) none (.q (.not (.t 10)))
  (.op (some 12) none (.q (.mov (.t 11)))
  (.op (some 13) (some (12, false)) (.q (.load (some 2) (.t 2)))
  (.op (some 14) (some (12, false)) (.q (.mov (.t 1)))
  (.op (some 15) (some (12, false)) (.e (.call (.f 84) [.t 13, .t 14]))
  (.op (some 16) (some (12, false)) (.q (.not (.t 15)))
  (.op (some 17) none (.q (.pick (.t 12) (.k (.bool true)) (.t 16)))
  (.cond (.t 17)
  (.op (some 18) none (.q (.build [.nils, .nils] []))
  (.op none none (.e (.store 2 (.t 4) (.t 18)))
  (.op (some 5) none (.q (.mov (.k (.nils))))
  (.op (some 6) none (.q (.mov (.k (.bool false))))
  (.ret)))))
  (.done)
  (.op (some 20) none (.q (.load (some 2) (.t 2)))
  (.op (some 21) none (.q (.mov (.t 1)))
  (.op (some 22) none (.e (.call (.f 85) [.t 20, .t 21]))
  (.op (some 19) none (.q (.mov (.t 22)))
  (.op (some 23) none (.q (.ext (.t 19) 0))
  (.op (some 24) none (.q (.ext (.t 19) 1))
  (.op (some 7) none (.l (.alloc 36 [.nils, .nils]))
  (.op none none (.e (.store 2 (.t 7) (.t 23)))
  (.op (some 8) none (.q (.mov (.t 24)))
  (.op (some 25) none (.q (.load (some 2) (.t 7)))
  (.op (some 26) none (.q (.mov (.t 8)))
  (.op none none (.e (.store 2 (.t 4) (.t 25)))
  (.op (some 5) none (.q (.mov (.t 26)))
  (.op (some 6) none (.q (.mov (.k (.bool true))))
  (.ret))))))))))))))))))))))))))))
def o36 : Nat → List Nat := fun _ => []
set_option maxRecDepth 100000 in
theorem t36 : (Try.f36.body.map fun c => tr Try.prog o36 Try.f36.ntmps c .done) = some c36 := by kernel_rfl
theorem r36 : trR Try.prog Try.f36.results.toList = some [.c (some 2) 4, .t 5, .t 6] := by kernel_rfl
theorem in36 {w0 : World} {args : List AV} {H : Hp} {Q : AV → Hp → Prop} (h : W Try.prog w0 c36 (retQ [.c (some 2) 4, .t 5, .t 6] Q) (env0 args) H) : ACalls Try.prog w0 36 args H Q :=
  ACalls.intro2 mixed Try.func36 rfl t36 r36 h

/-- impl.QuotientOf -/
def c37 : CC :=
  .op (some 2) none (.l (.box 36 (.t 0)))
  (.op (some 4) none (.l (.alloc 36 [.nils, .nils]))
  (.op (some 5) none (.q (.mov (.k (.nils))))
  (.op (some 6) none (.q (.mov (.k (.bool false))))
  (.op (some 19) none (.q (.load (some 2) (.t 2)))
  (.op (some 20) none (.q (.mov (.t 1)))
  (.op (some 21) none (.e (.call (.f 86) [.t 19, .t 20]))
  (.op (some 22) none (.q (.not (.t 21)))
  (.cond (.t 22)
  (.op (some 23) none (.q (.build [.nils, .nils] []))
  (.op none none (.e (.store 2 (.t 4) (.t 23)))
  (.op (some 5) none (.q (.mov (.k (.nils))))
  (.op (some 6) none (.q (.mov (.k (.bool false))))
  (.ret)))))
  (.done)
  (.op (some 24) none (.q (.load (some 2) (.t 2)))
  (.op (some 25) none (.q (.mov (.t 1)))
  (.op (some 26) none (.e (.call (.f 87) [.t 24, .t 25]))
  (.op (some 7) none (.q (.mov (.t 26)))
  (.op (some 27) none (.l (.bsl 3 1 [.int .i64 0] 0 []))
  (.op (some 8) none (.l (.alloc 30 [.nils]))
  (.op none none (.e (.store 1 (.t 8) (.t 27)))
  (.op (some 28) none (.q (.mov (.t 7)))
  (.op (some 29) none (.q (.len (.t 28)))
  (.op (some 30) none (.q (.mov (.k (.int .i64 0))))
  (.block 0
  (.loop
  (.op (some 31) none (.q (.bin .lss (.t 30) (.t 29)))
  (.cond (.t 31)
  (.done)
  (.exit 0)
  (.block 1
  (.op (some 32) none (.q (.mov (.t 30)))
  (.op (some 33) none (.q (.idx 1 (.t 28) (.t 30)))
  (.op (some 34) none (.q (.load none (.t 33)))
  (.op (some 9) none (.q (.mov (.t 32)))
  (.op (some 10) none (.q (.mov (.t 34)))
  (.op (some 35) none (.q (.mov (.t 9)))
  (.op (some 36) none (.q (.mov (.t 10)))
  (.op (some 37) none (.q (.bin .eql (.t 35) (.t 36)))
  (.op (some 38) none (.q (.mov (.t 37)))
  (.op (some 39) (some (38, true)) (.q (.mov (.t 10)))
  (.op (some 40) (some (38, true)) (.q (.mov (.t 7)))
  (.op (some 41) (some (38, true)) (.q (.mov (.t 7)))
  (.op (some 42) (some (38, true)) (.q (.len (.t 41)))
  (.op (some 43) (some (38, true)) (.q (.bin .sub (.t 42) (.k (.int .i64 1))))
  (.op (some 44) (some (38, true)) (.q (.idx 1 (.t 40) (.t 43)))
  (.op (some 45) (some (38, true)) (.q (.load none (.t 44)))
  (.op (some 46) (some (38, true)) (.q (.bin .neq (.t 39) (.t 45)))
  (.op (some 47) none (.q (.pick (.t 38) (.t 46) (.k (.bool false))))
  (.cond (.t 47)
  (.op (some 48) none (.q (.load none (.t 8)))
  (.op (some 49) none (.q (.mov (.t 9)))
  (.op (some 50) none (.l (.bsl 3 1 [.int .i64 0] 1 [(0, .t 49)]))
  (.op (some 51) none (.e (.app 3 1 8 (.t 48) (.t 50)))
  (.op none none (.e (.store 1 (.t 8) (.t 51)))
  (.done))))))
  (.done)
  (.done))))))))))))))))))))
  (.op (some 52) none (.q (.bin .add (.t 30) (.k (.int .i64 1))))
  (.op (some 30) none (.q (.mov (.t 52)))
  (.done)))))))
  (.draws [⟨0, false, [], (some 53), none, .q (.load none (.t 8))⟩,
    ⟨1, false, [], (some 54), none, .q (.mov (.t 7))⟩,
    ⟨2, false, [], (some 55), none, .q (.mov (.t 7))⟩,
    ⟨3, false, [], (some 56), none, .q (.len (.t 55))⟩,
    ⟨4, false, [], (some 57), none, .q (.bin .sub (.t 56) (.k (.int .i64 1)))⟩,
    ⟨5, false, [], (some 58), none, .q (.idx 1 (.t 54) (.t 57))⟩,
    ⟨6, false, [], (some 59), none, .q (.load none (.t 58))⟩,
    ⟨7, false, [], (some 60), none, .l (.bsl 3 1 [.int .i64 0] 1 [(0, .t 59)])⟩,
    ⟨8, false, [], (some 61), none, .e (.app 3 1 8 (.t 53) (.t 60))⟩,
    ⟨9, false, [], none, none, .e (.store 1 (.t 8) (.t 61))⟩] (.op (some 62) none (.l (.bsl 3 1 [.int .i64 0] 0 []))
  (.op (some 11) none (.l (.alloc 30 [.nils]))
  (.op none none (.e (.store 1 (.t 11) (.t 62)))
  (.op (some 63) none (.q (.mov (.t 7)))
  (.op (some 64) none (.q (.len (.t 63)))
  (.op (some 65) none (.q (.mov (.k (.int .i64 0))))
  (.block 2
  (.loop
  (.op (some 66) none (.q (.bin .lss (.t 65) (.t 64)))
  (.cond (.t 66)
  (.done)
  (.exit 2)
  (.block 3
  (.op (some 67) none (.q (.idx 1 (.t 63) (.t 65)))
  (.op (some 68) none (.q (.load none (.t 67)))
  (.op (some 13) none (.q (.mov (.t 68)))
  (.draws [⟨0, true, [], (some 69), none, .q (.load none (.t 11))⟩,
    ⟨1, false, [], (some 70), none, .q (.load none (.t 8))⟩,
    ⟨2, false, [], (some 71), none, .q (.mov (.t 13))⟩,
    ⟨3, false, [], (some 72), none, .e (.call (.f 88) [.t 70, .t 71])⟩,
    ⟨4, false, [], (some 73), none, .l (.bsl 3 1 [.int .i64 0] 1 [(0, .t 72)])⟩,
    ⟨5, false, [], (some 74), none, .e (.app 3 1 8 (.t 69) (.t 73))⟩,
    ⟨6, false, [], none, none, .e (.store 1 (.t 11) (.t 74))⟩] (.done)))))
  (.op (some 75) none (.q (.bin .add (.t 65) (.k (.int .i64 1))))
  (.op (some 65) none (.q (.mov (.t 75)))
  (.done)))))))
  (.op (some 76) none (.q (.load none (.t 8)))
  (.op (some 77) none (.q (.len (.t 76)))
  (.op (some 78) none (.l (.mk 3 8 [.int .i64 0] (.t 77) (.t 77)))
  (.op (some 14) none (.q (.mov (.t 78)))
  (.op (some 79) none (.q (.load none (.t 8)))
  (.op (some 80) none (.q (.len (.t 79)))
  (.op (some 81) none (.q (.mov (.k (.int .i64 0))))
  (.block 4
  (.loop
  (.op (some 82) none (.q (.bin .lss (.t 81) (.t 80)))
  (.cond (.t 82)
  (.done)
  (.exit 4)
  (.block 5
  (.op (some 83) none (.q (.mov (.t 81)))
  (.op (some 84) none (.q (.idx 1 (.t 79) (.t 81)))
  (.op (some 85) none (.q (.load none (.t 84)))
  (.op (some 15) none (.q (.mov (.t 83)))
  (.op (some 16) none (.q (.mov (.t 85)))
  (.op (some 86) none (.q (.load none (.t 8)))
  (.op (some 87) none (.q (.len (.t 86)))
  (.op (some 88) none (.q (.mov (.k (.int .i64 0))))
  (.block 6
  (.loop
  (.op (some 89) none (.q (.bin .lss (.t 88) (.t 87)))
  (.cond (.t 89)
  (.done)
  (.exit 6)
  (.block 7
  (.op (some 90) none (.q (.mov (.t 88)))
  (.op (some 91) none (.q (.idx 1 (.t 86) (.t 88)))
  (.op (some 92) none (.q (.load none (.t 91)))
  (.op (some 17) none (.q (.mov (.t 90)))
  (.op (some 18) none (.q (.mov (.t 92)))
  (.op (some 93) none (.q (.mov (.t 1)))
  (.op (some 94) none (.q (.load (some 2) (.t 2)))
  (.op (some 95) none (.q (.mov (.t 16)))
  (.op (some 96) none (.q (.mov (.t 18)))
  (.op (some 97) none (.e (.call (.f 90) [.t 94, .t 95, .t 96]))
  (.op (some 98) none (.e (.call (.f 89) [.t 93, .t 97]))
  (.cond (.t 98)
  (.draws [⟨0, false, [], (some 99), none, .q (.mov (.t 14))⟩,
    ⟨1, false, [], (some 100), none, .q (.mov (.t 15))⟩,
    ⟨2, false, [], (some 101), none, .q (.idx 1 (.t 99) (.t 100))⟩,
    ⟨3, false, [], (some 102), none, .q (.load none (.t 101))⟩,
    ⟨4, false, [], (some 103), none, .q (.mov (.t 17))⟩,
    ⟨5, false, [], (some 104), none, .q (.bin .shl (.k (.int .i64 1)) (.t 103))⟩,
    ⟨6, false, [], (some 105), none, .q (.bin .or (.t 102) (.t 104))⟩,
    ⟨7, false, [], (some 106), none, .q (.idx 1 (.t 99) (.t 100))⟩,
    ⟨8, false, [], none, none, .e (.store 1 (.t 106) (.t 105))⟩] (.done))
  (.done)
  (.done)))))))))))))
  (.op (some 107) none (.q (.bin .add (.t 88) (.k (.int .i64 1))))
  (.op (some 88) none (.q (.mov (.t 107)))
  (.done)))))))
  (.done))))))))))
  (.op (some 108) none (.q (.bin .add (.t 81) (.k (.int .i64 1))))
  (.op (some 81) none (.q (.mov (.t 108)))
  (.done)))))))
  (.draws [⟨0, false, [], (some 109), none, .q (.mov (.t 14))⟩,
    ⟨1, false, [], (some 110), none, .q (.mkf 92 [.t 11, .t 2, .t 8])⟩,
    ⟨3, true, [], (some 112), none, .q (.load none (.t 11))⟩,
    ⟨2, false, [], (some 111), none, .e (.call (.f 91) [.t 109, .t 110])⟩,
    ⟨4, false, [], none, none, .e (.store 2 (.t 4) (.t 111))⟩,
    ⟨5, false, [], (some 5), none, .q (.mov (.t 112))⟩,
    ⟨6, false, [], (some 6), none, .q (.mov (.k (.bool true)))⟩] (.ret)))))))))))))))))))))))))))))))))))))
def o37 : Nat → List Nat := fun i => if i = 29 then [0, 1, 3, 2, 4, 5, 6] else if i = 26 then [0, 1, 2, 3, 4, 5, 6, 7, 8] else if i = 16 then [0, 1, 2, 3, 4, 5, 6] else if i = 11 then [0, 1, 2, 3, 4, 5, 6, 7, 8, 9] else []
set_option maxRecDepth 100000 in
theorem t37 : (Try.f37.body.map fun c => tr Try.prog o37 Try.f37.ntmps c .done) = some c37 := by kernel_rfl
theorem r37 : trR Try.prog Try.f37.results.toList = some [.c (some 2) 4, .t 5, .t 6] := by kernel_rfl
theorem in37 {w0 : World} {args : List AV} {H : Hp} {Q : AV → Hp → Prop} (h : W Try.prog w0 c37 (retQ [.c (some 2) 4, .t 5, .t 6] Q) (env0 args) H) : ACalls Try.prog w0 37 args H Q :=
  ACalls.intro2 mixed Try.func37 rfl t37 r37 h

/-- laws.heldAlgebra -/
def c38 : CC :=
  .op (some 2) none (.l (.box 36 (.t 0)))
  (.op (some 4) none (.q (.mov (.k (.int .i64 0))))
  (.op (some 5) none (.q (.fld 0 (.t 2)))
  (.op (some 6) none (.q (.load none (.t 5)))
  (.op (some 7) none (.q (.mov (.t 1)))
  (.op (some 8) none (.e (.call (.f 35) [.t 6, .t 7]))
  (.op (some 1) none (.q (.mov (.t 8)))
  (.op (some 9) none (.q (.mov (.t 1)))
  (.op (some 10) none (.q (.bin .lss (.t 9) (.k (.int .i64 0))))
  (.cond (.t 10)
  (.op (some 4) none (.q (.mov (.k (.int .i64 (-1)))))
  (.ret))
  (.done)
  (.op (some 11) none (.q (.fld 1 (.t 2)))
  (.op (some 12) none (.q (.load none (.t 11)))
  (.op (some 13) none (.q (.mov (.t 1)))
  (.op (some 14) none (.e (.call (.f 27) [.t 12, .t 13]))
  (.op (some 1) none (.q (.mov (.t 14)))
  (.op (some 15) none (.q (.mov (.t 1)))
  (.op (some 16) none (.q (.bin .lss (.t 15) (.k (.int .i64 0))))
  (.cond (.t 16)
  (.op (some 4) none (.q (.mov (.k (.int .i64 (-1)))))
  (.ret))
  (.done)
  (.op (some 17) none (.q (.mov (.t 1)))
  (.op (some 4) none (.q (.mov (.t 17)))
  (.ret))))))))))))))))))))
def o38 : Nat → List Nat := fun _ => []
set_option maxRecDepth 100000 in
theorem t38 : (Try.f38.body.map fun c => tr Try.prog o38 Try.f38.ntmps c .done) = some c38 := by kernel_rfl
theorem r38 : trR Try.prog Try.f38.results.toList = some [.t 4] := by kernel_rfl
theorem in38 {w0 : World} {args : List AV} {H : Hp} {Q : AV → Hp → Prop} (h : W Try.prog w0 c38 (retQ [.t 4] Q) (env0 args) H) : ACalls Try.prog w0 38 args H Q :=
  ACalls.intro2 mixed Try.func38 rfl t38 r38 h

/-- spec.LeastPower -/
def c39 : CC :=
  .op (some 3) none (.l (.box 36 (.t 0)))
  (.op (some 6) none (.q (.mov (.k (.int .i64 0))))
  (.op (some 7) none (.q (.mov (.k (.bool false))))
  (.op (some 13) none (.q (.load (some 2) (.t 3)))
  (.op (some 14) none (.e (.call (.f 70) [.t 13]))
  (.op (some 15) none (.q (.not (.t 14)))
  (.op (some 16) none (.q (.mov (.t 15)))
  (.op (some 17) (some (16, false)) (.q (.mov (.t 1)))
  (.op (some 18) (some (16, false)) (.e (.call (.f 74) [.t 17]))
  (.op (some 19) (some (16, false)) (.q (.not (.t 18)))
  (.op (some 20) none (.q (.pick (.t 16) (.k (.bool true)) (.t 19)))
  (.op (some 21) none (.q (.mov (.t 20)))
  (.op (some 22) (some (21, false)) (.q (.mov (.t 2)))
  (.op (some 23) (some (21, false)) (.e (.call (.f 74) [.t 22]))
  (.op (some 24) (some (21, false)) (.q (.not (.t 23)))
  (.op (some 25) none (.q (.pick (.t 21) (.k (.bool true)) (.t 24)))
  (.cond (.t 25)
  (.op (some 6) none (.q (.mov (.k (.int .i64 0))))
  (.op (some 7) none (.q (.mov (.k (.bool false))))
  (.ret)))
  (.done)
  (.op (some 26) none (.q (.fld 0 (.t 3)))
  (.op (some 27) none (.q (.load none (.t 26)))
  (.op (some 28) none (.q (.len (.t 27)))
  (.op (some 29) none (.e (.call (.f 75) [.t 28]))
  (.op (some 8) none (.q (.mov (.t 29)))
  (.op (some 9) none (.q (.mov (.k (.int .i64 0))))
  (.op (some 10) none (.q (.mov (.k (.int .i64 0))))
  (.block 0
  (.loop
  (.op (some 30) none (.q (.mov (.t 10)))
  (.op (some 31) none (.q (.mov (.t 8)))
  (.op (some 32) none (.q (.len (.t 31)))
  (.op (some 33) none (.q (.bin .lss (.t 30) (.t 32)))
  (.cond (.t 33)
  (.done)
  (.exit 0)
  (.block 1
  (.draws [⟨0, false, [], (some 36), none, .q (.load (some 2) (.t 3))⟩,
    ⟨1, false, [], (some 37), none, .q (.mov (.t 1))⟩,
    ⟨2, false, [], (some 38), none, .q (.mov (.t 8))⟩,
    ⟨3, false, [], (some 39), none, .q (.mov (.t 10))⟩,
    ⟨4, false, [], (some 40), none, .q (.idx 1 (.t 38) (.t 39))⟩,
    ⟨5, false, [], (some 41), none, .q (.load none (.t 40))⟩,
    ⟨6, false, [], (some 42), none, .e (.call (.f 76) [.t 36, .t 37, .k (.int .i64 0), .t 41])⟩,
    ⟨7, false, [], (some 11), none, .q (.mov (.t 42))⟩] (.draws [⟨0, false, [], (some 43), none, .q (.load (some 2) (.t 3))⟩,
    ⟨1, false, [], (some 44), none, .q (.mov (.t 2))⟩,
    ⟨2, false, [], (some 45), none, .q (.mov (.t 8))⟩,
    ⟨3, false, [], (some 46), none, .q (.mov (.t 10))⟩,
    ⟨4, false, [], (some 47), none, .q (.idx 1 (.t 45) (.t 46))⟩,
    ⟨5, false, [], (some 48), none, .q (.load none (.t 47))⟩,
    ⟨6, false, [], (some 49), none, .e (.call (.f 76) [.t 43, .t 44, .k (.int .i64 0), .t 48])⟩,
    ⟨7, false, [], (some 12), none, .q (.mov (.t 49))⟩] (.block 2
  (.loop
  (.draws [⟨0, false, [], (some 50), none, .q (.fld 0 (.t 3))⟩,
    ⟨1, true, [], (some 51), none, .q (.load none (.t 50))⟩,
    ⟨2, false, [], (some 52), none, .q (.load (some 2) (.t 3))⟩,
    ⟨3, false, [], (some 53), none, .q (.mov (.t 11))⟩,
    ⟨4, false, [], (some 54), none, .q (.mov (.t 9))⟩,
    ⟨6, false, [], (some 56), none, .q (.mov (.t 12))⟩,
    ⟨5, false, [], (some 55), none, .e (.call (.f 94) [.t 52, .t 53, .t 54])⟩,
    ⟨7, false, [], (some 57), none, .e (.call (.f 93) [.t 51, .t 55, .t 56])⟩,
    ⟨8, false, [], (some 58), none, .q (.not (.t 57))⟩] (.cond (.t 58)
  (.done)
  (.exit 2)
  (.block 3
  (.op (some 59) none (.q (.mov (.t 9)))
  (.op (some 60) none (.q (.bin .add (.t 59) (.k (.int .i64 1))))
  (.op (some 9) none (.q (.mov (.t 60)))
  (.op (some 61) none (.q (.mov (.t 9)))
  (.op (some 62) none (.q (.bin .gtr (.t 61) (.k (.int .i64 20))))
  (.cond (.t 62)
  (.op (some 6) none (.q (.mov (.k (.int .i64 0))))
  (.op (some 7) none (.q (.mov (.k (.bool false))))
  (.ret)))
  (.done)
  (.done)))))))
  (.done)))))
  (.done))))
  (.op (some 34) none (.q (.mov (.t 10)))
  (.op (some 35) none (.q (.bin .add (.t 34) (.k (.int .i64 1))))
  (.op (some 10) none (.q (.mov (.t 35)))
  (.done)))))))))))
  (.op (some 63) none (.q (.mov (.t 9)))
  (.op (some 6) none (.q (.mov (.t 63)))
  (.op (some 7) none (.q (.mov (.k (.bool true))))
  (.ret))))))))))))))))))))))))))))
def o39 : Nat → List Nat := fun i => if i = 10 then [0, 1, 2, 3, 4, 6, 5, 7, 8] else if i = 9 then [0, 1, 2, 3, 4, 5, 6, 7] else if i = 8 then [0, 1, 2, 3, 4, 5, 6, 7] else []
set_option maxRecDepth 100000 in
theorem t39 : (Try.f39.body.map fun c => tr Try.prog o39 Try.f39.ntmps c .done) = some c39 := by kernel_rfl
theorem r39 : trR Try.prog Try.f39.results.toList = some [.t 6, .t 7] := by kernel_rfl
theorem in39 {w0 : World} {args : List AV} {H : Hp} {Q : AV → Hp → Prop} (h : W Try.prog w0 c39 (retQ [.t 6, .t 7] Q) (env0 args) H) : ACalls Try.prog w0 39 args H Q :=
  ACalls.intro2 mixed Try.func39 rfl t39 r39 h

/-- impl.LeastPower -/
def c40 : CC :=
  .op (some 3) none (.l (.box 36 (.t 0)))
  (.op (some 4) none (.l (.box 30 (.t 1)))
  (.op (some 5) none (.l (.box 30 (.t 2)))
  (.op (some 6) none (.q (.mov (.k (.int .i64 0))))
  (.op (some 7) none (.q (.mov (.k (.bool false))))
  (.op (some 10) none (.q (.load (some 2) (.t 3)))
  (.op (some 11) none (.e (.call (.f 53) [.t 10]))
  (.op (some 12) none (.q (.not (.t 11)))
  (.op (some 13) none (.q (.mov (.t 12)))
  (.op (some 14) (some (13, false)) (.q (.load none (.t 4)))
  (.op (some 15) (some (13, false)) (.e (.call (.f 77) [.t 14]))
  (.op (some 16) (some (13, false)) (.q (.not (.t 15)))
  (.op (some 17) none (.q (.pick (.t 13) (.k (.bool true)) (.t 16)))
  (.op (some 18) none (.q (.mov (.t 17)))
  (.op (some 19) (some (18, false)) (.q (.load none (.t 5)))
  (.op (some 20) (some (18, false)) (.e (.call (.f 77) [.t 19]))
  (.op (some 21) (some (18, false)) (.q (.not (.t 20)))
  (.op (some 22) none (.q (.pick (.t 18) (.k (.bool true)) (.t 21)))
  (.cond (.t 22)
  (.op (some 6) none (.q (.mov (.k (.int .i64 0))))
  (.op (some 7) none (.q (.mov (.k (.bool false))))
  (.ret)))
  (.done)
  (.op (some 8) none (.l (.alloc 3 [.int .i64 0]))
  (.op none none (.e (.store 1 (.t 8) (.k (.int .i64 0))))
  (.block 0
  (.loop
  (.op (some 23) none (.q (.load none (.t 8)))
  (.op (some 24) none (.q (.bin .leq (.t 23) (.k (.int .i64 20))))
  (.cond (.t 24)
  (.done)
  (.exit 0)
  (.block 1
  (.op (some 9) none (.l (.alloc 4 [.bool false]))
  (.op none none (.e (.store 1 (.t 9) (.k (.bool true))))
  (.op (some 27) none (.q (.load (some 2) (.t 3)))
  (.op (some 28) none (.q (.mkf 95 [.t 9, .t 3, .t 4, .t 8, .t 5]))
  (.op (some 29) none (.e (.call (.f 78) [.t 27, .t 28]))
  (.op (some 30) none (.q (.load none (.t 9)))
  (.cond (.t 30)
  (.op (some 31) none (.q (.load none (.t 8)))
  (.op (some 6) none (.q (.mov (.t 31)))
  (.op (some 7) none (.q (.mov (.k (.bool true))))
  (.ret))))
  (.done)
  (.done))))))))
  (.op (some 32) none (.q (.load none (.t 8)))
  (.op (some 8) none (.l (.alloc 3 [.int .i64 0]))
  (.op none none (.e (.store 1 (.t 8) (.t 32)))
  (.op (some 25) none (.q (.load none (.t 8)))
  (.op (some 26) none (.q (.bin .add (.t 25) (.k (.int .i64 1))))
  (.op none none (.e (.store 1 (.t 8) (.t 26)))
  (.done))))))))))))
  (.op (some 6) none (.q (.mov (.k (.int .i64 0))))
  (.op (some 7) none (.q (.mov (.k (.bool false))))
  (.ret))))))))))))))))))))))))
def o40 : Nat → List Nat := fun _ => []
set_option maxRecDepth 100000 in
theorem t40 : (Try.f40.body.map fun c => tr Try.prog o40 Try.f40.ntmps c .done) = some c40 := by kernel_rfl
theorem r40 : trR Try.prog Try.f40.results.toList = some [.t 6, .t 7] := by kernel_rfl
theorem in40 {w0 : World} {args : List AV} {H : Hp} {Q : AV → Hp → Prop} (h : W Try.prog w0 c40 (retQ [.t 6, .t 7] Q) (env0 args) H) : ACalls Try.prog w0 40 args H Q :=
  ACalls.intro2 mixed Try.func40 rfl t40 r40 h

/-- spec.IsTrue -/
def c41 : CC :=
  .op (some 2) none (.l (.box 36 (.t 0)))
  (.op (some 4) none (.q (.mov (.k (.bool false))))
  (.op (some 7) none (.q (.load (some 2) (.t 2)))
  (.op (some 8) none (.e (.call (.f 70) [.t 7]))
  (.op (some 9) none (.q (.not (.t 8)))
  (.op (some 10) none (.q (.mov (.t 9)))
  (.op (some 11) (some (10, false)) (.q (.mov (.t 1)))
  (.op (some 12) (some (10, false)) (.e (.call (.f 74) [.t 11]))
  (.op (some 13) (some (10, false)) (.q (.not (.t 12)))
  (.op (some 14) none (.q (.pick (.t 10) (.k (.bool true)) (.t 13)))
  (.cond (.t 14)
  (.op (some 4) none (.q (.mov (.k (.bool false))))
  (.ret))
  (.done)
  (.op (some 16) none (.q (.load (some 2) (.t 2)))
  (.op (some 17) none (.q (.mov (.t 1)))
  (.op (some 18) none (.e (.call (.f 56) [.t 16, .t 17]))
  (.op (some 15) none (.q (.mov (.t 18)))
  (.op (some 19) none (.q (.ext (.t 15) 0))
  (.op (some 20) none (.q (.ext (.t 15) 1))
  (.op (some 5) none (.q (.mov (.t 19)))
  (.op (some 6) none (.q (.mov (.t 20)))
  (.op (some 21) none (.q (.mov (.t 6)))
  (.op (some 22) none (.q (.not (.t 21)))
  (.op (some 4) none (.q (.mov (.t 22)))
  (.ret))))))))))))))))))))))
def o41 : Nat → List Nat := fun _ => []
set_option maxRecDepth 100000 in
theorem t41 : (Try.f41.body.map fun c => tr Try.prog o41 Try.f41.ntmps c .done) = some c41 := by kernel_rfl
theorem r41 : trR Try.prog Try.f41.results.toList = some [.t 4] := by kernel_rfl
theorem in41 {w0 : World} {args : List AV} {H : Hp} {Q : AV → Hp → Prop} (h : W Try.prog w0 c41 (retQ [.t 4] Q) (env0 args) H) : ACalls Try.prog w0 41 args H Q :=
  ACalls.intro2 mixed Try.func41 rfl t41 r41 h

/-- impl.IsTrue -/
def c42 : CC :=
  .op (some 2) none (.l (.box 36 (.t 0)))
  (.op (some 4) none (.q (.mov (.k (.bool false))))
  (.op (some 8) none (.q (.load (some 2) (.t 2)))
  (.op (some 9) none (.q (.mov (.t 1)))
  (.op (some 10) none (.e (.call (.f 57) [.t 8, .t 9]))
  (.op (some 7) none (.q (.mov (.t 10)))
  (.op (some 11) none (.q (.ext (.t 7) 0))
  (.op (some 12) none (.q (.ext (.t 7) 1))
  (.op (some 5) none (.q (.mov (.t 11)))
  (.op (some 6) none (.q (.mov (.t 12)))
  (.op (some 13) none (.q (.load (some 2) (.t 2)))
  (.op (some 14) none (.e (.call (.f 53) [.t 13]))
  (.op (some 15) none (.q (.mov (.t 14)))
  (.op (some 16) (some (15, true)) (.q (.mov (.t 1)))
  (.op (some 17) (some (15, true)) (.e (.call (.f 77) [.t 16]))
  (.op (some 18) none (.q (.pick (.t 15) (.t 17) (.k (.bool false))))
  (.op (some 19) none (.q (.mov (.t 18)))
  (.op (some 20) (some (19, true)) (.q (.mov (.t 6)))
  (.op (some 21) (some (19, true)) (.q (.not (.t 20)))
  (.op (some 22) none (.q (.pick (.t 19) (.t 21) (.k (.bool false))))
  (.op (some 4) none (.q (.mov (.t 22)))
  (.ret)))))))))))))))))))))
def o42 : Nat → List Nat := fun _ => []
set_option maxRecDepth 100000 in
theorem t42 : (Try.f42.body.map fun c => tr Try.prog o42 Try.f42.ntmps c .done) = some c42 := by kernel_rfl
theorem r42 : trR Try.prog Try.f42.results.toList = some [.t 4] := by kernel_rfl
theorem in42 {w0 : World} {args : List AV} {H : Hp} {Q : AV → Hp → Prop} (h : W Try.prog w0 c42 (retQ [.t 4] Q) (env0 args) H) : ACalls Try.prog w0 42 args H Q :=
  ACalls.intro2 mixed Try.func42 rfl t42 r42 h

/-- spec.DrawIsNucleus -/
def c43 : CC :=
  .op (some 2) none (.l (.alloc 36 [.nils, .nils]))
  (.op (some 3) none (.q (.mov (.k (.nils))))
  (.op (some 6) none (.q (.mov (.t 0)))
  (.op (some 7) none (.e (.call (.f 58) [.t 6]))
  (.op (some 4) none (.q (.mov (.t 7)))
  (.op (some 8) none (.q (.mov (.t 4)))
  (.op (some 9) none (.e (.call (.f 98) [.t 8]))
  (.op (some 5) none (.l (.alloc 36 [.nils, .nils]))
  (.op none none (.e (.store 2 (.t 5) (.t 9)))
  (.draws [⟨0, true, [], (some 10), none, .q (.load (some 2) (.t 5))⟩,
    ⟨1, false, [], (some 11), none, .q (.mov (.t 4))⟩,
    ⟨2, false, [], (some 12), none, .q (.load (some 2) (.t 5))⟩,
    ⟨3, false, [], (some 13), none, .e (.call (.f 99) [.t 11, .t 12])⟩,
    ⟨4, false, [], none, none, .e (.store 2 (.t 2) (.t 10))⟩,
    ⟨5, false, [], (some 3), none, .q (.mov (.t 13))⟩] (.ret))))))))))
def o43 : Nat → List Nat := fun i => if i = 3 then [0, 1, 2, 3, 4, 5] else []
set_option maxRecDepth 100000 in
theorem t43 : (Try.f43.body.map fun c => tr Try.prog o43 Try.f43.ntmps c .done) = some c43 := by kernel_rfl
theorem r43 : trR Try.prog Try.f43.results.toList = some [.c (some 2) 2, .t 3] := by kernel_rfl
theorem in43 {w0 : World} {args : List AV} {H : Hp} {Q : AV → Hp → Prop} (h : W Try.prog w0 c43 (retQ [.c (some 2) 2, .t 3] Q) (env0 args) H) : ACalls Try.prog w0 43 args H Q :=
  ACalls.intro2 mixed Try.func43 rfl t43 r43 h

/-- impl.IsNucleus -/
def c44 : CC :=
  .op (some 2) none (.l (.box 36 (.t 0)))
  (.op (some 4) none (.q (.mov (.k (.bool false))))
  (.op (some 5) none (.q (.load (some 2) (.t 2)))
  (.op (some 6) none (.e (.call (.f 53) [.t 5]))
  (.op (some 7) none (.q (.mov (.t 6)))
  (.op (some 8) (some (7, true)) (.q (.load (some 2) (.t 2)))
  (.op (some 9) (some (7, true)) (.q (.mov (.t 1)))
  (.op (some 10) (some (7, true)) (.e (.call (.f 100) [.t 8, .t 9]))
  (.op (some 11) none (.q (.pick (.t 7) (.t 10) (.k (.bool false))))
  (.op (some 4) none (.q (.mov (.t 11)))
  (.ret))))))))))
def o44 : Nat → List Nat := fun _ => []
set_option maxRecDepth 100000 in
theorem t44 : (Try.f44.body.map fun c => tr Try.prog o44 Try.f44.ntmps c .done) = some c44 := by kernel_rfl
theorem r44 : trR Try.prog Try.f44.results.toList = some [.t 4] := by kernel_rfl
theorem in44 {w0 : World} {args : List AV} {H : Hp} {Q : AV → Hp → Prop} (h : W Try.prog w0 c44 (retQ [.t 4] Q) (env0 args) H) : ACalls Try.prog w0 44 args H Q :=
  ACalls.intro2 mixed Try.func44 rfl t44 r44 h

/-- spec.IsNucleus -/
def c45 : CC :=
  .op (some 2) none (.l (.box 36 (.t 0)))
  (.op (some 4) none (.q (.mov (.k (.bool false))))
  (.op (some 5) none (.q (.load (some 2) (.t 2)))
  (.op (some 6) none (.e (.call (.f 70) [.t 5]))
  (.op (some 7) none (.q (.mov (.t 6)))
  (.op (some 8) (some (7, true)) (.q (.load (some 2) (.t 2)))
  (.op (some 9) (some (7, true)) (.q (.mov (.t 1)))
  (.op (some 10) (some (7, true)) (.e (.call (.f 101) [.t 8, .t 9]))
  (.op (some 11) none (.q (.pick (.t 7) (.t 10) (.k (.bool false))))
  (.op (some 4) none (.q (.mov (.t 11)))
  (.ret))))))))))
def o45 : Nat → List Nat := fun _ => []
set_option maxRecDepth 100000 in
theorem t45 : (Try.f45.body.map fun c => tr Try.prog o45 Try.f45.ntmps c .done) = some c45 := by kernel_rfl
theorem r45 : trR Try.prog Try.f45.results.toList = some [.t 4] := by kernel_rfl
theorem in45 {w0 : World} {args : List AV} {H : Hp} {Q : AV → Hp → Prop} (h : W Try.prog w0 c45 (retQ [.t 4] Q) (env0 args) H) : ACalls Try.prog w0 45 args H Q :=
  ACalls.intro2 mixed Try.func45 rfl t45 r45 h

/-- impl.ImplyOf -/
def c46 : CC :=
  .op (some 3) none (.l (.box 36 (.t 0)))
  (.op (some 6) none (.q (.mov (.k (.int .i64 0))))
  (.op (some 7) none (.q (.load (some 2) (.t 3)))
  (.op (some 8) none (.q (.mov (.t 1)))
  (.op (some 9) none (.q (.mov (.t 2)))
  (.op (some 10) none (.l (.bsl 3 1 [.int .i64 0] 2 [(0, .t 8), (1, .t 9)]))
  (.op (some 11) none (.e (.call (.f 102) [.t 7, .t 10]))
  (.op (some 12) none (.q (.not (.t 11)))
  (.cond (.t 12)
  (.op (some 6) none (.q (.mov (.k (.int .i64 (-1)))))
  (.ret))
  (.done)
  (.op (some 13) none (.q (.load (some 2) (.t 3)))
  (.op (some 14) none (.q (.mov (.t 1)))
  (.op (some 15) none (.q (.mov (.t 2)))
  (.op (some 16) none (.e (.call (.f 90) [.t 13, .t 14, .t 15]))
  (.op (some 6) none (.q (.mov (.t 16)))
  (.ret))))))))))))))
def o46 : Nat → List Nat := fun _ => []
set_option maxRecDepth 100000 in
theorem t46 : (Try.f46.body.map fun c => tr Try.prog o46 Try.f46.ntmps c .done) = some c46 := by kernel_rfl
theorem r46 : trR Try.prog Try.f46.results.toList = some [.t 6] := by kernel_rfl
theorem in46 {w0 : World} {args : List AV} {H : Hp} {Q : AV → Hp → Prop} (h : W Try.prog w0 c46 (retQ [.t 6] Q) (env0 args) H) : ACalls Try.prog w0 46 args H Q :=
  ACalls.intro2 mixed Try.func46 rfl t46 r46 h

/-- spec.SizesOf -/
def c47 : CC :=
  .op (some 1) none (.l (.box 36 (.t 0)))
  (.op (some 2) none (.q (.mov (.k (.nils))))
  (.op (some 3) none (.q (.mov (.k (.bool false))))
  (.op (some 12) none (.q (.load (some 2) (.t 1)))
  (.op (some 13) none (.e (.call (.f 70) [.t 12]))
  (.op (some 14) none (.q (.not (.t 13)))
  (.op (some 15) none (.q (.mov (.t 14)))
  (.op (some 16) (some (15, false)) (.q (.fld 0 (.t 1)))
  (.op (some 17) (some (15, false)) (.q (.load none (.t 16)))
  (.op (some 18) (some (15, false)) (.e (.call (.f 103) [.t 17]))
  (.op (some 19) (some (15, false)) (.q (.not (.t 18)))
  (.op (some 20) none (.q (.pick (.t 15) (.k (.bool true)) (.t 19)))
  (.cond (.t 20)
  (.op (some 2) none (.q (.mov (.k (.nils))))
  (.op (some 3) none (.q (.mov (.k (.bool false))))
  (.ret)))
  (.done)
  (.op (some 22) none (.q (.load (some 2) (.t 1)))
  (.op (some 23) none (.e (.call (.f 65) [.k (.str ⟨#[100, 105, 118, 105, 115, 105, 98, 108, 101]⟩), .t 22]))
  (.op (some 21) none (.q (.mov (.t 23)))
  (.op (some 24) none (.q (.ext (.t 21) 0))
  (.op (some 25) none (.q (.ext (.t 21) 1))
  (.op (some 4) none (.q (.mov (.t 24)))
  (.op (some 5) none (.q (.mov (.t 25)))
  (.op (some 26) none (.q (.mov (.t 4)))
  (.op (some 27) none (.q (.not (.t 26)))
  (.cond (.t 27)
  (.op (some 2) none (.q (.mov (.k (.nils))))
  (.op (some 3) none (.q (.mov (.k (.bool false))))
  (.ret)))
  (.done)
  (.op (some 28) none (.l (.bsl 3 1 [.int .i64 0] 0 []))
  (.op (some 6) none (.q (.mov (.t 28)))
  (.op (some 7) none (.q (.mov (.k (.int .i64 0))))
  (.op (some 8) none (.q (.mov (.k (.int .i64 1))))
  (.block 0
  (.loop
  (.op (some 29) none (.q (.mov (.t 8)))
  (.op (some 30) none (.q (.fld 0 (.t 1)))
  (.op (some 31) none (.q (.load none (.t 30)))
  (.op (some 32) none (.q (.len (.t 31)))
  (.op (some 33) none (.q (.bin .lss (.t 29) (.t 32)))
  (.cond (.t 33)
  (.done)
  (.exit 0)
  (.block 1
  (.op (some 36) none (.q (.fld 1 (.t 1)))
  (.op (some 37) none (.q (.load none (.t 36)))
  (.op (some 38) none (.q (.mov (.t 8)))
  (.op (some 39) none (.q (.idx 1 (.t 37) (.t 38)))
  (.op (some 40) none (.q (.load none (.t 39)))
  (.op (some 41) none (.q (.mov (.t 8)))
  (.op (some 42) none (.q (.idx 1 (.t 40) (.t 41)))
  (.op (some 43) none (.q (.load none (.t 42)))
  (.op (some 44) none (.q (.mov (.t 8)))
  (.op (some 45) none (.q (.bin .eql (.t 43) (.t 44)))
  (.cond (.t 45)
  (.op (some 46) none (.q (.mov (.t 6)))
  (.op (some 47) none (.q (.mov (.t 8)))
  (.op (some 48) none (.q (.mov (.t 7)))
  (.op (some 49) none (.q (.bin .sub (.t 47) (.t 48)))
  (.op (some 50) none (.l (.bsl 3 1 [.int .i64 0] 1 [(0, .t 49)]))
  (.op (some 51) none (.e (.app 3 1 8 (.t 46) (.t 50)))
  (.op (some 6) none (.q (.mov (.t 51)))
  (.op (some 52) none (.q (.mov (.t 8)))
  (.op (some 7) none (.q (.mov (.t 52)))
  (.done))))))))))
  (.done)
  (.done))))))))))))
  (.op (some 34) none (.q (.mov (.t 8)))
  (.op (some 35) none (.q (.bin .add (.t 34) (.k (.int .i64 1))))
  (.op (some 8) none (.q (.mov (.t 35)))
  (.done))))))))))))
  (.op (some 53) none (.q (.mov (.t 6)))
  (.op (some 54) none (.e (.call (.f 104) [.t 53]))
  (.op (some 9) none (.l (.alloc 36 [.nils, .nils]))
  (.op none none (.e (.store 2 (.t 9) (.t 54)))
  (.op (some 10) none (.q (.mov (.k (.int .i64 0))))
  (.block 2
  (.loop
  (.op (some 55) none (.q (.mov (.t 10)))
  (.op (some 56) none (.q (.fld 0 (.t 1)))
  (.op (some 57) none (.q (.load none (.t 56)))
  (.op (some 58) none (.q (.len (.t 57)))
  (.op (some 59) none (.q (.bin .lss (.t 55) (.t 58)))
  (.cond (.t 59)
  (.done)
  (.exit 2)
  (.block 3
  (.op (some 11) none (.q (.mov (.k (.int .i64 0))))
  (.block 4
  (.loop
  (.op (some 62) none (.q (.mov (.t 11)))
  (.op (some 63) none (.q (.fld 0 (.t 1)))
  (.op (some 64) none (.q (.load none (.t 63)))
  (.op (some 65) none (.q (.len (.t 64)))
  (.op (some 66) none (.q (.bin .lss (.t 62) (.t 65)))
  (.cond (.t 66)
  (.done)
  (.exit 4)
  (.block 5
  (.draws [⟨0, false, [], (some 69), none, .q (.fld 0 (.t 9))⟩,
    ⟨1, false, [], (some 70), none, .q (.load none (.t 69))⟩,
    ⟨2, false, [], (some 71), none, .q (.mov (.t 10))⟩,
    ⟨3, false, [], (some 72), none, .q (.idx 1 (.t 70) (.t 71))⟩,
    ⟨4, false, [], (some 73), none, .q (.load none (.t 72))⟩,
    ⟨5, false, [], (some 74), none, .q (.fld 0 (.t 1))⟩,
    ⟨6, false, [], (some 75), none, .q (.load none (.t 74))⟩,
    ⟨7, false, [], (some 76), none, .q (.mov (.t 10))⟩,
    ⟨8, false, [], (some 77), none, .q (.idx 1 (.t 75) (.t 76))⟩,
    ⟨9, false, [], (some 78), none, .q (.load none (.t 77))⟩,
    ⟨10, false, [], (some 79), none, .q (.bin .neq (.t 73) (.t 78))⟩,
    ⟨11, false, [], (some 80), none, .q (.mov (.t 79))⟩,
    ⟨12, false, [], (some 81), (some (80, false)), .q (.fld 1 (.t 9))⟩,
    ⟨13, false, [], (some 82), (some (80, false)), .q (.load none (.t 81))⟩,
    ⟨14, false, [], (some 83), (some (80, false)), .q (.mov (.t 10))⟩,
    ⟨15, false, [], (some 84), (some (80, false)), .q (.idx 1 (.t 82) (.t 83))⟩,
    ⟨16, false, [], (some 85), (some (80, false)), .q (.load none (.t 84))⟩,
    ⟨17, false, [], (some 86), (some (80, false)), .q (.mov (.t 11))⟩,
    ⟨18, false, [], (some 87), (some (80, false)), .q (.idx 1 (.t 85) (.t 86))⟩,
    ⟨19, false, [], (some 88), (some (80, false)), .q (.load none (.t 87))⟩,
    ⟨20, false, [], (some 89), (some (80, false)), .q (.fld 1 (.t 1))⟩,
    ⟨21, false, [], (some 90), (some (80, false)), .q (.load none (.t 89))⟩,
    ⟨22, false, [], (some 91), (some (80, false)), .q (.mov (.t 10))⟩,
    ⟨23, false, [], (some 92), (some (80, false)), .q (.idx 1 (.t 90) (.t 91))⟩,
    ⟨24, false, [], (some 93), (some (80, false)), .q (.load none (.t 92))⟩,
    ⟨25, false, [], (some 94), (some (80, false)), .q (.mov (.t 11))⟩,
    ⟨26, false, [], (some 95), (some (80, false)), .q (.idx 1 (.t 93) (.t 94))⟩,
    ⟨27, false, [], (some 96), (some (80, false)), .q (.load none (.t 95))⟩,
    ⟨28, false, [], (some 97), (some (80, false)), .q (.bin .neq (.t 88) (.t 96))⟩,
    ⟨29, false, [], (some 98), none, .q (.pick (.t 80) (.k (.bool true)) (.t 97))⟩] (.cond (.t 98)
  (.op (some 2) none (.q (.mov (.k (.nils))))
  (.op (some 3) none (.q (.mov (.k (.bool false))))
  (.ret)))
  (.done)
  (.done)))
  (.op (some 67) none (.q (.mov (.t 11)))
  (.op (some 68) none (.q (.bin .add (.t 67) (.k (.int .i64 1))))
  (.op (some 11) none (.q (.mov (.t 68)))
  (.done))))))))))))
  (.done)))
  (.op (some 60) none (.q (.mov (.t 10)))
  (.op (some 61) none (.q (.bin .add (.t 60) (.k (.int .i64 1))))
  (.op (some 10) none (.q (.mov (.t 61)))
  (.done))))))))))))
  (.op (some 99) none (.q (.mov (.t 6)))
  (.op (some 2) none (.q (.mov (.t 99)))
  (.op (some 3) none (.q (.mov (.k (.bool true))))
  (.ret)))))))))))))))))))))))))))))))))))))
def o47 : Nat → List Nat := fun i => if i = 21 then [0, 1, 2, 3, 4, 5, 6, 7, 8, 9, 10, 11, 12, 13, 14, 15, 16, 17, 18, 19, 20, 21, 22, 23, 24, 25, 26, 27, 28, 29] else []
set_option maxRecDepth 100000 in
theorem t47 : (Try.f47.body.map fun c => tr Try.prog o47 Try.f47.ntmps c .done) = some c47 := by kernel_rfl
theorem r47 : trR Try.prog Try.f47.results.toList = some [.t 2, .t 3] := by kernel_rfl
theorem in47 {w0 : World} {args : List AV} {H : Hp} {Q : AV → Hp → Prop} (h : W Try.prog w0 c47 (retQ [.t 2, .t 3] Q) (env0 args) H) : ACalls Try.prog w0 47 args H Q :=
  ACalls.intro2 mixed Try.func47 rfl t47 r47 h

/-- impl.SizesOf -/
def c48 : CC :=
  .op (some 1) none (.l (.box 36 (.t 0)))
  (.op (some 2) none (.q (.mov (.k (.nils))))
  (.op (some 3) none (.q (.mov (.k (.bool false))))
  (.op (some 7) none (.q (.load (some 2) (.t 1)))
  (.op (some 8) none (.e (.call (.f 53) [.t 7]))
  (.op (some 9) none (.q (.not (.t 8)))
  (.cond (.t 9)
  (.op (some 2) none (.q (.mov (.k (.nils))))
  (.op (some 3) none (.q (.mov (.k (.bool false))))
  (.ret)))
  (.done)
  (.op (some 4) none (.l (.alloc 95 [.nilf]))
  (.op (some 10) none (.q (.mkf 105 [.t 1, .t 4]))
  (.op none none (.e (.store 1 (.t 4) (.t 10)))
  (.op (some 12) none (.q (.load none (.t 4)))
  (.op (some 13) none (.l (.bsl 3 1 [.int .i64 0] 0 []))
  (.op (some 14) none (.q (.fld 0 (.t 1)))
  (.op (some 15) none (.q (.load none (.t 14)))
  (.op (some 16) none (.q (.len (.t 15)))
  (.op (some 17) none (.q (.bin .sub (.t 16) (.k (.int .i64 1))))
  (.op (some 18) none (.e (.call (.t 12) [.t 13, .t 17]))
  (.op (some 11) none (.q (.mov (.t 18)))
  (.op (some 19) none (.q (.ext (.t 11) 0))
  (.op (some 20) none (.q (.ext (.t 11) 1))
  (.op (some 5) none (.q (.mov (.t 19)))
  (.op (some 6) none (.q (.mov (.t 20)))
  (.op (some 21) none (.q (.mov (.t 6)))
  (.op (some 22) none (.q (.not (.t 21)))
  (.cond (.t 22)
  (.op (some 2) none (.q (.mov (.k (.nils))))
  (.op (some 3) none (.q (.mov (.k (.bool false))))
  (.ret)))
  (.done)
  (.op (some 23) none (.q (.mov (.t 5)))
  (.op (some 2) none (.q (.mov (.t 23)))
  (.op (some 3) none (.q (.mov (.k (.bool true))))
  (.ret))))))))))))))))))))))))))))
def o48 : Nat → List Nat := fun _ => []
set_option maxRecDepth 100000 in
theorem t48 : (Try.f48.body.map fun c => tr Try.prog o48 Try.f48.ntmps c .done) = some c48 := by kernel_rfl
theorem r48 : trR Try.prog Try.f48.results.toList = some [.t 2, .t 3] := by kernel_rfl
theorem in48 {w0 : World} {args : List AV} {H : Hp} {Q : AV → Hp → Prop} (h : W Try.prog w0 c48 (retQ [.t 2, .t 3] Q) (env0 args) H) : ACalls Try.prog w0 48 args H Q :=
  ACalls.intro2 mixed Try.func48 rfl t48 r48 h

/-- spec.DrawPartsOf -/
def c49 : CC :=
  .op (some 2) none (.l (.alloc 36 [.nils, .nils]))
  (.op (some 3) none (.q (.mov (.t 0)))
  (.op (some 4) none (.e (.call (.f 58) [.t 3]))
  (.op (some 5) none (.e (.call (.f 98) [.t 4]))
  (.op none none (.e (.store 2 (.t 2) (.t 5)))
  (.ret)))))
def o49 : Nat → List Nat := fun _ => []
set_option maxRecDepth 100000 in
theorem t49 : (Try.f49.body.map fun c => tr Try.prog o49 Try.f49.ntmps c .done) = some c49 := by kernel_rfl
theorem r49 : trR Try.prog Try.f49.results.toList = some [.c (some 2) 2] := by kernel_rfl
theorem in49 {w0 : World} {args : List AV} {H : Hp} {Q : AV → Hp → Prop} (h : W Try.prog w0 c49 (retQ [.c (some 2) 2] Q) (env0 args) H) : ACalls Try.prog w0 49 args H Q :=
  ACalls.intro2 mixed Try.func49 rfl t49 r49 h

/-- impl.PartsOf -/
def c50 : CC :=
  .op (some 1) none (.l (.box 36 (.t 0)))
  (.op (some 2) none (.q (.mov (.k (.nils))))
  (.op (some 5) none (.q (.load (some 2) (.t 1)))
  (.op (some 6) none (.e (.call (.f 53) [.t 5]))
  (.op (some 7) none (.q (.not (.t 6)))
  (.cond (.t 7)
  (.op (some 2) none (.q (.mov (.k (.nils))))
  (.ret))
  (.done)
  (.op (some 8) none (.l (.bsl 3 1 [.int .i64 0] 0 []))
  (.op (some 3) none (.q (.mov (.t 8)))
  (.op (some 4) none (.q (.mov (.k (.int .i64 0))))
  (.block 0
  (.loop
  (.op (some 9) none (.q (.mov (.t 4)))
  (.op (some 10) none (.q (.fld 0 (.t 1)))
  (.op (some 11) none (.q (.load none (.t 10)))
  (.op (some 12) none (.q (.len (.t 11)))
  (.op (some 13) none (.q (.bin .shl (.k (.int .i64 1)) (.t 12)))
  (.op (some 14) none (.q (.bin .lss (.t 9) (.t 13)))
  (.cond (.t 14)
  (.done)
  (.exit 0)
  (.block 1
  (.op (some 17) none (.q (.load (some 2) (.t 1)))
  (.op (some 18) none (.q (.mov (.t 4)))
  (.op (some 19) none (.e (.call (.f 109) [.t 17, .t 18]))
  (.cond (.t 19)
  (.op (some 20) none (.q (.mov (.t 3)))
  (.op (some 21) none (.q (.mov (.t 4)))
  (.op (some 22) none (.l (.bsl 3 1 [.int .i64 0] 1 [(0, .t 21)]))
  (.op (some 23) none (.e (.app 3 1 8 (.t 20) (.t 22)))
  (.op (some 3) none (.q (.mov (.t 23)))
  (.done))))))
  (.done)
  (.done)))))
  (.op (some 15) none (.q (.mov (.t 4)))
  (.op (some 16) none (.q (.bin .add (.t 15) (.k (.int .i64 1))))
  (.op (some 4) none (.q (.mov (.t 16)))
  (.done)))))))))))))
  (.op (some 24) none (.q (.mov (.t 3)))
  (.op (some 2) none (.q (.mov (.t 24)))
  (.ret))))))))))))
def o50 : Nat → List Nat := fun _ => []
set_option maxRecDepth 100000 in
theorem t50 : (Try.f50.body.map fun c => tr Try.prog o50 Try.f50.ntmps c .done) = some c50 := by kernel_rfl
theorem r50 : trR Try.prog Try.f50.results.toList = some [.t 2] := by kernel_rfl
theorem in50 {w0 : World} {args : List AV} {H : Hp} {Q : AV → Hp → Prop} (h : W Try.prog w0 c50 (retQ [.t 2] Q) (env0 args) H) : ACalls Try.prog w0 50 args H Q :=
  ACalls.intro2 mixed Try.func50 rfl t50 r50 h

/-- laws.equalInts -/
def c51 : CC :=
  .op (some 4) none (.q (.mov (.k (.bool false))))
  (.op (some 6) none (.q (.mov (.t 0)))
  (.op (some 7) none (.q (.len (.t 6)))
  (.op (some 8) none (.q (.mov (.t 1)))
  (.op (some 9) none (.q (.len (.t 8)))
  (.op (some 10) none (.q (.bin .neq (.t 7) (.t 9)))
  (.cond (.t 10)
  (.op (some 4) none (.q (.mov (.k (.bool false))))
  (.ret))
  (.done)
  (.op (some 5) none (.q (.mov (.k (.int .i64 0))))
  (.block 0
  (.loop
  (.op (some 11) none (.q (.mov (.t 5)))
  (.op (some 12) none (.q (.mov (.t 0)))
  (.op (some 13) none (.q (.len (.t 12)))
  (.op (some 14) none (.q (.bin .lss (.t 11) (.t 13)))
  (.cond (.t 14)
  (.done)
  (.exit 0)
  (.block 1
  (.draws [⟨0, false, [], (some 17), none, .q (.mov (.t 0))⟩,
    ⟨1, false, [], (some 18), none, .q (.mov (.t 5))⟩,
    ⟨2, false, [], (some 19), none, .q (.idx 1 (.t 17) (.t 18))⟩,
    ⟨3, false, [], (some 20), none, .q (.load none (.t 19))⟩,
    ⟨4, false, [], (some 21), none, .q (.mov (.t 1))⟩,
    ⟨5, false, [], (some 22), none, .q (.mov (.t 5))⟩,
    ⟨6, false, [], (some 23), none, .q (.idx 1 (.t 21) (.t 22))⟩,
    ⟨7, false, [], (some 24), none, .q (.load none (.t 23))⟩,
    ⟨8, false, [], (some 25), none, .q (.bin .neq (.t 20) (.t 24))⟩] (.cond (.t 25)
  (.op (some 4) none (.q (.mov (.k (.bool false))))
  (.ret))
  (.done)
  (.done)))
  (.op (some 15) none (.q (.mov (.t 5)))
  (.op (some 16) none (.q (.bin .add (.t 15) (.k (.int .i64 1))))
  (.op (some 5) none (.q (.mov (.t 16)))
  (.done)))))))))))
  (.op (some 4) none (.q (.mov (.k (.bool true))))
  (.ret))))))))))
def o51 : Nat → List Nat := fun i => if i = 6 then [0, 1, 2, 3, 4, 5, 6, 7, 8] else []
set_option maxRecDepth 100000 in
theorem t51 : (Try.f51.body.map fun c => tr Try.prog o51 Try.f51.ntmps c .done) = some c51 := by kernel_rfl
theorem r51 : trR Try.prog Try.f51.results.toList = some [.t 4] := by kernel_rfl
theorem in51 {w0 : World} {args : List AV} {H : Hp} {Q : AV → Hp → Prop} (h : W Try.prog w0 c51 (retQ [.t 4] Q) (env0 args) H) : ACalls Try.prog w0 51 args H Q :=
  ACalls.intro2 mixed Try.func51 rfl t51 r51 h

/-- spec.PartsOf -/
def c52 : CC :=
  .op (some 1) none (.l (.box 36 (.t 0)))
  (.op (some 2) none (.q (.mov (.k (.nils))))
  (.op (some 5) none (.q (.load (some 2) (.t 1)))
  (.op (some 6) none (.e (.call (.f 70) [.t 5]))
  (.op (some 7) none (.q (.not (.t 6)))
  (.cond (.t 7)
  (.op (some 2) none (.q (.mov (.k (.nils))))
  (.ret))
  (.done)
  (.op (some 8) none (.l (.bsl 3 1 [.int .i64 0] 0 []))
  (.op (some 3) none (.q (.mov (.t 8)))
  (.op (some 4) none (.q (.mov (.k (.int .i64 0))))
  (.block 0
  (.loop
  (.op (some 9) none (.q (.mov (.t 4)))
  (.op (some 10) none (.q (.fld 0 (.t 1)))
  (.op (some 11) none (.q (.load none (.t 10)))
  (.op (some 12) none (.q (.len (.t 11)))
  (.op (some 13) none (.e (.call (.f 82) [.t 12]))
  (.op (some 14) none (.q (.bin .lss (.t 9) (.t 13)))
  (.cond (.t 14)
  (.done)
  (.exit 0)
  (.block 1
  (.op (some 17) none (.q (.load (some 2) (.t 1)))
  (.op (some 18) none (.q (.mov (.t 4)))
  (.op (some 19) none (.e (.call (.f 110) [.t 17, .t 18]))
  (.cond (.t 19)
  (.op (some 20) none (.q (.mov (.t 3)))
  (.op (some 21) none (.q (.mov (.t 4)))
  (.op (some 22) none (.l (.bsl 3 1 [.int .i64 0] 1 [(0, .t 21)]))
  (.op (some 23) none (.e (.app 3 1 8 (.t 20) (.t 22)))
  (.op (some 3) none (.q (.mov (.t 23)))
  (.done))))))
  (.done)
  (.done)))))
  (.op (some 15) none (.q (.mov (.t 4)))
  (.op (some 16) none (.q (.bin .add (.t 15) (.k (.int .i64 1))))
  (.op (some 4) none (.q (.mov (.t 16)))
  (.done)))))))))))))
  (.op (some 24) none (.q (.mov (.t 3)))
  (.op (some 2) none (.q (.mov (.t 24)))
  (.ret))))))))))))
def o52 : Nat → List Nat := fun _ => []
set_option maxRecDepth 100000 in
theorem t52 : (Try.f52.body.map fun c => tr Try.prog o52 Try.f52.ntmps c .done) = some c52 := by kernel_rfl
theorem r52 : trR Try.prog Try.f52.results.toList = some [.t 2] := by kernel_rfl
theorem in52 {w0 : World} {args : List AV} {H : Hp} {Q : AV → Hp → Prop} (h : W Try.prog w0 c52 (retQ [.t 2] Q) (env0 args) H) : ACalls Try.prog w0 52 args H Q :=
  ACalls.intro2 mixed Try.func52 rfl t52 r52 h

/-- impl.ValidAlgebra -/
def c53 : CC :=
  .op (some 1) none (.l (.box 36 (.t 0)))
  (.op (some 2) none (.q (.mov (.k (.bool false))))
  (.op (some 9) none (.q (.fld 0 (.t 1)))
  (.op (some 10) none (.q (.load none (.t 9)))
  (.op (some 11) none (.q (.len (.t 10)))
  (.op (some 3) none (.l (.alloc 3 [.int .i64 0]))
  (.op none none (.e (.store 1 (.t 3) (.t 11)))
  (.op (some 12) none (.q (.fld 0 (.t 1)))
  (.op (some 13) none (.q (.load none (.t 12)))
  (.op (some 14) none (.e (.call (.f 111) [.t 13]))
  (.op (some 15) none (.q (.not (.t 14)))
  (.op (some 16) none (.q (.mov (.t 15)))
  (.op (some 17) (some (16, false)) (.q (.fld 1 (.t 1)))
  (.op (some 18) (some (16, false)) (.q (.load none (.t 17)))
  (.op (some 19) (some (16, false)) (.q (.len (.t 18)))
  (.op (some 20) (some (16, false)) (.q (.load none (.t 3)))
  (.op (some 21) (some (16, false)) (.q (.bin .neq (.t 19) (.t 20)))
  (.op (some 22) none (.q (.pick (.t 16) (.k (.bool true)) (.t 21)))
  (.cond (.t 22)
  (.op (some 2) none (.q (.mov (.k (.bool false))))
  (.ret))
  (.done)
  (.op (some 23) none (.q (.fld 1 (.t 1)))
  (.op (some 24) none (.q (.load none (.t 23)))
  (.op (some 25) none (.q (.len (.t 24)))
  (.op (some 26) none (.q (.mov (.k (.int .i64 0))))
  (.block 0
  (.loop
  (.op (some 27) none (.q (.bin .lss (.t 26) (.t 25)))
  (.cond (.t 27)
  (.done)
  (.exit 0)
  (.block 1
  (.op (some 28) none (.q (.idx 1 (.t 24) (.t 26)))
  (.op (some 29) none (.q (.load none (.t 28)))
  (.op (some 5) none (.q (.mov (.t 29)))
  (.op (some 30) none (.q (.mov (.t 5)))
  (.op (some 31) none (.q (.len (.t 30)))
  (.op (some 32) none (.q (.load none (.t 3)))
  (.op (some 33) none (.q (.bin .neq (.t 31) (.t 32)))
  (.op (some 34) none (.q (.mov (.t 33)))
  (.op (some 35) (some (34, false)) (.q (.mov (.t 5)))
  (.op (some 36) (some (34, false)) (.q (.mkf 113 [.t 3]))
  (.op (some 37) (some (34, false)) (.e (.call (.f 112) [.t 35, .t 36]))
  (.op (some 38) none (.q (.pick (.t 34) (.k (.bool true)) (.t 37)))
  (.cond (.t 38)
  (.op (some 2) none (.q (.mov (.k (.bool false))))
  (.ret))
  (.done)
  (.done))))))))))))))
  (.op (some 39) none (.q (.bin .add (.t 26) (.k (.int .i64 1))))
  (.op (some 26) none (.q (.mov (.t 39)))
  (.done)))))))
  (.op (some 40) none (.q (.fld 0 (.t 1)))
  (.op (some 41) none (.q (.load none (.t 40)))
  (.op (some 42) none (.q (.len (.t 41)))
  (.op (some 43) none (.q (.mov (.k (.int .i64 0))))
  (.block 2
  (.loop
  (.op (some 44) none (.q (.bin .lss (.t 43) (.t 42)))
  (.cond (.t 44)
  (.done)
  (.exit 2)
  (.block 3
  (.op (some 45) none (.q (.mov (.t 43)))
  (.op (some 6) none (.q (.mov (.t 45)))
  (.draws [⟨0, false, [], (some 46), none, .q (.fld 1 (.t 1))⟩,
    ⟨1, false, [], (some 47), none, .q (.load none (.t 46))⟩,
    ⟨2, false, [], (some 48), none, .q (.mov (.t 6))⟩,
    ⟨3, false, [], (some 49), none, .q (.idx 1 (.t 47) (.t 48))⟩,
    ⟨4, false, [], (some 50), none, .q (.load none (.t 49))⟩,
    ⟨5, false, [], (some 51), none, .q (.load none (.t 3))⟩,
    ⟨6, false, [], (some 52), none, .q (.bin .sub (.t 51) (.k (.int .i64 1)))⟩,
    ⟨7, false, [], (some 53), none, .q (.idx 1 (.t 50) (.t 52))⟩,
    ⟨8, false, [], (some 54), none, .q (.load none (.t 53))⟩,
    ⟨9, false, [], (some 55), none, .q (.mov (.t 6))⟩,
    ⟨10, false, [], (some 56), none, .q (.bin .neq (.t 54) (.t 55))⟩,
    ⟨11, false, [], (some 57), none, .q (.mov (.t 56))⟩,
    ⟨12, false, [], (some 58), (some (57, false)), .q (.fld 1 (.t 1))⟩,
    ⟨13, false, [], (some 59), (some (57, false)), .q (.load none (.t 58))⟩,
    ⟨14, false, [], (some 60), (some (57, false)), .q (.mov (.t 6))⟩,
    ⟨15, false, [], (some 61), (some (57, false)), .q (.idx 1 (.t 59) (.t 60))⟩,
    ⟨16, false, [], (some 62), (some (57, false)), .q (.load none (.t 61))⟩,
    ⟨17, false, [], (some 63), (some (57, false)), .q (.idx 1 (.t 62) (.k (.int .i64 0)))⟩,
    ⟨18, false, [], (some 64), (some (57, false)), .q (.load none (.t 63))⟩,
    ⟨19, false, [], (some 65), (some (57, false)), .q (.bin .neq (.t 64) (.k (.int .i64 0)))⟩,
    ⟨20, false, [], (some 66), none, .q (.pick (.t 57) (.k (.bool true)) (.t 65))⟩] (.cond (.t 66)
  (.op (some 2) none (.q (.mov (.k (.bool false))))
  (.ret))
  (.done)
  (.op (some 67) none (.q (.fld 0 (.t 1)))
  (.op (some 68) none (.q (.load none (.t 67)))
  (.op (some 69) none (.q (.len (.t 68)))
  (.op (some 70) none (.q (.mov (.k (.int .i64 0))))
  (.block 4
  (.loop
  (.op (some 71) none (.q (.bin .lss (.t 70) (.t 69)))
  (.cond (.t 71)
  (.done)
  (.exit 4)
  (.block 5
  (.op (some 72) none (.q (.mov (.t 70)))
  (.op (some 7) none (.q (.mov (.t 72)))
  (.draws [⟨0, false, [], (some 73), none, .q (.fld 1 (.t 1))⟩,
    ⟨1, false, [], (some 74), none, .q (.load none (.t 73))⟩,
    ⟨2, false, [], (some 75), none, .q (.mov (.t 6))⟩,
    ⟨3, false, [], (some 76), none, .q (.idx 1 (.t 74) (.t 75))⟩,
    ⟨4, false, [], (some 77), none, .q (.load none (.t 76))⟩,
    ⟨5, false, [], (some 78), none, .q (.mov (.t 7))⟩,
    ⟨6, false, [], (some 79), none, .q (.idx 1 (.t 77) (.t 78))⟩,
    ⟨7, false, [], (some 80), none, .q (.load none (.t 79))⟩,
    ⟨8, false, [], (some 81), none, .q (.fld 1 (.t 1))⟩,
    ⟨9, false, [], (some 82), none, .q (.load none (.t 81))⟩,
    ⟨10, false, [], (some 83), none, .q (.mov (.t 7))⟩,
    ⟨11, false, [], (some 84), none, .q (.idx 1 (.t 82) (.t 83))⟩,
    ⟨12, false, [], (some 85), none, .q (.load none (.t 84))⟩,
    ⟨13, false, [], (some 86), none, .q (.mov (.t 6))⟩,
    ⟨14, false, [], (some 87), none, .q (.idx 1 (.t 85) (.t 86))⟩,
    ⟨15, false, [], (some 88), none, .q (.load none (.t 87))⟩,
    ⟨16, false, [], (some 89), none, .q (.bin .neq (.t 80) (.t 88))⟩] (.cond (.t 89)
  (.op (some 2) none (.q (.mov (.k (.bool false))))
  (.ret))
  (.done)
  (.op (some 90) none (.q (.fld 0 (.t 1)))
  (.op (some 91) none (.q (.load none (.t 90)))
  (.op (some 92) none (.q (.len (.t 91)))
  (.op (some 93) none (.q (.mov (.k (.int .i64 0))))
  (.block 6
  (.loop
  (.op (some 94) none (.q (.bin .lss (.t 93) (.t 92)))
  (.cond (.t 94)
  (.done)
  (.exit 6)
  (.block 7
  (.op (some 95) none (.q (.mov (.t 93)))
  (.op (some 8) none (.q (.mov (.t 95)))
  (.draws [⟨0, false, [], (some 96), none, .q (.fld 1 (.t 1))⟩,
    ⟨1, false, [], (some 97), none, .q (.load none (.t 96))⟩,
    ⟨2, false, [], (some 98), none, .q (.fld 1 (.t 1))⟩,
    ⟨3, false, [], (some 99), none, .q (.load none (.t 98))⟩,
    ⟨4, false, [], (some 100), none, .q (.mov (.t 6))⟩,
    ⟨5, false, [], (some 101), none, .q (.idx 1 (.t 99) (.t 100))⟩,
    ⟨6, false, [], (some 102), none, .q (.load none (.t 101))⟩,
    ⟨7, false, [], (some 103), none, .q (.mov (.t 7))⟩,
    ⟨8, false, [], (some 104), none, .q (.idx 1 (.t 102) (.t 103))⟩,
    ⟨9, false, [], (some 105), none, .q (.load none (.t 104))⟩,
    ⟨10, false, [], (some 106), none, .q (.idx 1 (.t 97) (.t 105))⟩,
    ⟨11, false, [], (some 107), none, .q (.load none (.t 106))⟩,
    ⟨12, false, [], (some 108), none, .q (.mov (.t 8))⟩,
    ⟨13, false, [], (some 109), none, .q (.idx 1 (.t 107) (.t 108))⟩,
    ⟨14, false, [], (some 110), none, .q (.load none (.t 109))⟩,
    ⟨15, false, [], (some 111), none, .q (.fld 1 (.t 1))⟩,
    ⟨16, false, [], (some 112), none, .q (.load none (.t 111))⟩,
    ⟨17, false, [], (some 113), none, .q (.mov (.t 6))⟩,
    ⟨18, false, [], (some 114), none, .q (.idx 1 (.t 112) (.t 113))⟩,
    ⟨19, false, [], (some 115), none, .q (.load none (.t 114))⟩,
    ⟨20, false, [], (some 116), none, .q (.fld 1 (.t 1))⟩,
    ⟨21, false, [], (some 117), none, .q (.load none (.t 116))⟩,
    ⟨22, false, [], (some 118), none, .q (.mov (.t 7))⟩,
    ⟨23, false, [], (some 119), none, .q (.idx 1 (.t 117) (.t 118))⟩,
    ⟨24, false, [], (some 120), none, .q (.load none (.t 119))⟩,
    ⟨25, false, [], (some 121), none, .q (.mov (.t 8))⟩,
    ⟨26, false, [], (some 122), none, .q (.idx 1 (.t 120) (.t 121))⟩,
    ⟨27, false, [], (some 123), none, .q (.load none (.t 122))⟩,
    ⟨28, false, [], (some 124), none, .q (.idx 1 (.t 115) (.t 123))⟩,
    ⟨29, false, [], (some 125), none, .q (.load none (.t 124))⟩,
    ⟨30, false, [], (some 126), none, .q (.bin .neq (.t 110) (.t 125))⟩,
    ⟨31, false, [], (some 127), none, .q (.mov (.t 126))⟩,
    ⟨32, false, [], (some 128), (some (127, false)), .q (.fld 1 (.t 1))⟩,
    ⟨33, true, [], (some 129), (some (127, false)), .q (.load none (.t 128))⟩,
    ⟨34, false, [], (some 130), (some (127, false)), .q (.mov (.t 6))⟩,
    ⟨35, false, [], (some 131), (some (127, false)), .q (.idx 1 (.t 129) (.t 130))⟩,
    ⟨36, true, [], (some 132), (some (127, false)), .q (.load none (.t 131))⟩,
    ⟨37, false, [], (some 133), (some (127, false)), .q (.fld 0 (.t 1))⟩,
    ⟨38, false, [], (some 134), (some (127, false)), .q (.load none (.t 133))⟩,
    ⟨39, false, [], (some 135), (some (127, false)), .q (.mov (.t 7))⟩,
    ⟨40, false, [], (some 136), (some (127, false)), .q (.mov (.t 8))⟩,
    ⟨44, false, [], (some 140), (some (127, false)), .q (.fld 0 (.t 1))⟩,
    ⟨45, true, [], (some 141), (some (127, false)), .q (.load none (.t 140))⟩,
    ⟨46, false, [], (some 142), (some (127, false)), .q (.fld 1 (.t 1))⟩,
    ⟨47, true, [], (some 143), (some (127, false)), .q (.load none (.t 142))⟩,
    ⟨48, false, [], (some 144), (some (127, false)), .q (.mov (.t 6))⟩,
    ⟨49, false, [], (some 145), (some (127, false)), .q (.idx 1 (.t 143) (.t 144))⟩,
    ⟨50, true, [], (some 146), (some (127, false)), .q (.load none (.t 145))⟩,
    ⟨51, false, [], (some 147), (some (127, false)), .q (.mov (.t 7))⟩,
    ⟨52, false, [], (some 148), (some (127, false)), .q (.idx 1 (.t 146) (.t 147))⟩,
    ⟨53, true, [], (some 149), (some (127, false)), .q (.load none (.t 148))⟩,
    ⟨54, false, [], (some 150), (some (127, false)), .q (.fld 1 (.t 1))⟩,
    ⟨55, true, [], (some 151), (some (127, false)), .q (.load none (.t 150))⟩,
    ⟨56, false, [], (some 152), (some (127, false)), .q (.mov (.t 6))⟩,
    ⟨57, false, [], (some 153), (some (127, false)), .q (.idx 1 (.t 151) (.t 152))⟩,
    ⟨58, true, [], (some 154), (some (127, false)), .q (.load none (.t 153))⟩,
    ⟨59, false, [], (some 155), (some (127, false)), .q (.mov (.t 8))⟩,
    ⟨60, false, [], (some 156), (some (127, false)), .q (.idx 1 (.t 154) (.t 155))⟩,
    ⟨61, true, [], (some 157), (some (127, false)), .q (.load none (.t 156))⟩,
    ⟨41, false, [], (some 137), (some (127, false)), .e (.call (.f 114) [.t 134, .t 135, .t 136])⟩,
    ⟨42, false, [], (some 138), (some (127, false)), .q (.idx 1 (.t 132) (.t 137))⟩,
    ⟨43, true, [], (some 139), (some (127, false)), .q (.load none (.t 138))⟩,
    ⟨62, false, [], (some 158), (some (127, false)), .e (.call (.f 114) [.t 141, .t 149, .t 157])⟩,
    ⟨63, false, [], (some 159), (some (127, false)), .q (.bin .neq (.t 139) (.t 158))⟩,
    ⟨64, false, [], (some 160), none, .q (.pick (.t 127) (.k (.bool true)) (.t 159))⟩] (.cond (.t 160)
  (.op (some 2) none (.q (.mov (.k (.bool false))))
  (.ret))
  (.done)
  (.done)))))
  (.op (some 161) none (.q (.bin .add (.t 93) (.k (.int .i64 1))))
  (.op (some 93) none (.q (.mov (.t 161)))
  (.done)))))))
  (.done))))))))))
  (.op (some 162) none (.q (.bin .add (.t 70) (.k (.int .i64 1))))
  (.op (some 70) none (.q (.mov (.t 162)))
  (.done)))))))
  (.done))))))))))
  (.op (some 163) none (.q (.bin .add (.t 43) (.k (.int .i64 1))))
  (.op (some 43) none (.q (.mov (.t 163)))
  (.done)))))))
  (.op (some 2) none (.q (.mov (.k (.bool true))))
  (.ret))))))))))))))))))))))))))))))
def o53 : Nat → List Nat := fun i => if i = 23 then [0, 1, 2, 3, 4, 5, 6, 7, 8, 9, 10, 11, 12, 13, 14, 15, 16, 17, 18, 19, 20, 21, 22, 23, 24, 25, 26, 27, 28, 29, 30, 31, 32, 33, 34, 35, 36, 37, 38, 39, 40, 44, 45, 46, 47, 48, 49, 50, 51, 52, 53, 54, 55, 56, 57, 58, 59, 60, 61, 41, 42, 43, 62, 63, 64] else if i = 18 then [0, 1, 2, 3, 4, 5, 6, 7, 8, 9, 10, 11, 12, 13, 14, 15, 16] else if i = 13 then [0, 1, 2, 3, 4, 5, 6, 7, 8, 9, 10, 11, 12, 13, 14, 15, 16, 17, 18, 19, 20] else []
set_option maxRecDepth 100000 in
theorem t53 : (Try.f53.body.map fun c => tr Try.prog o53 Try.f53.ntmps c .done) = some c53 := by kernel_rfl
theorem r53 : trR Try.prog Try.f53.results.toList = some [.t 2] := by kernel_rfl
theorem in53 {w0 : World} {args : List AV} {H : Hp} {Q : AV → Hp → Prop} (h : W Try.prog w0 c53 (retQ [.t 2] Q) (env0 args) H) : ACalls Try.prog w0 53 args H Q :=
  ACalls.intro2 mixed Try.func53 rfl t53 r53 h

/-- laws.isIn -/
def c54 : CC :=
  .op (some 4) none (.q (.mov (.k (.bool false))))
  (.op (some 5) none (.q (.mov (.k (.int .i64 0))))
  (.block 0
  (.loop
  (.op (some 6) none (.q (.mov (.t 5)))
  (.op (some 7) none (.q (.mov (.t 0)))
  (.op (some 8) none (.q (.len (.t 7)))
  (.op (some 9) none (.q (.bin .lss (.t 6) (.t 8)))
  (.cond (.t 9)
  (.done)
  (.exit 0)
  (.block 1
  (.op (some 12) none (.q (.mov (.t 0)))
  (.op (some 13) none (.q (.mov (.t 5)))
  (.op (some 14) none (.q (.idx 1 (.t 12) (.t 13)))
  (.op (some 15) none (.q (.load none (.t 14)))
  (.op (some 16) none (.q (.mov (.t 1)))
  (.op (some 17) none (.q (.bin .eql (.t 15) (.t 16)))
  (.cond (.t 17)
  (.op (some 4) none (.q (.mov (.k (.bool true))))
  (.ret))
  (.done)
  (.done))))))))
  (.op (some 10) none (.q (.mov (.t 5)))
  (.op (some 11) none (.q (.bin .add (.t 10) (.k (.int .i64 1))))
  (.op (some 5) none (.q (.mov (.t 11)))
  (.done)))))))))))
  (.op (some 4) none (.q (.mov (.k (.bool false))))
  (.ret))))
def o54 : Nat → List Nat := fun _ => []
set_option maxRecDepth 100000 in
theorem t54 : (Try.f54.body.map fun c => tr Try.prog o54 Try.f54.ntmps c .done) = some c54 := by kernel_rfl
theorem r54 : trR Try.prog Try.f54.results.toList = some [.t 4] := by kernel_rfl
theorem in54 {w0 : World} {args : List AV} {H : Hp} {Q : AV → Hp → Prop} (h : W Try.prog w0 c54 (retQ [.t 4] Q) (env0 args) H) : ACalls Try.prog w0 54 args H Q :=
  ACalls.intro2 mixed Try.func54 rfl t54 r54 h

/-- laws.ascends -/
def c55 : CC :=
  .op (some 2) none (.q (.mov (.k (.bool false))))
  (.op (some 3) none (.q (.mov (.k (.int .i64 1))))
  (.block 0
  (.loop
  (.op (some 4) none (.q (.mov (.t 3)))
  (.op (some 5) none (.q (.mov (.t 0)))
  (.op (some 6) none (.q (.len (.t 5)))
  (.op (some 7) none (.q (.bin .lss (.t 4) (.t 6)))
  (.cond (.t 7)
  (.done)
  (.exit 0)
  (.block 1
  (.draws [⟨0, false, [], (some 10), none, .q (.mov (.t 0))⟩,
    ⟨1, false, [], (some 11), none, .q (.mov (.t 3))⟩,
    ⟨2, false, [], (some 12), none, .q (.idx 1 (.t 10) (.t 11))⟩,
    ⟨3, false, [], (some 13), none, .q (.load none (.t 12))⟩,
    ⟨4, false, [], (some 14), none, .q (.mov (.t 0))⟩,
    ⟨5, false, [], (some 15), none, .q (.mov (.t 3))⟩,
    ⟨6, false, [], (some 16), none, .q (.bin .sub (.t 15) (.k (.int .i64 1)))⟩,
    ⟨7, false, [], (some 17), none, .q (.idx 1 (.t 14) (.t 16))⟩,
    ⟨8, false, [], (some 18), none, .q (.load none (.t 17))⟩,
    ⟨9, false, [], (some 19), none, .q (.bin .leq (.t 13) (.t 18))⟩] (.cond (.t 19)
  (.op (some 2) none (.q (.mov (.k (.bool false))))
  (.ret))
  (.done)
  (.done)))
  (.op (some 8) none (.q (.mov (.t 3)))
  (.op (some 9) none (.q (.bin .add (.t 8) (.k (.int .i64 1))))
  (.op (some 3) none (.q (.mov (.t 9)))
  (.done)))))))))))
  (.op (some 2) none (.q (.mov (.k (.bool true))))
  (.ret))))
def o55 : Nat → List Nat := fun i => if i = 4 then [0, 1, 2, 3, 4, 5, 6, 7, 8, 9] else []
set_option maxRecDepth 100000 in
theorem t55 : (Try.f55.body.map fun c => tr Try.prog o55 Try.f55.ntmps c .done) = some c55 := by kernel_rfl
theorem r55 : trR Try.prog Try.f55.results.toList = some [.t 2] := by kernel_rfl
theorem in55 {w0 : World} {args : List AV} {H : Hp} {Q : AV → Hp → Prop} (h : W Try.prog w0 c55 (retQ [.t 2] Q) (env0 args) H) : ACalls Try.prog w0 55 args H Q :=
  ACalls.intro2 mixed Try.func55 rfl t55 r55 h

/-- spec.RefuteTerm -/
def c56 : CC :=
  .op (some 2) none (.l (.box 36 (.t 0)))
  (.op (some 4) none (.q (.mov (.k (.nils))))
  (.op (some 5) none (.q (.mov (.k (.bool false))))
  (.op (some 8) none (.q (.load (some 2) (.t 2)))
  (.op (some 9) none (.e (.call (.f 70) [.t 8]))
  (.op (some 10) none (.q (.not (.t 9)))
  (.op (some 11) none (.q (.mov (.t 10)))
  (.op (some 12) (some (11, false)) (.q (.mov (.t 1)))
  (.op (some 13) (some (11, false)) (.e (.call (.f 74) [.t 12]))
  (.op (some 14) (some (11, false)) (.q (.not (.t 13)))
  (.op (some 15) none (.q (.pick (.t 11) (.k (.bool true)) (.t 14)))
  (.cond (.t 15)
  (.op (some 4) none (.q (.mov (.k (.nils))))
  (.op (some 5) none (.q (.mov (.k (.bool false))))
  (.ret)))
  (.done)
  (.op (some 16) none (.q (.fld 0 (.t 2)))
  (.op (some 17) none (.q (.load none (.t 16)))
  (.op (some 18) none (.q (.len (.t 17)))
  (.op (some 19) none (.e (.call (.f 75) [.t 18]))
  (.op (some 6) none (.q (.mov (.t 19)))
  (.op (some 7) none (.q (.mov (.k (.int .i64 0))))
  (.block 0
  (.loop
  (.op (some 20) none (.q (.mov (.t 7)))
  (.op (some 21) none (.q (.mov (.t 6)))
  (.op (some 22) none (.q (.len (.t 21)))
  (.op (some 23) none (.q (.bin .lss (.t 20) (.t 22)))
  (.cond (.t 23)
  (.done)
  (.exit 0)
  (.block 1
  (.draws [⟨0, false, [], (some 26), none, .q (.load (some 2) (.t 2))⟩,
    ⟨1, false, [], (some 27), none, .q (.mov (.t 1))⟩,
    ⟨2, false, [], (some 28), none, .q (.mov (.t 6))⟩,
    ⟨3, false, [], (some 29), none, .q (.mov (.t 7))⟩,
    ⟨4, false, [], (some 30), none, .q (.idx 1 (.t 28) (.t 29))⟩,
    ⟨5, false, [], (some 31), none, .q (.load none (.t 30))⟩,
    ⟨7, false, [], (some 33), none, .q (.fld 0 (.t 2))⟩,
    ⟨8, true, [], (some 34), none, .q (.load none (.t 33))⟩,
    ⟨9, false, [], (some 35), none, .q (.len (.t 34))⟩,
    ⟨10, false, [], (some 36), none, .q (.bin .sub (.t 35) (.k (.int .i64 1)))⟩,
    ⟨6, false, [], (some 32), none, .e (.call (.f 76) [.t 26, .t 27, .k (.int .i64 0), .t 31])⟩,
    ⟨11, false, [], (some 37), none, .q (.bin .neq (.t 32) (.t 36))⟩] (.cond (.t 37)
  (.op (some 38) none (.q (.mov (.t 6)))
  (.op (some 39) none (.q (.mov (.t 7)))
  (.op (some 40) none (.q (.idx 1 (.t 38) (.t 39)))
  (.op (some 41) none (.q (.load none (.t 40)))
  (.op (some 4) none (.q (.mov (.t 41)))
  (.op (some 5) none (.q (.mov (.k (.bool true))))
  (.ret)))))))
  (.done)
  (.done)))
  (.op (some 24) none (.q (.mov (.t 7)))
  (.op (some 25) none (.q (.bin .add (.t 24) (.k (.int .i64 1))))
  (.op (some 7) none (.q (.mov (.t 25)))
  (.done)))))))))))
  (.op (some 4) none (.q (.mov (.k (.nils))))
  (.op (some 5) none (.q (.mov (.k (.bool false))))
  (.ret)))))))))))))))))))))
def o56 : Nat → List Nat := fun i => if i = 7 then [0, 1, 2, 3, 4, 5, 7, 8, 9, 10, 6, 11] else []
set_option maxRecDepth 100000 in
theorem t56 : (Try.f56.body.map fun c => tr Try.prog o56 Try.f56.ntmps c .done) = some c56 := by kernel_rfl
theorem r56 : trR Try.prog Try.f56.results.toList = some [.t 4, .t 5] := by kernel_rfl
theorem in56 {w0 : World} {args : List AV} {H : Hp} {Q : AV → Hp → Prop} (h : W Try.prog w0 c56 (retQ [.t 4, .t 5] Q) (env0 args) H) : ACalls Try.prog w0 56 args H Q :=
  ACalls.intro2 mixed Try.func56 rfl t56 r56 h

/-- impl.RefuteTerm -/
def c57 : CC :=
  .op (some 2) none (.l (.box 36 (.t 0)))
  (.op (some 3) none (.l (.box 30 (.t 1)))
  (.op (some 4) none (.q (.mov (.k (.nils))))
  (.op (some 5) none (.q (.mov (.k (.bool false))))
  (.op (some 8) none (.q (.load (some 2) (.t 2)))
  (.op (some 9) none (.e (.call (.f 53) [.t 8]))
  (.op (some 10) none (.q (.not (.t 9)))
  (.op (some 11) none (.q (.mov (.t 10)))
  (.op (some 12) (some (11, false)) (.q (.load none (.t 3)))
  (.op (some 13) (some (11, false)) (.e (.call (.f 77) [.t 12]))
  (.op (some 14) (some (11, false)) (.q (.not (.t 13)))
  (.op (some 15) none (.q (.pick (.t 11) (.k (.bool true)) (.t 14)))
  (.cond (.t 15)
  (.op (some 4) none (.q (.mov (.k (.nils))))
  (.op (some 5) none (.q (.mov (.k (.bool false))))
  (.ret)))
  (.done)
  (.op (some 16) none (.l (.bsl 3 1 [.int .i64 0] 0 []))
  (.op (some 6) none (.l (.alloc 30 [.nils]))
  (.op (some 7) none (.l (.alloc 4 [.bool false]))
  (.op none none (.e (.store 1 (.t 6) (.t 16)))
  (.op none none (.e (.store 1 (.t 7) (.k (.bool false))))
  (.op (some 17) none (.q (.load (some 2) (.t 2)))
  (.op (some 18) none (.q (.mkf 115 [.t 7, .t 2, .t 3, .t 6]))
  (.op (some 19) none (.e (.call (.f 78) [.t 17, .t 18]))
  (.op (some 20) none (.q (.load none (.t 7)))
  (.op (some 21) none (.q (.not (.t 20)))
  (.cond (.t 21)
  (.op (some 4) none (.q (.mov (.k (.nils))))
  (.op (some 5) none (.q (.mov (.k (.bool false))))
  (.ret)))
  (.done)
  (.op (some 22) none (.q (.load none (.t 6)))
  (.op (some 4) none (.q (.mov (.t 22)))
  (.op (some 5) none (.q (.mov (.k (.bool true))))
  (.ret)))))))))))))))))))))))))))
def o57 : Nat → List Nat := fun _ => []
set_option maxRecDepth 100000 in
theorem t57 : (Try.f57.body.map fun c => tr Try.prog o57 Try.f57.ntmps c .done) = some c57 := by kernel_rfl
theorem r57 : trR Try.prog Try.f57.results.toList = some [.t 4, .t 5] := by kernel_rfl
theorem in57 {w0 : World} {args : List AV} {H : Hp} {Q : AV → Hp → Prop} (h : W Try.prog w0 c57 (retQ [.t 4, .t 5] Q) (env0 args) H) : ACalls Try.prog w0 57 args H Q :=
  ACalls.intro2 mixed Try.func57 rfl t57 r57 h

/-- spec.newReader -/
def c58 : CC :=
  .op (some 2) none (.q (.mov (.k (.nilp))))
  (.op (some 3) none (.q (.mov (.t 0)))
  (.op (some 4) none (.q (.len (.t 3)))
  (.op (some 5) none (.q (.bin .gtr (.t 4) (.k (.int .i64 2000))))
  (.cond (.t 5)
  (.op (some 6) none (.q (.mov (.t 0)))
  (.op (some 7) none (.q (.slc 1 (.t 6) none (some (.k (.int .i64 2000)))))
  (.op (some 0) none (.q (.mov (.t 7)))
  (.done))))
  (.done)
  (.op (some 8) none (.q (.mov (.t 0)))
  (.op (some 9) none (.q (.build [.nils, .int .i64 0] [(0, .t 8)]))
  (.op (some 10) none (.l (.box 100 (.t 9)))
  (.op (some 2) none (.q (.mov (.t 10)))
  (.ret)))))))))
def o58 : Nat → List Nat := fun _ => []
set_option maxRecDepth 100000 in
theorem t58 : (Try.f58.body.map fun c => tr Try.prog o58 Try.f58.ntmps c .done) = some c58 := by kernel_rfl
theorem r58 : trR Try.prog Try.f58.results.toList = some [.t 2] := by kernel_rfl
theorem in58 {w0 : World} {args : List AV} {H : Hp} {Q : AV → Hp → Prop} (h : W Try.prog w0 c58 (retQ [.t 2] Q) (env0 args) H) : ACalls Try.prog w0 58 args H Q :=
  ACalls.intro2 mixed Try.func58 rfl t58 r58 h

/-- spec.aProperty -/
def c59 : CC :=
  .op (some 2) none (.q (.mov (.k (.str ⟨#[]⟩))))
  (.op (some 3) none (.q (.mov (.t 0)))
  (.op (some 4) none (.l (.bsl 9 1 [.str ⟨#[]⟩] 8 [(0, .k (.str ⟨#[112, 114, 101, 108, 105, 110, 101, 97, 114]⟩)), (1, .k (.str ⟨#[100, 105, 118, 105, 115, 105, 98, 108, 101]⟩)), (2, .k (.str ⟨#[105, 110, 118, 111, 108, 117, 116, 105, 118, 101]⟩)), (3, .k (.str ⟨#[105, 100, 101, 109, 112, 111, 116, 101, 110, 116]⟩)), (4, .k (.str ⟨#[98, 111, 111, 108, 101, 97, 110]⟩)), (5, .k (.str ⟨#[100, 105, 118, 105, 115, 105, 98, 108, 101]⟩)), (6, .k (.str ⟨#[105, 110, 118, 111, 108, 117, 116, 105, 118, 101]⟩)), (7, .k (.str ⟨#[]⟩))]))
  (.op (some 5) none (.e (.call (.f 116) [.t 3, .t 4]))
  (.op (some 2) none (.q (.mov (.t 5)))
  (.ret)))))
def o59 : Nat → List Nat := fun _ => []
set_option maxRecDepth 100000 in
theorem t59 : (Try.f59.body.map fun c => tr Try.prog o59 Try.f59.ntmps c .done) = some c59 := by kernel_rfl
theorem r59 : trR Try.prog Try.f59.results.toList = some [.t 2] := by kernel_rfl
theorem in59 {w0 : World} {args : List AV} {H : Hp} {Q : AV → Hp → Prop} (h : W Try.prog w0 c59 (retQ [.t 2] Q) (env0 args) H) : ACalls Try.prog w0 59 args H Q :=
  ACalls.intro2 mixed Try.func59 rfl t59 r59 h

/-- (*spec.reader).one -/
def c60 : CC :=
  .op (some 4) none (.q (.mov (.k (.int .i64 0))))
  (.op (some 5) none (.q (.mov (.t 1)))
  (.op (some 6) none (.q (.mov (.t 0)))
  (.op (some 7) none (.q (.mov (.t 1)))
  (.op (some 8) none (.q (.len (.t 7)))
  (.op (some 9) none (.e (.call (.f 117) [.t 6, .t 8]))
  (.op (some 10) none (.q (.idx 1 (.t 5) (.t 9)))
  (.op (some 11) none (.q (.load none (.t 10)))
  (.op (some 4) none (.q (.mov (.t 11)))
  (.ret)))))))))
def o60 : Nat → List Nat := fun _ => []
set_option maxRecDepth 100000 in
theorem t60 : (Try.f60.body.map fun c => tr Try.prog o60 Try.f60.ntmps c .done) = some c60 := by kernel_rfl
theorem r60 : trR Try.prog Try.f60.results.toList = some [.t 4] := by kernel_rfl
theorem in60 {w0 : World} {args : List AV} {H : Hp} {Q : AV → Hp → Prop} (h : W Try.prog w0 c60 (retQ [.t 4] Q) (env0 args) H) : ACalls Try.prog w0 60 args H Q :=
  ACalls.intro2 mixed Try.func60 rfl t60 r60 h

/-- impl.isProperty -/
def c61 : CC :=
  .op (some 2) none (.q (.mov (.k (.bool false))))
  (.op (some 3) none (.l (.bsl 9 1 [.str ⟨#[]⟩] 5 [(0, .k (.str ⟨#[112, 114, 101, 108, 105, 110, 101, 97, 114]⟩)), (1, .k (.str ⟨#[100, 105, 118, 105, 115, 105, 98, 108, 101]⟩)), (2, .k (.str ⟨#[105, 110, 118, 111, 108, 117, 116, 105, 118, 101]⟩)), (3, .k (.str ⟨#[105, 100, 101, 109, 112, 111, 116, 101, 110, 116]⟩)), (4, .k (.str ⟨#[98, 111, 111, 108, 101, 97, 110]⟩))]))
  (.op (some 4) none (.q (.mov (.t 0)))
  (.op (some 5) none (.e (.call (.f 118) [.t 3, .t 4]))
  (.op (some 2) none (.q (.mov (.t 5)))
  (.ret)))))
def o61 : Nat → List Nat := fun _ => []
set_option maxRecDepth 100000 in
theorem t61 : (Try.f61.body.map fun c => tr Try.prog o61 Try.f61.ntmps c .done) = some c61 := by kernel_rfl
theorem r61 : trR Try.prog Try.f61.results.toList = some [.t 2] := by kernel_rfl
theorem in61 {w0 : World} {args : List AV} {H : Hp} {Q : AV → Hp → Prop} (h : W Try.prog w0 c61 (retQ [.t 2] Q) (env0 args) H) : ACalls Try.prog w0 61 args H Q :=
  ACalls.intro2 mixed Try.func61 rfl t61 r61 h

/-- impl.within -/
def c62 : CC :=
  .op (some 6) none (.q (.mov (.k (.bool false))))
  (.op (some 7) none (.q (.mov (.t 0)))
  (.op (some 8) none (.q (.mov (.t 1)))
  (.op (some 9) none (.q (.bin .geq (.t 7) (.t 8)))
  (.op (some 10) none (.q (.mov (.t 9)))
  (.op (some 11) (some (10, true)) (.q (.mov (.t 0)))
  (.op (some 12) (some (10, true)) (.q (.mov (.t 2)))
  (.op (some 13) (some (10, true)) (.q (.bin .leq (.t 11) (.t 12)))
  (.op (some 14) none (.q (.pick (.t 10) (.t 13) (.k (.bool false))))
  (.op (some 6) none (.q (.mov (.t 14)))
  (.ret))))))))))
def o62 : Nat → List Nat := fun _ => []
set_option maxRecDepth 100000 in
theorem t62 : (Try.f62.body.map fun c => tr Try.prog o62 Try.f62.ntmps c .done) = some c62 := by kernel_rfl
theorem r62 : trR Try.prog Try.f62.results.toList = some [.t 6] := by kernel_rfl
theorem in62 {w0 : World} {args : List AV} {H : Hp} {Q : AV → Hp → Prop} (h : W Try.prog w0 c62 (retQ [.t 6] Q) (env0 args) H) : ACalls Try.prog w0 62 args H Q :=
  ACalls.intro2 mixed Try.func62 rfl t62 r62 h

/-- impl.chains -/
def c63 : CC :=
  .op (some 1) none (.l (.box 3 (.t 0)))
  (.op (some 2) none (.q (.mov (.k (.nils))))
  (.op (some 6) none (.l (.bsl 36 2 [.nils, .nils] 0 []))
  (.op (some 7) none (.q (.load none (.t 1)))
  (.op (some 8) none (.e (.call (.f 119) [.t 7]))
  (.op (some 3) none (.l (.alloc 26 [.nils]))
  (.op (some 4) none (.l (.alloc 36 [.nils, .nils]))
  (.op none none (.e (.store 1 (.t 3) (.t 6)))
  (.op none none (.e (.store 2 (.t 4) (.t 8)))
  (.op (some 5) none (.l (.alloc 105 [.nilf]))
  (.op (some 9) none (.q (.mkf 120 [.t 1, .t 4, .t 3, .t 5]))
  (.op none none (.e (.store 1 (.t 5) (.t 9)))
  (.op (some 10) none (.q (.load none (.t 5)))
  (.op (some 11) none (.e (.call (.t 10) [.k (.int .i64 1), .k (.int .i64 1)]))
  (.op (some 12) none (.q (.load none (.t 3)))
  (.op (some 2) none (.q (.mov (.t 12)))
  (.ret))))))))))))))))
def o63 : Nat → List Nat := fun _ => []
set_option maxRecDepth 100000 in
theorem t63 : (Try.f63.body.map fun c => tr Try.prog o63 Try.f63.ntmps c .done) = some c63 := by kernel_rfl
theorem r63 : trR Try.prog Try.f63.results.toList = some [.t 2] := by kernel_rfl
theorem in63 {w0 : World} {args : List AV} {H : Hp} {Q : AV → Hp → Prop} (h : W Try.prog w0 c63 (retQ [.t 2] Q) (env0 args) H) : ACalls Try.prog w0 63 args H Q :=
  ACalls.intro2 mixed Try.func63 rfl t63 r63 h

/-- impl.HasProperty -/
def c64 : CC :=
  .op (some 3) none (.l (.box 36 (.t 1)))
  (.op (some 4) none (.q (.mov (.k (.bool false))))
  (.op (some 7) none (.q (.mov (.t 0)))
  (.op (some 8) none (.e (.call (.f 61) [.t 7]))
  (.op (some 9) none (.q (.not (.t 8)))
  (.op (some 10) none (.q (.mov (.t 9)))
  (.op (some 11) (some (10, false)) (.q (.load (some 2) (.t 3)))
  (.op (some 12) (some (10, false)) (.e (.call (.f 53) [.t 11]))
  (.op (some 13) (some (10, false)) (.q (.not (.t 12)))
  (.op (some 14) none (.q (.pick (.t 10) (.k (.bool true)) (.t 13)))
  (.cond (.t 14)
  (.op (some 4) none (.q (.mov (.k (.bool false))))
  (.ret))
  (.done)
  (.op (some 15) none (.q (.fld 0 (.t 3)))
  (.op (some 16) none (.q (.load none (.t 15)))
  (.op (some 17) none (.q (.len (.t 16)))
  (.op (some 18) none (.q (.mov (.k (.int .i64 0))))
  (.block 0
  (.loop
  (.op (some 19) none (.q (.bin .lss (.t 18) (.t 17)))
  (.cond (.t 19)
  (.done)
  (.exit 0)
  (.block 1
  (.op (some 20) none (.q (.mov (.t 18)))
  (.op (some 5) none (.q (.mov (.t 20)))
  (.op (some 21) none (.q (.fld 0 (.t 3)))
  (.op (some 22) none (.q (.load none (.t 21)))
  (.op (some 23) none (.q (.len (.t 22)))
  (.op (some 24) none (.q (.mov (.k (.int .i64 0))))
  (.block 2
  (.loop
  (.op (some 25) none (.q (.bin .lss (.t 24) (.t 23)))
  (.cond (.t 25)
  (.done)
  (.exit 2)
  (.block 3
  (.op (some 26) none (.q (.mov (.t 24)))
  (.op (some 6) none (.q (.mov (.t 26)))
  (.op (some 27) none (.q (.mov (.t 0)))
  (.op (some 28) none (.q (.load (some 2) (.t 3)))
  (.op (some 29) none (.q (.mov (.t 5)))
  (.op (some 30) none (.q (.mov (.t 6)))
  (.op (some 31) none (.e (.call (.f 122) [.t 27, .t 28, .t 29, .t 30]))
  (.op (some 32) none (.q (.not (.t 31)))
  (.cond (.t 32)
  (.op (some 4) none (.q (.mov (.k (.bool false))))
  (.ret))
  (.done)
  (.done))))))))))
  (.op (some 33) none (.q (.bin .add (.t 24) (.k (.int .i64 1))))
  (.op (some 24) none (.q (.mov (.t 33)))
  (.done)))))))
  (.done))))))))
  (.op (some 34) none (.q (.bin .add (.t 18) (.k (.int .i64 1))))
  (.op (some 18) none (.q (.mov (.t 34)))
  (.done)))))))
  (.op (some 4) none (.q (.mov (.k (.bool true))))
  (.ret)))))))))))))))))
def o64 : Nat → List Nat := fun _ => []
set_option maxRecDepth 100000 in
theorem t64 : (Try.f64.body.map fun c => tr Try.prog o64 Try.f64.ntmps c .done) = some c64 := by kernel_rfl
theorem r64 : trR Try.prog Try.f64.results.toList = some [.t 4] := by kernel_rfl
theorem in64 {w0 : World} {args : List AV} {H : Hp} {Q : AV → Hp → Prop} (h : W Try.prog w0 c64 (retQ [.t 4] Q) (env0 args) H) : ACalls Try.prog w0 64 args H Q :=
  ACalls.intro2 mixed Try.func64 rfl t64 r64 h

/-- spec.is -/
def c65 : CC :=
  .op (some 3) none (.l (.box 36 (.t 1)))
  (.op (some 4) none (.q (.mov (.k (.bool false))))
  (.op (some 5) none (.q (.mov (.k (.bool false))))
  (.op (some 10) none (.q (.fld 0 (.t 3)))
  (.op (some 11) none (.q (.load none (.t 10)))
  (.op (some 12) none (.q (.len (.t 11)))
  (.op (some 6) none (.q (.mov (.t 12)))
  (.op (some 7) none (.q (.mov (.k (.bool true))))
  (.op (some 8) none (.q (.mov (.k (.int .i64 0))))
  (.block 0
  (.loop
  (.op (some 13) none (.q (.mov (.t 8)))
  (.op (some 14) none (.q (.mov (.t 6)))
  (.op (some 15) none (.q (.bin .lss (.t 13) (.t 14)))
  (.cond (.t 15)
  (.done)
  (.exit 0)
  (.block 1
  (.op (some 9) none (.q (.mov (.k (.int .i64 0))))
  (.block 2
  (.loop
  (.op (some 18) none (.q (.mov (.t 9)))
  (.op (some 19) none (.q (.mov (.t 6)))
  (.op (some 20) none (.q (.bin .lss (.t 18) (.t 19)))
  (.cond (.t 20)
  (.done)
  (.exit 2)
  (.block 3
  (.op (some 23) none (.q (.mov (.t 0)))
  (.block 4
  (.op (some 25) none (.q (.bin .eql (.t 23) (.k (.str ⟨#[112, 114, 101, 108, 105, 110, 101, 97, 114]⟩))))
  (.op (some 24) none (.q (.mov (.t 25)))
  (.cond (.t 24)
  (.draws [⟨0, false, [], (some 26), none, .q (.mov (.t 7))⟩,
    ⟨1, false, [], (some 27), none, .q (.mov (.t 26))⟩,
    ⟨2, false, [], (some 28), (some (27, true)), .q (.fld 0 (.t 3))⟩,
    ⟨3, true, [], (some 29), (some (27, true)), .q (.load none (.t 28))⟩,
    ⟨4, false, [], (some 30), (some (27, true)), .q (.load (some 2) (.t 3))⟩,
    ⟨5, false, [], (some 31), (some (27, true)), .q (.mov (.t 8))⟩,
    ⟨6, false, [], (some 32), (some (27, true)), .q (.mov (.t 9))⟩,
    ⟨8, true, [], (some 34), (some (27, true)), .q (.load (some 2) (.t 3))⟩,
    ⟨9, false, [], (some 35), (some (27, true)), .q (.mov (.t 9))⟩,
    ⟨10, false, [], (some 36), (some (27, true)), .q (.mov (.t 8))⟩,
    ⟨13, false, [], (some 39), (some (27, true)), .q (.mov (.t 6))⟩,
    ⟨14, false, [], (some 40), (some (27, true)), .q (.bin .sub (.t 39) (.k (.int .i64 1)))⟩,
    ⟨7, false, [], (some 33), (some (27, true)), .e (.call (.f 124) [.t 30, .t 31, .t 32])⟩,
    ⟨11, false, [], (some 37), (some (27, true)), .e (.call (.f 124) [.t 34, .t 35, .t 36])⟩,
    ⟨12, false, [], (some 38), (some (27, true)), .e (.call (.f 123) [.t 29, .t 33, .t 37])⟩,
    ⟨15, false, [], (some 41), (some (27, true)), .q (.bin .eql (.t 38) (.t 40))⟩,
    ⟨16, false, [], (some 42), none, .q (.pick (.t 27) (.t 41) (.k (.bool false)))⟩,
    ⟨17, false, [], (some 7), none, .q (.mov (.t 42))⟩] (.done))
  (.op (some 44) none (.q (.bin .eql (.t 23) (.k (.str ⟨#[100, 105, 118, 105, 115, 105, 98, 108, 101]⟩))))
  (.op (some 43) none (.q (.mov (.t 44)))
  (.cond (.t 43)
  (.draws [⟨0, false, [], (some 45), none, .q (.mov (.t 7))⟩,
    ⟨1, false, [], (some 46), none, .q (.mov (.t 45))⟩,
    ⟨2, false, [], (some 47), (some (46, true)), .q (.fld 1 (.t 3))⟩,
    ⟨3, true, [], (some 48), (some (46, true)), .q (.load none (.t 47))⟩,
    ⟨4, false, [], (some 49), (some (46, true)), .q (.mov (.t 8))⟩,
    ⟨5, false, [], (some 50), (some (46, true)), .q (.idx 1 (.t 48) (.t 49))⟩,
    ⟨6, true, [], (some 51), (some (46, true)), .q (.load none (.t 50))⟩,
    ⟨7, false, [], (some 52), (some (46, true)), .q (.load (some 2) (.t 3))⟩,
    ⟨8, false, [], (some 53), (some (46, true)), .q (.mov (.t 8))⟩,
    ⟨9, false, [], (some 54), (some (46, true)), .q (.mov (.t 9))⟩,
    ⟨13, false, [], (some 58), (some (46, true)), .q (.fld 0 (.t 3))⟩,
    ⟨14, true, [], (some 59), (some (46, true)), .q (.load none (.t 58))⟩,
    ⟨15, false, [], (some 60), (some (46, true)), .q (.mov (.t 8))⟩,
    ⟨16, false, [], (some 61), (some (46, true)), .q (.mov (.t 9))⟩,
    ⟨10, false, [], (some 55), (some (46, true)), .e (.call (.f 124) [.t 52, .t 53, .t 54])⟩,
    ⟨11, false, [], (some 56), (some (46, true)), .q (.idx 1 (.t 51) (.t 55))⟩,
    ⟨12, true, [], (some 57), (some (46, true)), .q (.load none (.t 56))⟩,
    ⟨17, false, [], (some 62), (some (46, true)), .e (.call (.f 125) [.t 59, .t 60, .t 61])⟩,
    ⟨18, false, [], (some 63), (some (46, true)), .q (.bin .eql (.t 57) (.t 62))⟩,
    ⟨19, false, [], (some 64), none, .q (.pick (.t 46) (.t 63) (.k (.bool false)))⟩,
    ⟨20, false, [], (some 7), none, .q (.mov (.t 64))⟩] (.done))
  (.op (some 66) none (.q (.bin .eql (.t 23) (.k (.str ⟨#[105, 110, 118, 111, 108, 117, 116, 105, 118, 101]⟩))))
  (.op (some 65) none (.q (.mov (.t 66)))
  (.cond (.t 65)
  (.draws [⟨0, false, [], (some 67), none, .q (.mov (.t 7))⟩,
    ⟨1, false, [], (some 68), none, .q (.mov (.t 67))⟩,
    ⟨2, true, [], (some 69), (some (68, true)), .q (.load (some 2) (.t 3))⟩,
    ⟨3, false, [], (some 70), (some (68, true)), .q (.load (some 2) (.t 3))⟩,
    ⟨4, false, [], (some 71), (some (68, true)), .q (.mov (.t 8))⟩,
    ⟨7, false, [], (some 74), (some (68, true)), .q (.mov (.t 8))⟩,
    ⟨5, false, [], (some 72), (some (68, true)), .e (.call (.f 124) [.t 70, .t 71, .k (.int .i64 0)])⟩,
    ⟨6, false, [], (some 73), (some (68, true)), .e (.call (.f 124) [.t 69, .t 72, .k (.int .i64 0)])⟩,
    ⟨8, false, [], (some 75), (some (68, true)), .q (.bin .eql (.t 73) (.t 74))⟩,
    ⟨9, false, [], (some 76), none, .q (.pick (.t 68) (.t 75) (.k (.bool false)))⟩,
    ⟨10, false, [], (some 7), none, .q (.mov (.t 76))⟩] (.done))
  (.op (some 78) none (.q (.bin .eql (.t 23) (.k (.str ⟨#[105, 100, 101, 109, 112, 111, 116, 101, 110, 116]⟩))))
  (.op (some 77) none (.q (.mov (.t 78)))
  (.cond (.t 77)
  (.op (some 79) none (.q (.mov (.t 7)))
  (.op (some 80) none (.q (.mov (.t 79)))
  (.op (some 81) (some (80, true)) (.q (.fld 1 (.t 3)))
  (.op (some 82) (some (80, true)) (.q (.load none (.t 81)))
  (.op (some 83) (some (80, true)) (.q (.mov (.t 8)))
  (.op (some 84) (some (80, true)) (.q (.idx 1 (.t 82) (.t 83)))
  (.op (some 85) (some (80, true)) (.q (.load none (.t 84)))
  (.op (some 86) (some (80, true)) (.q (.mov (.t 8)))
  (.op (some 87) (some (80, true)) (.q (.idx 1 (.t 85) (.t 86)))
  (.op (some 88) (some (80, true)) (.q (.load none (.t 87)))
  (.op (some 89) (some (80, true)) (.q (.mov (.t 8)))
  (.op (some 90) (some (80, true)) (.q (.bin .eql (.t 88) (.t 89)))
  (.op (some 91) none (.q (.pick (.t 80) (.t 90) (.k (.bool false))))
  (.op (some 7) none (.q (.mov (.t 91)))
  (.done)))))))))))))))
  (.op (some 93) none (.q (.bin .eql (.t 23) (.k (.str ⟨#[98, 111, 111, 108, 101, 97, 110]⟩))))
  (.op (some 92) none (.q (.mov (.t 93)))
  (.cond (.t 92)
  (.draws [⟨0, false, [], (some 94), none, .q (.mov (.t 7))⟩,
    ⟨1, false, [], (some 95), none, .q (.mov (.t 94))⟩,
    ⟨2, false, [], (some 96), (some (95, true)), .q (.fld 0 (.t 3))⟩,
    ⟨3, true, [], (some 97), (some (95, true)), .q (.load none (.t 96))⟩,
    ⟨4, false, [], (some 98), (some (95, true)), .q (.mov (.t 8))⟩,
    ⟨5, false, [], (some 99), (some (95, true)), .q (.load (some 2) (.t 3))⟩,
    ⟨6, false, [], (some 100), (some (95, true)), .q (.mov (.t 8))⟩,
    ⟨9, false, [], (some 103), (some (95, true)), .q (.mov (.t 6))⟩,
    ⟨10, false, [], (some 104), (some (95, true)), .q (.bin .sub (.t 103) (.k (.int .i64 1)))⟩,
    ⟨7, false, [], (some 101), (some (95, true)), .e (.call (.f 124) [.t 99, .t 100, .k (.int .i64 0)])⟩,
    ⟨8, false, [], (some 102), (some (95, true)), .e (.call (.f 123) [.t 97, .t 98, .t 101])⟩,
    ⟨11, false, [], (some 105), (some (95, true)), .q (.bin .eql (.t 102) (.t 104))⟩,
    ⟨12, false, [], (some 106), none, .q (.pick (.t 95) (.t 105) (.k (.bool false)))⟩,
    ⟨13, false, [], (some 7), none, .q (.mov (.t 106))⟩] (.done))
  (.op (some 4) none (.q (.mov (.k (.bool false))))
  (.op (some 5) none (.q (.mov (.k (.bool false))))
  (.ret)))
  (.done))))
  (.done))))
  (.done))))
  (.done))))
  (.done))))
  (.done)))
  (.op (some 21) none (.q (.mov (.t 9)))
  (.op (some 22) none (.q (.bin .add (.t 21) (.k (.int .i64 1))))
  (.op (some 9) none (.q (.mov (.t 22)))
  (.done))))))))))
  (.done)))
  (.op (some 16) none (.q (.mov (.t 8)))
  (.op (some 17) none (.q (.bin .add (.t 16) (.k (.int .i64 1))))
  (.op (some 8) none (.q (.mov (.t 17)))
  (.done))))))))))
  (.op (some 107) none (.q (.mov (.t 7)))
  (.op (some 4) none (.q (.mov (.t 107)))
  (.op (some 5) none (.q (.mov (.k (.bool true))))
  (.ret)))))))))))))
def o65 : Nat → List Nat := fun i => if i = 12 then [0, 1, 2, 3, 4, 5, 6, 8, 9, 10, 13, 14, 7, 11, 12, 15, 16, 17] else if i = 14 then [0, 1, 2, 3, 4, 5, 6, 7, 8, 9, 13, 14, 15, 16, 10, 11, 12, 17, 18, 19, 20] else if i = 16 then [0, 1, 2, 3, 4, 7, 5, 6, 8, 9, 10] else if i = 20 then [0, 1, 2, 3, 4, 5, 6, 9, 10, 7, 8, 11, 12, 13] else []
set_option maxRecDepth 100000 in
theorem t65 : (Try.f65.body.map fun c => tr Try.prog o65 Try.f65.ntmps c .done) = some c65 := by kernel_rfl
theorem r65 : trR Try.prog Try.f65.results.toList = some [.t 4, .t 5] := by kernel_rfl
theorem in65 {w0 : World} {args : List AV} {H : Hp} {Q : AV → Hp → Prop} (h : W Try.prog w0 c65 (retQ [.t 4, .t 5] Q) (env0 args) H) : ACalls Try.prog w0 65 args H Q :=
  ACalls.intro2 mixed Try.func65 rfl t65 r65 h

/-- spec.inRange -/
def c66 : CC :=
  .op (some 6) none (.q (.mov (.k (.bool false))))
  (.op (some 7) none (.q (.mov (.t 1)))
  (.op (some 8) none (.q (.mov (.t 0)))
  (.op (some 9) none (.q (.bin .leq (.t 7) (.t 8)))
  (.op (some 10) none (.q (.mov (.t 9)))
  (.op (some 11) (some (10, true)) (.q (.mov (.t 0)))
  (.op (some 12) (some (10, true)) (.q (.mov (.t 2)))
  (.op (some 13) (some (10, true)) (.q (.bin .leq (.t 11) (.t 12)))
  (.op (some 14) none (.q (.pick (.t 10) (.t 13) (.k (.bool false))))
  (.op (some 6) none (.q (.mov (.t 14)))
  (.ret))))))))))
def o66 : Nat → List Nat := fun _ => []
set_option maxRecDepth 100000 in
theorem t66 : (Try.f66.body.map fun c => tr Try.prog o66 Try.f66.ntmps c .done) = some c66 := by kernel_rfl
theorem r66 : trR Try.prog Try.f66.results.toList = some [.t 6] := by kernel_rfl
theorem in66 {w0 : World} {args : List AV} {H : Hp} {Q : AV → Hp → Prop} (h : W Try.prog w0 c66 (retQ [.t 6] Q) (env0 args) H) : ACalls Try.prog w0 66 args H Q :=
  ACalls.intro2 mixed Try.func66 rfl t66 r66 h

/-- spec.chains -/
def c67 : CC :=
  .op (some 2) none (.q (.mov (.k (.nils))))
  (.op (some 10) none (.l (.bsl 30 1 [.nils] 0 []))
  (.op (some 3) none (.q (.mov (.t 10)))
  (.op (some 4) none (.q (.mov (.k (.int .i64 0))))
  (.block 0
  (.loop
  (.op (some 11) none (.q (.mov (.t 4)))
  (.op (some 12) none (.q (.mov (.t 0)))
  (.op (some 13) none (.q (.bin .lss (.t 11) (.t 12)))
  (.cond (.t 13)
  (.done)
  (.exit 0)
  (.block 1
  (.op (some 16) none (.q (.mov (.t 0)))
  (.op (some 17) none (.l (.mk 3 8 [.int .i64 0] (.t 16) (.t 16)))
  (.op (some 5) none (.q (.mov (.t 17)))
  (.op (some 18) none (.q (.mov (.t 5)))
  (.op (some 19) none (.q (.mov (.t 0)))
  (.op (some 20) none (.q (.bin .sub (.t 19) (.k (.int .i64 1))))
  (.op (some 21) none (.q (.mov (.t 4)))
  (.op (some 22) none (.q (.idx 1 (.t 18) (.t 20)))
  (.op none none (.e (.store 1 (.t 22) (.t 21)))
  (.op (some 23) none (.q (.mov (.t 4)))
  (.op (some 24) none (.q (.mov (.t 0)))
  (.op (some 25) none (.q (.bin .sub (.t 24) (.k (.int .i64 1))))
  (.op (some 26) none (.q (.bin .eql (.t 23) (.t 25)))
  (.cond (.t 26)
  (.op (some 6) none (.q (.mov (.k (.int .i64 0))))
  (.block 2
  (.loop
  (.op (some 27) none (.q (.mov (.t 6)))
  (.op (some 28) none (.q (.mov (.t 0)))
  (.op (some 29) none (.q (.bin .lss (.t 27) (.t 28)))
  (.cond (.t 29)
  (.done)
  (.exit 2)
  (.block 3
  (.op (some 32) none (.q (.mov (.t 5)))
  (.op (some 33) none (.q (.mov (.t 6)))
  (.op (some 34) none (.q (.mov (.t 6)))
  (.op (some 35) none (.q (.idx 1 (.t 32) (.t 33)))
  (.op none none (.e (.store 1 (.t 35) (.t 34)))
  (.done))))))
  (.op (some 30) none (.q (.mov (.t 6)))
  (.op (some 31) none (.q (.bin .add (.t 30) (.k (.int .i64 1))))
  (.op (some 6) none (.q (.mov (.t 31)))
  (.done))))))))))
  (.done)))
  (.done)
  (.op (some 36) none (.q (.mov (.t 3)))
  (.op (some 37) none (.q (.mov (.t 5)))
  (.op (some 38) none (.l (.bsl 30 1 [.nils] 1 [(0, .t 37)]))
  (.op (some 39) none (.e (.app 30 1 24 (.t 36) (.t 38)))
  (.op (some 3) none (.q (.mov (.t 39)))
  (.done))))))))))))))))))))
  (.op (some 14) none (.q (.mov (.t 4)))
  (.op (some 15) none (.q (.bin .add (.t 14) (.k (.int .i64 1))))
  (.op (some 4) none (.q (.mov (.t 15)))
  (.done))))))))))
  (.op (some 40) none (.q (.mov (.t 3)))
  (.op (some 41) none (.l (.bsl 31 1 [.nils] 1 [(0, .t 40)]))
  (.op (some 7) none (.q (.mov (.t 41)))
  (.op (some 42) none (.q (.mov (.t 0)))
  (.op (some 43) none (.q (.bin .gtr (.t 42) (.k (.int .i64 2))))
  (.cond (.t 43)
  (.op (some 44) none (.q (.mov (.t 0)))
  (.op (some 45) none (.q (.mov (.t 3)))
  (.op (some 46) none (.e (.call (.f 126) [.t 44, .t 45, .k (.int .i64 1), .k (.int .i64 1)]))
  (.op (some 7) none (.q (.mov (.t 46)))
  (.done)))))
  (.done)
  (.op (some 47) none (.l (.bsl 36 2 [.nils, .nils] 0 []))
  (.op (some 8) none (.q (.mov (.t 47)))
  (.op (some 9) none (.q (.mov (.k (.int .i64 0))))
  (.block 4
  (.loop
  (.op (some 48) none (.q (.mov (.t 9)))
  (.op (some 49) none (.q (.mov (.t 7)))
  (.op (some 50) none (.q (.len (.t 49)))
  (.op (some 51) none (.q (.bin .lss (.t 48) (.t 50)))
  (.cond (.t 51)
  (.done)
  (.exit 4)
  (.block 5
  (.draws [⟨0, false, [], (some 54), none, .q (.mov (.t 8))⟩,
    ⟨1, false, [], (some 55), none, .q (.mov (.t 0))⟩,
    ⟨3, false, [], (some 57), none, .q (.mov (.t 7))⟩,
    ⟨4, false, [], (some 58), none, .q (.mov (.t 9))⟩,
    ⟨5, false, [], (some 59), none, .q (.idx 1 (.t 57) (.t 58))⟩,
    ⟨6, true, [], (some 60), none, .q (.load none (.t 59))⟩,
    ⟨2, false, [], (some 56), none, .e (.call (.f 127) [.t 55])⟩,
    ⟨7, false, [], (some 61), none, .q (.build [.nils, .nils] [(0, .t 56), (1, .t 60)])⟩,
    ⟨8, false, [], (some 62), none, .l (.bsl 36 2 [.nils, .nils] 1 [(0, .t 61)])⟩,
    ⟨9, false, [], (some 63), none, .e (.app 36 2 48 (.t 54) (.t 62))⟩,
    ⟨10, false, [], (some 8), none, .q (.mov (.t 63))⟩] (.done))
  (.op (some 52) none (.q (.mov (.t 9)))
  (.op (some 53) none (.q (.bin .add (.t 52) (.k (.int .i64 1))))
  (.op (some 9) none (.q (.mov (.t 53)))
  (.done)))))))))))
  (.op (some 64) none (.q (.mov (.t 8)))
  (.op (some 2) none (.q (.mov (.t 64)))
  (.ret)))))))))))))))))
def o67 : Nat → List Nat := fun i => if i = 20 then [0, 1, 3, 4, 5, 6, 2, 7, 8, 9, 10] else []
set_option maxRecDepth 100000 in
theorem t67 : (Try.f67.body.map fun c => tr Try.prog o67 Try.f67.ntmps c .done) = some c67 := by kernel_rfl
theorem r67 : trR Try.prog Try.f67.results.toList = some [.t 2] := by kernel_rfl
theorem in67 {w0 : World} {args : List AV} {H : Hp} {Q : AV → Hp → Prop} (h : W Try.prog w0 c67 (retQ [.t 2] Q) (env0 args) H) : ACalls Try.prog w0 67 args H Q :=
  ACalls.intro2 mixed Try.func67 rfl t67 r67 h

/-- laws.szIntS -/
def c68 : CC :=
  .op (some 4) none (.q (.mov (.k (.int .i64 0))))
  (.op (some 5) none (.q (.mov (.t 1)))
  (.op (some 6) none (.q (.mov (.t 0)))
  (.op (some 7) none (.q (.len (.t 6)))
  (.op (some 8) none (.q (.bin .sub (.t 5) (.t 7)))
  (.op (some 1) none (.q (.mov (.t 8)))
  (.op (some 9) none (.q (.mov (.t 1)))
  (.op (some 10) none (.q (.bin .lss (.t 9) (.k (.int .i64 0))))
  (.cond (.t 10)
  (.op (some 4) none (.q (.mov (.k (.int .i64 (-1)))))
  (.ret))
  (.done)
  (.op (some 11) none (.q (.mov (.t 1)))
  (.op (some 4) none (.q (.mov (.t 11)))
  (.ret)))))))))))
def o68 : Nat → List Nat := fun _ => []
set_option maxRecDepth 100000 in
theorem t68 : (Try.f68.body.map fun c => tr Try.prog o68 Try.f68.ntmps c .done) = some c68 := by kernel_rfl
theorem r68 : trR Try.prog Try.f68.results.toList = some [.t 4] := by kernel_rfl
theorem in68 {w0 : World} {args : List AV} {H : Hp} {Q : AV → Hp → Prop} (h : W Try.prog w0 c68 (retQ [.t 4] Q) (env0 args) H) : ACalls Try.prog w0 68 args H Q :=
  ACalls.intro2 mixed Try.func68 rfl t68 r68 h

/-- laws.szIntSS -/
def c69 : CC :=
  .op (some 4) none (.q (.mov (.k (.int .i64 0))))
  (.op (some 6) none (.q (.mov (.t 1)))
  (.op (some 7) none (.q (.mov (.t 0)))
  (.op (some 8) none (.q (.len (.t 7)))
  (.op (some 9) none (.q (.bin .sub (.t 6) (.t 8)))
  (.op (some 1) none (.q (.mov (.t 9)))
  (.op (some 10) none (.q (.mov (.t 1)))
  (.op (some 11) none (.q (.bin .lss (.t 10) (.k (.int .i64 0))))
  (.cond (.t 11)
  (.op (some 4) none (.q (.mov (.k (.int .i64 (-1)))))
  (.ret))
  (.done)
  (.op (some 5) none (.q (.mov (.k (.int .i64 0))))
  (.block 0
  (.loop
  (.op (some 12) none (.q (.mov (.t 5)))
  (.op (some 13) none (.q (.mov (.t 0)))
  (.op (some 14) none (.q (.len (.t 13)))
  (.op (some 15) none (.q (.bin .lss (.t 12) (.t 14)))
  (.cond (.t 15)
  (.done)
  (.exit 0)
  (.block 1
  (.op (some 18) none (.q (.mov (.t 0)))
  (.op (some 19) none (.q (.mov (.t 5)))
  (.op (some 20) none (.q (.idx 1 (.t 18) (.t 19)))
  (.op (some 21) none (.q (.load none (.t 20)))
  (.op (some 22) none (.q (.mov (.t 1)))
  (.op (some 23) none (.e (.call (.f 68) [.t 21, .t 22]))
  (.op (some 1) none (.q (.mov (.t 23)))
  (.op (some 24) none (.q (.mov (.t 1)))
  (.op (some 25) none (.q (.bin .lss (.t 24) (.k (.int .i64 0))))
  (.cond (.t 25)
  (.op (some 4) none (.q (.mov (.k (.int .i64 (-1)))))
  (.ret))
  (.done)
  (.done)))))))))))
  (.op (some 16) none (.q (.mov (.t 5)))
  (.op (some 17) none (.q (.bin .add (.t 16) (.k (.int .i64 1))))
  (.op (some 5) none (.q (.mov (.t 17)))
  (.done)))))))))))
  (.op (some 26) none (.q (.mov (.t 1)))
  (.op (some 4) none (.q (.mov (.t 26)))
  (.ret)))))))))))))
def o69 : Nat → List Nat := fun _ => []
set_option maxRecDepth 100000 in
theorem t69 : (Try.f69.body.map fun c => tr Try.prog o69 Try.f69.ntmps c .done) = some c69 := by kernel_rfl
theorem r69 : trR Try.prog Try.f69.results.toList = some [.t 4] := by kernel_rfl
theorem in69 {w0 : World} {args : List AV} {H : Hp} {Q : AV → Hp → Prop} (h : W Try.prog w0 c69 (retQ [.t 4] Q) (env0 args) H) : ACalls Try.prog w0 69 args H Q :=
  ACalls.intro2 mixed Try.func69 rfl t69 r69 h

/-- spec.validAlgebra -/
def c70 : CC :=
  .op (some 1) none (.l (.box 36 (.t 0)))
  (.op (some 2) none (.q (.mov (.k (.bool false))))
  (.op (some 9) none (.q (.fld 0 (.t 1)))
  (.op (some 10) none (.q (.load none (.t 9)))
  (.op (some 11) none (.q (.len (.t 10)))
  (.op (some 3) none (.q (.mov (.t 11)))
  (.op (some 12) none (.q (.fld 0 (.t 1)))
  (.op (some 13) none (.q (.load none (.t 12)))
  (.op (some 14) none (.e (.call (.f 128) [.t 13]))
  (.op (some 15) none (.q (.not (.t 14)))
  (.op (some 16) none (.q (.mov (.t 15)))
  (.op (some 17) (some (16, false)) (.q (.fld 1 (.t 1)))
  (.op (some 18) (some (16, false)) (.q (.load none (.t 17)))
  (.op (some 19) (some (16, false)) (.q (.len (.t 18)))
  (.op (some 20) (some (16, false)) (.q (.mov (.t 3)))
  (.op (some 21) (some (16, false)) (.q (.bin .neq (.t 19) (.t 20)))
  (.op (some 22) none (.q (.pick (.t 16) (.k (.bool true)) (.t 21)))
  (.cond (.t 22)
  (.op (some 2) none (.q (.mov (.k (.bool false))))
  (.ret))
  (.done)
  (.op (some 4) none (.q (.mov (.k (.int .i64 0))))
  (.block 0
  (.loop
  (.op (some 23) none (.q (.mov (.t 4)))
  (.op (some 24) none (.q (.mov (.t 3)))
  (.op (some 25) none (.q (.bin .lss (.t 23) (.t 24)))
  (.cond (.t 25)
  (.done)
  (.exit 0)
  (.block 1
  (.op (some 28) none (.q (.fld 1 (.t 1)))
  (.op (some 29) none (.q (.load none (.t 28)))
  (.op (some 30) none (.q (.mov (.t 4)))
  (.op (some 31) none (.q (.idx 1 (.t 29) (.t 30)))
  (.op (some 32) none (.q (.load none (.t 31)))
  (.op (some 33) none (.q (.len (.t 32)))
  (.op (some 34) none (.q (.mov (.t 3)))
  (.op (some 35) none (.q (.bin .neq (.t 33) (.t 34)))
  (.cond (.t 35)
  (.op (some 2) none (.q (.mov (.k (.bool false))))
  (.ret))
  (.done)
  (.op (some 5) none (.q (.mov (.k (.int .i64 0))))
  (.block 2
  (.loop
  (.op (some 36) none (.q (.mov (.t 5)))
  (.op (some 37) none (.q (.mov (.t 3)))
  (.op (some 38) none (.q (.bin .lss (.t 36) (.t 37)))
  (.cond (.t 38)
  (.done)
  (.exit 2)
  (.block 3
  (.op (some 41) none (.q (.fld 1 (.t 1)))
  (.op (some 42) none (.q (.load none (.t 41)))
  (.op (some 43) none (.q (.mov (.t 4)))
  (.op (some 44) none (.q (.idx 1 (.t 42) (.t 43)))
  (.op (some 45) none (.q (.load none (.t 44)))
  (.op (some 46) none (.q (.mov (.t 5)))
  (.op (some 47) none (.q (.idx 1 (.t 45) (.t 46)))
  (.op (some 48) none (.q (.load none (.t 47)))
  (.op (some 49) none (.q (.mov (.t 3)))
  (.op (some 50) none (.q (.bin .sub (.t 49) (.k (.int .i64 1))))
  (.op (some 51) none (.e (.call (.f 66) [.t 48, .k (.int .i64 0), .t 50]))
  (.op (some 52) none (.q (.not (.t 51)))
  (.cond (.t 52)
  (.op (some 2) none (.q (.mov (.k (.bool false))))
  (.ret))
  (.done)
  (.done))))))))))))))
  (.op (some 39) none (.q (.mov (.t 5)))
  (.op (some 40) none (.q (.bin .add (.t 39) (.k (.int .i64 1))))
  (.op (some 5) none (.q (.mov (.t 40)))
  (.done))))))))))
  (.done))))))))))))
  (.op (some 26) none (.q (.mov (.t 4)))
  (.op (some 27) none (.q (.bin .add (.t 26) (.k (.int .i64 1))))
  (.op (some 4) none (.q (.mov (.t 27)))
  (.done))))))))))
  (.op (some 6) none (.q (.mov (.k (.int .i64 0))))
  (.block 4
  (.loop
  (.op (some 53) none (.q (.mov (.t 6)))
  (.op (some 54) none (.q (.mov (.t 3)))
  (.op (some 55) none (.q (.bin .lss (.t 53) (.t 54)))
  (.cond (.t 55)
  (.done)
  (.exit 4)
  (.block 5
  (.op (some 58) none (.q (.fld 1 (.t 1)))
  (.op (some 59) none (.q (.load none (.t 58)))
  (.op (some 60) none (.q (.mov (.t 6)))
  (.op (some 61) none (.q (.idx 1 (.t 59) (.t 60)))
  (.op (some 62) none (.q (.load none (.t 61)))
  (.op (some 63) none (.q (.mov (.t 3)))
  (.op (some 64) none (.q (.bin .sub (.t 63) (.k (.int .i64 1))))
  (.op (some 65) none (.q (.idx 1 (.t 62) (.t 64)))
  (.op (some 66) none (.q (.load none (.t 65)))
  (.op (some 67) none (.q (.mov (.t 6)))
  (.op (some 68) none (.q (.bin .neq (.t 66) (.t 67)))
  (.op (some 69) none (.q (.mov (.t 68)))
  (.op (some 70) (some (69, false)) (.q (.fld 1 (.t 1)))
  (.op (some 71) (some (69, false)) (.q (.load none (.t 70)))
  (.op (some 72) (some (69, false)) (.q (.mov (.t 6)))
  (.op (some 73) (some (69, false)) (.q (.idx 1 (.t 71) (.t 72)))
  (.op (some 74) (some (69, false)) (.q (.load none (.t 73)))
  (.op (some 75) (some (69, false)) (.q (.idx 1 (.t 74) (.k (.int .i64 0))))
  (.op (some 76) (some (69, false)) (.q (.load none (.t 75)))
  (.op (some 77) (some (69, false)) (.q (.bin .neq (.t 76) (.k (.int .i64 0))))
  (.op (some 78) none (.q (.pick (.t 69) (.k (.bool true)) (.t 77)))
  (.cond (.t 78)
  (.op (some 2) none (.q (.mov (.k (.bool false))))
  (.ret))
  (.done)
  (.op (some 7) none (.q (.mov (.k (.int .i64 0))))
  (.block 6
  (.loop
  (.op (some 79) none (.q (.mov (.t 7)))
  (.op (some 80) none (.q (.mov (.t 3)))
  (.op (some 81) none (.q (.bin .lss (.t 79) (.t 80)))
  (.cond (.t 81)
  (.done)
  (.exit 6)
  (.block 7
  (.draws [⟨0, false, [], (some 84), none, .q (.fld 1 (.t 1))⟩,
    ⟨1, false, [], (some 85), none, .q (.load none (.t 84))⟩,
    ⟨2, false, [], (some 86), none, .q (.mov (.t 6))⟩,
    ⟨3, false, [], (some 87), none, .q (.idx 1 (.t 85) (.t 86))⟩,
    ⟨4, false, [], (some 88), none, .q (.load none (.t 87))⟩,
    ⟨5, false, [], (some 89), none, .q (.mov (.t 7))⟩,
    ⟨6, false, [], (some 90), none, .q (.idx 1 (.t 88) (.t 89))⟩,
    ⟨7, false, [], (some 91), none, .q (.load none (.t 90))⟩,
    ⟨8, false, [], (some 92), none, .q (.fld 1 (.t 1))⟩,
    ⟨9, false, [], (some 93), none, .q (.load none (.t 92))⟩,
    ⟨10, false, [], (some 94), none, .q (.mov (.t 7))⟩,
    ⟨11, false, [], (some 95), none, .q (.idx 1 (.t 93) (.t 94))⟩,
    ⟨12, false, [], (some 96), none, .q (.load none (.t 95))⟩,
    ⟨13, false, [], (some 97), none, .q (.mov (.t 6))⟩,
    ⟨14, false, [], (some 98), none, .q (.idx 1 (.t 96) (.t 97))⟩,
    ⟨15, false, [], (some 99), none, .q (.load none (.t 98))⟩,
    ⟨16, false, [], (some 100), none, .q (.bin .neq (.t 91) (.t 99))⟩] (.cond (.t 100)
  (.op (some 2) none (.q (.mov (.k (.bool false))))
  (.ret))
  (.done)
  (.op (some 8) none (.q (.mov (.k (.int .i64 0))))
  (.block 8
  (.loop
  (.op (some 101) none (.q (.mov (.t 8)))
  (.op (some 102) none (.q (.mov (.t 3)))
  (.op (some 103) none (.q (.bin .lss (.t 101) (.t 102)))
  (.cond (.t 103)
  (.done)
  (.exit 8)
  (.block 9
  (.draws [⟨0, false, [], (some 106), none, .q (.fld 1 (.t 1))⟩,
    ⟨1, false, [], (some 107), none, .q (.load none (.t 106))⟩,
    ⟨2, false, [], (some 108), none, .q (.fld 1 (.t 1))⟩,
    ⟨3, false, [], (some 109), none, .q (.load none (.t 108))⟩,
    ⟨4, false, [], (some 110), none, .q (.mov (.t 6))⟩,
    ⟨5, false, [], (some 111), none, .q (.idx 1 (.t 109) (.t 110))⟩,
    ⟨6, false, [], (some 112), none, .q (.load none (.t 111))⟩,
    ⟨7, false, [], (some 113), none, .q (.mov (.t 7))⟩,
    ⟨8, false, [], (some 114), none, .q (.idx 1 (.t 112) (.t 113))⟩,
    ⟨9, false, [], (some 115), none, .q (.load none (.t 114))⟩,
    ⟨10, false, [], (some 116), none, .q (.idx 1 (.t 107) (.t 115))⟩,
    ⟨11, false, [], (some 117), none, .q (.load none (.t 116))⟩,
    ⟨12, false, [], (some 118), none, .q (.mov (.t 8))⟩,
    ⟨13, false, [], (some 119), none, .q (.idx 1 (.t 117) (.t 118))⟩,
    ⟨14, false, [], (some 120), none, .q (.load none (.t 119))⟩,
    ⟨15, false, [], (some 121), none, .q (.fld 1 (.t 1))⟩,
    ⟨16, false, [], (some 122), none, .q (.load none (.t 121))⟩,
    ⟨17, false, [], (some 123), none, .q (.mov (.t 6))⟩,
    ⟨18, false, [], (some 124), none, .q (.idx 1 (.t 122) (.t 123))⟩,
    ⟨19, false, [], (some 125), none, .q (.load none (.t 124))⟩,
    ⟨20, false, [], (some 126), none, .q (.fld 1 (.t 1))⟩,
    ⟨21, false, [], (some 127), none, .q (.load none (.t 126))⟩,
    ⟨22, false, [], (some 128), none, .q (.mov (.t 7))⟩,
    ⟨23, false, [], (some 129), none, .q (.idx 1 (.t 127) (.t 128))⟩,
    ⟨24, false, [], (some 130), none, .q (.load none (.t 129))⟩,
    ⟨25, false, [], (some 131), none, .q (.mov (.t 8))⟩,
    ⟨26, false, [], (some 132), none, .q (.idx 1 (.t 130) (.t 131))⟩,
    ⟨27, false, [], (some 133), none, .q (.load none (.t 132))⟩,
    ⟨28, false, [], (some 134), none, .q (.idx 1 (.t 125) (.t 133))⟩,
    ⟨29, false, [], (some 135), none, .q (.load none (.t 134))⟩,
    ⟨30, false, [], (some 136), none, .q (.bin .neq (.t 120) (.t 135))⟩,
    ⟨31, false, [], (some 137), none, .q (.mov (.t 136))⟩,
    ⟨32, false, [], (some 138), (some (137, false)), .q (.fld 1 (.t 1))⟩,
    ⟨33, true, [], (some 139), (some (137, false)), .q (.load none (.t 138))⟩,
    ⟨34, false, [], (some 140), (some (137, false)), .q (.mov (.t 6))⟩,
    ⟨35, false, [], (some 141), (some (137, false)), .q (.idx 1 (.t 139) (.t 140))⟩,
    ⟨36, true, [], (some 142), (some (137, false)), .q (.load none (.t 141))⟩,
    ⟨37, false, [], (some 143), (some (137, false)), .q (.fld 0 (.t 1))⟩,
    ⟨38, false, [], (some 144), (some (137, false)), .q (.load none (.t 143))⟩,
    ⟨39, false, [], (some 145), (some (137, false)), .q (.mov (.t 7))⟩,
    ⟨40, false, [], (some 146), (some (137, false)), .q (.mov (.t 8))⟩,
    ⟨44, false, [], (some 150), (some (137, false)), .q (.fld 0 (.t 1))⟩,
    ⟨45, true, [], (some 151), (some (137, false)), .q (.load none (.t 150))⟩,
    ⟨46, false, [], (some 152), (some (137, false)), .q (.fld 1 (.t 1))⟩,
    ⟨47, true, [], (some 153), (some (137, false)), .q (.load none (.t 152))⟩,
    ⟨48, false, [], (some 154), (some (137, false)), .q (.mov (.t 6))⟩,
    ⟨49, false, [], (some 155), (some (137, false)), .q (.idx 1 (.t 153) (.t 154))⟩,
    ⟨50, true, [], (some 156), (some (137, false)), .q (.load none (.t 155))⟩,
    ⟨51, false, [], (some 157), (some (137, false)), .q (.mov (.t 7))⟩,
    ⟨52, false, [], (some 158), (some (137, false)), .q (.idx 1 (.t 156) (.t 157))⟩,
    ⟨53, true, [], (some 159), (some (137, false)), .q (.load none (.t 158))⟩,
    ⟨54, false, [], (some 160), (some (137, false)), .q (.fld 1 (.t 1))⟩,
    ⟨55, true, [], (some 161), (some (137, false)), .q (.load none (.t 160))⟩,
    ⟨56, false, [], (some 162), (some (137, false)), .q (.mov (.t 6))⟩,
    ⟨57, false, [], (some 163), (some (137, false)), .q (.idx 1 (.t 161) (.t 162))⟩,
    ⟨58, true, [], (some 164), (some (137, false)), .q (.load none (.t 163))⟩,
    ⟨59, false, [], (some 165), (some (137, false)), .q (.mov (.t 8))⟩,
    ⟨60, false, [], (some 166), (some (137, false)), .q (.idx 1 (.t 164) (.t 165))⟩,
    ⟨61, true, [], (some 167), (some (137, false)), .q (.load none (.t 166))⟩,
    ⟨41, false, [], (some 147), (some (137, false)), .e (.call (.f 123) [.t 144, .t 145, .t 146])⟩,
    ⟨42, false, [], (some 148), (some (137, false)), .q (.idx 1 (.t 142) (.t 147))⟩,
    ⟨43, true, [], (some 149), (some (137, false)), .q (.load none (.t 148))⟩,
    ⟨62, false, [], (some 168), (some (137, false)), .e (.call (.f 123) [.t 151, .t 159, .t 167])⟩,
    ⟨63, false, [], (some 169), (some (137, false)), .q (.bin .neq (.t 149) (.t 168))⟩,
    ⟨64, false, [], (some 170), none, .q (.pick (.t 137) (.k (.bool true)) (.t 169))⟩] (.cond (.t 170)
  (.op (some 2) none (.q (.mov (.k (.bool false))))
  (.ret))
  (.done)
  (.done)))
  (.op (some 104) none (.q (.mov (.t 8)))
  (.op (some 105) none (.q (.bin .add (.t 104) (.k (.int .i64 1))))
  (.op (some 8) none (.q (.mov (.t 105)))
  (.done))))))))))
  (.done)))))
  (.op (some 82) none (.q (.mov (.t 7)))
  (.op (some 83) none (.q (.bin .add (.t 82) (.k (.int .i64 1))))
  (.op (some 7) none (.q (.mov (.t 83)))
  (.done))))))))))
  (.done)))))))))))))))))))))))))
  (.op (some 56) none (.q (.mov (.t 6)))
  (.op (some 57) none (.q (.bin .add (.t 56) (.k (.int .i64 1))))
  (.op (some 6) none (.q (.mov (.t 57)))
  (.done))))))))))
  (.op (some 2) none (.q (.mov (.k (.bool true))))
  (.ret)))))))))))))))))))))))
def o70 : Nat → List Nat := fun i => if i = 27 then [0, 1, 2, 3, 4, 5, 6, 7, 8, 9, 10, 11, 12, 13, 14, 15, 16, 17, 18, 19, 20, 21, 22, 23, 24, 25, 26, 27, 28, 29, 30, 31, 32, 33, 34, 35, 36, 37, 38, 39, 40, 44, 45, 46, 47, 48, 49, 50, 51, 52, 53, 54, 55, 56, 57, 58, 59, 60, 61, 41, 42, 43, 62, 63, 64] else if i = 22 then [0, 1, 2, 3, 4, 5, 6, 7, 8, 9, 10, 11, 12, 13, 14, 15, 16] else []
set_option maxRecDepth 100000 in
theorem t70 : (Try.f70.body.map fun c => tr Try.prog o70 Try.f70.ntmps c .done) = some c70 := by kernel_rfl
theorem r70 : trR Try.prog Try.f70.results.toList = some [.t 2] := by kernel_rfl
theorem in70 {w0 : World} {args : List AV} {H : Hp} {Q : AV → Hp → Prop} (h : W Try.prog w0 c70 (retQ [.t 2] Q) (env0 args) H) : ACalls Try.prog w0 70 args H Q :=
  ACalls.intro2 mixed Try.func70 rfl t70 r70 h

/-- spec.mapsFrom -/
def c71 : CC :=
  .op (some 3) none (.l (.box 36 (.t 0)))
  (.op (some 4) none (.l (.box 36 (.t 1)))
  (.op (some 6) none (.q (.mov (.k (.nils))))
  (.op (some 10) none (.q (.mov (.t 2)))
  (.op (some 11) none (.q (.len (.t 10)))
  (.op (some 12) none (.q (.fld 0 (.t 3)))
  (.op (some 13) none (.q (.load none (.t 12)))
  (.op (some 14) none (.q (.len (.t 13)))
  (.op (some 15) none (.q (.bin .eql (.t 11) (.t 14)))
  (.cond (.t 15)
  (.op (some 16) none (.q (.load (some 2) (.t 3)))
  (.op (some 17) none (.q (.load (some 2) (.t 4)))
  (.op (some 18) none (.q (.mov (.t 2)))
  (.op (some 19) none (.e (.call (.f 129) [.t 16, .t 17, .t 18]))
  (.cond (.t 19)
  (.op (some 20) none (.l (.bsl 3 1 [.int .i64 0] 0 []))
  (.op (some 21) none (.q (.mov (.t 2)))
  (.op (some 22) none (.e (.app 3 1 8 (.t 20) (.t 21)))
  (.op (some 23) none (.l (.bsl 30 1 [.nils] 1 [(0, .t 22)]))
  (.op (some 6) none (.q (.mov (.t 23)))
  (.ret))))))
  (.done)
  (.op (some 24) none (.l (.bsl 30 1 [.nils] 0 []))
  (.op (some 6) none (.q (.mov (.t 24)))
  (.ret))))))))
  (.done)
  (.op (some 25) none (.l (.bsl 30 1 [.nils] 0 []))
  (.op (some 7) none (.q (.mov (.t 25)))
  (.op (some 8) none (.q (.mov (.k (.int .i64 0))))
  (.block 0
  (.loop
  (.op (some 26) none (.q (.mov (.t 8)))
  (.op (some 27) none (.q (.fld 0 (.t 4)))
  (.op (some 28) none (.q (.load none (.t 27)))
  (.op (some 29) none (.q (.len (.t 28)))
  (.op (some 30) none (.q (.bin .lss (.t 26) (.t 29)))
  (.cond (.t 30)
  (.done)
  (.exit 0)
  (.block 1
  (.op (some 33) none (.l (.bsl 3 1 [.int .i64 0] 0 []))
  (.op (some 34) none (.q (.mov (.t 2)))
  (.op (some 35) none (.e (.app 3 1 8 (.t 33) (.t 34)))
  (.op (some 36) none (.q (.mov (.t 8)))
  (.op (some 37) none (.l (.bsl 3 1 [.int .i64 0] 1 [(0, .t 36)]))
  (.op (some 38) none (.e (.app 3 1 8 (.t 35) (.t 37)))
  (.op (some 9) none (.q (.mov (.t 38)))
  (.op (some 39) none (.q (.load (some 2) (.t 3)))
  (.op (some 40) none (.q (.load (some 2) (.t 4)))
  (.op (some 41) none (.q (.mov (.t 9)))
  (.op (some 42) none (.e (.call (.f 130) [.t 39, .t 40, .t 41]))
  (.cond (.t 42)
  (.op (some 43) none (.q (.mov (.t 7)))
  (.op (some 44) none (.q (.load (some 2) (.t 3)))
  (.op (some 45) none (.q (.load (some 2) (.t 4)))
  (.op (some 46) none (.q (.mov (.t 9)))
  (.op (some 47) none (.e (.call (.f 71) [.t 44, .t 45, .t 46]))
  (.op (some 48) none (.e (.app 30 1 24 (.t 43) (.t 47)))
  (.op (some 7) none (.q (.mov (.t 48)))
  (.done))))))))
  (.done)
  (.done)))))))))))))
  (.op (some 31) none (.q (.mov (.t 8)))
  (.op (some 32) none (.q (.bin .add (.t 31) (.k (.int .i64 1))))
  (.op (some 8) none (.q (.mov (.t 32)))
  (.done))))))))))))
  (.op (some 49) none (.q (.mov (.t 7)))
  (.op (some 6) none (.q (.mov (.t 49)))
  (.ret))))))))))))))))
def o71 : Nat → List Nat := fun _ => []
set_option maxRecDepth 100000 in
theorem t71 : (Try.f71.body.map fun c => tr Try.prog o71 Try.f71.ntmps c .done) = some c71 := by kernel_rfl
theorem r71 : trR Try.prog Try.f71.results.toList = some [.t 6] := by kernel_rfl
theorem in71 {w0 : World} {args : List AV} {H : Hp} {Q : AV → Hp → Prop} (h : W Try.prog w0 c71 (retQ [.t 6] Q) (env0 args) H) : ACalls Try.prog w0 71 args H Q :=
  ACalls.intro2 mixed Try.func71 rfl t71 r71 h

/-- laws.toIntSS -/
def c72 : CC :=
  .op (some 2) none (.q (.mov (.k (.nils))))
  (.op (some 5) none (.q (.mov (.t 0)))
  (.op (some 6) none (.q (.len (.t 5)))
  (.op (some 7) none (.l (.mk 30 24 [.nils] (.t 6) (.t 6)))
  (.op (some 3) none (.q (.mov (.t 7)))
  (.op (some 4) none (.q (.mov (.k (.int .i64 0))))
  (.block 0
  (.loop
  (.op (some 8) none (.q (.mov (.t 4)))
  (.op (some 9) none (.q (.mov (.t 0)))
  (.op (some 10) none (.q (.len (.t 9)))
  (.op (some 11) none (.q (.bin .lss (.t 8) (.t 10)))
  (.cond (.t 11)
  (.done)
  (.exit 0)
  (.block 1
  (.op (some 14) none (.q (.mov (.t 3)))
  (.op (some 15) none (.q (.mov (.t 4)))
  (.op (some 16) none (.q (.mov (.t 0)))
  (.op (some 17) none (.q (.mov (.t 4)))
  (.op (some 18) none (.q (.idx 1 (.t 16) (.t 17)))
  (.op (some 19) none (.q (.load none (.t 18)))
  (.op (some 20) none (.e (.call (.f 29) [.t 19]))
  (.op (some 21) none (.q (.idx 1 (.t 14) (.t 15)))
  (.op none none (.e (.store 1 (.t 21) (.t 20)))
  (.done))))))))))
  (.op (some 12) none (.q (.mov (.t 4)))
  (.op (some 13) none (.q (.bin .add (.t 12) (.k (.int .i64 1))))
  (.op (some 4) none (.q (.mov (.t 13)))
  (.done)))))))))))
  (.op (some 22) none (.q (.mov (.t 3)))
  (.op (some 2) none (.q (.mov (.t 22)))
  (.ret)))))))))
def o72 : Nat → List Nat := fun _ => []
set_option maxRecDepth 100000 in
theorem t72 : (Try.f72.body.map fun c => tr Try.prog o72 Try.f72.ntmps c .done) = some c72 := by kernel_rfl
theorem r72 : trR Try.prog Try.f72.results.toList = some [.t 2] := by kernel_rfl
theorem in72 {w0 : World} {args : List AV} {H : Hp} {Q : AV → Hp → Prop} (h : W Try.prog w0 c72 (retQ [.t 2] Q) (env0 args) H) : ACalls Try.prog w0 72 args H Q :=
  ACalls.intro2 mixed Try.func72 rfl t72 r72 h

/-- impl.maps -/
def c73 : CC :=
  .op (some 2) none (.l (.box 36 (.t 0)))
  (.op (some 3) none (.l (.box 36 (.t 1)))
  (.op (some 4) none (.q (.mov (.k (.nils))))
  (.draws [⟨1, false, [], (some 9), none, .q (.fld 0 (.t 3))⟩,
    ⟨2, true, [], (some 10), none, .q (.load none (.t 9))⟩,
    ⟨3, false, [], (some 11), none, .q (.len (.t 10))⟩,
    ⟨4, false, [], (some 12), none, .q (.bin .sub (.t 11) (.k (.int .i64 1)))⟩,
    ⟨0, false, [], (some 8), none, .l (.bsl 30 1 [.nils] 0 [])⟩,
    ⟨5, false, [], (some 5), none, .l (.alloc 31 [.nils])⟩,
    ⟨6, false, [], (some 6), none, .l (.alloc 3 [.int .i64 0])⟩,
    ⟨7, false, [], none, none, .e (.store 1 (.t 5) (.t 8))⟩,
    ⟨8, false, [], none, none, .e (.store 1 (.t 6) (.t 12))⟩] (.op (some 13) none (.q (.load none (.t 6)))
  (.op (some 14) none (.l (.bsl 3 1 [.int .i64 0] 1 [(0, .t 13)]))
  (.op (some 15) none (.q (.fld 0 (.t 2)))
  (.op (some 16) none (.q (.load none (.t 15)))
  (.op (some 17) none (.q (.len (.t 16)))
  (.op (some 18) none (.q (.bin .sub (.t 17) (.k (.int .i64 2))))
  (.op (some 19) none (.q (.mm true [.k (.int .i64 0), .t 18]))
  (.op (some 20) none (.e (.call (.f 131) [.t 14, .t 19]))
  (.op (some 7) none (.q (.mov (.t 20)))
  (.op (some 21) none (.q (.mov (.t 7)))
  (.op (some 22) none (.q (.mkf 133 [.t 2, .t 6, .t 3, .t 5]))
  (.op (some 23) none (.e (.call (.f 132) [.t 21, .t 22]))
  (.op (some 24) none (.q (.load none (.t 5)))
  (.op (some 4) none (.q (.mov (.t 24)))
  (.ret))))))))))))))))))
def o73 : Nat → List Nat := fun i => if i = 1 then [1, 2, 3, 4, 0, 5, 6, 7, 8] else []
set_option maxRecDepth 100000 in
theorem t73 : (Try.f73.body.map fun c => tr Try.prog o73 Try.f73.ntmps c .done) = some c73 := by kernel_rfl
theorem r73 : trR Try.prog Try.f73.results.toList = some [.t 4] := by kernel_rfl
theorem in73 {w0 : World} {args : List AV} {H : Hp} {Q : AV → Hp → Prop} (h : W Try.prog w0 c73 (retQ [.t 4] Q) (env0 args) H) : ACalls Try.prog w0 73 args H Q :=
  ACalls.intro2 mixed Try.func73 rfl t73 r73 h

/-- spec.validTerm -/
def c74 : CC :=
  .op (some 2) none (.q (.mov (.k (.bool false))))
  (.op (some 3) none (.q (.mov (.t 0)))
  (.op (some 4) none (.q (.len (.t 3)))
  (.op (some 5) none (.e (.call (.f 66) [.t 4, .k (.int .i64 1), .k (.int .i64 15)]))
  (.op (some 6) none (.q (.mov (.t 5)))
  (.op (some 7) (some (6, true)) (.q (.mov (.t 0)))
  (.op (some 8) (some (6, true)) (.e (.call (.f 135) [.t 7, .k (.int .i64 0)]))
  (.op (some 9) (some (6, true)) (.q (.mov (.t 0)))
  (.op (some 10) (some (6, true)) (.q (.len (.t 9)))
  (.op (some 11) (some (6, true)) (.q (.bin .eql (.t 8) (.t 10)))
  (.op (some 12) none (.q (.pick (.t 6) (.t 11) (.k (.bool false))))
  (.op (some 2) none (.q (.mov (.t 12)))
  (.ret))))))))))))
def o74 : Nat → List Nat := fun _ => []
set_option maxRecDepth 100000 in
theorem t74 : (Try.f74.body.map fun c => tr Try.prog o74 Try.f74.ntmps c .done) = some c74 := by kernel_rfl
theorem r74 : trR Try.prog Try.f74.results.toList = some [.t 2] := by kernel_rfl
theorem in74 {w0 : World} {args : List AV} {H : Hp} {Q : AV → Hp → Prop} (h : W Try.prog w0 c74 (retQ [.t 2] Q) (env0 args) H) : ACalls Try.prog w0 74 args H Q :=
  ACalls.intro2 mixed Try.func74 rfl t74 r74 h

/-- spec.assignments -/
def c75 : CC :=
  .op (some 2) none (.q (.mov (.k (.nils))))
  (.op (some 8) none (.l (.bsl 3 1 [.int .i64 0] 0 []))
  (.op (some 9) none (.l (.bsl 30 1 [.nils] 1 [(0, .t 8)]))
  (.op (some 3) none (.q (.mov (.t 9)))
  (.op (some 4) none (.q (.mov (.k (.int .i64 0))))
  (.block 0
  (.loop
  (.op (some 10) none (.q (.mov (.t 4)))
  (.op (some 11) none (.q (.bin .lss (.t 10) (.k (.int .i64 3))))
  (.cond (.t 11)
  (.done)
  (.exit 0)
  (.block 1
  (.op (some 14) none (.l (.bsl 30 1 [.nils] 0 []))
  (.op (some 5) none (.q (.mov (.t 14)))
  (.op (some 6) none (.q (.mov (.k (.int .i64 0))))
  (.block 2
  (.loop
  (.op (some 15) none (.q (.mov (.t 6)))
  (.op (some 16) none (.q (.mov (.t 3)))
  (.op (some 17) none (.q (.len (.t 16)))
  (.op (some 18) none (.q (.bin .lss (.t 15) (.t 17)))
  (.cond (.t 18)
  (.done)
  (.exit 2)
  (.block 3
  (.op (some 7) none (.q (.mov (.k (.int .i64 0))))
  (.block 4
  (.loop
  (.op (some 21) none (.q (.mov (.t 7)))
  (.op (some 22) none (.q (.mov (.t 0)))
  (.op (some 23) none (.q (.bin .lss (.t 21) (.t 22)))
  (.cond (.t 23)
  (.done)
  (.exit 4)
  (.block 5
  (.op (some 26) none (.q (.mov (.t 5)))
  (.op (some 27) none (.l (.bsl 3 1 [.int .i64 0] 0 []))
  (.op (some 28) none (.q (.mov (.t 3)))
  (.op (some 29) none (.q (.mov (.t 6)))
  (.op (some 30) none (.q (.idx 1 (.t 28) (.t 29)))
  (.op (some 31) none (.q (.load none (.t 30)))
  (.op (some 32) none (.e (.app 3 1 8 (.t 27) (.t 31)))
  (.op (some 33) none (.q (.mov (.t 7)))
  (.op (some 34) none (.l (.bsl 3 1 [.int .i64 0] 1 [(0, .t 33)]))
  (.op (some 35) none (.e (.app 3 1 8 (.t 32) (.t 34)))
  (.op (some 36) none (.l (.bsl 30 1 [.nils] 1 [(0, .t 35)]))
  (.op (some 37) none (.e (.app 30 1 24 (.t 26) (.t 36)))
  (.op (some 5) none (.q (.mov (.t 37)))
  (.done))))))))))))))
  (.op (some 24) none (.q (.mov (.t 7)))
  (.op (some 25) none (.q (.bin .add (.t 24) (.k (.int .i64 1))))
  (.op (some 7) none (.q (.mov (.t 25)))
  (.done))))))))))
  (.done)))
  (.op (some 19) none (.q (.mov (.t 6)))
  (.op (some 20) none (.q (.bin .add (.t 19) (.k (.int .i64 1))))
  (.op (some 6) none (.q (.mov (.t 20)))
  (.done)))))))))))
  (.op (some 38) none (.q (.mov (.t 5)))
  (.op (some 3) none (.q (.mov (.t 38)))
  (.done)))))))
  (.op (some 12) none (.q (.mov (.t 4)))
  (.op (some 13) none (.q (.bin .add (.t 12) (.k (.int .i64 1))))
  (.op (some 4) none (.q (.mov (.t 13)))
  (.done)))))))))
  (.op (some 39) none (.q (.mov (.t 3)))
  (.op (some 2) none (.q (.mov (.t 39)))
  (.ret))))))))
def o75 : Nat → List Nat := fun _ => []
set_option maxRecDepth 100000 in
theorem t75 : (Try.f75.body.map fun c => tr Try.prog o75 Try.f75.ntmps c .done) = some c75 := by kernel_rfl
theorem r75 : trR Try.prog Try.f75.results.toList = some [.t 2] := by kernel_rfl
theorem in75 {w0 : World} {args : List AV} {H : Hp} {Q : AV → Hp → Prop} (h : W Try.prog w0 c75 (retQ [.t 2] Q) (env0 args) H) : ACalls Try.prog w0 75 args H Q :=
  ACalls.intro2 mixed Try.func75 rfl t75 r75 h

/-- spec.value -/
def c76 : CC :=
  .op (some 4) none (.l (.box 36 (.t 0)))
  (.op (some 8) none (.q (.mov (.k (.int .i64 0))))
  (.op (some 11) none (.q (.mov (.t 1)))
  (.op (some 12) none (.q (.mov (.t 2)))
  (.op (some 13) none (.q (.idx 1 (.t 11) (.t 12)))
  (.op (some 14) none (.q (.load none (.t 13)))
  (.block 0
  (.op (some 16) none (.q (.bin .eql (.t 14) (.k (.int .i64 10))))
  (.op (some 15) none (.q (.mov (.t 16)))
  (.cond (.t 15)
  (.op (some 8) none (.q (.mov (.k (.int .i64 0))))
  (.ret))
  (.op (some 18) none (.q (.bin .eql (.t 14) (.k (.int .i64 11))))
  (.op (some 17) none (.q (.mov (.t 18)))
  (.cond (.t 17)
  (.op (some 19) none (.q (.fld 0 (.t 4)))
  (.op (some 20) none (.q (.load none (.t 19)))
  (.op (some 21) none (.q (.len (.t 20)))
  (.op (some 22) none (.q (.bin .sub (.t 21) (.k (.int .i64 1))))
  (.op (some 8) none (.q (.mov (.t 22)))
  (.ret))))))
  (.op (some 24) none (.q (.bin .eql (.t 14) (.k (.int .i64 12))))
  (.op (some 23) none (.q (.mov (.t 24)))
  (.cond (.t 23)
  (.draws [⟨0, true, [], (some 25), none, .q (.load (some 2) (.t 4))⟩,
    ⟨1, false, [], (some 26), none, .q (.load (some 2) (.t 4))⟩,
    ⟨2, false, [], (some 27), none, .q (.mov (.t 1))⟩,
    ⟨3, false, [], (some 28), none, .q (.mov (.t 2))⟩,
    ⟨4, false, [], (some 29), none, .q (.bin .add (.t 28) (.k (.int .i64 1)))⟩,
    ⟨5, false, [], (some 30), none, .q (.mov (.t 3))⟩,
    ⟨6, false, [], (some 31), none, .e (.call (.f 76) [.t 26, .t 27, .t 29, .t 30])⟩,
    ⟨7, false, [], (some 32), none, .e (.call (.f 124) [.t 25, .t 31, .k (.int .i64 0)])⟩,
    ⟨8, false, [], (some 8), none, .q (.mov (.t 32))⟩] (.ret))
  (.done)
  (.done))))
  (.done))))
  (.done))))
  (.op (some 33) none (.q (.mov (.t 1)))
  (.op (some 34) none (.q (.mov (.t 2)))
  (.op (some 35) none (.q (.idx 1 (.t 33) (.t 34)))
  (.op (some 36) none (.q (.load none (.t 35)))
  (.op (some 37) none (.q (.bin .lss (.t 36) (.k (.int .i64 3))))
  (.cond (.t 37)
  (.op (some 38) none (.q (.mov (.t 3)))
  (.op (some 39) none (.q (.mov (.t 1)))
  (.op (some 40) none (.q (.mov (.t 2)))
  (.op (some 41) none (.q (.idx 1 (.t 39) (.t 40)))
  (.op (some 42) none (.q (.load none (.t 41)))
  (.op (some 43) none (.q (.idx 1 (.t 38) (.t 42)))
  (.op (some 44) none (.q (.load none (.t 43)))
  (.op (some 8) none (.q (.mov (.t 44)))
  (.ret)))))))))
  (.done)
  (.op (some 45) none (.q (.load (some 2) (.t 4)))
  (.op (some 46) none (.q (.mov (.t 1)))
  (.op (some 47) none (.q (.mov (.t 2)))
  (.op (some 48) none (.q (.bin .add (.t 47) (.k (.int .i64 1))))
  (.op (some 49) none (.q (.mov (.t 3)))
  (.op (some 50) none (.e (.call (.f 76) [.t 45, .t 46, .t 48, .t 49]))
  (.op (some 9) none (.q (.mov (.t 50)))
  (.draws [⟨0, true, [], (some 51), none, .q (.load (some 2) (.t 4))⟩,
    ⟨1, false, [], (some 52), none, .q (.mov (.t 1))⟩,
    ⟨2, false, [], (some 53), none, .q (.mov (.t 1))⟩,
    ⟨3, false, [], (some 54), none, .q (.mov (.t 2))⟩,
    ⟨4, false, [], (some 55), none, .q (.bin .add (.t 54) (.k (.int .i64 1)))⟩,
    ⟨6, false, [], (some 57), none, .q (.mov (.t 3))⟩,
    ⟨5, false, [], (some 56), none, .e (.call (.f 135) [.t 53, .t 55])⟩,
    ⟨7, false, [], (some 58), none, .e (.call (.f 76) [.t 51, .t 52, .t 56, .t 57])⟩,
    ⟨8, false, [], (some 10), none, .q (.mov (.t 58))⟩] (.op (some 59) none (.q (.mov (.t 1)))
  (.op (some 60) none (.q (.mov (.t 2)))
  (.op (some 61) none (.q (.idx 1 (.t 59) (.t 60)))
  (.op (some 62) none (.q (.load none (.t 61)))
  (.block 1
  (.op (some 64) none (.q (.bin .eql (.t 62) (.k (.int .i64 13))))
  (.op (some 63) none (.q (.mov (.t 64)))
  (.cond (.t 63)
  (.op (some 65) none (.q (.fld 0 (.t 4)))
  (.op (some 66) none (.q (.load none (.t 65)))
  (.op (some 67) none (.q (.mov (.t 9)))
  (.op (some 68) none (.q (.mov (.t 10)))
  (.op (some 69) none (.e (.call (.f 125) [.t 66, .t 67, .t 68]))
  (.op (some 8) none (.q (.mov (.t 69)))
  (.ret)))))))
  (.op (some 71) none (.q (.bin .eql (.t 62) (.k (.int .i64 14))))
  (.op (some 70) none (.q (.mov (.t 71)))
  (.cond (.t 70)
  (.op (some 72) none (.q (.fld 0 (.t 4)))
  (.op (some 73) none (.q (.load none (.t 72)))
  (.op (some 74) none (.q (.mov (.t 9)))
  (.op (some 75) none (.q (.mov (.t 10)))
  (.op (some 76) none (.e (.call (.f 123) [.t 73, .t 74, .t 75]))
  (.op (some 8) none (.q (.mov (.t 76)))
  (.ret)))))))
  (.op (some 78) none (.q (.bin .eql (.t 62) (.k (.int .i64 15))))
  (.op (some 77) none (.q (.mov (.t 78)))
  (.cond (.t 77)
  (.op (some 79) none (.q (.fld 1 (.t 4)))
  (.op (some 80) none (.q (.load none (.t 79)))
  (.op (some 81) none (.q (.mov (.t 9)))
  (.op (some 82) none (.q (.idx 1 (.t 80) (.t 81)))
  (.op (some 83) none (.q (.load none (.t 82)))
  (.op (some 84) none (.q (.mov (.t 10)))
  (.op (some 85) none (.q (.idx 1 (.t 83) (.t 84)))
  (.op (some 86) none (.q (.load none (.t 85)))
  (.op (some 8) none (.q (.mov (.t 86)))
  (.ret))))))))))
  (.done)
  (.done))))
  (.done))))
  (.done))))
  (.op (some 87) none (.q (.load (some 2) (.t 4)))
  (.op (some 88) none (.q (.mov (.t 9)))
  (.op (some 89) none (.q (.mov (.t 10)))
  (.op (some 90) none (.e (.call (.f 124) [.t 87, .t 88, .t 89]))
  (.op (some 8) none (.q (.mov (.t 90)))
  (.ret)))))))))))))))))))))))))))))))
def o76 : Nat → List Nat := fun i => if i = 11 then [0, 1, 2, 3, 4, 6, 5, 7, 8] else if i = 7 then [0, 1, 2, 3, 4, 5, 6, 7, 8] else []
set_option maxRecDepth 100000 in
theorem t76 : (Try.f76.body.map fun c => tr Try.prog o76 Try.f76.ntmps c .done) = some c76 := by kernel_rfl
theorem r76 : trR Try.prog Try.f76.results.toList = some [.t 8] := by kernel_rfl
theorem in76 {w0 : World} {args : List AV} {H : Hp} {Q : AV → Hp → Prop} (h : W Try.prog w0 c76 (retQ [.t 8] Q) (env0 args) H) : ACalls Try.prog w0 76 args H Q :=
  ACalls.intro2 mixed Try.func76 rfl t76 r76 h

/-- impl.ValidTerm -/
def c77 : CC :=
  .op (some 2) none (.q (.mov (.k (.bool false))))
  (.op (some 3) none (.q (.mov (.k (.int .i64 1))))
  (.op (some 7) none (.q (.mov (.t 0)))
  (.op (some 8) none (.q (.len (.t 7)))
  (.op (some 9) none (.q (.mov (.k (.int .i64 0))))
  (.block 0
  (.loop
  (.op (some 10) none (.q (.bin .lss (.t 9) (.t 8)))
  (.cond (.t 10)
  (.done)
  (.exit 0)
  (.block 1
  (.op (some 11) none (.q (.idx 1 (.t 7) (.t 9)))
  (.op (some 12) none (.q (.load none (.t 11)))
  (.op (some 5) none (.q (.mov (.t 12)))
  (.op (some 13) none (.q (.mov (.t 5)))
  (.op (some 14) none (.e (.call (.f 136) [.t 13]))
  (.op (some 6) none (.q (.mov (.t 14)))
  (.op (some 15) none (.q (.mov (.t 3)))
  (.op (some 16) none (.q (.bin .eql (.t 15) (.k (.int .i64 0))))
  (.op (some 17) none (.q (.mov (.t 16)))
  (.op (some 18) (some (17, false)) (.q (.mov (.t 6)))
  (.op (some 19) (some (17, false)) (.q (.bin .lss (.t 18) (.k (.int .i64 0))))
  (.op (some 20) none (.q (.pick (.t 17) (.k (.bool true)) (.t 19)))
  (.cond (.t 20)
  (.op (some 2) none (.q (.mov (.k (.bool false))))
  (.ret))
  (.done)
  (.op (some 21) none (.q (.mov (.t 3)))
  (.op (some 22) none (.q (.mov (.t 6)))
  (.op (some 23) none (.q (.bin .sub (.t 22) (.k (.int .i64 1))))
  (.op (some 24) none (.q (.bin .add (.t 21) (.t 23)))
  (.op (some 3) none (.q (.mov (.t 24)))
  (.done)))))))))))))))))))
  (.op (some 25) none (.q (.bin .add (.t 9) (.k (.int .i64 1))))
  (.op (some 9) none (.q (.mov (.t 25)))
  (.done)))))))
  (.op (some 26) none (.q (.mov (.t 3)))
  (.op (some 27) none (.q (.bin .eql (.t 26) (.k (.int .i64 0))))
  (.op (some 28) none (.q (.mov (.t 27)))
  (.op (some 29) (some (28, true)) (.q (.mov (.t 0)))
  (.op (some 30) (some (28, true)) (.q (.len (.t 29)))
  (.op (some 31) (some (28, true)) (.q (.bin .leq (.t 30) (.k (.int .i64 15))))
  (.op (some 32) none (.q (.pick (.t 28) (.t 31) (.k (.bool false))))
  (.op (some 2) none (.q (.mov (.t 32)))
  (.ret))))))))))))))
def o77 : Nat → List Nat := fun _ => []
set_option maxRecDepth 100000 in
theorem t77 : (Try.f77.body.map fun c => tr Try.prog o77 Try.f77.ntmps c .done) = some c77 := by kernel_rfl
theorem r77 : trR Try.prog Try.f77.results.toList = some [.t 2] := by kernel_rfl
theorem in77 {w0 : World} {args : List AV} {H : Hp} {Q : AV → Hp → Prop} (h : W Try.prog w0 c77 (retQ [.t 2] Q) (env0 args) H) : ACalls Try.prog w0 77 args H Q :=
  ACalls.intro2 mixed Try.func77 rfl t77 r77 h

/-- impl.eachNames -/
def c78 : CC :=
  .op (some 2) none (.l (.box 36 (.t 0)))
  (.op (some 4) none (.q (.fld 0 (.t 2)))
  (.op (some 5) none (.q (.load none (.t 4)))
  (.op (some 6) none (.q (.len (.t 5)))
  (.op (some 7) none (.q (.bin .sub (.t 6) (.k (.int .i64 1))))
  (.op (some 8) none (.l (.bsl 3 1 [.int .i64 0] 1 [(0, .t 7)]))
  (.op (some 9) none (.e (.call (.f 131) [.t 8, .k (.int .i64 3)]))
  (.op (some 10) none (.q (.mov (.t 1)))
  (.op (some 11) none (.e (.call (.f 132) [.t 9, .t 10]))
  (.done)))))))))
def o78 : Nat → List Nat := fun _ => []
set_option maxRecDepth 100000 in
theorem t78 : (Try.f78.body.map fun c => tr Try.prog o78 Try.f78.ntmps c .done) = some c78 := by kernel_rfl
theorem r78 : trR Try.prog Try.f78.results.toList = some [] := by kernel_rfl
theorem in78 {w0 : World} {args : List AV} {H : Hp} {Q : AV → Hp → Prop} (h : W Try.prog w0 c78 (retQ [] Q) (env0 args) H) : ACalls Try.prog w0 78 args H Q :=
  ACalls.intro2 mixed Try.func78 rfl t78 r78 h

/-- impl.Follows$1 -/
def c79 : CC :=
  .draws [⟨0, false, [], (some 7), none, .q (.load none (.t 1))⟩,
    ⟨1, false, [], (some 8), none, .q (.mov (.t 7))⟩,
    ⟨2, false, [], (some 9), (some (8, true)), .q (.load (some 2) (.t 2))⟩,
    ⟨3, false, [], (some 10), (some (8, true)), .q (.load none (.t 3))⟩,
    ⟨4, false, [], (some 11), (some (8, true)), .q (.mov (.t 0))⟩,
    ⟨6, true, [], (some 13), (some (8, true)), .q (.load none (.t 4))⟩,
    ⟨5, false, [], (some 12), (some (8, true)), .e (.call (.f 80) [.t 9, .t 10, .t 11])⟩,
    ⟨7, false, [], (some 14), (some (8, true)), .q (.bin .neq (.t 12) (.t 13))⟩,
    ⟨8, false, [], (some 15), (some (8, true)), .q (.mov (.t 14))⟩,
    ⟨9, false, [], (some 16), (some (15, false)), .q (.load (some 2) (.t 2))⟩,
    ⟨10, false, [], (some 17), (some (15, false)), .q (.load none (.t 5))⟩,
    ⟨11, false, [], (some 18), (some (15, false)), .q (.mov (.t 0))⟩,
    ⟨13, true, [], (some 20), (some (15, false)), .q (.load none (.t 4))⟩,
    ⟨12, false, [], (some 19), (some (15, false)), .e (.call (.f 80) [.t 16, .t 17, .t 18])⟩,
    ⟨14, false, [], (some 21), (some (15, false)), .q (.bin .eql (.t 19) (.t 20))⟩,
    ⟨15, false, [], (some 22), (some (8, true)), .q (.pick (.t 15) (.k (.bool true)) (.t 21))⟩,
    ⟨16, false, [], (some 23), none, .q (.pick (.t 8) (.t 22) (.k (.bool false)))⟩,
    ⟨17, false, [], none, none, .e (.store 1 (.t 1) (.t 23))⟩] (.done)
def o79 : Nat → List Nat := fun i => if i = 0 then [0, 1, 2, 3, 4, 6, 5, 7, 8, 9, 10, 11, 13, 12, 14, 15, 16, 17] else []
set_option maxRecDepth 100000 in
theorem t79 : (Try.f79.body.map fun c => tr Try.prog o79 Try.f79.ntmps c .done) = some c79 := by kernel_rfl
theorem r79 : trR Try.prog Try.f79.results.toList = some [] := by kernel_rfl
theorem in79 {w0 : World} {args : List AV} {H : Hp} {Q : AV → Hp → Prop} (h : W Try.prog w0 c79 (retQ [] Q) (env0 args) H) : ACalls Try.prog w0 79 args H Q :=
  ACalls.intro2 mixed Try.func79 rfl t79 r79 h

/-- impl.valueOf -/
def c80 : CC :=
  .op (some 3) none (.l (.box 36 (.t 0)))
  (.op (some 6) none (.q (.mov (.k (.int .i64 0))))
  (.op (some 10) none (.q (.load (some 2) (.t 3)))
  (.op (some 11) none (.q (.mov (.t 1)))
  (.op (some 12) none (.q (.mov (.t 2)))
  (.op (some 13) none (.e (.call (.f 137) [.t 10, .t 11, .t 12]))
  (.op (some 9) none (.q (.mov (.t 13)))
  (.op (some 14) none (.q (.ext (.t 9) 0))
  (.op (some 15) none (.q (.ext (.t 9) 1))
  (.op (some 7) none (.q (.mov (.t 14)))
  (.op (some 8) none (.q (.mov (.t 15)))
  (.op (some 16) none (.q (.mov (.t 7)))
  (.op (some 6) none (.q (.mov (.t 16)))
  (.ret)))))))))))))
def o80 : Nat → List Nat := fun _ => []
set_option maxRecDepth 100000 in
theorem t80 : (Try.f80.body.map fun c => tr Try.prog o80 Try.f80.ntmps c .done) = some c80 := by kernel_rfl
theorem r80 : trR Try.prog Try.f80.results.toList = some [.t 6] := by kernel_rfl
theorem in80 {w0 : World} {args : List AV} {H : Hp} {Q : AV → Hp → Prop} (h : W Try.prog w0 c80 (retQ [.t 6] Q) (env0 args) H) : ACalls Try.prog w0 80 args H Q :=
  ACalls.intro2 mixed Try.func80 rfl t80 r80 h

/-- spec.imageOf -/
def c81 : CC :=
  .op (some 2) none (.q (.mov (.k (.int .i64 0))))
  (.op (some 3) none (.q (.mov (.k (.int .i64 0))))
  (.op (some 4) none (.q (.mov (.k (.int .i64 0))))
  (.block 0
  (.loop
  (.op (some 5) none (.q (.mov (.t 4)))
  (.op (some 6) none (.q (.mov (.t 0)))
  (.op (some 7) none (.q (.len (.t 6)))
  (.op (some 8) none (.q (.bin .lss (.t 5) (.t 7)))
  (.cond (.t 8)
  (.done)
  (.exit 0)
  (.block 1
  (.op (some 11) none (.q (.mov (.t 3)))
  (.op (some 12) none (.q (.mov (.t 0)))
  (.op (some 13) none (.q (.mov (.t 4)))
  (.op (some 14) none (.q (.idx 1 (.t 12) (.t 13)))
  (.op (some 15) none (.q (.load none (.t 14)))
  (.op (some 16) none (.e (.call (.f 82) [.t 15]))
  (.op (some 17) none (.q (.bin .or (.t 11) (.t 16)))
  (.op (some 3) none (.q (.mov (.t 17)))
  (.done)))))))))
  (.op (some 9) none (.q (.mov (.t 4)))
  (.op (some 10) none (.q (.bin .add (.t 9) (.k (.int .i64 1))))
  (.op (some 4) none (.q (.mov (.t 10)))
  (.done)))))))))))
  (.op (some 18) none (.q (.mov (.t 3)))
  (.op (some 2) none (.q (.mov (.t 18)))
  (.ret))))))
def o81 : Nat → List Nat := fun _ => []
set_option maxRecDepth 100000 in
theorem t81 : (Try.f81.body.map fun c => tr Try.prog o81 Try.f81.ntmps c .done) = some c81 := by kernel_rfl
theorem r81 : trR Try.prog Try.f81.results.toList = some [.t 2] := by kernel_rfl
theorem in81 {w0 : World} {args : List AV} {H : Hp} {Q : AV → Hp → Prop} (h : W Try.prog w0 c81 (retQ [.t 2] Q) (env0 args) H) : ACalls Try.prog w0 81 args H Q :=
  ACalls.intro2 mixed Try.func81 rfl t81 r81 h

/-- spec.power -/
def c82 : CC :=
  .op (some 2) none (.q (.mov (.k (.int .i64 0))))
  (.op (some 3) none (.q (.mov (.k (.int .i64 1))))
  (.block 0
  (.loop
  (.op (some 4) none (.q (.mov (.t 0)))
  (.op (some 5) none (.q (.bin .gtr (.t 4) (.k (.int .i64 0))))
  (.cond (.t 5)
  (.done)
  (.exit 0)
  (.block 1
  (.op (some 8) none (.q (.mov (.t 3)))
  (.op (some 9) none (.q (.bin .mul (.k (.int .i64 2)) (.t 8)))
  (.op (some 3) none (.q (.mov (.t 9)))
  (.done))))
  (.op (some 6) none (.q (.mov (.t 0)))
  (.op (some 7) none (.q (.bin .sub (.t 6) (.k (.int .i64 1))))
  (.op (some 0) none (.q (.mov (.t 7)))
  (.done)))))))))
  (.op (some 10) none (.q (.mov (.t 3)))
  (.op (some 2) none (.q (.mov (.t 10)))
  (.ret)))))
def o82 : Nat → List Nat := fun _ => []
set_option maxRecDepth 100000 in
theorem t82 : (Try.f82.body.map fun c => tr Try.prog o82 Try.f82.ntmps c .done) = some c82 := by kernel_rfl
theorem r82 : trR Try.prog Try.f82.results.toList = some [.t 2] := by kernel_rfl
theorem in82 {w0 : World} {args : List AV} {H : Hp} {Q : AV → Hp → Prop} (h : W Try.prog w0 c82 (retQ [.t 2] Q) (env0 args) H) : ACalls Try.prog w0 82 args H Q :=
  ACalls.intro2 mixed Try.func82 rfl t82 r82 h

/-- impl.image -/
def c83 : CC :=
  .op (some 2) none (.q (.mov (.k (.int .i64 0))))
  (.op (some 3) none (.q (.mov (.k (.int .i64 0))))
  (.op (some 6) none (.q (.mov (.t 0)))
  (.op (some 7) none (.q (.len (.t 6)))
  (.op (some 8) none (.q (.mov (.k (.int .i64 0))))
  (.block 0
  (.loop
  (.op (some 9) none (.q (.bin .lss (.t 8) (.t 7)))
  (.cond (.t 9)
  (.done)
  (.exit 0)
  (.block 1
  (.op (some 10) none (.q (.idx 1 (.t 6) (.t 8)))
  (.op (some 11) none (.q (.load none (.t 10)))
  (.op (some 5) none (.q (.mov (.t 11)))
  (.op (some 12) none (.q (.mov (.t 3)))
  (.op (some 13) none (.q (.mov (.t 5)))
  (.op (some 14) none (.q (.bin .shl (.k (.int .i64 1)) (.t 13)))
  (.op (some 15) none (.q (.bin .or (.t 12) (.t 14)))
  (.op (some 3) none (.q (.mov (.t 15)))
  (.done)))))))))
  (.op (some 16) none (.q (.bin .add (.t 8) (.k (.int .i64 1))))
  (.op (some 8) none (.q (.mov (.t 16)))
  (.done)))))))
  (.op (some 17) none (.q (.mov (.t 3)))
  (.op (some 2) none (.q (.mov (.t 17)))
  (.ret))))))))
def o83 : Nat → List Nat := fun _ => []
set_option maxRecDepth 100000 in
theorem t83 : (Try.f83.body.map fun c => tr Try.prog o83 Try.f83.ntmps c .done) = some c83 := by kernel_rfl
theorem r83 : trR Try.prog Try.f83.results.toList = some [.t 2] := by kernel_rfl
theorem in83 {w0 : World} {args : List AV} {H : Hp} {Q : AV → Hp → Prop} (h : W Try.prog w0 c83 (retQ [.t 2] Q) (env0 args) H) : ACalls Try.prog w0 83 args H Q :=
  ACalls.intro2 mixed Try.func83 rfl t83 r83 h

/-- spec.isFilter -/
def c84 : CC :=
  .op (some 2) none (.l (.box 36 (.t 0)))
  (.op (some 4) none (.q (.mov (.k (.bool false))))
  (.op (some 8) none (.q (.fld 0 (.t 2)))
  (.op (some 9) none (.q (.load none (.t 8)))
  (.op (some 10) none (.q (.len (.t 9)))
  (.op (some 5) none (.q (.mov (.t 10)))
  (.op (some 11) none (.q (.mov (.t 1)))
  (.op (some 12) none (.q (.mov (.t 5)))
  (.op (some 13) none (.e (.call (.f 82) [.t 12]))
  (.op (some 14) none (.q (.bin .sub (.t 13) (.k (.int .i64 1))))
  (.op (some 15) none (.e (.call (.f 66) [.t 11, .k (.int .i64 0), .t 14]))
  (.op (some 16) none (.q (.not (.t 15)))
  (.op (some 17) none (.q (.mov (.t 16)))
  (.op (some 18) (some (17, false)) (.q (.mov (.t 1)))
  (.op (some 19) (some (17, false)) (.q (.mov (.t 5)))
  (.op (some 20) (some (17, false)) (.q (.bin .sub (.t 19) (.k (.int .i64 1))))
  (.op (some 21) (some (17, false)) (.e (.call (.f 138) [.t 18, .t 20]))
  (.op (some 22) (some (17, false)) (.q (.bin .eql (.t 21) (.k (.int .i64 0))))
  (.op (some 23) none (.q (.pick (.t 17) (.k (.bool true)) (.t 22)))
  (.cond (.t 23)
  (.op (some 4) none (.q (.mov (.k (.bool false))))
  (.ret))
  (.done)
  (.op (some 6) none (.q (.mov (.k (.int .i64 0))))
  (.block 0
  (.loop
  (.op (some 24) none (.q (.mov (.t 6)))
  (.op (some 25) none (.q (.mov (.t 5)))
  (.op (some 26) none (.q (.bin .lss (.t 24) (.t 25)))
  (.cond (.t 26)
  (.done)
  (.exit 0)
  (.block 1
  (.op (some 7) none (.q (.mov (.k (.int .i64 0))))
  (.block 2
  (.loop
  (.op (some 29) none (.q (.mov (.t 7)))
  (.op (some 30) none (.q (.mov (.t 5)))
  (.op (some 31) none (.q (.bin .lss (.t 29) (.t 30)))
  (.cond (.t 31)
  (.done)
  (.exit 2)
  (.block 3
  (.op (some 34) none (.q (.mov (.t 1)))
  (.op (some 35) none (.q (.mov (.t 6)))
  (.op (some 36) none (.e (.call (.f 138) [.t 34, .t 35]))
  (.op (some 37) none (.q (.bin .eql (.t 36) (.k (.int .i64 1))))
  (.op (some 38) none (.q (.mov (.t 37)))
  (.op (some 39) (some (38, true)) (.q (.fld 0 (.t 2)))
  (.op (some 40) (some (38, true)) (.q (.load none (.t 39)))
  (.op (some 41) (some (38, true)) (.q (.mov (.t 6)))
  (.op (some 42) (some (38, true)) (.q (.mov (.t 7)))
  (.op (some 43) (some (38, true)) (.e (.call (.f 93) [.t 40, .t 41, .t 42]))
  (.op (some 44) (some (38, true)) (.q (.mov (.t 43)))
  (.op (some 45) (some (44, true)) (.q (.mov (.t 1)))
  (.op (some 46) (some (44, true)) (.q (.mov (.t 7)))
  (.op (some 47) (some (44, true)) (.e (.call (.f 138) [.t 45, .t 46]))
  (.op (some 48) (some (44, true)) (.q (.bin .eql (.t 47) (.k (.int .i64 0))))
  (.op (some 49) (some (38, true)) (.q (.pick (.t 44) (.t 48) (.k (.bool false))))
  (.op (some 50) (some (38, true)) (.q (.mov (.t 49)))
  (.op (some 51) (some (50, false)) (.q (.mov (.t 1)))
  (.op (some 52) (some (50, false)) (.q (.mov (.t 7)))
  (.op (some 53) (some (50, false)) (.e (.call (.f 138) [.t 51, .t 52]))
  (.op (some 54) (some (50, false)) (.q (.bin .eql (.t 53) (.k (.int .i64 1))))
  (.op (some 55) (some (50, false)) (.q (.mov (.t 54)))
  (.op (some 56) (some (55, true)) (.q (.mov (.t 1)))
  (.op (some 57) (some (55, true)) (.q (.fld 1 (.t 2)))
  (.op (some 58) (some (55, true)) (.q (.load none (.t 57)))
  (.op (some 59) (some (55, true)) (.q (.mov (.t 6)))
  (.op (some 60) (some (55, true)) (.q (.idx 1 (.t 58) (.t 59)))
  (.op (some 61) (some (55, true)) (.q (.load none (.t 60)))
  (.op (some 62) (some (55, true)) (.q (.mov (.t 7)))
  (.op (some 63) (some (55, true)) (.q (.idx 1 (.t 61) (.t 62)))
  (.op (some 64) (some (55, true)) (.q (.load none (.t 63)))
  (.op (some 65) (some (55, true)) (.e (.call (.f 138) [.t 56, .t 64]))
  (.op (some 66) (some (55, true)) (.q (.bin .eql (.t 65) (.k (.int .i64 0))))
  (.op (some 67) (some (50, false)) (.q (.pick (.t 55) (.t 66) (.k (.bool false))))
  (.op (some 68) (some (38, true)) (.q (.pick (.t 50) (.k (.bool true)) (.t 67)))
  (.op (some 69) none (.q (.pick (.t 38) (.t 68) (.k (.bool false))))
  (.cond (.t 69)
  (.op (some 4) none (.q (.mov (.k (.bool false))))
  (.ret))
  (.done)
  (.done))))))))))))))))))))))))))))))))))))))
  (.op (some 32) none (.q (.mov (.t 7)))
  (.op (some 33) none (.q (.bin .add (.t 32) (.k (.int .i64 1))))
  (.op (some 7) none (.q (.mov (.t 33)))
  (.done))))))))))
  (.done)))
  (.op (some 27) none (.q (.mov (.t 6)))
  (.op (some 28) none (.q (.bin .add (.t 27) (.k (.int .i64 1))))
  (.op (some 6) none (.q (.mov (.t 28)))
  (.done))))))))))
  (.op (some 4) none (.q (.mov (.k (.bool true))))
  (.ret)))))))))))))))))))))))
def o84 : Nat → List Nat := fun _ => []
set_option maxRecDepth 100000 in
theorem t84 : (Try.f84.body.map fun c => tr Try.prog o84 Try.f84.ntmps c .done) = some c84 := by kernel_rfl
theorem r84 : trR Try.prog Try.f84.results.toList = some [.t 4] := by kernel_rfl
theorem in84 {w0 : World} {args : List AV} {H : Hp} {Q : AV → Hp → Prop} (h : W Try.prog w0 c84 (retQ [.t 4] Q) (env0 args) H) : ACalls Try.prog w0 84 args H Q :=
  ACalls.intro2 mixed Try.func84 rfl t84 r84 h

end Go.AL
