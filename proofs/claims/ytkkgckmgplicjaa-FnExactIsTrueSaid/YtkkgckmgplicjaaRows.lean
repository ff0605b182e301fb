/-
  No cell of these rows narrows 'for every input' (looked for: loops, veiled, ifaces, maps, wideKeys, modest, calm, conditions, laid).
  DERIVED. THE GIVEN ROWS OF THIS SEAT. 11 by the template 'for every input the law returns true; each argument reads behind the call as it read before'; 0 by the template 'total and deterministic' (their statements: YtkkgckmgplicjaaTotals.lean).
  GIVEN WITH THE SEED: the statements are not yours to turn. If you find one false, say at which input.
  Laid BY PROGRAM, IN A SANDBOX (cutbox-rows.mjs): the forced cells as the released guide's own fill.sh prints them over the translation d0661cd172c09130… (all of the seat's roots in one cut). By AI agents, Wed Nov 11 2026. No macro, syntax, notation, axiom, sorry.
-/
import Derived.Test.YtkkgckmgplicjaaChecked
import GoSem.Claim
import GoSem.ClaimJoined
import GoSem.ClaimMapViews
import Derived.JoinedTies
import Derived.KernelRfl
namespace Go.Proofs.Ytkkgckmgplicjaa
/- THE CELL 'sum', in the pinned program and in every row, IS THE sha256 OF THE DUMP (.gsa) THAT YtkkgckmgplicjaaProg.lean LOADS. Nothing in Lean hashes anything: it is a label: what it is worth is what the hold of that sum in a sandbox is worth. -/
noncomputable def Try.pinned : Pinned := { name := "ytkkgckmgplicjaa", sum := "d0661cd172c091307de4eef7cf7a9147c8b552318f4854b1161a27ee05a59937", checked := Try.checked }
namespace Rows
def none {H : Type} : Left H := { results := [], args := [] }

/-- 'laws.FnChainCount': WHATEVER THE INPUT: true; the input reads as it did. -/
def fnChainCountSpec : ChangeSpec := { name := "fnChainCount", fn := fun _ => fun
  | [d] => { results := [.lit (.bool true)], args := [d] }
  | _ => none }
def fnChainCountRow : OpenClaim := { program := "ytkkgckmgplicjaa", sum := "d0661cd172c091307de4eef7cf7a9147c8b552318f4854b1161a27ee05a59937", func := "loop.example/residuatedtables/laws.FnChainCount", spec := "fnChainCount", unfollowed := true, recurses := true, apart := false }
def FnChainCountSaid : Prop := fnChainCountRow.holds Try.pinned (OpenSpec.ofChange fnChainCountSpec)

/-- ITS FALSE NEIGHBOUR: 'it returns false'. Refute it at one input. -/
def fnChainCountWrong : ChangeSpec := { name := "fnChainCount", fn := fun _ => fun
  | [d] => { results := [.lit (.bool false)], args := [d] }
  | _ => none }
def FnChainCountWrongFalsely : Prop := fnChainCountRow.holds Try.pinned (OpenSpec.ofChange fnChainCountWrong)

/-- 'laws.FnExactMapsOf': WHATEVER THE INPUT: true; the input reads as it did. -/
def fnExactMapsOfSpec : ChangeSpec := { name := "fnExactMapsOf", fn := fun _ => fun
  | [d1, d2] => { results := [.lit (.bool true)], args := [d1, d2] }
  | _ => none }
def fnExactMapsOfRow : OpenClaim := { program := "ytkkgckmgplicjaa", sum := "d0661cd172c091307de4eef7cf7a9147c8b552318f4854b1161a27ee05a59937", func := "loop.example/residuatedtables/laws.FnExactMapsOf", spec := "fnExactMapsOf", unfollowed := true, recurses := true, apart := false }
def FnExactMapsOfSaid : Prop := fnExactMapsOfRow.holds Try.pinned (OpenSpec.ofChange fnExactMapsOfSpec)

/-- ITS FALSE NEIGHBOUR: 'it returns false'. Refute it at one input. -/
def fnExactMapsOfWrong : ChangeSpec := { name := "fnExactMapsOf", fn := fun _ => fun
  | [d1, d2] => { results := [.lit (.bool false)], args := [d1, d2] }
  | _ => none }
def FnExactMapsOfWrongFalsely : Prop := fnExactMapsOfRow.holds Try.pinned (OpenSpec.ofChange fnExactMapsOfWrong)

/-- 'laws.FnExactFollows': WHATEVER THE INPUT: true; the input reads as it did. -/
def fnExactFollowsSpec : ChangeSpec := { name := "fnExactFollows", fn := fun _ => fun
  | [d1, d2, d3] => { results := [.lit (.bool true)], args := [d1, d2, d3] }
  | _ => none }
def fnExactFollowsRow : OpenClaim := { program := "ytkkgckmgplicjaa", sum := "d0661cd172c091307de4eef7cf7a9147c8b552318f4854b1161a27ee05a59937", func := "loop.example/residuatedtables/laws.FnExactFollows", spec := "fnExactFollows", unfollowed := true, recurses := true, apart := false }
def FnExactFollowsSaid : Prop := fnExactFollowsRow.holds Try.pinned (OpenSpec.ofChange fnExactFollowsSpec)

/-- ITS FALSE NEIGHBOUR: 'it returns false'. Refute it at one input. -/
def fnExactFollowsWrong : ChangeSpec := { name := "fnExactFollows", fn := fun _ => fun
  | [d1, d2, d3] => { results := [.lit (.bool false)], args := [d1, d2, d3] }
  | _ => none }
def FnExactFollowsWrongFalsely : Prop := fnExactFollowsRow.holds Try.pinned (OpenSpec.ofChange fnExactFollowsWrong)

/-- 'laws.FnExactSameBy': WHATEVER THE INPUT: true; the input reads as it did. -/
def fnExactSameBySpec : ChangeSpec := { name := "fnExactSameBy", fn := fun _ => fun
  | [d1, d2] => { results := [.lit (.bool true)], args := [d1, d2] }
  | _ => none }
def fnExactSameByRow : OpenClaim := { program := "ytkkgckmgplicjaa", sum := "d0661cd172c091307de4eef7cf7a9147c8b552318f4854b1161a27ee05a59937", func := "loop.example/residuatedtables/laws.FnExactSameBy", spec := "fnExactSameBy", unfollowed := true, recurses := true, apart := false }
def FnExactSameBySaid : Prop := fnExactSameByRow.holds Try.pinned (OpenSpec.ofChange fnExactSameBySpec)

/-- ITS FALSE NEIGHBOUR: 'it returns false'. Refute it at one input. -/
def fnExactSameByWrong : ChangeSpec := { name := "fnExactSameBy", fn := fun _ => fun
  | [d1, d2] => { results := [.lit (.bool false)], args := [d1, d2] }
  | _ => none }
def FnExactSameByWrongFalsely : Prop := fnExactSameByRow.holds Try.pinned (OpenSpec.ofChange fnExactSameByWrong)

/-- 'laws.FnExactQuotientOf': WHATEVER THE INPUT: true; the input reads as it did. -/
def fnExactQuotientOfSpec : ChangeSpec := { name := "fnExactQuotientOf", fn := fun _ => fun
  | [d1, d2] => { results := [.lit (.bool true)], args := [d1, d2] }
  | _ => none }
def fnExactQuotientOfRow : OpenClaim := { program := "ytkkgckmgplicjaa", sum := "d0661cd172c091307de4eef7cf7a9147c8b552318f4854b1161a27ee05a59937", func := "loop.example/residuatedtables/laws.FnExactQuotientOf", spec := "fnExactQuotientOf", unfollowed := true, recurses := true, apart := false }
def FnExactQuotientOfSaid : Prop := fnExactQuotientOfRow.holds Try.pinned (OpenSpec.ofChange fnExactQuotientOfSpec)

/-- ITS FALSE NEIGHBOUR: 'it returns false'. Refute it at one input. -/
def fnExactQuotientOfWrong : ChangeSpec := { name := "fnExactQuotientOf", fn := fun _ => fun
  | [d1, d2] => { results := [.lit (.bool false)], args := [d1, d2] }
  | _ => none }
def FnExactQuotientOfWrongFalsely : Prop := fnExactQuotientOfRow.holds Try.pinned (OpenSpec.ofChange fnExactQuotientOfWrong)

/-- 'laws.FnExactLeastPower': WHATEVER THE INPUT: true; the input reads as it did. -/
def fnExactLeastPowerSpec : ChangeSpec := { name := "fnExactLeastPower", fn := fun _ => fun
  | [d1, d2, d3] => { results := [.lit (.bool true)], args := [d1, d2, d3] }
  | _ => none }
def fnExactLeastPowerRow : OpenClaim := { program := "ytkkgckmgplicjaa", sum := "d0661cd172c091307de4eef7cf7a9147c8b552318f4854b1161a27ee05a59937", func := "loop.example/residuatedtables/laws.FnExactLeastPower", spec := "fnExactLeastPower", unfollowed := true, recurses := true, apart := false }
def FnExactLeastPowerSaid : Prop := fnExactLeastPowerRow.holds Try.pinned (OpenSpec.ofChange fnExactLeastPowerSpec)

/-- ITS FALSE NEIGHBOUR: 'it returns false'. Refute it at one input. -/
def fnExactLeastPowerWrong : ChangeSpec := { name := "fnExactLeastPower", fn := fun _ => fun
  | [d1, d2, d3] => { results := [.lit (.bool false)], args := [d1, d2, d3] }
  | _ => none }
def FnExactLeastPowerWrongFalsely : Prop := fnExactLeastPowerRow.holds Try.pinned (OpenSpec.ofChange fnExactLeastPowerWrong)

/-- 'laws.FnExactIsTrue': WHATEVER THE INPUT: true; the input reads as it did. -/
def fnExactIsTrueSpec : ChangeSpec := { name := "fnExactIsTrue", fn := fun _ => fun
  | [d1, d2] => { results := [.lit (.bool true)], args := [d1, d2] }
  | _ => none }
def fnExactIsTrueRow : OpenClaim := { program := "ytkkgckmgplicjaa", sum := "d0661cd172c091307de4eef7cf7a9147c8b552318f4854b1161a27ee05a59937", func := "loop.example/residuatedtables/laws.FnExactIsTrue", spec := "fnExactIsTrue", unfollowed := true, recurses := true, apart := false }
def FnExactIsTrueSaid : Prop := fnExactIsTrueRow.holds Try.pinned (OpenSpec.ofChange fnExactIsTrueSpec)

/-- ITS FALSE NEIGHBOUR: 'it returns false'. Refute it at one input. -/
def fnExactIsTrueWrong : ChangeSpec := { name := "fnExactIsTrue", fn := fun _ => fun
  | [d1, d2] => { results := [.lit (.bool false)], args := [d1, d2] }
  | _ => none }
def FnExactIsTrueWrongFalsely : Prop := fnExactIsTrueRow.holds Try.pinned (OpenSpec.ofChange fnExactIsTrueWrong)

/-- 'laws.FnIsNucleus': WHATEVER THE INPUT: true; the input reads as it did. -/
def fnIsNucleusSpec : ChangeSpec := { name := "fnIsNucleus", fn := fun _ => fun
  | [d] => { results := [.lit (.bool true)], args := [d] }
  | _ => none }
def fnIsNucleusRow : OpenClaim := { program := "ytkkgckmgplicjaa", sum := "d0661cd172c091307de4eef7cf7a9147c8b552318f4854b1161a27ee05a59937", func := "loop.example/residuatedtables/laws.FnIsNucleus", spec := "fnIsNucleus", unfollowed := true, recurses := true, apart := false }
def FnIsNucleusSaid : Prop := fnIsNucleusRow.holds Try.pinned (OpenSpec.ofChange fnIsNucleusSpec)

/-- ITS FALSE NEIGHBOUR: 'it returns false'. Refute it at one input. -/
def fnIsNucleusWrong : ChangeSpec := { name := "fnIsNucleus", fn := fun _ => fun
  | [d] => { results := [.lit (.bool false)], args := [d] }
  | _ => none }
def FnIsNucleusWrongFalsely : Prop := fnIsNucleusRow.holds Try.pinned (OpenSpec.ofChange fnIsNucleusWrong)

/-- 'laws.FnExactSizesOf': WHATEVER THE INPUT: true; the input reads as it did. -/
def fnExactSizesOfSpec : ChangeSpec := { name := "fnExactSizesOf", fn := fun _ => fun
  | [d] => { results := [.lit (.bool true)], args := [d] }
  | _ => none }
def fnExactSizesOfRow : OpenClaim := { program := "ytkkgckmgplicjaa", sum := "d0661cd172c091307de4eef7cf7a9147c8b552318f4854b1161a27ee05a59937", func := "loop.example/residuatedtables/laws.FnExactSizesOf", spec := "fnExactSizesOf", unfollowed := true, recurses := true, apart := false }
def FnExactSizesOfSaid : Prop := fnExactSizesOfRow.holds Try.pinned (OpenSpec.ofChange fnExactSizesOfSpec)

/-- ITS FALSE NEIGHBOUR: 'it returns false'. Refute it at one input. -/
def fnExactSizesOfWrong : ChangeSpec := { name := "fnExactSizesOf", fn := fun _ => fun
  | [d] => { results := [.lit (.bool false)], args := [d] }
  | _ => none }
def FnExactSizesOfWrongFalsely : Prop := fnExactSizesOfRow.holds Try.pinned (OpenSpec.ofChange fnExactSizesOfWrong)

/-- 'laws.FnPartsOf': WHATEVER THE INPUT: true; the input reads as it did. -/
def fnPartsOfSpec : ChangeSpec := { name := "fnPartsOf", fn := fun _ => fun
  | [d] => { results := [.lit (.bool true)], args := [d] }
  | _ => none }
def fnPartsOfRow : OpenClaim := { program := "ytkkgckmgplicjaa", sum := "d0661cd172c091307de4eef7cf7a9147c8b552318f4854b1161a27ee05a59937", func := "loop.example/residuatedtables/laws.FnPartsOf", spec := "fnPartsOf", unfollowed := true, recurses := true, apart := false }
def FnPartsOfSaid : Prop := fnPartsOfRow.holds Try.pinned (OpenSpec.ofChange fnPartsOfSpec)

/-- ITS FALSE NEIGHBOUR: 'it returns false'. Refute it at one input. -/
def fnPartsOfWrong : ChangeSpec := { name := "fnPartsOf", fn := fun _ => fun
  | [d] => { results := [.lit (.bool false)], args := [d] }
  | _ => none }
def FnPartsOfWrongFalsely : Prop := fnPartsOfRow.holds Try.pinned (OpenSpec.ofChange fnPartsOfWrong)

/-- 'laws.FnExactRefuteTerm': WHATEVER THE INPUT: true; the input reads as it did. -/
def fnExactRefuteTermSpec : ChangeSpec := { name := "fnExactRefuteTerm", fn := fun _ => fun
  | [d1, d2] => { results := [.lit (.bool true)], args := [d1, d2] }
  | _ => none }
def fnExactRefuteTermRow : OpenClaim := { program := "ytkkgckmgplicjaa", sum := "d0661cd172c091307de4eef7cf7a9147c8b552318f4854b1161a27ee05a59937", func := "loop.example/residuatedtables/laws.FnExactRefuteTerm", spec := "fnExactRefuteTerm", unfollowed := true, recurses := true, apart := false }
def FnExactRefuteTermSaid : Prop := fnExactRefuteTermRow.holds Try.pinned (OpenSpec.ofChange fnExactRefuteTermSpec)

/-- ITS FALSE NEIGHBOUR: 'it returns false'. Refute it at one input. -/
def fnExactRefuteTermWrong : ChangeSpec := { name := "fnExactRefuteTerm", fn := fun _ => fun
  | [d1, d2] => { results := [.lit (.bool false)], args := [d1, d2] }
  | _ => none }
def FnExactRefuteTermWrongFalsely : Prop := fnExactRefuteTermRow.holds Try.pinned (OpenSpec.ofChange fnExactRefuteTermWrong)

/- THE SECOND FORM. 'bulk': how many values and letters a reading holds, each counted each time it is reached (what is shared counts as often as it is met; a slice's spare places count too). A statement '..UptoSaid' is the law's where the arguments, and the package variables that the reading takes, are together of bulk at most 1048576: NARROWER than '..Said'. Prove '..Said' where nothing that the law and all that it calls make is longer than what came in: it says more and counts as full. Else prove '..UptoSaid'. A law counts once. -/
mutual
def uptoBulk {H : Type} : DataW H → Nat
  | .lit (.string bytes) => bytes.length + 1
  | .lit _ => 1
  | .nil => 1
  | .ptr d => uptoBulk d + 1
  | .slice elems spare => uptoBulkAll elems + uptoBulkAll spare + 1
  | .agg parts => uptoBulkAll parts + 1
  | .iface _ d => uptoBulk d + 1
  | .map entries => uptoBulkEntries entries + 1
  | .held _ => 1
def uptoBulkAll {H : Type} : List (DataW H) → Nat
  | [] => 0
  | d :: r => uptoBulk d + uptoBulkAll r
def uptoBulkEntries {H : Type} : List (Lit × DataW H) → Nat
  | [] => 0
  | x :: r => uptoBulkEntry x + uptoBulkEntries r
def uptoBulkEntry {H : Type} : Lit × DataW H → Nat
  | (.string bytes, d) => bytes.length + uptoBulk d + 1
  | (_, d) => uptoBulk d + 1
 end
def uptoSmall : (H : Type) → List (DataW H) → Bool := fun _ ds => decide (uptoBulkAll ds ≤ 1048576)
def OpenSpec.upto (s : _root_.Go.ChangeSpec) : _root_.Go.OpenSpec := { _root_.Go.OpenSpec.ofChange s with cond := some uptoSmall }

/-- 'laws.FnChainCount', WHERE WHAT IT READS IS OF BULK AT MOST 1048576: true; the input reads as it did. -/
def fnChainCountUptoRow : OpenClaim := { program := "ytkkgckmgplicjaa", sum := "d0661cd172c091307de4eef7cf7a9147c8b552318f4854b1161a27ee05a59937", func := "loop.example/residuatedtables/laws.FnChainCount", spec := "fnChainCount", unfollowed := true, recurses := true, apart := false, narrowed := true }
def FnChainCountUptoSaid : Prop := fnChainCountUptoRow.holds Try.pinned (OpenSpec.upto fnChainCountSpec)

/-- 'laws.FnExactMapsOf', WHERE WHAT IT READS IS OF BULK AT MOST 1048576: true; the input reads as it did. -/
def fnExactMapsOfUptoRow : OpenClaim := { program := "ytkkgckmgplicjaa", sum := "d0661cd172c091307de4eef7cf7a9147c8b552318f4854b1161a27ee05a59937", func := "loop.example/residuatedtables/laws.FnExactMapsOf", spec := "fnExactMapsOf", unfollowed := true, recurses := true, apart := false, narrowed := true }
def FnExactMapsOfUptoSaid : Prop := fnExactMapsOfUptoRow.holds Try.pinned (OpenSpec.upto fnExactMapsOfSpec)

/-- 'laws.FnExactFollows', WHERE WHAT IT READS IS OF BULK AT MOST 1048576: true; the input reads as it did. -/
def fnExactFollowsUptoRow : OpenClaim := { program := "ytkkgckmgplicjaa", sum := "d0661cd172c091307de4eef7cf7a9147c8b552318f4854b1161a27ee05a59937", func := "loop.example/residuatedtables/laws.FnExactFollows", spec := "fnExactFollows", unfollowed := true, recurses := true, apart := false, narrowed := true }
def FnExactFollowsUptoSaid : Prop := fnExactFollowsUptoRow.holds Try.pinned (OpenSpec.upto fnExactFollowsSpec)

/-- 'laws.FnExactSameBy', WHERE WHAT IT READS IS OF BULK AT MOST 1048576: true; the input reads as it did. -/
def fnExactSameByUptoRow : OpenClaim := { program := "ytkkgckmgplicjaa", sum := "d0661cd172c091307de4eef7cf7a9147c8b552318f4854b1161a27ee05a59937", func := "loop.example/residuatedtables/laws.FnExactSameBy", spec := "fnExactSameBy", unfollowed := true, recurses := true, apart := false, narrowed := true }
def FnExactSameByUptoSaid : Prop := fnExactSameByUptoRow.holds Try.pinned (OpenSpec.upto fnExactSameBySpec)

/-- 'laws.FnExactQuotientOf', WHERE WHAT IT READS IS OF BULK AT MOST 1048576: true; the input reads as it did. -/
def fnExactQuotientOfUptoRow : OpenClaim := { program := "ytkkgckmgplicjaa", sum := "d0661cd172c091307de4eef7cf7a9147c8b552318f4854b1161a27ee05a59937", func := "loop.example/residuatedtables/laws.FnExactQuotientOf", spec := "fnExactQuotientOf", unfollowed := true, recurses := true, apart := false, narrowed := true }
def FnExactQuotientOfUptoSaid : Prop := fnExactQuotientOfUptoRow.holds Try.pinned (OpenSpec.upto fnExactQuotientOfSpec)

/-- 'laws.FnExactLeastPower', WHERE WHAT IT READS IS OF BULK AT MOST 1048576: true; the input reads as it did. -/
def fnExactLeastPowerUptoRow : OpenClaim := { program := "ytkkgckmgplicjaa", sum := "d0661cd172c091307de4eef7cf7a9147c8b552318f4854b1161a27ee05a59937", func := "loop.example/residuatedtables/laws.FnExactLeastPower", spec := "fnExactLeastPower", unfollowed := true, recurses := true, apart := false, narrowed := true }
def FnExactLeastPowerUptoSaid : Prop := fnExactLeastPowerUptoRow.holds Try.pinned (OpenSpec.upto fnExactLeastPowerSpec)

/-- 'laws.FnExactIsTrue', WHERE WHAT IT READS IS OF BULK AT MOST 1048576: true; the input reads as it did. -/
def fnExactIsTrueUptoRow : OpenClaim := { program := "ytkkgckmgplicjaa", sum := "d0661cd172c091307de4eef7cf7a9147c8b552318f4854b1161a27ee05a59937", func := "loop.example/residuatedtables/laws.FnExactIsTrue", spec := "fnExactIsTrue", unfollowed := true, recurses := true, apart := false, narrowed := true }
def FnExactIsTrueUptoSaid : Prop := fnExactIsTrueUptoRow.holds Try.pinned (OpenSpec.upto fnExactIsTrueSpec)

/-- 'laws.FnIsNucleus', WHERE WHAT IT READS IS OF BULK AT MOST 1048576: true; the input reads as it did. -/
def fnIsNucleusUptoRow : OpenClaim := { program := "ytkkgckmgplicjaa", sum := "d0661cd172c091307de4eef7cf7a9147c8b552318f4854b1161a27ee05a59937", func := "loop.example/residuatedtables/laws.FnIsNucleus", spec := "fnIsNucleus", unfollowed := true, recurses := true, apart := false, narrowed := true }
def FnIsNucleusUptoSaid : Prop := fnIsNucleusUptoRow.holds Try.pinned (OpenSpec.upto fnIsNucleusSpec)

/-- 'laws.FnExactSizesOf', WHERE WHAT IT READS IS OF BULK AT MOST 1048576: true; the input reads as it did. -/
def fnExactSizesOfUptoRow : OpenClaim := { program := "ytkkgckmgplicjaa", sum := "d0661cd172c091307de4eef7cf7a9147c8b552318f4854b1161a27ee05a59937", func := "loop.example/residuatedtables/laws.FnExactSizesOf", spec := "fnExactSizesOf", unfollowed := true, recurses := true, apart := false, narrowed := true }
def FnExactSizesOfUptoSaid : Prop := fnExactSizesOfUptoRow.holds Try.pinned (OpenSpec.upto fnExactSizesOfSpec)

/-- 'laws.FnPartsOf', WHERE WHAT IT READS IS OF BULK AT MOST 1048576: true; the input reads as it did. -/
def fnPartsOfUptoRow : OpenClaim := { program := "ytkkgckmgplicjaa", sum := "d0661cd172c091307de4eef7cf7a9147c8b552318f4854b1161a27ee05a59937", func := "loop.example/residuatedtables/laws.FnPartsOf", spec := "fnPartsOf", unfollowed := true, recurses := true, apart := false, narrowed := true }
def FnPartsOfUptoSaid : Prop := fnPartsOfUptoRow.holds Try.pinned (OpenSpec.upto fnPartsOfSpec)

/-- 'laws.FnExactRefuteTerm', WHERE WHAT IT READS IS OF BULK AT MOST 1048576: true; the input reads as it did. -/
def fnExactRefuteTermUptoRow : OpenClaim := { program := "ytkkgckmgplicjaa", sum := "d0661cd172c091307de4eef7cf7a9147c8b552318f4854b1161a27ee05a59937", func := "loop.example/residuatedtables/laws.FnExactRefuteTerm", spec := "fnExactRefuteTerm", unfollowed := true, recurses := true, apart := false, narrowed := true }
def FnExactRefuteTermUptoSaid : Prop := fnExactRefuteTermUptoRow.holds Try.pinned (OpenSpec.upto fnExactRefuteTermSpec)

end Rows
end Go.Proofs.Ytkkgckmgplicjaa
