/-
  No cell of these rows narrows 'for every input' (looked for: loops, veiled, ifaces, maps, wideKeys, modest, calm, conditions, laid).
  DERIVED. THE GIVEN ROWS OF THIS SEAT. 22 by the template 'for every input the law returns true; each argument reads behind the call as it read before'; 0 by the template 'total and deterministic' (their statements: YtkkekjkfafnahaaTotals.lean).
  GIVEN WITH THE SEED: the statements are not yours to turn. If you find one false, say at which input.
  Laid BY PROGRAM, IN A SANDBOX (cutbox-rows.mjs): the forced cells as the released guide's own fill.sh prints them over the translation 440c20e10ca63f40… (all of the seat's roots in one cut). By AI agents, Wed Nov 11 2026. No macro, syntax, notation, axiom, sorry.
-/
import Derived.Test.YtkkekjkfafnahaaChecked
import GoSem.Claim
import GoSem.ClaimJoined
import GoSem.ClaimMapViews
import Derived.JoinedTies
import Derived.KernelRfl
namespace Go.Proofs.Ytkkekjkfafnahaa
/- THE CELL 'sum', in the pinned program and in every row, IS THE sha256 OF THE DUMP (.gsa) THAT YtkkekjkfafnahaaProg.lean LOADS. Nothing in Lean hashes anything: it is a label: what it is worth is what the hold of that sum in a sandbox is worth. -/
noncomputable def Try.pinned : Pinned := { name := "ytkkekjkfafnahaa", sum := "440c20e10ca63f40017979ddb96fd825ff58afc9cbd7bb287f38546e62edc65e", checked := Try.checked }
namespace Rows
def none {H : Type} : Left H := { results := [], args := [] }

/-- 'cressetlaw08.FieldSmall': WHATEVER THE INPUT: true; the input reads as it did. -/
def fieldSmallSpec : ChangeSpec := { name := "fieldSmall", fn := fun _ => fun
  | [d] => { results := [.lit (.bool true)], args := [d] }
  | _ => none }
def fieldSmallRow : OpenClaim := { program := "ytkkekjkfafnahaa", sum := "440c20e10ca63f40017979ddb96fd825ff58afc9cbd7bb287f38546e62edc65e", func := "cresset/cressetlaw08.FieldSmall", spec := "fieldSmall", inPlace := ["math/bits.Add64"], apart := false }
def FieldSmallSaid : Prop := fieldSmallRow.holds Try.pinned (OpenSpec.ofChange fieldSmallSpec)

/-- ITS FALSE NEIGHBOUR: 'it returns false'. Refute it at one input. -/
def fieldSmallWrong : ChangeSpec := { name := "fieldSmall", fn := fun _ => fun
  | [d] => { results := [.lit (.bool false)], args := [d] }
  | _ => none }
def FieldSmallWrongFalsely : Prop := fieldSmallRow.holds Try.pinned (OpenSpec.ofChange fieldSmallWrong)

/-- 'cressetlaw08.FieldTakes': WHATEVER THE INPUT: true; the input reads as it did. -/
def fieldTakesSpec : ChangeSpec := { name := "fieldTakes", fn := fun _ => fun
  | [d1, d2] => { results := [.lit (.bool true)], args := [d1, d2] }
  | _ => none }
def fieldTakesRow : OpenClaim := { program := "ytkkekjkfafnahaa", sum := "440c20e10ca63f40017979ddb96fd825ff58afc9cbd7bb287f38546e62edc65e", func := "cresset/cressetlaw08.FieldTakes", spec := "fieldTakes", inPlace := ["math/bits.Add64"], apart := false }
def FieldTakesSaid : Prop := fieldTakesRow.holds Try.pinned (OpenSpec.ofChange fieldTakesSpec)

/-- ITS FALSE NEIGHBOUR: 'it returns false'. Refute it at one input. -/
def fieldTakesWrong : ChangeSpec := { name := "fieldTakes", fn := fun _ => fun
  | [d1, d2] => { results := [.lit (.bool false)], args := [d1, d2] }
  | _ => none }
def FieldTakesWrongFalsely : Prop := fieldTakesRow.holds Try.pinned (OpenSpec.ofChange fieldTakesWrong)

/-- 'cressetlaw08.FieldAdds': WHATEVER THE INPUT: true; the input reads as it did. -/
def fieldAddsSpec : ChangeSpec := { name := "fieldAdds", fn := fun _ => fun
  | [d1, d2] => { results := [.lit (.bool true)], args := [d1, d2] }
  | _ => none }
def fieldAddsRow : OpenClaim := { program := "ytkkekjkfafnahaa", sum := "440c20e10ca63f40017979ddb96fd825ff58afc9cbd7bb287f38546e62edc65e", func := "cresset/cressetlaw08.FieldAdds", spec := "fieldAdds", inPlace := ["math/bits.Add64"], apart := false }
def FieldAddsSaid : Prop := fieldAddsRow.holds Try.pinned (OpenSpec.ofChange fieldAddsSpec)

/-- ITS FALSE NEIGHBOUR: 'it returns false'. Refute it at one input. -/
def fieldAddsWrong : ChangeSpec := { name := "fieldAdds", fn := fun _ => fun
  | [d1, d2] => { results := [.lit (.bool false)], args := [d1, d2] }
  | _ => none }
def FieldAddsWrongFalsely : Prop := fieldAddsRow.holds Try.pinned (OpenSpec.ofChange fieldAddsWrong)

/-- 'cressetlaw08.FieldMuls': WHATEVER THE INPUT: true; the input reads as it did. -/
def fieldMulsSpec : ChangeSpec := { name := "fieldMuls", fn := fun _ => fun
  | [d1, d2] => { results := [.lit (.bool true)], args := [d1, d2] }
  | _ => none }
def fieldMulsRow : OpenClaim := { program := "ytkkekjkfafnahaa", sum := "440c20e10ca63f40017979ddb96fd825ff58afc9cbd7bb287f38546e62edc65e", func := "cresset/cressetlaw08.FieldMuls", spec := "fieldMuls", inPlace := ["math/bits.Add64"], apart := false }
def FieldMulsSaid : Prop := fieldMulsRow.holds Try.pinned (OpenSpec.ofChange fieldMulsSpec)

/-- ITS FALSE NEIGHBOUR: 'it returns false'. Refute it at one input. -/
def fieldMulsWrong : ChangeSpec := { name := "fieldMuls", fn := fun _ => fun
  | [d1, d2] => { results := [.lit (.bool false)], args := [d1, d2] }
  | _ => none }
def FieldMulsWrongFalsely : Prop := fieldMulsRow.holds Try.pinned (OpenSpec.ofChange fieldMulsWrong)

/-- 'cressetlaw08.FieldInverts': WHATEVER THE INPUT: true; the input reads as it did. -/
def fieldInvertsSpec : ChangeSpec := { name := "fieldInverts", fn := fun _ => fun
  | [d] => { results := [.lit (.bool true)], args := [d] }
  | _ => none }
def fieldInvertsRow : OpenClaim := { program := "ytkkekjkfafnahaa", sum := "440c20e10ca63f40017979ddb96fd825ff58afc9cbd7bb287f38546e62edc65e", func := "cresset/cressetlaw08.FieldInverts", spec := "fieldInverts", inPlace := ["math/bits.Add64"], apart := false }
def FieldInvertsSaid : Prop := fieldInvertsRow.holds Try.pinned (OpenSpec.ofChange fieldInvertsSpec)

/-- ITS FALSE NEIGHBOUR: 'it returns false'. Refute it at one input. -/
def fieldInvertsWrong : ChangeSpec := { name := "fieldInverts", fn := fun _ => fun
  | [d] => { results := [.lit (.bool false)], args := [d] }
  | _ => none }
def FieldInvertsWrongFalsely : Prop := fieldInvertsRow.holds Try.pinned (OpenSpec.ofChange fieldInvertsWrong)

/-- 'cressetlaw08.FieldRoots': WHATEVER THE INPUT: true; the input reads as it did. -/
def fieldRootsSpec : ChangeSpec := { name := "fieldRoots", fn := fun _ => fun
  | [d] => { results := [.lit (.bool true)], args := [d] }
  | _ => none }
def fieldRootsRow : OpenClaim := { program := "ytkkekjkfafnahaa", sum := "440c20e10ca63f40017979ddb96fd825ff58afc9cbd7bb287f38546e62edc65e", func := "cresset/cressetlaw08.FieldRoots", spec := "fieldRoots", inPlace := ["math/bits.Add64"], apart := false }
def FieldRootsSaid : Prop := fieldRootsRow.holds Try.pinned (OpenSpec.ofChange fieldRootsSpec)

/-- ITS FALSE NEIGHBOUR: 'it returns false'. Refute it at one input. -/
def fieldRootsWrong : ChangeSpec := { name := "fieldRoots", fn := fun _ => fun
  | [d] => { results := [.lit (.bool false)], args := [d] }
  | _ => none }
def FieldRootsWrongFalsely : Prop := fieldRootsRow.holds Try.pinned (OpenSpec.ofChange fieldRootsWrong)

/-- 'cressetlaw08.FieldLaws': WHATEVER THE INPUT: true; the input reads as it did. -/
def fieldLawsSpec : ChangeSpec := { name := "fieldLaws", fn := fun _ => fun
  | [d1, d2, d3] => { results := [.lit (.bool true)], args := [d1, d2, d3] }
  | _ => none }
def fieldLawsRow : OpenClaim := { program := "ytkkekjkfafnahaa", sum := "440c20e10ca63f40017979ddb96fd825ff58afc9cbd7bb287f38546e62edc65e", func := "cresset/cressetlaw08.FieldLaws", spec := "fieldLaws", inPlace := ["math/bits.Add64"], apart := false }
def FieldLawsSaid : Prop := fieldLawsRow.holds Try.pinned (OpenSpec.ofChange fieldLawsSpec)

/-- ITS FALSE NEIGHBOUR: 'it returns false'. Refute it at one input. -/
def fieldLawsWrong : ChangeSpec := { name := "fieldLaws", fn := fun _ => fun
  | [d1, d2, d3] => { results := [.lit (.bool false)], args := [d1, d2, d3] }
  | _ => none }
def FieldLawsWrongFalsely : Prop := fieldLawsRow.holds Try.pinned (OpenSpec.ofChange fieldLawsWrong)

/-- 'cressetlaw08.FieldSquares': WHATEVER THE INPUT: true; the input reads as it did. -/
def fieldSquaresSpec : ChangeSpec := { name := "fieldSquares", fn := fun _ => fun
  | [d] => { results := [.lit (.bool true)], args := [d] }
  | _ => none }
def fieldSquaresRow : OpenClaim := { program := "ytkkekjkfafnahaa", sum := "440c20e10ca63f40017979ddb96fd825ff58afc9cbd7bb287f38546e62edc65e", func := "cresset/cressetlaw08.FieldSquares", spec := "fieldSquares", inPlace := ["math/bits.Add64"], apart := false }
def FieldSquaresSaid : Prop := fieldSquaresRow.holds Try.pinned (OpenSpec.ofChange fieldSquaresSpec)

/-- ITS FALSE NEIGHBOUR: 'it returns false'. Refute it at one input. -/
def fieldSquaresWrong : ChangeSpec := { name := "fieldSquares", fn := fun _ => fun
  | [d] => { results := [.lit (.bool false)], args := [d] }
  | _ => none }
def FieldSquaresWrongFalsely : Prop := fieldSquaresRow.holds Try.pinned (OpenSpec.ofChange fieldSquaresWrong)

/-- 'cressetlaw08.FieldOnce': WHATEVER THE INPUT: true; the input reads as it did. -/
def fieldOnceSpec : ChangeSpec := { name := "fieldOnce", fn := fun _ => fun
  | [d] => { results := [.lit (.bool true)], args := [d] }
  | _ => none }
def fieldOnceRow : OpenClaim := { program := "ytkkekjkfafnahaa", sum := "440c20e10ca63f40017979ddb96fd825ff58afc9cbd7bb287f38546e62edc65e", func := "cresset/cressetlaw08.FieldOnce", spec := "fieldOnce", inPlace := ["math/bits.Add64"], apart := false }
def FieldOnceSaid : Prop := fieldOnceRow.holds Try.pinned (OpenSpec.ofChange fieldOnceSpec)

/-- ITS FALSE NEIGHBOUR: 'it returns false'. Refute it at one input. -/
def fieldOnceWrong : ChangeSpec := { name := "fieldOnce", fn := fun _ => fun
  | [d] => { results := [.lit (.bool false)], args := [d] }
  | _ => none }
def FieldOnceWrongFalsely : Prop := fieldOnceRow.holds Try.pinned (OpenSpec.ofChange fieldOnceWrong)

/-- 'cressetlaw08.FieldOf': WHATEVER THE INPUT: true; the input reads as it did. -/
def fieldOfSpec : ChangeSpec := { name := "fieldOf", fn := fun _ => fun
  | [d] => { results := [.lit (.bool true)], args := [d] }
  | _ => none }
def fieldOfRow : OpenClaim := { program := "ytkkekjkfafnahaa", sum := "440c20e10ca63f40017979ddb96fd825ff58afc9cbd7bb287f38546e62edc65e", func := "cresset/cressetlaw08.FieldOf", spec := "fieldOf", inPlace := ["math/bits.Add64"], apart := false }
def FieldOfSaid : Prop := fieldOfRow.holds Try.pinned (OpenSpec.ofChange fieldOfSpec)

/-- ITS FALSE NEIGHBOUR: 'it returns false'. Refute it at one input. -/
def fieldOfWrong : ChangeSpec := { name := "fieldOf", fn := fun _ => fun
  | [d] => { results := [.lit (.bool false)], args := [d] }
  | _ => none }
def FieldOfWrongFalsely : Prop := fieldOfRow.holds Try.pinned (OpenSpec.ofChange fieldOfWrong)

/-- 'cressetlaw08.FieldSum': WHATEVER THE INPUT: true; the input reads as it did. -/
def fieldSumSpec : ChangeSpec := { name := "fieldSum", fn := fun _ => fun
  | [d1, d2] => { results := [.lit (.bool true)], args := [d1, d2] }
  | _ => none }
def fieldSumRow : OpenClaim := { program := "ytkkekjkfafnahaa", sum := "440c20e10ca63f40017979ddb96fd825ff58afc9cbd7bb287f38546e62edc65e", func := "cresset/cressetlaw08.FieldSum", spec := "fieldSum", inPlace := ["math/bits.Add64"], apart := false }
def FieldSumSaid : Prop := fieldSumRow.holds Try.pinned (OpenSpec.ofChange fieldSumSpec)

/-- ITS FALSE NEIGHBOUR: 'it returns false'. Refute it at one input. -/
def fieldSumWrong : ChangeSpec := { name := "fieldSum", fn := fun _ => fun
  | [d1, d2] => { results := [.lit (.bool false)], args := [d1, d2] }
  | _ => none }
def FieldSumWrongFalsely : Prop := fieldSumRow.holds Try.pinned (OpenSpec.ofChange fieldSumWrong)

/-- 'cressetlaw08.FieldSub': WHATEVER THE INPUT: true; the input reads as it did. -/
def fieldSubSpec : ChangeSpec := { name := "fieldSub", fn := fun _ => fun
  | [d1, d2] => { results := [.lit (.bool true)], args := [d1, d2] }
  | _ => none }
def fieldSubRow : OpenClaim := { program := "ytkkekjkfafnahaa", sum := "440c20e10ca63f40017979ddb96fd825ff58afc9cbd7bb287f38546e62edc65e", func := "cresset/cressetlaw08.FieldSub", spec := "fieldSub", inPlace := ["math/bits.Add64"], apart := false }
def FieldSubSaid : Prop := fieldSubRow.holds Try.pinned (OpenSpec.ofChange fieldSubSpec)

/-- ITS FALSE NEIGHBOUR: 'it returns false'. Refute it at one input. -/
def fieldSubWrong : ChangeSpec := { name := "fieldSub", fn := fun _ => fun
  | [d1, d2] => { results := [.lit (.bool false)], args := [d1, d2] }
  | _ => none }
def FieldSubWrongFalsely : Prop := fieldSubRow.holds Try.pinned (OpenSpec.ofChange fieldSubWrong)

/-- 'cressetlaw09.LadderShares': WHATEVER THE INPUT: true; the input reads as it did. -/
def ladderSharesSpec : ChangeSpec := { name := "ladderShares", fn := fun _ => fun
  | [d1, d2] => { results := [.lit (.bool true)], args := [d1, d2] }
  | _ => none }
def ladderSharesRow : OpenClaim := { program := "ytkkekjkfafnahaa", sum := "440c20e10ca63f40017979ddb96fd825ff58afc9cbd7bb287f38546e62edc65e", func := "cresset/cressetlaw09.LadderShares", spec := "ladderShares", inPlace := ["math/bits.Add64"], apart := false }
def LadderSharesSaid : Prop := ladderSharesRow.holds Try.pinned (OpenSpec.ofChange ladderSharesSpec)

/-- ITS FALSE NEIGHBOUR: 'it returns false'. Refute it at one input. -/
def ladderSharesWrong : ChangeSpec := { name := "ladderShares", fn := fun _ => fun
  | [d1, d2] => { results := [.lit (.bool false)], args := [d1, d2] }
  | _ => none }
def LadderSharesWrongFalsely : Prop := ladderSharesRow.holds Try.pinned (OpenSpec.ofChange ladderSharesWrong)

/-- 'cressetlaw09.LadderPublic': WHATEVER THE INPUT: true; the input reads as it did. -/
def ladderPublicSpec : ChangeSpec := { name := "ladderPublic", fn := fun _ => fun
  | [d] => { results := [.lit (.bool true)], args := [d] }
  | _ => none }
def ladderPublicRow : OpenClaim := { program := "ytkkekjkfafnahaa", sum := "440c20e10ca63f40017979ddb96fd825ff58afc9cbd7bb287f38546e62edc65e", func := "cresset/cressetlaw09.LadderPublic", spec := "ladderPublic", inPlace := ["math/bits.Add64"], apart := false }
def LadderPublicSaid : Prop := ladderPublicRow.holds Try.pinned (OpenSpec.ofChange ladderPublicSpec)

/-- ITS FALSE NEIGHBOUR: 'it returns false'. Refute it at one input. -/
def ladderPublicWrong : ChangeSpec := { name := "ladderPublic", fn := fun _ => fun
  | [d] => { results := [.lit (.bool false)], args := [d] }
  | _ => none }
def LadderPublicWrongFalsely : Prop := ladderPublicRow.holds Try.pinned (OpenSpec.ofChange ladderPublicWrong)

/-- 'cressetlaw09.LadderNine': WHATEVER THE INPUT: true; the input reads as it did. -/
def ladderNineSpec : ChangeSpec := { name := "ladderNine", fn := fun _ => fun
  | [d1, d2] => { results := [.lit (.bool true)], args := [d1, d2] }
  | _ => none }
def ladderNineRow : OpenClaim := { program := "ytkkekjkfafnahaa", sum := "440c20e10ca63f40017979ddb96fd825ff58afc9cbd7bb287f38546e62edc65e", func := "cresset/cressetlaw09.LadderNine", spec := "ladderNine", inPlace := ["math/bits.Add64"], apart := false }
def LadderNineSaid : Prop := ladderNineRow.holds Try.pinned (OpenSpec.ofChange ladderNineSpec)

/-- ITS FALSE NEIGHBOUR: 'it returns false'. Refute it at one input. -/
def ladderNineWrong : ChangeSpec := { name := "ladderNine", fn := fun _ => fun
  | [d1, d2] => { results := [.lit (.bool false)], args := [d1, d2] }
  | _ => none }
def LadderNineWrongFalsely : Prop := ladderNineRow.holds Try.pinned (OpenSpec.ofChange ladderNineWrong)

/-- 'cressetlaw09.LadderBits': WHATEVER THE INPUT: true; the input reads as it did. -/
def ladderBitsSpec : ChangeSpec := { name := "ladderBits", fn := fun _ => fun
  | [d1, d2, d3] => { results := [.lit (.bool true)], args := [d1, d2, d3] }
  | _ => none }
def ladderBitsRow : OpenClaim := { program := "ytkkekjkfafnahaa", sum := "440c20e10ca63f40017979ddb96fd825ff58afc9cbd7bb287f38546e62edc65e", func := "cresset/cressetlaw09.LadderBits", spec := "ladderBits", inPlace := ["math/bits.Add64"], apart := false }
def LadderBitsSaid : Prop := ladderBitsRow.holds Try.pinned (OpenSpec.ofChange ladderBitsSpec)

/-- ITS FALSE NEIGHBOUR: 'it returns false'. Refute it at one input. -/
def ladderBitsWrong : ChangeSpec := { name := "ladderBits", fn := fun _ => fun
  | [d1, d2, d3] => { results := [.lit (.bool false)], args := [d1, d2, d3] }
  | _ => none }
def LadderBitsWrongFalsely : Prop := ladderBitsRow.holds Try.pinned (OpenSpec.ofChange ladderBitsWrong)

/-- 'cressetlaw11.PointReads': WHATEVER THE INPUT: true; the input reads as it did. -/
def pointReadsSpec : ChangeSpec := { name := "pointReads", fn := fun _ => fun
  | [d] => { results := [.lit (.bool true)], args := [d] }
  | _ => none }
def pointReadsRow : OpenClaim := { program := "ytkkekjkfafnahaa", sum := "440c20e10ca63f40017979ddb96fd825ff58afc9cbd7bb287f38546e62edc65e", func := "cresset/cressetlaw11.PointReads", spec := "pointReads", inPlace := ["math/bits.Add64"], apart := false }
def PointReadsSaid : Prop := pointReadsRow.holds Try.pinned (OpenSpec.ofChange pointReadsSpec)

/-- ITS FALSE NEIGHBOUR: 'it returns false'. Refute it at one input. -/
def pointReadsWrong : ChangeSpec := { name := "pointReads", fn := fun _ => fun
  | [d] => { results := [.lit (.bool false)], args := [d] }
  | _ => none }
def PointReadsWrongFalsely : Prop := pointReadsRow.holds Try.pinned (OpenSpec.ofChange pointReadsWrong)

/-- 'cressetlaw11.PointNeg': WHATEVER THE INPUT: true; the input reads as it did. -/
def pointNegSpec : ChangeSpec := { name := "pointNeg", fn := fun _ => fun
  | [d] => { results := [.lit (.bool true)], args := [d] }
  | _ => none }
def pointNegRow : OpenClaim := { program := "ytkkekjkfafnahaa", sum := "440c20e10ca63f40017979ddb96fd825ff58afc9cbd7bb287f38546e62edc65e", func := "cresset/cressetlaw11.PointNeg", spec := "pointNeg", inPlace := ["math/bits.Add64"], apart := false }
def PointNegSaid : Prop := pointNegRow.holds Try.pinned (OpenSpec.ofChange pointNegSpec)

/-- ITS FALSE NEIGHBOUR: 'it returns false'. Refute it at one input. -/
def pointNegWrong : ChangeSpec := { name := "pointNeg", fn := fun _ => fun
  | [d] => { results := [.lit (.bool false)], args := [d] }
  | _ => none }
def PointNegWrongFalsely : Prop := pointNegRow.holds Try.pinned (OpenSpec.ofChange pointNegWrong)

/-- 'cressetlaw11.PointAdds': WHATEVER THE INPUT: true; the input reads as it did. -/
def pointAddsSpec : ChangeSpec := { name := "pointAdds", fn := fun _ => fun
  | [d1, d2] => { results := [.lit (.bool true)], args := [d1, d2] }
  | _ => none }
def pointAddsRow : OpenClaim := { program := "ytkkekjkfafnahaa", sum := "440c20e10ca63f40017979ddb96fd825ff58afc9cbd7bb287f38546e62edc65e", func := "cresset/cressetlaw11.PointAdds", spec := "pointAdds", inPlace := ["math/bits.Add64"], apart := false }
def PointAddsSaid : Prop := pointAddsRow.holds Try.pinned (OpenSpec.ofChange pointAddsSpec)

/-- ITS FALSE NEIGHBOUR: 'it returns false'. Refute it at one input. -/
def pointAddsWrong : ChangeSpec := { name := "pointAdds", fn := fun _ => fun
  | [d1, d2] => { results := [.lit (.bool false)], args := [d1, d2] }
  | _ => none }
def PointAddsWrongFalsely : Prop := pointAddsRow.holds Try.pinned (OpenSpec.ofChange pointAddsWrong)

/-- 'cressetlaw11.PointLaws': WHATEVER THE INPUT: true; the input reads as it did. -/
def pointLawsSpec : ChangeSpec := { name := "pointLaws", fn := fun _ => fun
  | [d1, d2] => { results := [.lit (.bool true)], args := [d1, d2] }
  | _ => none }
def pointLawsRow : OpenClaim := { program := "ytkkekjkfafnahaa", sum := "440c20e10ca63f40017979ddb96fd825ff58afc9cbd7bb287f38546e62edc65e", func := "cresset/cressetlaw11.PointLaws", spec := "pointLaws", inPlace := ["math/bits.Add64"], apart := false }
def PointLawsSaid : Prop := pointLawsRow.holds Try.pinned (OpenSpec.ofChange pointLawsSpec)

/-- ITS FALSE NEIGHBOUR: 'it returns false'. Refute it at one input. -/
def pointLawsWrong : ChangeSpec := { name := "pointLaws", fn := fun _ => fun
  | [d1, d2] => { results := [.lit (.bool false)], args := [d1, d2] }
  | _ => none }
def PointLawsWrongFalsely : Prop := pointLawsRow.holds Try.pinned (OpenSpec.ofChange pointLawsWrong)

/-- 'cressetlaw11.PointMuls': WHATEVER THE INPUT: true; the input reads as it did. -/
def pointMulsSpec : ChangeSpec := { name := "pointMuls", fn := fun _ => fun
  | [d1, d2] => { results := [.lit (.bool true)], args := [d1, d2] }
  | _ => none }
def pointMulsRow : OpenClaim := { program := "ytkkekjkfafnahaa", sum := "440c20e10ca63f40017979ddb96fd825ff58afc9cbd7bb287f38546e62edc65e", func := "cresset/cressetlaw11.PointMuls", spec := "pointMuls", inPlace := ["math/bits.Add64"], apart := false }
def PointMulsSaid : Prop := pointMulsRow.holds Try.pinned (OpenSpec.ofChange pointMulsSpec)

/-- ITS FALSE NEIGHBOUR: 'it returns false'. Refute it at one input. -/
def pointMulsWrong : ChangeSpec := { name := "pointMuls", fn := fun _ => fun
  | [d1, d2] => { results := [.lit (.bool false)], args := [d1, d2] }
  | _ => none }
def PointMulsWrongFalsely : Prop := pointMulsRow.holds Try.pinned (OpenSpec.ofChange pointMulsWrong)

/-- 'cressetlaw11.PointTimes': WHATEVER THE INPUT: true; the input reads as it did. -/
def pointTimesSpec : ChangeSpec := { name := "pointTimes", fn := fun _ => fun
  | [d1, d2] => { results := [.lit (.bool true)], args := [d1, d2] }
  | _ => none }
def pointTimesRow : OpenClaim := { program := "ytkkekjkfafnahaa", sum := "440c20e10ca63f40017979ddb96fd825ff58afc9cbd7bb287f38546e62edc65e", func := "cresset/cressetlaw11.PointTimes", spec := "pointTimes", inPlace := ["math/bits.Add64"], apart := false }
def PointTimesSaid : Prop := pointTimesRow.holds Try.pinned (OpenSpec.ofChange pointTimesSpec)

/-- ITS FALSE NEIGHBOUR: 'it returns false'. Refute it at one input. -/
def pointTimesWrong : ChangeSpec := { name := "pointTimes", fn := fun _ => fun
  | [d1, d2] => { results := [.lit (.bool false)], args := [d1, d2] }
  | _ => none }
def PointTimesWrongFalsely : Prop := pointTimesRow.holds Try.pinned (OpenSpec.ofChange pointTimesWrong)

/- THE SECOND FORM. 'bulk': how many values and letters a reading holds, each counted each time it is reached (what is shared counts as often as it is met; a slice's spare places count too). A statement '..UptoSaid' is the law's where the arguments, and the package variables that the reading takes, are together of bulk at most 1048576: NARROWER than '..Said'. Prove '..Said' where nothing that the law and all that it calls make is longer than what came in: it says more and counts as full. Else prove '..UptoSaid'. A law counts once. -/
mutual
def uptoBulk {H : Type} : DataW H → Nat
  | .lit (.string bytes) => bytes.length + 1
  | .lit _ => 1
  | .nil => 1
  | .ptr d => uptoBulk d + 1
  | .slice elems spare => uptoBulkAll elems + uptoBulkAll spare + 1
  | .agg parts => uptoBulkAll parts + 1
  | .iface _ d => uptoBulk d + 1
  | .map entries => uptoBulkEntries entries + 1
  | .held _ => 1
def uptoBulkAll {H : Type} : List (DataW H) → Nat
  | [] => 0
  | d :: r => uptoBulk d + uptoBulkAll r
def uptoBulkEntries {H : Type} : List (Lit × DataW H) → Nat
  | [] => 0
  | x :: r => uptoBulkEntry x + uptoBulkEntries r
def uptoBulkEntry {H : Type} : Lit × DataW H → Nat
  | (.string bytes, d) => bytes.length + uptoBulk d + 1
  | (_, d) => uptoBulk d + 1
 end
def uptoSmall : (H : Type) → List (DataW H) → Bool := fun _ ds => decide (uptoBulkAll ds ≤ 1048576)
def OpenSpec.upto (s : _root_.Go.ChangeSpec) : _root_.Go.OpenSpec := { _root_.Go.OpenSpec.ofChange s with cond := some uptoSmall }

/-- 'cressetlaw08.FieldSmall', WHERE WHAT IT READS IS OF BULK AT MOST 1048576: true; the input reads as it did. -/
def fieldSmallUptoRow : OpenClaim := { program := "ytkkekjkfafnahaa", sum := "440c20e10ca63f40017979ddb96fd825ff58afc9cbd7bb287f38546e62edc65e", func := "cresset/cressetlaw08.FieldSmall", spec := "fieldSmall", inPlace := ["math/bits.Add64"], apart := false, narrowed := true }
def FieldSmallUptoSaid : Prop := fieldSmallUptoRow.holds Try.pinned (OpenSpec.upto fieldSmallSpec)

/-- 'cressetlaw08.FieldTakes', WHERE WHAT IT READS IS OF BULK AT MOST 1048576: true; the input reads as it did. -/
def fieldTakesUptoRow : OpenClaim := { program := "ytkkekjkfafnahaa", sum := "440c20e10ca63f40017979ddb96fd825ff58afc9cbd7bb287f38546e62edc65e", func := "cresset/cressetlaw08.FieldTakes", spec := "fieldTakes", inPlace := ["math/bits.Add64"], apart := false, narrowed := true }
def FieldTakesUptoSaid : Prop := fieldTakesUptoRow.holds Try.pinned (OpenSpec.upto fieldTakesSpec)

/-- 'cressetlaw08.FieldAdds', WHERE WHAT IT READS IS OF BULK AT MOST 1048576: true; the input reads as it did. -/
def fieldAddsUptoRow : OpenClaim := { program := "ytkkekjkfafnahaa", sum := "440c20e10ca63f40017979ddb96fd825ff58afc9cbd7bb287f38546e62edc65e", func := "cresset/cressetlaw08.FieldAdds", spec := "fieldAdds", inPlace := ["math/bits.Add64"], apart := false, narrowed := true }
def FieldAddsUptoSaid : Prop := fieldAddsUptoRow.holds Try.pinned (OpenSpec.upto fieldAddsSpec)

/-- 'cressetlaw08.FieldMuls', WHERE WHAT IT READS IS OF BULK AT MOST 1048576: true; the input reads as it did. -/
def fieldMulsUptoRow : OpenClaim := { program := "ytkkekjkfafnahaa", sum := "440c20e10ca63f40017979ddb96fd825ff58afc9cbd7bb287f38546e62edc65e", func := "cresset/cressetlaw08.FieldMuls", spec := "fieldMuls", inPlace := ["math/bits.Add64"], apart := false, narrowed := true }
def FieldMulsUptoSaid : Prop := fieldMulsUptoRow.holds Try.pinned (OpenSpec.upto fieldMulsSpec)

/-- 'cressetlaw08.FieldInverts', WHERE WHAT IT READS IS OF BULK AT MOST 1048576: true; the input reads as it did. -/
def fieldInvertsUptoRow : OpenClaim := { program := "ytkkekjkfafnahaa", sum := "440c20e10ca63f40017979ddb96fd825ff58afc9cbd7bb287f38546e62edc65e", func := "cresset/cressetlaw08.FieldInverts", spec := "fieldInverts", inPlace := ["math/bits.Add64"], apart := false, narrowed := true }
def FieldInvertsUptoSaid : Prop := fieldInvertsUptoRow.holds Try.pinned (OpenSpec.upto fieldInvertsSpec)

/-- 'cressetlaw08.FieldRoots', WHERE WHAT IT READS IS OF BULK AT MOST 1048576: true; the input reads as it did. -/
def fieldRootsUptoRow : OpenClaim := { program := "ytkkekjkfafnahaa", sum := "440c20e10ca63f40017979ddb96fd825ff58afc9cbd7bb287f38546e62edc65e", func := "cresset/cressetlaw08.FieldRoots", spec := "fieldRoots", inPlace := ["math/bits.Add64"], apart := false, narrowed := true }
def FieldRootsUptoSaid : Prop := fieldRootsUptoRow.holds Try.pinned (OpenSpec.upto fieldRootsSpec)

/-- 'cressetlaw08.FieldLaws', WHERE WHAT IT READS IS OF BULK AT MOST 1048576: true; the input reads as it did. -/
def fieldLawsUptoRow : OpenClaim := { program := "ytkkekjkfafnahaa", sum := "440c20e10ca63f40017979ddb96fd825ff58afc9cbd7bb287f38546e62edc65e", func := "cresset/cressetlaw08.FieldLaws", spec := "fieldLaws", inPlace := ["math/bits.Add64"], apart := false, narrowed := true }
def FieldLawsUptoSaid : Prop := fieldLawsUptoRow.holds Try.pinned (OpenSpec.upto fieldLawsSpec)

/-- 'cressetlaw08.FieldSquares', WHERE WHAT IT READS IS OF BULK AT MOST 1048576: true; the input reads as it did. -/
def fieldSquaresUptoRow : OpenClaim := { program := "ytkkekjkfafnahaa", sum := "440c20e10ca63f40017979ddb96fd825ff58afc9cbd7bb287f38546e62edc65e", func := "cresset/cressetlaw08.FieldSquares", spec := "fieldSquares", inPlace := ["math/bits.Add64"], apart := false, narrowed := true }
def FieldSquaresUptoSaid : Prop := fieldSquaresUptoRow.holds Try.pinned (OpenSpec.upto fieldSquaresSpec)

/-- 'cressetlaw08.FieldOnce', WHERE WHAT IT READS IS OF BULK AT MOST 1048576: true; the input reads as it did. -/
def fieldOnceUptoRow : OpenClaim := { program := "ytkkekjkfafnahaa", sum := "440c20e10ca63f40017979ddb96fd825ff58afc9cbd7bb287f38546e62edc65e", func := "cresset/cressetlaw08.FieldOnce", spec := "fieldOnce", inPlace := ["math/bits.Add64"], apart := false, narrowed := true }
def FieldOnceUptoSaid : Prop := fieldOnceUptoRow.holds Try.pinned (OpenSpec.upto fieldOnceSpec)

/-- 'cressetlaw08.FieldOf', WHERE WHAT IT READS IS OF BULK AT MOST 1048576: true; the input reads as it did. -/
def fieldOfUptoRow : OpenClaim := { program := "ytkkekjkfafnahaa", sum := "440c20e10ca63f40017979ddb96fd825ff58afc9cbd7bb287f38546e62edc65e", func := "cresset/cressetlaw08.FieldOf", spec := "fieldOf", inPlace := ["math/bits.Add64"], apart := false, narrowed := true }
def FieldOfUptoSaid : Prop := fieldOfUptoRow.holds Try.pinned (OpenSpec.upto fieldOfSpec)

/-- 'cressetlaw08.FieldSum', WHERE WHAT IT READS IS OF BULK AT MOST 1048576: true; the input reads as it did. -/
def fieldSumUptoRow : OpenClaim := { program := "ytkkekjkfafnahaa", sum := "440c20e10ca63f40017979ddb96fd825ff58afc9cbd7bb287f38546e62edc65e", func := "cresset/cressetlaw08.FieldSum", spec := "fieldSum", inPlace := ["math/bits.Add64"], apart := false, narrowed := true }
def FieldSumUptoSaid : Prop := fieldSumUptoRow.holds Try.pinned (OpenSpec.upto fieldSumSpec)

/-- 'cressetlaw08.FieldSub', WHERE WHAT IT READS IS OF BULK AT MOST 1048576: true; the input reads as it did. -/
def fieldSubUptoRow : OpenClaim := { program := "ytkkekjkfafnahaa", sum := "440c20e10ca63f40017979ddb96fd825ff58afc9cbd7bb287f38546e62edc65e", func := "cresset/cressetlaw08.FieldSub", spec := "fieldSub", inPlace := ["math/bits.Add64"], apart := false, narrowed := true }
def FieldSubUptoSaid : Prop := fieldSubUptoRow.holds Try.pinned (OpenSpec.upto fieldSubSpec)

/-- 'cressetlaw09.LadderShares', WHERE WHAT IT READS IS OF BULK AT MOST 1048576: true; the input reads as it did. -/
def ladderSharesUptoRow : OpenClaim := { program := "ytkkekjkfafnahaa", sum := "440c20e10ca63f40017979ddb96fd825ff58afc9cbd7bb287f38546e62edc65e", func := "cresset/cressetlaw09.LadderShares", spec := "ladderShares", inPlace := ["math/bits.Add64"], apart := false, narrowed := true }
def LadderSharesUptoSaid : Prop := ladderSharesUptoRow.holds Try.pinned (OpenSpec.upto ladderSharesSpec)

/-- 'cressetlaw09.LadderPublic', WHERE WHAT IT READS IS OF BULK AT MOST 1048576: true; the input reads as it did. -/
def ladderPublicUptoRow : OpenClaim := { program := "ytkkekjkfafnahaa", sum := "440c20e10ca63f40017979ddb96fd825ff58afc9cbd7bb287f38546e62edc65e", func := "cresset/cressetlaw09.LadderPublic", spec := "ladderPublic", inPlace := ["math/bits.Add64"], apart := false, narrowed := true }
def LadderPublicUptoSaid : Prop := ladderPublicUptoRow.holds Try.pinned (OpenSpec.upto ladderPublicSpec)

/-- 'cressetlaw09.LadderNine', WHERE WHAT IT READS IS OF BULK AT MOST 1048576: true; the input reads as it did. -/
def ladderNineUptoRow : OpenClaim := { program := "ytkkekjkfafnahaa", sum := "440c20e10ca63f40017979ddb96fd825ff58afc9cbd7bb287f38546e62edc65e", func := "cresset/cressetlaw09.LadderNine", spec := "ladderNine", inPlace := ["math/bits.Add64"], apart := false, narrowed := true }
def LadderNineUptoSaid : Prop := ladderNineUptoRow.holds Try.pinned (OpenSpec.upto ladderNineSpec)

/-- 'cressetlaw09.LadderBits', WHERE WHAT IT READS IS OF BULK AT MOST 1048576: true; the input reads as it did. -/
def ladderBitsUptoRow : OpenClaim := { program := "ytkkekjkfafnahaa", sum := "440c20e10ca63f40017979ddb96fd825ff58afc9cbd7bb287f38546e62edc65e", func := "cresset/cressetlaw09.LadderBits", spec := "ladderBits", inPlace := ["math/bits.Add64"], apart := false, narrowed := true }
def LadderBitsUptoSaid : Prop := ladderBitsUptoRow.holds Try.pinned (OpenSpec.upto ladderBitsSpec)

/-- 'cressetlaw11.PointReads', WHERE WHAT IT READS IS OF BULK AT MOST 1048576: true; the input reads as it did. -/
def pointReadsUptoRow : OpenClaim := { program := "ytkkekjkfafnahaa", sum := "440c20e10ca63f40017979ddb96fd825ff58afc9cbd7bb287f38546e62edc65e", func := "cresset/cressetlaw11.PointReads", spec := "pointReads", inPlace := ["math/bits.Add64"], apart := false, narrowed := true }
def PointReadsUptoSaid : Prop := pointReadsUptoRow.holds Try.pinned (OpenSpec.upto pointReadsSpec)

/-- 'cressetlaw11.PointNeg', WHERE WHAT IT READS IS OF BULK AT MOST 1048576: true; the input reads as it did. -/
def pointNegUptoRow : OpenClaim := { program := "ytkkekjkfafnahaa", sum := "440c20e10ca63f40017979ddb96fd825ff58afc9cbd7bb287f38546e62edc65e", func := "cresset/cressetlaw11.PointNeg", spec := "pointNeg", inPlace := ["math/bits.Add64"], apart := false, narrowed := true }
def PointNegUptoSaid : Prop := pointNegUptoRow.holds Try.pinned (OpenSpec.upto pointNegSpec)

/-- 'cressetlaw11.PointAdds', WHERE WHAT IT READS IS OF BULK AT MOST 1048576: true; the input reads as it did. -/
def pointAddsUptoRow : OpenClaim := { program := "ytkkekjkfafnahaa", sum := "440c20e10ca63f40017979ddb96fd825ff58afc9cbd7bb287f38546e62edc65e", func := "cresset/cressetlaw11.PointAdds", spec := "pointAdds", inPlace := ["math/bits.Add64"], apart := false, narrowed := true }
def PointAddsUptoSaid : Prop := pointAddsUptoRow.holds Try.pinned (OpenSpec.upto pointAddsSpec)

/-- 'cressetlaw11.PointLaws', WHERE WHAT IT READS IS OF BULK AT MOST 1048576: true; the input reads as it did. -/
def pointLawsUptoRow : OpenClaim := { program := "ytkkekjkfafnahaa", sum := "440c20e10ca63f40017979ddb96fd825ff58afc9cbd7bb287f38546e62edc65e", func := "cresset/cressetlaw11.PointLaws", spec := "pointLaws", inPlace := ["math/bits.Add64"], apart := false, narrowed := true }
def PointLawsUptoSaid : Prop := pointLawsUptoRow.holds Try.pinned (OpenSpec.upto pointLawsSpec)

/-- 'cressetlaw11.PointMuls', WHERE WHAT IT READS IS OF BULK AT MOST 1048576: true; the input reads as it did. -/
def pointMulsUptoRow : OpenClaim := { program := "ytkkekjkfafnahaa", sum := "440c20e10ca63f40017979ddb96fd825ff58afc9cbd7bb287f38546e62edc65e", func := "cresset/cressetlaw11.PointMuls", spec := "pointMuls", inPlace := ["math/bits.Add64"], apart := false, narrowed := true }
def PointMulsUptoSaid : Prop := pointMulsUptoRow.holds Try.pinned (OpenSpec.upto pointMulsSpec)

/-- 'cressetlaw11.PointTimes', WHERE WHAT IT READS IS OF BULK AT MOST 1048576: true; the input reads as it did. -/
def pointTimesUptoRow : OpenClaim := { program := "ytkkekjkfafnahaa", sum := "440c20e10ca63f40017979ddb96fd825ff58afc9cbd7bb287f38546e62edc65e", func := "cresset/cressetlaw11.PointTimes", spec := "pointTimes", inPlace := ["math/bits.Add64"], apart := false, narrowed := true }
def PointTimesUptoSaid : Prop := pointTimesUptoRow.holds Try.pinned (OpenSpec.upto pointTimesSpec)

end Rows
end Go.Proofs.Ytkkekjkfafnahaa
