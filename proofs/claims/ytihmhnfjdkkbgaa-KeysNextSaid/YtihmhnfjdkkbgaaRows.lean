/-
  No cell of these rows narrows 'for every input' (looked for: loops, veiled, ifaces, maps, wideKeys, modest, calm, conditions, laid).
  DERIVED. THE GIVEN ROWS OF THIS SEAT. 22 by the template 'for every input the law returns true; each argument reads behind the call as it read before'; 0 by the template 'total and deterministic' (their statements: YtihmhnfjdkkbgaaTotals.lean).
  GIVEN WITH THE SEED: the statements are not yours to turn. If you find one false, say at which input.
  Laid BY PROGRAM, IN A SANDBOX (cutbox-rows.mjs): the forced cells as the released guide's own fill.sh prints them over the translation 324aaca7cc67933b… (all of the seat's roots in one cut). By AI agents, Wed Nov 11 2026. No macro, syntax, notation, axiom, sorry.
-/
import Derived.Test.YtihmhnfjdkkbgaaChecked
import GoSem.Claim
import GoSem.ClaimJoined
import GoSem.ClaimMapViews
import Derived.JoinedTies
import Derived.KernelRfl
namespace Go.Proofs.Ytihmhnfjdkkbgaa
/- THE CELL 'sum', in the pinned program and in every row, IS THE sha256 OF THE DUMP (.gsa) THAT YtihmhnfjdkkbgaaProg.lean LOADS. Nothing in Lean hashes anything: it is a label: what it is worth is what the hold of that sum in a sandbox is worth. -/
noncomputable def Try.pinned : Pinned := { name := "ytihmhnfjdkkbgaa", sum := "324aaca7cc67933b0b65e7b1b7e8ebd9d9fa58b4b305a4606cc64f323402b850", checked := Try.checked }
namespace Rows
def none {H : Type} : Left H := { results := [], args := [] }

/-- 'cressetlaw01.ShaSmall': WHATEVER THE INPUT: true; the input reads as it did. -/
def shaSmallSpec : ChangeSpec := { name := "shaSmall", fn := fun _ => fun
  | [d] => { results := [.lit (.bool true)], args := [d] }
  | _ => none }
def shaSmallRow : OpenClaim := { program := "ytihmhnfjdkkbgaa", sum := "324aaca7cc67933b0b65e7b1b7e8ebd9d9fa58b4b305a4606cc64f323402b850", func := "cresset/cressetlaw01.ShaSmall", spec := "shaSmall", unfollowed := true, recurses := true, apart := false }
def ShaSmallSaid : Prop := shaSmallRow.holds Try.pinned (OpenSpec.ofChange shaSmallSpec)

/-- ITS FALSE NEIGHBOUR: 'it returns false'. Refute it at one input. -/
def shaSmallWrong : ChangeSpec := { name := "shaSmall", fn := fun _ => fun
  | [d] => { results := [.lit (.bool false)], args := [d] }
  | _ => none }
def ShaSmallWrongFalsely : Prop := shaSmallRow.holds Try.pinned (OpenSpec.ofChange shaSmallWrong)

/-- 'cressetlaw01.ShaGreat': WHATEVER THE INPUT: true; the input reads as it did. -/
def shaGreatSpec : ChangeSpec := { name := "shaGreat", fn := fun _ => fun
  | [d] => { results := [.lit (.bool true)], args := [d] }
  | _ => none }
def shaGreatRow : OpenClaim := { program := "ytihmhnfjdkkbgaa", sum := "324aaca7cc67933b0b65e7b1b7e8ebd9d9fa58b4b305a4606cc64f323402b850", func := "cresset/cressetlaw01.ShaGreat", spec := "shaGreat", unfollowed := true, recurses := true, apart := false }
def ShaGreatSaid : Prop := shaGreatRow.holds Try.pinned (OpenSpec.ofChange shaGreatSpec)

/-- ITS FALSE NEIGHBOUR: 'it returns false'. Refute it at one input. -/
def shaGreatWrong : ChangeSpec := { name := "shaGreat", fn := fun _ => fun
  | [d] => { results := [.lit (.bool false)], args := [d] }
  | _ => none }
def ShaGreatWrongFalsely : Prop := shaGreatRow.holds Try.pinned (OpenSpec.ofChange shaGreatWrong)

/-- 'cressetlaw01.ShaNil': WHATEVER THE INPUT: true; the input reads as it did. -/
def shaNilSpec : ChangeSpec := { name := "shaNil", fn := fun _ => fun
  | [d] => { results := [.lit (.bool true)], args := [d] }
  | _ => none }
def shaNilRow : OpenClaim := { program := "ytihmhnfjdkkbgaa", sum := "324aaca7cc67933b0b65e7b1b7e8ebd9d9fa58b4b305a4606cc64f323402b850", func := "cresset/cressetlaw01.ShaNil", spec := "shaNil", unfollowed := true, recurses := true, apart := false }
def ShaNilSaid : Prop := shaNilRow.holds Try.pinned (OpenSpec.ofChange shaNilSpec)

/-- ITS FALSE NEIGHBOUR: 'it returns false'. Refute it at one input. -/
def shaNilWrong : ChangeSpec := { name := "shaNil", fn := fun _ => fun
  | [d] => { results := [.lit (.bool false)], args := [d] }
  | _ => none }
def ShaNilWrongFalsely : Prop := shaNilRow.holds Try.pinned (OpenSpec.ofChange shaNilWrong)

/-- 'cressetlaw01.ShaTakes': WHATEVER THE INPUT: true; the input reads as it did. -/
def shaTakesSpec : ChangeSpec := { name := "shaTakes", fn := fun _ => fun
  | [d1, d2] => { results := [.lit (.bool true)], args := [d1, d2] }
  | _ => none }
def shaTakesRow : OpenClaim := { program := "ytihmhnfjdkkbgaa", sum := "324aaca7cc67933b0b65e7b1b7e8ebd9d9fa58b4b305a4606cc64f323402b850", func := "cresset/cressetlaw01.ShaTakes", spec := "shaTakes", unfollowed := true, recurses := true, apart := false }
def ShaTakesSaid : Prop := shaTakesRow.holds Try.pinned (OpenSpec.ofChange shaTakesSpec)

/-- ITS FALSE NEIGHBOUR: 'it returns false'. Refute it at one input. -/
def shaTakesWrong : ChangeSpec := { name := "shaTakes", fn := fun _ => fun
  | [d1, d2] => { results := [.lit (.bool false)], args := [d1, d2] }
  | _ => none }
def ShaTakesWrongFalsely : Prop := shaTakesRow.holds Try.pinned (OpenSpec.ofChange shaTakesWrong)

/-- 'cressetlaw01.ShaCut': WHATEVER THE INPUT: true; the input reads as it did. -/
def shaCutSpec : ChangeSpec := { name := "shaCut", fn := fun _ => fun
  | [d1, d2, d3] => { results := [.lit (.bool true)], args := [d1, d2, d3] }
  | _ => none }
def shaCutRow : OpenClaim := { program := "ytihmhnfjdkkbgaa", sum := "324aaca7cc67933b0b65e7b1b7e8ebd9d9fa58b4b305a4606cc64f323402b850", func := "cresset/cressetlaw01.ShaCut", spec := "shaCut", unfollowed := true, recurses := true, apart := false }
def ShaCutSaid : Prop := shaCutRow.holds Try.pinned (OpenSpec.ofChange shaCutSpec)

/-- ITS FALSE NEIGHBOUR: 'it returns false'. Refute it at one input. -/
def shaCutWrong : ChangeSpec := { name := "shaCut", fn := fun _ => fun
  | [d1, d2, d3] => { results := [.lit (.bool false)], args := [d1, d2, d3] }
  | _ => none }
def ShaCutWrongFalsely : Prop := shaCutRow.holds Try.pinned (OpenSpec.ofChange shaCutWrong)

/-- 'cressetlaw01.ShaSizes': WHATEVER THE INPUT: true; the input reads as it did. -/
def shaSizesSpec : ChangeSpec := { name := "shaSizes", fn := fun _ => fun
  | [d] => { results := [.lit (.bool true)], args := [d] }
  | _ => none }
def shaSizesRow : OpenClaim := { program := "ytihmhnfjdkkbgaa", sum := "324aaca7cc67933b0b65e7b1b7e8ebd9d9fa58b4b305a4606cc64f323402b850", func := "cresset/cressetlaw01.ShaSizes", spec := "shaSizes", unfollowed := true, recurses := true, apart := false }
def ShaSizesSaid : Prop := shaSizesRow.holds Try.pinned (OpenSpec.ofChange shaSizesSpec)

/-- ITS FALSE NEIGHBOUR: 'it returns false'. Refute it at one input. -/
def shaSizesWrong : ChangeSpec := { name := "shaSizes", fn := fun _ => fun
  | [d] => { results := [.lit (.bool false)], args := [d] }
  | _ => none }
def ShaSizesWrongFalsely : Prop := shaSizesRow.holds Try.pinned (OpenSpec.ofChange shaSizesWrong)

/-- 'cressetlaw02.MacTags': WHATEVER THE INPUT: true; the input reads as it did. -/
def macTagsSpec : ChangeSpec := { name := "macTags", fn := fun _ => fun
  | [d1, d2, d3] => { results := [.lit (.bool true)], args := [d1, d2, d3] }
  | _ => none }
def macTagsRow : OpenClaim := { program := "ytihmhnfjdkkbgaa", sum := "324aaca7cc67933b0b65e7b1b7e8ebd9d9fa58b4b305a4606cc64f323402b850", func := "cresset/cressetlaw02.MacTags", spec := "macTags", unfollowed := true, recurses := true, apart := false }
def MacTagsSaid : Prop := macTagsRow.holds Try.pinned (OpenSpec.ofChange macTagsSpec)

/-- ITS FALSE NEIGHBOUR: 'it returns false'. Refute it at one input. -/
def macTagsWrong : ChangeSpec := { name := "macTags", fn := fun _ => fun
  | [d1, d2, d3] => { results := [.lit (.bool false)], args := [d1, d2, d3] }
  | _ => none }
def MacTagsWrongFalsely : Prop := macTagsRow.holds Try.pinned (OpenSpec.ofChange macTagsWrong)

/-- 'cressetlaw02.MacExpands': WHATEVER THE INPUT: true; the input reads as it did. -/
def macExpandsSpec : ChangeSpec := { name := "macExpands", fn := fun _ => fun
  | [d1, d2, d3] => { results := [.lit (.bool true)], args := [d1, d2, d3] }
  | _ => none }
def macExpandsRow : OpenClaim := { program := "ytihmhnfjdkkbgaa", sum := "324aaca7cc67933b0b65e7b1b7e8ebd9d9fa58b4b305a4606cc64f323402b850", func := "cresset/cressetlaw02.MacExpands", spec := "macExpands", unfollowed := true, recurses := true, apart := false }
def MacExpandsSaid : Prop := macExpandsRow.holds Try.pinned (OpenSpec.ofChange macExpandsSpec)

/-- ITS FALSE NEIGHBOUR: 'it returns false'. Refute it at one input. -/
def macExpandsWrong : ChangeSpec := { name := "macExpands", fn := fun _ => fun
  | [d1, d2, d3] => { results := [.lit (.bool false)], args := [d1, d2, d3] }
  | _ => none }
def MacExpandsWrongFalsely : Prop := macExpandsRow.holds Try.pinned (OpenSpec.ofChange macExpandsWrong)

/-- 'cressetlaw02.MacBegins': WHATEVER THE INPUT: true; the input reads as it did. -/
def macBeginsSpec : ChangeSpec := { name := "macBegins", fn := fun _ => fun
  | [d1, d2, d3] => { results := [.lit (.bool true)], args := [d1, d2, d3] }
  | _ => none }
def macBeginsRow : OpenClaim := { program := "ytihmhnfjdkkbgaa", sum := "324aaca7cc67933b0b65e7b1b7e8ebd9d9fa58b4b305a4606cc64f323402b850", func := "cresset/cressetlaw02.MacBegins", spec := "macBegins", unfollowed := true, recurses := true, apart := false }
def MacBeginsSaid : Prop := macBeginsRow.holds Try.pinned (OpenSpec.ofChange macBeginsSpec)

/-- ITS FALSE NEIGHBOUR: 'it returns false'. Refute it at one input. -/
def macBeginsWrong : ChangeSpec := { name := "macBegins", fn := fun _ => fun
  | [d1, d2, d3] => { results := [.lit (.bool false)], args := [d1, d2, d3] }
  | _ => none }
def MacBeginsWrongFalsely : Prop := macBeginsRow.holds Try.pinned (OpenSpec.ofChange macBeginsWrong)

/-- 'cressetlaw02.MacLong': WHATEVER THE INPUT: true; the input reads as it did. -/
def macLongSpec : ChangeSpec := { name := "macLong", fn := fun _ => fun
  | [d1, d2] => { results := [.lit (.bool true)], args := [d1, d2] }
  | _ => none }
def macLongRow : OpenClaim := { program := "ytihmhnfjdkkbgaa", sum := "324aaca7cc67933b0b65e7b1b7e8ebd9d9fa58b4b305a4606cc64f323402b850", func := "cresset/cressetlaw02.MacLong", spec := "macLong", unfollowed := true, recurses := true, apart := false }
def MacLongSaid : Prop := macLongRow.holds Try.pinned (OpenSpec.ofChange macLongSpec)

/-- ITS FALSE NEIGHBOUR: 'it returns false'. Refute it at one input. -/
def macLongWrong : ChangeSpec := { name := "macLong", fn := fun _ => fun
  | [d1, d2] => { results := [.lit (.bool false)], args := [d1, d2] }
  | _ => none }
def MacLongWrongFalsely : Prop := macLongRow.holds Try.pinned (OpenSpec.ofChange macLongWrong)

/-- 'cressetlaw02.MacExtracts': WHATEVER THE INPUT: true; the input reads as it did. -/
def macExtractsSpec : ChangeSpec := { name := "macExtracts", fn := fun _ => fun
  | [d1, d2] => { results := [.lit (.bool true)], args := [d1, d2] }
  | _ => none }
def macExtractsRow : OpenClaim := { program := "ytihmhnfjdkkbgaa", sum := "324aaca7cc67933b0b65e7b1b7e8ebd9d9fa58b4b305a4606cc64f323402b850", func := "cresset/cressetlaw02.MacExtracts", spec := "macExtracts", unfollowed := true, recurses := true, apart := false }
def MacExtractsSaid : Prop := macExtractsRow.holds Try.pinned (OpenSpec.ofChange macExtractsSpec)

/-- ITS FALSE NEIGHBOUR: 'it returns false'. Refute it at one input. -/
def macExtractsWrong : ChangeSpec := { name := "macExtracts", fn := fun _ => fun
  | [d1, d2] => { results := [.lit (.bool false)], args := [d1, d2] }
  | _ => none }
def MacExtractsWrongFalsely : Prop := macExtractsRow.holds Try.pinned (OpenSpec.ofChange macExtractsWrong)

/-- 'cressetlaw02.MacExtract': WHATEVER THE INPUT: true; the input reads as it did. -/
def macExtractSpec : ChangeSpec := { name := "macExtract", fn := fun _ => fun
  | [d1, d2] => { results := [.lit (.bool true)], args := [d1, d2] }
  | _ => none }
def macExtractRow : OpenClaim := { program := "ytihmhnfjdkkbgaa", sum := "324aaca7cc67933b0b65e7b1b7e8ebd9d9fa58b4b305a4606cc64f323402b850", func := "cresset/cressetlaw02.MacExtract", spec := "macExtract", unfollowed := true, recurses := true, apart := false }
def MacExtractSaid : Prop := macExtractRow.holds Try.pinned (OpenSpec.ofChange macExtractSpec)

/-- ITS FALSE NEIGHBOUR: 'it returns false'. Refute it at one input. -/
def macExtractWrong : ChangeSpec := { name := "macExtract", fn := fun _ => fun
  | [d1, d2] => { results := [.lit (.bool false)], args := [d1, d2] }
  | _ => none }
def MacExtractWrongFalsely : Prop := macExtractRow.holds Try.pinned (OpenSpec.ofChange macExtractWrong)

/-- 'cressetlaw02.MacLabels': WHATEVER THE INPUT: true; the input reads as it did. -/
def macLabelsSpec : ChangeSpec := { name := "macLabels", fn := fun _ => fun
  | [d1, d2] => { results := [.lit (.bool true)], args := [d1, d2] }
  | _ => none }
def macLabelsRow : OpenClaim := { program := "ytihmhnfjdkkbgaa", sum := "324aaca7cc67933b0b65e7b1b7e8ebd9d9fa58b4b305a4606cc64f323402b850", func := "cresset/cressetlaw02.MacLabels", spec := "macLabels", unfollowed := true, recurses := true, apart := false }
def MacLabelsSaid : Prop := macLabelsRow.holds Try.pinned (OpenSpec.ofChange macLabelsSpec)

/-- ITS FALSE NEIGHBOUR: 'it returns false'. Refute it at one input. -/
def macLabelsWrong : ChangeSpec := { name := "macLabels", fn := fun _ => fun
  | [d1, d2] => { results := [.lit (.bool false)], args := [d1, d2] }
  | _ => none }
def MacLabelsWrongFalsely : Prop := macLabelsRow.holds Try.pinned (OpenSpec.ofChange macLabelsWrong)

/-- 'cressetlaw02.MacSame': WHATEVER THE INPUT: true; the input reads as it did. -/
def macSameSpec : ChangeSpec := { name := "macSame", fn := fun _ => fun
  | [d1, d2] => { results := [.lit (.bool true)], args := [d1, d2] }
  | _ => none }
def macSameRow : OpenClaim := { program := "ytihmhnfjdkkbgaa", sum := "324aaca7cc67933b0b65e7b1b7e8ebd9d9fa58b4b305a4606cc64f323402b850", func := "cresset/cressetlaw02.MacSame", spec := "macSame", unfollowed := true, recurses := true, apart := false }
def MacSameSaid : Prop := macSameRow.holds Try.pinned (OpenSpec.ofChange macSameSpec)

/-- ITS FALSE NEIGHBOUR: 'it returns false'. Refute it at one input. -/
def macSameWrong : ChangeSpec := { name := "macSame", fn := fun _ => fun
  | [d1, d2] => { results := [.lit (.bool false)], args := [d1, d2] }
  | _ => none }
def MacSameWrongFalsely : Prop := macSameRow.holds Try.pinned (OpenSpec.ofChange macSameWrong)

/-- 'cressetlaw17.KeysTraffic': WHATEVER THE INPUT: true; the input reads as it did. -/
def keysTrafficSpec : ChangeSpec := { name := "keysTraffic", fn := fun _ => fun
  | [d1, d2] => { results := [.lit (.bool true)], args := [d1, d2] }
  | _ => none }
def keysTrafficRow : OpenClaim := { program := "ytihmhnfjdkkbgaa", sum := "324aaca7cc67933b0b65e7b1b7e8ebd9d9fa58b4b305a4606cc64f323402b850", func := "cresset/cressetlaw17.KeysTraffic", spec := "keysTraffic", unfollowed := true, recurses := true, apart := false }
def KeysTrafficSaid : Prop := keysTrafficRow.holds Try.pinned (OpenSpec.ofChange keysTrafficSpec)

/-- ITS FALSE NEIGHBOUR: 'it returns false'. Refute it at one input. -/
def keysTrafficWrong : ChangeSpec := { name := "keysTraffic", fn := fun _ => fun
  | [d1, d2] => { results := [.lit (.bool false)], args := [d1, d2] }
  | _ => none }
def KeysTrafficWrongFalsely : Prop := keysTrafficRow.holds Try.pinned (OpenSpec.ofChange keysTrafficWrong)

/-- 'cressetlaw17.KeysNext': WHATEVER THE INPUT: true; the input reads as it did. -/
def keysNextSpec : ChangeSpec := { name := "keysNext", fn := fun _ => fun
  | [d] => { results := [.lit (.bool true)], args := [d] }
  | _ => none }
def keysNextRow : OpenClaim := { program := "ytihmhnfjdkkbgaa", sum := "324aaca7cc67933b0b65e7b1b7e8ebd9d9fa58b4b305a4606cc64f323402b850", func := "cresset/cressetlaw17.KeysNext", spec := "keysNext", unfollowed := true, recurses := true, apart := false }
def KeysNextSaid : Prop := keysNextRow.holds Try.pinned (OpenSpec.ofChange keysNextSpec)

/-- ITS FALSE NEIGHBOUR: 'it returns false'. Refute it at one input. -/
def keysNextWrong : ChangeSpec := { name := "keysNext", fn := fun _ => fun
  | [d] => { results := [.lit (.bool false)], args := [d] }
  | _ => none }
def KeysNextWrongFalsely : Prop := keysNextRow.holds Try.pinned (OpenSpec.ofChange keysNextWrong)

/-- 'cressetlaw17.KeysSecrets': WHATEVER THE INPUT: true; the input reads as it did. -/
def keysSecretsSpec : ChangeSpec := { name := "keysSecrets", fn := fun _ => fun
  | [d1, d2, d3] => { results := [.lit (.bool true)], args := [d1, d2, d3] }
  | _ => none }
def keysSecretsRow : OpenClaim := { program := "ytihmhnfjdkkbgaa", sum := "324aaca7cc67933b0b65e7b1b7e8ebd9d9fa58b4b305a4606cc64f323402b850", func := "cresset/cressetlaw17.KeysSecrets", spec := "keysSecrets", unfollowed := true, recurses := true, apart := false }
def KeysSecretsSaid : Prop := keysSecretsRow.holds Try.pinned (OpenSpec.ofChange keysSecretsSpec)

/-- ITS FALSE NEIGHBOUR: 'it returns false'. Refute it at one input. -/
def keysSecretsWrong : ChangeSpec := { name := "keysSecrets", fn := fun _ => fun
  | [d1, d2, d3] => { results := [.lit (.bool false)], args := [d1, d2, d3] }
  | _ => none }
def KeysSecretsWrongFalsely : Prop := keysSecretsRow.holds Try.pinned (OpenSpec.ofChange keysSecretsWrong)

/-- 'cressetlaw17.KeysMaster': WHATEVER THE INPUT: true; the input reads as it did. -/
def keysMasterSpec : ChangeSpec := { name := "keysMaster", fn := fun _ => fun
  | [d] => { results := [.lit (.bool true)], args := [d] }
  | _ => none }
def keysMasterRow : OpenClaim := { program := "ytihmhnfjdkkbgaa", sum := "324aaca7cc67933b0b65e7b1b7e8ebd9d9fa58b4b305a4606cc64f323402b850", func := "cresset/cressetlaw17.KeysMaster", spec := "keysMaster", unfollowed := true, recurses := true, apart := false }
def KeysMasterSaid : Prop := keysMasterRow.holds Try.pinned (OpenSpec.ofChange keysMasterSpec)

/-- ITS FALSE NEIGHBOUR: 'it returns false'. Refute it at one input. -/
def keysMasterWrong : ChangeSpec := { name := "keysMaster", fn := fun _ => fun
  | [d] => { results := [.lit (.bool false)], args := [d] }
  | _ => none }
def KeysMasterWrongFalsely : Prop := keysMasterRow.holds Try.pinned (OpenSpec.ofChange keysMasterWrong)

/-- 'cressetlaw17.KeysSteps': WHATEVER THE INPUT: true; the input reads as it did. -/
def keysStepsSpec : ChangeSpec := { name := "keysSteps", fn := fun _ => fun
  | [d] => { results := [.lit (.bool true)], args := [d] }
  | _ => none }
def keysStepsRow : OpenClaim := { program := "ytihmhnfjdkkbgaa", sum := "324aaca7cc67933b0b65e7b1b7e8ebd9d9fa58b4b305a4606cc64f323402b850", func := "cresset/cressetlaw17.KeysSteps", spec := "keysSteps", unfollowed := true, recurses := true, apart := false }
def KeysStepsSaid : Prop := keysStepsRow.holds Try.pinned (OpenSpec.ofChange keysStepsSpec)

/-- ITS FALSE NEIGHBOUR: 'it returns false'. Refute it at one input. -/
def keysStepsWrong : ChangeSpec := { name := "keysSteps", fn := fun _ => fun
  | [d] => { results := [.lit (.bool false)], args := [d] }
  | _ => none }
def KeysStepsWrongFalsely : Prop := keysStepsRow.holds Try.pinned (OpenSpec.ofChange keysStepsWrong)

/-- 'cressetlaw17.KeysSigned': WHATEVER THE INPUT: true; the input reads as it did. -/
def keysSignedSpec : ChangeSpec := { name := "keysSigned", fn := fun _ => fun
  | [d1, d2] => { results := [.lit (.bool true)], args := [d1, d2] }
  | _ => none }
def keysSignedRow : OpenClaim := { program := "ytihmhnfjdkkbgaa", sum := "324aaca7cc67933b0b65e7b1b7e8ebd9d9fa58b4b305a4606cc64f323402b850", func := "cresset/cressetlaw17.KeysSigned", spec := "keysSigned", inPlace := ["internal/abi.NoEscape", "internal/bytealg.MakeNoZero"], unfollowed := true, recurses := true, apart := false }
def KeysSignedSaid : Prop := keysSignedRow.holds Try.pinned (OpenSpec.ofChange keysSignedSpec)

/-- ITS FALSE NEIGHBOUR: 'it returns false'. Refute it at one input. -/
def keysSignedWrong : ChangeSpec := { name := "keysSigned", fn := fun _ => fun
  | [d1, d2] => { results := [.lit (.bool false)], args := [d1, d2] }
  | _ => none }
def KeysSignedWrongFalsely : Prop := keysSignedRow.holds Try.pinned (OpenSpec.ofChange keysSignedWrong)

/-- 'cressetlaw17.KeysTags': WHATEVER THE INPUT: true; the input reads as it did. -/
def keysTagsSpec : ChangeSpec := { name := "keysTags", fn := fun _ => fun
  | [d1, d2, d3] => { results := [.lit (.bool true)], args := [d1, d2, d3] }
  | _ => none }
def keysTagsRow : OpenClaim := { program := "ytihmhnfjdkkbgaa", sum := "324aaca7cc67933b0b65e7b1b7e8ebd9d9fa58b4b305a4606cc64f323402b850", func := "cresset/cressetlaw17.KeysTags", spec := "keysTags", inPlace := ["internal/abi.NoEscape", "internal/bytealg.MakeNoZero"], unfollowed := true, recurses := true, apart := false }
def KeysTagsSaid : Prop := keysTagsRow.holds Try.pinned (OpenSpec.ofChange keysTagsSpec)

/-- ITS FALSE NEIGHBOUR: 'it returns false'. Refute it at one input. -/
def keysTagsWrong : ChangeSpec := { name := "keysTags", fn := fun _ => fun
  | [d1, d2, d3] => { results := [.lit (.bool false)], args := [d1, d2, d3] }
  | _ => none }
def KeysTagsWrongFalsely : Prop := keysTagsRow.holds Try.pinned (OpenSpec.ofChange keysTagsWrong)

/-- 'cressetlaw17.KeysSizes': WHATEVER THE INPUT: true; the input reads as it did. -/
def keysSizesSpec : ChangeSpec := { name := "keysSizes", fn := fun _ => fun
  | [d1, d2, d3] => { results := [.lit (.bool true)], args := [d1, d2, d3] }
  | _ => none }
def keysSizesRow : OpenClaim := { program := "ytihmhnfjdkkbgaa", sum := "324aaca7cc67933b0b65e7b1b7e8ebd9d9fa58b4b305a4606cc64f323402b850", func := "cresset/cressetlaw17.KeysSizes", spec := "keysSizes", inPlace := ["internal/abi.NoEscape", "internal/bytealg.MakeNoZero"], unfollowed := true, recurses := true, apart := false }
def KeysSizesSaid : Prop := keysSizesRow.holds Try.pinned (OpenSpec.ofChange keysSizesSpec)

/-- ITS FALSE NEIGHBOUR: 'it returns false'. Refute it at one input. -/
def keysSizesWrong : ChangeSpec := { name := "keysSizes", fn := fun _ => fun
  | [d1, d2, d3] => { results := [.lit (.bool false)], args := [d1, d2, d3] }
  | _ => none }
def KeysSizesWrongFalsely : Prop := keysSizesRow.holds Try.pinned (OpenSpec.ofChange keysSizesWrong)

/- THE SECOND FORM. 'bulk': how many values and letters a reading holds, each counted each time it is reached (what is shared counts as often as it is met; a slice's spare places count too). A statement '..UptoSaid' is the law's where the arguments, and the package variables that the reading takes, are together of bulk at most 1048576: NARROWER than '..Said'. Prove '..Said' where nothing that the law and all that it calls make is longer than what came in: it says more and counts as full. Else prove '..UptoSaid'. A law counts once. -/
mutual
def uptoBulk {H : Type} : DataW H → Nat
  | .lit (.string bytes) => bytes.length + 1
  | .lit _ => 1
  | .nil => 1
  | .ptr d => uptoBulk d + 1
  | .slice elems spare => uptoBulkAll elems + uptoBulkAll spare + 1
  | .agg parts => uptoBulkAll parts + 1
  | .iface _ d => uptoBulk d + 1
  | .map entries => uptoBulkEntries entries + 1
  | .held _ => 1
def uptoBulkAll {H : Type} : List (DataW H) → Nat
  | [] => 0
  | d :: r => uptoBulk d + uptoBulkAll r
def uptoBulkEntries {H : Type} : List (Lit × DataW H) → Nat
  | [] => 0
  | x :: r => uptoBulkEntry x + uptoBulkEntries r
def uptoBulkEntry {H : Type} : Lit × DataW H → Nat
  | (.string bytes, d) => bytes.length + uptoBulk d + 1
  | (_, d) => uptoBulk d + 1
 end
def uptoSmall : (H : Type) → List (DataW H) → Bool := fun _ ds => decide (uptoBulkAll ds ≤ 1048576)
def OpenSpec.upto (s : _root_.Go.ChangeSpec) : _root_.Go.OpenSpec := { _root_.Go.OpenSpec.ofChange s with cond := some uptoSmall }

/-- 'cressetlaw01.ShaSmall', WHERE WHAT IT READS IS OF BULK AT MOST 1048576: true; the input reads as it did. -/
def shaSmallUptoRow : OpenClaim := { program := "ytihmhnfjdkkbgaa", sum := "324aaca7cc67933b0b65e7b1b7e8ebd9d9fa58b4b305a4606cc64f323402b850", func := "cresset/cressetlaw01.ShaSmall", spec := "shaSmall", unfollowed := true, recurses := true, apart := false, narrowed := true }
def ShaSmallUptoSaid : Prop := shaSmallUptoRow.holds Try.pinned (OpenSpec.upto shaSmallSpec)

/-- 'cressetlaw01.ShaGreat', WHERE WHAT IT READS IS OF BULK AT MOST 1048576: true; the input reads as it did. -/
def shaGreatUptoRow : OpenClaim := { program := "ytihmhnfjdkkbgaa", sum := "324aaca7cc67933b0b65e7b1b7e8ebd9d9fa58b4b305a4606cc64f323402b850", func := "cresset/cressetlaw01.ShaGreat", spec := "shaGreat", unfollowed := true, recurses := true, apart := false, narrowed := true }
def ShaGreatUptoSaid : Prop := shaGreatUptoRow.holds Try.pinned (OpenSpec.upto shaGreatSpec)

/-- 'cressetlaw01.ShaNil', WHERE WHAT IT READS IS OF BULK AT MOST 1048576: true; the input reads as it did. -/
def shaNilUptoRow : OpenClaim := { program := "ytihmhnfjdkkbgaa", sum := "324aaca7cc67933b0b65e7b1b7e8ebd9d9fa58b4b305a4606cc64f323402b850", func := "cresset/cressetlaw01.ShaNil", spec := "shaNil", unfollowed := true, recurses := true, apart := false, narrowed := true }
def ShaNilUptoSaid : Prop := shaNilUptoRow.holds Try.pinned (OpenSpec.upto shaNilSpec)

/-- 'cressetlaw01.ShaTakes', WHERE WHAT IT READS IS OF BULK AT MOST 1048576: true; the input reads as it did. -/
def shaTakesUptoRow : OpenClaim := { program := "ytihmhnfjdkkbgaa", sum := "324aaca7cc67933b0b65e7b1b7e8ebd9d9fa58b4b305a4606cc64f323402b850", func := "cresset/cressetlaw01.ShaTakes", spec := "shaTakes", unfollowed := true, recurses := true, apart := false, narrowed := true }
def ShaTakesUptoSaid : Prop := shaTakesUptoRow.holds Try.pinned (OpenSpec.upto shaTakesSpec)

/-- 'cressetlaw01.ShaCut', WHERE WHAT IT READS IS OF BULK AT MOST 1048576: true; the input reads as it did. -/
def shaCutUptoRow : OpenClaim := { program := "ytihmhnfjdkkbgaa", sum := "324aaca7cc67933b0b65e7b1b7e8ebd9d9fa58b4b305a4606cc64f323402b850", func := "cresset/cressetlaw01.ShaCut", spec := "shaCut", unfollowed := true, recurses := true, apart := false, narrowed := true }
def ShaCutUptoSaid : Prop := shaCutUptoRow.holds Try.pinned (OpenSpec.upto shaCutSpec)

/-- 'cressetlaw01.ShaSizes', WHERE WHAT IT READS IS OF BULK AT MOST 1048576: true; the input reads as it did. -/
def shaSizesUptoRow : OpenClaim := { program := "ytihmhnfjdkkbgaa", sum := "324aaca7cc67933b0b65e7b1b7e8ebd9d9fa58b4b305a4606cc64f323402b850", func := "cresset/cressetlaw01.ShaSizes", spec := "shaSizes", unfollowed := true, recurses := true, apart := false, narrowed := true }
def ShaSizesUptoSaid : Prop := shaSizesUptoRow.holds Try.pinned (OpenSpec.upto shaSizesSpec)

/-- 'cressetlaw02.MacTags', WHERE WHAT IT READS IS OF BULK AT MOST 1048576: true; the input reads as it did. -/
def macTagsUptoRow : OpenClaim := { program := "ytihmhnfjdkkbgaa", sum := "324aaca7cc67933b0b65e7b1b7e8ebd9d9fa58b4b305a4606cc64f323402b850", func := "cresset/cressetlaw02.MacTags", spec := "macTags", unfollowed := true, recurses := true, apart := false, narrowed := true }
def MacTagsUptoSaid : Prop := macTagsUptoRow.holds Try.pinned (OpenSpec.upto macTagsSpec)

/-- 'cressetlaw02.MacExpands', WHERE WHAT IT READS IS OF BULK AT MOST 1048576: true; the input reads as it did. -/
def macExpandsUptoRow : OpenClaim := { program := "ytihmhnfjdkkbgaa", sum := "324aaca7cc67933b0b65e7b1b7e8ebd9d9fa58b4b305a4606cc64f323402b850", func := "cresset/cressetlaw02.MacExpands", spec := "macExpands", unfollowed := true, recurses := true, apart := false, narrowed := true }
def MacExpandsUptoSaid : Prop := macExpandsUptoRow.holds Try.pinned (OpenSpec.upto macExpandsSpec)

/-- 'cressetlaw02.MacBegins', WHERE WHAT IT READS IS OF BULK AT MOST 1048576: true; the input reads as it did. -/
def macBeginsUptoRow : OpenClaim := { program := "ytihmhnfjdkkbgaa", sum := "324aaca7cc67933b0b65e7b1b7e8ebd9d9fa58b4b305a4606cc64f323402b850", func := "cresset/cressetlaw02.MacBegins", spec := "macBegins", unfollowed := true, recurses := true, apart := false, narrowed := true }
def MacBeginsUptoSaid : Prop := macBeginsUptoRow.holds Try.pinned (OpenSpec.upto macBeginsSpec)

/-- 'cressetlaw02.MacLong', WHERE WHAT IT READS IS OF BULK AT MOST 1048576: true; the input reads as it did. -/
def macLongUptoRow : OpenClaim := { program := "ytihmhnfjdkkbgaa", sum := "324aaca7cc67933b0b65e7b1b7e8ebd9d9fa58b4b305a4606cc64f323402b850", func := "cresset/cressetlaw02.MacLong", spec := "macLong", unfollowed := true, recurses := true, apart := false, narrowed := true }
def MacLongUptoSaid : Prop := macLongUptoRow.holds Try.pinned (OpenSpec.upto macLongSpec)

/-- 'cressetlaw02.MacExtracts', WHERE WHAT IT READS IS OF BULK AT MOST 1048576: true; the input reads as it did. -/
def macExtractsUptoRow : OpenClaim := { program := "ytihmhnfjdkkbgaa", sum := "324aaca7cc67933b0b65e7b1b7e8ebd9d9fa58b4b305a4606cc64f323402b850", func := "cresset/cressetlaw02.MacExtracts", spec := "macExtracts", unfollowed := true, recurses := true, apart := false, narrowed := true }
def MacExtractsUptoSaid : Prop := macExtractsUptoRow.holds Try.pinned (OpenSpec.upto macExtractsSpec)

/-- 'cressetlaw02.MacExtract', WHERE WHAT IT READS IS OF BULK AT MOST 1048576: true; the input reads as it did. -/
def macExtractUptoRow : OpenClaim := { program := "ytihmhnfjdkkbgaa", sum := "324aaca7cc67933b0b65e7b1b7e8ebd9d9fa58b4b305a4606cc64f323402b850", func := "cresset/cressetlaw02.MacExtract", spec := "macExtract", unfollowed := true, recurses := true, apart := false, narrowed := true }
def MacExtractUptoSaid : Prop := macExtractUptoRow.holds Try.pinned (OpenSpec.upto macExtractSpec)

/-- 'cressetlaw02.MacLabels', WHERE WHAT IT READS IS OF BULK AT MOST 1048576: true; the input reads as it did. -/
def macLabelsUptoRow : OpenClaim := { program := "ytihmhnfjdkkbgaa", sum := "324aaca7cc67933b0b65e7b1b7e8ebd9d9fa58b4b305a4606cc64f323402b850", func := "cresset/cressetlaw02.MacLabels", spec := "macLabels", unfollowed := true, recurses := true, apart := false, narrowed := true }
def MacLabelsUptoSaid : Prop := macLabelsUptoRow.holds Try.pinned (OpenSpec.upto macLabelsSpec)

/-- 'cressetlaw02.MacSame', WHERE WHAT IT READS IS OF BULK AT MOST 1048576: true; the input reads as it did. -/
def macSameUptoRow : OpenClaim := { program := "ytihmhnfjdkkbgaa", sum := "324aaca7cc67933b0b65e7b1b7e8ebd9d9fa58b4b305a4606cc64f323402b850", func := "cresset/cressetlaw02.MacSame", spec := "macSame", unfollowed := true, recurses := true, apart := false, narrowed := true }
def MacSameUptoSaid : Prop := macSameUptoRow.holds Try.pinned (OpenSpec.upto macSameSpec)

/-- 'cressetlaw17.KeysTraffic', WHERE WHAT IT READS IS OF BULK AT MOST 1048576: true; the input reads as it did. -/
def keysTrafficUptoRow : OpenClaim := { program := "ytihmhnfjdkkbgaa", sum := "324aaca7cc67933b0b65e7b1b7e8ebd9d9fa58b4b305a4606cc64f323402b850", func := "cresset/cressetlaw17.KeysTraffic", spec := "keysTraffic", unfollowed := true, recurses := true, apart := false, narrowed := true }
def KeysTrafficUptoSaid : Prop := keysTrafficUptoRow.holds Try.pinned (OpenSpec.upto keysTrafficSpec)

/-- 'cressetlaw17.KeysNext', WHERE WHAT IT READS IS OF BULK AT MOST 1048576: true; the input reads as it did. -/
def keysNextUptoRow : OpenClaim := { program := "ytihmhnfjdkkbgaa", sum := "324aaca7cc67933b0b65e7b1b7e8ebd9d9fa58b4b305a4606cc64f323402b850", func := "cresset/cressetlaw17.KeysNext", spec := "keysNext", unfollowed := true, recurses := true, apart := false, narrowed := true }
def KeysNextUptoSaid : Prop := keysNextUptoRow.holds Try.pinned (OpenSpec.upto keysNextSpec)

/-- 'cressetlaw17.KeysSecrets', WHERE WHAT IT READS IS OF BULK AT MOST 1048576: true; the input reads as it did. -/
def keysSecretsUptoRow : OpenClaim := { program := "ytihmhnfjdkkbgaa", sum := "324aaca7cc67933b0b65e7b1b7e8ebd9d9fa58b4b305a4606cc64f323402b850", func := "cresset/cressetlaw17.KeysSecrets", spec := "keysSecrets", unfollowed := true, recurses := true, apart := false, narrowed := true }
def KeysSecretsUptoSaid : Prop := keysSecretsUptoRow.holds Try.pinned (OpenSpec.upto keysSecretsSpec)

/-- 'cressetlaw17.KeysMaster', WHERE WHAT IT READS IS OF BULK AT MOST 1048576: true; the input reads as it did. -/
def keysMasterUptoRow : OpenClaim := { program := "ytihmhnfjdkkbgaa", sum := "324aaca7cc67933b0b65e7b1b7e8ebd9d9fa58b4b305a4606cc64f323402b850", func := "cresset/cressetlaw17.KeysMaster", spec := "keysMaster", unfollowed := true, recurses := true, apart := false, narrowed := true }
def KeysMasterUptoSaid : Prop := keysMasterUptoRow.holds Try.pinned (OpenSpec.upto keysMasterSpec)

/-- 'cressetlaw17.KeysSteps', WHERE WHAT IT READS IS OF BULK AT MOST 1048576: true; the input reads as it did. -/
def keysStepsUptoRow : OpenClaim := { program := "ytihmhnfjdkkbgaa", sum := "324aaca7cc67933b0b65e7b1b7e8ebd9d9fa58b4b305a4606cc64f323402b850", func := "cresset/cressetlaw17.KeysSteps", spec := "keysSteps", unfollowed := true, recurses := true, apart := false, narrowed := true }
def KeysStepsUptoSaid : Prop := keysStepsUptoRow.holds Try.pinned (OpenSpec.upto keysStepsSpec)

/-- 'cressetlaw17.KeysSigned', WHERE WHAT IT READS IS OF BULK AT MOST 1048576: true; the input reads as it did. -/
def keysSignedUptoRow : OpenClaim := { program := "ytihmhnfjdkkbgaa", sum := "324aaca7cc67933b0b65e7b1b7e8ebd9d9fa58b4b305a4606cc64f323402b850", func := "cresset/cressetlaw17.KeysSigned", spec := "keysSigned", inPlace := ["internal/abi.NoEscape", "internal/bytealg.MakeNoZero"], unfollowed := true, recurses := true, apart := false, narrowed := true }
def KeysSignedUptoSaid : Prop := keysSignedUptoRow.holds Try.pinned (OpenSpec.upto keysSignedSpec)

/-- 'cressetlaw17.KeysTags', WHERE WHAT IT READS IS OF BULK AT MOST 1048576: true; the input reads as it did. -/
def keysTagsUptoRow : OpenClaim := { program := "ytihmhnfjdkkbgaa", sum := "324aaca7cc67933b0b65e7b1b7e8ebd9d9fa58b4b305a4606cc64f323402b850", func := "cresset/cressetlaw17.KeysTags", spec := "keysTags", inPlace := ["internal/abi.NoEscape", "internal/bytealg.MakeNoZero"], unfollowed := true, recurses := true, apart := false, narrowed := true }
def KeysTagsUptoSaid : Prop := keysTagsUptoRow.holds Try.pinned (OpenSpec.upto keysTagsSpec)

/-- 'cressetlaw17.KeysSizes', WHERE WHAT IT READS IS OF BULK AT MOST 1048576: true; the input reads as it did. -/
def keysSizesUptoRow : OpenClaim := { program := "ytihmhnfjdkkbgaa", sum := "324aaca7cc67933b0b65e7b1b7e8ebd9d9fa58b4b305a4606cc64f323402b850", func := "cresset/cressetlaw17.KeysSizes", spec := "keysSizes", inPlace := ["internal/abi.NoEscape", "internal/bytealg.MakeNoZero"], unfollowed := true, recurses := true, apart := false, narrowed := true }
def KeysSizesUptoSaid : Prop := keysSizesUptoRow.holds Try.pinned (OpenSpec.upto keysSizesSpec)

end Rows
end Go.Proofs.Ytihmhnfjdkkbgaa
