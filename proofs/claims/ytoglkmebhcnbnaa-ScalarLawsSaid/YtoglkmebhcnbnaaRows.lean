/-
  No cell of these rows narrows 'for every input' (looked for: loops, veiled, ifaces, maps, wideKeys, modest, calm, conditions, laid).
  DERIVED. THE GIVEN ROWS OF THIS SEAT. 6 by the template 'for every input the law returns true; each argument reads behind the call as it read before'; 0 by the template 'total and deterministic' (their statements: YtoglkmebhcnbnaaTotals.lean).
  GIVEN WITH THE SEED: the statements are not yours to turn. If you find one false, say at which input.
  Laid BY PROGRAM, IN A SANDBOX (cutbox-rows.mjs): the forced cells as the released guide's own fill.sh prints them over the translation ac58a222ab7ec84d… (all of the seat's roots in one cut). By AI agents, Wed Nov 11 2026. No macro, syntax, notation, axiom, sorry.
-/
import Derived.Test.YtoglkmebhcnbnaaChecked
import GoSem.Claim
import GoSem.ClaimJoined
import GoSem.ClaimMapViews
import Derived.JoinedTies
import Derived.KernelRfl
namespace Go.Proofs.Ytoglkmebhcnbnaa
/- THE CELL 'sum', in the pinned program and in every row, IS THE sha256 OF THE DUMP (.gsa) THAT YtoglkmebhcnbnaaProg.lean LOADS. Nothing in Lean hashes anything: it is a label: what it is worth is what the hold of that sum in a sandbox is worth. -/
noncomputable def Try.pinned : Pinned := { name := "ytoglkmebhcnbnaa", sum := "ac58a222ab7ec84d317a6b676aaba253d1738416c9f72b8e4c66c5e32a79fe19", checked := Try.checked }
namespace Rows
def none {H : Type} : Left H := { results := [], args := [] }

/-- 'cressetlaw10.ScalarWide': WHATEVER THE INPUT: true; the input reads as it did. -/
def scalarWideSpec : ChangeSpec := { name := "scalarWide", fn := fun _ => fun
  | [d] => { results := [.lit (.bool true)], args := [d] }
  | _ => none }
def scalarWideRow : OpenClaim := { program := "ytoglkmebhcnbnaa", sum := "ac58a222ab7ec84d317a6b676aaba253d1738416c9f72b8e4c66c5e32a79fe19", func := "cresset/cressetlaw10.ScalarWide", spec := "scalarWide", inPlace := ["math/bits.Sub64", "math/bits.Add64"], apart := false }
def ScalarWideSaid : Prop := scalarWideRow.holds Try.pinned (OpenSpec.ofChange scalarWideSpec)

/-- ITS FALSE NEIGHBOUR: 'it returns false'. Refute it at one input. -/
def scalarWideWrong : ChangeSpec := { name := "scalarWide", fn := fun _ => fun
  | [d] => { results := [.lit (.bool false)], args := [d] }
  | _ => none }
def ScalarWideWrongFalsely : Prop := scalarWideRow.holds Try.pinned (OpenSpec.ofChange scalarWideWrong)

/-- 'cressetlaw10.ScalarRight': WHATEVER THE INPUT: true; the input reads as it did. -/
def scalarRightSpec : ChangeSpec := { name := "scalarRight", fn := fun _ => fun
  | [d] => { results := [.lit (.bool true)], args := [d] }
  | _ => none }
def scalarRightRow : OpenClaim := { program := "ytoglkmebhcnbnaa", sum := "ac58a222ab7ec84d317a6b676aaba253d1738416c9f72b8e4c66c5e32a79fe19", func := "cresset/cressetlaw10.ScalarRight", spec := "scalarRight", inPlace := ["math/bits.Sub64", "math/bits.Add64"], apart := false }
def ScalarRightSaid : Prop := scalarRightRow.holds Try.pinned (OpenSpec.ofChange scalarRightSpec)

/-- ITS FALSE NEIGHBOUR: 'it returns false'. Refute it at one input. -/
def scalarRightWrong : ChangeSpec := { name := "scalarRight", fn := fun _ => fun
  | [d] => { results := [.lit (.bool false)], args := [d] }
  | _ => none }
def ScalarRightWrongFalsely : Prop := scalarRightRow.holds Try.pinned (OpenSpec.ofChange scalarRightWrong)

/-- 'cressetlaw10.ScalarMulAdds': WHATEVER THE INPUT: true; the input reads as it did. -/
def scalarMulAddsSpec : ChangeSpec := { name := "scalarMulAdds", fn := fun _ => fun
  | [d1, d2, d3] => { results := [.lit (.bool true)], args := [d1, d2, d3] }
  | _ => none }
def scalarMulAddsRow : OpenClaim := { program := "ytoglkmebhcnbnaa", sum := "ac58a222ab7ec84d317a6b676aaba253d1738416c9f72b8e4c66c5e32a79fe19", func := "cresset/cressetlaw10.ScalarMulAdds", spec := "scalarMulAdds", inPlace := ["math/bits.Add64", "math/bits.Sub64"], apart := false }
def ScalarMulAddsSaid : Prop := scalarMulAddsRow.holds Try.pinned (OpenSpec.ofChange scalarMulAddsSpec)

/-- ITS FALSE NEIGHBOUR: 'it returns false'. Refute it at one input. -/
def scalarMulAddsWrong : ChangeSpec := { name := "scalarMulAdds", fn := fun _ => fun
  | [d1, d2, d3] => { results := [.lit (.bool false)], args := [d1, d2, d3] }
  | _ => none }
def ScalarMulAddsWrongFalsely : Prop := scalarMulAddsRow.holds Try.pinned (OpenSpec.ofChange scalarMulAddsWrong)

/-- 'cressetlaw10.ScalarLaws': WHATEVER THE INPUT: true; the input reads as it did. -/
def scalarLawsSpec : ChangeSpec := { name := "scalarLaws", fn := fun _ => fun
  | [d1, d2, d3] => { results := [.lit (.bool true)], args := [d1, d2, d3] }
  | _ => none }
def scalarLawsRow : OpenClaim := { program := "ytoglkmebhcnbnaa", sum := "ac58a222ab7ec84d317a6b676aaba253d1738416c9f72b8e4c66c5e32a79fe19", func := "cresset/cressetlaw10.ScalarLaws", spec := "scalarLaws", inPlace := ["math/bits.Add64", "math/bits.Sub64"], apart := false }
def ScalarLawsSaid : Prop := scalarLawsRow.holds Try.pinned (OpenSpec.ofChange scalarLawsSpec)

/-- ITS FALSE NEIGHBOUR: 'it returns false'. Refute it at one input. -/
def scalarLawsWrong : ChangeSpec := { name := "scalarLaws", fn := fun _ => fun
  | [d1, d2, d3] => { results := [.lit (.bool false)], args := [d1, d2, d3] }
  | _ => none }
def ScalarLawsWrongFalsely : Prop := scalarLawsRow.holds Try.pinned (OpenSpec.ofChange scalarLawsWrong)

/-- 'cressetlaw10.ScalarSpread': WHATEVER THE INPUT: true; the input reads as it did. -/
def scalarSpreadSpec : ChangeSpec := { name := "scalarSpread", fn := fun _ => fun
  | [d1, d2, d3] => { results := [.lit (.bool true)], args := [d1, d2, d3] }
  | _ => none }
def scalarSpreadRow : OpenClaim := { program := "ytoglkmebhcnbnaa", sum := "ac58a222ab7ec84d317a6b676aaba253d1738416c9f72b8e4c66c5e32a79fe19", func := "cresset/cressetlaw10.ScalarSpread", spec := "scalarSpread", inPlace := ["math/bits.Add64", "math/bits.Sub64"], apart := false }
def ScalarSpreadSaid : Prop := scalarSpreadRow.holds Try.pinned (OpenSpec.ofChange scalarSpreadSpec)

/-- ITS FALSE NEIGHBOUR: 'it returns false'. Refute it at one input. -/
def scalarSpreadWrong : ChangeSpec := { name := "scalarSpread", fn := fun _ => fun
  | [d1, d2, d3] => { results := [.lit (.bool false)], args := [d1, d2, d3] }
  | _ => none }
def ScalarSpreadWrongFalsely : Prop := scalarSpreadRow.holds Try.pinned (OpenSpec.ofChange scalarSpreadWrong)

/-- 'cressetlaw10.ScalarSmall': WHATEVER THE INPUT: true; the input reads as it did. -/
def scalarSmallSpec : ChangeSpec := { name := "scalarSmall", fn := fun _ => fun
  | [d1, d2, d3] => { results := [.lit (.bool true)], args := [d1, d2, d3] }
  | _ => none }
def scalarSmallRow : OpenClaim := { program := "ytoglkmebhcnbnaa", sum := "ac58a222ab7ec84d317a6b676aaba253d1738416c9f72b8e4c66c5e32a79fe19", func := "cresset/cressetlaw10.ScalarSmall", spec := "scalarSmall", inPlace := ["math/bits.Add64", "math/bits.Sub64"], apart := false }
def ScalarSmallSaid : Prop := scalarSmallRow.holds Try.pinned (OpenSpec.ofChange scalarSmallSpec)

/-- ITS FALSE NEIGHBOUR: 'it returns false'. Refute it at one input. -/
def scalarSmallWrong : ChangeSpec := { name := "scalarSmall", fn := fun _ => fun
  | [d1, d2, d3] => { results := [.lit (.bool false)], args := [d1, d2, d3] }
  | _ => none }
def ScalarSmallWrongFalsely : Prop := scalarSmallRow.holds Try.pinned (OpenSpec.ofChange scalarSmallWrong)

/- THE SECOND FORM. 'bulk': how many values and letters a reading holds, each counted each time it is reached (what is shared counts as often as it is met; a slice's spare places count too). A statement '..UptoSaid' is the law's where the arguments, and the package variables that the reading takes, are together of bulk at most 1048576: NARROWER than '..Said'. Prove '..Said' where nothing that the law and all that it calls make is longer than what came in: it says more and counts as full. Else prove '..UptoSaid'. A law counts once. -/
mutual
def uptoBulk {H : Type} : DataW H → Nat
  | .lit (.string bytes) => bytes.length + 1
  | .lit _ => 1
  | .nil => 1
  | .ptr d => uptoBulk d + 1
  | .slice elems spare => uptoBulkAll elems + uptoBulkAll spare + 1
  | .agg parts => uptoBulkAll parts + 1
  | .iface _ d => uptoBulk d + 1
  | .map entries => uptoBulkEntries entries + 1
  | .held _ => 1
def uptoBulkAll {H : Type} : List (DataW H) → Nat
  | [] => 0
  | d :: r => uptoBulk d + uptoBulkAll r
def uptoBulkEntries {H : Type} : List (Lit × DataW H) → Nat
  | [] => 0
  | x :: r => uptoBulkEntry x + uptoBulkEntries r
def uptoBulkEntry {H : Type} : Lit × DataW H → Nat
  | (.string bytes, d) => bytes.length + uptoBulk d + 1
  | (_, d) => uptoBulk d + 1
 end
def uptoSmall : (H : Type) → List (DataW H) → Bool := fun _ ds => decide (uptoBulkAll ds ≤ 1048576)
def OpenSpec.upto (s : _root_.Go.ChangeSpec) : _root_.Go.OpenSpec := { _root_.Go.OpenSpec.ofChange s with cond := some uptoSmall }

/-- 'cressetlaw10.ScalarWide', WHERE WHAT IT READS IS OF BULK AT MOST 1048576: true; the input reads as it did. -/
def scalarWideUptoRow : OpenClaim := { program := "ytoglkmebhcnbnaa", sum := "ac58a222ab7ec84d317a6b676aaba253d1738416c9f72b8e4c66c5e32a79fe19", func := "cresset/cressetlaw10.ScalarWide", spec := "scalarWide", inPlace := ["math/bits.Sub64", "math/bits.Add64"], apart := false, narrowed := true }
def ScalarWideUptoSaid : Prop := scalarWideUptoRow.holds Try.pinned (OpenSpec.upto scalarWideSpec)

/-- 'cressetlaw10.ScalarRight', WHERE WHAT IT READS IS OF BULK AT MOST 1048576: true; the input reads as it did. -/
def scalarRightUptoRow : OpenClaim := { program := "ytoglkmebhcnbnaa", sum := "ac58a222ab7ec84d317a6b676aaba253d1738416c9f72b8e4c66c5e32a79fe19", func := "cresset/cressetlaw10.ScalarRight", spec := "scalarRight", inPlace := ["math/bits.Sub64", "math/bits.Add64"], apart := false, narrowed := true }
def ScalarRightUptoSaid : Prop := scalarRightUptoRow.holds Try.pinned (OpenSpec.upto scalarRightSpec)

/-- 'cressetlaw10.ScalarMulAdds', WHERE WHAT IT READS IS OF BULK AT MOST 1048576: true; the input reads as it did. -/
def scalarMulAddsUptoRow : OpenClaim := { program := "ytoglkmebhcnbnaa", sum := "ac58a222ab7ec84d317a6b676aaba253d1738416c9f72b8e4c66c5e32a79fe19", func := "cresset/cressetlaw10.ScalarMulAdds", spec := "scalarMulAdds", inPlace := ["math/bits.Add64", "math/bits.Sub64"], apart := false, narrowed := true }
def ScalarMulAddsUptoSaid : Prop := scalarMulAddsUptoRow.holds Try.pinned (OpenSpec.upto scalarMulAddsSpec)

/-- 'cressetlaw10.ScalarLaws', WHERE WHAT IT READS IS OF BULK AT MOST 1048576: true; the input reads as it did. -/
def scalarLawsUptoRow : OpenClaim := { program := "ytoglkmebhcnbnaa", sum := "ac58a222ab7ec84d317a6b676aaba253d1738416c9f72b8e4c66c5e32a79fe19", func := "cresset/cressetlaw10.ScalarLaws", spec := "scalarLaws", inPlace := ["math/bits.Add64", "math/bits.Sub64"], apart := false, narrowed := true }
def ScalarLawsUptoSaid : Prop := scalarLawsUptoRow.holds Try.pinned (OpenSpec.upto scalarLawsSpec)

/-- 'cressetlaw10.ScalarSpread', WHERE WHAT IT READS IS OF BULK AT MOST 1048576: true; the input reads as it did. -/
def scalarSpreadUptoRow : OpenClaim := { program := "ytoglkmebhcnbnaa", sum := "ac58a222ab7ec84d317a6b676aaba253d1738416c9f72b8e4c66c5e32a79fe19", func := "cresset/cressetlaw10.ScalarSpread", spec := "scalarSpread", inPlace := ["math/bits.Add64", "math/bits.Sub64"], apart := false, narrowed := true }
def ScalarSpreadUptoSaid : Prop := scalarSpreadUptoRow.holds Try.pinned (OpenSpec.upto scalarSpreadSpec)

/-- 'cressetlaw10.ScalarSmall', WHERE WHAT IT READS IS OF BULK AT MOST 1048576: true; the input reads as it did. -/
def scalarSmallUptoRow : OpenClaim := { program := "ytoglkmebhcnbnaa", sum := "ac58a222ab7ec84d317a6b676aaba253d1738416c9f72b8e4c66c5e32a79fe19", func := "cresset/cressetlaw10.ScalarSmall", spec := "scalarSmall", inPlace := ["math/bits.Add64", "math/bits.Sub64"], apart := false, narrowed := true }
def ScalarSmallUptoSaid : Prop := scalarSmallUptoRow.holds Try.pinned (OpenSpec.upto scalarSmallSpec)

end Rows
end Go.Proofs.Ytoglkmebhcnbnaa
