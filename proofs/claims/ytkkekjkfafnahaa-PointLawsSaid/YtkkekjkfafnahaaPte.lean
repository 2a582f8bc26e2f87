/- The walk of the packages point and cressetref11: the point of 32 bytes. -/
import Derived.Test.YtkkekjkfafnahaaPtm
import Derived.Test.YtkkekjkfafnahaaPtd
import Derived.Test.YtkkekjkfafnahaaLds
noncomputable section
namespace Go.Proofs.Ytkkekjkfafnahaa.Fd
open Go Go.RowKit RX
set_option linter.unusedSimpArgs false
set_option maxRecDepth 1000000
section
variable (s : ByteArray)
def oddP : Bool := shrI .u8 (sbyte s 31) 7 == 1
def yyP : List Int := M5 (uL s) (uL s)
def wP : List Int := M5 (S5 (yyP s) one5) (toLen 5 (invF (A5 (M5 factorP (yyP s)) one5)))
def xP : List Int := toLen 5 (rootF (toLen 5 (wP s)))
def noByP : Bool := !((BF (ofF (maskS s))).toList == (maskS s).toList)
def noRtP : Bool := !(hasF (toLen 5 (wP s)))
def xzP : Bool := xP s == zeroF
def xxP : List Int := (List.range 5).map fun i => bif oddP s then (subF zeroF (xP s)).getD i 0 else (xP s).getD i 0
def ykP : List Int := keepL 5 (oddP s) (uL s)
def ofP : List Int := madeP (xxP s) (ykP s) one5 (M5 (xxP s) (ykP s))
end
def noPt : TT := .leaf (.tup [.agg (cellsL .u64 20 zero20), .one (.int .i64 21)])
def okPt (s : ByteArray) : TT := .leaf (.tup [.agg (cellsL .u64 20 (ofP s)), .one (.int .i64 0)])
theorem ofP_run (s : ByteArray) (hs : s.size = 32) : runC Try.prog [ctOf, ctBytesF, ctOneP, ctFactorP, ctAddF, ctSubF, ctMulF, ctInvF, ctRootF, ctMadeP] [] [] 10 Try.f47 (bodyOf Try.f47) [.one (.strn s 32 hs)] =
    .br (noByP s) noPt (.br (noRtP s) noPt (.br (oddP s) (.br (xzP s) noPt (okPt s)) (okPt s))) := by kernel_rfl
section
variable (s : ByteArray)
def oddQ : Bool := decide (sbyte s 31 ≥ 128)
def yyQ : List Int := mulR (t16 (uR s)) (t16 (uR s))
def wQ : List Int := mulR (t16 (subR (t16 (yyQ s)) (t16 (smallR 1)))) (t16 (invR (t16 (addR (t16 (mulR (t16 factorR) (t16 (yyQ s)))) (t16 (smallR 1))))))
def xQ : List Int := rootR (t16 (wQ s))
def noByQ : Bool := !((BR (uR s)).toList == (maskR s).toList)
def noRtQ : Bool := !(hasR (t16 (wQ s)))
def xzQ : Bool := sameR (t16 (xQ s)) (t16 z16) 16
def xxQ : List Int := bif oddQ s then subR (t16 z16) (t16 (xQ s)) else xQ s
def ykQ : List Int := keepR (oddQ s) (uR s)
def ofQ : R4 := ⟨xxQ s, ykQ s, keepR (oddQ s) (smallR 1), mulR (t16 (xxQ s)) (t16 (ykQ s))⟩
end
def noPq : TT := .leaf (.tup [ptS zeroPR, .one (.int .i64 21)])
def okPq (s : ByteArray) : TT := .leaf (.tup [ptS (ofQ s), .one (.int .i64 0)])
theorem ofQ_run (s : ByteArray) (hs : s.size = 32) : runC Try.prog [ctOfRef, ctBytesR, ctFactorR, ctAddR, ctSubR, ctMulR, ctInvR, ctRootR, ctSameR, ctZeroR, ctSmallR, ctZeroPR] [] [1013007, 1016002] 10 Try.f48 (bodyOf Try.f48) [.one (.strn s 32 hs)] =
    .br (noByQ s) noPq (.br (noRtQ s) noPq (.br (oddQ s) (.br (xzQ s) noPq (okPq s)) (okPq s))) := by kernel_rfl
end Go.Proofs.Ytkkekjkfafnahaa.Fd
