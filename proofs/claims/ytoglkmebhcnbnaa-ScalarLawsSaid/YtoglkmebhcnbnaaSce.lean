/- The walk of the package cressetref10: products. -/
import Derived.Test.YtoglkmebhcnbnaaScb
noncomputable section
namespace Go.Proofs.Ytoglkmebhcnbnaa
open Go Go.RowKit RX
/-- Digit j of the product and the sum, when i digits of the first number are done with. -/
def cellR (x y z : List Int) (j : Nat) : Nat → Int
  | 0 => 0
  | i + 1 => bif Nat.ble i j && Nat.blt (j - i) 16 then
      IntKind.i64.wrap ((bif Nat.beq i j then IntKind.i64.wrap (cellR x y z j i + z.getD i 0) else cellR x y z j i) + IntKind.i64.wrap (x.getD i 0 * y.getD (j - i) 0))
    else cellR x y z j i
def carR (x y z : List Int) : Nat → Int
  | 0 => IntKind.i64.wrap (0 + cellR x y z 0 16)
  | n + 1 => IntKind.i64.wrap (shrI .i64 (carR x y z n) 16 + cellR x y z (n + 1) 16)
def mulR (x y z : List Int) : List Int := (List.range 32).map fun i => andI .i64 (carR x y z i) 65535
def ctMulAddR : Ct := shCt 15 [.strn 32, .strn 32, .strn 32] fun ds =>
  ([], .tup [.one (.str (bytesN 32 (bytesR (restR (mulR (digitsR (dS ds 0) 16) (digitsR (dS ds 1) 16) (digitsR (dS ds 2) 16)) 32)))), .one (.int .i64 0)])
set_option maxRecDepth 1000000 in
theorem ctMulAddR_ok : CtOk Try.prog ctMulAddR :=
  oneCt_ok (cts := [ctDigitsR 32 16, ctRestR, ctBytesR]) (fz := [22]) (fuel := 40) mix (allOk ⟨ctDigitsR32_ok, ctRestR_ok, ctBytesR_ok, trivial⟩) Try.func15 (by kernel_rfl) (by kernel_rfl) (fun _ => rfl) fun ds h _ => match ds, h with
    | [.S _, .S _, .S _], h => ⟨_, viewArgs_is h, [], by kernel_rfl, by simp⟩
end Go.Proofs.Ytoglkmebhcnbnaa
