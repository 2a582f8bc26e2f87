/- The walk of the package cressetref08: what its functions compute, digit by digit as the code does. -/
import Derived.Test.YtkkekjkfafnahaaFda
noncomputable section
namespace Go.Proofs.Ytkkekjkfafnahaa.Fd
open Go Go.RowKit RX
def zeroR : List Int := List.replicate 16 0
def ctZeroR : Ct := ownCt 63 [] .i64 16 3 fun _ => zeroR
theorem ctZeroR_ok : CtOk Try.prog ctZeroR :=
  ownCt_ok (cts := []) (fz := []) (fuel := 40) mix (by simp) Try.func63 (by kernel_rfl) (by kernel_rfl) fun ds h => match ds, h with
    | [], h => ⟨_, viewArgs_is h, by kernel_rfl⟩
def modR : List Int := [65517, 65535, 65535, 65535, 65535, 65535, 65535, 65535, 65535, 65535, 65535, 65535, 65535, 65535, 65535, 32767]
def ctModR : Ct := ownCt 64 [] .i64 16 3 fun _ => modR
theorem ctModR_ok : CtOk Try.prog ctModR :=
  ownCt_ok (cts := [ctZeroR]) (fz := []) (fuel := 40) mix (allOk ⟨ctZeroR_ok, trivial⟩) Try.func64 (by kernel_rfl) (by kernel_rfl) fun ds h => match ds, h with
    | [], h => ⟨_, viewArgs_is h, by kernel_rfl⟩
/-- Digit i with what is carried into it. -/
def fC (v : List Int) : Nat → Int
  | 0 => IntKind.i64.wrap (v.getD 0 0 + 0)
  | n + 1 => IntKind.i64.wrap (v.getD (n + 1) 0 + shrI .i64 (fC v n) 16)
def topC (v : List Int) : Int := shrI .i64 (fC v 15) 16
def roundR (v : List Int) : List Int := (List.range 16).map fun i => match i with
  | 0 => IntKind.i64.wrap (andI .i64 (fC v 0) 65535 + IntKind.i64.wrap (38 * topC v))
  | j + 1 => andI .i64 (fC v (j + 1)) 65535
def foldR (v : List Int) : List Int := (List.range 16).map fun i =>
  bif topC v == 0 then (roundR v).getD i 0 else bif topC (roundR v) == 0 then (roundR (roundR v)).getD i 0 else
    bif topC (roundR (roundR v)) == 0 then (roundR (roundR (roundR v))).getD i 0 else (roundR (roundR (roundR v))).getD i 0
def ctFoldR : Ct := mutCt 67 .i64 16 3 foldR
set_option maxRecDepth 1000000 in
theorem ctFoldR_ok : CtOk Try.prog ctFoldR :=
  mutCt_ok (cts := []) (fuel := 40) mix (by simp) Try.func67 (by kernel_rfl) (by kernel_rfl) fun xs _ => ⟨[], by kernel_rfl, by simp⟩
/-- Digit i of a number and 19, with what is carried into it. -/
def bC (u : List Int) : Nat → Int
  | 0 => IntKind.i64.wrap (19 + u.getD 0 0)
  | n + 1 => IntKind.i64.wrap (shrI .i64 (bC u n) 16 + u.getD (n + 1) 0)
def nextB (u : List Int) : List Int := (List.range 16).map fun i => bif i == 15 then
    IntKind.i64.wrap (IntKind.i64.wrap (andI .i64 (bC u 15) 65535 - 32768) + IntKind.i64.wrap (65536 * shrI .i64 (bC u 15) 16))
  else andI .i64 (bC u i) 65535
def lastB (u : List Int) : List Int := bif decide (andI .i64 (bC u 15) 65535 ≥ 32768) then nextB u else bif decide (shrI .i64 (bC u 15) 16 > 0) then nextB u else u
def belowR (u : List Int) : List Int := bif decide (u.getD 15 0 < 32767) then u else
  bif decide (andI .i64 (bC u 15) 65535 ≥ 32768) then lastB (nextB u) else bif decide (shrI .i64 (bC u 15) 16 > 0) then lastB (nextB u) else lastB u
def ctBelowR : Ct := shCt 65 [.frz .i64 16] fun ds => ([], frz1 .i64 16 (belowR (dL ds 0)))
set_option maxRecDepth 1000000 in
theorem ctBelowR_ok : CtOk Try.prog ctBelowR :=
  oneCt_ok (cts := []) (fz := [500015]) (fuel := 40) mix (by simp) Try.func65 (by kernel_rfl) (by kernel_rfl) (fun _ => rfl) fun ds h _ => match ds, h with
    | [.L _], h => ⟨_, viewArgs_is h, [], by kernel_rfl, by simp⟩
def digitsR (s : ByteArray) (n : Nat) : List Int := (List.range n).map fun i =>
  IntKind.i64.wrap (IntKind.i64.wrap (sbyte s (2 * i : Nat)) + IntKind.i64.wrap (256 * IntKind.i64.wrap (sbyte s (2 * i + 1 : Nat))))
def ofR (s : ByteArray) : List Int := belowR (digitsR s 16)
def okR (L : List Int) : TV := .tup [.one (.frz .i64 L 16), .one (.lit .i64 0)]
def ctOfR : Ct := shCt 31 [.strn 32] fun ds => ([], okR (ofR (dS ds 0)))
theorem ctOfR_ok : CtOk Try.prog ctOfR :=
  oneCt_ok (cts := [ctBelowR]) (fz := [8]) (fuel := 40) mix (allOk ⟨ctBelowR_ok, trivial⟩) Try.func31 (by kernel_rfl) (by kernel_rfl) (fun _ => rfl) fun ds h _ => match ds, h with
    | [.S _], h => ⟨_, viewArgs_is h, [], by kernel_rfl, by simp⟩
def mR (n : Int) : Nat → Int
  | 0 => n
  | i + 1 => shrI .i64 (mR n i) 16
def xR (n : Int) : Nat → Int
  | 0 => IntKind.i64.wrap (IntKind.i64.wrap (modR.getD 0 0 + andI .i64 (mR n 0) 65535) + 0)
  | i + 1 => IntKind.i64.wrap (IntKind.i64.wrap (modR.getD (i + 1) 0 + bif Nat.blt i 3 then andI .i64 (mR n (i + 1)) 65535 else 65535) + shrI .i64 (xR n i) 16)
def smallR (n : Int) : List Int := bif decide (n < 0) then belowR ((List.range 16).map fun i => andI .i64 (xR n i) 65535)
  else (List.range 16).map fun i => bif Nat.blt i 4 then andI .i64 (shrI .i64 n (16 * i)) 65535 else 0
def ctSmallR : Ct := shCt 28 [.num .i64] fun ds => ([], frz1 .i64 16 (smallR (dI ds 0)))
set_option maxRecDepth 1000000 in
theorem ctSmallR_ok : CtOk Try.prog ctSmallR :=
  oneCt_ok (cts := [ctZeroR, ctModR, ctBelowR]) (fz := [16]) (fuel := 40) mix (allOk ⟨ctZeroR_ok, ctModR_ok, ctBelowR_ok, trivial⟩) Try.func28 (by kernel_rfl) (by kernel_rfl) (fun _ => rfl) fun ds h _ => match ds, h with
    | [.I _], h => ⟨_, viewArgs_is h, [], by kernel_rfl, by simp⟩
def bytesR (a : List Int) : List Int := (List.range 32).map fun i => IntKind.u8.wrap (bif i % 2 == 0 then a.getD (i / 2) 0 else shrI .i64 (a.getD (i / 2) 0) 8)
def ctBytesR : Ct := shCt 27 [.frz .i64 16] fun ds => ([], strn1 32 (bytesR (dL ds 0)))
theorem ctBytesR_ok : CtOk Try.prog ctBytesR :=
  oneCt_ok (cts := []) (fz := []) (fuel := 40) mix (by simp) Try.func27 (by kernel_rfl) (by kernel_rfl) (fun _ => rfl) fun ds h _ => match ds, h with
    | [.L _], h => ⟨_, viewArgs_is h, [], by kernel_rfl, by simp⟩
def addR (a b : List Int) : List Int := belowR (toLen 16 (foldR ((List.range 16).map fun i => IntKind.i64.wrap (a.getD i 0 + b.getD i 0))))
def ctAddR : Ct := shCt 33 [.frz .i64 16, .frz .i64 16] fun ds => ([], frz1 .i64 16 (addR (dL ds 0) (dL ds 1)))
theorem ctAddR_ok : CtOk Try.prog ctAddR :=
  oneCt_ok (cts := [ctZeroR, ctFoldR, ctBelowR]) (fz := [1006002]) (fuel := 40) mix (allOk ⟨ctZeroR_ok, ctFoldR_ok, ctBelowR_ok, trivial⟩) Try.func33 (by kernel_rfl) (by kernel_rfl) (fun _ => rfl) fun ds h _ => match ds, h with
    | [.L _, .L _], h => ⟨_, viewArgs_is h, [], by kernel_rfl, by simp⟩
def subR (a b : List Int) : List Int := belowR (toLen 16 (foldR ((List.range 16).map fun i => IntKind.i64.wrap (IntKind.i64.wrap (a.getD i 0 + IntKind.i64.wrap (2 * modR.getD i 0)) - b.getD i 0))))
def ctSubR : Ct := shCt 35 [.frz .i64 16, .frz .i64 16] fun ds => ([], frz1 .i64 16 (subR (dL ds 0) (dL ds 1)))
theorem ctSubR_ok : CtOk Try.prog ctSubR :=
  oneCt_ok (cts := [ctZeroR, ctModR, ctFoldR, ctBelowR]) (fz := [1007002]) (fuel := 40) mix (allOk ⟨ctZeroR_ok, ctModR_ok, ctFoldR_ok, ctBelowR_ok, trivial⟩) Try.func35 (by kernel_rfl) (by kernel_rfl) (fun _ => rfl) fun ds h _ => match ds, h with
    | [.L _, .L _], h => ⟨_, viewArgs_is h, [], by kernel_rfl, by simp⟩
/-- Column j of a product, when i digits of the first number are done with. -/
def colR (a b : List Int) (j : Nat) : Nat → Int
  | 0 => 0
  | i + 1 => IntKind.i64.wrap (colR a b j i + bif Nat.ble i j then IntKind.i64.wrap (a.getD i 0 * b.getD (j - i) 0) else IntKind.i64.wrap (IntKind.i64.wrap (38 * a.getD i 0) * b.getD (j + 16 - i) 0))
def mulR (a b : List Int) : List Int := belowR (toLen 16 (foldR ((List.range 16).map fun j => colR a b j 16)))
def ctMulR : Ct := shCt 37 [.frz .i64 16, .frz .i64 16] fun ds => ([], frz1 .i64 16 (mulR (dL ds 0) (dL ds 1)))
set_option maxRecDepth 1000000 in
theorem ctMulR_ok : CtOk Try.prog ctMulR :=
  oneCt_ok (cts := [ctZeroR, ctFoldR, ctBelowR]) (fz := [1011002]) (fuel := 40) mix (allOk ⟨ctZeroR_ok, ctFoldR_ok, ctBelowR_ok, trivial⟩) Try.func37 (by kernel_rfl) (by kernel_rfl) (fun _ => rfl) fun ds h _ => match ds, h with
    | [.L _, .L _], h => ⟨_, viewArgs_is h, [], by kernel_rfl, by simp⟩
end Go.Proofs.Ytkkekjkfafnahaa.Fd
