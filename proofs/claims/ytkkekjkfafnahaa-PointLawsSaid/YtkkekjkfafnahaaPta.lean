/- The walk of the package point: sums, the point the other way round, bytes. -/
import Derived.Test.YtkkekjkfafnahaaLda
noncomputable section
namespace Go.Proofs.Ytkkekjkfafnahaa.Fd
open Go Go.RowKit RX
set_option linter.unusedSimpArgs false
def one5 : List Int := small5 1
def factorF0 : List Int := mulF (small5 (-121665)) (toLen 5 (invF (small5 121666)))
def factorP : List Int := toLen 5 factorF0
def ctOneP : Ct := shCt 79 [] fun _ => ([], numsT .u64 5 (smallF 1))
set_option maxRecDepth 1000000 in
theorem ctOneP_ok : CtOk Try.prog ctOneP :=
  oneCt_ok (cts := [ctSmallF]) (fz := []) (fuel := 10) mix (allOk ⟨ctSmallF_ok, trivial⟩) Try.func79 (by kernel_rfl) (by kernel_rfl) (fun _ => rfl) fun ds h _ => match ds, h with
    | [], h => ⟨_, viewArgs_is h, [], by kernel_rfl, by simp⟩
def ctFactorP : Ct := shCt 80 [] fun _ => ([], numsT .u64 5 factorF0)
set_option maxRecDepth 1000000 in
theorem ctFactorP_ok : CtOk Try.prog ctFactorP :=
  oneCt_ok (cts := [ctSmallF, ctInvF, ctMulF]) (fz := []) (fuel := 10) mix (allOk ⟨ctSmallF_ok, ctInvF_ok, ctMulF_ok, trivial⟩) Try.func80 (by kernel_rfl) (by kernel_rfl) (fun _ => rfl) fun ds h _ => match ds, h with
    | [], h => ⟨_, viewArgs_is h, [], by kernel_rfl, by simp⟩
def yP (L : List Int) : List Int := A5 (part L 1) one5
def zP (L : List Int) : List Int := A5 (part L 2) one5
def ctFullP : Ct := shCt 84 [.nums .u64 20] fun ds => ([], .tup [.agg (cellsL .u64 5 (part (dL ds 0) 0)), .agg (cellsL .u64 5 (addF (part (dL ds 0) 1) one5)), .agg (cellsL .u64 5 (addF (part (dL ds 0) 2) one5)), .agg (cellsL .u64 5 (part (dL ds 0) 3))])
set_option maxRecDepth 1000000 in
theorem ctFullP_ok : CtOk Try.prog ctFullP :=
  oneCt_ok (cts := [ctOneP, ctAddF]) (fz := []) (fuel := 10) mix (allOk ⟨ctOneP_ok, ctAddF_ok, trivial⟩) Try.func84 (by kernel_rfl) (by kernel_rfl) (fun _ => by simp [TV.free, SV.free, cellsL_free]) fun ds h _ => match ds, h with
    | [.L _], h => ⟨_, viewArgs_is h, [], by kernel_rfl, by simp⟩
def madeP (x y z t : List Int) : List Int := cat4 x (S5 (toLen 5 y) one5) (S5 (toLen 5 z) one5) t
def ctMadeP : Ct := shCt 81 [.nums .u64 5, .nums .u64 5, .nums .u64 5, .nums .u64 5] fun ds => ([], numsT .u64 20 (madeP (dL ds 0) (dL ds 1) (dL ds 2) (dL ds 3)))
set_option maxRecDepth 1000000 in
theorem ctMadeP_ok : CtOk Try.prog ctMadeP :=
  oneCt_ok (cts := [ctOneP, ctSubF]) (fz := []) (fuel := 10) mix (allOk ⟨ctOneP_ok, ctSubF_ok, trivial⟩) Try.func81 (by kernel_rfl) (by kernel_rfl) (fun _ => rfl) fun ds h _ => match ds, h with
    | [.L _, .L _, .L _, .L _], h => ⟨_, viewArgs_is h, [], by kernel_rfl, by simp⟩
def zero20 : List Int := List.replicate 20 0
def ctZeroP : Ct := shCt 56 [] fun _ => ([], numsT .u64 20 zero20)
set_option maxRecDepth 1000000 in
theorem ctZeroP_ok : CtOk Try.prog ctZeroP :=
  oneCt_ok (cts := []) (fz := []) (fuel := 10) mix (by simp) Try.func56 (by kernel_rfl) (by kernel_rfl) (fun _ => rfl) fun ds h _ => match ds, h with
    | [], h => ⟨_, viewArgs_is h, [], by kernel_rfl, by simp⟩
section
variable (L M k : List Int)
def aP : List Int := M5 (S5 (yP L) (part L 0)) (S5 (yP M) (part M 0))
def bP : List Int := M5 (A5 (yP L) (part L 0)) (A5 (yP M) (part M 0))
def cP : List Int := M5 (M5 (part L 3) k) (part M 3)
def dP : List Int := M5 (A5 (zP L) (zP L)) (zP M)
def eP : List Int := S5 (bP L M) (aP L M)
def fP : List Int := S5 (dP L M) (cP L M k)
def gP : List Int := A5 (dP L M) (cP L M k)
def hP : List Int := A5 (bP L M) (aP L M)
def addP : List Int := madeP (M5 (eP L M) (fP L M k)) (M5 (gP L M k) (hP L M)) (M5 (fP L M k) (gP L M k)) (M5 (eP L M) (hP L M))
end
def ctAddKP : Ct := shCt 85 [.nums .u64 20, .nums .u64 20, .nums .u64 5] fun ds => ([], numsT .u64 20 (addP (dL ds 0) (dL ds 1) (dL ds 2)))
set_option maxRecDepth 1000000 in
theorem ctAddKP_ok : CtOk Try.prog ctAddKP :=
  oneCt_ok (cts := [ctFullP, ctMadeP, ctAddF, ctSubF, ctMulF]) (fz := []) (fuel := 10) mix (allOk ⟨ctFullP_ok, ctMadeP_ok, ctAddF_ok, ctSubF_ok, ctMulF_ok, trivial⟩) Try.func85 (by kernel_rfl) (by kernel_rfl) (fun _ => rfl) fun ds h _ => match ds, h with
    | [.L _, .L _, .L _], h => ⟨_, viewArgs_is h, [], by kernel_rfl, by simp⟩
def kP : List Int := M5 factorP (small5 2)
def ctAddP : Ct := shCt 54 [.nums .u64 20, .nums .u64 20] fun ds => ([], numsT .u64 20 (addP (dL ds 0) (dL ds 1) kP))
set_option maxRecDepth 1000000 in
theorem ctAddP_ok : CtOk Try.prog ctAddP :=
  oneCt_ok (cts := [ctAddKP, ctFactorP, ctSmallF, ctMulF]) (fz := []) (fuel := 10) mix (allOk ⟨ctAddKP_ok, ctFactorP_ok, ctSmallF_ok, ctMulF_ok, trivial⟩) Try.func54 (by kernel_rfl) (by kernel_rfl) (fun _ => rfl) fun ds h _ => match ds, h with
    | [.L _, .L _], h => ⟨_, viewArgs_is h, [], by kernel_rfl, by simp⟩
def negP (L : List Int) : List Int := cat4 (subF zeroF (part L 0)) (part L 1) (part L 2) (subF zeroF (part L 3))
def ctNegP : Ct := shCt 51 [.nums .u64 20] fun ds => ([], numsT .u64 20 (negP (dL ds 0)))
set_option maxRecDepth 1000000 in
theorem ctNegP_ok : CtOk Try.prog ctNegP :=
  oneCt_ok (cts := [ctSubF]) (fz := []) (fuel := 10) mix (allOk ⟨ctSubF_ok, trivial⟩) Try.func51 (by kernel_rfl) (by kernel_rfl) (fun _ => rfl) fun ds h _ => match ds, h with
    | [.L _], h => ⟨_, viewArgs_is h, [], by kernel_rfl, by simp⟩
/-- The bytes of y, and on top of them whether x is odd. -/
def topped (Y X : ByteArray) : List Int := (List.range 32).map fun i => match i with
  | 31 => orI .u8 (sbyte Y 31) (shlI .u8 (andI .u8 (sbyte X 0) 1) 7)
  | i => sbyte Y i
def BF5 (L : List Int) : ByteArray := bytesN 32 (bytesF (toLen 5 L))
def bytesP (L : List Int) : List Int := topped (BF5 (M5 (yP L) (toLen 5 (invF (zP L))))) (BF5 (M5 (part L 0) (toLen 5 (invF (zP L)))))
def ctBytesP : Ct := shCt 49 [.nums .u64 20] fun ds => ([], strn1 32 (bytesP (dL ds 0)))
set_option maxRecDepth 1000000 in
theorem ctBytesP_ok : CtOk Try.prog ctBytesP :=
  oneCt_ok (cts := [ctFullP, ctInvF, ctMulF, ctBytesF]) (fz := []) (fuel := 10) mix (allOk ⟨ctFullP_ok, ctInvF_ok, ctMulF_ok, ctBytesF_ok, trivial⟩) Try.func49 (by kernel_rfl) (by kernel_rfl) (fun _ => rfl) fun ds h _ => match ds, h with
    | [.L _], h => ⟨_, viewArgs_is h, [], by kernel_rfl, by simp⟩
end Go.Proofs.Ytkkekjkfafnahaa.Fd
