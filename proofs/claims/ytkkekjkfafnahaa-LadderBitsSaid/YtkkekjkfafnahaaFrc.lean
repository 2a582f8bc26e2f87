/- The walk of the package cressetref08: inverses, roots. -/
import Derived.Test.YtkkekjkfafnahaaFrb
noncomputable section
namespace Go.Proofs.Ytkkekjkfafnahaa.Fd
open Go Go.RowKit RX
def expI : List Int := (List.range 16).map fun i => match i with
  | 0 => IntKind.i64.wrap (modR.getD 0 0 - 2)
  | j + 1 => modR.getD (j + 1) 0
def pow16 (a n : List Int) : List Int := powR (toLen 16 a) (toLen 16 n)
def invR (a : List Int) : List Int := pow16 a expI
def ctInvR : Ct := shCt 39 [.frz .i64 16] fun ds => ([], frz1 .i64 16 (invR (dL ds 0)))
set_option maxHeartbeats 4000000 in
set_option maxRecDepth 1000000 in
theorem ctInvR_ok : CtOk Try.prog ctInvR :=
  oneCt_ok (cts := [ctModR, ctPowR]) (fz := [3]) (fuel := 40) mix (allOk ⟨ctModR_ok, ctPowR_ok, trivial⟩) Try.func39 (by kernel_rfl) (by kernel_rfl) (fun _ => rfl) fun ds h _ => match ds, h with
    | [.L _], h => ⟨_, viewArgs_is h, [], by kernel_rfl, by simp⟩
/-- A number's half. -/
def halfR (n : List Int) : List Int := (List.range 16).map fun i => bif Nat.blt i 15 then
    orI .i64 (IntKind.i64.wrap ((n.getD i 0).tdiv 2)) (IntKind.i64.wrap ((n.getD (i + 1) 0).tmod 2 * 32768))
  else IntKind.i64.wrap ((n.getD i 0).tdiv 2)
def shR (n : List Int) : Nat → List Int
  | 0 => n
  | k + 1 => halfR (shR n k)
def ctShR (k : Nat) : Ct := shCt 73 [.frz .i64 16, .con .i64 k] fun ds => ([], frz1 .i64 16 (shR (dL ds 0) k))
set_option maxHeartbeats 4000000 in
set_option maxRecDepth 1000000 in
theorem ctSh2_ok : CtOk Try.prog (ctShR 2) :=
  oneCt_ok (cts := [ctZeroR]) (fz := [11]) (fuel := 40) mix (allOk ⟨ctZeroR_ok, trivial⟩) Try.func73 (by kernel_rfl) (by kernel_rfl) (fun _ => rfl) fun ds h _ => match ds, h with
    | [.L _, .I _], h => ⟨_, viewArgs_is h, [], by kernel_rfl, by simp⟩
set_option maxHeartbeats 4000000 in
set_option maxRecDepth 1000000 in
theorem ctSh3_ok : CtOk Try.prog (ctShR 3) :=
  oneCt_ok (cts := [ctZeroR]) (fz := [11]) (fuel := 40) mix (allOk ⟨ctZeroR_ok, trivial⟩) Try.func73 (by kernel_rfl) (by kernel_rfl) (fun _ => rfl) fun ds h _ => match ds, h with
    | [.L _, .I _], h => ⟨_, viewArgs_is h, [], by kernel_rfl, by simp⟩
theorem sh_f (k : Nat) : (ctShR k).f = 73 := rfl
theorem sh_same : (ctShR 3).f = (ctShR 2).f := (sh_f 3).trans (sh_f 2).symm
def ctShifted : Ct := orCt (ctShR 2) (ctShR 3)
theorem ctShifted_ok : CtOk Try.prog ctShifted := by
  unfold ctShifted
  exact orCt_ok ctSh2_ok ctSh3_ok sh_same
def sameR (a b : List Int) : Nat → Bool
  | 0 => true
  | k + 1 => bif a.getD (15 - k) 0 != b.getD (15 - k) 0 then false else sameR a b k
def ctSameR : Ct := shCt 74 [.frz .i64 16, .frz .i64 16] fun ds => ([], bool1 (sameR (dL ds 0) (dL ds 1) 16))
set_option maxHeartbeats 4000000 in
set_option maxRecDepth 1000000 in
theorem ctSameR_ok : CtOk Try.prog ctSameR :=
  oneCt_ok (cts := []) (fz := []) (fuel := 40) mix (by simp) Try.func74 (by kernel_rfl) (by kernel_rfl) (fun _ => rfl) fun ds h _ => match ds, h with
    | [.L _, .L _], h => ⟨_, viewArgs_is h, [], by kernel_rfl, by simp⟩
def expR : List Int := (List.range 16).map fun i => match i with
  | 0 => IntKind.i64.wrap (modR.getD 0 0 + 3)
  | j + 1 => modR.getD (j + 1) 0
def expM : List Int := (List.range 16).map fun i => match i with
  | 0 => IntKind.i64.wrap (modR.getD 0 0 - 1)
  | j + 1 => modR.getD (j + 1) 0
def sh16 (n : List Int) (k : Nat) : List Int := shR (toLen 16 n) k
def same16 (a b : List Int) : Bool := sameR (toLen 16 a) (toLen 16 b) 16
def guessR (a : List Int) : List Int := pow16 a (sh16 expR 3)
def iR : List Int := pow16 (smallR 2) (sh16 expM 2)
def notR (a : List Int) : Bool := !same16 (mul16 (guessR a) (guessR a)) a
def firstR (a : List Int) : List Int := bif notR a then mul16 (guessR a) iR else guessR a
def againR (a : List Int) : List Int := bif notR a then a else a
def noneR (a : List Int) : Bool := !same16 (mul16 (firstR a) (firstR a)) (againR a)
def evenR (a : List Int) : List Int := bif ((firstR a).getD 0 0).tmod 2 == 1 then subR (toLen 16 zeroR) (toLen 16 (firstR a)) else firstR a
def rootR (a : List Int) : List Int := bif noneR a then toLen 16 zeroR else evenR a
def hasR (a : List Int) : Bool := bif noneR a then false else true
def ctRootR : Ct := shCt 41 [.frz .i64 16] fun ds => ([], .tup [.one (.frz .i64 (rootR (dL ds 0)) 16), .one (.bool (hasR (dL ds 0)))])
set_option maxHeartbeats 4000000 in
set_option maxRecDepth 1000000 in
theorem ctRootR_ok : CtOk Try.prog ctRootR :=
  oneCt_ok (cts := [ctZeroR, ctModR, ctShifted, ctPowR, ctMulR, ctSameR, ctSmallR, ctSubR]) (fz := [3, 7, 1011002]) (fuel := 40) mix (allOk ⟨ctZeroR_ok, ctModR_ok, ctShifted_ok, ctPowR_ok, ctMulR_ok, ctSameR_ok, ctSmallR_ok, ctSubR_ok, trivial⟩) Try.func41 (by kernel_rfl) (by kernel_rfl) (fun _ => rfl) fun ds h _ => match ds, h with
    | [.L _], h => ⟨_, viewArgs_is h, [], by kernel_rfl, by simp⟩
end Go.Proofs.Ytkkekjkfafnahaa.Fd
