/- The walk of the package field: roots. -/
import Derived.Test.YtkkekjkfafnahaaFdb
noncomputable section
namespace Go.Proofs.Ytkkekjkfafnahaa.Fd
open Go Go.RowKit RX
def small5 (n : Int) : List Int := toLen 5 (smallF n)
/-- The first guess; the guess times a root of -1, if it must be; the even one of the two. -/
def guessF (a : List Int) : List Int := mul5 (mul5 (sq5 (toLen 5 (onesF a)) 2) a) a
def iF : List Int := mul5 (sq5 (toLen 5 (onesF (small5 2))) 3) (small5 8)
def firstF (a : List Int) : List Int := (List.range 5).map fun i => bif !(mul5 (guessF a) (guessF a) == a) then (mulF (guessF a) iF).getD i 0 else (guessF a).getD i 0
/-- The number itself: two ways have met again. -/
def againF (a : List Int) : List Int := (List.range 5).map fun i => bif !(mul5 (guessF a) (guessF a) == a) then a.getD i 0 else a.getD i 0
def hasF (a : List Int) : Bool := bif !(mul5 (firstF a) (firstF a) == againF a) then false else true
def evenF (a : List Int) : List Int := (List.range 5).map fun i => bif andI .u64 ((firstF a).getD 0 0) 1 == 1 then (subF zeroF (firstF a)).getD i 0 else (firstF a).getD i 0
def rootF (a : List Int) : List Int := (List.range 5).map fun i => bif !(mul5 (firstF a) (firstF a) == againF a) then 0 else (evenF a).getD i 0
def ctRootF : Ct := shCt 40 [.nums .u64 5] fun ds => ([], .tup [.agg (cellsL .u64 5 (rootF (toLen 5 (dL ds 0)))), .one (.bool (hasF (toLen 5 (dL ds 0))))])
theorem tupb_free (L : List Int) (b : Bool) : (TV.tup [.agg (cellsL .u64 5 L), .one (.bool b)]).free = true := by simp [TV.free, SV.free, RC.free, cellsL_free]
set_option maxRecDepth 1000000 in
theorem ctRootF_ok : CtOk Try.prog ctRootF :=
  oneCt_ok (cts := [ctOnes, ctSquared, ctMulF, ctSmallF, ctSubF]) (fz := []) (fuel := 10) mix (allOk ⟨ctOnes_ok, ctSquared_ok, ctMulF_ok, ctSmallF_ok, ctSubF_ok, trivial⟩) Try.func40 (by kernel_rfl) (by kernel_rfl) (fun _ => tupb_free _ _) fun ds h _ => match ds, h with
    | [.L _], h => ⟨_, viewArgs_is h, [], by kernel_rfl, by simp⟩
end Go.Proofs.Ytkkekjkfafnahaa.Fd
