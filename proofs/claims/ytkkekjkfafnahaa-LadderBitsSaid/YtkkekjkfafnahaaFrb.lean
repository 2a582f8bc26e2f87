/- The walk of the package cressetref08: powers, roots. -/
import Derived.Test.YtkkekjkfafnahaaFra
noncomputable section
namespace Go.Proofs.Ytkkekjkfafnahaa.Fd
open Go Go.RowKit RX
def mul16 (a b : List Int) : List Int := mulR (toLen 16 a) (toLen 16 b)
/-- One digit's bit of a power: the number, the power, what has been reckoned (two ways meet again behind each test). -/
def powS (s : List Int × List Int × List Int) (i : Nat) : List Int × List Int × List Int :=
  (bif andI .i64 (shrI .i64 (s.2.1.getD (i / 16) 0) (i % 16)) 1 == 1 then s.1 else s.1,
   bif andI .i64 (shrI .i64 (s.2.1.getD (i / 16) 0) (i % 16)) 1 == 1 then s.2.1 else s.2.1,
   bif andI .i64 (shrI .i64 (s.2.1.getD (i / 16) 0) (i % 16)) 1 == 1 then mul16 (mul16 s.2.2 s.2.2) s.1 else mul16 s.2.2 s.2.2)
def powR (a n : List Int) : List Int := ((List.range 256).reverse.foldl powS (a, n, smallR 1)).2.2
def ctPowR : Ct := shCt 72 [.frz .i64 16, .frz .i64 16] fun ds => ([], frz1 .i64 16 (powR (dL ds 0) (dL ds 1)))
set_option maxRecDepth 1000000 in
theorem ctPowR_ok : CtOk Try.prog ctPowR :=
  oneCt_ok (cts := [ctMulR, ctSmallR]) (fz := []) (fuel := 270) mix (allOk ⟨ctMulR_ok, ctSmallR_ok, trivial⟩) Try.func72 (by kernel_rfl) (by kernel_rfl) (fun _ => rfl) fun ds h _ => match ds, h with
    | [.L _, .L _], h => ⟨_, viewArgs_is h, [], by kernel_rfl, by simp⟩
end Go.Proofs.Ytkkekjkfafnahaa.Fd
