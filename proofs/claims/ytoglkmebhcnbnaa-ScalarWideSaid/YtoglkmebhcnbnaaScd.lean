/- The walk of the packages scalar and cressetref10: products. -/
import Derived.Test.YtoglkmebhcnbnaaScc
noncomputable section
namespace Go.Proofs.Ytoglkmebhcnbnaa
open Go Go.RowKit RX
def hiP (x y : Int) : Int :=
  IntKind.u64.wrap (IntKind.u64.wrap (IntKind.u64.wrap (shrI .u64 x 32 * shrI .u64 y 32) + shrI .u64 (IntKind.u64.wrap (IntKind.u64.wrap (shrI .u64 x 32 * andI .u64 y 4294967295) + shrI .u64 (IntKind.u64.wrap (andI .u64 x 4294967295 * andI .u64 y 4294967295)) 32)) 32)
    + shrI .u64 (IntKind.u64.wrap (andI .u64 (IntKind.u64.wrap (IntKind.u64.wrap (shrI .u64 x 32 * andI .u64 y 4294967295) + shrI .u64 (IntKind.u64.wrap (andI .u64 x 4294967295 * andI .u64 y 4294967295)) 32)) 4294967295 + IntKind.u64.wrap (andI .u64 x 4294967295 * shrI .u64 y 32))) 32)
def loP (x y : Int) : Int := IntKind.u64.wrap (x * y)
def ctMul64 : Ct := shCt 29 [.num .u64, .num .u64] fun ds => ([], .tup [.one (.int .u64 (hiP (dI ds 0) (dI ds 1))), .one (.int .u64 (loP (dI ds 0) (dI ds 1)))])
theorem ctMul64_ok : CtOk Try.prog ctMul64 :=
  oneCt_ok (cts := []) (fz := []) (fuel := 40) mix (by simp) Try.func29 (by kernel_rfl) (by kernel_rfl) (fun _ => rfl) fun ds h _ => match ds, h with
    | [.I _, .I _], h => ⟨_, viewArgs_is h, [], by kernel_rfl, by simp⟩
/-- One digit times one digit, onto what is there, with what is carried over. -/
def colP (x : Int) (b : List Int) (i : Nat) (s : List Int × Int) (k : Nat) : List Int × Int :=
  (s.1.set (i + k) (addS (s.1.getD (i + k) 0) (addS (loP x (b.getD k 0)) s.2 0) 0),
   IntKind.u64.wrap (IntKind.u64.wrap (hiP x (b.getD k 0) + addC (loP x (b.getD k 0)) s.2 0) + addC (s.1.getD (i + k) 0) (addS (loP x (b.getD k 0)) s.2 0) 0))
def tailP (s : List Int × Int) (k : Nat) : List Int × Int := (s.1.set k (addS (s.1.getD k 0) s.2 0), addC (s.1.getD k 0) s.2 0)
def rowP (a b : List Int) (out : List Int) (i : Nat) : List Int :=
  ((List.range' (i + 4) (4 - i)).foldl tailP ((List.range 4).foldl (colP (a.getD i 0) b i) (out, 0))).1
def mulP (a b c : List Int) : List Int := (List.range 4).foldl (rowP a b) (c ++ [0, 0, 0, 0])
def ctMulAddP : Ct := shCt 14 [.strn 32, .strn 32, .strn 32] fun ds =>
  ([], .tup [.one (.str (bytesN 32 (bytesP (restP (mulP (partsP (dS ds 0) 4) (partsP (dS ds 1) 4) (partsP (dS ds 2) 4)) 8)))), .one (.int .i64 0)])
set_option maxRecDepth 1000000 in
theorem ctMulAddP_ok : CtOk Try.prog ctMulAddP :=
  oneCt_ok (cts := [ctMul64, ctAdd64, ctParts, ctRestP, ctBytesP]) (fz := []) (fuel := 40) mix (allOk ⟨ctMul64_ok, ctAdd64_ok, ctParts_ok, ctRestP_ok, ctBytesP_ok, trivial⟩) Try.func14 (by kernel_rfl) (by kernel_rfl) (fun _ => rfl) fun ds h _ => match ds, h with
    | [.S _, .S _, .S _], h => ⟨_, viewArgs_is h, [], by kernel_rfl, by simp⟩
end Go.Proofs.Ytoglkmebhcnbnaa
