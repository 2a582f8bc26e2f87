/- The walk of the package scalar: what its functions compute, number by number as the code does. -/
import Derived.Test.YtoglkmebhcnbnaaSca
noncomputable section
namespace Go.Proofs.Ytoglkmebhcnbnaa
open Go Go.RowKit RX
def ctSub64 : Ct := ⟨33, .comp sub64G⟩
theorem ctSub64_ok : CtOk Try.prog ctSub64 := sub64_ok Try.func33 (by kernel_rfl) (by kernel_rfl) (by kernel_rfl) (by kernel_rfl)
def ctAdd64 : Ct := ⟨30, .comp add64G⟩
theorem ctAdd64_ok : CtOk Try.prog ctAdd64 := add64_ok Try.func30 (by kernel_rfl) (by kernel_rfl) (by kernel_rfl) (by kernel_rfl)
def orderP : List Int := [6346243789798364141, 1503914060200516822, 0, 1152921504606846976]
def ctOrderP : Ct := shCt 26 [] fun _ => ([], numsT .u64 4 orderP)
theorem ctOrderP_ok : CtOk Try.prog ctOrderP :=
  oneCt_ok (cts := []) (fz := []) (fuel := 40) mix (by simp) Try.func26 (by kernel_rfl) (by kernel_rfl) (fun _ => rfl) fun ds h _ => match ds, h with
    | [], h => ⟨_, viewArgs_is h, [], by kernel_rfl, by simp⟩
/-- What is missing below digit i. -/
def missP (a b : List Int) : Nat → Int
  | 0 => 0
  | n + 1 => subB (a.getD n 0) (b.getD n 0) (missP a b n)
def lessP (a b : List Int) : List Int := (List.range 4).map fun i => subD (a.getD i 0) (b.getD i 0) (missP a b i)
theorem missP_le (a b : List Int) : ∀ n, (missP a b n).toNat ≤ 1
  | 0 => Nat.zero_le _
  | _ + 1 => subB_le _ _ _
def ctLessP : Ct := shCt 25 [.nums .u64 4, .nums .u64 4] fun ds => ([], .tup [.agg (cellsL .u64 4 (lessP (dL ds 0) (dL ds 1))), .one (.bit .u64 (missP (dL ds 0) (dL ds 1) 4) (missP_le _ _ _))])
theorem ctLessP_ok : CtOk Try.prog ctLessP :=
  oneCt_ok (cts := [ctSub64]) (fz := []) (fuel := 40) mix (allOk ⟨ctSub64_ok, trivial⟩) Try.func25 (by kernel_rfl) (by kernel_rfl) (fun _ => rfl) fun ds h _ => match ds, h with
    | [.L _, .L _], h => ⟨_, viewArgs_is h, [], by kernel_rfl, by simp⟩
def twiceP (a : List Int) (bit : Int) : List Int := (List.range 4).map fun i => match i with
  | 0 => orI .u64 (shlI .u64 (a.getD 0 0) 1) bit
  | j + 1 => orI .u64 (shlI .u64 (a.getD (j + 1) 0) 1) (shrI .u64 (a.getD j 0) 63)
def stepP (a : List Int) (bit : Int) : List Int := (List.range 4).map fun i =>
  bif missP (twiceP a bit) orderP 4 == 0 then (lessP (twiceP a bit) orderP).getD i 0 else (twiceP a bit).getD i 0
def ctStepP : Ct := shCt 31 [.nums .u64 4, .num .u64] fun ds => ([], numsT .u64 4 (stepP (dL ds 0) (dI ds 1)))
theorem ctStepP_ok : CtOk Try.prog ctStepP :=
  oneCt_ok (cts := [ctLessP, ctOrderP]) (fz := []) (fuel := 40) mix (allOk ⟨ctLessP_ok, ctOrderP_ok, trivial⟩) Try.func31 (by kernel_rfl) (by kernel_rfl) (fun _ => rfl) fun ds h _ => match ds, h with
    | [.L _, .I _], h => ⟨_, viewArgs_is h, [], by kernel_rfl, by simp⟩
def restP (v : List Int) (n : Nat) : List Int :=
  (List.range n).reverse.foldl (fun out i => (List.range 64).reverse.foldl (fun out k => toLen 4 (stepP out (andI .u64 (shrI .u64 (v.getD i 0) k) 1))) out) [0, 0, 0, 0]
def ctRestP : Ct := viewCt 18 [.frz .u64 8] fun ds => numsT .u64 4 (restP (dL ds 0) 8)
set_option maxRecDepth 1000000 in
theorem ctRestP_ok : CtOk Try.prog ctRestP :=
  viewCt_ok (cts := [ctStepP]) (fz := []) (fuel := 70) mix (allOk ⟨ctStepP_ok, trivial⟩) Try.func18 (by kernel_rfl) (by kernel_rfl) (fun _ => rfl) (fun _ => rfl) fun ds h => match ds, h with
    | [.L _], h => ⟨_, viewArgs_is h, [], by kernel_rfl, by simp⟩
def partP (s : ByteArray) (j : Nat) : Nat → Int
  | 0 => 0
  | m + 1 => orI .u64 (partP s j m) (shlI .u64 (IntKind.u64.wrap (sbyte s (8 * j + m : Nat))) (8 * m))
def partsP (s : ByteArray) (n : Nat) : List Int := (List.range n).map fun j => partP s j 8
def ctPartsP (n m : Nat) : Ct := ownCt 19 [.strn n] .u64 m 32 fun ds => partsP (dS ds 0) m
theorem ctPartsP32_ok : CtOk Try.prog (ctPartsP 32 4) :=
  ownCt_ok (cts := []) (fz := []) (fuel := 70) mix (by simp) Try.func19 (by kernel_rfl) (by kernel_rfl) fun ds h => match ds, h with
    | [.S _], h => ⟨_, viewArgs_is h, by kernel_rfl⟩
theorem ctPartsP64_ok : CtOk Try.prog (ctPartsP 64 8) :=
  ownCt_ok (cts := []) (fz := []) (fuel := 70) mix (by simp) Try.func19 (by kernel_rfl) (by kernel_rfl) fun ds h => match ds, h with
    | [.S _], h => ⟨_, viewArgs_is h, by kernel_rfl⟩
def ctParts : Ct := orCt (ctPartsP 32 4) (ctPartsP 64 8)
theorem ctParts_ok : CtOk Try.prog ctParts := orCt_ok ctPartsP32_ok ctPartsP64_ok rfl
def bytesP (a : List Int) : List Int := (List.range 32).map fun i => IntKind.u8.wrap (shrI .u64 (a.getD (i / 8) 0) (8 * (i % 8)))
def ctBytesP : Ct := shCt 20 [.nums .u64 4] fun ds => ([], strn1 32 (bytesP (dL ds 0)))
theorem ctBytesP_ok : CtOk Try.prog ctBytesP :=
  oneCt_ok (cts := []) (fz := []) (fuel := 40) mix (by simp) Try.func20 (by kernel_rfl) (by kernel_rfl) (fun _ => rfl) fun ds h _ => match ds, h with
    | [.L _], h => ⟨_, viewArgs_is h, [], by kernel_rfl, by simp⟩
end Go.Proofs.Ytoglkmebhcnbnaa
