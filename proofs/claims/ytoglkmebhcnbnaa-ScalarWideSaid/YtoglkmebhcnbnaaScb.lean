/- The walk of the packages scalar and cressetref10, further: the loops of many rounds. -/
import Derived.Test.YtoglkmebhcnbnaaSca
noncomputable section
namespace Go.Proofs.Ytoglkmebhcnbnaa
open Go Go.RowKit RX
def restR (v : List Int) (n : Nat) : List Int :=
  (List.range n).reverse.foldl (fun out i => (List.range 16).reverse.foldl (fun out k => toLen 16 (stepR out (andI .i64 (shrI .i64 (v.getD i 0) k) 1))) out) (List.replicate 16 0)
def ctRestR : Ct := shCt 22 [.frz .i64 32] fun ds => ([], frz1 .i64 16 (restR (dL ds 0) 32))
theorem ctRestR_ok : CtOk Try.prog ctRestR :=
  oneCt_ok (cts := [ctStepR]) (fz := [8, 9]) (fuel := 40) mix (allOk ⟨ctStepR_ok, trivial⟩) Try.func22 (by kernel_rfl) (by kernel_rfl) (fun _ => rfl) fun ds h _ => match ds, h with
    | [.L _], h => ⟨_, viewArgs_is h, [], by kernel_rfl, by simp⟩
end Go.Proofs.Ytoglkmebhcnbnaa
