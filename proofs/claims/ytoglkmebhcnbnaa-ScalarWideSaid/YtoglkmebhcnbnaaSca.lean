/- The walk of the packages scalar and cressetref10, and what their functions compute, number by number as the code does. -/
import Derived.Test.YtoglkmebhcnbnaaProg
import Derived.Test.YtoglkmebhcnbnaaRxL
noncomputable section
namespace Go.Proofs.Ytoglkmebhcnbnaa
open Go Go.RowKit RX
theorem mix : Try.prog.follows .mixedOrders = true := by kernel_rfl

/-! ### The reference -/
def orderR : List Int := [54253, 23797, 25370, 22546, 40150, 41719, 63966, 5342, 0, 0, 0, 0, 0, 0, 0, 4096]
def ctOrderR : Ct := shCt 28 [] fun _ => ([], frz1 .i64 16 orderR)
theorem ctOrderR_ok : CtOk Try.prog ctOrderR :=
  oneCt_ok (cts := []) (fz := []) (fuel := 40) mix (by simp) Try.func28 (by kernel_rfl) (by kernel_rfl) (fun _ => rfl) fun ds h _ => match ds, h with
    | [], h => ⟨_, viewArgs_is h, [], by kernel_rfl, by simp⟩
def lessR (a b : List Int) : Nat → Bool
  | 0 => false
  | n + 1 => bif a.getD n 0 != b.getD n 0 then decide (a.getD n 0 < b.getD n 0) else lessR a b n
def ctLessR : Ct := viewCt 27 [.frz .i64 16, .frz .i64 16] fun ds => bool1 (lessR (dL ds 0) (dL ds 1) 16)
theorem ctLessR_ok : CtOk Try.prog ctLessR :=
  viewCt_ok (cts := []) (fz := []) (fuel := 40) mix (by simp) Try.func27 (by kernel_rfl) (by kernel_rfl) (fun _ => rfl) (fun _ => rfl) fun ds h => match ds, h with
    | [.L _, .L _], h => ⟨_, viewArgs_is h, [], by kernel_rfl, by simp⟩
/-- Twice a number and a bit: what each digit comes to, with what is carried. -/
def sumR (a : List Int) (bit : Int) : Nat → Int
  | 0 => IntKind.i64.wrap (bit + IntKind.i64.wrap (2 * a.getD 0 0))
  | n + 1 => IntKind.i64.wrap (shrI .i64 (sumR a bit n) 16 + IntKind.i64.wrap (2 * a.getD (n + 1) 0))
def twiceR (a : List Int) (bit : Int) : List Int := (List.range 16).map fun i => andI .i64 (sumR a bit i) 65535
def difR (a : List Int) : Nat → Int
  | 0 => IntKind.i64.wrap (IntKind.i64.wrap (a.getD 0 0 - orderR.getD 0 0) + 0)
  | n + 1 => IntKind.i64.wrap (IntKind.i64.wrap (a.getD (n + 1) 0 - orderR.getD (n + 1) 0) + shrI .i64 (difR a n) 16)
def stepR (a : List Int) (bit : Int) : List Int :=
  (List.range 16).map fun i => bif !lessR (toLen 16 (twiceR a bit)) (toLen 16 orderR) 16 then andI .i64 (difR (twiceR a bit) i) 65535 else (twiceR a bit).getD i 0
def ctStepR : Ct := shCt 32 [.frz .i64 16, .num .i64] fun ds => ([], frz1 .i64 16 (stepR (dL ds 0) (dI ds 1)))
theorem ctStepR_ok : CtOk Try.prog ctStepR :=
  oneCt_ok (cts := [ctOrderR, ctLessR]) (fz := []) (fuel := 40) mix (allOk ⟨ctOrderR_ok, ctLessR_ok, trivial⟩) Try.func32 (by kernel_rfl) (by kernel_rfl) (fun _ => rfl) fun ds h _ => match ds, h with
    | [.L _, .I _], h => ⟨_, viewArgs_is h, [], by kernel_rfl, by simp⟩
def digitsR (s : ByteArray) (n : Nat) : List Int := (List.range n).map fun i =>
  IntKind.i64.wrap (IntKind.i64.wrap (sbyte s (2 * i : Nat)) + IntKind.i64.wrap (256 * IntKind.i64.wrap (sbyte s (2 * i + 1 : Nat))))
def ctDigitsR (n m : Nat) : Ct := shCt 23 [.strn n] fun ds => ([], frz1 .i64 m (digitsR (dS ds 0) m))
def bytesR (a : List Int) : List Int := (List.range 32).map fun i => IntKind.u8.wrap (if i % 2 = 0 then a.getD (i / 2) 0 else shrI .i64 (a.getD (i / 2) 0) 8)
def ctBytesR : Ct := shCt 21 [.frz .i64 16] fun ds => ([], strn1 32 (bytesR (dL ds 0)))
theorem ctBytesR_ok : CtOk Try.prog ctBytesR :=
  oneCt_ok (cts := []) (fz := []) (fuel := 40) mix (by simp) Try.func21 (by kernel_rfl) (by kernel_rfl) (fun _ => rfl) fun ds h _ => match ds, h with
    | [.L _], h => ⟨_, viewArgs_is h, [], by kernel_rfl, by simp⟩
theorem ctDigitsR32_ok : CtOk Try.prog (ctDigitsR 32 16) :=
  oneCt_ok (cts := []) (fz := []) (fuel := 40) mix (by simp) Try.func23 (by kernel_rfl) (by kernel_rfl) (fun _ => rfl) fun ds h _ => match ds, h with
    | [.S _], h => ⟨_, viewArgs_is h, [], by kernel_rfl, by simp⟩
theorem ctDigitsR64_ok : CtOk Try.prog (ctDigitsR 64 32) :=
  oneCt_ok (cts := []) (fz := []) (fuel := 40) mix (by simp) Try.func23 (by kernel_rfl) (by kernel_rfl) (fun _ => rfl) fun ds h _ => match ds, h with
    | [.S _], h => ⟨_, viewArgs_is h, [], by kernel_rfl, by simp⟩
end Go.Proofs.Ytoglkmebhcnbnaa
