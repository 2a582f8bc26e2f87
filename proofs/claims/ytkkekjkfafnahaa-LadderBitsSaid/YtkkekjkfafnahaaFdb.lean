/- The walk of the package field: products, powers, roots. -/
import Derived.Test.YtkkekjkfafnahaaFda
noncomputable section
namespace Go.Proofs.Ytkkekjkfafnahaa.Fd
open Go Go.RowKit RX
def ctAdd64 : Ct := ⟨69, .comp add64G⟩
theorem ctAdd64_ok : CtOk Try.prog ctAdd64 := add64_ok Try.func69 (by kernel_rfl) (by kernel_rfl) (by kernel_rfl) (by kernel_rfl)
def hiP (x y : Int) : Int :=
  IntKind.u64.wrap (IntKind.u64.wrap (IntKind.u64.wrap (shrI .u64 x 32 * shrI .u64 y 32) + shrI .u64 (IntKind.u64.wrap (IntKind.u64.wrap (shrI .u64 x 32 * andI .u64 y 4294967295) + shrI .u64 (IntKind.u64.wrap (andI .u64 x 4294967295 * andI .u64 y 4294967295)) 32)) 32)
    + shrI .u64 (IntKind.u64.wrap (andI .u64 (IntKind.u64.wrap (IntKind.u64.wrap (shrI .u64 x 32 * andI .u64 y 4294967295) + shrI .u64 (IntKind.u64.wrap (andI .u64 x 4294967295 * andI .u64 y 4294967295)) 32)) 4294967295 + IntKind.u64.wrap (andI .u64 x 4294967295 * shrI .u64 y 32))) 32)
def loP (x y : Int) : Int := IntKind.u64.wrap (x * y)
def ctMul64 : Ct := shCt 89 [.num .u64, .num .u64] fun ds => ([], .tup [.one (.int .u64 (hiP (dI ds 0) (dI ds 1))), .one (.int .u64 (loP (dI ds 0) (dI ds 1)))])
theorem ctMul64_ok : CtOk Try.prog ctMul64 :=
  oneCt_ok (cts := []) (fz := []) (fuel := 40) mix (by simp) Try.func89 (by kernel_rfl) (by kernel_rfl) (fun _ => rfl) fun ds h _ => match ds, h with
    | [.I _, .I _], h => ⟨_, viewArgs_is h, [], by kernel_rfl, by simp⟩
def plusF (x : List Int) (a b : Int) : List Int :=
  [IntKind.u64.wrap (x.getD 0 0 + IntKind.u64.wrap (hiP a b + addC (x.getD 1 0) (loP a b) 0)), addS (x.getD 1 0) (loP a b) 0]
def ctPlus : Ct := shCt 68 [.nums .u64 2, .num .u64, .num .u64] fun ds => ([], numsT .u64 2 (plusF (dL ds 0) (dI ds 1) (dI ds 2)))
theorem ctPlus_ok : CtOk Try.prog ctPlus :=
  oneCt_ok (cts := [ctMul64, ctAdd64]) (fz := []) (fuel := 40) mix (allOk ⟨ctMul64_ok, ctAdd64_ok, trivial⟩) Try.func68 (by kernel_rfl) (by kernel_rfl) (fun _ => rfl) fun ds h _ => match ds, h with
    | [.L _, .I _, .I _], h => ⟨_, viewArgs_is h, [], by kernel_rfl, by simp⟩
/-- Column j of a product, when i parts of the first number are done with. -/
def colF (a b : List Int) (j : Nat) : Nat → List Int
  | 0 => [0, 0]
  | i + 1 => plusF (toLen 2 (colF a b j i)) (bif Nat.ble i j then a.getD i 0 else IntKind.u64.wrap (19 * a.getD i 0)) (b.getD (bif Nat.ble i j then j - i else j + 5 - i) 0)
/-- What is carried into column j. -/
def carF (a b : List Int) : Nat → Int
  | 0 => 0
  | j + 1 => orI .u64 (shlI .u64 (IntKind.u64.wrap ((colF a b j 5).getD 0 0 + addC ((colF a b j 5).getD 1 0) (carF a b j) 0)) 13) (shrI .u64 (addS ((colF a b j 5).getD 1 0) (carF a b j) 0) 51)
def mulF (a b : List Int) : List Int := restF ((List.range 5).map fun j => match j with
  | 0 => IntKind.u64.wrap (andI .u64 (addS ((colF a b 0 5).getD 1 0) (carF a b 0) 0) maskF + IntKind.u64.wrap (19 * carF a b 5))
  | j + 1 => andI .u64 (addS ((colF a b (j + 1) 5).getD 1 0) (carF a b (j + 1)) 0) maskF)
def ctMulF : Ct := shCt 36 [.nums .u64 5, .nums .u64 5] fun ds => ([], numsT .u64 5 (mulF (dL ds 0) (dL ds 1)))
set_option maxRecDepth 1000000 in
theorem ctMulF_ok : CtOk Try.prog ctMulF :=
  oneCt_ok (cts := [ctPlus, ctAdd64, ctNumber]) (fz := []) (fuel := 40) mix (allOk ⟨ctPlus_ok, ctAdd64_ok, ctNumber_ok, trivial⟩) Try.func36 (by kernel_rfl) (by kernel_rfl) (fun _ => rfl) fun ds h _ => match ds, h with
    | [.L _, .L _], h => ⟨_, viewArgs_is h, [], by kernel_rfl, by simp⟩
def sqF (a : List Int) : Nat → List Int
  | 0 => a
  | n + 1 => mulF (toLen 5 (sqF a n)) (toLen 5 (sqF a n))
def ctSq (n : Nat) : Ct := shCt 71 [.nums .u64 5, .con .i64 n] fun ds => ([], numsT .u64 5 (sqF (dL ds 0) n))
theorem ctSq1_ok : CtOk Try.prog (ctSq 1) :=
  oneCt_ok (cts := [ctMulF]) (fz := []) (fuel := 10) mix (allOk ⟨ctMulF_ok, trivial⟩) Try.func71 (by kernel_rfl) (by kernel_rfl) (fun _ => rfl) fun ds h _ => match ds, h with
    | [.L _, .I _], h => ⟨_, viewArgs_is h, [], by kernel_rfl, by simp⟩
theorem ctSq2_ok : CtOk Try.prog (ctSq 2) :=
  oneCt_ok (cts := [ctMulF]) (fz := []) (fuel := 10) mix (allOk ⟨ctMulF_ok, trivial⟩) Try.func71 (by kernel_rfl) (by kernel_rfl) (fun _ => rfl) fun ds h _ => match ds, h with
    | [.L _, .I _], h => ⟨_, viewArgs_is h, [], by kernel_rfl, by simp⟩
theorem ctSq3_ok : CtOk Try.prog (ctSq 3) :=
  oneCt_ok (cts := [ctMulF]) (fz := []) (fuel := 10) mix (allOk ⟨ctMulF_ok, trivial⟩) Try.func71 (by kernel_rfl) (by kernel_rfl) (fun _ => rfl) fun ds h _ => match ds, h with
    | [.L _, .I _], h => ⟨_, viewArgs_is h, [], by kernel_rfl, by simp⟩
theorem ctSq5_ok : CtOk Try.prog (ctSq 5) :=
  oneCt_ok (cts := [ctMulF]) (fz := []) (fuel := 10) mix (allOk ⟨ctMulF_ok, trivial⟩) Try.func71 (by kernel_rfl) (by kernel_rfl) (fun _ => rfl) fun ds h _ => match ds, h with
    | [.L _, .I _], h => ⟨_, viewArgs_is h, [], by kernel_rfl, by simp⟩
theorem ctSq10_ok : CtOk Try.prog (ctSq 10) :=
  oneCt_ok (cts := [ctMulF]) (fz := []) (fuel := 20) mix (allOk ⟨ctMulF_ok, trivial⟩) Try.func71 (by kernel_rfl) (by kernel_rfl) (fun _ => rfl) fun ds h _ => match ds, h with
    | [.L _, .I _], h => ⟨_, viewArgs_is h, [], by kernel_rfl, by simp⟩
theorem ctSq20_ok : CtOk Try.prog (ctSq 20) :=
  oneCt_ok (cts := [ctMulF]) (fz := []) (fuel := 30) mix (allOk ⟨ctMulF_ok, trivial⟩) Try.func71 (by kernel_rfl) (by kernel_rfl) (fun _ => rfl) fun ds h _ => match ds, h with
    | [.L _, .I _], h => ⟨_, viewArgs_is h, [], by kernel_rfl, by simp⟩
set_option maxRecDepth 1000000 in
theorem ctSq50_ok : CtOk Try.prog (ctSq 50) :=
  oneCt_ok (cts := [ctMulF]) (fz := []) (fuel := 60) mix (allOk ⟨ctMulF_ok, trivial⟩) Try.func71 (by kernel_rfl) (by kernel_rfl) (fun _ => rfl) fun ds h _ => match ds, h with
    | [.L _, .I _], h => ⟨_, viewArgs_is h, [], by kernel_rfl, by simp⟩
set_option maxRecDepth 1000000 in
theorem ctSq100_ok : CtOk Try.prog (ctSq 100) :=
  oneCt_ok (cts := [ctMulF]) (fz := []) (fuel := 110) mix (allOk ⟨ctMulF_ok, trivial⟩) Try.func71 (by kernel_rfl) (by kernel_rfl) (fun _ => rfl) fun ds h _ => match ds, h with
    | [.L _, .I _], h => ⟨_, viewArgs_is h, [], by kernel_rfl, by simp⟩
def ctSquared : Ct := orCt (orCt (orCt (orCt (orCt (orCt (orCt (ctSq 1) (ctSq 2)) (ctSq 3)) (ctSq 5)) (ctSq 10)) (ctSq 20)) (ctSq 50)) (ctSq 100)
theorem ctSquared_ok : CtOk Try.prog ctSquared := orCt_ok (orCt_ok (orCt_ok (orCt_ok (orCt_ok (orCt_ok (orCt_ok ctSq1_ok ctSq2_ok rfl) ctSq3_ok rfl) ctSq5_ok rfl) ctSq10_ok rfl) ctSq20_ok rfl) ctSq50_ok rfl) ctSq100_ok rfl
def mul5 (a b : List Int) : List Int := toLen 5 (mulF a b)
def sq5 (a : List Int) (n : Nat) : List Int := toLen 5 (sqF a n)
def nineF (a : List Int) : List Int := mul5 (sq5 (sq5 a 1) 2) a
def elevenF (a : List Int) : List Int := mul5 (nineF a) (sq5 a 1)
def o5F (a : List Int) : List Int := mul5 (sq5 (elevenF a) 1) (nineF a)
def o10F (a : List Int) : List Int := mul5 (sq5 (o5F a) 5) (o5F a)
def o20F (a : List Int) : List Int := mul5 (sq5 (o10F a) 10) (o10F a)
def o40F (a : List Int) : List Int := mul5 (sq5 (o20F a) 20) (o20F a)
def o50F (a : List Int) : List Int := mul5 (sq5 (o40F a) 10) (o10F a)
def o100F (a : List Int) : List Int := mul5 (sq5 (o50F a) 50) (o50F a)
def o200F (a : List Int) : List Int := mul5 (sq5 (o100F a) 100) (o100F a)
def onesF (a : List Int) : List Int := mulF (sq5 (o200F a) 50) (o50F a)
def ctOnes : Ct := shCt 70 [.nums .u64 5] fun ds => ([], .tup [.agg (cellsL .u64 5 (onesF (toLen 5 (dL ds 0)))), .agg (cellsL .u64 5 (elevenF (toLen 5 (dL ds 0))))])
theorem tup2_free (L M : List Int) : (TV.tup [.agg (cellsL .u64 5 L), .agg (cellsL .u64 5 M)]).free = true := by simp [TV.free, SV.free, cellsL_free]
set_option maxRecDepth 1000000 in
theorem ctOnes_ok : CtOk Try.prog ctOnes :=
  oneCt_ok (cts := [ctSquared, ctMulF]) (fz := []) (fuel := 10) mix (allOk ⟨ctSquared_ok, ctMulF_ok, trivial⟩) Try.func70 (by kernel_rfl) (by kernel_rfl) (fun _ => tup2_free _ _) fun ds h _ => match ds, h with
    | [.L _], h => ⟨_, viewArgs_is h, [], by kernel_rfl, by simp⟩
def invF (a : List Int) : List Int := mulF (sq5 (toLen 5 (onesF a)) 5) (elevenF a)
def ctInvF : Ct := shCt 38 [.nums .u64 5] fun ds => ([], numsT .u64 5 (invF (toLen 5 (dL ds 0))))
set_option maxRecDepth 1000000 in
theorem ctInvF_ok : CtOk Try.prog ctInvF :=
  oneCt_ok (cts := [ctOnes, ctSquared, ctMulF]) (fz := []) (fuel := 10) mix (allOk ⟨ctOnes_ok, ctSquared_ok, ctMulF_ok, trivial⟩) Try.func38 (by kernel_rfl) (by kernel_rfl) (fun _ => rfl) fun ds h _ => match ds, h with
    | [.L _], h => ⟨_, viewArgs_is h, [], by kernel_rfl, by simp⟩
end Go.Proofs.Ytkkekjkfafnahaa.Fd
