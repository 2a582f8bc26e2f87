/- The walk of the package field: what its functions compute, number by number as the code does. -/
import Derived.Test.YtkkekjkfafnahaaProg
import Derived.Test.YtkkekjkfafnahaaRxO
noncomputable section
namespace Go.Proofs.Ytkkekjkfafnahaa.Fd
open Go Go.RowKit RX
theorem mix : Try.prog.follows .mixedOrders = true := by kernel_rfl
abbrev maskF : Int := 2251799813685247
/-- Part i with what is carried into it. -/
def cF (v : List Int) : Nat → Int
  | 0 => IntKind.u64.wrap (v.getD 0 0 + 0)
  | n + 1 => IntKind.u64.wrap (v.getD (n + 1) 0 + shrI .u64 (cF v n) 51)
def carriedF (v : List Int) : List Int := (List.range 5).map fun i => match i with
  | 0 => IntKind.u64.wrap (andI .u64 (cF v 0) maskF + IntKind.u64.wrap (19 * shrI .u64 (cF v 4) 51))
  | j + 1 => andI .u64 (cF v (j + 1)) maskF
def ctCarried : Ct := shCt 90 [.nums .u64 5] fun ds => ([], numsT .u64 5 (carriedF (dL ds 0)))
theorem ctCarried_ok : CtOk Try.prog ctCarried :=
  oneCt_ok (cts := []) (fz := []) (fuel := 40) mix (by simp) Try.func90 (by kernel_rfl) (by kernel_rfl) (fun _ => rfl) fun ds h _ => match ds, h with
    | [.L _], h => ⟨_, viewArgs_is h, [], by kernel_rfl, by simp⟩
def rF (v : List Int) : Nat → Int
  | 0 => IntKind.u64.wrap (v.getD 0 0 + 19)
  | n + 1 => IntKind.u64.wrap (v.getD (n + 1) 0 + shrI .u64 (rF v n) 51)
def belowF (u : List Int) : List Int := (List.range 5).map fun i => bif decide (shrI .u64 (rF u 4) 51 > 0) then andI .u64 (rF u i) maskF else u.getD i 0
def restF (v : List Int) : List Int := belowF (toLen 5 (carriedF (toLen 5 (carriedF v))))
def ctRestF : Ct := shCt 88 [.nums .u64 5] fun ds => ([], numsT .u64 5 (restF (dL ds 0)))
theorem ctRestF_ok : CtOk Try.prog ctRestF :=
  oneCt_ok (cts := [ctCarried]) (fz := []) (fuel := 40) mix (allOk ⟨ctCarried_ok, trivial⟩) Try.func88 (by kernel_rfl) (by kernel_rfl) (fun _ => rfl) fun ds h _ => match ds, h with
    | [.L _], h => ⟨_, viewArgs_is h, [], by kernel_rfl, by simp⟩
def ctNumber : Ct := shCt 62 [.nums .u64 5] fun ds => ([], numsT .u64 5 (restF (dL ds 0)))
theorem ctNumber_ok : CtOk Try.prog ctNumber :=
  oneCt_ok (cts := [ctRestF]) (fz := []) (fuel := 40) mix (allOk ⟨ctRestF_ok, trivial⟩) Try.func62 (by kernel_rfl) (by kernel_rfl) (fun _ => rfl) fun ds h _ => match ds, h with
    | [.L _], h => ⟨_, viewArgs_is h, [], by kernel_rfl, by simp⟩
def wordF (s : ByteArray) : Nat → Int
  | 0 => 0
  | m + 1 => orI .u64 (wordF s m) (shlI .u64 (IntKind.u64.wrap (sbyte s (m : Nat))) (8 * m))
def ctWordN (n : Nat) : Ct := shCt 66 [.strn n] fun ds => ([], num1 .u64 (wordF (dS ds 0) 8))
theorem ctWord32_ok : CtOk Try.prog (ctWordN 32) :=
  oneCt_ok (cts := []) (fz := []) (fuel := 40) mix (by simp) Try.func66 (by kernel_rfl) (by kernel_rfl) (fun _ => rfl) fun ds h _ => match ds, h with
    | [.S _], h => ⟨_, viewArgs_is h, [], by kernel_rfl, by simp⟩
theorem ctWord24_ok : CtOk Try.prog (ctWordN 24) :=
  oneCt_ok (cts := []) (fz := []) (fuel := 40) mix (by simp) Try.func66 (by kernel_rfl) (by kernel_rfl) (fun _ => rfl) fun ds h _ => match ds, h with
    | [.S _], h => ⟨_, viewArgs_is h, [], by kernel_rfl, by simp⟩
theorem ctWord16_ok : CtOk Try.prog (ctWordN 16) :=
  oneCt_ok (cts := []) (fz := []) (fuel := 40) mix (by simp) Try.func66 (by kernel_rfl) (by kernel_rfl) (fun _ => rfl) fun ds h _ => match ds, h with
    | [.S _], h => ⟨_, viewArgs_is h, [], by kernel_rfl, by simp⟩
theorem ctWord8_ok : CtOk Try.prog (ctWordN 8) :=
  oneCt_ok (cts := []) (fz := []) (fuel := 40) mix (by simp) Try.func66 (by kernel_rfl) (by kernel_rfl) (fun _ => rfl) fun ds h _ => match ds, h with
    | [.S _], h => ⟨_, viewArgs_is h, [], by kernel_rfl, by simp⟩
def ctWord : Ct := orCt (orCt (orCt (ctWordN 32) (ctWordN 24)) (ctWordN 16)) (ctWordN 8)
theorem ctWord_ok : CtOk Try.prog ctWord := orCt_ok (orCt_ok (orCt_ok ctWord32_ok ctWord24_ok rfl) ctWord16_ok rfl) ctWord8_ok rfl
def ofF (s : ByteArray) : List Int :=
  let a := wordF s 8
  let b := wordF (s.extract 8 32) 8
  let c := wordF (s.extract 16 32) 8
  let d := wordF (s.extract 24 32) 8
  restF [andI .u64 a maskF, andI .u64 (orI .u64 (shrI .u64 a 51) (shlI .u64 b 13)) maskF, andI .u64 (orI .u64 (shrI .u64 b 38) (shlI .u64 c 26)) maskF, andI .u64 (orI .u64 (shrI .u64 c 25) (shlI .u64 d 39)) maskF, shrI .u64 d 12]
def zeroF : List Int := [0, 0, 0, 0, 0]
/-- A number and 'no error'; the number 0 and 'a wrong argument'. -/
def okF (L : List Int) : TV := .tup [.agg (cellsL .u64 5 L), .one (.lit .i64 0)]
def ctOfF : Ct := shCt 30 [.strn 32] fun ds => ([], okF (ofF (dS ds 0)))
theorem okF_free (L : List Int) : (okF L).free = true := by simp [okF, TV.free, SV.free, RC.free, cellsL_free]
theorem ctOfF_ok : CtOk Try.prog ctOfF :=
  oneCt_ok (cts := [ctWord, ctNumber]) (fz := []) (fuel := 40) mix (allOk ⟨ctWord_ok, ctNumber_ok, trivial⟩) Try.func30 (by kernel_rfl) (by kernel_rfl) (fun _ => okF_free _) fun ds h _ => match ds, h with
    | [.S _], h => ⟨_, viewArgs_is h, [], by kernel_rfl, by simp⟩
def byteF (a : List Int) (j : Nat) : Nat → Int
  | 0 => 0
  | m + 1 => orI .u8 (byteF a j m) (shlI .u8 (IntKind.u8.wrap (andI .u64 (shrI .u64 (a.getD ((8 * j + m) / 51) 0) ((8 * j + m) % 51)) 1)) m)
def bytesF (a : List Int) : List Int := (List.range 32).map fun j => byteF a j (bif j == 31 then 7 else 8)
def ctBytesF : Ct := shCt 26 [.nums .u64 5] fun ds => ([], strn1 32 (bytesF (dL ds 0)))
set_option maxRecDepth 1000000 in
theorem ctBytesF_ok : CtOk Try.prog ctBytesF :=
  oneCt_ok (cts := []) (fz := []) (fuel := 260) mix (by simp) Try.func26 (by kernel_rfl) (by kernel_rfl) (fun _ => rfl) fun ds h _ => match ds, h with
    | [.L _], h => ⟨_, viewArgs_is h, [], by kernel_rfl, by simp⟩
def addF (a b : List Int) : List Int := restF ((List.range 5).map fun i => IntKind.u64.wrap (a.getD i 0 + b.getD i 0))
def ctAddF : Ct := shCt 32 [.nums .u64 5, .nums .u64 5] fun ds => ([], numsT .u64 5 (addF (dL ds 0) (dL ds 1)))
theorem ctAddF_ok : CtOk Try.prog ctAddF :=
  oneCt_ok (cts := [ctNumber]) (fz := []) (fuel := 40) mix (allOk ⟨ctNumber_ok, trivial⟩) Try.func32 (by kernel_rfl) (by kernel_rfl) (fun _ => rfl) fun ds h _ => match ds, h with
    | [.L _, .L _], h => ⟨_, viewArgs_is h, [], by kernel_rfl, by simp⟩
def subF (a b : List Int) : List Int := restF ((List.range 5).map fun i => match i with
  | 0 => IntKind.u64.wrap (IntKind.u64.wrap (a.getD 0 0 + IntKind.u64.wrap (4503599627370494 - b.getD 0 0)) - 36)
  | j + 1 => IntKind.u64.wrap (a.getD (j + 1) 0 + IntKind.u64.wrap (4503599627370494 - b.getD (j + 1) 0)))
def ctSubF : Ct := shCt 34 [.nums .u64 5, .nums .u64 5] fun ds => ([], numsT .u64 5 (subF (dL ds 0) (dL ds 1)))
theorem ctSubF_ok : CtOk Try.prog ctSubF :=
  oneCt_ok (cts := [ctNumber]) (fz := []) (fuel := 40) mix (allOk ⟨ctNumber_ok, trivial⟩) Try.func34 (by kernel_rfl) (by kernel_rfl) (fun _ => rfl) fun ds h _ => match ds, h with
    | [.L _, .L _], h => ⟨_, viewArgs_is h, [], by kernel_rfl, by simp⟩
def smallF (n : Int) : List Int :=
  let u := IntKind.u64.wrap (IntKind.u64.wrap (IntKind.i64.wrap (0 - IntKind.i64.wrap (n + 1))) + 1)
  let m := subF zeroF (restF [andI .u64 u maskF, shrI .u64 u 51, 0, 0, 0])
  let p := restF [andI .u64 (IntKind.u64.wrap n) maskF, shrI .u64 (IntKind.u64.wrap n) 51, 0, 0, 0]
  (List.range 5).map fun i => bif decide (n < 0) then m.getD i 0 else p.getD i 0
def ctSmallF : Ct := shCt 25 [.num .i64] fun ds => ([], numsT .u64 5 (smallF (dI ds 0)))
theorem ctSmallF_ok : CtOk Try.prog ctSmallF :=
  oneCt_ok (cts := [ctNumber, ctSubF]) (fz := []) (fuel := 40) mix (allOk ⟨ctNumber_ok, ctSubF_ok, trivial⟩) Try.func25 (by kernel_rfl) (by kernel_rfl) (fun _ => rfl) fun ds h _ => match ds, h with
    | [.I _], h => ⟨_, viewArgs_is h, [], by kernel_rfl, by simp⟩
end Go.Proofs.Ytkkekjkfafnahaa.Fd
