/- The walk of the package ladder. -/
import Derived.Test.YtkkekjkfafnahaaFlc
noncomputable section
namespace Go.Proofs.Ytkkekjkfafnahaa.Fd
open Go Go.RowKit RX
set_option linter.unusedSimpArgs false
def part (L : List Int) (k : Nat) : List Int := (List.range 5).map fun j => L.getD (5 * k + j) 0
def cat4 (a b c d : List Int) : List Int := toLen 5 a ++ toLen 5 b ++ toLen 5 c ++ toLen 5 d
def scalarL (s : ByteArray) : List Int := (List.range 32).map fun i => match i with
  | 0 => bits .andNot .u8 (sbyte s 0) 7
  | 31 => orI .u8 (andI .u8 (sbyte s 31) 127) 64
  | i => sbyte s i
def ctScalarL : Ct := shCt 75 [.strn 32] fun ds => ([], numsT .u8 32 (scalarL (dS ds 0)))
set_option maxRecDepth 1000000 in
theorem ctScalarL_ok : CtOk Try.prog ctScalarL :=
  oneCt_ok (cts := []) (fz := []) (fuel := 10) mix (by simp) Try.func75 (by kernel_rfl) (by kernel_rfl) (fun _ => rfl) fun ds h _ => match ds, h with
    | [.S _], h => ⟨_, viewArgs_is h, [], by kernel_rfl, by simp⟩
def turnL (L : List Int) : List Int := cat4 (part L 2) (part L 3) (part L 0) (part L 1)
def ctTurned : Ct := shCt 76 [.nums .u64 20] fun ds => ([], numsT .u64 20 (turnL (dL ds 0)))
theorem ctTurned_ok : CtOk Try.prog ctTurned :=
  oneCt_ok (cts := []) (fz := []) (fuel := 10) mix (by simp) Try.func76 (by kernel_rfl) (by kernel_rfl) (fun _ => rfl) fun ds h _ => match ds, h with
    | [.L _], h => ⟨_, viewArgs_is h, [], by kernel_rfl, by simp⟩
def A5 (a b : List Int) : List Int := toLen 5 (addF a b)
def S5 (a b : List Int) : List Int := toLen 5 (subF a b)
def M5 (a b : List Int) : List Int := toLen 5 (mulF a b)
theorem Rep.A5 {a b : List Int} {x y : Int} (ha : Rep a x) (hb : Rep b y) : Rep (A5 a b) (x + y) := (ha.add hb).toLen
theorem Rep.S5 {a b : List Int} {x y : Int} (ha : Rep a x) (hb : Rep b y) : Rep (S5 a b) (x - y) := (ha.sub hb).toLen
theorem Rep.M5 {a b : List Int} {x y : Int} (ha : Rep a x) (hb : Rep b y) : Rep (M5 a b) (x * y) := (ha.mul hb).toLen
section
variable (L u : List Int)
def mL : List Int := A5 (part L 0) (part L 1)
def nL : List Int := S5 (part L 0) (part L 1)
def oL : List Int := M5 (mL L) (mL L)
def qL : List Int := M5 (nL L) (nL L)
def eL : List Int := S5 (oL L) (qL L)
def sL : List Int := M5 (S5 (part L 2) (part L 3)) (mL L)
def tL : List Int := M5 (A5 (part L 2) (part L 3)) (nL L)
def xL : List Int := A5 (tL L) (sL L)
def yL : List Int := S5 (tL L) (sL L)
def upL : List Int := cat4 (mulF (oL L) (qL L)) (mulF (eL L) (A5 (oL L) (M5 (small5 121665) (eL L)))) (mulF (xL L) (xL L)) (mulF u (M5 (yL L) (yL L)))
end
def ctUp : Ct := shCt 77 [.nums .u64 20, .nums .u64 5] fun ds => ([], numsT .u64 20 (upL (dL ds 0) (dL ds 1)))
set_option maxRecDepth 1000000 in
set_option maxHeartbeats 4000000 in
theorem ctUp_ok : CtOk Try.prog ctUp :=
  oneCt_ok (cts := [ctAddF, ctSubF, ctMulF, ctSmallF]) (fz := []) (fuel := 10) mix (allOk ⟨ctAddF_ok, ctSubF_ok, ctMulF_ok, ctSmallF_ok, trivial⟩) Try.func77 (by kernel_rfl) (by kernel_rfl) (fun _ => rfl) fun ds h _ => match ds, h with
    | [.L _, .L _], h => ⟨_, viewArgs_is h, [], by kernel_rfl, by simp⟩
end Go.Proofs.Ytkkekjkfafnahaa.Fd
