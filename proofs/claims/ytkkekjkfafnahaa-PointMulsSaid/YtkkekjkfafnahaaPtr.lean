/- The walk of the package cressetref11: sums, the point the other way round, bytes. -/
import Derived.Test.YtkkekjkfafnahaaPtb
import Derived.Test.YtkkekjkfafnahaaLdr
noncomputable section
namespace Go.Proofs.Ytkkekjkfafnahaa.Fd
open Go Go.RowKit RX
set_option linter.unusedSimpArgs false
theorem four {α : Type} {l : List α} (h : l.length = 4) : ∃ a b c d, l = [a, b, c, d] := match l, h with
  | [a, b, c, d], _ => ⟨a, b, c, d, rfl⟩
def r4 (l : List (List Int)) : R4 := ⟨l.getD 0 [], l.getD 1 [], l.getD 2 [], l.getD 3 []⟩
def t4 (p : R4) : R4 := ⟨t16 p.a, t16 p.b, t16 p.c, t16 p.d⟩
def ptS (p : R4) : SV := .agg [.frz .i64 p.a 16, .frz .i64 p.b 16, .frz .i64 p.c 16, .frz .i64 p.d 16]
def z16 : List Int := t16 zeroR
def factorR : List Int := mulR (t16 (smallR (-121665))) (t16 (invR (t16 (smallR 121666))))
def ctFactorR : Ct := shCt 83 [] fun _ => ([], frz1 .i64 16 factorR)
set_option maxRecDepth 1000000 in
theorem ctFactorR_ok : CtOk Try.prog ctFactorR :=
  oneCt_ok (cts := [ctSmallR, ctInvR, ctMulR]) (fz := []) (fuel := 10) mix (allOk ⟨ctSmallR_ok, ctInvR_ok, ctMulR_ok, trivial⟩) Try.func83 (by kernel_rfl) (by kernel_rfl) (fun _ => rfl) fun ds h _ => match ds, h with
    | [], h => ⟨_, viewArgs_is h, [], by kernel_rfl, by simp⟩
def zeroPR : R4 := ⟨z16, smallR 1, smallR 1, z16⟩
def ctZeroPR : Ct := shCt 82 [] fun _ => ([], .sv (ptS zeroPR))
set_option maxRecDepth 1000000 in
theorem ctZeroPR_ok : CtOk Try.prog ctZeroPR :=
  oneCt_ok (cts := [ctZeroR, ctSmallR]) (fz := []) (fuel := 10) mix (allOk ⟨ctZeroR_ok, ctSmallR_ok, trivial⟩) Try.func82 (by kernel_rfl) (by kernel_rfl) (fun _ => rfl) fun ds h _ => match ds, h with
    | [], h => ⟨_, viewArgs_is h, [], by kernel_rfl, by simp⟩
section
variable (p q : R4) (k : List Int)
def aT : List Int := t16 (mulR (t16 (subR (t16 p.b) (t16 p.a))) (t16 (subR (t16 q.b) (t16 q.a))))
def bT : List Int := t16 (mulR (t16 (addR (t16 p.b) (t16 p.a))) (t16 (addR (t16 q.b) (t16 q.a))))
def cT : List Int := t16 (mulR (t16 (mulR (t16 p.d) (t16 k))) (t16 q.d))
def mT : List Int := t16 (mulR (t16 (addR (t16 p.c) (t16 p.c))) (t16 q.c))
def eT : List Int := t16 (subR (bT p q) (aT p q))
def fT : List Int := t16 (subR (mT p q) (cT p q k))
def gT : List Int := t16 (addR (mT p q) (cT p q k))
def hT : List Int := t16 (addR (bT p q) (aT p q))
def togR : R4 := ⟨mulR (eT p q) (fT p q k), mulR (gT p q k) (hT p q), mulR (fT p q k) (gT p q k), mulR (eT p q) (hT p q)⟩
end
def ctTogR : Ct := shCt 86 [.frzs .i64 16 4, .frzs .i64 16 4, .frz .i64 16] fun ds => ([], .sv (ptS (togR (r4 (dLL ds 0)) (r4 (dLL ds 1)) (dL ds 2))))
set_option maxRecDepth 1000000 in
theorem ctTogR_ok : CtOk Try.prog ctTogR :=
  oneCt_ok (cts := [ctAddR, ctSubR, ctMulR]) (fz := []) (fuel := 10) mix (allOk ⟨ctAddR_ok, ctSubR_ok, ctMulR_ok, trivial⟩) Try.func86 (by kernel_rfl) (by kernel_rfl) (fun _ => rfl) fun ds h _ => match ds, h with
    | [.LL l, .LL m, .L _], h => by
      obtain ⟨a, b, c, d, rfl⟩ := four h.1.1
      obtain ⟨e, f, g, i, rfl⟩ := four h.2.1.1
      exact ⟨_, viewArgs_is h, [], by kernel_rfl, by simp⟩
def kR : List Int := mulR (t16 factorR) (t16 (smallR 2))
def ctDoubleR : Ct := shCt 87 [] fun _ => ([], frz1 .i64 16 kR)
set_option maxRecDepth 1000000 in
theorem ctDoubleR_ok : CtOk Try.prog ctDoubleR :=
  oneCt_ok (cts := [ctSmallR, ctFactorR, ctMulR]) (fz := []) (fuel := 10) mix (allOk ⟨ctSmallR_ok, ctFactorR_ok, ctMulR_ok, trivial⟩) Try.func87 (by kernel_rfl) (by kernel_rfl) (fun _ => rfl) fun ds h _ => match ds, h with
    | [], h => ⟨_, viewArgs_is h, [], by kernel_rfl, by simp⟩
def ctAddPR : Ct := shCt 55 [.frzs .i64 16 4, .frzs .i64 16 4] fun ds => ([], .sv (ptS (togR (t4 (r4 (dLL ds 0))) (t4 (r4 (dLL ds 1))) (t16 kR))))
set_option maxRecDepth 1000000 in
theorem ctAddPR_ok : CtOk Try.prog ctAddPR :=
  oneCt_ok (cts := [ctTogR, ctDoubleR]) (fz := []) (fuel := 10) mix (allOk ⟨ctTogR_ok, ctDoubleR_ok, trivial⟩) Try.func55 (by kernel_rfl) (by kernel_rfl) (fun _ => rfl) fun ds h _ => match ds, h with
    | [.LL l, .LL m], h => by
      obtain ⟨a, b, c, d, rfl⟩ := four h.1.1
      obtain ⟨e, f, g, i, rfl⟩ := four h.2.1.1
      exact ⟨_, viewArgs_is h, [], by kernel_rfl, by simp⟩
def negR (p : R4) : R4 := ⟨subR z16 (t16 p.a), p.b, p.c, subR z16 (t16 p.d)⟩
def ctNegR : Ct := shCt 52 [.frzs .i64 16 4] fun ds => ([], .sv (ptS (negR (r4 (dLL ds 0)))))
set_option maxRecDepth 1000000 in
theorem ctNegR_ok : CtOk Try.prog ctNegR :=
  oneCt_ok (cts := [ctZeroR, ctSubR]) (fz := [2]) (fuel := 10) mix (allOk ⟨ctZeroR_ok, ctSubR_ok, trivial⟩) Try.func52 (by kernel_rfl) (by kernel_rfl) (fun _ => rfl) fun ds h _ => match ds, h with
    | [.LL l], h => by
      obtain ⟨a, b, c, d, rfl⟩ := four h.1.1
      exact ⟨_, viewArgs_is h, [], by kernel_rfl, by simp⟩
def BR16 (L : List Int) : ByteArray := bytesN 32 (bytesR (t16 L))
/-- The bytes of y, and on top of them whether x is odd. -/
def toppedR (Y : ByteArray) (x : List Int) : List Int := (List.range 32).map fun i => match i with
  | 31 => orI .u8 (sbyte Y 31) (shlI .u8 (IntKind.u8.wrap ((x.getD 0 0).tmod 2)) 7)
  | i => sbyte Y i
def bytesPR (p : R4) : List Int := toppedR (BR16 (mulR (t16 p.b) (t16 (invR (t16 p.c))))) (mulR (t16 p.a) (t16 (invR (t16 p.c))))
def ctBytesPR : Ct := shCt 50 [.frzs .i64 16 4] fun ds => ([], strn1 32 (bytesPR (r4 (dLL ds 0))))
set_option maxRecDepth 1000000 in
theorem ctBytesPR_ok : CtOk Try.prog ctBytesPR :=
  oneCt_ok (cts := [ctInvR, ctMulR, ctBytesR]) (fz := []) (fuel := 10) mix (allOk ⟨ctInvR_ok, ctMulR_ok, ctBytesR_ok, trivial⟩) Try.func50 (by kernel_rfl) (by kernel_rfl) (fun _ => rfl) fun ds h _ => match ds, h with
    | [.LL l], h => by
      obtain ⟨a, b, c, d, rfl⟩ := four h.1.1
      exact ⟨_, viewArgs_is h, [], by kernel_rfl, by simp⟩
def pickR (b : Bool) (x y : R4) : R4 := ⟨bif b then x.a else y.a, bif b then x.b else y.b, bif b then x.c else y.c, bif b then x.d else y.d⟩
def stepR4 (b : Bool) (k : List Int) (p o : R4) : R4 := pickR b (togR (t4 (togR (t4 o) (t4 o) k)) (t4 p) k) (togR (t4 o) (t4 o) k)
def mulPR (k : List Int) (p : R4) (n : ByteArray) : Nat → R4
  | 0 => zeroPR
  | i + 1 => stepR4 (bitS n (255 - i)) k p (mulPR k p n i)
end Go.Proofs.Ytkkekjkfafnahaa.Fd
