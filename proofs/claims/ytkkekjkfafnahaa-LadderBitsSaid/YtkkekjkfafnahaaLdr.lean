/- The walk of the package cressetref09. -/
import Derived.Test.YtkkekjkfafnahaaLdb
noncomputable section
namespace Go.Proofs.Ytkkekjkfafnahaa.Fd
open Go Go.RowKit RX
set_option linter.unusedSimpArgs false
def t16 (L : List Int) : List Int := toLen 16 L
def maskR (p : ByteArray) : ByteArray := p.extract 0 31 ++ strOfNums [andI .u8 (sbyte p 31) 127]
def scalarR (s : ByteArray) : List Int := (List.range 32).map fun i => match i with
  | 0 => andI .u8 (sbyte s 0) 248
  | 31 => orI .u8 (andI .u8 (sbyte s 31) 127) 64
  | i => sbyte s i
structure R4 where
  (a b c d : List Int)
def swapR (x : Bool) (s : R4) : R4 := ⟨bif x then s.c else s.a, bif x then s.d else s.b, bif x then s.a else s.c, bif x then s.b else s.d⟩
section
variable (s : R4) (u : List Int)
def mR9 : List Int := t16 (addR (t16 s.a) (t16 s.b))
def lR9 : List Int := t16 (subR (t16 s.a) (t16 s.b))
def oR9 : List Int := t16 (mulR (mR9 s) (mR9 s))
def qR9 : List Int := t16 (mulR (lR9 s) (lR9 s))
def rR9 : List Int := t16 (subR (oR9 s) (qR9 s))
def sR9 : List Int := t16 (mulR (t16 (subR (t16 s.c) (t16 s.d))) (mR9 s))
def tR9 : List Int := t16 (mulR (t16 (addR (t16 s.c) (t16 s.d))) (lR9 s))
def xR9 : List Int := t16 (addR (tR9 s) (sR9 s))
def yR9 : List Int := t16 (subR (tR9 s) (sR9 s))
def upR : R4 := ⟨mulR (oR9 s) (qR9 s), mulR (rR9 s) (t16 (addR (oR9 s) (t16 (mulR (t16 (smallR 121665)) (rR9 s))))), mulR (xR9 s) (xR9 s), mulR (t16 u) (t16 (mulR (yR9 s) (yR9 s)))⟩
end
def keepR (x : Bool) (L : List Int) : List Int := bif x then L else L
def bitR (k : List Int) (i : Nat) : Bool := andI .u8 (shrI .u8 (k.getD (i / 8) 0) (i % 8)) 1 == 1
def kkR (k : List Int) : Nat → List Int
  | 0 => k
  | n + 1 => keepL 32 (bitR (kkR k n) (254 - n)) (keepL 32 (bitR (kkR k n) (254 - n)) (kkR k n))
def uuR (k u : List Int) : Nat → List Int
  | 0 => u
  | n + 1 => keepR (bitR (kkR k n) (254 - n)) (keepR (bitR (kkR k n) (254 - n)) (uuR k u n))
def ladR (k u : List Int) : Nat → R4
  | 0 => ⟨smallR 1, smallR 0, u, smallR 1⟩
  | n + 1 => swapR (bitR (kkR k n) (254 - n)) (upR (swapR (bitR (kkR k n) (254 - n)) (ladR k u n)) (keepR (bitR (kkR k n) (254 - n)) (uuR k u n)))
def quotR (k u : List Int) : List Int := mulR (t16 (ladR k u 255).a) (t16 (invR (t16 (ladR k u 255).b)))
def zR (k u : List Int) : Bool := (BR (quotR k u)).toList == (strOfNums (List.replicate 32 0)).toList
end Go.Proofs.Ytkkekjkfafnahaa.Fd
