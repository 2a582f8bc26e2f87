/- The ladder over numbers, reckoned. -/
import Derived.Test.YtkkekjkfafnahaaLde
noncomputable section
namespace Go.Proofs.Ytkkekjkfafnahaa.Fd
open Go Go.RowKit RX
def subN (x y : Nat) : Nat := (x + (pN - y % pN)) % pN
theorem subN_ok {x y : Nat} {X Y : Int} (hx : X % pF = x % pF) (hy : Y % pF = y % pF) : (X - Y) % pF = (subN x y : Int) % pF := by
  have hp : 0 < pN := by decide
  have h1 : y % pN < pN := Nat.mod_lt _ hp
  have e : ((subN x y : Nat) : Int) = ((x : Int) + ((pN : Int) - (y : Int) % (pN : Int))) % (pN : Int) := by
    unfold subN
    rw [Int.natCast_emod, Int.natCast_add, Int.natCast_sub (Nat.le_of_lt h1), Int.natCast_emod]
  rw [e, pN_eq, Int.emod_emod, Int.sub_emod, hx, hy, ← Int.sub_emod]
  have := Int.emod_add_mul_ediv (y : Int) pF
  rw [show (x : Int) + (pF - (y : Int) % pF) = ((x : Int) - y) + pF * (1 + (y : Int) / pF) by rw [Int.mul_add]; omega, Int.add_mul_emod_self_left]
/-! ### Numbers in place of digits -/
def Cg (X : Int) (x : Nat) : Prop := X % pF = (x : Int) % pF
theorem Cg.red {X : Int} {x : Nat} (h : Cg X x) : Cg X (x % pN) := by
  unfold Cg at *
  rw [Int.natCast_emod, pN_eq, Int.emod_emod, h]
theorem Cg.add {X Y : Int} {x y : Nat} (h : Cg X x) (g : Cg Y y) : Cg (X + Y) ((x + y) % pN) := by
  refine Cg.red ?_
  unfold Cg at *
  rw [Int.natCast_add, Int.add_emod, h, g, ← Int.add_emod]
theorem Cg.mul {X Y : Int} {x y : Nat} (h : Cg X x) (g : Cg Y y) : Cg (X * Y) (x * y % pN) := by
  refine Cg.red ?_
  unfold Cg at *
  rw [Int.natCast_mul, Int.mul_emod, h, g, ← Int.mul_emod]
theorem Cg.sub {X Y : Int} {x y : Nat} (h : Cg X x) (g : Cg Y y) : Cg (X - Y) (subN x y) := subN_ok h g
theorem Cg.const (n : Nat) : Cg (n : Int) n := rfl
theorem Cg.pow {X : Int} {x : Nat} (h : Cg X x) : ∀ n, X ^ n % pF = (x : Int) ^ n % pF
  | 0 => by rw [Int.pow_zero, Int.pow_zero]
  | n + 1 => by rw [Int.pow_succ, Int.pow_succ, Int.mul_emod, Cg.pow h n, h, ← Int.mul_emod]
structure N4 where
  (a b c d : Nat)
def swapN (x : Bool) (v : N4) : N4 := bif x then ⟨v.c, v.d, v.a, v.b⟩ else v
section
variable (v : N4) (u : Nat)
def mN : Nat := (v.a + v.b) % pN
def nN : Nat := subN v.a v.b
def oN : Nat := mN v * mN v % pN
def qN : Nat := nN v * nN v % pN
def eN : Nat := subN (oN v) (qN v)
def sN : Nat := subN v.c v.d * mN v % pN
def tN : Nat := (v.c + v.d) % pN * nN v % pN
def xN : Nat := (tN v + sN v) % pN
def yN : Nat := subN (tN v) (sN v)
def upN : N4 := ⟨oN v * qN v % pN, eN v * ((oN v + 121665 * eN v % pN) % pN) % pN, xN v * xN v % pN, u * (yN v * yN v % pN) % pN⟩
end
def Is4N (v : V4) (w : N4) : Prop := Cg v.a w.a ∧ Cg v.b w.b ∧ Cg v.c w.c ∧ Cg v.d w.d
theorem upN_ok {v : V4} {w : N4} {x : Int} {u : Nat} (h : Is4N v w) (hu : Cg x u) : Is4N (upV x v) (upN w u) := by
  obtain ⟨a, b, c, d⟩ := h
  have m := a.add b
  have n := a.sub b
  have o := m.mul m
  have q := n.mul n
  have e := o.sub q
  have s := (c.sub d).mul m
  have t := (c.add d).mul n
  have X := t.add s
  have Y := t.sub s
  exact ⟨o.mul q, e.mul (o.add ((Cg.const 121665).mul e)), X.mul X, hu.mul (Y.mul Y)⟩
theorem swapN_ok {v : V4} {w : N4} (h : Is4N v w) (x : Bool) : Is4N (swapV x v) (swapN x w) := by
  obtain ⟨a, b, c, d⟩ := h
  cases x
  · exact ⟨a, b, c, d⟩
  · exact ⟨c, d, a, b⟩
def ladN (bit : Nat → Bool) (u : Nat) : Nat → N4
  | 0 => ⟨1, 0, u, 1⟩
  | n + 1 => swapN (bit (254 - n)) (upN (swapN (bit (254 - n)) (ladN bit u n)) u)
theorem ladN_ok (bit : Nat → Bool) {x : Int} {u : Nat} (hu : Cg x u) : ∀ n, Is4N (ladV bit x n) (ladN bit u n)
  | 0 => ⟨rfl, rfl, hu, rfl⟩
  | n + 1 => swapN_ok (upN_ok (swapN_ok (ladN_ok bit hu n) _) hu) _
def quotN (k : List Int) (u : Nat) : Nat := (ladN (bitL k) u 255).a * (pm pN 255 (ladN (bitL k) u 255).b (2 ^ 255 - 21) 1 % pN) % pN
theorem quotN_ok (k : List Int) {x : Int} {u : Nat} (hu : Cg x u) : qV k x % pF = quotN k u := by
  obtain ⟨a, b, _, _⟩ := ladN_ok (bitL k) hu 255
  have hb : Cg ((ladV (bitL k) x 255).b ^ (2 ^ 255 - 21)) (pm pN 255 (ladN (bitL k) u 255).b (2 ^ 255 - 21) 1 % pN) := by
    unfold Cg
    rw [Cg.pow b, pow_is (x := (ladN (bitL k) u 255).b) (n := 255) (r := pm pN 255 (ladN (bitL k) u 255).b (2 ^ 255 - 21) 1 % pN) (by decide) rfl, Int.natCast_emod, pN_eq, Int.emod_emod]
  have h := a.mul hb
  unfold Cg at h
  unfold qV
  rw [h]
  unfold quotN
  rw [Int.natCast_emod, pN_eq, Int.emod_emod]
/-! ### The examples -/
def fillS (b : Int) : ByteArray := strOfNums (List.replicate 32 b)
set_option maxRecDepth 10000000 in
theorem quot17 : quotN (scalarL (fillS 17)) 9 = 8706964969151656852030624105552692079253703992755607796162724326647234842235 := by decide +kernel
set_option maxRecDepth 10000000 in
theorem quot1 : quotN (scalarL (fillS 1)) 0 = 0 := by decide +kernel
end Go.Proofs.Ytkkekjkfafnahaa.Fd
