/- The plain law of the ladder: both sides hold the same numbers at each rung. -/
import Derived.Test.YtkkekjkfafnahaaLdb
import Derived.Test.YtkkekjkfafnahaaLdr
noncomputable section
namespace Go.Proofs.Ytkkekjkfafnahaa.Fd
open Go Go.RowKit RX
set_option linter.unusedSimpArgs false
theorem part_getD (L : List Int) (k : Nat) {j : Nat} (h : j < 5) : (part L k).getD j 0 = L.getD (5 * k + j) 0 := by unfold part; rw [getD_map_range h]
theorem cat4_part (a b c d : List Int) : part (cat4 a b c d) 0 = toLen 5 a ∧ part (cat4 a b c d) 1 = toLen 5 b ∧ part (cat4 a b c d) 2 = toLen 5 c ∧ part (cat4 a b c d) 3 = toLen 5 d := ⟨rfl, rfl, rfl, rfl⟩
theorem keepL_eq {n : Nat} {L : List Int} (b : Bool) (h : toLen n L = L) : keepL n b L = L := by
  unfold keepL
  simp only [Bool.cond_self]
  exact h
theorem kkL_eq {k u : List Int} (h : toLen 32 k = k) : ∀ n, kkL k n = k
  | 0 => rfl
  | n + 1 => by rw [kkL, kkL_eq (u := u) h n, keepL_eq _ h]
theorem uuL_eq {k u : List Int} (h : toLen 5 u = u) : ∀ n, uuL k u n = u
  | 0 => rfl
  | n + 1 => by rw [uuL, uuL_eq h n, keepL_eq _ h]
theorem keepR_eq (x : Bool) (L : List Int) : keepR x L = L := Bool.cond_self ..
theorem kkR_eq {k : List Int} (h : toLen 32 k = k) : ∀ n, kkR k n = k
  | 0 => rfl
  | n + 1 => by rw [kkR, kkR_eq h n, keepL_eq _ h, keepL_eq _ h]
theorem uuR_eq (k u : List Int) : ∀ n, uuR k u n = u
  | 0 => rfl
  | n + 1 => by rw [uuR, keepR_eq, keepR_eq, uuR_eq k u n]
/-- Four numbers, as the program holds them and as the reference does. -/
structure Rung (L : List Int) (a b c d : Int) : Prop where
  a : Rep (part L 0) a
  b : Rep (part L 1) b
  c : Rep (part L 2) c
  d : Rep (part L 3) d
structure RungR (s : R4) (a b c d : Int) : Prop where
  a : Rep16 s.a a
  b : Rep16 s.b b
  c : Rep16 s.c c
  d : Rep16 s.d d
structure V4 where
  (a b c d : Int)
def swapV (x : Bool) (v : V4) : V4 := bif x then ⟨v.c, v.d, v.a, v.b⟩ else v
def upV (u : Int) (v : V4) : V4 :=
  ⟨(v.a + v.b) * (v.a + v.b) * ((v.a - v.b) * (v.a - v.b)),
   ((v.a + v.b) * (v.a + v.b) - (v.a - v.b) * (v.a - v.b)) * ((v.a + v.b) * (v.a + v.b) + 121665 * ((v.a + v.b) * (v.a + v.b) - (v.a - v.b) * (v.a - v.b))),
   ((v.c + v.d) * (v.a - v.b) + (v.c - v.d) * (v.a + v.b)) * ((v.c + v.d) * (v.a - v.b) + (v.c - v.d) * (v.a + v.b)),
   u * (((v.c + v.d) * (v.a - v.b) - (v.c - v.d) * (v.a + v.b)) * ((v.c + v.d) * (v.a - v.b) - (v.c - v.d) * (v.a + v.b)))⟩
def ladV (bit : Nat → Bool) (u : Int) : Nat → V4
  | 0 => ⟨1, 0, u, 1⟩
  | n + 1 => swapV (bit (254 - n)) (upV u (swapV (bit (254 - n)) (ladV bit u n)))
def Is4 (L : List Int) (v : V4) : Prop := Rep (part L 0) v.a ∧ Rep (part L 1) v.b ∧ Rep (part L 2) v.c ∧ Rep (part L 3) v.d
def Is4R (s : R4) (v : V4) : Prop := Rep16 s.a v.a ∧ Rep16 s.b v.b ∧ Rep16 s.c v.c ∧ Rep16 s.d v.d
theorem upL_ok {L u : List Int} {v : V4} {x : Int} (h : Is4 L v) (hu : Rep u x) : Is4 (upL L u) (upV x v) := by
  obtain ⟨a, b, c, d⟩ := h
  have m := a.A5 b
  have n := a.S5 b
  have o := m.M5 m
  have q := n.M5 n
  have e := o.S5 q
  have s := (c.S5 d).M5 m
  have t := (c.A5 d).M5 n
  have X := t.A5 s
  have Y := t.S5 s
  have k := s5 (n := 121665)
  have g1 := (o.mul q).toLen
  have g2 := (e.mul (o.A5 (k.M5 e))).toLen
  have g3 := (X.mul X).toLen
  have g4 := (hu.mul (Y.M5 Y)).toLen
  have p := cat4_part (mulF (oL L) (qL L)) (mulF (eL L) (Fd.A5 (oL L) (Fd.M5 (small5 121665) (eL L)))) (mulF (xL L) (xL L)) (mulF u (Fd.M5 (yL L) (yL L)))
  unfold Is4 upL
  rw [p.1, p.2.1, p.2.2.1, p.2.2.2]
  exact ⟨g1, g2, g3, g4⟩
theorem upR_ok {s : R4} {u : List Int} {v : V4} {x : Int} (h : Is4R s v) (hu : Rep16 u x) : Is4R (upR s u) (upV x v) := by
  obtain ⟨a, b, c, d⟩ := h
  have m := (a.toLen.add b.toLen).toLen
  have n := (a.toLen.sub b.toLen).toLen
  have o := (m.mul m).toLen
  have q := (n.mul n).toLen
  have e := (o.sub q).toLen
  have S := ((c.toLen.sub d.toLen).toLen.mul m).toLen
  have t := ((c.toLen.add d.toLen).toLen.mul n).toLen
  have X := (t.add S).toLen
  have Y := (t.sub S).toLen
  have k := (smallR_ok (n := 121665) (by decide)).toLen
  have g1 := o.mul q
  have g2 := e.mul (o.add (k.mul e).toLen).toLen
  have g3 := X.mul X
  have g4 := hu.toLen.mul (Y.mul Y).toLen
  unfold Is4R upR upV
  dsimp only
  unfold xR9 yR9 tR9 sR9 rR9 qR9 oR9 mR9 lR9 t16
  exact ⟨g1, g2, g3, g4⟩
theorem swapR_ok {s : R4} {v : V4} (h : Is4R s v) (x : Bool) : Is4R (swapR x s) (swapV x v) := by
  obtain ⟨a, b, c, d⟩ := h
  cases x
  · exact ⟨a, b, c, d⟩
  · exact ⟨c, d, a, b⟩
theorem turnL_ok {L : List Int} {v : V4} (h : Is4 L v) : Is4 (turnL L) (swapV true v) := by
  obtain ⟨a, b, c, d⟩ := h
  exact ⟨c.toLen, d.toLen, a.toLen, b.toLen⟩
theorem part_toLen (L : List Int) : part (toLen 20 L) 0 = part L 0 ∧ part (toLen 20 L) 1 = part L 1 ∧ part (toLen 20 L) 2 = part L 2 ∧ part (toLen 20 L) 3 = part L 3 := ⟨rfl, rfl, rfl, rfl⟩
theorem Is4.toLen {L : List Int} {v : V4} (h : Is4 L v) : Is4 (RX.toLen 20 L) v := h
theorem stepL_ok {r u : List Int} {v : V4} {x : Int} (h : Is4 r v) (hu : Rep u x) (b : Bool) : Is4 (stepL b r u) (swapV b (upV x (swapV b v))) := by
  cases b
  · have e : stepL false r u = RX.toLen 20 (upL r u) := by simp only [stepL, cond_false]; rfl
    rw [e]
    exact Is4.toLen (upL_ok h hu)
  · have e : stepL true r u = RX.toLen 20 (turnL (RX.toLen 20 (upL (RX.toLen 20 (turnL r)) u))) := by simp only [stepL, cond_true]; rfl
    rw [e]
    have h1 := Is4.toLen (turnL_ok h)
    have h2 := Is4.toLen (upL_ok h1 hu)
    exact Is4.toLen (turnL_ok h2)
end Go.Proofs.Ytkkekjkfafnahaa.Fd
