/- The plain law of points: both sides hold the same numbers, and the same bytes. -/
import Derived.Test.YtkkekjkfafnahaaPtb
import Derived.Test.YtkkekjkfafnahaaPtr
import Derived.Test.YtkkekjkfafnahaaLdn
noncomputable section
namespace Go.Proofs.Ytkkekjkfafnahaa.Fd
open Go Go.RowKit RX
set_option linter.unusedSimpArgs false
/-- A point's four numbers. -/
structure PV where
  (x y z t : Int)
def IsP (L : List Int) (v : PV) : Prop := Rep (part L 0) v.x ∧ Rep (part L 1) (v.y - 1) ∧ Rep (part L 2) (v.z - 1) ∧ Rep (part L 3) v.t
def IsQ (p : R4) (v : PV) : Prop := Rep16 p.a v.x ∧ Rep16 p.b v.y ∧ Rep16 p.c v.z ∧ Rep16 p.d v.t
def aV (v w : PV) : Int := (v.y - v.x) * (w.y - w.x)
def bV (v w : PV) : Int := (v.y + v.x) * (w.y + w.x)
def cV (v w : PV) (k : Int) : Int := v.t * k * w.t
def dV (v w : PV) : Int := (v.z + v.z) * w.z
def addV (k : Int) (v w : PV) : PV :=
  ⟨(bV v w - aV v w) * (dV v w - cV v w k), (dV v w + cV v w k) * (bV v w + aV v w), (dV v w - cV v w k) * (dV v w + cV v w k), (bV v w - aV v w) * (bV v w + aV v w)⟩
def zeroV : PV := ⟨0, 1, 1, 0⟩
def negV (v : PV) : PV := ⟨0 - v.x, v.y, v.z, 0 - v.t⟩
def factorV : Int := -121665 * 121666 ^ (2 ^ 255 - 21)
def kV : Int := factorV * 2
theorem one5_ok : Rep one5 1 := s5 (n := 1)
theorem factorP_ok : Rep factorP factorV := (s5 (n := -121665)).M5 (Rep.toLen (inv_ok (s5 (n := 121666)).pw))
theorem kP_ok : Rep kP kV := factorP_ok.M5 (s5 (n := 2))
theorem factorR_ok : Rep16 factorR factorV := (smallR_ok (n := -121665) (by decide)).toLen.mul (Rep16.toLen (invR_ok (smallR_ok (n := 121666) (by decide)).toLen))
theorem kR_ok : Rep16 kR kV := factorR_ok.toLen.mul (smallR_ok (n := 2) (by decide)).toLen
theorem back1 {L : List Int} {y : Int} (h : Rep L (y - 1)) : Rep (A5 L one5) y := (h.A5 one5_ok).congr (by rw [Int.sub_add_cancel])
theorem less1 {L : List Int} {y : Int} (h : Rep L y) : Rep (S5 L one5) (y - 1) := h.S5 one5_ok
theorem madeP_ok {a b c d : List Int} {v : PV} (ha : Rep a v.x) (hb : Rep b v.y) (hc : Rep c v.z) (hd : Rep d v.t) : IsP (madeP a b c d) v := by
  have p := cat4_part a (S5 (toLen 5 b) one5) (S5 (toLen 5 c) one5) d
  unfold IsP madeP
  rw [p.1, p.2.1, p.2.2.1, p.2.2.2]
  exact ⟨ha.toLen, (less1 hb.toLen).toLen, (less1 hc.toLen).toLen, hd.toLen⟩
theorem addP_ok {L M k : List Int} {v w : PV} {K : Int} (h : IsP L v) (g : IsP M w) (hk : Rep k K) : IsP (addP L M k) (addV K v w) := by
  obtain ⟨x1, y1, z1, t1⟩ := h
  obtain ⟨x2, y2, z2, t2⟩ := g
  replace y1 : Rep (yP L) v.y := back1 y1
  replace z1 : Rep (zP L) v.z := back1 z1
  replace y2 : Rep (yP M) w.y := back1 y2
  replace z2 : Rep (zP M) w.z := back1 z2
  have a := (y1.S5 x1).M5 (y2.S5 x2)
  have b := (y1.A5 x1).M5 (y2.A5 x2)
  have c := (t1.M5 hk).M5 t2
  have d := (z1.A5 z1).M5 z2
  have e := b.S5 a
  have f := d.S5 c
  have g := d.A5 c
  have i := b.A5 a
  exact madeP_ok (v := addV K v w) (e.M5 f) (g.M5 i) (f.M5 g) (e.M5 i)
theorem togR_ok {p q : R4} {k : List Int} {v w : PV} {K : Int} (h : IsQ p v) (g : IsQ q w) (hk : Rep16 k K) : IsQ (togR p q k) (addV K v w) := by
  obtain ⟨x1, y1, z1, t1⟩ := h
  obtain ⟨x2, y2, z2, t2⟩ := g
  have a := ((y1.toLen.sub x1.toLen).toLen.mul (y2.toLen.sub x2.toLen).toLen).toLen
  have b := ((y1.toLen.add x1.toLen).toLen.mul (y2.toLen.add x2.toLen).toLen).toLen
  have c := ((t1.toLen.mul hk.toLen).toLen.mul t2.toLen).toLen
  have d := ((z1.toLen.add z1.toLen).toLen.mul z2.toLen).toLen
  have e := (b.sub a).toLen
  have f := (d.sub c).toLen
  have g := (d.add c).toLen
  have i := (b.add a).toLen
  unfold IsQ togR addV
  dsimp only
  unfold eT fT gT hT mT cT bT aT t16
  exact ⟨e.mul f, g.mul i, f.mul g, e.mul i⟩
theorem t4_ok {p : R4} {v : PV} (h : IsQ p v) : IsQ (t4 p) v := ⟨h.1.toLen, h.2.1.toLen, h.2.2.1.toLen, h.2.2.2.toLen⟩
theorem toLen20_ok {L : List Int} {v : PV} (h : IsP L v) : IsP (toLen 20 L) v := h
theorem zeroP_ok : IsP zero20 zeroV := ⟨zeroF_can, zeroF_can, zeroF_can, zeroF_can⟩
theorem zeroPR_ok : IsQ zeroPR zeroV := ⟨zeroR_ok, smallR_ok (n := 1) (by decide), smallR_ok (n := 1) (by decide), zeroR_ok⟩
theorem negP_ok {L : List Int} {v : PV} (h : IsP L v) : IsP (negP L) (negV v) := by
  obtain ⟨x, y, z, t⟩ := h
  have p := cat4_part (subF zeroF (part L 0)) (part L 1) (part L 2) (subF zeroF (part L 3))
  unfold IsP negP
  rw [p.1, p.2.1, p.2.2.1, p.2.2.2]
  exact ⟨(zeroF_can.sub x).toLen, y.toLen, z.toLen, (zeroF_can.sub t).toLen⟩
theorem negR_ok {p : R4} {v : PV} (h : IsQ p v) : IsQ (negR p) (negV v) := by
  obtain ⟨x, y, z, t⟩ := h
  exact ⟨zeroR_ok.sub x.toLen, y, z, zeroR_ok.sub t.toLen⟩
/-- A point so many times. -/
def mulV (bit : Nat → Bool) (p : PV) : Nat → PV
  | 0 => zeroV
  | i + 1 => bif bit (255 - i) then addV kV (addV kV (mulV bit p i) (mulV bit p i)) p else addV kV (mulV bit p i) (mulV bit p i)
theorem stepP_ok {b : Bool} {p o : List Int} {v w : PV} (hp : IsP p v) (ho : IsP o w) : IsP (stepP b kP p o) (bif b then addV kV (addV kV w w) v else addV kV w w) := by
  have h1 := addP_ok (toLen20_ok ho) (toLen20_ok ho) kP_ok.toLen
  cases b
  · have e : stepP false kP p o = toLen 20 (addP (toLen 20 o) (toLen 20 o) (toLen 5 kP)) := by simp only [stepP, cond_false]; rfl
    rw [e]; exact toLen20_ok h1
  · have e : stepP true kP p o = toLen 20 (addP (toLen 20 (addP (toLen 20 o) (toLen 20 o) (toLen 5 kP))) (toLen 20 p) (toLen 5 kP)) := by simp only [stepP, cond_true]; rfl
    rw [e]; exact toLen20_ok (addP_ok (toLen20_ok h1) (toLen20_ok hp) kP_ok.toLen)
theorem mulP_ok {p : List Int} {v : PV} (hp : IsP p v) (n : ByteArray) : ∀ i, IsP (mulP kP p n i) (mulV (bitS n) v i)
  | 0 => zeroP_ok
  | i + 1 => stepP_ok hp (mulP_ok hp n i)
theorem pickR_eq (b : Bool) (x y : R4) : pickR b x y = bif b then x else y := by cases b <;> rfl
theorem stepR4_ok {b : Bool} {k : List Int} (hk : Rep16 k kV) {p o : R4} {v w : PV} (hp : IsQ p v) (ho : IsQ o w) : IsQ (stepR4 b k p o) (bif b then addV kV (addV kV w w) v else addV kV w w) := by
  have h1 := togR_ok (t4_ok ho) (t4_ok ho) hk
  unfold stepR4
  rw [pickR_eq]
  cases b
  · exact h1
  · exact togR_ok (t4_ok h1) (t4_ok hp) hk
theorem mulPR_ok {p : R4} {v : PV} (hp : IsQ p v) (n : ByteArray) : ∀ i, IsQ (mulPR (t16 kR) p n i) (mulV (bitS n) v i)
  | 0 => zeroPR_ok
  | i + 1 => stepR4_ok kR_ok.toLen hp (mulPR_ok hp n i)
/-! ### Bytes -/
def qxV (v : PV) : Int := v.x * v.z ^ (2 ^ 255 - 21)
def qyV (v : PV) : Int := v.y * v.z ^ (2 ^ 255 - 21)
def topV (y x : Int) : List Int := (List.range 32).map fun i => match i with
  | 31 => orI .u8 (y / 256 ^ 31 % 256) (shlI .u8 (x % 2) 7)
  | i => y / 256 ^ i % 256
def byV (v : PV) : ByteArray := bytesN 32 (topV (qyV v % pF) (qxV v % pF))
theorem and1_u8 {b : Int} (h : 0 ≤ b ∧ b ≤ 255) : andI .u8 b 1 = b % 2 := by
  have key : ∀ n : Fin 256, andI .u8 ((n : Nat) : Int) 1 = ((n : Nat) : Int) % 2 := by decide +kernel
  have e := key ⟨b.toNat, by omega⟩
  simp only [Int.toNat_of_nonneg h.1] at e
  exact e
theorem bytesP_ok {L : List Int} {v : PV} (h : IsP L v) : bytesN 32 (bytesP L) = byV v := by
  obtain ⟨x, y, z, t⟩ := h
  replace y : Rep (yP L) v.y := back1 y
  replace z : Rep (zP L) v.z := back1 z
  have i := Rep.toLen (inv_ok z.pw)
  have hx := (x.M5 i).toLen.bytes
  have hy := (y.M5 i).toLen.bytes
  have : bytesP L = topV (qyV v % pF) (qxV v % pF) := by
    unfold bytesP BF5 topped topV
    rw [hx, hy]
    refine List.map_congr_left fun j hj => ?_
    rw [List.mem_range] at hj
    have e0 := strI_sbyte (qxV v % pF) (i := 0) (by decide)
    have ej := strI_sbyte (qyV v % pF) hj
    have h0 : 0 ≤ qxV v % pF / 256 ^ 0 % 256 ∧ qxV v % pF / 256 ^ 0 % 256 ≤ 255 := by omega
    match j, hj, ej with
    | 31, _, ej =>
      show orI .u8 (sbyte (strI (qyV v % pF)) ((31 : Nat) : Int)) (shlI .u8 (andI .u8 (sbyte (strI (qxV v % pF)) ((0 : Nat) : Int)) 1) 7) = _
      rw [ej, e0, and1_u8 h0]
      congr 2
      rw [Int.pow_zero, Int.ediv_one]
      omega
    | 0, _, ej | 1, _, ej | 2, _, ej | 3, _, ej | 4, _, ej | 5, _, ej | 6, _, ej | 7, _, ej | 8, _, ej | 9, _, ej | 10, _, ej | 11, _, ej | 12, _, ej | 13, _, ej | 14, _, ej | 15, _, ej | 16, _, ej | 17, _, ej | 18, _, ej | 19, _, ej | 20, _, ej | 21, _, ej | 22, _, ej | 23, _, ej | 24, _, ej | 25, _, ej | 26, _, ej | 27, _, ej | 28, _, ej | 29, _, ej | 30, _, ej => exact ej
    | k + 32, hk, _ => omega
  unfold byV
  rw [this]
theorem odd16x {a : List Int} {x : Int} (h : Rep16 a x) : IntKind.u8.wrap ((a.getD 0 0).tmod 2) = x % pF % 2 := by
  have e : x % pF = val 65536 a 16 := h.2.symm
  rw [odd16 h.1.1, ← e, IntKind.wrap_u8]
  omega
theorem bytesPR_ok {p : R4} {v : PV} (h : IsQ p v) : bytesN 32 (bytesPR p) = byV v := by
  obtain ⟨x, y, z, t⟩ := h
  have i := Rep16.toLen (invR_ok z.toLen)
  have hx := x.toLen.mul i
  have hy := (y.toLen.mul i).toLen.bytes
  have ho := odd16x hx
  have : bytesPR p = topV (qyV v % pF) (qxV v % pF) := by
    unfold bytesPR BR16 toppedR topV t16
    rw [hy]
    refine List.map_congr_left fun j hj => ?_
    rw [List.mem_range] at hj
    have ej := strI_sbyte (qyV v % pF) hj
    match j, hj, ej with
    | 31, _, ej =>
      show orI .u8 (sbyte (strI (qyV v % pF)) ((31 : Nat) : Int)) (shlI .u8 (IntKind.u8.wrap (((mulR (toLen 16 p.a) (toLen 16 (invR (toLen 16 p.c)))).getD 0 0).tmod 2)) 7) = _
      rw [ej, ho]
      rfl
    | 0, _, ej | 1, _, ej | 2, _, ej | 3, _, ej | 4, _, ej | 5, _, ej | 6, _, ej | 7, _, ej | 8, _, ej | 9, _, ej | 10, _, ej | 11, _, ej | 12, _, ej | 13, _, ej | 14, _, ej | 15, _, ej | 16, _, ej | 17, _, ej | 18, _, ej | 19, _, ej | 20, _, ej | 21, _, ej | 22, _, ej | 23, _, ej | 24, _, ej | 25, _, ej | 26, _, ej | 27, _, ej | 28, _, ej | 29, _, ej | 30, _, ej => exact ej
    | k + 32, hk, _ => omega
  unfold byV
  rw [this]
end Go.Proofs.Ytkkekjkfafnahaa.Fd
