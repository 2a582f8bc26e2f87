/- The plain law of the ladder: Share of both sides is the same. -/
import Derived.Test.YtkkekjkfafnahaaLdm
noncomputable section
namespace Go.Proofs.Ytkkekjkfafnahaa.Fd
open Go Go.RowKit RX
set_option linter.unusedSimpArgs false
theorem ladL_ok {k u : List Int} {x : Int} (hk : toLen 32 k = k) (hl : toLen 5 u = u) (hu : Rep u x) : ∀ n, Is4 (ladL k u n) (ladV (bitL k) x n)
  | 0 => by
    have p := cat4_part (smallF 1) (smallF 0) u (smallF 1)
    unfold Is4 ladL startL ladV
    rw [p.1, p.2.1, p.2.2.1, p.2.2.2]
    exact ⟨s5 (n := 1), s5 (n := 0), hu.toLen, s5 (n := 1)⟩
  | n + 1 => by
    unfold ladL ladV
    rw [kkL_eq (u := u) hk, uuL_eq hl]
    exact stepL_ok (ladL_ok hk hl hu n) hu _
theorem ladR_ok {k u : List Int} {x : Int} (hk : toLen 32 k = k) (hu : Rep16 u x) : ∀ n, Is4R (ladR k u n) (ladV (bitR k) x n)
  | 0 => ⟨smallR_ok (n := 1) (by decide), smallR_ok (n := 0) (by decide), hu, smallR_ok (n := 1) (by decide)⟩
  | n + 1 => by
    unfold ladR ladV
    rw [kkR_eq hk, uuR_eq, keepR_eq]
    exact swapR_ok (upR_ok (swapR_ok (ladR_ok hk hu n) _) hu) _
theorem andNot7 {b : Int} (h : 0 ≤ b ∧ b ≤ 255) : bits .andNot .u8 b 7 = andI .u8 b 248 := by
  have key : ∀ n : Fin 256, bits .andNot .u8 ((n : Nat) : Int) 7 = andI .u8 ((n : Nat) : Int) 248 := by decide +kernel
  have e := key ⟨b.toNat, by omega⟩
  simp only [Int.toNat_of_nonneg h.1] at e
  exact e
theorem scalar_eq (s : ByteArray) : scalarL s = scalarR s := by
  unfold scalarL scalarR
  refine List.map_congr_left fun i hi => ?_
  match i with
  | 0 => exact andNot7 (sbyte_le s 0)
  | 31 => rfl
  | 1 | 2 | 3 | 4 | 5 | 6 | 7 | 8 | 9 | 10 | 11 | 12 | 13 | 14 | 15 | 16 | 17 | 18 | 19 | 20 | 21 | 22 | 23 | 24 | 25 | 26 | 27 | 28 | 29 | 30 => rfl
  | n + 32 => simp at hi; omega
theorem scalarL_len (s : ByteArray) : toLen 32 (scalarL s) = scalarL s := rfl
/-- The quotient of both sides. -/
def qV (k : List Int) (x : Int) : Int := (ladV (bitL k) x 255).a * (ladV (bitL k) x 255).b ^ (2 ^ 255 - 21)
theorem bit_eq (k : List Int) : bitR k = bitL k := rfl
theorem quotL_ok {k u : List Int} {x : Int} (hk : toLen 32 k = k) (hl : toLen 5 u = u) (hu : Rep u x) : Rep (quotL k u) (qV k x) := by
  obtain ⟨a, b, _, _⟩ := ladL_ok hk hl hu 255
  exact a.mul (Rep.toLen (inv_ok b.pw))
theorem quotR_ok {k u : List Int} {x : Int} (hk : toLen 32 k = k) (hu : Rep16 u x) : Rep16 (quotR k u) (qV k x) := by
  obtain ⟨a, b, _, _⟩ := ladR_ok hk hu 255
  exact a.toLen.mul (Rep16.toLen (invR_ok b.toLen))
theorem zL_ok {k u : List Int} {x : Int} (h : Rep (quotL k u) x) : zL k u = decide (x % pF = 0) := by
  have hj := Rep.inj h (smallF_ok (n := 0) (by decide))
  unfold zL small5
  rw [Bool.eq_iff_iff, beq_iff_eq, decide_eq_true_eq, hj]
  rfl
theorem zeros_is : strOfNums (List.replicate 32 0) = strI 0 := by decide +kernel
theorem zR_ok {k u : List Int} {x : Int} (h : Rep16 (quotR k u) x) : zR k u = decide (x % pF = 0) := by
  unfold zR
  rw [BR_ok h, toList_beq, zeros_is]
  have hm := mod_p x
  rw [Bool.eq_iff_iff, decide_eq_true_eq, decide_eq_true_eq, strI_inj hm ⟨by decide, by decide⟩]
end Go.Proofs.Ytkkekjkfafnahaa.Fd
