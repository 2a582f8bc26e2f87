/- RX, part N: arithmetic: the code's operations on numbers that are not too great; digits and the number that they are. No program in sight. -/
import Derived.Test.YtihmhnfjdkkbgaaRxL
import Derived.Laws.Bits64b
import Derived.Laws.BitsAllLaws
import Derived.IntWalk
noncomputable section
namespace Go.Proofs.Ytihmhnfjdkkbgaa.RX
set_option linter.unusedSimpArgs false
open Go Go.RowKit

theorem sbyte_le (s : ByteArray) (i : Int) : 0 ≤ sbyte s i ∧ sbyte s i ≤ 255 := by
  unfold sbyte
  generalize (s.data.toList.getD i.toNat 0) = b
  have := b.toNat_lt
  omega
theorem shrI_eq (k : IntKind) (x : Int) {n : Nat} (h : n ≤ k.bits) : shrI k x n = x / 2 ^ n := by
  unfold shrI
  rw [Nat.min_eq_left h, Int.fdiv_eq_ediv_of_nonneg _ (by exact Int.pow_nonneg (by decide))]
theorem and16 (n : Int) : andI .i64 n 65535 = n % 65536 := by
  have hm : (BitVec.ofInt 64 65535).toNat = 2 ^ 16 - 1 := by decide
  have key : (BitVec.ofInt 64 n &&& BitVec.ofInt 64 65535).toNat = (n % ((2 ^ 64 : Nat) : Int)).toNat % 2 ^ 16 := by
    rw [BitVec.toNat_and, BitVec.toNat_ofInt, hm, Nat.and_two_pow_sub_one_eq_mod]
  show IntKind.i64.wrap ((BitVec.ofInt 64 n &&& BitVec.ofInt 64 65535).toNat : Nat) = n % 65536
  rw [key, IntKind.wrap_i64]
  omega
theorem and1_i64 (n : Int) : andI .i64 n 1 = n % 2 := by
  have hm : (BitVec.ofInt 64 1).toNat = 2 ^ 1 - 1 := by decide
  have key : (BitVec.ofInt 64 n &&& BitVec.ofInt 64 1).toNat = (n % ((2 ^ 64 : Nat) : Int)).toNat % 2 ^ 1 := by
    rw [BitVec.toNat_and, BitVec.toNat_ofInt, hm, Nat.and_two_pow_sub_one_eq_mod]
  show IntKind.i64.wrap ((BitVec.ofInt 64 n &&& BitVec.ofInt 64 1).toNat : Nat) = n % 2
  rw [key, IntKind.wrap_i64]
  omega
theorem and1_u64 (n : Int) : andI .u64 n 1 = n % 2 := by
  have hm : (BitVec.ofInt 64 1).toNat = 2 ^ 1 - 1 := by decide
  have key : (BitVec.ofInt 64 n &&& BitVec.ofInt 64 1).toNat = (n % ((2 ^ 64 : Nat) : Int)).toNat % 2 ^ 1 := by
    rw [BitVec.toNat_and, BitVec.toNat_ofInt, hm, Nat.and_two_pow_sub_one_eq_mod]
  show IntKind.u64.wrap ((BitVec.ofInt 64 n &&& BitVec.ofInt 64 1).toNat : Nat) = n % 2
  rw [key, IntKind.wrap_u64]
  omega
theorem and32_u64 (n : Int) : andI .u64 n 4294967295 = n % 4294967296 := by
  have hm : (BitVec.ofInt 64 4294967295).toNat = 2 ^ 32 - 1 := by decide
  have key : (BitVec.ofInt 64 n &&& BitVec.ofInt 64 4294967295).toNat = (n % ((2 ^ 64 : Nat) : Int)).toNat % 2 ^ 32 := by
    rw [BitVec.toNat_and, BitVec.toNat_ofInt, hm, Nat.and_two_pow_sub_one_eq_mod]
  show IntKind.u64.wrap ((BitVec.ofInt 64 n &&& BitVec.ofInt 64 4294967295).toNat : Nat) = n % 4294967296
  rw [key, IntKind.wrap_u64]
  omega
/-- A number of high bits and one of low bits. -/
theorem or_add (k : Nat) {a b : Nat} (hb : b < 2 ^ k) (h : 2 ^ k * a + b < 18446744073709551616) : orI .u64 ((2 ^ k * a : Nat) : Int) (b : Int) = ((2 ^ k * a + b : Nat) : Int) := by
  unfold orI
  rw [bits_or_u64_nat _ _ (by omega) (by omega), Nat.two_pow_add_eq_or_of_lt hb]
theorem or_comm_u64 (a b : Int) : orI .u64 a b = orI .u64 b a := by simp only [orI, bits, BitVec.or_comm]

/-! ### Digits -/
def val (B : Int) (L : List Int) : Nat → Int
  | 0 => 0
  | n + 1 => val B L n + B ^ n * L.getD n 0
def Dig (B : Int) (L : List Int) (n : Nat) : Prop := ∀ i, i < n → 0 ≤ L.getD i 0 ∧ L.getD i 0 < B
theorem Dig.less {B : Int} {L : List Int} {n m : Nat} (h : Dig B L n) (hm : m ≤ n) : Dig B L m := fun i hi => h i (by omega)
theorem val_lt {B : Int} (hB : 0 < B) {L : List Int} : ∀ {n : Nat}, Dig B L n → 0 ≤ val B L n ∧ val B L n < B ^ n
  | 0, _ => by simp [val]
  | n + 1, h => by
    obtain ⟨h1, h2⟩ := val_lt hB (h.less (Nat.le_succ n))
    obtain ⟨h3, h4⟩ := h n (by omega)
    have hp : 0 < B ^ n := Int.pow_pos hB
    simp only [val]
    refine ⟨Int.add_nonneg h1 (Int.mul_nonneg (by omega) h3), ?_⟩
    rw [Int.pow_succ]
    have h5 : B ^ n * L.getD n 0 ≤ B ^ n * (B - 1) := Int.mul_le_mul_of_nonneg_left (by omega) (by omega)
    rw [Int.mul_sub, Int.mul_one] at h5
    omega
theorem val_congr {B : Int} {L M : List Int} : ∀ {n : Nat}, (∀ i, i < n → L.getD i 0 = M.getD i 0) → val B L n = val B M n
  | 0, _ => rfl
  | n + 1, h => by simp only [val]; rw [val_congr (fun i hi => h i (by omega)), h n (by omega)]
/-- Numbers of digits are the same only digit by digit. -/
theorem val_inj {B : Int} (hB : 0 < B) {L M : List Int} : ∀ {n : Nat}, Dig B L n → Dig B M n → val B L n = val B M n → ∀ i, i < n → L.getD i 0 = M.getD i 0
  | 0, _, _, _, i, hi => by omega
  | n + 1, hl, hm, h, i, hi => by
    obtain ⟨a1, a2⟩ := val_lt hB (hl.less (Nat.le_succ n))
    obtain ⟨b1, b2⟩ := val_lt hB (hm.less (Nat.le_succ n))
    have hp : 0 < B ^ n := Int.pow_pos hB
    simp only [val] at h
    have hd : L.getD n 0 = M.getD n 0 := by
      have e1 : (val B L n + B ^ n * L.getD n 0) / B ^ n = L.getD n 0 := by
        rw [Int.add_mul_ediv_left _ _ (by omega), Int.ediv_eq_zero_of_lt a1 a2]; omega
      have e2 : (val B M n + B ^ n * M.getD n 0) / B ^ n = M.getD n 0 := by
        rw [Int.add_mul_ediv_left _ _ (by omega), Int.ediv_eq_zero_of_lt b1 b2]; omega
      rw [← e1, ← e2, h]
    rcases Nat.lt_or_ge i n with h' | h'
    · refine val_inj hB (hl.less (Nat.le_succ n)) (hm.less (Nat.le_succ n)) ?_ i h'
      rw [hd] at h; omega
    · have : i = n := by omega
      subst this; exact hd
end Go.Proofs.Ytihmhnfjdkkbgaa.RX
