/- The plain law of the package cressetref08: small numbers, inverses, roots; no condition but that digits are digits. -/
import Derived.Test.YtkkekjkfafnahaaFrn
import Derived.Test.YtkkekjkfafnahaaFdp
noncomputable section
namespace Go.Proofs.Ytkkekjkfafnahaa.Fd
open Go Go.RowKit RX
/-- Digits of a number, however great or below 0. -/
theorem div_step (B N : Int) (hB : 0 < B) (n : Nat) : N % B ^ (n + 1) = N % B ^ n + B ^ n * (N / B ^ n % B) := by
  have h1 := Int.emod_add_mul_ediv N (B ^ n)
  have h2 := Int.emod_add_mul_ediv (N / B ^ n) B
  have hp : (0 : Int) < B ^ n := Int.pow_pos hB
  have h3 := Int.emod_nonneg N (show (B ^ n : Int) ≠ 0 by omega)
  have h4 := Int.emod_lt_of_pos N hp
  have h5 : N = (N % B ^ n + B ^ n * (N / B ^ n % B)) + B ^ (n + 1) * (N / B ^ n / B) := by
    rw [Int.pow_succ]
    generalize N / B ^ n % B = b at *
    generalize N / B ^ n / B = c at *
    generalize N / B ^ n = d at *
    subst h2
    generalize N % B ^ n = e at *
    grind
  have h6 := Int.emod_nonneg (N / B ^ n) (show B ≠ 0 by omega)
  have h6' := Int.emod_lt_of_pos (N / B ^ n) hB
  have h7 : B ^ n * (N / B ^ n % B) ≤ B ^ n * (B - 1) := Int.mul_le_mul_of_nonneg_left (by omega) (Int.le_of_lt hp)
  have h8 : 0 ≤ B ^ n * (N / B ^ n % B) := Int.mul_nonneg (Int.le_of_lt hp) h6
  rw [Int.mul_sub, Int.mul_one] at h7
  rw [h5, Int.add_mul_emod_self_left]
  rw [← h5]
  rw [Int.emod_eq_of_lt]
  · omega
  · rw [Int.pow_succ]; omega
theorem val_digits (B N : Int) (hB : 0 < B) (M : Nat) : ∀ n, n ≤ M → val B ((List.range M).map fun i => N / B ^ i % B) n = N % B ^ n
  | 0, _ => by simp [val, Int.emod_one]
  | n + 1, h => by
    simp only [val]
    rw [val_digits B N hB M n (by omega), getD_map_range (by omega), div_step B N hB]
/-- The digits that are added: those of n, and of -1 behind them. -/
def dR (n : Int) : List Int := (List.range 16).map fun i => n / 65536 ^ i % 65536
theorem mR_eq (n : Int) : ∀ i : Nat, mR n i = n / 65536 ^ i
  | 0 => by simp [mR]
  | i + 1 => by
    have hp : (0 : Int) < 65536 ^ i := Int.pow_pos (by decide)
    have e : (2 : Int) ^ 16 = 65536 := by decide
    simp only [mR]
    rw [shrI_eq _ _ (by decide), e, mR_eq n i, show (65536 : Int) ^ (i + 1) = 65536 ^ i * 65536 from Int.pow_succ _ _, ← Int.ediv_ediv_of_nonneg (Int.le_of_lt hp)]
theorem pow_ge {i : Nat} (h : 4 ≤ i) : (18446744073709551616 : Int) ≤ 65536 ^ i := by
  obtain ⟨d, rfl⟩ : ∃ d, i = 4 + d := ⟨i - 4, by omega⟩
  have e4 : (65536 : Int) ^ 4 = 18446744073709551616 := by decide
  have hp : (1 : Int) ≤ 65536 ^ d := by have : (0 : Int) < 65536 ^ d := Int.pow_pos (by decide); omega
  rw [Int.pow_add, e4]
  have := Int.mul_le_mul_of_nonneg_left hp (show (0 : Int) ≤ 18446744073709551616 by decide)
  omega
theorem dR_neg {n : Int} (h : -9223372036854775808 ≤ n ∧ n < 0) {i : Nat} (hi : i < 16) : (dR n).getD i 0 = bif Nat.blt i 4 then andI .i64 (mR n i) 65535 else 65535 := by
  unfold dR
  rw [getD_map_range hi]
  by_cases h4 : i < 4
  · have : Nat.blt i 4 = true := Nat.ble_eq_true_of_le h4
    rw [this, cond_true, and16, mR_eq]
  · have : Nat.blt i 4 = false := Bool.eq_false_iff.2 fun h5 => h4 (Nat.le_of_ble_eq_true h5)
    have hp := pow_ge (show 4 ≤ i by omega)
    have e : n / 65536 ^ i = -1 := by
      generalize (65536 : Int) ^ i = P at *
      have h1 : -n - 1 < P := by omega
      rw [show n = -1 * P + (P + n) by omega, Int.add_comm, Int.add_mul_ediv_right _ _ (by omega), Int.ediv_eq_zero_of_lt (by omega) (by omega)]
      rfl
    rw [this, cond_false, e]
    rfl
theorem xR_ok {n : Int} (h : -9223372036854775808 ≤ n ∧ n < 0) : ∀ i, i < 16 → 0 ≤ xR n i ∧ xR n i ≤ 196608 ∧ xR n i = (if i = 0 then 0 else xR n (i - 1) / 65536) + (modR.getD i 0 + (dR n).getD i 0)
  | 0, hi => by
    have hm := modR_range 0 hi
    have hd : (dR n).getD 0 0 = andI .i64 (mR n 0) 65535 := dR_neg h hi
    have hr : 0 ≤ (dR n).getD 0 0 ∧ (dR n).getD 0 0 < 65536 := by rw [hd, and16]; omega
    simp only [xR]
    rw [← hd, IntWalk.i64_in (_ + (dR n).getD 0 0) (by omega), IntWalk.i64_in _ (by omega)]
    simp only [if_true]
    refine ⟨by omega, by omega, by omega⟩
  | i + 1, hi => by
    have hm := modR_range (i + 1) hi
    obtain ⟨h1, h2, _⟩ := xR_ok h i (by omega)
    have hb : Nat.blt (i + 1) 4 = Nat.blt i 3 := rfl
    have hd : (dR n).getD (i + 1) 0 = bif Nat.blt i 3 then andI .i64 (mR n (i + 1)) 65535 else 65535 := by rw [dR_neg h hi, hb]
    have hr : 0 ≤ (dR n).getD (i + 1) 0 ∧ (dR n).getD (i + 1) 0 < 65536 := by unfold dR; rw [getD_map_range hi]; omega
    have e : (2 : Int) ^ 16 = 65536 := by decide
    simp only [xR]
    rw [← hd, shrI_eq _ _ (by decide), e, IntWalk.i64_in (_ + (dR n).getD (i + 1) 0) (by omega), IntWalk.i64_in _ (by omega)]
    simp only [Nat.add_one_ne_zero, if_false, Nat.add_sub_cancel]
    refine ⟨by omega, by omega, by omega⟩
theorem smallR_ok {n : Int} (h : -9223372036854775808 ≤ n ∧ n ≤ 9223372036854775807) : Rep16 (smallR n) n := by
  by_cases hn : n < 0
  · have hr : -9223372036854775808 ≤ n ∧ n < 0 := ⟨h.1, hn⟩
    have hd : Dig 65536 ((List.range 16).map fun i => andI .i64 (xR n i) 65535) 16 := fun i hi => by rw [getD_map_range hi, and16]; omega
    have hc := carry_val (B := 65536) (L := (List.range 16).map fun i => modR.getD i 0 + (dR n).getD i 0) (out := (List.range 16).map fun i => andI .i64 (xR n i) 65535) (c := fun i => if i = 0 then 0 else xR n (i - 1) / 65536) (c0 := 0) 16 (fun i hi => by
      obtain ⟨_, _, h3⟩ := xR_ok hr i hi
      rw [getD_map_range hi, getD_map_range hi, and16]
      simp only [Nat.add_one_ne_zero, if_false, Nat.add_sub_cancel]
      omega) rfl
    have f : ∀ L : List Int, val 65536 ((List.range 16).map fun i => L.getD i 0) 16 = val 65536 L 16 := fun L => val_congr fun i hi => getD_map_range hi
    have hdv : val 65536 (dR n) 16 = n % 65536 ^ 16 := val_digits 65536 n (by decide) 16 16 (Nat.le_refl 16)
    rw [val_map_add _ _ _ 16 16 (Nat.le_refl 16), f, f, modR_val, hdv, pow256] at hc
    obtain ⟨x1, x2, _⟩ := xR_ok hr 15 (by omega)
    simp only [Nat.reduceSub, show ¬ (16 : Nat) = 0 by decide, if_false] at hc
    have hv := val_lt (by decide) hd
    rw [pow256] at hv
    have key : val 65536 ((List.range 16).map fun i => andI .i64 (xR n i) 65535) 16 = p25 + n := by
      unfold P256 p25 at *
      omega
    obtain ⟨b1, b2⟩ := belowR_ok hd
    unfold smallR
    rw [decide_eq_true hn, cond_true]
    refine ⟨b1, ?_⟩
    rw [b2, key]
    unfold p25
    omega
  · unfold smallR
    rw [decide_eq_false hn, cond_false]
    have hg : ∀ i, i < 16 → ((List.range 16).map fun i => bif Nat.blt i 4 then andI .i64 (shrI .i64 n (16 * i)) 65535 else 0).getD i 0 = n / 65536 ^ i % 65536 := by
      intro i hi
      rw [getD_map_range hi]
      by_cases h4 : i < 4
      · have : Nat.blt i 4 = true := Nat.ble_eq_true_of_le h4
        rw [this, cond_true, and16, shrI_eq _ _ (show 16 * i ≤ 64 by omega), Int.pow_mul]
        rfl
      · have : Nat.blt i 4 = false := Bool.eq_false_iff.2 fun h5 => h4 (Nat.le_of_ble_eq_true h5)
        have hp := pow_ge (show 4 ≤ i by omega)
        rw [this, cond_false, Int.ediv_eq_zero_of_lt (by omega) (by omega)]
        rfl
    have hv : val 65536 ((List.range 16).map fun i => bif Nat.blt i 4 then andI .i64 (shrI .i64 n (16 * i)) 65535 else 0) 16 = n := by
      have e := val_digits 65536 n (by decide) 16 16 (Nat.le_refl 16)
      rw [val_congr (M := (List.range 16).map fun i => n / 65536 ^ i % 65536) (fun i hi => by rw [hg i hi, getD_map_range hi]), e, pow256, Int.emod_eq_of_lt (by omega) (by unfold P256; omega)]
    refine ⟨⟨fun i hi => by rw [hg i hi]; omega, by rw [hv]; unfold p25; omega⟩, ?_⟩
    rw [hv, Int.emod_eq_of_lt (by omega) (by unfold p25; omega)]
theorem powR_ok {a n : List Int} {x : Int} (ha : Rep16 a x) (hn : Dig 65536 n 16) {e : Nat} (he : val 65536 n 16 = (e : Int)) : Rep16 (powR a n) (x ^ e) := by
  have h1 : Rep16 (smallR 1) (x ^ 0) := by rw [Int.pow_zero]; exact smallR_ok (by decide)
  have h := pow_fold ha hn 256 (Nat.le_refl 256) (smallR 1) 0 h1
  have hv := (val_lt (by decide) hn).2
  rw [pow256, he] at hv
  rw [he, Int.toNat_natCast, Nat.mul_zero, Nat.zero_add, Nat.mod_eq_of_lt (by
    have e256 : 2 ^ 256 = 115792089237316195423570985008687907853269984665640564039457584007913129639936 := by decide
    rw [e256]
    unfold P256 at hv
    omega)] at h
  exact h
theorem pow16_ok {a n : List Int} {x : Int} (ha : Rep16 a x) (hn : Dig 65536 (RX.toLen 16 n) 16) {e : Nat} (he : val 65536 (RX.toLen 16 n) 16 = (e : Int)) : Rep16 (pow16 a n) (x ^ e) := powR_ok ha.toLen hn he
theorem invR_ok {a : List Int} {x : Int} (ha : Rep16 a x) : Rep16 (invR a) (x ^ (2 ^ 255 - 21)) := pow16_ok ha (digB_is (by kernel_rfl)) (by decide)

/-! ### Roots -/
theorem guessR_ok {a : List Int} {x : Int} (ha : Rep16 a x) : Rep16 (guessR a) (gV x) := pow16_ok (e := eG) ha (digB_is (by kernel_rfl)) (by kernel_rfl)
theorem iR_ok : Rep16 iR iV := pow16_ok (e := eI) (smallR_ok (n := 2) (by decide)) (digB_is (by kernel_rfl)) (by kernel_rfl)
theorem sameR_eq (a b : List Int) : ∀ k, k ≤ 16 → (sameR a b k = true ↔ ∀ i, 16 - k ≤ i → i < 16 → a.getD i 0 = b.getD i 0)
  | 0, _ => ⟨fun _ i h1 h2 => by omega, fun _ => rfl⟩
  | k + 1, hk => by
    have ih := sameR_eq a b k (by omega)
    simp only [sameR]
    by_cases e : a.getD (15 - k) 0 = b.getD (15 - k) 0
    · have : (a.getD (15 - k) 0 != b.getD (15 - k) 0) = false := by simpa using e
      rw [this, cond_false, ih]
      constructor
      · intro h i h1 h2
        by_cases hi : i = 15 - k
        · subst hi; exact e
        · exact h i (by omega) h2
      · intro h i h1 h2
        exact h i (by omega) h2
    · have : (a.getD (15 - k) 0 != b.getD (15 - k) 0) = true := by simpa using e
      rw [this, cond_true]
      constructor
      · intro h; cases h
      · intro h; exact absurd (h (15 - k) (by omega) (by omega)) e
theorem same_ok {a b : List Int} {x y : Int} (ha : Rep16 a x) (hb : Rep16 b y) : same16 a b = decide (x % p25 = y % p25) := by
  have h := sameR_eq (RX.toLen 16 a) (RX.toLen 16 b) 16 (Nat.le_refl 16)
  rw [Bool.eq_iff_iff, decide_eq_true_eq]
  unfold same16
  rw [h, ← ha.2, ← hb.2]
  constructor
  · intro h
    rw [← val_toLen (L := a) (Nat.le_refl 16), ← val_toLen (L := b) (Nat.le_refl 16)]
    exact val_congr fun i hi => h i (by omega) hi
  · intro h i _ hi
    rw [toLen_getD hi, toLen_getD hi]
    exact val_inj (by decide) ha.1.1 hb.1.1 h i hi
theorem notR_ok {a : List Int} {x : Int} (ha : Rep16 a x) : notR a = !decide (gV x * gV x % p25 = x % p25) := by
  have hg := guessR_ok ha
  unfold notR
  rw [same_ok (hg.mul16 hg) ha]
theorem firstR_ok {a : List Int} {x : Int} (ha : Rep16 a x) : Rep16 (firstR a) (fV x) := by
  have hg := guessR_ok ha
  have hn := notR_ok ha
  unfold firstR fV
  by_cases c : gV x * gV x % pF = x % pF
  · have c' : gV x * gV x % p25 = x % p25 := c
    rw [hn, decide_eq_true c', Bool.not_true, cond_false, if_pos c]
    exact hg
  · have c' : ¬ gV x * gV x % p25 = x % p25 := c
    rw [hn, decide_eq_false c', Bool.not_false, cond_true, if_neg c]
    exact hg.mul16 iR_ok
theorem againR_eq (a : List Int) : againR a = a := by unfold againR; exact Bool.cond_self _ _
theorem noneR_ok {a : List Int} {x : Int} (ha : Rep16 a x) : noneR a = !decide (fV x * fV x % p25 = x % p25) := by
  have hf := firstR_ok ha
  unfold noneR
  rw [againR_eq, same_ok (hf.mul16 hf) ha]
theorem hasR_ok {a : List Int} {x : Int} (ha : Rep16 a x) : hasR a = hV x := by
  unfold hasR hV
  rw [noneR_ok ha]
  show _ = decide (fV x * fV x % p25 = x % p25)
  cases decide (fV x * fV x % p25 = x % p25) <;> rfl
theorem zeroR_ok : Rep16 (RX.toLen 16 zeroR) 0 := ⟨⟨digB_is (by kernel_rfl), by decide⟩, by decide⟩
theorem odd16 {a : List Int} (h : Dig 65536 a 16) : (a.getD 0 0).tmod 2 = val 65536 a 16 % 2 := by
  have h0 := h 0 (by omega)
  have hd := digit_in (b := 2) (by decide) (w := 16) (a := a) (n := 16) (j := 0) (m := 0) h (by omega) (by omega)
  have e16 : (2 : Int) ^ 16 = 65536 := by decide
  rw [e16] at hd
  simp only [Nat.mul_zero, Nat.add_zero, Int.pow_zero, Int.ediv_one] at hd
  rw [hd, Int.tmod_eq_emod_of_nonneg h0.1]
theorem evenR_ok {a : List Int} {x : Int} (ha : Rep16 a x) : Rep16 (evenR a) (if fV x % pF % 2 = 1 then 0 - fV x else fV x) := by
  have hf := firstR_ok ha
  have ho := odd16 hf.1.1
  rw [hf.2] at ho
  unfold evenR
  rw [ho]
  by_cases c : fV x % pF % 2 = 1
  · have c' : (fV x % p25 % 2 == 1) = true := by rw [show fV x % p25 % 2 = 1 from c]; rfl
    rw [c', cond_true, if_pos c]
    exact zeroR_ok.sub hf.toLen
  · have c0 : fV x % p25 % 2 = 0 := by have : ¬ fV x % p25 % 2 = 1 := c; omega
    have c' : (fV x % p25 % 2 == 1) = false := by rw [c0]; rfl
    rw [c', cond_false, if_neg c]
    exact hf
theorem rootR_ok {a : List Int} {x : Int} (ha : Rep16 a x) : Rep16 (rootR a) (rV x) := by
  have hn := noneR_ok ha
  unfold rootR rV
  rw [hn]
  by_cases c : fV x * fV x % pF = x % pF
  · have c' : fV x * fV x % p25 = x % p25 := c
    rw [decide_eq_true c', Bool.not_true, cond_false, if_pos c]
    exact evenR_ok ha
  · have c' : ¬ fV x * fV x % p25 = x % p25 := c
    rw [decide_eq_false c', Bool.not_false, cond_true, if_neg c]
    exact zeroR_ok
end Go.Proofs.Ytkkekjkfafnahaa.Fd
