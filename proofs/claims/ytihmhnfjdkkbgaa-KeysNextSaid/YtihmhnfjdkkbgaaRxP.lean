/- RX, part P: digits, bytes, and the numbers that they are. No program in sight. -/
import Derived.Test.YtihmhnfjdkkbgaaRxN
import Derived.Laws.Strings
noncomputable section
namespace Go.Proofs.Ytihmhnfjdkkbgaa.RX
set_option linter.unusedSimpArgs false
open Go Go.RowKit

theorem getD_map_range {f : Nat → Int} {n i : Nat} (h : i < n) : ((List.range n).map f).getD i 0 = f i := by simp [h]
/-- Bytes as a number. -/
def valS (s : ByteArray) (n : Nat) : Int := val 256 ((List.range n).map fun (i : Nat) => sbyte s i) n
theorem valS_succ (s : ByteArray) (n : Nat) : valS s (n + 1) = valS s n + 256 ^ n * sbyte s n := by
  unfold valS
  simp only [val]
  rw [getD_map_range (by omega)]
  congr 1
  refine val_congr fun i hi => ?_
  rw [getD_map_range (by omega), getD_map_range hi]
theorem valS_add (s : ByteArray) (n : Nat) : ∀ m, m ≤ 8 → valS s (n + m) = valS s n + 256 ^ n * val 256 ((List.range 8).map fun (i : Nat) => sbyte s (n + i : Nat)) m
  | 0, _ => by simp [val]
  | m + 1, h => by
    rw [← Nat.add_assoc, valS_succ, valS_add s n m (by omega)]
    simp only [val]
    rw [getD_map_range (by omega), Int.pow_add, Int.mul_add]
    simp only [Int.mul_assoc, Int.add_assoc]
theorem val_toLen {B : Int} {L : List Int} {n m : Nat} (h : m ≤ n) : val B (toLen n L) m = val B L m := val_congr fun i hi => toLen_getD (by omega)
theorem Dig.toLen {B : Int} {L : List Int} {n : Nat} (h : Dig B L n) : Dig B (toLen n L) n := fun i hi => by rw [toLen_getD hi]; exact h i hi
theorem emod_succ (v : Int) (m : Nat) : v % 2 ^ (m + 1) = 2 ^ m * (v / 2 ^ m % 2) + v % 2 ^ m := by
  have h1 := Int.emod_add_mul_ediv v (2 ^ m)
  have h2 := Int.emod_add_mul_ediv (v / 2 ^ m) 2
  have hp : (0 : Int) < 2 ^ m := Int.pow_pos (by decide)
  have h3 := Int.emod_nonneg v (show (2 ^ m : Int) ≠ 0 by omega)
  have h4 := Int.emod_lt_of_pos v hp
  have h5 : v = (v % 2 ^ m + 2 ^ m * (v / 2 ^ m % 2)) + 2 ^ (m + 1) * (v / 2 ^ m / 2) := by
    rw [Int.pow_succ]
    generalize v / 2 ^ m % 2 = b at *
    generalize v / 2 ^ m / 2 = c at *
    generalize v / 2 ^ m = d at *
    subst h2
    generalize v % 2 ^ m = e at *
    grind
  have h6 : v / 2 ^ m % 2 = 0 ∨ v / 2 ^ m % 2 = 1 := by omega
  rw [h5, Int.add_mul_emod_self_left]
  rw [← h5]
  rw [Int.emod_eq_of_lt]
  · omega
  · rcases h6 with e | e <;> rw [e] <;> omega
  · rw [Int.pow_succ]
    rcases h6 with e | e <;> rw [e] <;> omega
/-- Sums with what is carried: c is what is carried into the next digit. -/
theorem carry_val {B : Int} {L out : List Int} {c : Nat → Int} {c0 : Int} : ∀ n, (∀ i, i < n → out.getD i 0 + B * c (i + 1) = c i + L.getD i 0) → c 0 = c0 → val B out n + B ^ n * c n = c0 + val B L n
  | 0, _, h0 => by simp [val, h0]
  | n + 1, h, h0 => by
    have ih := carry_val n (fun i hi => h i (by omega)) h0
    have hn := h n (by omega)
    simp only [val, Int.pow_succ]
    generalize B ^ n = w at *
    generalize c (n + 1) = x at *
    generalize c n = y at *
    generalize out.getD n 0 = o at *
    generalize L.getD n 0 = l at *
    generalize val B out n = p at *
    generalize val B L n = q at *
    grind
/-- The bytes of a number. -/
def bytI (N : Int) (n : Nat) : List Int := (List.range n).map fun i => N / 256 ^ i % 256
theorem val_split (B : Int) (a : List Int) (j : Nat) : ∀ n, j < n → ∃ t, val B a n = val B a j + B ^ j * (a.getD j 0 + B * t)
  | 0, h => by omega
  | n + 1, h => by
    by_cases e : j = n
    · subst e; exact ⟨0, by simp [val]⟩
    · obtain ⟨t, ht⟩ := val_split B a j n (by omega)
      obtain ⟨d, rfl⟩ : ∃ d, n = j + 1 + d := ⟨n - j - 1, by omega⟩
      refine ⟨t + B ^ d * a.getD (j + 1 + d) 0, ?_⟩
      simp only [val, ht]
      rw [Int.pow_add, Int.pow_succ]
      grind
theorem digit_byte {w : Nat} {a : List Int} {n j m : Nat} (ha : Dig (256 ^ w) a n) (hj : j < n) (hm : m < w) : val (256 ^ w) a n / 256 ^ (w * j + m) % 256 = a.getD j 0 / 256 ^ m % 256 := by
  obtain ⟨t, ht⟩ := val_split (256 ^ w) a j n hj
  have hB : (0 : Int) < 256 ^ w := Int.pow_pos (by decide)
  obtain ⟨l1, l2⟩ := val_lt hB (ha.less (Nat.le_of_lt hj))
  have hp : (0 : Int) < (256 ^ w) ^ j := Int.pow_pos hB
  have hq : (0 : Int) < 256 ^ m := Int.pow_pos (by decide)
  rw [Int.pow_add, Int.pow_mul, ← Int.ediv_ediv_of_nonneg (Int.le_of_lt hp), ht, Int.add_mul_ediv_left _ _ (by omega), Int.ediv_eq_zero_of_lt l1 l2, Int.zero_add]
  obtain ⟨d, rfl⟩ : ∃ d, w = m + 1 + d := ⟨w - m - 1, by omega⟩
  have e : a.getD j 0 + 256 ^ (m + 1 + d) * t = a.getD j 0 + 256 ^ m * (256 * (256 ^ d * t)) := by
    rw [Int.pow_add, Int.pow_succ]
    grind
  rw [e, Int.add_mul_ediv_left _ _ (by omega), Int.add_mul_emod_self_left]
/-- Bytes of a number as a string. -/
def strI (N : Int) : ByteArray := bytesN 32 (bytI N 32)
theorem mul_le {a b A B : Int} (ha : 0 ≤ a) (hb : 0 ≤ b) (hA : a ≤ A) (hB : b ≤ B) : 0 ≤ a * b ∧ a * b ≤ A * B :=
  ⟨Int.mul_nonneg ha hb, Int.mul_le_mul hA hB hb (by omega)⟩
theorem getD_set {L : List Int} {j i : Nat} {v : Int} (hj : j < L.length) : (L.set j v).getD i 0 = if i = j then v else L.getD i 0 := by
  simp only [List.getD_eq_getElem?_getD, List.getElem?_set]
  by_cases e : j = i
  · subst e; simp [hj]
  · rw [if_neg e, if_neg (fun e' => e e'.symm)]
theorem val_set {B : Int} {L : List Int} {j : Nat} {v : Int} (hj : j < L.length) : ∀ n, j < n → val B (L.set j v) n = val B L n + B ^ j * (v - L.getD j 0)
  | 0, h => by omega
  | n + 1, h => by
    simp only [val]
    rw [getD_set hj]
    by_cases e : j = n
    · subst e
      rw [if_pos rfl, val_congr (L := L.set j v) (M := L) (fun i hi => by rw [getD_set hj, if_neg (by omega)]), Int.mul_sub]
      omega
    · rw [if_neg (fun e' => e e'.symm), val_set hj n (by omega)]
      omega
theorem Dig.set {B : Int} {L : List Int} {j n : Nat} {v : Int} (h : Dig B L n) (hj : j < L.length) (hv : 0 ≤ v ∧ v < B) : Dig B (L.set j v) n := by
  intro i hi
  rw [getD_set hj]
  split
  · exact hv
  · exact h i hi
/-- Sums of the digits of one number at another place. -/
theorem shift_val (B : Int) (y : List Int) (q : Int) (i m : Nat) : ∀ n, val B ((List.range n).map fun j => if i ≤ j ∧ j < i + m then q * y.getD (j - i) 0 else 0) n = if n ≤ i then 0 else B ^ i * (q * val B y (min (n - i) m))
  | 0 => by simp [val]
  | n + 1 => by
    simp only [val]
    rw [getD_map_range (by omega)]
    have hc : val B ((List.range (n + 1)).map fun j => if i ≤ j ∧ j < i + m then q * y.getD (j - i) 0 else 0) n = val B ((List.range n).map fun j => if i ≤ j ∧ j < i + m then q * y.getD (j - i) 0 else 0) n :=
      val_congr fun k hk => by rw [getD_map_range (by omega), getD_map_range hk]
    rw [hc, shift_val B y q i m n]
    by_cases h1 : n + 1 ≤ i
    · rw [if_pos (by omega), if_pos h1, if_neg (by omega)]; simp
    · by_cases h2 : n < i + m
      · rw [if_neg h1, if_pos (show i ≤ n ∧ n < i + m by omega)]
        by_cases h3 : n ≤ i
        · have e : n = i := by omega
          subst e
          rw [if_pos h3, show min (n + 1 - n) m = 0 + 1 by omega]
          simp [val]
        · rw [if_neg h3, show min (n + 1 - i) m = (n - i) + 1 by omega, show min (n - i) m = n - i by omega]
          obtain ⟨d, rfl⟩ : ∃ d, n = i + d := ⟨n - i, by omega⟩
          simp only [val, Nat.add_sub_cancel_left]
          rw [Int.pow_add]
          grind
      · by_cases h3 : n ≤ i
        · have e1 : n = i := by omega
          have e2 : m = 0 := by omega
          subst e1 e2
          simp [val]
        · rw [if_neg h1, if_neg (show ¬ (i ≤ n ∧ n < i + m) by omega), if_neg h3, show min (n + 1 - i) m = min (n - i) m by omega]
          simp
theorem val_map_add (B : Int) (f g : Nat → Int) (N : Nat) : ∀ n, n ≤ N → val B ((List.range N).map fun j => f j + g j) n = val B ((List.range N).map f) n + val B ((List.range N).map g) n
  | 0, _ => rfl
  | n + 1, h => by
    simp only [val]
    rw [val_map_add B f g N n (by omega), getD_map_range (by omega), getD_map_range (by omega), getD_map_range (by omega)]
    grind
theorem val_one (B : Int) (i : Nat) (q : Int) (N : Nat) : ∀ n, n ≤ N → val B ((List.range N).map fun j => if i = j then q else 0) n = if i < n then B ^ i * q else 0
  | 0, _ => by simp [val]
  | n + 1, h => by
    simp only [val]
    rw [val_one B i q N n (by omega), getD_map_range (by omega)]
    by_cases e : i = n
    · subst e; simp
    · rw [if_neg e]
      by_cases h2 : i < n
      · rw [if_pos h2, if_pos (by omega)]; simp
      · rw [if_neg h2, if_neg (by omega)]; simp
theorem val4 (B : Int) (a : List Int) : val B a 4 = a.getD 0 0 + B * a.getD 1 0 + B ^ 2 * a.getD 2 0 + B ^ 3 * a.getD 3 0 := by
  simp only [val, Int.pow_succ, Int.pow_zero, Int.one_mul, Int.zero_add]

/-- A digit's digits are the number's. -/
theorem digit_in {b : Int} (hb : 0 < b) {w : Nat} {a : List Int} {n j m : Nat} (ha : Dig (b ^ w) a n) (hj : j < n) (hm : m < w) : val (b ^ w) a n / b ^ (w * j + m) % b = a.getD j 0 / b ^ m % b := by
  obtain ⟨t, ht⟩ := val_split (b ^ w) a j n hj
  have hB : (0 : Int) < b ^ w := Int.pow_pos hb
  obtain ⟨l1, l2⟩ := val_lt hB (ha.less (Nat.le_of_lt hj))
  have hp : (0 : Int) < (b ^ w) ^ j := Int.pow_pos hB
  have hq : (0 : Int) < b ^ m := Int.pow_pos hb
  rw [Int.pow_add, Int.pow_mul, ← Int.ediv_ediv_of_nonneg (Int.le_of_lt hp), ht, Int.add_mul_ediv_left _ _ (by omega), Int.ediv_eq_zero_of_lt l1 l2, Int.zero_add]
  obtain ⟨d, rfl⟩ : ∃ d, w = m + 1 + d := ⟨w - m - 1, by omega⟩
  have e : a.getD j 0 + b ^ (m + 1 + d) * t = a.getD j 0 + b ^ m * (b * (b ^ d * t)) := by
    rw [Int.pow_add, Int.pow_succ]
    grind
  rw [e, Int.add_mul_ediv_left _ _ (by omega), Int.add_mul_emod_self_left]
theorem bits_or_u8 (a b : Nat) (ha : a < 256) (hb : b < 256) : bits .or .u8 (a : Int) (b : Int) = ((a ||| b : Nat) : Int) := by
  have hx : a ||| b < 2 ^ 8 := Nat.or_lt_two_pow (by omega) (by omega)
  have h1 : (BitVec.ofInt 8 (a : Int)).toNat = a := by
    rw [BitVec.ofInt_natCast, BitVec.toNat_ofNat]; exact Nat.mod_eq_of_lt (by omega)
  have h2 : (BitVec.ofInt 8 (b : Int)).toNat = b := by
    rw [BitVec.ofInt_natCast, BitVec.toNat_ofNat]; exact Nat.mod_eq_of_lt (by omega)
  show IntKind.u8.wrap ((BitVec.ofInt 8 (a : Int) ||| BitVec.ofInt 8 (b : Int)).toNat : Int) = _
  rw [BitVec.toNat_or, h1, h2, IntKind.wrap_u8]
  omega
/-- One bit more of a byte. -/
theorem or_bit8 {a x : Int} {m : Nat} (hm : m < 8) (ha : 0 ≤ a ∧ a < 2 ^ m) (hx : x = 0 ∨ x = 1) : orI .u8 a (shlI .u8 x m) = 2 ^ m * x + a := by
  obtain ⟨a', rfl⟩ := Int.eq_ofNat_of_zero_le ha.1
  obtain ⟨x', rfl⟩ : ∃ x' : Nat, x = (x' : Int) := ⟨x.toNat, by omega⟩
  have hp : 2 ^ m ≤ 128 := by
    have : m = 0 ∨ m = 1 ∨ m = 2 ∨ m = 3 ∨ m = 4 ∨ m = 5 ∨ m = 6 ∨ m = 7 := by omega
    rcases this with rfl | rfl | rfl | rfl | rfl | rfl | rfl | rfl <;> decide
  have hxa : x' ≤ 1 := by omega
  have ha' : a' < 2 ^ m := by have := ha.2; exact_mod_cast this
  have h3 : 2 ^ m * x' ≤ 128 := Nat.le_trans (Nat.mul_le_mul_left _ hxa) (by omega)
  have e1 : shlI .u8 (x' : Int) m = ((2 ^ m * x' : Nat) : Int) := by
    unfold shlI
    rw [Nat.min_eq_left (by show m ≤ 8; omega)]
    have : (x' : Int) * 2 ^ m = ((2 ^ m * x' : Nat) : Int) := by push_cast; exact Int.mul_comm _ _
    rw [this, IntKind.wrap_u8]
    omega
  rw [e1]
  unfold orI
  rw [bits_or_u8 _ _ (by omega) (by omega), Nat.or_comm, ← Nat.two_pow_add_eq_or_of_lt ha']
  push_cast
  rfl

/-- A byte behind what is there. -/
theorem or_byte64 {v b : Int} {k : Nat} (hk : k ≤ 56) (hv : 0 ≤ v ∧ v < 2 ^ k) (hb : 0 ≤ b ∧ b ≤ 255) : orI .u64 v (shlI .u64 b k) = v + 2 ^ k * b := by
  obtain ⟨v', rfl⟩ := Int.eq_ofNat_of_zero_le hv.1
  obtain ⟨b', rfl⟩ := Int.eq_ofNat_of_zero_le hb.1
  have hp : 2 ^ k ≤ 2 ^ 56 := Nat.pow_le_pow_right (by decide) hk
  have hv' : v' < 2 ^ k := by have := hv.2; exact_mod_cast this
  have hm : 2 ^ k * b' ≤ 2 ^ 56 * 255 := Nat.mul_le_mul hp (by omega)
  have e56 : 2 ^ 56 = 72057594037927936 := by decide
  have e1 : shlI .u64 (b' : Int) k = ((2 ^ k * b' : Nat) : Int) := by
    unfold shlI
    rw [Nat.min_eq_left (by show k ≤ 64; omega)]
    have : (b' : Int) * 2 ^ k = ((2 ^ k * b' : Nat) : Int) := by push_cast; exact Int.mul_comm _ _
    rw [this]
    exact IntWalk.u64_in _ (by omega)
  rw [e1, or_comm_u64, or_add k hv' (by omega)]
  push_cast
  exact Int.add_comm _ _
theorem val_drop (B : Int) (L : List Int) (m : Nat) : ∀ n, val B L (m + n) = val B L m + B ^ m * val B (L.drop m) n
  | 0 => by simp [val]
  | n + 1 => by
    have e : (L.drop m).getD n 0 = L.getD (m + n) 0 := by simp only [List.getD_eq_getElem?_getD, List.getElem?_drop]
    rw [← Nat.add_assoc]
    simp only [val]
    rw [val_drop B L m n, e, Int.pow_add]
    grind
theorem val_scale (B q : Int) (f : Nat → Int) (N : Nat) : ∀ n, n ≤ N → val B ((List.range N).map fun j => q * f j) n = q * val B ((List.range N).map f) n
  | 0, _ => by simp [val]
  | n + 1, h => by
    simp only [val]
    rw [val_scale B q f N n (by omega), getD_map_range (by omega), getD_map_range (by omega)]
    grind
theorem val_le {B M : Int} (hB : 2 ≤ B) (hM : 0 ≤ M) {L : List Int} : ∀ n, (∀ i, i < n → 0 ≤ L.getD i 0 ∧ L.getD i 0 ≤ M) → 0 ≤ val B L n ∧ val B L n ≤ M * B ^ n
  | 0, _ => by simp [val]; exact hM
  | n + 1, h => by
    obtain ⟨h1, h2⟩ := val_le hB hM n (fun i hi => h i (by omega))
    obtain ⟨h3, h4⟩ := h n (by omega)
    have hp : 0 < B ^ n := Int.pow_pos (by omega)
    have h5 : B ^ n * L.getD n 0 ≤ B ^ n * M := Int.mul_le_mul_of_nonneg_left h4 (Int.le_of_lt hp)
    have h6 : 0 ≤ B ^ n * L.getD n 0 := Int.mul_nonneg (Int.le_of_lt hp) h3
    have h7 : (M * B ^ n) * 2 ≤ (M * B ^ n) * B := Int.mul_le_mul_of_nonneg_left hB (Int.mul_nonneg hM (Int.le_of_lt hp))
    simp only [val]
    rw [Int.pow_succ]
    refine ⟨by omega, ?_⟩
    have e1 : B ^ n * M = M * B ^ n := Int.mul_comm _ _
    have e2 : M * (B ^ n * B) = M * B ^ n * B := (Int.mul_assoc _ _ _).symm
    rw [e2]
    rw [e1] at h5
    omega
def digB (B : Int) (L : List Int) (n : Nat) : Bool := (List.range n).all fun i => decide (0 ≤ L.getD i 0 ∧ L.getD i 0 < B)
theorem digB_is {B : Int} {L : List Int} {n : Nat} (h : digB B L n = true) : Dig B L n := fun i hi => of_decide_eq_true (List.all_eq_true.1 h i (List.mem_range.2 hi))

/-! ### Strings by their bytes -/
theorem sbyte_nat (s : ByteArray) (i : Nat) : sbyte s (i : Int) = ((s.data.toList.getD i 0).toNat : Int) := by unfold sbyte; rw [Int.toNat_natCast]
theorem str_ext {s t : ByteArray} (hs : s.size = t.size) (h : ∀ i : Nat, i < s.size → sbyte s i = sbyte t i) : s = t := by
  have hd : s.data.toList = t.data.toList := by
    apply List.ext_getElem
    · have h1 : s.data.toList.length = s.size := by simp
      have h2 : t.data.toList.length = t.size := by simp
      omega
    · intro i h1 h2
      have hi := h i (by simpa using h1)
      rw [sbyte_nat, sbyte_nat] at hi
      simp only [List.getD_eq_getElem?_getD, List.getElem?_eq_getElem h1, List.getElem?_eq_getElem h2, Option.getD_some] at hi
      exact UInt8.toNat_inj.1 (by omega)
  cases s with
  | mk ds =>
    cases t with
    | mk dt =>
      congr 1
      exact Array.toList_inj.1 hd
theorem toList_beq (s t : ByteArray) : (s.toList == t.toList) = decide (s = t) := by
  rw [Bool.eq_iff_iff]
  simp only [beq_iff_eq, decide_eq_true_eq, ByteArray.toList_eq]
  constructor
  · intro h
    cases s; cases t
    congr 1
    exact Array.toList_inj.1 h
  · rintro rfl; rfl
theorem sbyte_strOfNums {xs : List Int} {i : Nat} (hi : i < xs.length) (hx : 0 ≤ xs.getD i 0 ∧ xs.getD i 0 ≤ 255) : sbyte (strOfNums xs) i = xs.getD i 0 := by
  rw [sbyte_nat, strOfNums_data]
  simp only [List.getD_eq_getElem?_getD, List.getElem?_map, List.getElem?_eq_getElem hi, Option.map_some, Option.getD_some] at hx ⊢
  rw [UInt8.toNat_ofNat']
  omega
theorem sbyte_append_left {s t : ByteArray} {i : Nat} (h : i < s.size) : sbyte (s ++ t) i = sbyte s i := by
  rw [sbyte_nat, sbyte_nat]
  have h1 : i < s.data.toList.length := by simpa using h
  have e : (s ++ t).data.toList = s.data.toList ++ t.data.toList := by simp
  rw [e]
  simp only [List.getD_eq_getElem?_getD, List.getElem?_append_left h1]
theorem sbyte_append_right {s t : ByteArray} {i : Nat} (h : s.size ≤ i) : sbyte (s ++ t) i = sbyte t (i - s.size : Nat) := by
  rw [sbyte_nat, sbyte_nat]
  have h1 : s.data.toList.length ≤ i := by simpa using h
  have e : (s ++ t).data.toList = s.data.toList ++ t.data.toList := by simp
  rw [e]
  have h2 : s.data.toList.length = s.size := by simp
  simp only [List.getD_eq_getElem?_getD, List.getElem?_append_right h1, h2]
theorem sbyte_extract {s : ByteArray} {a b i : Nat} (h : a + i < b) : sbyte (s.extract a b) i = sbyte s (a + i : Nat) := by
  rw [sbyte_nat, sbyte_nat]
  have e : (s.extract a b).data.toList = (s.data.toList.drop a).take (b - a) := by simp [List.take_drop]
  rw [e]
  simp only [List.getD_eq_getElem?_getD, List.getElem?_take_of_lt (show i < b - a by omega), List.getElem?_drop]
theorem bytesN_sbyte {n : Nat} {L : List Int} {i : Nat} (hi : i < n) (h : 0 ≤ L.getD i 0 ∧ L.getD i 0 ≤ 255) : sbyte (bytesN n L) i = L.getD i 0 := by
  unfold bytesN
  have e := toLen_getD (L := L) hi
  rw [sbyte_strOfNums (by rw [toLen_length]; exact hi) (by rw [e]; exact h), e]
theorem strI_size (N : Int) : (strI N).size = 32 := bytesN_size _ _
theorem strI_sbyte (N : Int) {i : Nat} (h : i < 32) : sbyte (strI N) i = N / 256 ^ i % 256 := by
  unfold strI
  have e : (bytI N 32).getD i 0 = N / 256 ^ i % 256 := by unfold bytI; rw [getD_map_range h]
  rw [bytesN_sbyte h (by rw [e]; omega), e]
theorem valS_dig (s : ByteArray) (n : Nat) : Dig 256 ((List.range n).map fun (i : Nat) => sbyte s i) n := by
  intro i hi
  rw [getD_map_range hi]
  have := sbyte_le s i
  omega
theorem valS_range (s : ByteArray) (n : Nat) : 0 ≤ valS s n ∧ valS s n < 256 ^ n := val_lt (by decide) (valS_dig s n)
theorem valS_congr {s t : ByteArray} : ∀ n, (∀ i : Nat, i < n → sbyte s i = sbyte t i) → valS s n = valS t n
  | 0, _ => rfl
  | n + 1, h => by rw [valS_succ, valS_succ, valS_congr n (fun i hi => h i (by omega)), h n (by omega)]
/-- The bytes of a number's bytes. -/
theorem valS_byte (s : ByteArray) {n i : Nat} (h : i < n) : valS s n / 256 ^ i % 256 = sbyte s i := by
  have hd := digit_byte (w := 1) (a := (List.range n).map fun (i : Nat) => sbyte s i) (n := n) (j := i) (m := 0) (by
    have := valS_dig s n
    simpa using this) h (by omega)
  have e1 : (256 : Int) ^ 1 = 256 := by decide
  rw [e1, getD_map_range h] at hd
  have e2 : 1 * i + 0 = i := by omega
  rw [e2] at hd
  have hb := sbyte_le s i
  unfold valS
  rw [hd]
  simp only [Int.pow_zero, Int.ediv_one]
  omega
theorem strI_valS (s : ByteArray) (h : s.size = 32) : strI (valS s 32) = s := by
  refine str_ext (by rw [strI_size, h]) fun i hi => ?_
  rw [strI_size] at hi
  rw [strI_sbyte _ hi, valS_byte s hi]
theorem div_pow_succ (N : Int) (n : Nat) : N % 256 ^ (n + 1) = N % 256 ^ n + 256 ^ n * (N / 256 ^ n % 256) := by
  have h1 := Int.emod_add_mul_ediv N (256 ^ n)
  have h2 := Int.emod_add_mul_ediv (N / 256 ^ n) 256
  have hp : (0 : Int) < 256 ^ n := Int.pow_pos (by decide)
  have h3 := Int.emod_nonneg N (show (256 ^ n : Int) ≠ 0 by omega)
  have h4 := Int.emod_lt_of_pos N hp
  have h5 : N = (N % 256 ^ n + 256 ^ n * (N / 256 ^ n % 256)) + 256 ^ (n + 1) * (N / 256 ^ n / 256) := by
    rw [Int.pow_succ]
    generalize N / 256 ^ n % 256 = b at *
    generalize N / 256 ^ n / 256 = c at *
    generalize N / 256 ^ n = d at *
    subst h2
    generalize N % 256 ^ n = e at *
    grind
  have h6 : 0 ≤ N / 256 ^ n % 256 ∧ N / 256 ^ n % 256 ≤ 255 := by omega
  have h7 : 256 ^ n * (N / 256 ^ n % 256) ≤ 256 ^ n * 255 := Int.mul_le_mul_of_nonneg_left h6.2 (Int.le_of_lt hp)
  have h8 : 0 ≤ 256 ^ n * (N / 256 ^ n % 256) := Int.mul_nonneg (Int.le_of_lt hp) h6.1
  rw [h5, Int.add_mul_emod_self_left]
  rw [← h5]
  rw [Int.emod_eq_of_lt]
  · omega
  · rw [Int.pow_succ]; omega
theorem valS_strI' (N : Int) : ∀ n, n ≤ 32 → valS (strI N) n = N % 256 ^ n
  | 0, _ => by simp [valS, val, Int.emod_one]
  | n + 1, h => by rw [valS_succ, valS_strI' N n (by omega), strI_sbyte N (by omega), div_pow_succ]
theorem valS_strI {N : Int} (h0 : 0 ≤ N) (h : N < 256 ^ 32) : valS (strI N) 32 = N := by rw [valS_strI' N 32 (Nat.le_refl 32), Int.emod_eq_of_lt h0 h]
theorem strI_inj {M N : Int} (hM : 0 ≤ M ∧ M < 256 ^ 32) (hN : 0 ≤ N ∧ N < 256 ^ 32) : strI M = strI N ↔ M = N :=
  ⟨fun h => by rw [← valS_strI hM.1 hM.2, h, valS_strI hN.1 hN.2], fun h => by rw [h]⟩
theorem valS_append (s t : ByteArray) {n : Nat} (h : n ≤ s.size) : valS (s ++ t) n = valS s n := valS_congr n fun i hi => sbyte_append_left (by omega)
theorem valS_more (s : ByteArray) (n : Nat) : ∀ m, (∀ i : Nat, n ≤ i → i < n + m → sbyte s i = 0) → valS s (n + m) = valS s n
  | 0, _ => rfl
  | m + 1, h => by
    rw [← Nat.add_assoc, valS_succ, valS_more s n m (fun i h1 h2 => h i h1 (by omega)), h (n + m) (by omega) (by omega)]
    simp
end Go.Proofs.Ytihmhnfjdkkbgaa.RX
